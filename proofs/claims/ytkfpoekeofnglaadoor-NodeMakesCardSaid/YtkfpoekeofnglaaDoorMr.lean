/-
  The document's Make: a contract.
-/
import Derived.Test.YtkfpoekeofnglaaDoorMp
import Derived.Deep.DeepCutAuto
namespace Go.Proofs.YtkfpoekeofnglaaDoor
open Go.RowKit
set_option linter.unusedVariables false

/-- a new block with a node in it -/
def newN (w : World) (m : Nd) : World := (w.alloc (.cells (ndCells nd0) 27)).setRow w.heap.size (ndCells m)
theorem newN_blk (w : World) (m : Nd) : Blk (newN w m) w.heap.size (ndCells m) 27 := (Blk.new w (ndCells nd0) 27).row _
theorem newN_below (w : World) (m : Nd) : Below w.heap.size w (newN w m) := below_setRow ((Below.refl w.heap.size w).alloc (Nat.le_refl _) _) (Nat.le_refl _) _
def ahd (fi : Int) (l : List (Int × Int)) (k : Nat) : Int := match k with | 0 => fi | j + 1 => eP l j
theorem badP_eq (fi : Int) (l : List (Int × Int)) (k : Nat) : badP fi l k = ((eP l k == 0) || (eP l k == ahd fi l k)) := rfl
structure MkR (w : World) (g : Nat) (m : Nd) (w' : World) : Prop where
  z : Blk w' w.heap.size (ndCells nd0) 27
  n : Blk w' g (ndCells m) 27
  b : Below w.heap.size w w'
  lt : w.heap.size < g
theorem MkR.next {w w1 : World} {b : Nat} {lv lo nx fi : Int} {l : List (Int × Int)} {k : Nat} (h : MkR w b (mkNd lv lo nx fi (l.take k)) w1) (hk : k < 8) {ki pi : Int} (h1 : eK l k = ki) (h2 : eP l k = pi) :
    MkR w b (mkNd lv lo nx fi (l.take (k + 1))) ((w1.setCell ⟨b, 5 + k, none⟩ (.int .u64 ki)).setCell ⟨b, 13 + k, none⟩ (.int .u64 pi)) := by
  subst h1 h2
  have hlt := h.lt
  refine ⟨(h.z.other (5 + k) _ (by omega)).other (13 + k) _ (by omega), ?_, (h.b.setCell (p := ⟨b, 5 + k, none⟩) (by simp; omega) _).setCell (p := ⟨b, 13 + k, none⟩) (by simp; omega) _, hlt⟩
  have := (h.n.setk k hk (eK l k)).setp k hk (eP l k)
  rwa [mkNd_next] at this

set_option maxRecDepth 100000 in
set_option maxHeartbeats 3200000 in
theorem rmake_v (base lv lo nx first fi : Int) (l : List (Int × Int)) (a : Option Addr) (g o c : Nat) (w : World) (hfi : fi = fiOf base lv first) (hn : l.length ≤ 1000000) (ha : 0 < l.length → a = some ⟨g, o, none⟩) (hE : EntsAt w g o l) :
    Calls Tryd.prog 18 #[.int .u64 base, .int .i64 lv, .int .u64 lo, .int .u64 nx, .int .u64 first, .slice a l.length c] w fun e w' => MkP (mkV lv lo nx fi l).1 (mkV lv lo nx fi l).2 w e w' := by
  have HE := Lib.hid hE
  have HA := Lib.hid ha
  obtain ⟨b0, hb0⟩ : ∃ b0, ((lv == 0) && (first == 0)) = b0 := ⟨_, rfl⟩
  have HFi := Lib.hid (show fi = if b0 = true then base else first by rw [hfi, ← hb0, Bool.and_comm]; rfl)
  have HB0 := Lib.hid hb0
  have hb2 := Blk.new (w.alloc (.cells (ndCells nd0) 27)) (ndCells nd0) 27
  have hs1 : (w.alloc (.cells (ndCells nd0) 27)).heap.size = w.heap.size + 1 := by simp
  rw [hs1] at hb2
  have HB2 := Lib.hid hb2
  have HM0 := Lib.hid (MkW.start w (mkNd lv lo nx fi []))
  have HBk := Lib.hid (Blk.new w (ndCells nd0) 27)
  have HBe := Lib.hid ((Below.refl w.heap.size w).alloc (Nat.le_refl _) (.cells (ndCells nd0) 27))
  have HR := Lib.hid (show ∀ w1, Below w.heap.size w w1 → Calls Tryd.prog 35 #[.int .i64 lv, .int .u64 lo, .int .u64 fi, .slice a l.length c] w1 fun e W' => e = .returned (.bool (riseB lv lo fi l)) ∧ Below w1.heap.size w1 W' from fun w1 h1 => by
    by_cases hp : 0 < l.length
    · rw [ha hp]; exact rrise_pos lv lo fi l g o c w1 hn hp (hE.below h1 (hE.lt hp))
    · have h0 : l = [] := List.eq_nil_of_length_eq_zero (by omega)
      subst h0; exact rrise_nil lv lo fi a c w1)
  clear hE ha hb0 hfi hb2 hs1
  go_enter Tryd.func18, Tryd.ntmps18
  go_upto_region 1 with (with_reducible refine wpList_alloc_nd (o := ⟨some 12, _, _, _, _, _⟩) rfl rfl ?_)
  go_cut [22] (fun s22 wx => s22 = .bool b0 ∧ wx = w.alloc (.cells (ndCells nd0) 27))
  case first =>
    cases q1 : (lv == 0)
    · have HX := Lib.hid (show b0 = false by rw [← HB0.out, q1]; rfl)
      go_wp2_with (fail)
      go_meet
      exact ⟨by rw [HX.out], rfl⟩
    · cases q2 : (first == 0)
      · have HX := Lib.hid (show b0 = false by rw [← HB0.out, q1, q2]; rfl)
        go_wp2_with (fail)
        go_meet
        exact ⟨by rw [HX.out], rfl⟩
      · have HX := Lib.hid (show b0 = true by rw [← HB0.out, q1, q2]; rfl)
        go_wp2_with (fail)
        go_meet
        exact ⟨by rw [HX.out], rfl⟩
  case rest =>
    obtain ⟨rfl, rfl⟩ := hcut
    go_upto_if 22 with (fail)
    go_cut [4] (fun s4 wx => s4 = .int .u64 fi ∧ wx = w.alloc (.cells (ndCells nd0) 27))
    case first =>
      cases b0
      · go_wp2_with (fail)
        go_meet
        exact ⟨by rw [HFi.out]; rfl, rfl⟩
      · go_wp2_with (fail)
        go_meet
        exact ⟨by rw [HFi.out]; rfl, rfl⟩
    case rest =>
      obtain ⟨rfl, rfl⟩ := hcut
      clear HFi HB0
      go_upto_region 3 with (fail)
      go_cut [46] (fun s46 wx => s46 = .bool (mkBad lv lo fi l) ∧ Hid (Blk wx w.heap.size (ndCells nd0) 27 ∧ Below w.heap.size w wx))
      case first =>
        have HM0 := Lib.hid (And.intro HBk.out HBe.out)
        cases d1 : decide (lv < 0)
        case true =>
          have HX := Lib.hid (show mkBad lv lo fi l = true by unfold mkBad; rw [d1]; simp)
          go_wp2_with (fail)
          go_meet
          exact ⟨by rw [HX.out], HM0⟩
        case false =>
        cases d2 : decide (15 < lv)
        case true =>
          have HX := Lib.hid (show mkBad lv lo fi l = true by unfold mkBad; rw [d1, d2]; simp)
          go_wp2_with (fail)
          go_meet
          exact ⟨by rw [HX.out], HM0⟩
        case false =>
        cases d3 : (fi == 0)
        case true =>
          have HX := Lib.hid (show mkBad lv lo fi l = true by unfold mkBad; rw [d1, d2, d3]; simp)
          go_wp2_with (fail)
          go_meet
          exact ⟨by rw [HX.out], HM0⟩
        case false =>
        cases d4 : decide (8 < l.length)
        case true =>
          have HX := Lib.hid (show mkBad lv lo fi l = true by unfold mkBad; rw [d1, d2, d3, d4]; simp)
          have d5 : decide ((8 : Int) < (l.length : Int)) = true := by simp at d4 ⊢; omega
          go_wp2_with (fail)
          go_meet
          exact ⟨by rw [HX.out], HM0⟩
        case false =>
          have HX := Lib.hid (show mkBad lv lo fi l = !riseB lv lo fi l by unfold mkBad; rw [d1, d2, d3, d4]; rfl)
          have d5 : decide ((8 : Int) < (l.length : Int)) = false := by simp at d4 ⊢; omega
          have HR1 := Lib.hid (HR.out _ HM0.out.2)
          obtain ⟨r, hr⟩ : ∃ r, riseB lv lo fi l = r := ⟨_, rfl⟩
          rw [hr] at HX HR1
          clear hr
          go_wp2_with (go_at_call 35; refine HR1.out.mono ?_; rintro e w1 ⟨rfl, hB⟩; have HM1 := Lib.hid (And.intro (HM0.out.1.below hB HM0.out.1.lt) (HM0.out.2.trans (hB.mono HM0.out.2.size))); clear hB)
          go_meet
          exact ⟨by rw [HX.out], HM1⟩
      case rest =>
        obtain ⟨rfl, HM1⟩ := hcut
        clear HM0 HB2 HR HBk HBe
        obtain ⟨bad, hbad⟩ : ∃ b, mkBad lv lo fi l = b := ⟨_, rfl⟩
        have HBad := Lib.hid hbad
        rw [hbad]
        clear hbad
        cases bad
        case true =>
          have HF := Lib.hid (show mkV lv lo nx fi l = (nd0, 2) by unfold mkV; rw [if_pos HBad.out])
          go_wp2_with (refine wpList_store_ndc (o := ⟨none, .store 27 (.tmp 12) (.tmp 47), _, _, _, _⟩) rfl (.tmp 12) (.tmp 47) ?hob w.heap.size ?csb nd0 nd0 ?hxb ?hyb HM1.out.1 ?hmb ?_; (case hob => rfl); (case hxb => rfl); (case hyb => rfl); (case hmb => rfl))
          rw [HF.out]
          exact bodyPost_ret (results_nd rfl _ w.heap.size nd0 rfl (HM1.out.1.row _)) rfl ⟨rfl, below_setRow HM1.out.2 (Nat.le_refl _) _⟩
        case false =>
          go_upto_region 5 with (fail)
          have HBn := Lib.hid (Blk.new wc (ndCells nd0) 27)
          have HM := Lib.hid (show MkR w wc.heap.size (mkNd lv lo nx fi (l.take 0)) ((wc.alloc (.cells (ndCells nd0) 27)).setRow wc.heap.size (ndCells (mkNd lv lo nx fi []))) from ⟨HM1.out.1.below (newN_below _ _) HM1.out.1.lt, newN_blk _ _, HM1.out.2.trans ((newN_below _ _).mono HM1.out.2.size), HM1.out.1.lt⟩)
          go_upto_region 6 with (first | ((with_reducible refine wpList_bld (o := ⟨some 52, .build 27 _, _, _, _, _⟩) ?hgd 27 _ ?hob0 (ndCells (mkNd lv lo nx fi [])) ?hbb ?_); (case hgd => rfl); (case hob0 => rfl); (case hbb => exact built_mk lv lo nx fi)) | (with_reducible refine wpList_alloc_nd (o := ⟨some 14, _, _, _, _, _⟩) rfl rfl ?_) | ((with_reducible refine wpList_store_ndc (o := ⟨none, .store 27 (.tmp 14) (.tmp 52), _, _, _, _⟩) ?hgd2 (.tmp 14) (.tmp 52) ?ho wc.heap.size ?cs (mkNd lv lo nx fi []) nd0 ?hx ?hy HBn.out ?hm ?_); (case hgd2 => rfl); (case ho => rfl); (case hx => rfl); (case hy => rfl); (case hm => rfl)))
          obtain ⟨b2, hb2⟩ : ∃ x, wc.heap.size = x := ⟨_, rfl⟩
          rw [hb2] at HM ⊢
          clear hb2 HM1 HBn
          generalize (wc.alloc (.cells (ndCells nd0) 27)).setRow b2 (ndCells (mkNd lv lo nx fi [])) = w0 at *
          go_simp
          go_wp2_with (fail)
          go_loopw [15, 16] (fun av iv wr => ∃ k : Nat, k ≤ l.length ∧ iv = .int .i64 k ∧ av = .int .u64 (ahd fi l k) ∧ Hid (∀ i, i < k → badP fi l i = false) ∧ Hid (MkR w b2 (mkNd lv lo nx fi (l.take k)) wr)) (fun _ iv _ => l.length - (intOf iv).toNat)
          case atStart => exact ⟨0, Nat.zero_le _, rfl, rfl, Lib.hid (fun i hi => by omega), HM⟩
          case round =>
            obtain ⟨k, hk, rfl, rfl, HN, HMr⟩ := hrel
            clear HM
            by_cases hlt : k < l.length
            · obtain rfl := HA.out (by omega)
              have hgw : g < w.heap.size := HE.out.lt (by omega)
              obtain ⟨c1, c2⟩ := HE.out.below HMr.out.b hgw k hlt
              obtain ⟨ki, hki⟩ : ∃ ki, eK l k = ki := ⟨_, rfl⟩
              obtain ⟨pi, hpi⟩ : ∃ pi, eP l k = pi := ⟨_, rfl⟩
              obtain ⟨ah, hah⟩ : ∃ x, ahd fi l k = x := ⟨_, rfl⟩
              have HBq := Lib.hid (show badP fi l k = ((pi == 0) || (pi == ah)) by rw [badP_eq, hpi, hah])
              rw [hki] at c1
              rw [hpi] at c2
              rw [hah]
              have HKP := Lib.hid (And.intro hki hpi)
              have b1 : (k : Int) < (l.length : Int) := by omega
              have hk8 : k < 8 := by
                have hb := HBad.out
                unfold mkBad at hb
                simp only [Bool.or_eq_false_iff, decide_eq_false_iff_not] at hb
                omega
              have hne : g ≠ b2 := fun e => by have := HMr.out.lt; omega
              have n0 : wr.cell? ⟨b2, 5 + k, none⟩ = some (.int .u64 ((mkNd lv lo nx fi (l.take k)).k k)) := by rw [HMr.out.n.cell, ndCells_k _ _ hk8]
              have n1 : wr.cell? ⟨b2, 13 + k, none⟩ = some (.int .u64 ((mkNd lv lo nx fi (l.take k)).p k)) := by rw [HMr.out.n.cell, ndCells_p _ _ hk8]
              have f0 : wr.frozen? ⟨b2, 5 + k, none⟩ = false := HMr.out.n.frozen _
              have f1 : wr.frozen? ⟨b2, 13 + k, none⟩ = false := HMr.out.n.frozen _
              have hk8i : (k : Int) < 8 := by omega
              have HNo := Lib.hid (fun (h : ((pi == 0) || (pi == ah)) = true) => show mkV lv lo nx fi l = (nd0, 2) from mkV_no HBad.out hlt (HBq.out.trans h))
              clear hki hpi hah hgw
              cases q1 : (pi == 0)
              case true =>
                have HF := Lib.hid (HNo.out (by rw [q1]; rfl))
                go_upto_region 11 with (fail)
                go_wp2_with ((with_reducible refine wpList_store_ndc (o := ⟨none, .store 27 (.tmp 12) (.tmp 75), _, _, _, _⟩) ?hgc (.tmp 12) (.tmp 75) ?hoc w.heap.size ?csc nd0 nd0 ?hxc ?hyc HMr.out.z ?hmc ?_); (case hgc => rfl); (case hoc => rfl); (case hxc => rfl); (case hyc => rfl); (case hmc => rfl))
                rw [HF.out]
                exact bodyPost_ret (results_nd rfl _ w.heap.size nd0 rfl (HMr.out.z.row _)) rfl ⟨rfl, below_setRow HMr.out.b (Nat.le_refl _) _⟩
              case false =>
              cases q2 : (pi == ah)
              case true =>
                have HF := Lib.hid (HNo.out (by rw [q1, q2]; rfl))
                go_upto_region 11 with (fail)
                go_wp2_with ((with_reducible refine wpList_store_ndc (o := ⟨none, .store 27 (.tmp 12) (.tmp 75), _, _, _, _⟩) ?hgd (.tmp 12) (.tmp 75) ?hod w.heap.size ?csd nd0 nd0 ?hxd ?hyd HMr.out.z ?hmd ?_); (case hgd => rfl); (case hod => rfl); (case hxd => rfl); (case hyd => rfl); (case hmd => rfl))
                rw [HF.out]
                exact bodyPost_ret (results_nd rfl _ w.heap.size nd0 rfl (HMr.out.z.row _)) rfl ⟨rfl, below_setRow HMr.out.b (Nat.le_refl _) _⟩
              case false =>
                have HNx := Lib.hid (show ∀ i, i < k + 1 → badP fi l i = false from fun i hi => by
                  rcases Nat.lt_succ_iff_lt_or_eq.1 hi with h | h
                  · exact HN.out i h
                  · rw [h, HBq.out, q1, q2]; rfl)
                have HAh := Lib.hid (show Value.int .u64 pi = .int .u64 (ahd fi l (k + 1)) by rw [← HKP.out.2]; rfl)
                go_wp2_with (fail)
                go_roundw
                case rel => exact ⟨k + 1, by omega, by go_num, HAh.out, HNx, Lib.hid (HMr.out.next hk8 HKP.out.1 HKP.out.2)⟩
                case measure => simp [intOf]; omega
            · have hkl : k = l.length := by omega
              have HM2 := Lib.hid (show MkR w b2 (mkNd lv lo nx fi l) wr by have := HMr.out; rw [hkl, List.take_length] at this; exact this)
              have HL := Lib.hid (ndLoad HM2.out.n)
              have HI := Lib.hid (info27 (mkNd lv lo nx fi l))
              have HF := Lib.hid (show mkV lv lo nx fi l = (mkNd lv lo nx fi l, 0) from mkV_yes HBad.out (fun i hi => HN.out i (by omega)))
              have b1 : ¬ (k : Int) < (l.length : Int) := by omega
              clear hkl HMr
              go_upto_region 15 with (fail)
              go_wp2_with (first | (with_reducible refine wpList_load_part (o := ⟨some 97, _, _, _, _, _⟩) rfl 27 _ rfl b2 0 rfl (ndCells (mkNd lv lo nx fi l)) _ HL.out Tryd.underlying27 rfl HI.out ?_) | ((with_reducible refine wpList_store_ndc (o := ⟨none, .store 27 (.tmp 12) (.tmp 97), _, _, _, _⟩) ?hge (.tmp 12) (.tmp 97) ?hoe w.heap.size ?cse (mkNd lv lo nx fi l) nd0 ?hxe ?hye HM2.out.z ?hme ?_); (case hge => rfl); (case hoe => rfl); (case hxe => rfl); (case hye => rfl); (case hme => rfl)))
              rw [HF.out]
              exact bodyPost_ret (results_nd rfl _ w.heap.size (mkNd lv lo nx fi l) rfl (HM2.out.z.row _)) rfl ⟨rfl, below_setRow HM2.out.b (Nat.le_refl _) _⟩
end Go.Proofs.YtkfpoekeofnglaaDoor
