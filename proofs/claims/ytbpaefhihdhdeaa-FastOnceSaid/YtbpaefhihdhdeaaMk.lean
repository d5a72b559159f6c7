/-
  node.Make: a contract.
-/
import Derived.Test.YtbpaefhihdhdeaaNw
import Derived.Deep.DeepCutAuto
import Derived.BigRegion
import Derived.RegionTactic
namespace Go.Proofs.Ytbpaefhihdhdeaa
open Go.RowKit

def mkNd (lv lo nx fi : Int) (l : List (Int × Int)) : Nd := { lv := lv, lo := lo, nx := nx, ct := 0, fi := fi, k := eK l, p := eP l }
theorem built_mk (lv lo nx fi : Int) : Try.prog.built 27 [(0, .int .i64 lv), (1, .int .u64 lo), (2, .int .u64 nx), (4, .int .u64 fi)] = some (ndCells (mkNd lv lo nx fi [])) := by kernel_rfl
theorem built_nd0 : Try.prog.built 27 [] = some (ndCells nd0) := by kernel_rfl
/-- what Make answers -/
def MkP (n : Nd) (code : Int) (w : World) (e : Ending) (w' : World) : Prop := e = .returned (.tuple #[.agg (ndCells n), .int .i64 code]) ∧ Below w.heap.size w w'
/-- the worlds on its way: the answer's block, the node's -/
def MkW (w : World) (m : Nd) (w' : World) : Prop := Blk w' w.heap.size (ndCells nd0) 27 ∧ Blk w' (w.heap.size + 1) (ndCells m) 27 ∧ Below w.heap.size w w'
theorem MkW.keep {w w1 w2 : World} {m : Nd} (h : MkW w m w1) (hB : Below w1.heap.size w1 w2) : MkW w m w2 :=
  ⟨h.1.below hB h.1.lt, h.2.1.below hB h.2.1.lt, h.2.2.trans (hB.mono h.2.2.size)⟩
theorem MkW.start (w : World) (m : Nd) : MkW w m (((w.alloc (.cells (ndCells nd0) 27)).alloc (.cells (ndCells nd0) 27)).setRow (w.heap.size + 1) (ndCells m)) := by
  have hb1 := Blk.new w (ndCells nd0) 27
  have hb2 := Blk.new (w.alloc (.cells (ndCells nd0) 27)) (ndCells nd0) 27
  have hs1 : (w.alloc (.cells (ndCells nd0) 27)).heap.size = w.heap.size + 1 := by simp
  rw [hs1] at hb2
  exact ⟨(hb1.alloc _).rowOther _ (by omega), hb2.row _, below_setRow (((Below.refl w.heap.size w).alloc (Nat.le_refl _) (.cells (ndCells nd0) 27)).alloc (by simp) (.cells (ndCells nd0) 27)) (by omega) _⟩
def mkBad (lv lo fi : Int) (l : List (Int × Int)) : Bool := decide (lv < 0) || decide (15 < lv) || (fi == 0) || decide (8 < l.length) || !riseB lv lo fi l
/-- how First comes to be what it is -/
def fiOf (base lv first : Int) : Int := if ((first == 0) && (lv == 0)) = true then base else first
/-- the pair of a node and an error -/
def mkV (lv lo nx fi : Int) (l : List (Int × Int)) : Nd × Int := if mkBad lv lo fi l = true then (nd0, 2) else if (mkNd lv lo nx fi l).valid.length = l.length then (mkNd lv lo nx fi l, 0) else (nd0, 2)

theorem eK_take (l : List (Int × Int)) (k j : Nat) : eK (l.take k) j = if j < k then eK l j else 0 := by
  unfold eK
  by_cases h : j < k
  · rw [if_pos h]; simp [List.getD, h]
  · rw [if_neg h]; simp [List.getD, List.getElem?_take, h]
theorem eP_take (l : List (Int × Int)) (k j : Nat) : eP (l.take k) j = if j < k then eP l j else 0 := by
  unfold eP
  by_cases h : j < k
  · rw [if_pos h]; simp [List.getD, h]
  · rw [if_neg h]; simp [List.getD, List.getElem?_take, h]
theorem mkNd_next (lv lo nx fi : Int) (l : List (Int × Int)) (k : Nat) : ((mkNd lv lo nx fi (l.take k)).withK k (eK l k)).withP k (eP l k) = mkNd lv lo nx fi (l.take (k + 1)) := by
  unfold mkNd Nd.withK Nd.withP
  congr 1
  · funext j
    simp only [eK_take]
    by_cases h : j = k
    · subst h; simp
    · rw [if_neg h]; by_cases h2 : j < k <;> simp [h2, show (j < k + 1) = (j < k) from propext (by omega)]
  · funext j
    simp only [eP_take]
    by_cases h : j = k
    · subst h; simp
    · rw [if_neg h]; by_cases h2 : j < k <;> simp [h2, show (j < k + 1) = (j < k) from propext (by omega)]
theorem MkW.next {w w1 : World} {lv lo nx fi : Int} {l : List (Int × Int)} {k : Nat} (h : MkW w (mkNd lv lo nx fi (l.take k)) w1) (hk : k < 8) {ki pi : Int} (h1 : eK l k = ki) (h2 : eP l k = pi) :
    MkW w (mkNd lv lo nx fi (l.take (k + 1))) ((w1.setCell ⟨w.heap.size + 1, 5 + k, none⟩ (.int .u64 ki)).setCell ⟨w.heap.size + 1, 13 + k, none⟩ (.int .u64 pi)).drew := by
  subst h1 h2
  refine ⟨?_, ?_, ?_⟩
  · exact ((h.1.other (5 + k) _ (by omega)).other (13 + k) _ (by omega)).drew
  · have := (h.2.1.setk k hk (eK l k)).setp k hk (eP l k)
    rw [mkNd_next] at this
    exact this.drew
  · exact ((h.2.2.setCell (p := ⟨w.heap.size + 1, 5 + k, none⟩) (by simp) _).setCell (p := ⟨w.heap.size + 1, 13 + k, none⟩) (by simp) _).drew

set_option maxRecDepth 100000 in
set_option maxHeartbeats 3200000 in
theorem nmake_v (base lv lo nx first fi : Int) (l : List (Int × Int)) (a : Option Addr) (g c : Nat) (w : World) (hfi : fi = fiOf base lv first) (hn : l.length ≤ 1000000) (hc : l.length ≤ c) (ha : 0 < l.length → a = some ⟨g, 0, none⟩) (hE : EntsAt w g 0 l) :
    Calls Try.prog 24 #[.int .u64 base, .int .i64 lv, .int .u64 lo, .int .u64 nx, .int .u64 first, .slice a l.length c] w fun e w' => MkP (mkV lv lo nx fi l).1 (mkV lv lo nx fi l).2 w e w' := by
  have HE := Lib.hid hE
  have HA := Lib.hid ha
  obtain ⟨b0, hb0⟩ : ∃ b0, ((first == 0) && (lv == 0)) = b0 := ⟨_, rfl⟩
  have HFi := Lib.hid (show fi = if b0 = true then base else first by rw [hfi, ← hb0]; rfl)
  have HB0 := Lib.hid hb0
  have hb2 := Blk.new (w.alloc (.cells (ndCells nd0) 27)) (ndCells nd0) 27
  have hs1 : (w.alloc (.cells (ndCells nd0) 27)).heap.size = w.heap.size + 1 := by simp
  rw [hs1] at hb2
  have HB2 := Lib.hid hb2
  have HM0 := Lib.hid (MkW.start w (mkNd lv lo nx fi []))
  have HR := Lib.hid (show ∀ w1, Below w.heap.size w w1 → Calls Try.prog 50 #[.int .i64 lv, .int .u64 lo, .int .u64 fi, .slice a l.length c] w1 fun e W' => e = .returned (.bool (riseB lv lo fi l)) ∧ Below w1.heap.size w1 W' from fun w1 h1 => by
    by_cases hp : 0 < l.length
    · rw [ha hp]; exact nrise_pos lv lo fi l g c w1 hn hp hc (hE.below h1 (hE.lt hp))
    · have h0 : l = [] := List.eq_nil_of_length_eq_zero (by omega)
      subst h0; exact nrise_nil lv lo fi a c w1)
  clear hE ha hb0 hfi hb2 hs1
  go_enter Try.func24, Try.ntmps24
  go_upto_region 1 with (with_reducible refine wpList_alloc_nd (o := ⟨some 12, _, _, _, _, _⟩) rfl rfl ?_)
  go_cut [22] (fun s22 wx => s22 = .bool b0 ∧ wx = w.alloc (.cells (ndCells nd0) 27))
  case first =>
    cases q1 : (first == 0)
    · have HX := Lib.hid (show b0 = false by rw [← HB0.out, q1]; rfl)
      go_wp2_with (fail)
      go_meet
      exact ⟨by rw [HX.out], rfl⟩
    · cases q2 : (lv == 0)
      · have HX := Lib.hid (show b0 = false by rw [← HB0.out, q1, q2]; rfl)
        go_wp2_with (fail)
        go_meet
        exact ⟨by rw [HX.out], rfl⟩
      · have HX := Lib.hid (show b0 = true by rw [← HB0.out, q1, q2]; rfl)
        go_wp2_with (fail)
        go_meet
        exact ⟨by rw [HX.out], rfl⟩
  case rest =>
    obtain ⟨rfl, rfl⟩ := hcut
    go_upto_if 22 with (fail)
    go_cut [4] (fun s4 wx => s4 = .int .u64 fi ∧ wx = w.alloc (.cells (ndCells nd0) 27))
    case first =>
      cases b0
      · go_wp2_with (fail)
        go_meet
        exact ⟨by rw [HFi.out]; rfl, rfl⟩
      · go_wp2_with (fail)
        go_meet
        exact ⟨by rw [HFi.out]; rfl, rfl⟩
    case rest =>
      obtain ⟨rfl, rfl⟩ := hcut
      clear HFi HB0
      go_upto_region 4 with (first | (refine wpList_bld (o := ⟨some 28, .build 27 _, _, _, _, _⟩) rfl 27 _ rfl (ndCells (mkNd lv lo nx fi [])) (built_mk lv lo nx fi) ?_) | (with_reducible refine wpList_alloc_ndAt (o := ⟨some 14, _, _, _, _, _⟩) rfl rfl (w.heap.size + 1) ?hz ?_; (case hz => simp)) | (refine wpList_store_ndc (o := ⟨none, .store 27 (.tmp 14) (.tmp 28), _, _, _, _⟩) rfl (.tmp 14) (.tmp 28) ?ho (w.heap.size + 1) ?cs (mkNd lv lo nx fi []) nd0 ?hx ?hy HB2.out ?hm ?_; (case ho => rfl); (case hx => rfl); (case hy => rfl); (case hm => rfl)))
      generalize ((w.alloc (.cells (ndCells nd0) 27)).alloc (.cells (ndCells nd0) 27)).setRow (w.heap.size + 1) (ndCells (mkNd lv lo nx fi [])) = w0 at *
      go_simp
      go_cut [51] (fun s51 wx => s51 = .bool (mkBad lv lo fi l) ∧ Hid (MkW w (mkNd lv lo nx fi []) wx))
      case first =>
        cases d1 : decide (lv < 0)
        case true =>
          have HX := Lib.hid (show mkBad lv lo fi l = true by unfold mkBad; rw [d1]; simp)
          go_wp2_with (fail)
          go_meet
          exact ⟨by rw [HX.out], HM0⟩
        case false =>
        cases d2 : decide (15 < lv)
        case true =>
          have HX := Lib.hid (show mkBad lv lo fi l = true by unfold mkBad; rw [d1, d2]; simp)
          go_wp2_with (fail)
          go_meet
          exact ⟨by rw [HX.out], HM0⟩
        case false =>
        cases d3 : (fi == 0)
        case true =>
          have HX := Lib.hid (show mkBad lv lo fi l = true by unfold mkBad; rw [d1, d2, d3]; simp)
          go_wp2_with (fail)
          go_meet
          exact ⟨by rw [HX.out], HM0⟩
        case false =>
        cases d4 : decide (8 < l.length)
        case true =>
          have HX := Lib.hid (show mkBad lv lo fi l = true by unfold mkBad; rw [d1, d2, d3, d4]; simp)
          have d5 : decide ((8 : Int) < (l.length : Int)) = true := by simp at d4 ⊢; omega
          go_wp2_with (fail)
          go_meet
          exact ⟨by rw [HX.out], HM0⟩
        case false =>
          have HX := Lib.hid (show mkBad lv lo fi l = !riseB lv lo fi l by unfold mkBad; rw [d1, d2, d3, d4]; rfl)
          have d5 : decide ((8 : Int) < (l.length : Int)) = false := by simp at d4 ⊢; omega
          have HR1 := Lib.hid (HR.out w0 HM0.out.2.2)
          obtain ⟨r, hr⟩ : ∃ r, riseB lv lo fi l = r := ⟨_, rfl⟩
          rw [hr] at HX HR1
          clear hr
          go_wp2_with (go_at_call 50; refine HR1.out.mono ?_; rintro e w1 ⟨rfl, hB⟩; have HM1 := Lib.hid (HM0.out.keep hB); clear hB)
          go_meet
          exact ⟨by rw [HX.out], HM1⟩
      case rest =>
        obtain ⟨rfl, HM1⟩ := hcut
        clear HM0 HB2 HR
        obtain ⟨bad, hbad⟩ : ∃ b, mkBad lv lo fi l = b := ⟨_, rfl⟩
        have HBad := Lib.hid hbad
        rw [hbad]
        clear hbad
        cases bad
        case true =>
          have HF := Lib.hid (show mkV lv lo nx fi l = (nd0, 2) by unfold mkV; rw [if_pos HBad.out])
          go_wp2_with (refine wpList_store_ndc (o := ⟨none, .store 27 (.tmp 12) (.tmp 52), _, _, _, _⟩) rfl (.tmp 12) (.tmp 52) ?hob w.heap.size ?csb nd0 nd0 ?hxb ?hyb HM1.out.1 ?hmb ?_; (case hob => rfl); (case hxb => rfl); (case hyb => rfl); (case hmb => rfl))
          rw [HF.out]
          exact bodyPost_ret (results_nd rfl _ w.heap.size nd0 rfl (HM1.out.1.row _)) rfl ⟨rfl, below_setRow HM1.out.2.2 (Nat.le_refl _) _⟩
        case false =>
          go_wp2_with (fail)
          go_loopw [55] (fun iv wr => ∃ k : Nat, k ≤ l.length ∧ iv = .int .i64 k ∧ Hid (MkW w (mkNd lv lo nx fi (l.take k)) wr)) (fun iv _ => l.length - (intOf iv).toNat)
          case atStart => exact ⟨0, Nat.zero_le _, rfl, HM1⟩
          case round =>
            obtain ⟨k, hk, rfl, HM⟩ := hrel
            by_cases hlt : k < l.length
            · obtain rfl := HA.out (by omega)
              have hgw : g < w.heap.size := HE.out.lt (by omega)
              obtain ⟨c1, c2⟩ := HE.out.below HM.out.2.2 hgw k hlt
              obtain ⟨ki, hki⟩ : ∃ ki, eK l k = ki := ⟨_, rfl⟩
              obtain ⟨pi, hpi⟩ : ∃ pi, eP l k = pi := ⟨_, rfl⟩
              rw [hki, Nat.zero_add] at c1
              rw [hpi, Nat.zero_add] at c2
              have HKP := Lib.hid (And.intro hki hpi)
              have b1 : (k : Int) < (l.length : Int) := by omega
              have HX := Lib.hid (Blk.new wr #[.int .u64 ki, .int .u64 pi] 60)
              have HMx := Lib.hid (HM.out.keep ((Below.refl wr.heap.size wr).alloc (Nat.le_refl _) (.cells #[.int .u64 ki, .int .u64 pi] 60)))
              have hk8 : k < 8 := by
                have hb := HBad.out
                unfold mkBad at hb
                simp only [Bool.or_eq_false_iff, decide_eq_false_iff_not] at hb
                omega
              clear hki hpi hgw
              go_wp2_with (fail)
              obtain ⟨bx, hbx⟩ : ∃ b, wr.heap.size = b := ⟨_, rfl⟩
              have hne : bx ≠ w.heap.size + 1 := fun e => by
                have := HM.out.2.1.lt
                omega
              rw [hbx] at HX ⊢
              clear hbx c1 c2
              generalize wr.alloc (.cells #[.int .u64 ki, .int .u64 pi] 60) = w1 at *
              have x0 : w1.cell? ⟨bx, 0, none⟩ = some (.int .u64 ki) := by rw [HX.out.cell]; rfl
              have x1 : w1.cell? ⟨bx, 1, none⟩ = some (.int .u64 pi) := by rw [HX.out.cell]; rfl
              have n0 : w1.cell? ⟨w.heap.size + 1, 5 + k, none⟩ = some (.int .u64 ((mkNd lv lo nx fi (l.take k)).k k)) := by rw [HMx.out.2.1.cell, ndCells_k _ _ hk8]
              have n1 : w1.cell? ⟨w.heap.size + 1, 13 + k, none⟩ = some (.int .u64 ((mkNd lv lo nx fi (l.take k)).p k)) := by rw [HMx.out.2.1.cell, ndCells_p _ _ hk8]
              have f0 : w1.frozen? ⟨w.heap.size + 1, 5 + k, none⟩ = false := HMx.out.2.1.frozen _
              have f1 : w1.frozen? ⟨w.heap.size + 1, 13 + k, none⟩ = false := HMx.out.2.1.frozen _
              have hk8i : (k : Int) < 8 := by omega
              go_region
              go_wp2_with (fail)
              go_roundw
              case rel => exact ⟨k + 1, by omega, by go_num, Lib.hid (HMx.out.next hk8 HKP.out.1 HKP.out.2)⟩
              case measure => simp [intOf]; omega
            · have hkl : k = l.length := by omega
              have HM2 := Lib.hid (show MkW w (mkNd lv lo nx fi l) wr by have := HM.out; rw [hkl, List.take_length] at this; exact this)
              have HL := Lib.hid (ndLoad HM2.out.2.1)
              have HI := Lib.hid (info27 (mkNd lv lo nx fi l))
              clear hkl HM
              go_wp2_with (with_reducible refine wpList_load_part (o := ⟨some 71, _, _, _, _, _⟩) rfl 27 _ rfl (w.heap.size + 1) 0 rfl (ndCells (mkNd lv lo nx fi l)) _ HL.out Try.underlying27 rfl HI.out ?_)
              refine (valid_calls (mkNd lv lo nx fi l) _).mono ?_
              rintro e w2 ⟨v, rfl, hv, hB⟩
              obtain ⟨va, vl, vc, rfl⟩ := own_slice hv
              have hvl2 : vl = (mkNd lv lo nx fi l).valid.length := own_len hv
              have HM3 := Lib.hid (HM2.out.keep hB)
              have HL3 := Lib.hid (ndLoad HM3.out.2.1)
              have HV := Lib.hid hvl2
              clear hv hB hvl2 HL
              cases hq : decide (vl = l.length)
              case true =>
                have he : vl = l.length := by simpa using hq
                have HF := Lib.hid (show mkV lv lo nx fi l = (mkNd lv lo nx fi l, 0) by unfold mkV; rw [if_neg (by rw [HBad.out]; simp), if_pos (by rw [← HV.out, he])])
                have q1 : ((vl : Int) != (l.length : Int)) = false := by rw [he]; simp
                clear he hq
                go_wp2_with (first | (with_reducible refine wpList_load_part (o := ⟨some 78, _, _, _, _, _⟩) rfl 27 _ rfl (w.heap.size + 1) 0 rfl (ndCells (mkNd lv lo nx fi l)) _ HL3.out Try.underlying27 rfl HI.out ?_) | (refine wpList_store_ndc (o := ⟨none, .store 27 (.tmp 12) (.tmp 78), _, _, _, _⟩) rfl (.tmp 12) (.tmp 78) ?hoc w.heap.size ?csc (mkNd lv lo nx fi l) nd0 ?hxc ?hyc HM3.out.1 ?hmc ?_; (case hoc => rfl); (case hxc => rfl); (case hyc => rfl); (case hmc => rfl)))
                rw [HF.out]
                exact bodyPost_ret (results_nd rfl _ w.heap.size (mkNd lv lo nx fi l) rfl (HM3.out.1.row _)) rfl ⟨rfl, below_setRow HM3.out.2.2 (Nat.le_refl _) _⟩
              case false =>
                have he : ¬ vl = l.length := by simpa using hq
                have HF := Lib.hid (show mkV lv lo nx fi l = (nd0, 2) by unfold mkV; rw [if_neg (by rw [HBad.out]; simp), if_neg (by rw [← HV.out]; exact he)])
                have q1 : ((vl : Int) != (l.length : Int)) = true := by rw [bne, beq_eq_false_iff_ne.2 (by omega)]; rfl
                clear he hq
                go_wp2_with (refine wpList_store_ndc (o := ⟨none, .store 27 (.tmp 12) (.tmp 77), _, _, _, _⟩) rfl (.tmp 12) (.tmp 77) ?hod w.heap.size ?csd nd0 nd0 ?hxd ?hyd HM3.out.1 ?hmd ?_; (case hod => rfl); (case hxd => rfl); (case hyd => rfl); (case hmd => rfl))
                rw [HF.out]
                exact bodyPost_ret (results_nd rfl _ w.heap.size nd0 rfl (HM3.out.1.row _)) rfl ⟨rfl, below_setRow HM3.out.2.2 (Nat.le_refl _) _⟩
end Go.Proofs.Ytbpaefhihdhdeaa
