/-
  The document's May, Of (leveeref28): contracts.
-/
import Derived.Test.YtdmcakoaakinnaaLrb
import Derived.Test.YtdmcakoaakinnaaQg
namespace Go.Proofs.Ytdmcakoaakinnaa
open Go.RowKit
attribute [local go_sem] Oper.semAt_some
set_option linter.unusedVariables false
set_option linter.unusedSimpArgs false

theorem take_any_succ (f : Dn → Bool) (l : List Dn) (i : Nat) (h : i < l.length) : (l.take (i + 1)).any f = ((l.take i).any f || f (l.getD i dnZ)) := by
  rw [List.take_add_one, List.getElem?_eq_getElem h, List.any_append, getD_eq l i dnZ h]; simp
theorem take_all_succ (f : Er → Bool) (l : List Er) (i : Nat) (h : i < l.length) : (l.take (i + 1)).all f = ((l.take i).all f && f (l.getD i erZ)) := by
  rw [List.take_add_one, List.getElem?_eq_getElem h, List.all_append, getD_eq l i erZ h]; simp
set_option maxRecDepth 100000 in
set_option maxHeartbeats 4000000 in
theorem rmay_v (first : List Pr) (l : List Er) (a1 a2 : Option Addr) (cap1 cap9 : Nat) (w : World) (hm1 : first.length ≤ 9223372036854775807) (hm : l.length ≤ 9223372036854775807) (hL : ∀ e ∈ l, ErL e) (hF : PrsAt w a1 first) (hE : ErsAt w a2 l) :
    Calls Try.prog 25 #[.slice a1 first.length cap1, .slice a2 l.length cap9] w fun e w' => e = .returned (.bool (mayP first l)) ∧ Below w.heap.size w w' := by
  have FIN := Lib.hid (fun (r : Bool) (hr : mayP first l = r) => show Ending.returned (.bool r) = .returned (.bool (mayP first l)) by rw [hr])
  have HE := Lib.hid hE
  have HL := Lib.hid hL
  have HRf := Lib.hid (rrise_v first a1 cap1 w hm1 hF)
  have HMl := Lib.hid hm
  clear hE hL hF hm1
  go_enter Try.func25, Try.ntmps25
  go_wp2_with (fail)
  refine HRf.out.mono ?_
  rintro e w1 ⟨rfl, hB1⟩
  have HB1 := Lib.hid hB1
  clear hB1
  cases hr : riseP first with
  | false =>
    have HF := Lib.hid (FIN.out false (by unfold mayP; rw [hr, Bool.and_false]))
    clear hr
    go_wp2_with (fail)
    go_ret
    exact ⟨HF.out, HB1.out⟩
  | true =>
    have HR1 := Lib.hid hr
    clear hr
    go_wp2_with (fail)
    go_loopw [5] (fun iv wr => ∃ k : Nat, k ≤ l.length ∧ iv = .int .i64 k ∧ Hid ((l.take k).all mayE = true) ∧ Below w.heap.size w wr) (fun iv _ => l.length - (intOf iv).toNat)
    case atStart => exact ⟨0, Nat.zero_le _, rfl, Lib.hid rfl, HB1.out⟩
    case round =>
      obtain ⟨k, hk, rfl, hR, hB⟩ := hrel
      have HB := Lib.hid hB
      by_cases hlt : k < l.length
      · obtain ⟨g, o, ha2, hg, hc⟩ := (HE.out.below hB).at_ hlt
        subst ha2
        obtain ⟨e, he⟩ : ∃ x, l.getD k erZ = x := ⟨_, rfl⟩
        rw [he] at hc
        have d0 : wr.cell? ⟨g, o + k * 3, none⟩ = some (.slice e.ca e.cs.length e.cc) := hc 0 _ rfl
        have d1 : wr.cell? ⟨g, o + k * 3 + 1, none⟩ = some (.slice e.aa e.af.length e.ac) := hc 1 _ rfl
        have HLt := Lib.hid hlt
        have HMem := Lib.hid (show e ∈ l by rw [← he]; exact getD_memL l k erZ hlt)
        have HD := Lib.hid he
        have HErL := Lib.hid (HL.out e HMem.out)
        have HErA := Lib.hid (HE.out.2 e HMem.out)
        have hem : e.cs.length ≤ 9223372036854775807 := HErL.out.1
        have HRa := Lib.hid (rrise_v e.af e.aa e.ac wr HErL.out.2.1 (HErA.out.2.below HB.out))
        have hkb : (k : Int) < (l.length : Int) := by omega
        have HEr := Lib.hid (fun W (hW : Below w.heap.size w W) => show W.cell? ⟨g, o + k * 3, none⟩ = some (.slice e.ca e.cs.length e.cc) from by
          obtain ⟨g', o', e1, _, hc'⟩ := (HE.out.below hW).at_ HLt.out
          cases e1
          rw [HD.out] at hc'
          exact hc' 0 _ rfl)
        clear hc he hB hlt hk
        go_wp2_with (fail)
        refine HRa.out.mono ?_
        rintro e2 w2 ⟨rfl, hB2⟩
        have HB2 := Lib.hid (HB.out.trans (hB2.mono HB.out.size))
        clear hB2 d0 d1
        cases hr : riseP e.af with
        | false =>
          have HF := Lib.hid (FIN.out false (by
            unfold mayP
            rw [Bool.and_eq_false_iff]
            refine .inl (Bool.eq_false_iff.2 (fun h => ?_))
            have h := List.all_eq_true.1 h e HMem.out
            simp only [Bool.and_eq_true, Bool.not_eq_true'] at h
            rw [hr] at h; exact absurd h.2 (by simp)))
          clear hr
          go_wp2_with (fail)
          go_ret
          exact ⟨HF.out, HB2.out⟩
        | true =>
          have HRe := Lib.hid hr
          clear hr
          go_wp2_with (fail)
          go_loopw [6] (fun iv wz => ∃ j : Nat, j ≤ e.cs.length ∧ iv = .int .i64 j ∧ Hid ((e.cs.take j).any oddP = false) ∧ Below w.heap.size w wz) (fun iv _ => e.cs.length - (intOf iv).toNat)
          case atStart => exact ⟨0, Nat.zero_le _, rfl, Lib.hid rfl, HB2.out⟩
          case round =>
            obtain ⟨j, hj, rfl, hO, hB⟩ := hrel
            have HB3 := Lib.hid hB
            have d0 : wr.cell? ⟨g, o + k * 3, none⟩ = some (.slice e.ca e.cs.length e.cc) := HEr.out _ hB
            by_cases hjt : j < e.cs.length
            · obtain ⟨g2, o2, hca, hg2, hc2⟩ := (HErA.out.1.below hB).at_ hjt
              obtain ⟨d, hd⟩ : ∃ x, e.cs.getD j dnZ = x := ⟨_, rfl⟩
              rw [hd] at hc2
              rw [hca] at d0
              have HCl := Lib.hid hc2
              have HJt := Lib.hid hjt
              have HMd := Lib.hid (show d ∈ e.cs by rw [← hd]; exact getD_memL e.cs j dnZ hjt)
              have HS := Lib.hid (show (e.cs.take (j + 1)).any oddP = oddP d from by rw [take_any_succ _ _ _ hjt, hO.out, hd]; rfl)
              have hB4 := hB.alloc hB.size (.cells (dnCells d) 53)
              have HB4 := Lib.hid hB4
              have hjb : (j : Int) < (e.cs.length : Int) := by omega
              clear hc2 hd hB hB4 hjt hj hca
              go_upto_region 11 with (fail)
              go_step
              refine wpList_plain rfl (fun K hK => ?_)
              go_simp
              refine hK _ _ ?_
              clear hK K
              refine wpList_plain rfl (fun K hK => ?_)
              go_simp
              refine hK _ _ ?_
              clear hK K
              refine wpList_plain rfl (fun K hK => ?_)
              go_simp
              refine hK _ _ ?_
              clear hK K
              refine wpList_plain rfl (fun K hK => ?_)
              go_simp
              refine hK _ _ ?_
              clear hK K
              refine wpList_plain rfl (fun K hK => ?_)
              go_simp
              refine hK _ _ ?_
              clear hK K
              refine wpList_plain rfl (fun K hK => ?_)
              go_simp
              refine hK _ _ ?_
              clear hK K
              refine wpList_idx_dn rfl rfl (.tmp 38) (.tmp 39) 40 rfl rfl rfl g2 o2 e.cs.length e.cc j d (ev_tmp (by first | (simp [Act.put]; done) | rfl)) (ev_tmp (by first | (simp [Act.put]; done) | rfl)) HJt.out (by simp [Act.put]) HCl.out ?_
              refine wpList_anew_dn rfl rfl 7 (.tmp 41) rfl rfl rfl d (ev_tmp (by first | (simp [Act.put]; done) | rfl)) (by simp [Act.put]) ?_
              have hb := Blk.new wr (dnCells d) 53
              generalize wr.alloc (.cells (dnCells d) 53) = W1 at HB4 hb ⊢
              generalize wr.heap.size = nb at hb ⊢
              have c6 : W1.cell? ⟨nb, 6, none⟩ = some (.int .i64 d.bg) := by rw [hb.cell]; rfl
              have c7 : W1.cell? ⟨nb, 7, none⟩ = some (.int .i64 d.en) := by rw [hb.cell]; rfl
              clear hb d0
              cases ho : oddP d with
              | true =>
                have HF := Lib.hid (FIN.out false (by
                  unfold mayP
                  rw [Bool.and_eq_false_iff]
                  refine .inl (Bool.eq_false_iff.2 (fun h => ?_))
                  have h := List.all_eq_true.1 h e HMem.out
                  simp only [Bool.and_eq_true, Bool.not_eq_true'] at h
                  have h1 := List.any_eq_true.2 ⟨d, HMd.out, ho⟩; rw [h1] at h; exact absurd h.1 (by simp)))
                cases h0 : decide (d.bg < 0) with
                | true =>
                  go_wp2_with (fail)
                  go_ret
                  exact ⟨HF.out, HB4.out⟩
                | false =>
                  have h1 : decide (0 ≤ d.en) = true := by unfold oddP at ho; rw [h0, Bool.false_or, Bool.and_eq_true] at ho; exact ho.1
                  have h2 : decide (d.en ≤ d.bg) = true := by unfold oddP at ho; rw [h0, Bool.false_or, Bool.and_eq_true] at ho; exact ho.2
                  clear ho
                  go_wp2_with (fail)
                  go_ret
                  exact ⟨HF.out, HB4.out⟩
              | false =>
                have HS2 := Lib.hid (HS.out.trans ho)
                have h0 : decide (d.bg < 0) = false := by unfold oddP at ho; rw [Bool.or_eq_false_iff] at ho; exact ho.1
                have h3 : (decide (0 ≤ d.en) && decide (d.en ≤ d.bg)) = false := by unfold oddP at ho; rw [Bool.or_eq_false_iff] at ho; exact ho.2
                clear ho
                cases h1 : decide (0 ≤ d.en) with
                | false =>
                  clear h3
                  go_wp2_with (fail)
                  go_roundw
                  case rel => exact ⟨j + 1, HJt.out, by go_num, HS2, HB4.out⟩
                  case measure => have := HJt.out; simp [intOf]; omega
                | true =>
                  rw [h1, Bool.true_and] at h3
                  go_wp2_with (fail)
                  go_roundw
                  case rel => exact ⟨j + 1, HJt.out, by go_num, HS2, HB4.out⟩
                  case measure => have := HJt.out; simp [intOf]; omega
            · have hjb : ¬ (j : Int) < (e.cs.length : Int) := by omega
              have HO := Lib.hid (show e.cs.any oddP = false from by
                have h := hO.out
                rwa [List.take_of_length_le (by omega)] at h)
              clear hB hjt hj
              go_wp2_with (fail)
              go_roundw
              case rel => exact ⟨k + 1, HLt.out, by go_num, Lib.hid (by rw [take_all_succ _ _ _ HLt.out, hR.out, HD.out]; unfold mayE; rw [HO.out, HRe.out]; rfl), HB3.out⟩
              case measure => have := HLt.out; simp [intOf]; omega
      · have hkb : ¬ (k : Int) < (l.length : Int) := by omega
        have HF := Lib.hid (FIN.out true (by
          have h := hR.out
          rw [List.take_of_length_le (by omega)] at h
          unfold mayP
          rw [HR1.out, Bool.and_true]
          exact h))
        clear hB hlt hk
        go_wp2_with (fail)
        go_ret
        exact ⟨HF.out, HB.out⟩

/-- a key's call that stands for itself, as a chain of tests -/
theorem ownP_no1 {d : Dn} {key : Int} (h : (d.key != key) = true) : ownP d key = false := by unfold ownP; simp [bne_iff_ne.1 h]
theorem ownP_no2 {d : Dn} {key : Int} (h : decide (d.op < 1) = true) : ownP d key = false := by
  have := of_decide_eq_true h
  unfold ownP; simp [show d.op ≠ 1 by omega, show d.op ≠ 3 by omega, show d.op ≠ 2 by omega]
theorem ownP_no3 {d : Dn} {key : Int} (h : decide (3 < d.op) = true) : ownP d key = false := by
  have := of_decide_eq_true h
  unfold ownP; simp [show d.op ≠ 1 by omega, show d.op ≠ 3 by omega, show d.op ≠ 2 by omega]
theorem ownP_eq {d : Dn} {key : Int} (h1 : (d.key != key) = false) (h2 : decide (d.op < 1) = false) (h3 : decide (3 < d.op) = false) :
    ownP d key = if decide (d.en < 0) = true then (d.op != 2) else (d.code == 0 || d.code == 5) := by
  have h1 : d.key = key := by simpa using h1
  have h2 := of_decide_eq_false h2
  have h3 := of_decide_eq_false h3
  unfold ownP
  by_cases he : d.en < 0
  · have h4 : ¬ 0 ≤ d.en := by omega
    simp only [h1, he, h4, decide_true, decide_false, Bool.false_and, Bool.not_false, Bool.true_and, Bool.and_false, Bool.or_false, if_true]
    rw [Bool.eq_iff_iff]
    simp
    omega
  · have h4 : 0 ≤ d.en := by omega
    simp only [h1, he, h4, decide_true, decide_false, Bool.true_and, Bool.and_true]
    rw [Bool.eq_iff_iff]
    simp
    omega
set_option maxRecDepth 100000 in
set_option maxHeartbeats 8000000 in
theorem rof_v (key : Int) (e : Er) (w : World) (hL : ErL e) (hn : e.cs.length ≤ 1000000) (hE : DnsAt w e.ca e.cs) : Calls Try.prog 26 #[.int .u64 key, .agg (erCells e)] w (OfQ key e.cs w) := by
  have hB0 : Below w.heap.size w (w.alloc (.cells (erCells e) 46)) := (Below.refl w.heap.size w).alloc (Nat.le_refl _) _
  have HLe := Lib.hid (And.intro hL.1 hn)
  have HEL := Lib.hid (And.intro hE hL.2.2)
  clear hE hL hn
  go_enter Try.func26, Try.ntmps26
  go_upto_region 1 with (fail)
  have hb0 := Blk.new w (erCells e) 46
  generalize w.alloc (.cells (erCells e) 46) = w0 at hB0 hb0 ⊢
  obtain ⟨ne, hne⟩ : ∃ ne, w.heap.size = ne := ⟨_, rfl⟩
  rw [hne] at hb0
  simp only [hne]
  have HNe := Lib.hid hne
  have HB0 := Lib.hid hB0
  have HBe := Lib.hid hb0
  have HNeL := Lib.hid hb0.lt
  have HE := Lib.hid (HEL.out.1.below hB0)
  have HTe := Lib.hid (fun d (hd : d ∈ e.cs) W (hW : Below w0.heap.size w0 W) => rtells_v d key W (HEL.out.2 d hd) ((HE.out.2 d hd).below hW))
  have HVa := Lib.hid (fun d (hd : d ∈ e.cs) W (hW : Below w0.heap.size w0 W) => rvalue_v d.ps key d.pa d.pc W (HEL.out.2 d hd) ((HE.out.2 d hd).below hW))
  clear hB0 hb0 hne
  go_wp2_with (fail)
  go_loopw [5, 6] (fun vo iv wr => ∃ k : Nat, k ≤ e.cs.length ∧ iv = .int .i64 k ∧ wr.ownsRow w0.heap.size 53 11 vo (ofP key (e.cs.take k)).length (dcells (ofP key (e.cs.take k))) ∧ Below w0.heap.size w0 wr) (fun _ iv _ => e.cs.length - (intOf iv).toNat)
  case atStart => exact ⟨0, Nat.zero_le _, rfl, World.ownsRow_nil _ _ _ _, Below.refl _ _⟩
  case round =>
    obtain ⟨k, hk, rfl, hO, hB⟩ := hrel
    have HB := Lib.hid hB
    obtain ⟨ao, no, co, rfl⟩ := own_slice hO
    have HLn := Lib.hid (show (ofP key (e.cs.take k)).length ≤ 1000000000 from by have := ofP_len key (e.cs.take k); have := HLe.out.2; rw [List.length_take] at *; omega)
    have d0 : wr.cell? ⟨ne, 0, none⟩ = some (.slice e.ca e.cs.length e.cc) := by rw [(HBe.out.kept (Keeps.of_below' hB) (fun h => h)).cell]; rfl
    by_cases hlt : k < e.cs.length
    · obtain ⟨g, o, hca, hg, hc⟩ := (HE.out.below hB).at_ hlt
      obtain ⟨d, hd⟩ : ∃ x, e.cs.getD k dnZ = x := ⟨_, rfl⟩
      rw [hd] at hc
      rw [hca] at d0
      have HCl := Lib.hid hc
      have HLt := Lib.hid hlt
      have HD := Lib.hid hd
      have HMem := Lib.hid (show d ∈ e.cs by rw [← hd]; exact getD_memL e.cs k dnZ hlt)
      have hB1 := hB.alloc hB.size (.cells (dnCells d) 53)
      have hO1 : (wr.alloc (.cells (dnCells d) 53)).ownsRow w0.heap.size 53 11 (.slice ao no co) (ofP key (e.cs.take k)).length (dcells (ofP key (e.cs.take k))) := own_keeps hO ((Keeps.refl (fun _ => False) wr).alloc _) (fun _ _ h => h)
      have HB1 := Lib.hid hB1
      have HO1 := Lib.hid hO1
      have hkb : (k : Int) < (e.cs.length : Int) := by omega
      have hk6 : (k : Int) ≤ 1000000 := by have := HLe.out.2; omega
      clear hc hd hB hB1 hlt hk hO hO1
      go_upto_region 5 with (fail)
      go_step
      refine wpList_plain rfl (fun K hK => ?_)
      go_simp
      refine hK _ _ ?_
      clear hK K
      refine wpList_plain rfl (fun K hK => ?_)
      go_simp
      refine hK _ _ ?_
      clear hK K
      refine wpList_plain rfl (fun K hK => ?_)
      go_simp
      refine hK _ _ ?_
      clear hK K
      refine wpList_idx_dn rfl rfl (.tmp 19) (.tmp 20) 21 rfl rfl rfl g o e.cs.length e.cc k d (ev_tmp (by first | (simp [Act.put]; done) | rfl)) (ev_tmp (by first | (simp [Act.put]; done) | rfl)) HLt.out (by first | (simp [Act.put]; done) | rfl) HCl.out ?_
      refine wpList_anew_dn rfl rfl 7 (.tmp 22) rfl rfl rfl d (ev_tmp (by first | (simp [Act.put]; done) | rfl)) (by first | (simp [Act.put]; done) | rfl) ?_
      clear d0
      have hb := Blk.new wr (dnCells d) 53
      have HNew := Lib.hid (show w0.heap.size ≤ wr.heap.size from HB.out.size)
      generalize wr.alloc (.cells (dnCells d) 53) = W1 at HB1 hb HO1 ⊢
      generalize wr.heap.size = nb at hb HNew ⊢
      have HBk := Lib.hid hb
      clear hb
      go_upto_region 6 with (fail)
      go_step
      refine wpList_load_dn rfl (.tmp 7) rfl nb 0 d (ev_tmp (by first | (simp [Act.put]; done) | rfl)) HBk.out.cellsAt ?_
      go_wp2_with (fail)
      refine (HTe.out d HMem.out W1 HB1.out).mono ?_
      rintro e2 W2 ⟨rfl, hB2⟩
      have hb2 := HBk.out.kept (Keeps.of_below' hB2) (fun h => h)
      have HB5 := Lib.hid (HB1.out.trans (hB2.mono HB1.out.size))
      have HO5 := Lib.hid (own_keeps HO1.out (Keeps.of_below' hB2) (fun _ _ h => h))
      have HBk5 := Lib.hid hb2
      clear hB2 hb2
      cases ht : tellsP d key with
      | true =>
        have HT := Lib.hid ht
        have c10 : W2.cell? ⟨nb, 10, none⟩ = some (.slice d.pa d.ps.length d.pc) := by rw [HBk5.out.cell]; rfl
        have c0 : W2.cell? ⟨nb, 0, none⟩ = some (.int .i64 d.cl) := by rw [HBk5.out.cell]; rfl
        have c6 : W2.cell? ⟨nb, 6, none⟩ = some (.int .i64 d.bg) := by rw [HBk5.out.cell]; rfl
        have c7 : W2.cell? ⟨nb, 7, none⟩ = some (.int .i64 d.en) := by rw [HBk5.out.cell]; rfl
        obtain ⟨vv, hvv⟩ : ∃ vv, (valueP d.ps key).1 = vv := ⟨_, rfl⟩
        obtain ⟨vb, hvb⟩ : ∃ vb, (valueP d.ps key).2 = vb := ⟨_, rfl⟩
        have HVd := Lib.hid (HVa.out d HMem.out W2 HB5.out)
        rw [hvv, hvb] at HVd
        have HG := Lib.hid (show getP d key = ⟨d.cl, 2, key, 0, 0, ⟨#[]⟩, d.bg, d.en, if vb = true then 0 else 5, vv, none, 0, []⟩ from by unfold getP; rw [hvv, hvb])
        clear ht hvv hvb
        go_wp2_with (fail)
        refine HVd.out.mono ?_
        rintro e3 w3 ⟨rfl, rfl⟩
        go_upto_region 8 with (fail)
        go_step
        refine wpList_plain rfl (fun K hK => ?_)
        go_simp
        refine hK _ _ ?_
        clear hK K
        refine wpList_plain rfl (fun K hK => ?_)
        go_simp
        refine hK _ _ ?_
        clear hK K
        refine wpList_plain rfl (fun K hK => ?_)
        go_simp
        refine hK _ _ ?_
        clear hK K
        refine wpList_plain rfl (fun K hK => ?_)
        go_simp
        refine hK _ _ ?_
        clear hK K
        refine wpList_plain rfl (fun K hK => ?_)
        go_simp
        refine hK _ _ ?_
        clear hK K
        refine wpList_plain rfl (fun K hK => ?_)
        go_simp
        refine hK _ _ ?_
        clear hK K
        refine wpList_plain rfl (fun K hK => ?_)
        go_simp
        refine hK _ _ ?_
        clear hK K
        refine wpList_plain rfl (fun K hK => ?_)
        go_simp
        refine hK _ _ ?_
        clear hK K
        refine wpList_plain rfl (fun K hK => ?_)
        go_simp
        refine hK _ _ ?_
        clear hK K
        refine wpList_anew_dn rfl rfl 10 (.tmp 42) rfl rfl rfl ⟨d.cl, 2, key, 0, 0, ⟨#[]⟩, d.bg, d.en, 0, ⟨#[]⟩, none, 0, []⟩ (ev_tmp (by first | (simp [Act.put, dnCells]; done) | rfl)) (by first | (simp [Act.put]; done) | rfl) ?_
        have hb := Blk.new W2 (dnCells ⟨d.cl, 2, key, 0, 0, ⟨#[]⟩, d.bg, d.en, 0, ⟨#[]⟩, none, 0, []⟩) 53
        have hB6 := HB5.out.alloc HB5.out.size (.cells (dnCells ⟨d.cl, 2, key, 0, 0, ⟨#[]⟩, d.bg, d.en, 0, ⟨#[]⟩, none, 0, []⟩) 53)
        have hO6 := own_keeps HO5.out ((Keeps.refl (fun _ => False) W2).alloc (.cells (dnCells ⟨d.cl, 2, key, 0, 0, ⟨#[]⟩, d.bg, d.en, 0, ⟨#[]⟩, none, 0, []⟩) 53)) (fun _ _ h => h)
        have HOl := Lib.hid (fun i hi => own_ltS HO5.out (i := i) hi)
        have HNx := Lib.hid HB5.out.size
        generalize W2.alloc (.cells (dnCells ⟨d.cl, 2, key, 0, 0, ⟨#[]⟩, d.bg, d.en, 0, ⟨#[]⟩, none, 0, []⟩) 53) = W3 at hb hB6 hO6 ⊢
        generalize W2.heap.size = nx at hb HOl HNx ⊢
        have HB6 := Lib.hid hB6
        have HO6 := Lib.hid hO6
        have HBx := Lib.hid hb
        have f8 := hb.frozen 8
        have f9 := hb.frozen 9
        have x8 : W3.cell? ⟨nx, 8, none⟩ = some (.int .i64 0) := by rw [hb.cell]; rfl
        have x9 : W3.cell? ⟨nx, 9, none⟩ = some (.string ⟨#[]⟩) := by rw [hb.cell]; rfl
        clear hb hB6 hO6 c10 c0 c6 c7
        cases vb with
        | true =>
          go_upto_region 12 with (fail)
          have hk7 : Keeps (fun k => k = nx) W3 (W3.setCell ⟨nx, 9, none⟩ (.string vv)) := (Keeps.refl (fun k => k = nx) W3).setCell (p := ⟨nx, 9, none⟩) (.inl rfl) _
          have hb7 : Blk (W3.setCell ⟨nx, 9, none⟩ (.string vv)) nx (dnCells ⟨d.cl, 2, key, 0, 0, ⟨#[]⟩, d.bg, d.en, 0, vv, none, 0, []⟩) 53 := HBx.out.set 9 (.string vv)
          have hB7 := below_keeps HB6.out (Nat.le_refl _) hk7 (fun i hi => by rw [hi]; exact HNx.out)
          have hO7 := own_keeps HO6.out hk7 (fun i hi he => by have h1 := HOl.out i hi; rw [he] at h1; omega)
          generalize (W3.setCell ⟨nx, 9, none⟩ (.string vv)) = W7 at hb7 hB7 hO7 hk7 ⊢
          have HB7 := Lib.hid hB7
          have HO7 := Lib.hid hO7
          have HBy := Lib.hid hb7
          have HEq := Lib.hid (show ofP key (e.cs.take (k + 1)) = ofP key (e.cs.take k) ++ [⟨d.cl, 2, key, 0, 0, ⟨#[]⟩, d.bg, d.en, 0, vv, none, 0, []⟩] from by rw [ofP_step key e.cs k HLt.out, HD.out, ofP_tells HT.out, HG.out]; rfl)
          clear hb7 hB7 hO7 hk7 f8 f9 x8 x9
          go_step
          refine wpList_plain rfl (fun K hK => ?_)
          go_simp
          refine hK _ _ ?_
          clear hK K
          refine wpList_load_dn rfl (.tmp 10) rfl nx 0 ⟨d.cl, 2, key, 0, 0, ⟨#[]⟩, d.bg, d.en, 0, vv, none, 0, []⟩ (ev_tmp (by first | (simp [Act.put]; done) | rfl)) HBy.out.cellsAt ?_
          refine wpList_push_dn rfl rfl (.tmp 51) (.tmp 50) 52 rfl rfl rfl ⟨d.cl, 2, key, 0, 0, ⟨#[]⟩, d.bg, d.en, 0, vv, none, 0, []⟩ (ev_tmp (by first | (simp [Act.put]; done) | rfl)) (.slice ao no co) _ w0.heap.size (ev_tmp (by first | (simp [Act.put]; done) | rfl)) HO7.out (by first | (simp [Act.put]; done) | rfl) HLn.out HB7.out.size ?_
          intro v8 w8 hO8 hK8
          have HO8 := Lib.hid hO8
          have HB8 := Lib.hid (below_keeps HB7.out (Nat.le_refl _) hK8 (fun i hi => own_base HO7.out i hi))
          clear hO8 hK8
          go_wp2_with (fail)
          go_roundw
          case rel => exact ⟨k + 1, HLt.out, by go_num, by rw [HEq.out]; exact HO8.out, HB8.out⟩
          case measure => have := HLt.out; simp [intOf]; omega
        | false =>
          go_upto_region 12 with (fail)
          have hk7 : Keeps (fun k => k = nx) W3 ((W3.setCell ⟨nx, 9, none⟩ (.string vv)).setCell ⟨nx, 8, none⟩ (.int .i64 5)) := ((Keeps.refl (fun k => k = nx) W3).setCell (p := ⟨nx, 9, none⟩) (.inl rfl) _).setCell (p := ⟨nx, 8, none⟩) (.inl rfl) _
          have hb7 : Blk ((W3.setCell ⟨nx, 9, none⟩ (.string vv)).setCell ⟨nx, 8, none⟩ (.int .i64 5)) nx (dnCells ⟨d.cl, 2, key, 0, 0, ⟨#[]⟩, d.bg, d.en, 5, vv, none, 0, []⟩) 53 := (HBx.out.set 9 (.string vv)).set 8 (.int .i64 5)
          have hB7 := below_keeps HB6.out (Nat.le_refl _) hk7 (fun i hi => by rw [hi]; exact HNx.out)
          have hO7 := own_keeps HO6.out hk7 (fun i hi he => by have h1 := HOl.out i hi; rw [he] at h1; omega)
          generalize ((W3.setCell ⟨nx, 9, none⟩ (.string vv)).setCell ⟨nx, 8, none⟩ (.int .i64 5)) = W7 at hb7 hB7 hO7 hk7 ⊢
          have HB7 := Lib.hid hB7
          have HO7 := Lib.hid hO7
          have HBy := Lib.hid hb7
          have HEq := Lib.hid (show ofP key (e.cs.take (k + 1)) = ofP key (e.cs.take k) ++ [⟨d.cl, 2, key, 0, 0, ⟨#[]⟩, d.bg, d.en, 5, vv, none, 0, []⟩] from by rw [ofP_step key e.cs k HLt.out, HD.out, ofP_tells HT.out, HG.out]; rfl)
          clear hb7 hB7 hO7 hk7 f8 f9 x8 x9
          go_step
          refine wpList_plain rfl (fun K hK => ?_)
          go_simp
          refine hK _ _ ?_
          clear hK K
          refine wpList_load_dn rfl (.tmp 10) rfl nx 0 ⟨d.cl, 2, key, 0, 0, ⟨#[]⟩, d.bg, d.en, 5, vv, none, 0, []⟩ (ev_tmp (by first | (simp [Act.put]; done) | rfl)) HBy.out.cellsAt ?_
          refine wpList_push_dn rfl rfl (.tmp 51) (.tmp 50) 52 rfl rfl rfl ⟨d.cl, 2, key, 0, 0, ⟨#[]⟩, d.bg, d.en, 5, vv, none, 0, []⟩ (ev_tmp (by first | (simp [Act.put]; done) | rfl)) (.slice ao no co) _ w0.heap.size (ev_tmp (by first | (simp [Act.put]; done) | rfl)) HO7.out (by first | (simp [Act.put]; done) | rfl) HLn.out HB7.out.size ?_
          intro v8 w8 hO8 hK8
          have HO8 := Lib.hid hO8
          have HB8 := Lib.hid (below_keeps HB7.out (Nat.le_refl _) hK8 (fun i hi => own_base HO7.out i hi))
          clear hO8 hK8
          go_wp2_with (fail)
          go_roundw
          case rel => exact ⟨k + 1, HLt.out, by go_num, by rw [HEq.out]; exact HO8.out, HB8.out⟩
          case measure => have := HLt.out; simp [intOf]; omega
      | false =>
        have HT := Lib.hid ht
        have c1 : W2.cell? ⟨nb, 1, none⟩ = some (.int .i64 d.op) := by rw [HBk5.out.cell]; rfl
        have c2 : W2.cell? ⟨nb, 2, none⟩ = some (.int .u64 d.key) := by rw [HBk5.out.cell]; rfl
        have c7 : W2.cell? ⟨nb, 7, none⟩ = some (.int .i64 d.en) := by rw [HBk5.out.cell]; rfl
        have c8 : W2.cell? ⟨nb, 8, none⟩ = some (.int .i64 d.code) := by rw [HBk5.out.cell]; rfl
        clear ht
        cases h1 : (d.key != key) with
        | true =>
          have HW := Lib.hid (ownP_no1 h1)
          go_wp2_with (fail)
          go_roundw
          case rel => exact ⟨k + 1, HLt.out, by go_num, by rw [ofP_step key e.cs k HLt.out, HD.out, ofP_none HT.out HW.out, List.append_nil]; exact HO5.out, HB5.out⟩
          case measure => have := HLt.out; simp [intOf]; omega
        | false =>
        cases h2 : decide (d.op < 1) with
        | true =>
          have HW := Lib.hid (ownP_no2 (key := key) h2)
          go_wp2_with (fail)
          go_roundw
          case rel => exact ⟨k + 1, HLt.out, by go_num, by rw [ofP_step key e.cs k HLt.out, HD.out, ofP_none HT.out HW.out, List.append_nil]; exact HO5.out, HB5.out⟩
          case measure => have := HLt.out; simp [intOf]; omega
        | false =>
        cases h3 : decide (3 < d.op) with
        | true =>
          have HW := Lib.hid (ownP_no3 (key := key) h3)
          go_wp2_with (fail)
          go_roundw
          case rel => exact ⟨k + 1, HLt.out, by go_num, by rw [ofP_step key e.cs k HLt.out, HD.out, ofP_none HT.out HW.out, List.append_nil]; exact HO5.out, HB5.out⟩
          case measure => have := HLt.out; simp [intOf]; omega
        | false =>
        have HQ := Lib.hid (ownP_eq h1 h2 h3)
        cases h4 : decide (d.en < 0) with
        | true =>
          have h4n : decide (0 ≤ d.en) = false := decide_eq_false (by have := of_decide_eq_true h4; omega)
          cases h5 : (d.op != 2) with
          | true =>
            have HW := Lib.hid (show ownP d key = true from by rw [HQ.out, h4, h5]; rfl)
            go_upto_region 15 with (fail)
            go_step
            refine wpList_plain rfl (fun K hK => ?_)
            go_simp
            refine hK _ _ ?_
            clear hK K
            refine wpList_load_dn rfl (.tmp 7) rfl nb 0 d (ev_tmp (by first | (simp [Act.put]; done) | rfl)) HBk5.out.cellsAt ?_
            refine wpList_push_dn rfl rfl (.tmp 98) (.tmp 97) 99 rfl rfl rfl d (ev_tmp (by first | (simp [Act.put]; done) | rfl)) (.slice ao no co) _ w0.heap.size (ev_tmp (by first | (simp [Act.put]; done) | rfl)) HO5.out (by first | (simp [Act.put]; done) | rfl) HLn.out HB5.out.size ?_
            intro v6 w6 hO6 hK6
            have HO6 := Lib.hid hO6
            have HB6 := Lib.hid (below_keeps HB5.out (Nat.le_refl _) hK6 (fun i hi => own_base HO5.out i hi))
            have HEq := Lib.hid (show ofP key (e.cs.take (k + 1)) = ofP key (e.cs.take k) ++ [d] from by rw [ofP_step key e.cs k HLt.out, HD.out, ofP_own HT.out HW.out])
            have HK6 := Lib.hid hK6
            clear hO6 hK6
            go_wp2_with (fail)
            go_roundw
            case rel => exact ⟨k + 1, HLt.out, by go_num, by rw [HEq.out]; exact HO6.out, HB6.out⟩
            case measure => have := HLt.out; simp [intOf]; omega
          | false =>
            have HW := Lib.hid (show ownP d key = false from by rw [HQ.out, h4, h5]; rfl)
            go_wp2_with (fail)
            go_roundw
            case rel => exact ⟨k + 1, HLt.out, by go_num, by rw [ofP_step key e.cs k HLt.out, HD.out, ofP_none HT.out HW.out, List.append_nil]; exact HO5.out, HB5.out⟩
            case measure => have := HLt.out; simp [intOf]; omega
        | false =>
          have h4n : decide (0 ≤ d.en) = true := decide_eq_true (by have := of_decide_eq_false h4; omega)
          cases h5 : (d.code == 0) with
          | true =>
            have HW := Lib.hid (show ownP d key = true from by rw [HQ.out, h4, h5]; rfl)
            go_upto_region 15 with (fail)
            go_step
            refine wpList_plain rfl (fun K hK => ?_)
            go_simp
            refine hK _ _ ?_
            clear hK K
            refine wpList_load_dn rfl (.tmp 7) rfl nb 0 d (ev_tmp (by first | (simp [Act.put]; done) | rfl)) HBk5.out.cellsAt ?_
            refine wpList_push_dn rfl rfl (.tmp 98) (.tmp 97) 99 rfl rfl rfl d (ev_tmp (by first | (simp [Act.put]; done) | rfl)) (.slice ao no co) _ w0.heap.size (ev_tmp (by first | (simp [Act.put]; done) | rfl)) HO5.out (by first | (simp [Act.put]; done) | rfl) HLn.out HB5.out.size ?_
            intro v6 w6 hO6 hK6
            have HO6 := Lib.hid hO6
            have HB6 := Lib.hid (below_keeps HB5.out (Nat.le_refl _) hK6 (fun i hi => own_base HO5.out i hi))
            have HEq := Lib.hid (show ofP key (e.cs.take (k + 1)) = ofP key (e.cs.take k) ++ [d] from by rw [ofP_step key e.cs k HLt.out, HD.out, ofP_own HT.out HW.out])
            have HK6 := Lib.hid hK6
            clear hO6 hK6
            go_wp2_with (fail)
            go_roundw
            case rel => exact ⟨k + 1, HLt.out, by go_num, by rw [HEq.out]; exact HO6.out, HB6.out⟩
            case measure => have := HLt.out; simp [intOf]; omega
          | false =>
            cases h6 : (d.code == 5) with
            | true =>
              have HW := Lib.hid (show ownP d key = true from by rw [HQ.out, h4, h5, h6]; rfl)
              go_upto_region 15 with (fail)
              go_step
              refine wpList_plain rfl (fun K hK => ?_)
              go_simp
              refine hK _ _ ?_
              clear hK K
              refine wpList_load_dn rfl (.tmp 7) rfl nb 0 d (ev_tmp (by first | (simp [Act.put]; done) | rfl)) HBk5.out.cellsAt ?_
              refine wpList_push_dn rfl rfl (.tmp 98) (.tmp 97) 99 rfl rfl rfl d (ev_tmp (by first | (simp [Act.put]; done) | rfl)) (.slice ao no co) _ w0.heap.size (ev_tmp (by first | (simp [Act.put]; done) | rfl)) HO5.out (by first | (simp [Act.put]; done) | rfl) HLn.out HB5.out.size ?_
              intro v6 w6 hO6 hK6
              have HO6 := Lib.hid hO6
              have HB6 := Lib.hid (below_keeps HB5.out (Nat.le_refl _) hK6 (fun i hi => own_base HO5.out i hi))
              have HEq := Lib.hid (show ofP key (e.cs.take (k + 1)) = ofP key (e.cs.take k) ++ [d] from by rw [ofP_step key e.cs k HLt.out, HD.out, ofP_own HT.out HW.out])
              have HK6 := Lib.hid hK6
              clear hO6 hK6
              go_wp2_with (fail)
              go_roundw
              case rel => exact ⟨k + 1, HLt.out, by go_num, by rw [HEq.out]; exact HO6.out, HB6.out⟩
              case measure => have := HLt.out; simp [intOf]; omega
            | false =>
              have HW := Lib.hid (show ownP d key = false from by rw [HQ.out, h4, h5, h6]; rfl)
              go_wp2_with (fail)
              go_roundw
              case rel => exact ⟨k + 1, HLt.out, by go_num, by rw [ofP_step key e.cs k HLt.out, HD.out, ofP_none HT.out HW.out, List.append_nil]; exact HO5.out, HB5.out⟩
              case measure => have := HLt.out; simp [intOf]; omega
    · obtain rfl : k = e.cs.length := by omega
      have hO' : wr.ownsRow w0.heap.size 53 11 (.slice ao no co) (ofP key e.cs).length (dcells (ofP key e.cs)) := by have h := hO; rwa [List.take_length] at h
      have HO' := Lib.hid hO'
      clear hO hO' hB hlt hk
      go_wp2_with (fail)
      go_ret
      exact ⟨_, rfl, own_mono HO'.out HB0.out.size, HB0.out.trans (HB.out.mono HB0.out.size)⟩
end Go.Proofs.Ytdmcakoaakinnaa
