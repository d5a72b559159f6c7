/-
  The document's Whole, Tells (leveeref28): contracts.
-/
import Derived.Test.YtdmcakoaakinnaaLra
import Derived.Test.YtdmcakoaakinnaaQf
namespace Go.Proofs.Ytdmcakoaakinnaa
open Go.RowKit
attribute [local go_sem] Oper.semAt_some
set_option linter.unusedVariables false
set_option linter.unusedSimpArgs false

theorem any_take_succ (f : Pr → Bool) (l : List Pr) (i : Nat) (h : i < l.length) : (l.take (i + 1)).any f = ((l.take i).any f || f (l.getD i prZ)) := by
  rw [List.take_add_one, List.getElem?_eq_getElem h, List.any_append, getD_eq l i prZ h]; simp
set_option maxRecDepth 100000 in
set_option maxHeartbeats 4000000 in
theorem rwhole_v (d : Dn) (w : World) (hm : DnL d) (hE : PrsAt w d.pa d.ps) : Calls Try.prog 58 #[.agg (dnCells d)] w fun e w' => e = .returned (.bool (wholeP d)) ∧ Below w.heap.size w w' := by
  have FIN := Lib.hid (fun (r : Bool) (hr : wholeP d = r) => show Ending.returned (.bool r) = .returned (.bool (wholeP d)) by rw [hr])
  have HE := Lib.hid hE
  have hm' : d.ps.length ≤ 9223372036854775807 := hm
  have HRi := Lib.hid (fun W (hW : Below w.heap.size w W) => rrise_v d.ps d.pa d.pc W hm' (hE.below hW))
  clear hE hm
  go_enter Try.func58, Try.ntmps58
  go_upto_region 1 with (fail)
  have hb := Blk.new w (dnCells d) 53
  have hB1 := (Below.refl w.heap.size w).alloc (Nat.le_refl _) (.cells (dnCells d) 53)
  generalize w.alloc (.cells (dnCells d) 53) = w1 at hb hB1 ⊢
  obtain ⟨nb, hnb⟩ : ∃ nb, w.heap.size = nb := ⟨_, rfl⟩
  rw [hnb] at hb
  simp only [hnb]
  have HNE := Lib.hid hnb
  have HB1 := Lib.hid hB1
  have HBk := Lib.hid hb
  clear hb hB1 hnb
  have c1 : w1.cell? ⟨nb, 1, none⟩ = some (.int .i64 d.op) := by rw [HBk.out.cell]; rfl
  have c4 : w1.cell? ⟨nb, 4, none⟩ = some (.int .i64 d.lim) := by rw [HBk.out.cell]; rfl
  have c7 : w1.cell? ⟨nb, 7, none⟩ = some (.int .i64 d.en) := by rw [HBk.out.cell]; rfl
  have c8 : w1.cell? ⟨nb, 8, none⟩ = some (.int .i64 d.code) := by rw [HBk.out.cell]; rfl
  have c10 : w1.cell? ⟨nb, 10, none⟩ = some (.slice d.pa d.ps.length d.pc) := by rw [HBk.out.cell]; rfl
  by_cases h4 : d.op = 4
  · have e4 : (d.op != 4) = false := by simp [h4]
    have H4 := Lib.hid h4
    clear h4
    cases h7 : decide (d.en < 0) with
    | true =>
      have HF := Lib.hid (FIN.out false (by unfold wholeP okP; simp [show ¬ 0 ≤ d.en by have := of_decide_eq_true h7; omega]))
      go_wp2_with (fail)
      go_ret
      exact ⟨HF.out, HB1.out⟩
    | false =>
    have H7 := Lib.hid (show 0 ≤ d.en by have := of_decide_eq_false h7; omega)
    by_cases h8 : d.code = 0
    · have e8 : (d.code != 0) = false := by simp [h8]
      have H8 := Lib.hid h8
      clear h8
      cases hl : decide (d.lim < (d.ps.length : Int)) with
      | true =>
        have HF := Lib.hid (FIN.out false (by unfold wholeP; simp [show ¬ (d.ps.length : Int) ≤ d.lim by have := of_decide_eq_true hl; omega]))
        go_wp2_with (fail)
        go_ret
        exact ⟨HF.out, HB1.out⟩
      | false =>
        have HLm := Lib.hid (show (d.ps.length : Int) ≤ d.lim by have := of_decide_eq_false hl; omega)
        have HWp := Lib.hid (show wholeP d = (riseP d.ps && !(d.ps.any (outP d))) from by unfold wholeP okP; rw [outP_any]; simp [H4.out, H7.out, H8.out, HLm.out])
        go_wp2_with (fail)
        refine (HRi.out w1 HB1.out).mono ?_
        rintro e W2 ⟨rfl, hB2⟩
        have HB2 := Lib.hid (HB1.out.trans (hB2.mono HB1.out.size))
        have HBk2 := Lib.hid (HBk.out.kept (Keeps.of_below' hB2) (fun h => h))
        clear hB2 c1 c4 c7 c8 c10 h7 hl e4 e8
        cases hr : riseP d.ps with
        | false =>
          have HF := Lib.hid (FIN.out false (by rw [HWp.out, hr]; rfl))
          clear hr
          go_wp2_with (fail)
          go_ret
          exact ⟨HF.out, HB2.out⟩
        | true =>
          have HWq := Lib.hid (show wholeP d = !(d.ps.any (outP d)) from by rw [HWp.out, hr]; rfl)
          clear hr
          go_wp2_with (fail)
          go_loopw [4] (fun iv wr => ∃ i : Nat, i ≤ d.ps.length ∧ iv = .int .i64 i ∧ Hid ((d.ps.take i).any (outP d) = false) ∧ Below W2.heap.size W2 wr) (fun iv _ => d.ps.length - (intOf iv).toNat)
          case atStart => exact ⟨0, Nat.zero_le _, rfl, Lib.hid rfl, Below.refl _ _⟩
          case round =>
            obtain ⟨i, hi, rfl, hR, hB⟩ := hrel
            have HB := Lib.hid hB
            have HBw := Lib.hid (HB2.out.trans (hB.mono HB2.out.size))
            by_cases hlt : i < d.ps.length
            · have hib : (i : Int) < (d.ps.length : Int) := by omega
              obtain ⟨g, o, hpa, hg, hc⟩ := (HE.out.below HBw.out) (by omega)
              have c1 := hc i hlt 0 (by decide)
              obtain ⟨p, hp⟩ : ∃ x, d.ps.getD i prZ = x := ⟨_, rfl⟩
              simp only [hp] at c1
              have d1 : wr.cell? ⟨g, o + i * 2, none⟩ = some (.int .u64 p.key) := c1
              have hbk := HBk2.out.kept (Keeps.of_below' hB) (fun h => h)
              have d2 : wr.cell? ⟨nb, 2, none⟩ = some (.int .u64 d.key) := by rw [hbk.cell]; rfl
              have d3 : wr.cell? ⟨nb, 3, none⟩ = some (.int .u64 d.hi) := by rw [hbk.cell]; rfl
              have HS := Lib.hid (show (d.ps.take (i + 1)).any (outP d) = outP d p from by rw [any_take_succ _ _ _ hlt, hR.out, hp]; rfl)
              have HMe := Lib.hid (show p ∈ d.ps from by rw [← hp]; exact getD_memL d.ps i prZ hlt)
              have HLt := Lib.hid hlt
              rw [hpa]
              clear hc c1 hp hbk hlt hi hB hpa
              cases h1 : decide (p.key < d.key) with
              | true =>
                have HF := Lib.hid (FIN.out false (by rw [HWq.out, List.any_eq_true.2 ⟨p, HMe.out, by unfold outP; rw [h1]; rfl⟩]; rfl))
                go_wp2_with (fail)
                go_quiet (fail)
                go_wp2_with (fail)
                go_ret
                exact ⟨HF.out, below_drewNL HBw.out _⟩
              | false =>
                cases h2 : decide (d.hi < p.key) with
                | true =>
                  have HF := Lib.hid (FIN.out false (by rw [HWq.out, List.any_eq_true.2 ⟨p, HMe.out, by unfold outP; rw [h2, Bool.or_true]⟩]; rfl))
                  go_wp2_with (fail)
                  go_quiet (fail)
                  go_wp2_with (fail)
                  go_ret
                  exact ⟨HF.out, below_drewNL HBw.out _⟩
                | false =>
                  have HS2 := Lib.hid (show (d.ps.take (i + 1)).any (outP d) = false from by rw [HS.out]; unfold outP; rw [h1, h2]; rfl)
                  go_wp2_with (fail)
                  go_quiet (fail)
                  go_wp2_with (fail)
                  go_roundw
                  case rel => exact ⟨i + 1, HLt.out, by go_num, HS2, below_drewNL HB.out _⟩
                  case measure => have := HLt.out; simp [intOf]; omega
            · have hib : ¬ (i : Int) < (d.ps.length : Int) := by omega
              have HF := Lib.hid (FIN.out true (by
                rw [HWq.out]
                have h := hR.out
                rw [List.take_of_length_le (by omega)] at h
                rw [h]; rfl))
              clear hlt hi hB
              go_wp2_with (fail)
              go_ret
              exact ⟨HF.out, HBw.out⟩
    · have HF := Lib.hid (FIN.out false (by unfold wholeP okP; simp [h8]))
      have e8 : (d.code != 0) = true := by simp [h8]
      clear h8
      go_wp2_with (fail)
      go_ret
      exact ⟨HF.out, HB1.out⟩
  · have HF := Lib.hid (FIN.out false (by unfold wholeP; simp [h4]))
    have e4 : (d.op != 4) = true := by simp [h4]
    clear h4
    go_wp2_with (fail)
    go_ret
    exact ⟨HF.out, HB1.out⟩
theorem tells_any {d : Dn} {key : Int} (hw : wholeP d = true) (h1 : d.key ≤ key) (h2 : key ≤ d.hi) (h3 : ¬ (d.ps.length : Int) < d.lim) : tellsP d key = d.ps.any (fun p => decide (key ≤ p.key)) := by
  unfold tellsP
  simp only [hw, h1, h2, h3, decide_true, decide_false, Bool.true_and, Bool.false_or]
  have hr : riseP d.ps = true := by
    unfold wholeP at hw
    simp only [Bool.and_eq_true] at hw
    exact hw.1.1.2
  rw [Bool.eq_iff_iff, Bool.and_eq_true, List.any_eq_true]
  constructor
  · rintro ⟨ha, hb⟩
    have ha := of_decide_eq_true ha
    exact ⟨_, getD_memL d.ps (d.ps.length - 1) prZ (by omega), hb⟩
  · rintro ⟨p, hp, hb⟩
    obtain ⟨i, hi, rfl⟩ := List.mem_iff_getElem.1 hp
    refine ⟨decide_eq_true (by omega), decide_eq_true ?_⟩
    have hb := of_decide_eq_true hb
    rw [← getD_eq d.ps i prZ hi] at hb
    by_cases e : i = d.ps.length - 1
    · rw [← e]; exact hb
    · have := (riseP_pair d.ps).1 hr (d.ps.length - 1) (by omega) i (by omega)
      omega
set_option maxRecDepth 100000 in
set_option maxHeartbeats 4000000 in
theorem rtells_v (d : Dn) (key : Int) (w : World) (hm : DnL d) (hE : PrsAt w d.pa d.ps) : Calls Try.prog 48 #[.agg (dnCells d), .int .u64 key] w fun e w' => e = .returned (.bool (tellsP d key)) ∧ Below w.heap.size w w' := by
  have FIN := Lib.hid (fun (r : Bool) (hr : tellsP d key = r) => show Ending.returned (.bool r) = .returned (.bool (tellsP d key)) by rw [hr])
  have HE := Lib.hid hE
  have hm' : d.ps.length ≤ 9223372036854775807 := hm
  have HWh := Lib.hid (fun W (hW : Below w.heap.size w W) => rwhole_v d W hm (hE.below hW))
  clear hE hm
  go_enter Try.func48, Try.ntmps48
  go_upto_region 1 with (fail)
  have hb := Blk.new w (dnCells d) 53
  have hB1 := (Below.refl w.heap.size w).alloc (Nat.le_refl _) (.cells (dnCells d) 53)
  generalize w.alloc (.cells (dnCells d) 53) = w1 at hb hB1 ⊢
  obtain ⟨nb, hnb⟩ : ∃ nb, w.heap.size = nb := ⟨_, rfl⟩
  rw [hnb] at hb
  simp only [hnb]
  have HNE := Lib.hid hnb
  have HB1 := Lib.hid hB1
  have HBk := Lib.hid hb
  clear hb hB1 hnb
  go_step
  refine wpList_load_dn rfl (.tmp 2) rfl nb 0 d (ev_tmp (by simp)) HBk.out.cellsAt ?_
  go_wp2_with (fail)
  refine (HWh.out w1 HB1.out).mono ?_
  rintro e W2 ⟨rfl, hB2⟩
  have hb2 := HBk.out.kept (Keeps.of_below' hB2) (fun h => h)
  have HB2 := Lib.hid (HB1.out.trans (hB2.mono HB1.out.size))
  have c2 : W2.cell? ⟨nb, 2, none⟩ = some (.int .u64 d.key) := by rw [hb2.cell]; rfl
  have c3 : W2.cell? ⟨nb, 3, none⟩ = some (.int .u64 d.hi) := by rw [hb2.cell]; rfl
  have c4 : W2.cell? ⟨nb, 4, none⟩ = some (.int .i64 d.lim) := by rw [hb2.cell]; rfl
  have c10 : W2.cell? ⟨nb, 10, none⟩ = some (.slice d.pa d.ps.length d.pc) := by rw [hb2.cell]; rfl
  clear hB2 hb2
  cases hw : wholeP d with
  | false =>
    have HF := Lib.hid (FIN.out false (by unfold tellsP; simp [hw]))
    clear hw
    go_wp2_with (fail)
    go_ret
    exact ⟨HF.out, HB2.out⟩
  | true =>
    have HWt := Lib.hid hw
    clear hw
    cases h1 : decide (key < d.key) with
    | true =>
      have HF := Lib.hid (FIN.out false (by unfold tellsP; simp [show ¬ d.key ≤ key by have := of_decide_eq_true h1; omega]))
      go_wp2_with (fail)
      go_ret
      exact ⟨HF.out, HB2.out⟩
    | false =>
    cases h2 : decide (d.hi < key) with
    | true =>
      have HF := Lib.hid (FIN.out false (by unfold tellsP; simp [show ¬ key ≤ d.hi by have := of_decide_eq_true h2; omega]))
      go_wp2_with (fail)
      go_ret
      exact ⟨HF.out, HB2.out⟩
    | false =>
    have HK1 := Lib.hid (show d.key ≤ key by have := of_decide_eq_false h1; omega)
    have HK2 := Lib.hid (show key ≤ d.hi by have := of_decide_eq_false h2; omega)
    cases h3 : decide ((d.ps.length : Int) < d.lim) with
    | true =>
      have HF := Lib.hid (FIN.out true (by unfold tellsP; simp [HWt.out, of_decide_eq_true h3, HK1.out, HK2.out]))
      go_wp2_with (fail)
      go_ret
      exact ⟨HF.out, HB2.out⟩
    | false =>
      have HT := Lib.hid (tells_any HWt.out HK1.out HK2.out (of_decide_eq_false h3))
      go_wp2_with (fail)
      clear h1 h2 h3 c2 c3 c4 c10
      go_loop [6] (fun iv => ∃ i : Nat, i ≤ d.ps.length ∧ iv = .int .i64 i ∧ Hid ((d.ps.take i).any (fun p => decide (key ≤ p.key)) = false)) (fun iv => d.ps.length - (intOf iv).toNat)
      case atStart => exact ⟨0, Nat.zero_le _, rfl, Lib.hid rfl⟩
      case round =>
        obtain ⟨i, hi, rfl, hR⟩ := hrel
        by_cases hlt : i < d.ps.length
        · have hib : (i : Int) < (d.ps.length : Int) := by omega
          obtain ⟨g, o, hpa, hg, hc⟩ := (HE.out.below HB2.out) (by omega)
          have c1 := hc i hlt 0 (by decide)
          obtain ⟨p, hp⟩ : ∃ x, d.ps.getD i prZ = x := ⟨_, rfl⟩
          simp only [hp] at c1
          have d1 : W2.cell? ⟨g, o + i * 2, none⟩ = some (.int .u64 p.key) := c1
          have HS := Lib.hid (show (d.ps.take (i + 1)).any (fun p => decide (key ≤ p.key)) = decide (key ≤ p.key) from by rw [any_take_succ _ _ _ hlt, hR.out, hp]; rfl)
          have HMe := Lib.hid (show p ∈ d.ps from by rw [← hp]; exact getD_memL d.ps i prZ hlt)
          have HLt := Lib.hid hlt
          rw [hpa]
          clear hc c1 hp hlt hi hpa
          cases h1 : decide (key ≤ p.key) with
          | true =>
            have HF := Lib.hid (FIN.out true (by rw [HT.out, List.any_eq_true.2 ⟨p, HMe.out, h1⟩]))
            go_wp2_with (fail)
            go_ret
            exact ⟨HF.out, HB2.out⟩
          | false =>
            have HS2 := Lib.hid (HS.out.trans h1)
            go_wp2_with (fail)
            go_round
            case rel => exact ⟨i + 1, HLt.out, by go_num, HS2⟩
            case measure => have := HLt.out; simp [intOf]; omega
        · have hib : ¬ (i : Int) < (d.ps.length : Int) := by omega
          have HF := Lib.hid (FIN.out false (by
            rw [HT.out]
            have h := hR.out
            rw [List.take_of_length_le (by omega)] at h
            exact h))
          clear hlt hi
          go_wp2_with (fail)
          go_ret
          exact ⟨HF.out, HB2.out⟩
end Go.Proofs.Ytdmcakoaakinnaa
