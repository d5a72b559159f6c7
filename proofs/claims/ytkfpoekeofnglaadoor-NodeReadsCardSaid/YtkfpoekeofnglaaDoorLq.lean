/-
  The law NodeReads.
-/
import Derived.Test.YtkfpoekeofnglaaDoorRo
import Derived.Test.YtkfpoekeofnglaaDoorLw
namespace Go.Proofs.YtkfpoekeofnglaaDoor
open Go.RowKit

theorem and15 (x : Int) : ∃ j : Nat, j ≤ 15 ∧ bits BinOp.and .i64 x 15 = (j : Int) := by
  refine ⟨(BitVec.ofInt 64 x &&& BitVec.ofInt 64 15).toNat, ?_, ?_⟩
  · rw [BitVec.toNat_and]
    exact Nat.and_le_right
  · show IntKind.i64.wrap ((BitVec.ofInt 64 x &&& BitVec.ofInt 64 15).toNat : Int) = _
    have : (BitVec.ofInt 64 x &&& BitVec.ofInt 64 15).toNat ≤ 15 := by
      rw [BitVec.toNat_and]
      exact Nat.and_le_right
    exact IntWalk.i64_in _ (by omega)
def WfW (f : Nat → Int) : Prop := ∀ i, i < 24 → (Lit.int .u64 (f i)).wf = true
/-- the words with a node's first word -/
def fTag (f : Nat → Int) (j : Nat) : Nat → Int := wset f 0 (tagM + (j : Int))
def fEnd (f : Nat → Int) (j : Nat) : Nat → Int := wset (wset (wset (fTag f j) 5 0) 6 0) 7 0
theorem ofV_tag (f : Nat → Int) (j : Nat) (hj : j ≤ 15) : ofV (fTag f j) = (nTo (fTag f j) 8, 0) := by
  have h0 : fTag f j 0 = tagM + (j : Int) := rfl
  unfold ofV ofBad
  rw [h0, decide_eq_false (by omega : ¬ tagM + (j : Int) < tagM), decide_eq_false (by omega : ¬ tagM + 15 < tagM + (j : Int))]
  rfl
theorem nTo_wf (f : Nat → Int) (j : Nat) (hj : j ≤ 15) (hw : WfW f) : (nTo (fTag f j) 8).Wf := by
  have hu : ∀ i, i < 24 → i ≠ 0 → (Lit.int .u64 (fTag f j i)).wf = true := fun i hi h0 => by
    unfold fTag wset; rw [if_neg h0]; exact hw i hi
  have hl : (nTo (fTag f j) 8).lv = (j : Int) := by show tagM + (j : Int) - tagM = j; omega
  refine ⟨?_, hu 1 (by omega) (by omega), hu 2 (by omega) (by omega), hu 3 (by omega) (by omega), hu 4 (by omega) (by omega), fun i hi => ?_, fun i hi => ?_⟩
  · rw [hl]; exact WalkArith.wf_i64 (by omega)
  · show (Lit.int .u64 (if i < 8 then fTag f j (8 + 2 * i) else 0)).wf = true
    rw [if_pos hi]; exact hu _ (by omega) (by omega)
  · show (Lit.int .u64 (if i < 8 then fTag f j (9 + 2 * i) else 0)).wf = true
    rw [if_pos hi]; exact hu _ (by omega) (by omega)
theorem words_back (f : Nat → Int) (j : Nat) (hj : j ≤ 15) : wdCells (wordsF (nTo (fTag f j) 8)) = wdCells (fEnd f j) := by
  have hl : (nTo (fTag f j) 8).lv = (j : Int) := by show tagM + (j : Int) - tagM = j; omega
  unfold wordsF
  rw [hl, if_neg (by omega)]
  refine wdCells_congr (fun i hi => ?_)
  unfold wTo
  rw [if_pos (by omega)]
  unfold fullW
  by_cases h0 : i = 0
  · subst h0; rw [if_pos rfl, hl]; rfl
  rw [if_neg h0]
  by_cases h1 : i = 1
  · subst h1; rfl
  rw [if_neg h1]
  by_cases h2 : i = 2
  · subst h2; rfl
  rw [if_neg h2]
  by_cases h3 : i = 3
  · subst h3; rfl
  rw [if_neg h3]
  by_cases h4 : i = 4
  · subst h4; rfl
  rw [if_neg h4]
  by_cases h8 : i < 8
  · rw [if_pos h8]
    have : i = 5 ∨ i = 6 ∨ i = 7 := by omega
    rcases this with rfl | rfl | rfl <;> rfl
  rw [if_neg h8]
  have he : fEnd f j i = fTag f j i := by unfold fEnd wset; rw [if_neg (by omega), if_neg (by omega), if_neg (by omega)]
  rw [he]
  by_cases hp : i % 2 = 0
  · rw [if_pos hp]
    show (if (i - 8) / 2 < 8 then fTag f j (8 + 2 * ((i - 8) / 2)) else 0) = _
    rw [if_pos (by omega), show 8 + 2 * ((i - 8) / 2) = i by omega]
  · rw [if_neg hp]
    show (if (i - 9) / 2 < 8 then fTag f j (9 + 2 * ((i - 9) / 2)) else 0) = _
    rw [if_pos (by omega), show 9 + 2 * ((i - 9) / 2) = i by omega]

open Go.Deep in
theorem open_words {H : Type} {enc : TypeId × Value → H} {W : World} {v : Value} {d : DataW H} {p : List MemPlace} (h : DataW.Trod enc Tryd.prog W 0 (fun _ => true) true 49 v d p) : ∃ f : Nat → Int, v = .agg (wdCells f) ∧ WfW f := by
  obtain ⟨fuel, hf⟩ := h
  obtain ⟨xs, m, _, _, hlen, hl, hx⟩ := DataW.trod_array Tryd.underlying49 hf
  have h24 : Tryd.prog.cellsOf 49 = 24 := by kernel_rfl
  have h1 : Tryd.prog.cellsOf 22 = 1 := by kernel_rfl
  rw [h24] at hlen
  have each : ∀ i, i < 24 → ∃ a, v.cells.toList[i]? = some (.int .u64 a) ∧ (Lit.int .u64 a).wf = true := by
    intro i hi
    have h2 := hx i hi
    rw [h1, Nat.mul_one] at h2
    have := trod_int_at (l := v.cells.toList) (off := i) (y := xs[i]?) Tryd.underlying22 h1 (by
      have : i < xs.length := by omega
      rw [List.getElem?_eq_getElem this]; simp) (by rw [h1]; exact h2)
    exact this
  obtain ⟨f, hfi⟩ := choose_lt each
  refine ⟨f, ?_, fun i hi => (hfi i hi).2⟩
  have hc : v.cells = wdCells f := by
    apply Array.ext_getElem?
    intro i
    rcases Nat.lt_or_ge i 24 with hi | hi
    · rw [wdCells_get f i hi, ← (hfi i hi).1, Array.getElem?_toList]
    · have e1 : v.cells.size = 24 := by simpa using hlen
      rw [Array.getElem?_eq_none (by omega), Array.getElem?_eq_none (by rw [wdCells_size]; exact hi)]
  cases v with
  | agg cs => exact congrArg Value.agg hc
  | _ => exact absurd (congrArg Array.size hc) (by rw [wdCells_size]; simp [Value.cells])

set_option maxRecDepth 100000 in
set_option maxHeartbeats 6400000 in
theorem reads_law (f : Nat → Int) (hw : WfW f) (level : Int) (w : World) (ht : Tens w) :
    Calls Tryd.prog 8 #[.agg (wdCells f), .int .i64 level] w fun e W' => e = .returned (.bool true) ∧ Below w.heap.size w W' := by
  obtain ⟨j, hj, hlv⟩ := and15 level
  have hf0 := u64_bounds (hw 0 (by omega))
  obtain ⟨n0, hn0⟩ : ∃ n, (ofV f).1 = n := ⟨_, rfl⟩
  obtain ⟨c0, hc0⟩ : ∃ c, (ofV f).2 = c := ⟨_, rfl⟩
  have HOf := Lib.hid (fun w => show Calls Tryd.prog 28 #[.agg (wdCells f)] w fun e w' => MkP n0 c0 w e w' by have := of_v f hf0 w; rw [hn0, hc0] at this; exact this)
  have HRf := Lib.hid (fun w => show Calls Tryd.prog 30 #[.agg (wdCells f)] w fun e w' => MkP n0 c0 w e w' by have := rof_v f hf0 w; rw [hn0, hc0] at this; exact this)
  obtain ⟨m, hm⟩ : ∃ m, nTo (fTag f j) 8 = m := ⟨_, rfl⟩
  obtain ⟨f1, hf1⟩ : ∃ g, fTag f j = g := ⟨_, rfl⟩
  obtain ⟨g, hg⟩ : ∃ g, fEnd f j = g := ⟨_, rfl⟩
  have hb1 : 0 ≤ f1 0 ∧ f1 0 ≤ 18446744073709551615 := by
    rw [← hf1]
    have : fTag f j 0 = tagM + (j : Int) := rfl
    rw [this]; unfold tagM; omega
  have hv1 : ofV f1 = (m, 0) := by rw [← hf1, ← hm]; exact ofV_tag f j hj
  have HO1 := Lib.hid (fun w => show Calls Tryd.prog 28 #[.agg (wdCells f1)] w fun e w' => MkP m 0 w e w' by have := of_v f1 hb1 w; rw [hv1] at this; exact this)
  have HR1 := Lib.hid (fun w => show Calls Tryd.prog 30 #[.agg (wdCells f1)] w fun e w' => MkP m 0 w e w' by have := rof_v f1 hb1 w; rw [hv1] at this; exact this)
  have HWd := Lib.hid (fun w => show Calls Tryd.prog 27 #[.agg (ndCells m)] w fun e w' => e = .returned (.agg (wdCells g)) ∧ Below w.heap.size w w' by
    have := words_v (nTo (fTag f j) 8) (nTo_wf f j hj hw) w
    rw [words_back f j hj, hm, hg] at this
    exact this)
  have HEQ := Lib.hid (fun w => eq_nd m w)
  have HE0 := Lib.hid (fun w => eq_nd n0 w)
  have HEW := Lib.hid (fun w => eq_wd g w)
  have HT := Lib.hid ht
  have HIf := Lib.hid (infoWd f)
  have HI1 := Lib.hid (infoWd f1)
  have HIn := Lib.hid (info27 n0)
  have HF1 := Lib.hid hf1
  have HG := Lib.hid (show wset (wset (wset f1 5 0) 6 0) 7 0 = g by rw [← hf1, ← hg]; rfl)
  have hk0 : Blk (w.alloc (.cells (wdCells f) 49)) w.heap.size (wdCells f) 49 := Blk.new w _ _
  have HK0 := Lib.hid hk0
  have HL0 := Lib.hid (wdLoad hk0)
  have HB0 := Lib.hid ((Below.refl w.heap.size w).alloc (Nat.le_refl _) (.cells (wdCells f) 49))
  clear hf0 hn0 hc0 hm hf1 hg hb1 hv1 ht hk0 hw
  go_enter Tryd.func8, Tryd.ntmps8
  go_wp2_with (with_reducible refine wpList_load_part (o := ⟨some 10, _, _, _, _, _⟩) rfl 49 _ rfl w.heap.size 0 rfl (wdCells f) _ HL0.out Tryd.underlying49 rfl HIf.out ?_)
  refine (HOf.out _).mono ?_
  rintro e w1 ⟨rfl, hB⟩
  have hk1 := HK0.out.below hB HK0.out.lt
  have hB1 := HB0.out.trans (hB.mono HB0.out.size)
  go_upto_region 2 with (first | (with_reducible refine wpList_alloc_nd (o := ⟨some 5, _, _, _, _, _⟩) rfl rfl ?_) | (refine wpList_store_ndc (o := ⟨none, .store 27 (.tmp 5) (.tmp 12), _, _, _, _⟩) rfl (.tmp 5) (.tmp 12) ?ho w1.heap.size ?cs n0 nd0 ?hx ?hy (Blk.new w1 _ _) ?hm ?_; (case ho => rfl); (case hx => rfl); (case hy => rfl); (case hm => rfl); rw [show (w1.alloc (.cells (ndCells nd0) 27)).setRow w1.heap.size (ndCells n0) = newNd w1 n0 from rfl]))
  go_simp
  have hk2 := hk1.below (newNd_below w1 n0) hk1.lt
  have h52 := newNd_blk w1 n0
  have hB2 := hB1.trans ((newNd_below w1 n0).mono hB1.size)
  obtain ⟨b5, hb5⟩ : ∃ x, w1.heap.size = x := ⟨_, rfl⟩
  rw [hb5] at h52 ⊢
  have hlt5 : w.heap.size ≤ b5 := by rw [← hb5]; exact hB1.size
  clear hB hk1 hB1 hb5
  generalize newNd w1 n0 = w2 at *
  have HL2 := Lib.hid (wdLoad hk2)
  go_wp2_with (with_reducible refine wpList_load_part (o := ⟨some 15, _, _, _, _, _⟩) rfl 49 _ rfl w.heap.size 0 rfl (wdCells f) _ HL2.out Tryd.underlying49 rfl HIf.out ?_)
  refine (HRf.out _).mono ?_
  rintro e w3 ⟨rfl, hB⟩
  have hk3 := hk2.below hB hk2.lt
  have h53 := h52.below hB h52.lt
  have hB3 := hB2.trans (hB.mono hB2.size)
  go_upto_region 3 with (first | (with_reducible refine wpList_alloc_nd (o := ⟨some 7, _, _, _, _, _⟩) rfl rfl ?_) | (refine wpList_store_ndc (o := ⟨none, .store 27 (.tmp 7) (.tmp 17), _, _, _, _⟩) rfl (.tmp 7) (.tmp 17) ?hob w3.heap.size ?csb n0 nd0 ?hxb ?hyb (Blk.new w3 _ _) ?hmb ?_; (case hob => rfl); (case hxb => rfl); (case hyb => rfl); (case hmb => rfl); rw [show (w3.alloc (.cells (ndCells nd0) 27)).setRow w3.heap.size (ndCells n0) = newNd w3 n0 from rfl]))
  go_simp
  have hk4 := hk3.below (newNd_below w3 n0) hk3.lt
  have h54 := h53.below (newNd_below w3 n0) h53.lt
  have h74 := newNd_blk w3 n0
  have hB4 := hB3.trans ((newNd_below w3 n0).mono hB3.size)
  have hlt7 : b5 < w3.heap.size := h53.lt
  obtain ⟨b7, hb7⟩ : ∃ x, w3.heap.size = x := ⟨_, rfl⟩
  rw [hb7] at h74 hlt7 ⊢
  clear hB hk3 h53 hB3 hb7 hk2 h52 hB2 HL2 HK0 HL0 HB0 HOf HRf
  generalize newNd w3 n0 = w4 at *
  obtain ⟨b2, hb2⟩ : ∃ x, w.heap.size = x := ⟨_, rfl⟩
  rw [hb2] at hk4 hlt5 ⊢
  have HLa := Lib.hid (ndLoad h54)
  have HLb := Lib.hid (ndLoad h74)
  have hEq := HE0.out
  have c00 : (c0 != c0) = false := by simp
  have cw : w4.cell? ⟨b2, 0, none⟩ = some (.int .u64 (f 0)) := by rw [hk4.cell, wdCells_get _ 0 (by omega)]
  have fz := hk4.frozen 0
  obtain ⟨tj, htj⟩ : ∃ t, tagM + (j : Int) = t := ⟨_, rfl⟩
  have wj : IntKind.u64.wrap (j : Int) = (j : Int) := by rw [IntKind.wrap_u64]; omega
  have wt : IntKind.u64.wrap (5495893775785918464 + (j : Int)) = tj := by rw [IntKind.wrap_u64, ← htj]; unfold tagM; omega
  have wt2 : (5495893775785918464 : Int) + (j : Int) = tj := by rw [← htj]; rfl
  have wtt : IntKind.u64.wrap tj = tj := by rw [IntKind.wrap_u64, ← htj]; unfold tagM; omega
  have hne5 : b5 ≠ b2 := fun e => by have := h54; have := hk4; unfold Blk at *; rw [e] at h54; rw [hk4] at h54; cases h54
  have hne7 : b7 ≠ b2 := fun e => by omega
  have hk5 : Blk (w4.setCell ⟨b2, 0, none⟩ (.int .u64 tj)) b2 (wdCells f1) 49 := by
    have := hk4.setw 0 tj
    rw [← HF1.out]
    rw [← htj] at this ⊢
    exact this
  have h55 := h54.other (b' := b2) 0 (.int .u64 tj) hne5
  have h75 := h74.other (b' := b2) 0 (.int .u64 tj) hne7
  have hB5 := hB4.setCell (p := ⟨b2, 0, none⟩) (by rw [← hb2]; exact Nat.le_refl _) (.int .u64 tj)
  have HK5 := Lib.hid hk5
  have H55 := Lib.hid h55
  have H75 := Lib.hid h75
  have HB5 := Lib.hid hB5
  have HN57 := Lib.hid (And.intro hne5 (And.intro hne7 (And.intro hlt5 hlt7)))
  clear hk4 h54 h74 hB4 hk5 h55 h75 hB5 htj HE0 hne5 hne7 hlt5 hlt7
  go_upto_region 6 with (first | (with_reducible refine wpList_load_part (o := ⟨some 19, _, _, _, _, _⟩) rfl 27 _ rfl b5 0 rfl (ndCells n0) _ HLa.out Tryd.underlying27 rfl HIn.out ?_) | (with_reducible refine wpList_load_part (o := ⟨some 20, _, _, _, _, _⟩) rfl 27 _ rfl b7 0 rfl (ndCells n0) _ HLb.out Tryd.underlying27 rfl HIn.out ?_))
  clear hEq c00 cw fz wj wt wt2 wtt hlv HLa HLb
  go_simp
  generalize w4.setCell ⟨b2, 0, none⟩ (.int .u64 tj) = w5 at *
  have HLc := Lib.hid (wdLoad HK5.out)
  go_wp2_with (with_reducible refine wpList_load_part (o := ⟨some 33, _, _, _, _, _⟩) rfl 49 _ rfl b2 0 rfl (wdCells f1) _ HLc.out Tryd.underlying49 rfl HI1.out ?_)
  refine (HO1.out _).mono ?_
  rintro e w6 ⟨rfl, hB⟩
  have hk6 := HK5.out.below hB HK5.out.lt
  have h56 := H55.out.below hB H55.out.lt
  have h76 := H75.out.below hB H75.out.lt
  have hB6 := HB5.out.trans (hB.mono HB5.out.size)
  have HS6 := Lib.hid h56
  obtain ⟨n1, n2, n3, n4⟩ := HN57.out
  have hk7 := hk6.rowOther (g := b5) (ndCells m) (fun e => n1 e.symm)
  have h57 := h56.row (ndCells m)
  have h77 := h76.rowOther (g := b5) (ndCells m) (by omega)
  have hB7 := below_setRow hB6 (show w.heap.size ≤ b5 by omega) (ndCells m)
  clear hB hk6 h56 h76 hB6 HK5 H55 H75 HB5 HLc
  go_upto_region 7 with (refine wpList_store_nd (o := ⟨none, .store 27 (.tmp 5) (.tmp 35), _, _, _, _⟩) rfl (.tmp 5) (.tmp 35) ?hoc b5 m n0 ?hxc ?hyc HS6.out ?_; (case hoc => rfl); (case hxc => rfl); (case hyc => rfl))
  go_simp
  generalize w6.setRow b5 (ndCells m) = w7 at *
  have HLd := Lib.hid (wdLoad hk7)
  have HK7 := Lib.hid hk7
  have H57 := Lib.hid h57
  have H77 := Lib.hid h77
  have HB7 := Lib.hid hB7
  clear hk7 h57 h77 hB7 n1 n2 n3 n4
  go_wp2_with (with_reducible refine wpList_load_part (o := ⟨some 38, _, _, _, _, _⟩) rfl 49 _ rfl b2 0 rfl (wdCells f1) _ HLd.out Tryd.underlying49 rfl HI1.out ?_)
  refine (HR1.out _).mono ?_
  rintro e w8 ⟨rfl, hB⟩
  have hk8 := HK7.out.below hB HK7.out.lt
  have h58 := H57.out.below hB H57.out.lt
  have h78 := H77.out.below hB H77.out.lt
  have hB8 := HB7.out.trans (hB.mono HB7.out.size)
  have HS8 := Lib.hid h78
  obtain ⟨n1, n2, n3, n4⟩ := HN57.out
  have hk9 := hk8.rowOther (g := b7) (ndCells m) (fun e => n2 e.symm)
  have h59 := h58.rowOther (g := b7) (ndCells m) (by omega)
  have h79 := h78.row (ndCells m)
  have hB9 := below_setRow hB8 (show w.heap.size ≤ b7 by omega) (ndCells m)
  clear hB hk8 h58 h78 hB8 HK7 H57 H77 HB7 HLd
  go_upto_region 8 with (refine wpList_store_nd (o := ⟨none, .store 27 (.tmp 7) (.tmp 40), _, _, _, _⟩) rfl (.tmp 7) (.tmp 40) ?hod b7 m n0 ?hxd ?hyd HS8.out ?_; (case hod => rfl); (case hxd => rfl); (case hyd => rfl))
  go_simp
  generalize w8.setRow b7 (ndCells m) = w9 at *
  have z5 : w9.cell? ⟨b2, 5, none⟩ = some (.int .u64 (f1 5)) := by rw [hk9.cell, wdCells_get _ 5 (by omega)]
  have z6 : w9.cell? ⟨b2, 6, none⟩ = some (.int .u64 (f1 6)) := by rw [hk9.cell, wdCells_get _ 6 (by omega)]
  have z7 : w9.cell? ⟨b2, 7, none⟩ = some (.int .u64 (f1 7)) := by rw [hk9.cell, wdCells_get _ 7 (by omega)]
  have y5 := hk9.frozen 5
  have y6 := hk9.frozen 6
  have y7 := hk9.frozen 7
  have Hb2 := Lib.hid (show Blk (((w9.setCell ⟨b2, 5, none⟩ (.int .u64 0)).setCell ⟨b2, 6, none⟩ (.int .u64 0)).setCell ⟨b2, 7, none⟩ (.int .u64 0)) b2 (wdCells g) 49 by
    have := ((hk9.setw 5 0).setw 6 0).setw 7 0
    rwa [HG.out] at this)
  have Hb5 := Lib.hid (((h59.other (b' := b2) 5 (.int .u64 0) n1).other (b' := b2) 6 (.int .u64 0) n1).other (b' := b2) 7 (.int .u64 0) n1)
  have Hb7 := Lib.hid (((h79.other (b' := b2) 5 (.int .u64 0) n2).other (b' := b2) 6 (.int .u64 0) n2).other (b' := b2) 7 (.int .u64 0) n2)
  have HBw := Lib.hid (((hB9.setCell (p := ⟨b2, 5, none⟩) (by rw [← hb2]; exact Nat.le_refl _) (.int .u64 0)).setCell (p := ⟨b2, 6, none⟩) (by rw [← hb2]; exact Nat.le_refl _) (.int .u64 0)).setCell (p := ⟨b2, 7, none⟩) (by rw [← hb2]; exact Nat.le_refl _) (.int .u64 0))
  clear hk9 h59 h79 hB9 n1 n2 n3 n4 HS6 HS8
  go_wp2_with (fail)
  generalize ((w9.setCell ⟨b2, 5, none⟩ (.int .u64 0)).setCell ⟨b2, 6, none⟩ (.int .u64 0)).setCell ⟨b2, 7, none⟩ (.int .u64 0) = w0 at *
  clear z5 z6 z7 y5 y6 y7
  --GEN r_nr9
  refine wp_region_vals [Is (.agg (ndCells m)), Is (.agg (ndCells m)), Is (.bool true), Is (.bool true), Is (.int .i64 0), Is (.int .i64 0), Is (.bool true), Is (.bool true), Is (.bool true), Is (.int .i64 0), Is (.bool true), Is (.bool true), Is (.bool true), Is (.agg (ndCells m)), Is (.agg (wdCells g)), Is (.agg (wdCells g)), Is (.bool true), Is (.bool true), Is (.bool true), Is (.bool true), Is (.bool true), Is (.bool true)]
    (fun _ W W' => Below W.heap.size W W') (fun _ W => Below w0.heap.size w0 W) (by kernel_rfl) (by kernel_rfl) (by kernel_rfl) ?hst ?h0 ⟨?o0, ?o1, ?o2, ?o3, ?o4, ?o5, ?o6, ?o7, ?o8, ?o9, ?o10, ?o11, ?o12, ?o13, ?o14, ?o15, ?o16, ?o17, ?o18, ?o19, ?o20, ?o21, trivial⟩ ?he
  case hst =>
    exact ⟨(fun _ _ _ _ _ _ h _ => h), (fun _ _ _ _ _ _ h _ => h), (fun _ _ _ _ _ _ h _ => h), (fun _ _ _ _ _ _ h _ => h), (fun _ _ _ _ _ _ h _ => h), (fun _ _ _ _ _ _ h _ => h), (fun _ _ _ _ _ _ h _ => h), (fun _ _ _ _ _ _ h _ => h), (fun _ _ _ _ _ _ h _ => h), (fun _ _ _ _ _ _ h _ => h), (fun _ _ _ _ _ _ h _ => h), (fun _ _ _ _ _ _ h _ => h), (fun _ _ _ _ _ _ h _ => h), (fun _ _ _ _ _ _ h _ => h), (fun _ _ _ _ _ _ h _ => h), (fun _ _ _ _ _ _ h _ => h), (fun _ _ _ _ _ _ h _ => h), (fun _ _ _ _ _ _ h _ => h), (fun _ _ _ _ _ _ h _ => h), (fun _ _ _ _ _ _ h _ => h), (fun _ _ _ _ _ _ h _ => h), (fun _ _ _ _ _ _ h _ => h), trivial⟩
  case h0 =>
    exact (Below.refl _ _).drew
  case o0 =>
    intro L vs A W H hf hd K hK
    have e5 : A.tmps[5]?.getD undef = .pointer (some ⟨b5, 0, none⟩) := H.old 5 (by kernel_rfl)
    rw [if_pos (show Region.wanted _ _ = true from rfl)]
    exact wp_load_nd _ rfl b5 m (ev_tmp e5) (Hb5.out.below H.glob Hb5.out.lt) (hK _ _ (Below.refl _ _) rfl H.glob)
  case o1 =>
    intro L vs A W H hf hd K hK
    have e7 : A.tmps[7]?.getD undef = .pointer (some ⟨b7, 0, none⟩) := H.old 7 (by kernel_rfl)
    rw [if_pos (show Region.wanted _ _ = true from rfl)]
    exact wp_load_nd _ rfl b7 m (ev_tmp e7) (Hb7.out.below H.glob Hb7.out.lt) (hK _ _ (Below.refl _ _) rfl H.glob)
  case o2 =>
    intro L vs A W H hf hd K hK
    have e45 := H.is 0 45 rfl rfl rfl (deps_of' hd 0 (by kernel_rfl)) (by kernel_rfl)
    have e46 := H.is 1 46 rfl rfl rfl (deps_of' hd 1 (by kernel_rfl)) (by kernel_rfl)
    have hEq := HEQ.out
    rw [if_pos (show Region.wanted _ _ = true from rfl)]
    go_wp2_with (fail)
    exact hK _ _ (Below.refl _ _) rfl H.glob
  case o3 =>
    intro L vs A W H hf hd K hK
    have e47 := H.is 2 47 rfl rfl rfl (deps_of' hd 2 (by kernel_rfl)) (by kernel_rfl)
    go_simp
    exact hK _ _ (Below.refl _ _) rfl (H.glob)
  case o4 =>
    intro L vs A W H hf hd K hK
    have e48 := H.is 3 48 rfl rfl rfl (deps_of' hd 3 (by kernel_rfl)) (by kernel_rfl)
    refine if_wanted (j := 3) (s := 48) rfl rfl rfl e48 rfl ?_
    have e6 : A.tmps[6]?.getD undef = .int .i64 0 := H.old 6 (by kernel_rfl)
    go_simp
    exact hK _ _ (Below.refl _ _) rfl (H.glob)
  case o5 =>
    intro L vs A W H hf hd K hK
    have e48 := H.is 3 48 rfl rfl rfl (deps_of' hd 3 (by kernel_rfl)) (by kernel_rfl)
    refine if_wanted (j := 3) (s := 48) rfl rfl rfl e48 rfl ?_
    have e8 : A.tmps[8]?.getD undef = .int .i64 0 := H.old 8 (by kernel_rfl)
    go_simp
    exact hK _ _ (Below.refl _ _) rfl (H.glob)
  case o6 =>
    intro L vs A W H hf hd K hK
    have e48 := H.is 3 48 rfl rfl rfl (deps_of' hd 3 (by kernel_rfl)) (by kernel_rfl)
    refine if_wanted (j := 3) (s := 48) rfl rfl rfl e48 rfl ?_
    have e49 := H.is 4 49 rfl rfl rfl (deps_of' hd 4 (by kernel_rfl)) (by kernel_rfl)
    have e50 := H.is 5 50 rfl rfl rfl (deps_of' hd 5 (by kernel_rfl)) (by kernel_rfl)
    go_simp
    exact hK _ _ (Below.refl _ _) rfl (H.glob)
  case o7 =>
    intro L vs A W H hf hd K hK
    have e48 := H.is 3 48 rfl rfl rfl (deps_of' hd 3 (by kernel_rfl)) (by kernel_rfl)
    have e51 := H.is 6 51 rfl rfl rfl (deps_of' hd 6 (by kernel_rfl)) (by kernel_rfl)
    go_simp
    exact hK _ _ (Below.refl _ _) rfl (H.glob)
  case o8 =>
    intro L vs A W H hf hd K hK
    have e52 := H.is 7 52 rfl rfl rfl (deps_of' hd 7 (by kernel_rfl)) (by kernel_rfl)
    go_simp
    exact hK _ _ (Below.refl _ _) rfl (H.glob)
  case o9 =>
    intro L vs A W H hf hd K hK
    have e53 := H.is 8 53 rfl rfl rfl (deps_of' hd 8 (by kernel_rfl)) (by kernel_rfl)
    refine if_wanted (j := 8) (s := 53) rfl rfl rfl e53 rfl ?_
    have e8 : A.tmps[8]?.getD undef = .int .i64 0 := H.old 8 (by kernel_rfl)
    go_simp
    exact hK _ _ (Below.refl _ _) rfl (H.glob)
  case o10 =>
    intro L vs A W H hf hd K hK
    have e53 := H.is 8 53 rfl rfl rfl (deps_of' hd 8 (by kernel_rfl)) (by kernel_rfl)
    refine if_wanted (j := 8) (s := 53) rfl rfl rfl e53 rfl ?_
    have e54 := H.is 9 54 rfl rfl rfl (deps_of' hd 9 (by kernel_rfl)) (by kernel_rfl)
    go_simp
    exact hK _ _ (Below.refl _ _) rfl (H.glob)
  case o11 =>
    intro L vs A W H hf hd K hK
    have e53 := H.is 8 53 rfl rfl rfl (deps_of' hd 8 (by kernel_rfl)) (by kernel_rfl)
    have e55 := H.is 10 55 rfl rfl rfl (deps_of' hd 10 (by kernel_rfl)) (by kernel_rfl)
    go_simp
    exact hK _ _ (Below.refl _ _) rfl (H.glob)
  case o12 =>
    intro L vs A W H hf hd K hK
    have e56 := H.is 11 56 rfl rfl rfl (deps_of' hd 11 (by kernel_rfl)) (by kernel_rfl)
    go_simp
    exact hK _ _ (Below.refl _ _) rfl (H.glob)
  case o13 =>
    intro L vs A W H hf hd K hK
    have e57 := H.is 12 57 rfl rfl rfl (deps_of' hd 12 (by kernel_rfl)) (by kernel_rfl)
    refine if_wanted (j := 12) (s := 57) rfl rfl rfl e57 rfl ?_
    have e5 : A.tmps[5]?.getD undef = .pointer (some ⟨b5, 0, none⟩) := H.old 5 (by kernel_rfl)
    exact wp_load_nd _ rfl b5 m (ev_tmp e5) (Hb5.out.below H.glob Hb5.out.lt) (hK _ _ (Below.refl _ _) rfl H.glob)
  case o14 =>
    intro L vs A W H hf hd K hK
    have e57 := H.is 12 57 rfl rfl rfl (deps_of' hd 12 (by kernel_rfl)) (by kernel_rfl)
    refine if_wanted (j := 12) (s := 57) rfl rfl rfl e57 rfl ?_
    have e58 := H.is 13 58 rfl rfl rfl (deps_of' hd 13 (by kernel_rfl)) (by kernel_rfl)
    go_wp2_with (fail)
    refine (HWd.out _).mono ?_
    rintro e W2 ⟨rfl, hB⟩
    exact hK _ _ hB rfl (H.glob.trans (hB.mono H.glob.size))
  case o15 =>
    intro L vs A W H hf hd K hK
    have e57 := H.is 12 57 rfl rfl rfl (deps_of' hd 12 (by kernel_rfl)) (by kernel_rfl)
    refine if_wanted (j := 12) (s := 57) rfl rfl rfl e57 rfl ?_
    have e2 : A.tmps[2]?.getD undef = .pointer (some ⟨b2, 0, none⟩) := H.old 2 (by kernel_rfl)
    have hb := Hb2.out.below H.glob Hb2.out.lt
    exact wp_ld_part 49 _ rfl b2 0 (ev_tmp e2) (wdCells g) _ (wdLoad hb) Tryd.underlying49 rfl (infoWd g) (hK _ _ (Below.refl _ _) rfl H.glob)
  case o16 =>
    intro L vs A W H hf hd K hK
    have e57 := H.is 12 57 rfl rfl rfl (deps_of' hd 12 (by kernel_rfl)) (by kernel_rfl)
    refine if_wanted (j := 12) (s := 57) rfl rfl rfl e57 rfl ?_
    have e59 := H.is 14 59 rfl rfl rfl (deps_of' hd 14 (by kernel_rfl)) (by kernel_rfl)
    have e60 := H.is 15 60 rfl rfl rfl (deps_of' hd 15 (by kernel_rfl)) (by kernel_rfl)
    have hEq := HEW.out
    go_simp
    exact hK _ _ (Below.refl _ _) rfl (H.glob)
  case o17 =>
    intro L vs A W H hf hd K hK
    have e57 := H.is 12 57 rfl rfl rfl (deps_of' hd 12 (by kernel_rfl)) (by kernel_rfl)
    have e61 := H.is 16 61 rfl rfl rfl (deps_of' hd 16 (by kernel_rfl)) (by kernel_rfl)
    go_simp
    exact hK _ _ (Below.refl _ _) rfl (H.glob)
  case o18 =>
    intro L vs A W H hf hd K hK
    have e62 := H.is 17 62 rfl rfl rfl (deps_of' hd 17 (by kernel_rfl)) (by kernel_rfl)
    go_simp
    exact hK _ _ (Below.refl _ _) rfl (H.glob)
  case o19 =>
    intro L vs A W H hf hd K hK
    have e63 := H.is 18 63 rfl rfl rfl (deps_of' hd 18 (by kernel_rfl)) (by kernel_rfl)
    refine if_wanted (j := 18) (s := 63) rfl rfl rfl e63 rfl ?_
    go_wp2_with (fail)
    refine (known_v _ (HT.out.below (HBw.out.trans (H.glob.mono HBw.out.size)))).mono ?_
    rintro e W2 ⟨rfl, hB⟩
    exact hK _ _ hB rfl (H.glob.trans (hB.mono H.glob.size))
  case o20 =>
    intro L vs A W H hf hd K hK
    have e63 := H.is 18 63 rfl rfl rfl (deps_of' hd 18 (by kernel_rfl)) (by kernel_rfl)
    have e64 := H.is 19 64 rfl rfl rfl (deps_of' hd 19 (by kernel_rfl)) (by kernel_rfl)
    go_simp
    exact hK _ _ (Below.refl _ _) rfl (H.glob)
  case o21 =>
    intro L vs A W H hf hd K hK
    have e65 := H.is 20 65 rfl rfl rfl (deps_of' hd 20 (by kernel_rfl)) (by kernel_rfl)
    go_simp
    exact hK _ _ (Below.refl _ _) rfl (H.glob)
  case he =>
    intro vs W hlen hv
    match vs, hlen, hv with
    | [x0_, x1_, x2_, x3_, x4_, x5_, x6_, x7_, x8_, x9_, x10_, x11_, x12_, x13_, x14_, x15_, x16_, x17_, x18_, x19_, x20_, x21_], _, hv =>
    obtain rfl : (.agg (ndCells m)) = x0_ := by obtain ⟨z, h1, h2⟩ := hv 0 _ rfl; cases h1; exact h2.symm
    obtain rfl : (.agg (ndCells m)) = x1_ := by obtain ⟨z, h1, h2⟩ := hv 1 _ rfl; cases h1; exact h2.symm
    obtain rfl : (.bool true) = x2_ := by obtain ⟨z, h1, h2⟩ := hv 2 _ rfl; cases h1; exact h2.symm
    obtain rfl : (.bool true) = x3_ := by obtain ⟨z, h1, h2⟩ := hv 3 _ rfl; cases h1; exact h2.symm
    obtain rfl : (.int .i64 0) = x4_ := by obtain ⟨z, h1, h2⟩ := hv 4 _ rfl; cases h1; exact h2.symm
    obtain rfl : (.int .i64 0) = x5_ := by obtain ⟨z, h1, h2⟩ := hv 5 _ rfl; cases h1; exact h2.symm
    obtain rfl : (.bool true) = x6_ := by obtain ⟨z, h1, h2⟩ := hv 6 _ rfl; cases h1; exact h2.symm
    obtain rfl : (.bool true) = x7_ := by obtain ⟨z, h1, h2⟩ := hv 7 _ rfl; cases h1; exact h2.symm
    obtain rfl : (.bool true) = x8_ := by obtain ⟨z, h1, h2⟩ := hv 8 _ rfl; cases h1; exact h2.symm
    obtain rfl : (.int .i64 0) = x9_ := by obtain ⟨z, h1, h2⟩ := hv 9 _ rfl; cases h1; exact h2.symm
    obtain rfl : (.bool true) = x10_ := by obtain ⟨z, h1, h2⟩ := hv 10 _ rfl; cases h1; exact h2.symm
    obtain rfl : (.bool true) = x11_ := by obtain ⟨z, h1, h2⟩ := hv 11 _ rfl; cases h1; exact h2.symm
    obtain rfl : (.bool true) = x12_ := by obtain ⟨z, h1, h2⟩ := hv 12 _ rfl; cases h1; exact h2.symm
    obtain rfl : (.agg (ndCells m)) = x13_ := by obtain ⟨z, h1, h2⟩ := hv 13 _ rfl; cases h1; exact h2.symm
    obtain rfl : (.agg (wdCells g)) = x14_ := by obtain ⟨z, h1, h2⟩ := hv 14 _ rfl; cases h1; exact h2.symm
    obtain rfl : (.agg (wdCells g)) = x15_ := by obtain ⟨z, h1, h2⟩ := hv 15 _ rfl; cases h1; exact h2.symm
    obtain rfl : (.bool true) = x16_ := by obtain ⟨z, h1, h2⟩ := hv 16 _ rfl; cases h1; exact h2.symm
    obtain rfl : (.bool true) = x17_ := by obtain ⟨z, h1, h2⟩ := hv 17 _ rfl; cases h1; exact h2.symm
    obtain rfl : (.bool true) = x18_ := by obtain ⟨z, h1, h2⟩ := hv 18 _ rfl; cases h1; exact h2.symm
    obtain rfl : (.bool true) = x19_ := by obtain ⟨z, h1, h2⟩ := hv 19 _ rfl; cases h1; exact h2.symm
    obtain rfl : (.bool true) = x20_ := by obtain ⟨z, h1, h2⟩ := hv 20 _ rfl; cases h1; exact h2.symm
    obtain rfl : (.bool true) = x21_ := by obtain ⟨z, h1, h2⟩ := hv 21 _ rfl; cases h1; exact h2.symm
    intro L hall hG
    clear hv hlen
    have HB := Lib.hid (HBw.out.trans (hG.mono HBw.out.size))
    clear hG hall
    simp only [fill, if_true]
    go_simp
    go_wp2_with (fail)
    go_ret
    exact ⟨rfl, HB.out⟩
  --END
end Go.Proofs.YtkfpoekeofnglaaDoor
