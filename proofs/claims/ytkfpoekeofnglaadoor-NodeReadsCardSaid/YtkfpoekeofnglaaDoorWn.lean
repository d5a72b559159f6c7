/-
  node.Words: a contract.
-/
import Derived.Test.YtkfpoekeofnglaaDoorWd
import Derived.Test.YtkfpoekeofnglaaDoorOn
import Derived.IntWalk
namespace Go.Proofs.YtkfpoekeofnglaaDoor
open Go.RowKit

def tagM : Int := 5495893775785918464
/-- a node's word -/
def fullW (n : Nd) (i : Nat) : Int :=
  if i = 0 then tagM + n.lv else if i = 1 then n.lo else if i = 2 then n.nx else if i = 3 then n.ct else if i = 4 then n.fi else if i < 8 then 0
  else if i % 2 = 0 then n.k ((i - 8) / 2) else n.p ((i - 9) / 2)
def wTo (n : Nd) (k : Nat) (i : Nat) : Int := if i < 8 + 2 * k then fullW n i else 0
def wordsF (n : Nd) : Nat → Int := if n.lv < 0 ∨ 15 < n.lv then fun _ => 0 else wTo n 8
def contW (n : Nd) (L : Nat → Bool) : Nat → Int := fun i => if i < 5 ∧ L (13 + 2 * i) = true then fullW n i else 0
def contK (n : Nd) (k : Nat) (L : Nat → Bool) : Nat → Int := fun i => if i = 8 + 2 * k ∧ L 15 = true then n.k k else if i = 9 + 2 * k ∧ L 17 = true then n.p k else wTo n k i
theorem fullW_lt5 (n : Nd) (i : Nat) (h : i < 5) : fullW n i = if i = 0 then tagM + n.lv else if i = 1 then n.lo else if i = 2 then n.nx else if i = 3 then n.ct else n.fi := by
  have : i = 0 ∨ i = 1 ∨ i = 2 ∨ i = 3 ∨ i = 4 := by omega
  rcases this with rfl | rfl | rfl | rfl | rfl <;> rfl
theorem contW_set (n : Nd) (L : Nat → Bool) (i : Nat) (hi : i < 5) : wset (contW n L) i (if i = 0 then tagM + n.lv else if i = 1 then n.lo else if i = 2 then n.nx else if i = 3 then n.ct else n.fi) = contW n (lset L (13 + 2 * i)) := by
  funext j
  unfold wset contW
  by_cases h : j = i
  · subst h
    have t : lset L (13 + 2 * j) (13 + 2 * j) = true := by simp [lset]
    simp only [t, hi, and_self, if_true]
    exact (fullW_lt5 n j hi).symm
  · rw [if_neg h]
    have : lset L (13 + 2 * i) (13 + 2 * j) = L (13 + 2 * j) := by unfold lset; rw [if_neg (by omega)]
    rw [this]
theorem contW_all (n : Nd) (L : Nat → Bool) (h : ∀ i, i < 5 → L (13 + 2 * i) = true) : contW n L = wTo n 0 := by
  funext j
  unfold contW wTo
  by_cases h5 : j < 5
  · rw [if_pos ⟨h5, h j h5⟩, if_pos (by omega)]
  · rw [if_neg (fun e => h5 e.1)]
    by_cases h8 : j < 8 + 2 * 0
    · rw [if_pos h8]
      unfold fullW
      rw [if_neg (by omega), if_neg (by omega), if_neg (by omega), if_neg (by omega), if_neg (by omega), if_pos (by omega)]
    · rw [if_neg h8]
theorem contK_set15 (n : Nd) (k : Nat) (L : Nat → Bool) {e1 : Nat} (he : e1 = 8 + 2 * k) : wset (contK n k L) e1 (n.k k) = contK n k (lset L 15) := by
  subst he
  funext j
  unfold wset contK
  have h17 : lset L 15 17 = L 17 := by simp [lset]
  rw [h17]
  by_cases h : j = 8 + 2 * k
  · rw [if_pos h, if_pos ⟨h, by simp [lset]⟩]
  · simp only [h, false_and, if_false]
theorem contK_set17 (n : Nd) (k : Nat) (L : Nat → Bool) {e2 : Nat} (he : e2 = 9 + 2 * k) : wset (contK n k L) e2 (n.p k) = contK n k (lset L 17) := by
  subst he
  funext j
  unfold wset contK
  have h15 : lset L 17 15 = L 15 := by simp [lset]
  rw [h15]
  by_cases h : j = 9 + 2 * k
  · rw [if_pos h, if_neg (by omega), if_pos ⟨h, by simp [lset]⟩]
  · rw [if_neg h]
    by_cases h2 : j = 8 + 2 * k ∧ L 15 = true
    · rw [if_pos h2, if_pos h2]
    · rw [if_neg h2, if_neg h2, if_neg (fun e => h e.1), if_neg (fun e => h e.1)]
theorem contK_all (n : Nd) (k : Nat) (L : Nat → Bool) (h1 : L 15 = true) (h2 : L 17 = true) : ∀ i, i < 24 → contK n k L i = wTo n (k + 1) i := by
  intro i _
  unfold contK wTo
  by_cases a : i = 8 + 2 * k
  · rw [if_pos ⟨a, h1⟩, if_pos (by omega)]
    unfold fullW
    rw [if_neg (by omega), if_neg (by omega), if_neg (by omega), if_neg (by omega), if_neg (by omega), if_neg (by omega), if_pos (by omega)]
    congr 1; omega
  · rw [if_neg (fun e => a e.1)]
    by_cases b : i = 9 + 2 * k
    · rw [if_pos ⟨b, h2⟩, if_pos (by omega)]
      unfold fullW
      rw [if_neg (by omega), if_neg (by omega), if_neg (by omega), if_neg (by omega), if_neg (by omega), if_neg (by omega), if_neg (by omega)]
      congr 1; omega
    · rw [if_neg (fun e => b e.1)]
      by_cases c : i < 8 + 2 * k
      · rw [if_pos c, if_pos (by omega)]
      · rw [if_neg c, if_neg (by omega)]
/-- the worlds on its way: the node's block, the words' -/
structure WdW (w : World) (n : Nd) (b1 b2 : Nat) (f : Nat → Int) (w' : World) : Prop where
  n : Blk w' b1 (ndCells n) 27
  f : Blk w' b2 (wdCells f) 49
  b : Below w.heap.size w w'
  lt : w.heap.size ≤ b1 ∧ b1 < b2
theorem WdW.next {w wr W : World} {n : Nd} {b1 b2 : Nat} {f f' : Nat → Int} (h : WdW w n b1 b2 f wr) (hk : Keeps (fun i => i = b2) wr W) (hb : Blk W b2 (wdCells f') 49) : WdW w n b1 b2 f' W :=
  ⟨h.n.kept hk (by have := h.lt; omega), hb, below_wd h.b hk (fun k hk e => by have := h.lt; omega), h.lt⟩
where below_wd {w wr W : World} {b2 : Nat} (h : Below w.heap.size w wr) (hk : Keeps (fun i => i = b2) wr W) (hS : ∀ k, k < w.heap.size → ¬ k = b2) : Below w.heap.size w W :=
    ⟨hk.os.trans h.os, hk.tape.trans h.tape, hk.output.trans h.output, Nat.le_trans h.size hk.size, fun i hi => (hk.block i (Nat.lt_of_lt_of_le hi h.size) (hS i hi)).trans (h.block i hi)⟩

set_option maxRecDepth 100000 in
set_option maxHeartbeats 6400000 in
theorem words_v (n : Nd) (hw : n.Wf) (w : World) :
    Calls Tryd.prog 27 #[.agg (ndCells n)] w fun e w' => e = .returned (.agg (wdCells (wordsF n))) ∧ Below w.heap.size w w' := by
  have hk0 : Blk (w.alloc (.cells (ndCells n) 27)) w.heap.size (ndCells n) 27 := Blk.new w _ _
  have hs1 : (w.alloc (.cells (ndCells n) 27)).heap.size = w.heap.size + 1 := by simp
  have hb2 := Blk.new (w.alloc (.cells (ndCells n) 27)) (wdCells (fun _ => 0)) 49
  rw [hs1] at hb2
  have HZ := Lib.hid hs1
  have HW0 := Lib.hid (show WdW w n w.heap.size (w.heap.size + 1) (fun _ => 0) ((w.alloc (.cells (ndCells n) 27)).alloc (.cells (wdCells (fun _ => 0)) 49)) from
    ⟨hk0.alloc _, hb2, ((Below.refl w.heap.size w).alloc (Nat.le_refl _) _).alloc (by omega) _, by omega⟩)
  have hlb := i64_bounds hw.lv
  clear hk0 hs1 hb2
  go_enter Tryd.func27, Tryd.ntmps27
  go_upto_region 1 with (with_reducible refine wpList_alloc_wdAt (o := ⟨some 2, _, _, _, _, _⟩) rfl rfl (w.heap.size + 1) ?hz ?_; (case hz => exact HZ.out))
  go_simp
  obtain ⟨b1, hb1⟩ : ∃ x, w.heap.size = x := ⟨_, rfl⟩
  obtain ⟨b2, hb2⟩ : ∃ x, b1 + 1 = x := ⟨_, rfl⟩
  rw [hb1, hb2] at HW0 ⊢
  clear HZ
  generalize (w.alloc (.cells (ndCells n) 27)).alloc (.cells (wdCells (fun _ => 0)) 49) = w0 at *
  have c0 : w0.cell? ⟨b1, 0, none⟩ = some (.int .i64 n.lv) := by rw [HW0.out.n.cell, ndCells_0]
  by_cases hl : n.lv < 0 ∨ 15 < n.lv
  · have HF := Lib.hid (show wordsF n = fun _ => 0 by unfold wordsF; rw [if_pos hl])
    have HLd := Lib.hid (wdLoad HW0.out.f)
    have HIw := Lib.hid (infoWd (fun _ => 0))
    rcases hl with hl | hl
    · go_wp2_with (first | (with_reducible refine wpList_load_part (o := ⟨some 12, _, _, _, _, _⟩) rfl 49 _ rfl b2 0 rfl (wdCells (fun _ => 0)) _ HLd.out Tryd.underlying49 rfl HIw.out ?_) | (refine wpList_store_wd (o := ⟨none, .store 49 (.tmp 2) (.tmp 12), _, _, _, _⟩) rfl (.tmp 2) (.tmp 12) ?hoa b2 (fun _ => 0) (fun _ => 0) ?hxa ?hya HW0.out.f ?_; (case hoa => rfl); (case hxa => rfl); (case hya => rfl)))
      rw [HF.out]
      exact bodyPost_ret (results_wd rfl _ b2 (fun _ => 0) rfl (HW0.out.f.row _)) rfl ⟨rfl, below_setRow HW0.out.b (by have := HW0.out.lt; omega) _⟩
    · have d1 : decide (n.lv < 0) = false := decide_eq_false (by omega)
      go_wp2_with (first | (with_reducible refine wpList_load_part (o := ⟨some 12, _, _, _, _, _⟩) rfl 49 _ rfl b2 0 rfl (wdCells (fun _ => 0)) _ HLd.out Tryd.underlying49 rfl HIw.out ?_) | (refine wpList_store_wd (o := ⟨none, .store 49 (.tmp 2) (.tmp 12), _, _, _, _⟩) rfl (.tmp 2) (.tmp 12) ?hob b2 (fun _ => 0) (fun _ => 0) ?hxb ?hyb HW0.out.f ?_; (case hob => rfl); (case hxb => rfl); (case hyb => rfl)))
      rw [HF.out]
      exact bodyPost_ret (results_wd rfl _ b2 (fun _ => 0) rfl (HW0.out.f.row _)) rfl ⟨rfl, below_setRow HW0.out.b (by have := HW0.out.lt; omega) _⟩
  · have HF := Lib.hid (show wordsF n = wTo n 8 by unfold wordsF; rw [if_neg hl])
    have d1 : decide (n.lv < 0) = false := decide_eq_false (by omega)
    have d2 : decide (15 < n.lv) = false := decide_eq_false (by omega)
    have HC0 := Lib.hid c0
    have HC1 := Lib.hid (show w0.cell? ⟨b1, 1, none⟩ = some (.int .u64 n.lo) by rw [HW0.out.n.cell, ndCells_1])
    have HC2 := Lib.hid (show w0.cell? ⟨b1, 2, none⟩ = some (.int .u64 n.nx) by rw [HW0.out.n.cell, ndCells_2])
    have HC3 := Lib.hid (show w0.cell? ⟨b1, 3, none⟩ = some (.int .u64 n.ct) by rw [HW0.out.n.cell, ndCells_3])
    have HC4 := Lib.hid (show w0.cell? ⟨b1, 4, none⟩ = some (.int .u64 n.fi) by rw [HW0.out.n.cell, ndCells_4])
    have HS := Lib.hid HW0.out.n.lt
    have HNE := Lib.hid (show ¬ b1 = b2 by omega)
    have HC00 := Lib.hid (show Blk w0 b2 (wdCells (contW n (fun _ => false))) 49 by
      have : contW n (fun _ => false) = fun _ => 0 := by funext j; unfold contW; simp
      rw [this]; exact HW0.out.f)
    have WLV := Lib.hid (show IntKind.u64.wrap n.lv = n.lv by rw [IntKind.wrap_u64]; omega)
    have WTG := Lib.hid (show IntKind.u64.wrap (5495893775785918464 + n.lv) = tagM + n.lv by rw [IntKind.wrap_u64]; unfold tagM; omega)
    clear hl hlb
    go_wp2_with (fail)
    --GEN r_w3
    refine wp_region_vals [Is (.pointer (some ⟨b1, 0, none⟩)), Is (.int .i64 n.lv), Is (.int .u64 n.lv), Is (.int .u64 (tagM + n.lv)), Is (.pointer (some ⟨b1, 1, none⟩)), Is (.int .u64 n.lo), Is (.pointer (some ⟨b1, 2, none⟩)), Is (.int .u64 n.nx), Is (.pointer (some ⟨b1, 3, none⟩)), Is (.int .u64 n.ct), Is (.pointer (some ⟨b1, 4, none⟩)), Is (.int .u64 n.fi), Is (.pointer (some ⟨b2, 0, none⟩)), Any, Is (.pointer (some ⟨b2, 1, none⟩)), Any, Is (.pointer (some ⟨b2, 2, none⟩)), Any, Is (.pointer (some ⟨b2, 3, none⟩)), Any, Is (.pointer (some ⟨b2, 4, none⟩)), Any]
      (fun _ => Keeps (fun i => i = b2)) (fun L W => Keeps (fun i => i = b2) w0 W ∧ Blk W b2 (wdCells (contW n L)) 49) (by kernel_rfl) (by kernel_rfl) (by kernel_rfl) ?hst ?h0 ⟨?o0, ?o1, ?o2, ?o3, ?o4, ?o5, ?o6, ?o7, ?o8, ?o9, ?o10, ?o11, ?o12, ?o13, ?o14, ?o15, ?o16, ?o17, ?o18, ?o19, ?o20, ?o21, trivial⟩ ?he
    case hst =>
      exact ⟨(fun _ _ _ _ _ _ h _ => h), (fun _ _ _ _ _ _ h _ => h), (fun _ _ _ _ _ _ h _ => h), (fun _ _ _ _ _ _ h _ => h), (fun _ _ _ _ _ _ h _ => h), (fun _ _ _ _ _ _ h _ => h), (fun _ _ _ _ _ _ h _ => h), (fun _ _ _ _ _ _ h _ => h), (fun _ _ _ _ _ _ h _ => h), (fun _ _ _ _ _ _ h _ => h), (fun _ _ _ _ _ _ h _ => h), (fun _ _ _ _ _ _ h _ => h), (fun _ _ _ _ _ _ h _ => h), (fun _ _ _ _ _ _ h _ => h), (fun _ _ _ _ _ _ h _ => h), (fun _ _ _ _ _ _ h _ => h), (fun _ _ _ _ _ _ h _ => h), (fun _ _ _ _ _ _ h _ => h), (fun _ _ _ _ _ _ h _ => h), (fun _ _ _ _ _ _ h _ => h), (fun _ _ _ _ _ _ h _ => h), (fun _ _ _ _ _ _ h _ => h), trivial⟩
    case h0 =>
      exact ⟨(Keeps.refl _ _).drew, HC00.out⟩
    case o0 =>
      intro L vs A W H hf hd K hK
      have e1 : A.tmps[1]?.getD undef = .pointer (some ⟨b1, 0, none⟩) := H.old 1 (by kernel_rfl)
      go_simp
      exact hK _ _ (Keeps.refl _ _) rfl (H.glob)
    case o1 =>
      intro L vs A W H hf hd K hK
      have e13 := H.is 0 13 rfl rfl rfl (deps_of' hd 0 (by kernel_rfl)) (by kernel_rfl)
      have c := (H.glob.1.cell (p := ⟨b1, 0, none⟩) HS.out HNE.out).trans HC0.out
      go_simp
      exact hK _ _ (Keeps.refl _ _) rfl (H.glob)
    case o2 =>
      intro L vs A W H hf hd K hK
      have e14 := H.is 1 14 rfl rfl rfl (deps_of' hd 1 (by kernel_rfl)) (by kernel_rfl)
      have wv := WLV.out
      go_simp
      exact hK _ _ (Keeps.refl _ _) rfl (H.glob)
    case o3 =>
      intro L vs A W H hf hd K hK
      have e15 := H.is 2 15 rfl rfl rfl (deps_of' hd 2 (by kernel_rfl)) (by kernel_rfl)
      have wv := WTG.out
      go_simp
      exact hK _ _ (Keeps.refl _ _) rfl H.glob
    case o4 =>
      intro L vs A W H hf hd K hK
      have e1 : A.tmps[1]?.getD undef = .pointer (some ⟨b1, 0, none⟩) := H.old 1 (by kernel_rfl)
      go_simp
      exact hK _ _ (Keeps.refl _ _) rfl (H.glob)
    case o5 =>
      intro L vs A W H hf hd K hK
      have e17 := H.is 4 17 rfl rfl rfl (deps_of' hd 4 (by kernel_rfl)) (by kernel_rfl)
      have c := (H.glob.1.cell (p := ⟨b1, 1, none⟩) HS.out HNE.out).trans HC1.out
      go_simp
      exact hK _ _ (Keeps.refl _ _) rfl (H.glob)
    case o6 =>
      intro L vs A W H hf hd K hK
      have e1 : A.tmps[1]?.getD undef = .pointer (some ⟨b1, 0, none⟩) := H.old 1 (by kernel_rfl)
      go_simp
      exact hK _ _ (Keeps.refl _ _) rfl (H.glob)
    case o7 =>
      intro L vs A W H hf hd K hK
      have e19 := H.is 6 19 rfl rfl rfl (deps_of' hd 6 (by kernel_rfl)) (by kernel_rfl)
      have c := (H.glob.1.cell (p := ⟨b1, 2, none⟩) HS.out HNE.out).trans HC2.out
      go_simp
      exact hK _ _ (Keeps.refl _ _) rfl (H.glob)
    case o8 =>
      intro L vs A W H hf hd K hK
      have e1 : A.tmps[1]?.getD undef = .pointer (some ⟨b1, 0, none⟩) := H.old 1 (by kernel_rfl)
      go_simp
      exact hK _ _ (Keeps.refl _ _) rfl (H.glob)
    case o9 =>
      intro L vs A W H hf hd K hK
      have e21 := H.is 8 21 rfl rfl rfl (deps_of' hd 8 (by kernel_rfl)) (by kernel_rfl)
      have c := (H.glob.1.cell (p := ⟨b1, 3, none⟩) HS.out HNE.out).trans HC3.out
      go_simp
      exact hK _ _ (Keeps.refl _ _) rfl (H.glob)
    case o10 =>
      intro L vs A W H hf hd K hK
      have e1 : A.tmps[1]?.getD undef = .pointer (some ⟨b1, 0, none⟩) := H.old 1 (by kernel_rfl)
      go_simp
      exact hK _ _ (Keeps.refl _ _) rfl (H.glob)
    case o11 =>
      intro L vs A W H hf hd K hK
      have e23 := H.is 10 23 rfl rfl rfl (deps_of' hd 10 (by kernel_rfl)) (by kernel_rfl)
      have c := (H.glob.1.cell (p := ⟨b1, 4, none⟩) HS.out HNE.out).trans HC4.out
      go_simp
      exact hK _ _ (Keeps.refl _ _) rfl (H.glob)
    case o12 =>
      intro L vs A W H hf hd K hK
      have e2 : A.tmps[2]?.getD undef = .pointer (some ⟨b2, 0, none⟩) := H.old 2 (by kernel_rfl)
      go_simp
      exact hK _ _ (Keeps.refl _ _) rfl (H.glob)
    case o13 =>
      intro L vs A W H hf hd K hK
      have e25 := H.is 12 25 rfl rfl rfl (deps_of' hd 12 (by kernel_rfl)) (by kernel_rfl)
      have e16 := H.is 3 16 rfl rfl rfl (deps_of' hd 3 (by kernel_rfl)) (by kernel_rfl)
      have f := H.glob.2.frozen 0
      have c := H.glob.2.cell 0
      rw [wdCells_get _ 0 (by omega)] at c
      go_simp
      exact hK undef _ ((Keeps.refl (fun i => i = b2) _).setCell (p := ⟨b2, 0, none⟩) (.inl rfl) _) trivial ⟨H.glob.1.setCell (p := ⟨b2, 0, none⟩) (.inl rfl) _, (congrArg (fun f => Blk (W.setCell ⟨b2, 0, none⟩ (.int .u64 (tagM + n.lv))) b2 (wdCells f) 49) (contW_set n L 0 (by omega))).mp (H.glob.2.setw 0 (tagM + n.lv))⟩
    case o14 =>
      intro L vs A W H hf hd K hK
      have e2 : A.tmps[2]?.getD undef = .pointer (some ⟨b2, 0, none⟩) := H.old 2 (by kernel_rfl)
      go_simp
      exact hK _ _ (Keeps.refl _ _) rfl (H.glob)
    case o15 =>
      intro L vs A W H hf hd K hK
      have e26 := H.is 14 26 rfl rfl rfl (deps_of' hd 14 (by kernel_rfl)) (by kernel_rfl)
      have e18 := H.is 5 18 rfl rfl rfl (deps_of' hd 5 (by kernel_rfl)) (by kernel_rfl)
      have f := H.glob.2.frozen 1
      have c := H.glob.2.cell 1
      rw [wdCells_get _ 1 (by omega)] at c
      go_simp
      exact hK undef _ ((Keeps.refl (fun i => i = b2) _).setCell (p := ⟨b2, 1, none⟩) (.inl rfl) _) trivial ⟨H.glob.1.setCell (p := ⟨b2, 1, none⟩) (.inl rfl) _, (congrArg (fun f => Blk (W.setCell ⟨b2, 1, none⟩ (.int .u64 (n.lo))) b2 (wdCells f) 49) (contW_set n L 1 (by omega))).mp (H.glob.2.setw 1 (n.lo))⟩
    case o16 =>
      intro L vs A W H hf hd K hK
      have e2 : A.tmps[2]?.getD undef = .pointer (some ⟨b2, 0, none⟩) := H.old 2 (by kernel_rfl)
      go_simp
      exact hK _ _ (Keeps.refl _ _) rfl (H.glob)
    case o17 =>
      intro L vs A W H hf hd K hK
      have e27 := H.is 16 27 rfl rfl rfl (deps_of' hd 16 (by kernel_rfl)) (by kernel_rfl)
      have e20 := H.is 7 20 rfl rfl rfl (deps_of' hd 7 (by kernel_rfl)) (by kernel_rfl)
      have f := H.glob.2.frozen 2
      have c := H.glob.2.cell 2
      rw [wdCells_get _ 2 (by omega)] at c
      go_simp
      exact hK undef _ ((Keeps.refl (fun i => i = b2) _).setCell (p := ⟨b2, 2, none⟩) (.inl rfl) _) trivial ⟨H.glob.1.setCell (p := ⟨b2, 2, none⟩) (.inl rfl) _, (congrArg (fun f => Blk (W.setCell ⟨b2, 2, none⟩ (.int .u64 (n.nx))) b2 (wdCells f) 49) (contW_set n L 2 (by omega))).mp (H.glob.2.setw 2 (n.nx))⟩
    case o18 =>
      intro L vs A W H hf hd K hK
      have e2 : A.tmps[2]?.getD undef = .pointer (some ⟨b2, 0, none⟩) := H.old 2 (by kernel_rfl)
      go_simp
      exact hK _ _ (Keeps.refl _ _) rfl (H.glob)
    case o19 =>
      intro L vs A W H hf hd K hK
      have e28 := H.is 18 28 rfl rfl rfl (deps_of' hd 18 (by kernel_rfl)) (by kernel_rfl)
      have e22 := H.is 9 22 rfl rfl rfl (deps_of' hd 9 (by kernel_rfl)) (by kernel_rfl)
      have f := H.glob.2.frozen 3
      have c := H.glob.2.cell 3
      rw [wdCells_get _ 3 (by omega)] at c
      go_simp
      exact hK undef _ ((Keeps.refl (fun i => i = b2) _).setCell (p := ⟨b2, 3, none⟩) (.inl rfl) _) trivial ⟨H.glob.1.setCell (p := ⟨b2, 3, none⟩) (.inl rfl) _, (congrArg (fun f => Blk (W.setCell ⟨b2, 3, none⟩ (.int .u64 (n.ct))) b2 (wdCells f) 49) (contW_set n L 3 (by omega))).mp (H.glob.2.setw 3 (n.ct))⟩
    case o20 =>
      intro L vs A W H hf hd K hK
      have e2 : A.tmps[2]?.getD undef = .pointer (some ⟨b2, 0, none⟩) := H.old 2 (by kernel_rfl)
      go_simp
      exact hK _ _ (Keeps.refl _ _) rfl (H.glob)
    case o21 =>
      intro L vs A W H hf hd K hK
      have e29 := H.is 20 29 rfl rfl rfl (deps_of' hd 20 (by kernel_rfl)) (by kernel_rfl)
      have e24 := H.is 11 24 rfl rfl rfl (deps_of' hd 11 (by kernel_rfl)) (by kernel_rfl)
      have f := H.glob.2.frozen 4
      have c := H.glob.2.cell 4
      rw [wdCells_get _ 4 (by omega)] at c
      go_simp
      exact hK undef _ ((Keeps.refl (fun i => i = b2) _).setCell (p := ⟨b2, 4, none⟩) (.inl rfl) _) trivial ⟨H.glob.1.setCell (p := ⟨b2, 4, none⟩) (.inl rfl) _, (congrArg (fun f => Blk (W.setCell ⟨b2, 4, none⟩ (.int .u64 (n.fi))) b2 (wdCells f) 49) (contW_set n L 4 (by omega))).mp (H.glob.2.setw 4 (n.fi))⟩
    case he =>
      intro vs W hlen hv
      match vs, hlen, hv with
      | [x0_, x1_, x2_, x3_, x4_, x5_, x6_, x7_, x8_, x9_, x10_, x11_, x12_, x13_, x14_, x15_, x16_, x17_, x18_, x19_, x20_, x21_], _, hv =>
      obtain rfl : (.pointer (some ⟨b1, 0, none⟩)) = x0_ := by obtain ⟨z, h1, h2⟩ := hv 0 _ rfl; cases h1; exact h2.symm
      obtain rfl : (.int .i64 n.lv) = x1_ := by obtain ⟨z, h1, h2⟩ := hv 1 _ rfl; cases h1; exact h2.symm
      obtain rfl : (.int .u64 n.lv) = x2_ := by obtain ⟨z, h1, h2⟩ := hv 2 _ rfl; cases h1; exact h2.symm
      obtain rfl : (.int .u64 (tagM + n.lv)) = x3_ := by obtain ⟨z, h1, h2⟩ := hv 3 _ rfl; cases h1; exact h2.symm
      obtain rfl : (.pointer (some ⟨b1, 1, none⟩)) = x4_ := by obtain ⟨z, h1, h2⟩ := hv 4 _ rfl; cases h1; exact h2.symm
      obtain rfl : (.int .u64 n.lo) = x5_ := by obtain ⟨z, h1, h2⟩ := hv 5 _ rfl; cases h1; exact h2.symm
      obtain rfl : (.pointer (some ⟨b1, 2, none⟩)) = x6_ := by obtain ⟨z, h1, h2⟩ := hv 6 _ rfl; cases h1; exact h2.symm
      obtain rfl : (.int .u64 n.nx) = x7_ := by obtain ⟨z, h1, h2⟩ := hv 7 _ rfl; cases h1; exact h2.symm
      obtain rfl : (.pointer (some ⟨b1, 3, none⟩)) = x8_ := by obtain ⟨z, h1, h2⟩ := hv 8 _ rfl; cases h1; exact h2.symm
      obtain rfl : (.int .u64 n.ct) = x9_ := by obtain ⟨z, h1, h2⟩ := hv 9 _ rfl; cases h1; exact h2.symm
      obtain rfl : (.pointer (some ⟨b1, 4, none⟩)) = x10_ := by obtain ⟨z, h1, h2⟩ := hv 10 _ rfl; cases h1; exact h2.symm
      obtain rfl : (.int .u64 n.fi) = x11_ := by obtain ⟨z, h1, h2⟩ := hv 11 _ rfl; cases h1; exact h2.symm
      obtain rfl : (.pointer (some ⟨b2, 0, none⟩)) = x12_ := by obtain ⟨z, h1, h2⟩ := hv 12 _ rfl; cases h1; exact h2.symm
      obtain rfl : (.pointer (some ⟨b2, 1, none⟩)) = x14_ := by obtain ⟨z, h1, h2⟩ := hv 14 _ rfl; cases h1; exact h2.symm
      obtain rfl : (.pointer (some ⟨b2, 2, none⟩)) = x16_ := by obtain ⟨z, h1, h2⟩ := hv 16 _ rfl; cases h1; exact h2.symm
      obtain rfl : (.pointer (some ⟨b2, 3, none⟩)) = x18_ := by obtain ⟨z, h1, h2⟩ := hv 18 _ rfl; cases h1; exact h2.symm
      obtain rfl : (.pointer (some ⟨b2, 4, none⟩)) = x20_ := by obtain ⟨z, h1, h2⟩ := hv 20 _ rfl; cases h1; exact h2.symm
      intro L hall hG
      clear hv hlen
      have HW1 := Lib.hid (show WdW w n b1 b2 (wTo n 0) W from HW0.out.next hG.1 (by have := hG.2; rw [contW_all n L (fun i hi => hall _ (by simp; omega))] at this; exact this))
      clear hG hall
      simp only [fill, if_true]
      go_simp
    --END
      clear HC0 HC1 HC2 HC3 HC4 HS HC00 WLV WTG HW0 c0
      go_wp2_with (fail)
      go_loopw [30] (fun iv wr => ∃ k : Nat, k ≤ 8 ∧ iv = .int .i64 k ∧ Hid (WdW w n b1 b2 (wTo n k) wr)) (fun iv _ => 8 - (intOf iv).toNat)
      case atStart => exact ⟨0, by omega, rfl, HW1⟩
      case round =>
        obtain ⟨k, hk, rfl, HW⟩ := hrel
        by_cases hlt : k < 8
        · have HCk := Lib.hid (show wr.cell? ⟨b1, 5 + k, none⟩ = some (.int .u64 (n.k k)) by rw [HW.out.n.cell, ndCells_k n k hlt])
          have HCp := Lib.hid (show wr.cell? ⟨b1, 13 + k, none⟩ = some (.int .u64 (n.p k)) by rw [HW.out.n.cell, ndCells_p n k hlt])
          have HS := Lib.hid HW.out.n.lt
          have HC00 := Lib.hid (show Blk wr b2 (wdCells (contK n k (fun _ => false))) 49 by
            have : contK n k (fun _ => false) = wTo n k := by funext j; unfold contK; simp
            rw [this]; exact HW.out.f)
          obtain ⟨e1, he1⟩ : ∃ e1, e1 = 8 + 2 * k := ⟨_, rfl⟩
          obtain ⟨e2, he2⟩ : ∃ e2, e2 = 9 + 2 * k := ⟨_, rfl⟩
          have HE1 := Lib.hid he1
          have HE2 := Lib.hid he2
          have g1 : IntKind.i64.wrap (2 * (k : Int)) = 2 * (k : Int) := IntWalk.i64_in _ (by omega)
          have g2 : IntKind.i64.wrap (8 + 2 * (k : Int)) = (e1 : Int) := by rw [IntWalk.i64_in _ (by omega)]; omega
          have g3 : IntKind.i64.wrap (9 + 2 * (k : Int)) = (e2 : Int) := by rw [IntWalk.i64_in _ (by omega)]; omega
          have g4 : (k : Int) < 8 := by omega
          have g5 : (e1 : Int) < 24 := by omega
          have g6 : (e2 : Int) < 24 := by omega
          have g7 : e1 < 24 := by omega
          have g8 : e2 < 24 := by omega
          clear he1 he2
          go_wp2_with (fail)
          --GEN r_w7
          refine wp_region_vals [Is (.int .i64 (k : Nat)), Is (.int .i64 (2 * (k : Int))), Is (.int .i64 (e1 : Nat)), Is (.int .i64 (k : Nat)), Is (.int .i64 (2 * (k : Int))), Is (.int .i64 (e2 : Nat)), Is (.int .i64 (k : Nat)), Is (.pointer (some ⟨b1, 5, none⟩)), Is (.pointer (some ⟨b1, 5 + k, none⟩)), Is (.int .u64 (n.k k)), Is (.int .i64 (k : Nat)), Is (.pointer (some ⟨b1, 13, none⟩)), Is (.pointer (some ⟨b1, 13 + k, none⟩)), Is (.int .u64 (n.p k)), Is (.pointer (some ⟨b2, e1, none⟩)), Any, Is (.pointer (some ⟨b2, e2, none⟩)), Any]
            (fun _ => Keeps (fun i => i = b2)) (fun L W => Keeps (fun i => i = b2) wr W ∧ Blk W b2 (wdCells (contK n k L)) 49) (by kernel_rfl) (by kernel_rfl) (by kernel_rfl) ?hst ?h0 ⟨?o0, ?o1, ?o2, ?o3, ?o4, ?o5, ?o6, ?o7, ?o8, ?o9, ?o10, ?o11, ?o12, ?o13, ?o14, ?o15, ?o16, ?o17, trivial⟩ ?he
          case hst =>
            exact ⟨(fun _ _ _ _ _ _ h _ => h), (fun _ _ _ _ _ _ h _ => h), (fun _ _ _ _ _ _ h _ => h), (fun _ _ _ _ _ _ h _ => h), (fun _ _ _ _ _ _ h _ => h), (fun _ _ _ _ _ _ h _ => h), (fun _ _ _ _ _ _ h _ => h), (fun _ _ _ _ _ _ h _ => h), (fun _ _ _ _ _ _ h _ => h), (fun _ _ _ _ _ _ h _ => h), (fun _ _ _ _ _ _ h _ => h), (fun _ _ _ _ _ _ h _ => h), (fun _ _ _ _ _ _ h _ => h), (fun _ _ _ _ _ _ h _ => h), (fun _ _ _ _ _ _ h _ => h), (fun _ _ _ _ _ _ h _ => h), (fun _ _ _ _ _ _ h _ => h), (fun _ _ _ _ _ _ h _ => h), trivial⟩
          case h0 =>
            exact ⟨(Keeps.refl _ _).drew, HC00.out⟩
          case o0 =>
            intro L vs A W H hf hd K hK
            have e3 : A.tmps[3]?.getD undef = .int .i64 (k : Nat) := H.old 3 (by kernel_rfl)
            go_simp
            exact hK _ _ (Keeps.refl _ _) rfl (H.glob)
          case o1 =>
            intro L vs A W H hf hd K hK
            have e33 := H.is 0 33 rfl rfl rfl (deps_of' hd 0 (by kernel_rfl)) (by kernel_rfl)
            go_simp
            exact hK _ _ (Keeps.refl _ _) rfl (H.glob)
          case o2 =>
            intro L vs A W H hf hd K hK
            have e34 := H.is 1 34 rfl rfl rfl (deps_of' hd 1 (by kernel_rfl)) (by kernel_rfl)
            go_simp
            exact hK _ _ (Keeps.refl _ _) rfl (H.glob)
          case o3 =>
            intro L vs A W H hf hd K hK
            have e3 : A.tmps[3]?.getD undef = .int .i64 (k : Nat) := H.old 3 (by kernel_rfl)
            go_simp
            exact hK _ _ (Keeps.refl _ _) rfl (H.glob)
          case o4 =>
            intro L vs A W H hf hd K hK
            have e36 := H.is 3 36 rfl rfl rfl (deps_of' hd 3 (by kernel_rfl)) (by kernel_rfl)
            go_simp
            exact hK _ _ (Keeps.refl _ _) rfl (H.glob)
          case o5 =>
            intro L vs A W H hf hd K hK
            have e37 := H.is 4 37 rfl rfl rfl (deps_of' hd 4 (by kernel_rfl)) (by kernel_rfl)
            go_simp
            exact hK _ _ (Keeps.refl _ _) rfl (H.glob)
          case o6 =>
            intro L vs A W H hf hd K hK
            have e3 : A.tmps[3]?.getD undef = .int .i64 (k : Nat) := H.old 3 (by kernel_rfl)
            go_simp
            exact hK _ _ (Keeps.refl _ _) rfl (H.glob)
          case o7 =>
            intro L vs A W H hf hd K hK
            have e1 : A.tmps[1]?.getD undef = .pointer (some ⟨b1, 0, none⟩) := H.old 1 (by kernel_rfl)
            go_simp
            exact hK _ _ (Keeps.refl _ _) rfl (H.glob)
          case o8 =>
            intro L vs A W H hf hd K hK
            have e40 := H.is 7 40 rfl rfl rfl (deps_of' hd 7 (by kernel_rfl)) (by kernel_rfl)
            have e39 := H.is 6 39 rfl rfl rfl (deps_of' hd 6 (by kernel_rfl)) (by kernel_rfl)
            go_simp
            exact hK _ _ (Keeps.refl _ _) rfl (H.glob)
          case o9 =>
            intro L vs A W H hf hd K hK
            have e41 := H.is 8 41 rfl rfl rfl (deps_of' hd 8 (by kernel_rfl)) (by kernel_rfl)
            have c := (H.glob.1.cell (p := ⟨b1, 5 + k, none⟩) HS.out HNE.out).trans HCk.out
            go_simp
            exact hK _ _ (Keeps.refl _ _) rfl (H.glob)
          case o10 =>
            intro L vs A W H hf hd K hK
            have e3 : A.tmps[3]?.getD undef = .int .i64 (k : Nat) := H.old 3 (by kernel_rfl)
            go_simp
            exact hK _ _ (Keeps.refl _ _) rfl (H.glob)
          case o11 =>
            intro L vs A W H hf hd K hK
            have e1 : A.tmps[1]?.getD undef = .pointer (some ⟨b1, 0, none⟩) := H.old 1 (by kernel_rfl)
            go_simp
            exact hK _ _ (Keeps.refl _ _) rfl (H.glob)
          case o12 =>
            intro L vs A W H hf hd K hK
            have e44 := H.is 11 44 rfl rfl rfl (deps_of' hd 11 (by kernel_rfl)) (by kernel_rfl)
            have e43 := H.is 10 43 rfl rfl rfl (deps_of' hd 10 (by kernel_rfl)) (by kernel_rfl)
            go_simp
            exact hK _ _ (Keeps.refl _ _) rfl (H.glob)
          case o13 =>
            intro L vs A W H hf hd K hK
            have e45 := H.is 12 45 rfl rfl rfl (deps_of' hd 12 (by kernel_rfl)) (by kernel_rfl)
            have c := (H.glob.1.cell (p := ⟨b1, 13 + k, none⟩) HS.out HNE.out).trans HCp.out
            go_simp
            exact hK _ _ (Keeps.refl _ _) rfl (H.glob)
          case o14 =>
            intro L vs A W H hf hd K hK
            have e2 : A.tmps[2]?.getD undef = .pointer (some ⟨b2, 0, none⟩) := H.old 2 (by kernel_rfl)
            have e35 := H.is 2 35 rfl rfl rfl (deps_of' hd 2 (by kernel_rfl)) (by kernel_rfl)
            go_simp
            exact hK _ _ (Keeps.refl _ _) rfl (H.glob)
          case o15 =>
            intro L vs A W H hf hd K hK
            have e47 := H.is 14 47 rfl rfl rfl (deps_of' hd 14 (by kernel_rfl)) (by kernel_rfl)
            have e42 := H.is 9 42 rfl rfl rfl (deps_of' hd 9 (by kernel_rfl)) (by kernel_rfl)
            have f := H.glob.2.frozen e1
            have c := H.glob.2.cell e1
            rw [wdCells_get _ e1 (by omega)] at c
            go_simp
            exact hK undef _ ((Keeps.refl (fun i => i = b2) _).setCell (p := ⟨b2, e1, none⟩) (.inl rfl) _) trivial ⟨H.glob.1.setCell (p := ⟨b2, e1, none⟩) (.inl rfl) _, by have := H.glob.2.setw e1 (n.k k); rw [contK_set15 n k L HE1.out] at this; exact this⟩
          case o16 =>
            intro L vs A W H hf hd K hK
            have e2 : A.tmps[2]?.getD undef = .pointer (some ⟨b2, 0, none⟩) := H.old 2 (by kernel_rfl)
            have e38 := H.is 5 38 rfl rfl rfl (deps_of' hd 5 (by kernel_rfl)) (by kernel_rfl)
            go_simp
            exact hK _ _ (Keeps.refl _ _) rfl (H.glob)
          case o17 =>
            intro L vs A W H hf hd K hK
            have e48 := H.is 16 48 rfl rfl rfl (deps_of' hd 16 (by kernel_rfl)) (by kernel_rfl)
            have e46 := H.is 13 46 rfl rfl rfl (deps_of' hd 13 (by kernel_rfl)) (by kernel_rfl)
            have f := H.glob.2.frozen e2
            have c := H.glob.2.cell e2
            rw [wdCells_get _ e2 (by omega)] at c
            go_simp
            exact hK undef _ ((Keeps.refl (fun i => i = b2) _).setCell (p := ⟨b2, e2, none⟩) (.inl rfl) _) trivial ⟨H.glob.1.setCell (p := ⟨b2, e2, none⟩) (.inl rfl) _, by have := H.glob.2.setw e2 (n.p k); rw [contK_set17 n k L HE2.out] at this; exact this⟩
          case he =>
            intro vs W hlen hv
            match vs, hlen, hv with
            | [x0_, x1_, x2_, x3_, x4_, x5_, x6_, x7_, x8_, x9_, x10_, x11_, x12_, x13_, x14_, x15_, x16_, x17_], _, hv =>
            obtain rfl : (.int .i64 (k : Nat)) = x0_ := by obtain ⟨z, h1, h2⟩ := hv 0 _ rfl; cases h1; exact h2.symm
            obtain rfl : (.int .i64 (2 * (k : Int))) = x1_ := by obtain ⟨z, h1, h2⟩ := hv 1 _ rfl; cases h1; exact h2.symm
            obtain rfl : (.int .i64 (e1 : Nat)) = x2_ := by obtain ⟨z, h1, h2⟩ := hv 2 _ rfl; cases h1; exact h2.symm
            obtain rfl : (.int .i64 (k : Nat)) = x3_ := by obtain ⟨z, h1, h2⟩ := hv 3 _ rfl; cases h1; exact h2.symm
            obtain rfl : (.int .i64 (2 * (k : Int))) = x4_ := by obtain ⟨z, h1, h2⟩ := hv 4 _ rfl; cases h1; exact h2.symm
            obtain rfl : (.int .i64 (e2 : Nat)) = x5_ := by obtain ⟨z, h1, h2⟩ := hv 5 _ rfl; cases h1; exact h2.symm
            obtain rfl : (.int .i64 (k : Nat)) = x6_ := by obtain ⟨z, h1, h2⟩ := hv 6 _ rfl; cases h1; exact h2.symm
            obtain rfl : (.pointer (some ⟨b1, 5, none⟩)) = x7_ := by obtain ⟨z, h1, h2⟩ := hv 7 _ rfl; cases h1; exact h2.symm
            obtain rfl : (.pointer (some ⟨b1, 5 + k, none⟩)) = x8_ := by obtain ⟨z, h1, h2⟩ := hv 8 _ rfl; cases h1; exact h2.symm
            obtain rfl : (.int .u64 (n.k k)) = x9_ := by obtain ⟨z, h1, h2⟩ := hv 9 _ rfl; cases h1; exact h2.symm
            obtain rfl : (.int .i64 (k : Nat)) = x10_ := by obtain ⟨z, h1, h2⟩ := hv 10 _ rfl; cases h1; exact h2.symm
            obtain rfl : (.pointer (some ⟨b1, 13, none⟩)) = x11_ := by obtain ⟨z, h1, h2⟩ := hv 11 _ rfl; cases h1; exact h2.symm
            obtain rfl : (.pointer (some ⟨b1, 13 + k, none⟩)) = x12_ := by obtain ⟨z, h1, h2⟩ := hv 12 _ rfl; cases h1; exact h2.symm
            obtain rfl : (.int .u64 (n.p k)) = x13_ := by obtain ⟨z, h1, h2⟩ := hv 13 _ rfl; cases h1; exact h2.symm
            obtain rfl : (.pointer (some ⟨b2, e1, none⟩)) = x14_ := by obtain ⟨z, h1, h2⟩ := hv 14 _ rfl; cases h1; exact h2.symm
            obtain rfl : (.pointer (some ⟨b2, e2, none⟩)) = x16_ := by obtain ⟨z, h1, h2⟩ := hv 16 _ rfl; cases h1; exact h2.symm
            intro L hall hG
            clear hv hlen
            have HW2 := Lib.hid (show WdW w n b1 b2 (wTo n (k + 1)) W from HW.out.next hG.1 (by have := hG.2; rw [wdCells_congr (contK_all n k L (hall 15 (by decide)) (hall 17 (by decide)))] at this; exact this))
            clear hG hall
            simp only [fill, if_true]
            go_simp
            go_wp2_with (fail)
            go_roundw
            case rel => exact ⟨k + 1, by omega, by go_num, HW2⟩
            case measure => simp [intOf]; omega
          --END
        · have hk8 : k = 8 := by omega
          have HW2 := Lib.hid (show WdW w n b1 b2 (wTo n 8) wr by have := HW.out; rwa [hk8] at this)
          have HLd := Lib.hid (wdLoad HW2.out.f)
          have HIw := Lib.hid (infoWd (wTo n 8))
          clear hk8 HW
          go_upto_region 9 with (fail)
          go_wp2_with (first | (with_reducible refine wpList_load_part (o := ⟨some 50, _, _, _, _, _⟩) rfl 49 _ rfl b2 0 rfl (wdCells (wTo n 8)) _ HLd.out Tryd.underlying49 rfl HIw.out ?_) | (refine wpList_store_wd (o := ⟨none, .store 49 (.tmp 2) (.tmp 50), _, _, _, _⟩) rfl (.tmp 2) (.tmp 50) ?hoc b2 (wTo n 8) (wTo n 8) ?hxc ?hyc HW2.out.f ?_; (case hoc => rfl); (case hxc => rfl); (case hyc => rfl)))
          rw [HF.out]
          exact bodyPost_ret (results_wd rfl _ b2 (wTo n 8) rfl (HW2.out.f.row _)) rfl ⟨rfl, below_setRow HW2.out.b (by have := HW2.out.lt; omega) _⟩
end Go.Proofs.YtkfpoekeofnglaaDoor
