/-
  THE DOCUMENT's SET OF ADDRESSES: Put: a contract.
-/
import Derived.Test.YtdekjfbaoaobeaaAa
import Derived.Test.YtdekjfbaoaobeaaInvG
namespace Go.Proofs.Ytdekjfbaoaobeaa
open Go.RowKit

theorem ls_ne {L : Nat → Bool} {i j : Nat} (h : j ≠ i) : lset L i j = L j := by simp [lset, h]
theorem ls_up {L : Nat → Bool} {i j : Nat} (h : L j = true) : lset L i j = true := by unfold lset; split <;> simp [h]
theorem f_imp {a b : Bool} (h : a = true → b = true) (hb : b = false) : a = false := by
  cases a
  · rfl
  · rw [h rfl] at hb; cases hb

structure PInv (w : World) (b k m : Nat) (xs ys : List Value) (a : Int) (L : Nat → Bool) (v38 v40 v41 v48 : Value) (W' : World) : Prop where
  c6 : L 6 = true → L 4 = true
  c7 : L 7 = true → L 6 = true
  c16 : L 16 = true → L 14 = true
  c17 : L 17 = true → L 16 = true
  e10 : L 10 = true → L 7 = true
  f10 : L 10 = true → L 9 = true
  e17 : L 17 = true → L 10 = true
  e20 : L 20 = true → L 17 = true
  below : L 20 = false → Below w.heap.size w W'
  p7 : L 7 = true → L 10 = false → W'.ownsRow w.heap.size 39 1 v38 k xs
  p9 : L 9 = true → L 10 = false → ∃ g, v40 = .slice (some ⟨g, 0, none⟩) 1 1 ∧ g < W'.heap.size ∧ W'.cell? ⟨g, 0, none⟩ = some (.int .u64 a)
  p10 : L 10 = true → L 17 = false → W'.ownsRow w.heap.size 39 1 v41 (k + 1) (xs ++ [.int .u64 a])
  p17 : L 17 = true → L 20 = false → W'.ownsRow w.heap.size 39 1 v48 (k + 1 + m) (xs ++ [.int .u64 a] ++ ys)
  p20 : L 20 = true → ∃ W1, W' = W1.setCell ⟨b, 0, none⟩ v48 ∧ Below w.heap.size w W1 ∧ W1.ownsRow w.heap.size 39 1 v48 (k + 1 + m) (xs ++ [.int .u64 a] ++ ys)
section
variable {w : World} {b k m : Nat} {xs ys : List Value} {a : Int} {L : Nat → Bool} {v38 v40 v41 v48 : Value} {W' : World}
theorem PInv.init : PInv w b k m xs ys a (fun _ => false) v38 v40 v41 v48 w.drew :=
  ⟨by simp, by simp, by simp, by simp, by simp, by simp, by simp, by simp, fun _ => (Below.refl _ _).drew, by simp, by simp, by simp, by simp, by simp⟩
theorem PInv.other (h : PInv w b k m xs ys a L v38 v40 v41 v48 W') (i : Nat) (h6 : 6 ≠ i) (h7 : 7 ≠ i) (h9 : 9 ≠ i) (h10 : 10 ≠ i) (h16 : 16 ≠ i) (h17 : 17 ≠ i) (h20 : 20 ≠ i) :
    PInv w b k m xs ys a (lset L i) v38 v40 v41 v48 W' := by
  refine ⟨?_, ?_, ?_, ?_, ?_, ?_, ?_, ?_, ?_, ?_, ?_, ?_, ?_, ?_⟩ <;> simp only [ls_ne h6, ls_ne h7, ls_ne h9, ls_ne h10, ls_ne h16, ls_ne h17, ls_ne h20]
  · exact fun x => ls_up (h.c6 x)
  · exact h.c7
  · exact fun x => ls_up (h.c16 x)
  · exact h.c17
  · exact h.e10
  · exact h.f10
  · exact h.e17
  · exact h.e20
  · exact h.below
  · exact h.p7
  · exact h.p9
  · exact h.p10
  · exact h.p17
  · exact h.p20
theorem PInv.s6 (h : PInv w b k m xs ys a L v38 v40 v41 v48 W') (d4 : L 4 = true) : PInv w b k m xs ys a (lset L 6) v38 v40 v41 v48 W' :=
  ⟨by simpa [lset] using d4, by simp [lset], by simpa [lset] using h.c16, by simpa [lset] using h.c17, by simpa [lset] using h.e10, by simpa [lset] using h.f10, by simpa [lset] using h.e17, by simpa [lset] using h.e20, by simpa [lset] using h.below, by simpa [lset] using h.p7, by simpa [lset] using h.p9, by simpa [lset] using h.p10, by simpa [lset] using h.p17, by simpa [lset] using h.p20⟩
theorem PInv.s16 (h : PInv w b k m xs ys a L v38 v40 v41 v48 W') (d14 : L 14 = true) : PInv w b k m xs ys a (lset L 16) v38 v40 v41 v48 W' :=
  ⟨by simpa [lset] using h.c6, by simpa [lset] using h.c7, by simpa [lset] using d14, by simp [lset], by simpa [lset] using h.e10, by simpa [lset] using h.f10, by simpa [lset] using h.e17, by simpa [lset] using h.e20, by simpa [lset] using h.below, by simpa [lset] using h.p7, by simpa [lset] using h.p9, by simpa [lset] using h.p10, by simpa [lset] using h.p17, by simpa [lset] using h.p20⟩
theorem PInv.n7 (h : PInv w b k m xs ys a L v38 v40 v41 v48 W') (h7 : L 7 = false) : L 10 = false ∧ L 17 = false ∧ L 20 = false :=
  ⟨f_imp h.e10 h7, f_imp h.e17 (f_imp h.e10 h7), f_imp h.e20 (f_imp h.e17 (f_imp h.e10 h7))⟩
theorem PInv.n9 (h : PInv w b k m xs ys a L v38 v40 v41 v48 W') (h9 : L 9 = false) : L 10 = false ∧ L 17 = false ∧ L 20 = false :=
  ⟨f_imp h.f10 h9, f_imp h.e17 (f_imp h.f10 h9), f_imp h.e20 (f_imp h.e17 (f_imp h.f10 h9))⟩
theorem PInv.n4 (h : PInv w b k m xs ys a L v38 v40 v41 v48 W') (h4 : L 4 = false) : L 20 = false := (h.n7 (f_imp h.c7 (f_imp h.c6 h4))).2.2
theorem PInv.n14 (h : PInv w b k m xs ys a L v38 v40 v41 v48 W') (h14 : L 14 = false) : L 20 = false := f_imp h.e20 (f_imp h.c17 (f_imp h.c16 h14))
theorem PInv.s7 (h : PInv w b k m xs ys a L v38 v40 v41 v48 W') (h7 : L 7 = false) (d6 : L 6 = true) {v : Value} {W1 : World} (ho : W1.ownsRow w.heap.size 39 1 v k xs) (hg : W'.grownBy W1 none) :
    PInv w b k m xs ys a (lset L 7) v v40 v41 v48 W1 := by
  obtain ⟨h10, h17, h20⟩ := h.n7 h7
  refine ⟨by simpa [lset] using h.c6, by simpa [lset] using d6, by simpa [lset] using h.c16, by simpa [lset] using h.c17, by simp [lset], by simp [lset, h10], by simpa [lset] using h.e17, by simpa [lset] using h.e20, fun _ => (h.below h20).grown hg (h.below h20).size (fun r e => by cases e), fun _ _ => ho, fun h9 _ => ?_, by simp [lset, h10], by simp [lset, h17], by simp [lset, h20]⟩
  obtain ⟨g, e, hlt, hc⟩ := h.p9 (by simpa [lset] using h9) h10
  refine ⟨g, e, Nat.lt_of_lt_of_le hlt hg.size, ?_⟩
  have hb := hg.block g hlt (by simp)
  rw [← hc]
  simp only [World.cell?, hb]
theorem PInv.s9 (h : PInv w b k m xs ys a L v38 v40 v41 v48 W') (h9 : L 9 = false) (t : TypeId) :
    PInv w b k m xs ys a (lset L 9) v38 (.slice (some ⟨W'.heap.size, 0, none⟩) 1 1) v41 v48 (W'.alloc (.cells #[.int .u64 a] t)) := by
  obtain ⟨h10, h17, h20⟩ := h.n9 h9
  refine ⟨by simpa [lset] using h.c6, by simpa [lset] using h.c7, by simpa [lset] using h.c16, by simpa [lset] using h.c17, by simpa [lset] using h.e10, by simp [lset], by simpa [lset] using h.e17, by simpa [lset] using h.e20, fun _ => (h.below h20).alloc (h.below h20).size _, fun h7 _ => (h.p7 (by simpa [lset] using h7) h10).alloc _, fun _ _ => ⟨_, rfl, by simp, ?_⟩, by simp [lset, h10], by simp [lset, h17], by simp [lset, h20]⟩
  rw [(Blk.new W' #[.int .u64 a] t).cell]; rfl
theorem PInv.s10 (h : PInv w b k m xs ys a L v38 v40 v41 v48 W') (h10 : L 10 = false) (d7 : L 7 = true) (d9 : L 9 = true) {v : Value} {W1 : World} (ho : W1.ownsRow w.heap.size 39 1 v (k + 1) (xs ++ [.int .u64 a])) (hg : W'.grownBy W1 v38.ownBlock) :
    PInv w b k m xs ys a (lset L 10) v38 v40 v v48 W1 := by
  have h17 := f_imp h.e17 h10
  have h20 := f_imp h.e20 h17
  exact ⟨by simpa [lset] using h.c6, by simpa [lset] using h.c7, by simpa [lset] using h.c16, by simpa [lset] using h.c17, by simpa [lset] using d7, by simpa [lset] using d9, by simp [lset], by simpa [lset] using h.e20, fun _ => (h.below h20).grown hg (h.below h20).size (fun r e => own_base (h.p7 d7 h10) r e), by simp [lset], by simp [lset], fun _ _ => ho, by simp [lset, h17], by simp [lset, h20]⟩
theorem PInv.s17 (h : PInv w b k m xs ys a L v38 v40 v41 v48 W') (h17 : L 17 = false) (d10 : L 10 = true) (d16 : L 16 = true) {v : Value} {W1 : World} (ho : W1.ownsRow w.heap.size 39 1 v (k + 1 + m) (xs ++ [.int .u64 a] ++ ys)) (hg : W'.grownBy W1 v41.ownBlock) :
    PInv w b k m xs ys a (lset L 17) v38 v40 v41 v W1 := by
  have h20 := f_imp h.e20 h17
  exact ⟨by simpa [lset] using h.c6, by simpa [lset] using h.c7, by simpa [lset] using h.c16, by simpa [lset] using d16, by simpa [lset] using h.e10, by simpa [lset] using h.f10, by simpa [lset] using d10, by simp [lset], fun _ => (h.below h20).grown hg (h.below h20).size (fun r e => own_base (h.p10 d10 h17) r e), fun _ x => by simp [lset, d10] at x, fun _ x => by simp [lset, d10] at x, by simp [lset], fun _ _ => ho, by simp [lset, h20]⟩
theorem PInv.s20 (h : PInv w b k m xs ys a L v38 v40 v41 v48 W') (h20 : L 20 = false) (d17 : L 17 = true) : PInv w b k m xs ys a (lset L 20) v38 v40 v41 v48 (W'.setCell ⟨b, 0, none⟩ v48) := by
  have d10 := h.e17 d17
  exact ⟨by simpa [lset] using h.c6, by simpa [lset] using h.c7, by simpa [lset] using h.c16, by simpa [lset] using h.c17, by simpa [lset] using h.e10, by simpa [lset] using h.f10, by simpa [lset] using h.e17, by simpa [lset] using d17, by simp [lset], fun _ x => by simp [lset, d10] at x, fun _ x => by simp [lset, d10] at x, fun _ x => by simp [lset, d17] at x, by simp [lset], fun _ => ⟨W', rfl, h.below h20, h.p17 d17 h20⟩⟩
end
end Go.Proofs.Ytdekjfbaoaobeaa
namespace Go.Proofs.Ytdekjfbaoaobeaa
open Go.RowKit
set_option linter.unusedSimpArgs false

theorem Reads.take {w : World} {B : Nat} {A : Option Addr} {n : Nat} {xs : List Value} (h : Reads w B 1 A n xs) {k : Nat} (hk : k ≤ n) : Reads w B 1 A k (xs.take k) := by
  refine ⟨by have := h.1; simp; omega, fun h0 => ?_⟩
  obtain ⟨ad, e, hb, hc⟩ := h.2 (by omega)
  refine ⟨ad, e, hb, fun j u hu => ?_⟩
  rcases Nat.lt_or_ge j k with hj | hj
  · rw [List.getElem?_take_of_lt hj] at hu; exact hc j u hu
  · rw [List.getElem?_take_eq_none hj] at hu; cases hu

theorem aput_zero (b : Nat) (w : World) :
    Calls Try.prog 29 #[.pointer (some ⟨b, 0, none⟩), .int .u64 0] w fun e w' => e = .returned (.int .i64 2) ∧ w = w' := by
  go_enter Try.func29, Try.ntmps29
  go_wp2_with (fail)
  go_ret
  exact ⟨rfl, rfl⟩
theorem aput_in (b : Nat) (v : Value) (l : List Int) (a : Int) (w : World) (h : AddV w b v l) (hn : l.length ≤ 1000000) (ha : a ≠ 0) (hm : a ∈ l) :
    Calls Try.prog 29 #[.pointer (some ⟨b, 0, none⟩), .int .u64 a] w fun e w' => e = .returned (.int .i64 0) ∧ w = w' := by
  have HH := Lib.hid (ahas_v b v l a w h hn)
  rw [decide_eq_true hm] at HH
  clear h hm
  have h0 : (a == 0) = false := by simpa using ha
  clear ha
  go_enter Try.func29, Try.ntmps29
  go_wp2_with (go_at_call 34; refine HH.out.mono ?_; rintro e w' ⟨rfl, rfl⟩)
  go_ret
  exact ⟨rfl, rfl⟩

theorem own_cap {w : World} {base : Nat} {e : TypeId} {size : Nat} {A : Option Addr} {m cap n : Nat} {xs : List Value} (h : w.ownsRow base e size (.slice A m cap) n xs) : n ≤ cap := by
  obtain ⟨_, ⟨e, rfl⟩ | ⟨_, cap', _, e, _, _, h1, _⟩⟩ := h
  · exact Nat.zero_le _
  · cases e; exact h1
theorem one_take (k : Nat) (l : List Int) : ∀ u ∈ (l.map (Value.int .u64)).take k, u.oneCell' = true := fun u hu => ints_oneCell .u64 l u (List.mem_of_mem_take hu)
theorem one_drop (k : Nat) (l : List Int) : ∀ u ∈ (l.map (Value.int .u64)).drop k, u.oneCell' = true := fun u hu => ints_oneCell .u64 l u (List.mem_of_mem_drop hu)
theorem cell_one_new0 (w : World) (v : Value) (t : TypeId) : (w.alloc (.cells #[v] t)).cell? ⟨w.heap.size, 0, none⟩ = some v := by
  rw [(Blk.new w #[v] t).cell]; rfl
theorem reads_one {w : World} {g : Nat} {v : Value} (h : w.cell? ⟨g, 0, none⟩ = some v) : Reads w (g + 1) 1 (some ⟨g, 0, none⟩) 1 [v] :=
  ⟨rfl, fun _ => ⟨_, rfl, Nat.lt_succ_self _, fun j u hu => by
    cases j with
    | zero => simp at hu; subst hu; exact h
    | succ j => simp at hu⟩⟩
/-- where a goes in a rising list -/
def PutAt (l : List Int) (a : Int) (k : Nat) : Prop := k ≤ l.length ∧ (∀ j, j < k → l.getD j 0 < a) ∧ (k < l.length → ¬ l.getD k 0 < a)


theorem own_cast {w : World} {base : Nat} {e : TypeId} {v : Value} {n n' : Nat} {xs xs' : List Value} (h : w.ownsRow base e 1 v n xs) (h1 : n = n') (h2 : xs = xs') : w.ownsRow base e 1 v n' xs' := by rw [← h1, ← h2]; exact h
theorem put_cut {w : World} {B g n k C : Nat} {xs : List Value} (h : Reads w B 1 (some ⟨g, 0, none⟩) n xs) (hk : k ≤ n) (hC : n ≤ C) (h8 : ¬ C = k) : Reads w B 1 (some ⟨g, k, none⟩) (n - k) (xs.drop k) := by
  have := h.cut (cap := C) hk hC
  rw [if_neg h8] at this
  have e1 : (⟨g, 0, none⟩ : Addr).add k = ⟨g, 0 + k, none⟩ := by unfold Addr.add; split; (rename_i h; subst h; rfl); rfl
  simpa [e1] using this
def psPut (bp S ki S37 S47 a : Value) : List (Value → World → Prop) :=
  [Is bp, Is bp, Is bp, Is bp, Is S, Is ki, Is S37, Any, Is a, Any, Any, Is bp, Is bp, Is bp, Is S, Is ki, Is S47, Any, Is bp, Is bp]
theorem vals_ge {L : Nat → Bool} {W : World} {j : Nat} : ∀ {k : Nat} {ps : List (Value → World → Prop)} {vs : List Value}, k + ps.length ≤ j → Vals L W k ps vs → Vals (lset L j) W k ps vs
  | _, [], [], _, _ => trivial
  | k, p :: ps, v :: vs, hj, h => by
    simp only [List.length_cons] at hj
    exact ⟨fun hk => h.1 (by simpa [lset, show k ≠ j by omega] using hk), vals_ge (by omega) h.2⟩
  | _, [], _ :: _, _, h => h.elim
  | _, _ :: _, [], _, h => h.elim
theorem vals_off20 {L : Nat → Bool} {W : World} {bp S ki S37 S47 a : Value} {vs : List Value} (h : Vals L W 0 (psPut bp S ki S37 S47 a) vs) : Vals (lset L 20) W 0 (psPut bp S ki S37 S47 a) vs := vals_ge (by simp [psPut]) h

--GEN
--END
set_option maxRecDepth 100000 in
set_option maxHeartbeats 4000000 in
theorem aput_new_nil (b : Nat) (a : Int) (w : World) (h : AddV w b (.slice none 0 0) []) (ha : a ≠ 0) :
    Calls Try.prog 29 #[.pointer (some ⟨b, 0, none⟩), .int .u64 a] w fun e w' => e = .returned (.int .i64 0) ∧ ∃ k, PutAt [] a k ∧ ASetP b (.slice none 0 0) (([] : List Int).take k ++ a :: ([] : List Int).drop k) w w' := by
  obtain ⟨i0, hi, hz0, hz1, hz2⟩ := info_parts Try.infoA
  have HH := Lib.hid (ahas_v b _ [] a w h (by simp))
  rw [decide_eq_false (by simp)] at HH
  have hc := h.cell
  have H := Lib.hid h
  have hbl := H.out.blk.lt
  have hfz := H.out.blk.frozen 0
  have h0 : (a == 0) = false := by simpa using ha
  obtain ⟨l, hl⟩ : ∃ l : List Int, l = [] := ⟨_, rfl⟩
  have HP := Lib.hid (show PutAt [] a 0 from ⟨Nat.le_refl _, fun j hj => absurd hj (Nat.not_lt_zero _), fun h => by simp at h⟩)
  have HL := Lib.hid hl
  clear h ha hl
  go_enter Try.func29, Try.ntmps29
  go_wp2_with (go_at_call 34; refine HH.out.mono ?_; rintro e w' ⟨rfl, rfl⟩)
  refine wp_loop_rounds 1 ?_
  rw [rounds_succ]
  obtain ⟨xs, hxs⟩ : ∃ xs : List Value, xs = [] := ⟨_, rfl⟩
  obtain ⟨ys, hys⟩ : ∃ ys : List Value, ys = [] := ⟨_, rfl⟩
  have HXY := Lib.hid (And.intro hxs hys)
  have HT := Lib.hid (show Reads w w.heap.size 1 none 0 xs by rw [hxs]; exact Reads.none_)
  have HC := Lib.hid (show Reads w w.heap.size 1 none 0 ys by rw [hys]; exact Reads.none_)
  have HX1 := Lib.hid (show ∀ u ∈ xs, u.oneCell' = true by rw [hxs]; simp)
  have HY1 := Lib.hid (show ∀ u ∈ ys, u.oneCell' = true by rw [hys]; simp)
  clear hxs hys
  go_wp2_with (fail)
  refine wp_region_inv (fun L' a' W' => ∃ v31 v32 v33 v34 v35 v36 v37 v38 v39 v40 v41 v42 v43 v44 v45 v46 v47 v48 v49 v50, a' = { tmps := #[.pointer (some ⟨b, 0, none⟩), .int .u64 a, undef, undef, .int .i64 0, .int .i64 0, .int .u64 a, .bool false, .pointer (some ⟨b, 0, none⟩), .int .u64 a, .bool false, .int .i64 0, .pointer (some ⟨b,0,none⟩), .pointer (some ⟨b,0,none⟩), .pointer (some ⟨b,0,none⟩), .slice none 0 0, .int .i64 0, .bool false, .bool false, undef, undef, undef, undef, undef, undef, undef, undef, undef, .bool false, undef, undef, v31, v32, v33, v34, v35, v36, v37, v38, v39, v40, v41, v42, v43, v44, v45, v46, v47, v48, v49, v50], defers := [] } ∧ Vals L' w 0 (psPut (.pointer (some ⟨b, 0, none⟩)) (.slice none 0 0) (.int .i64 0) (.slice none 0 0) (.slice none 0 0) (.int .u64 a)) [v31, v32, v33, v34, v35, v36, v37, v38, v39, v40, v41, v42, v43, v44, v45, v46, v47, v48, v49, v50] ∧ PInv w b 0 0 xs ys a L' v38 v40 v41 v48 W') (by kernel_rfl) (by kernel_rfl) (by kernel_rfl) ?h0 ⟨?o0, ?o1, ?o2, ?o3, ?o4, ?o5, ?o6, ?o7, ?o8, ?o9, ?o10, ?o11, ?o12, ?o13, ?o14, ?o15, ?o16, ?o17, ?o18, ?o19, ?o20, trivial⟩ ?he
  case h0 => exact ⟨undef, undef, undef, undef, undef, undef, undef, undef, undef, undef, undef, undef, undef, undef, undef, undef, undef, undef, undef, undef, rfl, Vals.none _ _ _ rfl, PInv.init⟩
  case o0 =>
    rintro L' a' W' ⟨v31, v32, v33, v34, v35, v36, v37, v38, v39, v40, v41, v42, v43, v44, v45, v46, v47, v48, v49, v50, rfl, hV, hI⟩ hL hd K hK
    have HV := Lib.hid (hV.set 0 (.pointer (some ⟨b, 0, none⟩)) rfl rfl)
    have HI := Lib.hid (hI.other 0 (by decide) (by decide) (by decide) (by decide) (by decide) (by decide) (by decide))
    have HK := Lib.hid hK
    clear hV hI hd hK
    go_wp2
    exact HK.out _ _ ⟨_, _, _, _, _, _, _, _, _, _, _, _, _, _, _, _, _, _, _, _, rfl, HV.out, HI.out⟩
  case o1 =>
    rintro L' a' W' ⟨v31, v32, v33, v34, v35, v36, v37, v38, v39, v40, v41, v42, v43, v44, v45, v46, v47, v48, v49, v50, rfl, hV, hI⟩ hL hd K hK
    have HV := Lib.hid (hV.set 1 (.pointer (some ⟨b, 0, none⟩)) rfl rfl)
    have HI := Lib.hid (hI.other 1 (by decide) (by decide) (by decide) (by decide) (by decide) (by decide) (by decide))
    have HK := Lib.hid hK
    clear hV hI hd hK
    go_wp2
    exact HK.out _ _ ⟨_, _, _, _, _, _, _, _, _, _, _, _, _, _, _, _, _, _, _, _, rfl, HV.out, HI.out⟩
  case o2 =>
    rintro L' a' W' ⟨v31, v32, v33, v34, v35, v36, v37, v38, v39, v40, v41, v42, v43, v44, v45, v46, v47, v48, v49, v50, rfl, hV, hI⟩ hL hd K hK
    have e1 := hV.get 1 rfl rfl (deps_of' hd 1 (by kernel_rfl))
    have HV := Lib.hid (hV.set 2 (.pointer (some ⟨b, 0, none⟩)) rfl rfl)
    have HI := Lib.hid (hI.other 2 (by decide) (by decide) (by decide) (by decide) (by decide) (by decide) (by decide))
    have HK := Lib.hid hK
    clear hV hI hd hK
    unfold Is at e1
    subst e1
    go_wp2
    exact HK.out _ _ ⟨_, _, _, _, _, _, _, _, _, _, _, _, _, _, _, _, _, _, _, _, rfl, HV.out, HI.out⟩
  case o3 =>
    rintro L' a' W' ⟨v31, v32, v33, v34, v35, v36, v37, v38, v39, v40, v41, v42, v43, v44, v45, v46, v47, v48, v49, v50, rfl, hV, hI⟩ hL hd K hK
    have e2 := hV.get 2 rfl rfl (deps_of' hd 2 (by kernel_rfl))
    have HV := Lib.hid (hV.set 3 (.pointer (some ⟨b, 0, none⟩)) rfl rfl)
    have HI := Lib.hid (hI.other 3 (by decide) (by decide) (by decide) (by decide) (by decide) (by decide) (by decide))
    have HK := Lib.hid hK
    clear hV hI hd hK
    unfold Is at e2
    subst e2
    go_wp2
    exact HK.out _ _ ⟨_, _, _, _, _, _, _, _, _, _, _, _, _, _, _, _, _, _, _, _, rfl, HV.out, HI.out⟩
  case o4 =>
    rintro L' a' W' ⟨v31, v32, v33, v34, v35, v36, v37, v38, v39, v40, v41, v42, v43, v44, v45, v46, v47, v48, v49, v50, rfl, hV, hI⟩ hL hd K hK
    have e3 := hV.get 3 rfl rfl (deps_of' hd 3 (by kernel_rfl))
    have hcW := ((hI.below (hI.n4 hL)).cell (p := ⟨b, 0, none⟩) hbl).trans hc
    have HV := Lib.hid (hV.set 4 ((.slice none 0 0)) rfl rfl)
    have HI := Lib.hid (hI.other 4 (by decide) (by decide) (by decide) (by decide) (by decide) (by decide) (by decide))
    have HK := Lib.hid hK
    clear hV hI hd hK
    unfold Is at e3
    subst e3
    go_wp2
    exact HK.out _ _ ⟨_, _, _, _, _, _, _, _, _, _, _, _, _, _, _, _, _, _, _, _, rfl, HV.out, HI.out⟩
  case o5 =>
    rintro L' a' W' ⟨v31, v32, v33, v34, v35, v36, v37, v38, v39, v40, v41, v42, v43, v44, v45, v46, v47, v48, v49, v50, rfl, hV, hI⟩ hL hd K hK
    have HV := Lib.hid (hV.set 5 (.int .i64 0) rfl rfl)
    have HI := Lib.hid (hI.other 5 (by decide) (by decide) (by decide) (by decide) (by decide) (by decide) (by decide))
    have HK := Lib.hid hK
    clear hV hI hd hK
    go_wp2
    exact HK.out _ _ ⟨_, _, _, _, _, _, _, _, _, _, _, _, _, _, _, _, _, _, _, _, rfl, HV.out, HI.out⟩
  case o6 =>
    rintro L' a' W' ⟨v31, v32, v33, v34, v35, v36, v37, v38, v39, v40, v41, v42, v43, v44, v45, v46, v47, v48, v49, v50, rfl, hV, hI⟩ hL hd K hK
    have e4 := hV.get 4 rfl rfl (deps_of' hd 4 (by kernel_rfl))
    have e5 := hV.get 5 rfl rfl (deps_of' hd 5 (by kernel_rfl))
    have HV := Lib.hid (hV.set 6 (.slice none 0 0) rfl rfl)
    have HI := Lib.hid (hI.s6 (deps_of' hd 4 (by kernel_rfl)))
    have HK := Lib.hid hK
    clear hV hI hd hK
    unfold Is at e4
    subst e4
    unfold Is at e5
    subst e5
    go_wp2
    exact HK.out _ _ ⟨_, _, _, _, _, _, _, _, _, _, _, _, _, _, _, _, _, _, _, _, rfl, HV.out, HI.out⟩
  case o7 =>
    rintro L' a' W' ⟨v31, v32, v33, v34, v35, v36, v37, v38, v39, v40, v41, v42, v43, v44, v45, v46, v47, v48, v49, v50, rfl, hV, hI⟩ hL hd K hK
    have e6 := hV.get 6 rfl rfl (deps_of' hd 6 (by kernel_rfl))
    have bel := hI.below (hI.n7 hL).2.2
    refine wp_append_any W' (.const (.slice none 0 0)) (.tmp 37) 35 rfl w.heap.size 39 i0 _ 1 8 Try.underlying35 hi hz0 hz1 hz2 rfl (by omega) (.slice none 0 0) 0 [] rfl (World.ownsRow_nil _ _ _ _) w.heap.size _ 0 _ xs (by unfold Is at e6; rw [e6]; rfl) (HT.out.below bel) HX1.out (by unfold maxLen; omega) (by omega) bel.size ?_
    intro v' w' hown hg hat
    exact hK _ _ ⟨_, _, _, _, _, _, _, _, _, _, _, _, _, _, _, _, _, _, _, _, rfl, hV.set 7 v' rfl trivial, hI.s7 hL (deps_of' hd 6 (by kernel_rfl)) (by simpa using hown) hg⟩
  case o8 =>
    rintro L' a' W' ⟨v31, v32, v33, v34, v35, v36, v37, v38, v39, v40, v41, v42, v43, v44, v45, v46, v47, v48, v49, v50, rfl, hV, hI⟩ hL hd K hK
    have HV := Lib.hid (hV.set 8 (.int .u64 a) rfl rfl)
    have HI := Lib.hid (hI.other 8 (by decide) (by decide) (by decide) (by decide) (by decide) (by decide) (by decide))
    have HK := Lib.hid hK
    clear hV hI hd hK
    go_wp2
    exact HK.out _ _ ⟨_, _, _, _, _, _, _, _, _, _, _, _, _, _, _, _, _, _, _, _, rfl, HV.out, HI.out⟩
  case o9 =>
    rintro L' a' W' ⟨v31, v32, v33, v34, v35, v36, v37, v38, v39, v40, v41, v42, v43, v44, v45, v46, v47, v48, v49, v50, rfl, hV, hI⟩ hL hd K hK
    have e8 := hV.get 8 rfl rfl (deps_of' hd 8 (by kernel_rfl))
    have HV := Lib.hid (hV.set 9 (.slice (some ⟨W'.heap.size, 0, none⟩) 1 1) rfl trivial)
    have HI := Lib.hid (hI.s9 hL 39)
    have HK := Lib.hid hK
    clear hV hI hd hK
    unfold Is at e8
    subst e8
    go_wp2
    exact HK.out _ _ ⟨_, _, _, _, _, _, _, _, _, _, _, _, _, _, _, _, _, _, _, _, rfl, HV.out, HI.out⟩
  case o10 =>
    rintro L' a' W' ⟨v31, v32, v33, v34, v35, v36, v37, v38, v39, v40, v41, v42, v43, v44, v45, v46, v47, v48, v49, v50, rfl, hV, hI⟩ hL hd K hK
    have d7 := deps_of' hd 7 (by kernel_rfl)
    have d9 := deps_of' hd 9 (by kernel_rfl)
    have bel := hI.below (f_imp hI.e20 (f_imp hI.e17 hL))
    obtain ⟨g, e40, _, hcg⟩ := hI.p9 d9 hL
    refine wp_append_any W' (.tmp 38) (.tmp 40) 35 rfl w.heap.size 39 i0 _ 1 8 Try.underlying35 hi hz0 hz1 hz2 rfl (by omega) v38 0 xs rfl (hI.p7 d7 hL) (g + 1) (some ⟨g, 0, none⟩) 1 1 [.int .u64 a] (by rw [e40]; rfl) (reads_one hcg) (ints_oneCell .u64 [a]) (by unfold maxLen; omega) (by omega) bel.size ?_
    intro v' w' hown hg hat
    exact hK _ _ ⟨_, _, _, _, _, _, _, _, _, _, _, _, _, _, _, _, _, _, _, _, rfl, hV.set 10 v' rfl trivial, hI.s10 hL d7 d9 hown hg⟩
  case o11 =>
    rintro L' a' W' ⟨v31, v32, v33, v34, v35, v36, v37, v38, v39, v40, v41, v42, v43, v44, v45, v46, v47, v48, v49, v50, rfl, hV, hI⟩ hL hd K hK
    have HV := Lib.hid (hV.set 11 (.pointer (some ⟨b, 0, none⟩)) rfl rfl)
    have HI := Lib.hid (hI.other 11 (by decide) (by decide) (by decide) (by decide) (by decide) (by decide) (by decide))
    have HK := Lib.hid hK
    clear hV hI hd hK
    go_wp2
    exact HK.out _ _ ⟨_, _, _, _, _, _, _, _, _, _, _, _, _, _, _, _, _, _, _, _, rfl, HV.out, HI.out⟩
  case o12 =>
    rintro L' a' W' ⟨v31, v32, v33, v34, v35, v36, v37, v38, v39, v40, v41, v42, v43, v44, v45, v46, v47, v48, v49, v50, rfl, hV, hI⟩ hL hd K hK
    have e11 := hV.get 11 rfl rfl (deps_of' hd 11 (by kernel_rfl))
    have HV := Lib.hid (hV.set 12 (.pointer (some ⟨b, 0, none⟩)) rfl rfl)
    have HI := Lib.hid (hI.other 12 (by decide) (by decide) (by decide) (by decide) (by decide) (by decide) (by decide))
    have HK := Lib.hid hK
    clear hV hI hd hK
    unfold Is at e11
    subst e11
    go_wp2
    exact HK.out _ _ ⟨_, _, _, _, _, _, _, _, _, _, _, _, _, _, _, _, _, _, _, _, rfl, HV.out, HI.out⟩
  case o13 =>
    rintro L' a' W' ⟨v31, v32, v33, v34, v35, v36, v37, v38, v39, v40, v41, v42, v43, v44, v45, v46, v47, v48, v49, v50, rfl, hV, hI⟩ hL hd K hK
    have e12 := hV.get 12 rfl rfl (deps_of' hd 12 (by kernel_rfl))
    have HV := Lib.hid (hV.set 13 (.pointer (some ⟨b, 0, none⟩)) rfl rfl)
    have HI := Lib.hid (hI.other 13 (by decide) (by decide) (by decide) (by decide) (by decide) (by decide) (by decide))
    have HK := Lib.hid hK
    clear hV hI hd hK
    unfold Is at e12
    subst e12
    go_wp2
    exact HK.out _ _ ⟨_, _, _, _, _, _, _, _, _, _, _, _, _, _, _, _, _, _, _, _, rfl, HV.out, HI.out⟩
  case o14 =>
    rintro L' a' W' ⟨v31, v32, v33, v34, v35, v36, v37, v38, v39, v40, v41, v42, v43, v44, v45, v46, v47, v48, v49, v50, rfl, hV, hI⟩ hL hd K hK
    have e13 := hV.get 13 rfl rfl (deps_of' hd 13 (by kernel_rfl))
    have hcW := ((hI.below (hI.n14 hL)).cell (p := ⟨b, 0, none⟩) hbl).trans hc
    have HV := Lib.hid (hV.set 14 ((.slice none 0 0)) rfl rfl)
    have HI := Lib.hid (hI.other 14 (by decide) (by decide) (by decide) (by decide) (by decide) (by decide) (by decide))
    have HK := Lib.hid hK
    clear hV hI hd hK
    unfold Is at e13
    subst e13
    go_wp2
    exact HK.out _ _ ⟨_, _, _, _, _, _, _, _, _, _, _, _, _, _, _, _, _, _, _, _, rfl, HV.out, HI.out⟩
  case o15 =>
    rintro L' a' W' ⟨v31, v32, v33, v34, v35, v36, v37, v38, v39, v40, v41, v42, v43, v44, v45, v46, v47, v48, v49, v50, rfl, hV, hI⟩ hL hd K hK
    have HV := Lib.hid (hV.set 15 (.int .i64 0) rfl rfl)
    have HI := Lib.hid (hI.other 15 (by decide) (by decide) (by decide) (by decide) (by decide) (by decide) (by decide))
    have HK := Lib.hid hK
    clear hV hI hd hK
    go_wp2
    exact HK.out _ _ ⟨_, _, _, _, _, _, _, _, _, _, _, _, _, _, _, _, _, _, _, _, rfl, HV.out, HI.out⟩
  case o16 =>
    rintro L' a' W' ⟨v31, v32, v33, v34, v35, v36, v37, v38, v39, v40, v41, v42, v43, v44, v45, v46, v47, v48, v49, v50, rfl, hV, hI⟩ hL hd K hK
    have e14 := hV.get 14 rfl rfl (deps_of' hd 14 (by kernel_rfl))
    have e15 := hV.get 15 rfl rfl (deps_of' hd 15 (by kernel_rfl))
    have HV := Lib.hid (hV.set 16 (.slice none 0 0) rfl rfl)
    have HI := Lib.hid (hI.s16 (deps_of' hd 14 (by kernel_rfl)))
    have HK := Lib.hid hK
    clear hV hI hd hK
    unfold Is at e14
    subst e14
    unfold Is at e15
    subst e15
    go_wp2
    exact HK.out _ _ ⟨_, _, _, _, _, _, _, _, _, _, _, _, _, _, _, _, _, _, _, _, rfl, HV.out, HI.out⟩
  case o17 =>
    rintro L' a' W' ⟨v31, v32, v33, v34, v35, v36, v37, v38, v39, v40, v41, v42, v43, v44, v45, v46, v47, v48, v49, v50, rfl, hV, hI⟩ hL hd K hK
    have e16 := hV.get 16 rfl rfl (deps_of' hd 16 (by kernel_rfl))
    have d10 := deps_of' hd 10 (by kernel_rfl)
    have bel := hI.below (f_imp hI.e20 hL)
    refine wp_append_any W' (.tmp 41) (.tmp 47) 35 rfl w.heap.size 39 i0 _ 1 8 Try.underlying35 hi hz0 hz1 hz2 rfl (by omega) v41 (0 + 1) (xs ++ [.int .u64 a]) rfl (hI.p10 d10 hL) w.heap.size _ 0 _ ys (by unfold Is at e16; rw [e16]; rfl) (HC.out.below bel) HY1.out (by unfold maxLen; omega) (by omega) bel.size ?_
    intro v' w' hown hg hat
    exact hK _ _ ⟨_, _, _, _, _, _, _, _, _, _, _, _, _, _, _, _, _, _, _, _, rfl, hV.set 17 v' rfl trivial, hI.s17 hL d10 (deps_of' hd 16 (by kernel_rfl)) hown hg⟩
  case o18 =>
    rintro L' a' W' ⟨v31, v32, v33, v34, v35, v36, v37, v38, v39, v40, v41, v42, v43, v44, v45, v46, v47, v48, v49, v50, rfl, hV, hI⟩ hL hd K hK
    have e0 := hV.get 0 rfl rfl (deps_of' hd 0 (by kernel_rfl))
    have HV := Lib.hid (hV.set 18 (.pointer (some ⟨b, 0, none⟩)) rfl rfl)
    have HI := Lib.hid (hI.other 18 (by decide) (by decide) (by decide) (by decide) (by decide) (by decide) (by decide))
    have HK := Lib.hid hK
    clear hV hI hd hK
    unfold Is at e0
    subst e0
    go_wp2
    exact HK.out _ _ ⟨_, _, _, _, _, _, _, _, _, _, _, _, _, _, _, _, _, _, _, _, rfl, HV.out, HI.out⟩
  case o19 =>
    rintro L' a' W' ⟨v31, v32, v33, v34, v35, v36, v37, v38, v39, v40, v41, v42, v43, v44, v45, v46, v47, v48, v49, v50, rfl, hV, hI⟩ hL hd K hK
    have e18 := hV.get 18 rfl rfl (deps_of' hd 18 (by kernel_rfl))
    have HV := Lib.hid (hV.set 19 (.pointer (some ⟨b, 0, none⟩)) rfl rfl)
    have HI := Lib.hid (hI.other 19 (by decide) (by decide) (by decide) (by decide) (by decide) (by decide) (by decide))
    have HK := Lib.hid hK
    clear hV hI hd hK
    unfold Is at e18
    subst e18
    go_wp2
    exact HK.out _ _ ⟨_, _, _, _, _, _, _, _, _, _, _, _, _, _, _, _, _, _, _, _, rfl, HV.out, HI.out⟩
  case o20 =>
    rintro L' a' W' ⟨v31, v32, v33, v34, v35, v36, v37, v38, v39, v40, v41, v42, v43, v44, v45, v46, v47, v48, v49, v50, rfl, hV, hI⟩ hL hd K hK
    have e19 := hV.get 19 rfl rfl (deps_of' hd 19 (by kernel_rfl))
    have d17 := deps_of' hd 17 (by kernel_rfl)
    have hcW := ((hI.below hL).cell (p := ⟨b, 0, none⟩) hbl).trans hc
    have hfW := ((hI.below hL).frozen (p := ⟨b, 0, none⟩) hbl).trans hfz
    obtain ⟨x1, x2, x3, e48⟩ := own_slice (hI.p17 d17 hL)
    have HV := Lib.hid (vals_off20 hV)
    have HI := Lib.hid (hI.s20 hL d17)
    have HK := Lib.hid hK
    clear hV hI hd hK
    unfold Is at e19
    subst e19
    subst e48
    go_wp2
    exact HK.out _ _ ⟨_, _, _, _, _, _, _, _, _, _, _, _, _, _, _, _, _, _, _, _, rfl, HV.out, HI.out⟩
  case he =>
    rintro L' a' W' ⟨v31, v32, v33, v34, v35, v36, v37, v38, v39, v40, v41, v42, v43, v44, v45, v46, v47, v48, v49, v50, rfl, hV, hI⟩ hall
    obtain ⟨W1, rfl, hB1, hO1⟩ := hI.p20 (hall 20 (by decide))
    have HB1 := Lib.hid hB1
    have HO1 := Lib.hid hO1
    clear hV hI hall hB1 hO1
    go_wp2_with (fail)
    go_ret
    refine ⟨rfl, 0, HP.out, H.out.put HB1.out ?_⟩
    have h3 := HO1.out
    rw [HXY.out.1, HXY.out.2] at h3
    exact own_cast h3 (by simp <;> omega) (by simp [List.map_take, List.map_drop])

set_option maxRecDepth 100000 in
set_option maxHeartbeats 4000000 in
theorem aput_new_some (b g C : Nat) (l : List Int) (a : Int) (w : World) (h : AddV w b (.slice (some ⟨g, 0, none⟩) l.length C) l) (hn : l.length ≤ 1000000) (hC : l.length ≤ C) (hC2 : C ≤ maxLen) (ha : a ≠ 0) (hm : a ∉ l) :
    Calls Try.prog 29 #[.pointer (some ⟨b, 0, none⟩), .int .u64 a] w fun e w' => e = .returned (.int .i64 0) ∧ ∃ k, PutAt l a k ∧ ASetP b (.slice (some ⟨g, 0, none⟩) l.length C) (l.take k ++ a :: l.drop k) w w' := by
  obtain ⟨i0, hi, hz0, hz1, hz2⟩ := info_parts Try.infoA
  have HH := Lib.hid (ahas_v b _ l a w h hn)
  rw [decide_eq_false hm] at HH
  have hc := h.cell
  have H := Lib.hid h
  have hbl := H.out.blk.lt
  have hfz := H.out.blk.frozen 0
  have h0 : (a == 0) = false := by simpa using ha
  have hRD := Lib.hid (Reads.of_own (own_mono (base' := 0) h.row (Nat.le_refl _)))
  unfold maxLen at hC2
  clear h ha hm
  go_enter Try.func29, Try.ntmps29
  go_wp2_with (go_at_call 34; refine HH.out.mono ?_; rintro e w' ⟨rfl, rfl⟩)
  go_loopw [5] (fun jv wr => ∃ k : Nat, jv = .int .i64 k ∧ k ≤ l.length ∧ wr = w ∧ ∀ j, j < k → l.getD j 0 < a) (fun jv _ => l.length - (intOf jv).toNat)
  case atStart => exact ⟨0, rfl, Nat.zero_le _, rfl, fun j hj => absurd hj (Nat.not_lt_zero _)⟩
  case round =>
    obtain ⟨k, rfl, hk, rfl, hno⟩ := hrel
    have HN := Lib.hid hno
    clear hno
    by_cases hlt : k < l.length
    · obtain ⟨g', cap, e, c2⟩ := H.out.at hlt
      simp at e
      obtain ⟨rfl, rfl⟩ := e
      obtain ⟨x, hx⟩ : ∃ x, l.getD k 0 = x := ⟨_, rfl⟩
      rw [hx] at c2
      have HX := Lib.hid hx
      have b1 : (k : Int) < (l.length : Int) := by omega
      have b3 : ((k : Int)).toNat = k := by omega
      have HLT := Lib.hid hlt
      clear hx hlt
      by_cases hxa : x < a
      · have HXA := Lib.hid hxa
        go_wp2_with (fail)
        go_roundw
        case rel =>
          refine ⟨k + 1, by go_num, HLT.out, by first | rfl | trivial, fun j hj => ?_⟩
          by_cases e : j = k
          · subst e; rw [HX.out]; exact HXA.out
          · exact HN.out j (by omega)
        case measure => have := HLT.out; simp [intOf]; omega
      · have HXA := Lib.hid hxa
        obtain ⟨w, ew⟩ : ∃ w, w = wr := ⟨_, rfl⟩
        subst ew
        obtain ⟨xs, hxs⟩ : ∃ xs : List Value, xs = (l.take k).map (Value.int .u64) := ⟨_, rfl⟩
        obtain ⟨ys, hys⟩ : ∃ ys : List Value, ys = (l.drop k).map (Value.int .u64) := ⟨_, rfl⟩
        have HXY := Lib.hid (And.intro hxs hys)
        have HT := Lib.hid (show Reads w w.heap.size 1 (some ⟨g, 0, none⟩) k xs by rw [hxs, List.map_take]; exact hRD.out.take hk)
        have HX1 := Lib.hid (show ∀ u ∈ xs, u.oneCell' = true by rw [hxs]; exact ints_oneCell .u64 _)
        have HY1 := Lib.hid (show ∀ u ∈ ys, u.oneCell' = true by rw [hys]; exact ints_oneCell .u64 _)
        have b4 : (k : Int) ≤ (C : Int) := by omega
        have b5 : (k : Int) ≤ (l.length : Int) := by omega
        have b6 : (k : Int) < (C : Int) := by omega
        have b7 : (C : Int) ≤ 9223372036854775807 := by omega
        have b8 : ¬ C = k := by omega
        have HP := Lib.hid (show PutAt l a k from ⟨hk, HN.out, fun _ => by rw [HX.out]; exact hxa⟩)
        have HC := Lib.hid (show Reads w w.heap.size 1 (some ⟨g, k, none⟩) (l.length - k) ys from by
          rw [hys, List.map_drop]
          exact put_cut hRD.out hk hC b8)
        clear hxs hys
        go_wp2_with (fail)
        clear hxa
        refine wp_region_inv (fun L' a' W' => ∃ v31 v32 v33 v34 v35 v36 v37 v38 v39 v40 v41 v42 v43 v44 v45 v46 v47 v48 v49 v50, a' = { tmps := #[.pointer (some ⟨b, 0, none⟩), .int .u64 a, undef, undef, .int .i64 0, .int .i64 k, .int .u64 a, .bool false, .pointer (some ⟨b, 0, none⟩), .int .u64 a, .bool false, .int .i64 k, .pointer (some ⟨b,0,none⟩), .pointer (some ⟨b,0,none⟩), .pointer (some ⟨b,0,none⟩), .slice (some ⟨g,0,none⟩) l.length C, .int .i64 l.length, .bool true, .bool true, .pointer (some ⟨b,0,none⟩), .pointer (some ⟨b,0,none⟩), .pointer (some ⟨b,0,none⟩), .slice (some ⟨g,0,none⟩) l.length C, .int .i64 k, .pointer (some ⟨g,k,none⟩), .int .u64 x, .int .u64 a, .bool false, .bool false, u29, u30, v31, v32, v33, v34, v35, v36, v37, v38, v39, v40, v41, v42, v43, v44, v45, v46, v47, v48, v49, v50], defers := [] } ∧ Vals L' w 0 (psPut (.pointer (some ⟨b, 0, none⟩)) (.slice (some ⟨g,0,none⟩) l.length C) (.int .i64 k) (.slice (some ⟨g,0,none⟩) k C) (.slice (some ⟨g,k,none⟩) (l.length - k) (C - k)) (.int .u64 a)) [v31, v32, v33, v34, v35, v36, v37, v38, v39, v40, v41, v42, v43, v44, v45, v46, v47, v48, v49, v50] ∧ PInv w b k (l.length - k) xs ys a L' v38 v40 v41 v48 W') (by kernel_rfl) (by kernel_rfl) (by kernel_rfl) ?h0 ⟨?o0, ?o1, ?o2, ?o3, ?o4, ?o5, ?o6, ?o7, ?o8, ?o9, ?o10, ?o11, ?o12, ?o13, ?o14, ?o15, ?o16, ?o17, ?o18, ?o19, ?o20, trivial⟩ ?he
        case h0 => exact ⟨undef, undef, undef, undef, undef, undef, undef, undef, undef, undef, undef, undef, undef, undef, undef, undef, undef, undef, undef, undef, rfl, Vals.none _ _ _ rfl, PInv.init⟩
        case o0 =>
          rintro L' a' W' ⟨v31, v32, v33, v34, v35, v36, v37, v38, v39, v40, v41, v42, v43, v44, v45, v46, v47, v48, v49, v50, rfl, hV, hI⟩ hL hd K hK
          have HV := Lib.hid (hV.set 0 (.pointer (some ⟨b, 0, none⟩)) rfl rfl)
          have HI := Lib.hid (hI.other 0 (by decide) (by decide) (by decide) (by decide) (by decide) (by decide) (by decide))
          have HK := Lib.hid hK
          clear hV hI hd hK
          go_wp2
          exact HK.out _ _ ⟨_, _, _, _, _, _, _, _, _, _, _, _, _, _, _, _, _, _, _, _, rfl, HV.out, HI.out⟩
        case o1 =>
          rintro L' a' W' ⟨v31, v32, v33, v34, v35, v36, v37, v38, v39, v40, v41, v42, v43, v44, v45, v46, v47, v48, v49, v50, rfl, hV, hI⟩ hL hd K hK
          have HV := Lib.hid (hV.set 1 (.pointer (some ⟨b, 0, none⟩)) rfl rfl)
          have HI := Lib.hid (hI.other 1 (by decide) (by decide) (by decide) (by decide) (by decide) (by decide) (by decide))
          have HK := Lib.hid hK
          clear hV hI hd hK
          go_wp2
          exact HK.out _ _ ⟨_, _, _, _, _, _, _, _, _, _, _, _, _, _, _, _, _, _, _, _, rfl, HV.out, HI.out⟩
        case o2 =>
          rintro L' a' W' ⟨v31, v32, v33, v34, v35, v36, v37, v38, v39, v40, v41, v42, v43, v44, v45, v46, v47, v48, v49, v50, rfl, hV, hI⟩ hL hd K hK
          have e1 := hV.get 1 rfl rfl (deps_of' hd 1 (by kernel_rfl))
          have HV := Lib.hid (hV.set 2 (.pointer (some ⟨b, 0, none⟩)) rfl rfl)
          have HI := Lib.hid (hI.other 2 (by decide) (by decide) (by decide) (by decide) (by decide) (by decide) (by decide))
          have HK := Lib.hid hK
          clear hV hI hd hK
          unfold Is at e1
          subst e1
          go_wp2
          exact HK.out _ _ ⟨_, _, _, _, _, _, _, _, _, _, _, _, _, _, _, _, _, _, _, _, rfl, HV.out, HI.out⟩
        case o3 =>
          rintro L' a' W' ⟨v31, v32, v33, v34, v35, v36, v37, v38, v39, v40, v41, v42, v43, v44, v45, v46, v47, v48, v49, v50, rfl, hV, hI⟩ hL hd K hK
          have e2 := hV.get 2 rfl rfl (deps_of' hd 2 (by kernel_rfl))
          have HV := Lib.hid (hV.set 3 (.pointer (some ⟨b, 0, none⟩)) rfl rfl)
          have HI := Lib.hid (hI.other 3 (by decide) (by decide) (by decide) (by decide) (by decide) (by decide) (by decide))
          have HK := Lib.hid hK
          clear hV hI hd hK
          unfold Is at e2
          subst e2
          go_wp2
          exact HK.out _ _ ⟨_, _, _, _, _, _, _, _, _, _, _, _, _, _, _, _, _, _, _, _, rfl, HV.out, HI.out⟩
        case o4 =>
          rintro L' a' W' ⟨v31, v32, v33, v34, v35, v36, v37, v38, v39, v40, v41, v42, v43, v44, v45, v46, v47, v48, v49, v50, rfl, hV, hI⟩ hL hd K hK
          have e3 := hV.get 3 rfl rfl (deps_of' hd 3 (by kernel_rfl))
          have hcW := ((hI.below (hI.n4 hL)).cell (p := ⟨b, 0, none⟩) hbl).trans hc
          have HV := Lib.hid (hV.set 4 ((.slice (some ⟨g,0,none⟩) l.length C)) rfl rfl)
          have HI := Lib.hid (hI.other 4 (by decide) (by decide) (by decide) (by decide) (by decide) (by decide) (by decide))
          have HK := Lib.hid hK
          clear hV hI hd hK
          unfold Is at e3
          subst e3
          go_wp2
          exact HK.out _ _ ⟨_, _, _, _, _, _, _, _, _, _, _, _, _, _, _, _, _, _, _, _, rfl, HV.out, HI.out⟩
        case o5 =>
          rintro L' a' W' ⟨v31, v32, v33, v34, v35, v36, v37, v38, v39, v40, v41, v42, v43, v44, v45, v46, v47, v48, v49, v50, rfl, hV, hI⟩ hL hd K hK
          have HV := Lib.hid (hV.set 5 (.int .i64 k) rfl rfl)
          have HI := Lib.hid (hI.other 5 (by decide) (by decide) (by decide) (by decide) (by decide) (by decide) (by decide))
          have HK := Lib.hid hK
          clear hV hI hd hK
          go_wp2
          exact HK.out _ _ ⟨_, _, _, _, _, _, _, _, _, _, _, _, _, _, _, _, _, _, _, _, rfl, HV.out, HI.out⟩
        case o6 =>
          rintro L' a' W' ⟨v31, v32, v33, v34, v35, v36, v37, v38, v39, v40, v41, v42, v43, v44, v45, v46, v47, v48, v49, v50, rfl, hV, hI⟩ hL hd K hK
          have e4 := hV.get 4 rfl rfl (deps_of' hd 4 (by kernel_rfl))
          have e5 := hV.get 5 rfl rfl (deps_of' hd 5 (by kernel_rfl))
          have HV := Lib.hid (hV.set 6 (.slice (some ⟨g,0,none⟩) k C) rfl rfl)
          have HI := Lib.hid (hI.s6 (deps_of' hd 4 (by kernel_rfl)))
          have HK := Lib.hid hK
          clear hV hI hd hK
          unfold Is at e4
          subst e4
          unfold Is at e5
          subst e5
          go_wp2
          exact HK.out _ _ ⟨_, _, _, _, _, _, _, _, _, _, _, _, _, _, _, _, _, _, _, _, rfl, HV.out, HI.out⟩
        case o7 =>
          rintro L' a' W' ⟨v31, v32, v33, v34, v35, v36, v37, v38, v39, v40, v41, v42, v43, v44, v45, v46, v47, v48, v49, v50, rfl, hV, hI⟩ hL hd K hK
          have e6 := hV.get 6 rfl rfl (deps_of' hd 6 (by kernel_rfl))
          have bel := hI.below (hI.n7 hL).2.2
          refine wp_append_any W' (.const (.slice none 0 0)) (.tmp 37) 35 rfl w.heap.size 39 i0 _ 1 8 Try.underlying35 hi hz0 hz1 hz2 rfl (by omega) (.slice none 0 0) 0 [] rfl (World.ownsRow_nil _ _ _ _) w.heap.size _ k _ xs (by unfold Is at e6; rw [e6]; rfl) (HT.out.below bel) HX1.out (by unfold maxLen; omega) (by omega) bel.size ?_
          intro v' w' hown hg hat
          exact hK _ _ ⟨_, _, _, _, _, _, _, _, _, _, _, _, _, _, _, _, _, _, _, _, rfl, hV.set 7 v' rfl trivial, hI.s7 hL (deps_of' hd 6 (by kernel_rfl)) (by simpa using hown) hg⟩
        case o8 =>
          rintro L' a' W' ⟨v31, v32, v33, v34, v35, v36, v37, v38, v39, v40, v41, v42, v43, v44, v45, v46, v47, v48, v49, v50, rfl, hV, hI⟩ hL hd K hK
          have HV := Lib.hid (hV.set 8 (.int .u64 a) rfl rfl)
          have HI := Lib.hid (hI.other 8 (by decide) (by decide) (by decide) (by decide) (by decide) (by decide) (by decide))
          have HK := Lib.hid hK
          clear hV hI hd hK
          go_wp2
          exact HK.out _ _ ⟨_, _, _, _, _, _, _, _, _, _, _, _, _, _, _, _, _, _, _, _, rfl, HV.out, HI.out⟩
        case o9 =>
          rintro L' a' W' ⟨v31, v32, v33, v34, v35, v36, v37, v38, v39, v40, v41, v42, v43, v44, v45, v46, v47, v48, v49, v50, rfl, hV, hI⟩ hL hd K hK
          have e8 := hV.get 8 rfl rfl (deps_of' hd 8 (by kernel_rfl))
          have HV := Lib.hid (hV.set 9 (.slice (some ⟨W'.heap.size, 0, none⟩) 1 1) rfl trivial)
          have HI := Lib.hid (hI.s9 hL 39)
          have HK := Lib.hid hK
          clear hV hI hd hK
          unfold Is at e8
          subst e8
          go_wp2
          exact HK.out _ _ ⟨_, _, _, _, _, _, _, _, _, _, _, _, _, _, _, _, _, _, _, _, rfl, HV.out, HI.out⟩
        case o10 =>
          rintro L' a' W' ⟨v31, v32, v33, v34, v35, v36, v37, v38, v39, v40, v41, v42, v43, v44, v45, v46, v47, v48, v49, v50, rfl, hV, hI⟩ hL hd K hK
          have d7 := deps_of' hd 7 (by kernel_rfl)
          have d9 := deps_of' hd 9 (by kernel_rfl)
          have bel := hI.below (f_imp hI.e20 (f_imp hI.e17 hL))
          obtain ⟨g, e40, _, hcg⟩ := hI.p9 d9 hL
          refine wp_append_any W' (.tmp 38) (.tmp 40) 35 rfl w.heap.size 39 i0 _ 1 8 Try.underlying35 hi hz0 hz1 hz2 rfl (by omega) v38 k xs rfl (hI.p7 d7 hL) (g + 1) (some ⟨g, 0, none⟩) 1 1 [.int .u64 a] (by rw [e40]; rfl) (reads_one hcg) (ints_oneCell .u64 [a]) (by unfold maxLen; omega) (by omega) bel.size ?_
          intro v' w' hown hg hat
          exact hK _ _ ⟨_, _, _, _, _, _, _, _, _, _, _, _, _, _, _, _, _, _, _, _, rfl, hV.set 10 v' rfl trivial, hI.s10 hL d7 d9 hown hg⟩
        case o11 =>
          rintro L' a' W' ⟨v31, v32, v33, v34, v35, v36, v37, v38, v39, v40, v41, v42, v43, v44, v45, v46, v47, v48, v49, v50, rfl, hV, hI⟩ hL hd K hK
          have HV := Lib.hid (hV.set 11 (.pointer (some ⟨b, 0, none⟩)) rfl rfl)
          have HI := Lib.hid (hI.other 11 (by decide) (by decide) (by decide) (by decide) (by decide) (by decide) (by decide))
          have HK := Lib.hid hK
          clear hV hI hd hK
          go_wp2
          exact HK.out _ _ ⟨_, _, _, _, _, _, _, _, _, _, _, _, _, _, _, _, _, _, _, _, rfl, HV.out, HI.out⟩
        case o12 =>
          rintro L' a' W' ⟨v31, v32, v33, v34, v35, v36, v37, v38, v39, v40, v41, v42, v43, v44, v45, v46, v47, v48, v49, v50, rfl, hV, hI⟩ hL hd K hK
          have e11 := hV.get 11 rfl rfl (deps_of' hd 11 (by kernel_rfl))
          have HV := Lib.hid (hV.set 12 (.pointer (some ⟨b, 0, none⟩)) rfl rfl)
          have HI := Lib.hid (hI.other 12 (by decide) (by decide) (by decide) (by decide) (by decide) (by decide) (by decide))
          have HK := Lib.hid hK
          clear hV hI hd hK
          unfold Is at e11
          subst e11
          go_wp2
          exact HK.out _ _ ⟨_, _, _, _, _, _, _, _, _, _, _, _, _, _, _, _, _, _, _, _, rfl, HV.out, HI.out⟩
        case o13 =>
          rintro L' a' W' ⟨v31, v32, v33, v34, v35, v36, v37, v38, v39, v40, v41, v42, v43, v44, v45, v46, v47, v48, v49, v50, rfl, hV, hI⟩ hL hd K hK
          have e12 := hV.get 12 rfl rfl (deps_of' hd 12 (by kernel_rfl))
          have HV := Lib.hid (hV.set 13 (.pointer (some ⟨b, 0, none⟩)) rfl rfl)
          have HI := Lib.hid (hI.other 13 (by decide) (by decide) (by decide) (by decide) (by decide) (by decide) (by decide))
          have HK := Lib.hid hK
          clear hV hI hd hK
          unfold Is at e12
          subst e12
          go_wp2
          exact HK.out _ _ ⟨_, _, _, _, _, _, _, _, _, _, _, _, _, _, _, _, _, _, _, _, rfl, HV.out, HI.out⟩
        case o14 =>
          rintro L' a' W' ⟨v31, v32, v33, v34, v35, v36, v37, v38, v39, v40, v41, v42, v43, v44, v45, v46, v47, v48, v49, v50, rfl, hV, hI⟩ hL hd K hK
          have e13 := hV.get 13 rfl rfl (deps_of' hd 13 (by kernel_rfl))
          have hcW := ((hI.below (hI.n14 hL)).cell (p := ⟨b, 0, none⟩) hbl).trans hc
          have HV := Lib.hid (hV.set 14 ((.slice (some ⟨g,0,none⟩) l.length C)) rfl rfl)
          have HI := Lib.hid (hI.other 14 (by decide) (by decide) (by decide) (by decide) (by decide) (by decide) (by decide))
          have HK := Lib.hid hK
          clear hV hI hd hK
          unfold Is at e13
          subst e13
          go_wp2
          exact HK.out _ _ ⟨_, _, _, _, _, _, _, _, _, _, _, _, _, _, _, _, _, _, _, _, rfl, HV.out, HI.out⟩
        case o15 =>
          rintro L' a' W' ⟨v31, v32, v33, v34, v35, v36, v37, v38, v39, v40, v41, v42, v43, v44, v45, v46, v47, v48, v49, v50, rfl, hV, hI⟩ hL hd K hK
          have HV := Lib.hid (hV.set 15 (.int .i64 k) rfl rfl)
          have HI := Lib.hid (hI.other 15 (by decide) (by decide) (by decide) (by decide) (by decide) (by decide) (by decide))
          have HK := Lib.hid hK
          clear hV hI hd hK
          go_wp2
          exact HK.out _ _ ⟨_, _, _, _, _, _, _, _, _, _, _, _, _, _, _, _, _, _, _, _, rfl, HV.out, HI.out⟩
        case o16 =>
          rintro L' a' W' ⟨v31, v32, v33, v34, v35, v36, v37, v38, v39, v40, v41, v42, v43, v44, v45, v46, v47, v48, v49, v50, rfl, hV, hI⟩ hL hd K hK
          have e14 := hV.get 14 rfl rfl (deps_of' hd 14 (by kernel_rfl))
          have e15 := hV.get 15 rfl rfl (deps_of' hd 15 (by kernel_rfl))
          have HV := Lib.hid (hV.set 16 (.slice (some ⟨g,k,none⟩) (l.length - k) (C - k)) rfl rfl)
          have HI := Lib.hid (hI.s16 (deps_of' hd 14 (by kernel_rfl)))
          have HK := Lib.hid hK
          clear hV hI hd hK
          unfold Is at e14
          subst e14
          unfold Is at e15
          subst e15
          go_wp2
          exact HK.out _ _ ⟨_, _, _, _, _, _, _, _, _, _, _, _, _, _, _, _, _, _, _, _, rfl, HV.out, HI.out⟩
        case o17 =>
          rintro L' a' W' ⟨v31, v32, v33, v34, v35, v36, v37, v38, v39, v40, v41, v42, v43, v44, v45, v46, v47, v48, v49, v50, rfl, hV, hI⟩ hL hd K hK
          have e16 := hV.get 16 rfl rfl (deps_of' hd 16 (by kernel_rfl))
          have d10 := deps_of' hd 10 (by kernel_rfl)
          have bel := hI.below (f_imp hI.e20 hL)
          refine wp_append_any W' (.tmp 41) (.tmp 47) 35 rfl w.heap.size 39 i0 _ 1 8 Try.underlying35 hi hz0 hz1 hz2 rfl (by omega) v41 (k + 1) (xs ++ [.int .u64 a]) rfl (hI.p10 d10 hL) w.heap.size _ (l.length - k) _ ys (by unfold Is at e16; rw [e16]; rfl) (HC.out.below bel) HY1.out (by unfold maxLen; omega) (by omega) bel.size ?_
          intro v' w' hown hg hat
          exact hK _ _ ⟨_, _, _, _, _, _, _, _, _, _, _, _, _, _, _, _, _, _, _, _, rfl, hV.set 17 v' rfl trivial, hI.s17 hL d10 (deps_of' hd 16 (by kernel_rfl)) hown hg⟩
        case o18 =>
          rintro L' a' W' ⟨v31, v32, v33, v34, v35, v36, v37, v38, v39, v40, v41, v42, v43, v44, v45, v46, v47, v48, v49, v50, rfl, hV, hI⟩ hL hd K hK
          have e0 := hV.get 0 rfl rfl (deps_of' hd 0 (by kernel_rfl))
          have HV := Lib.hid (hV.set 18 (.pointer (some ⟨b, 0, none⟩)) rfl rfl)
          have HI := Lib.hid (hI.other 18 (by decide) (by decide) (by decide) (by decide) (by decide) (by decide) (by decide))
          have HK := Lib.hid hK
          clear hV hI hd hK
          unfold Is at e0
          subst e0
          go_wp2
          exact HK.out _ _ ⟨_, _, _, _, _, _, _, _, _, _, _, _, _, _, _, _, _, _, _, _, rfl, HV.out, HI.out⟩
        case o19 =>
          rintro L' a' W' ⟨v31, v32, v33, v34, v35, v36, v37, v38, v39, v40, v41, v42, v43, v44, v45, v46, v47, v48, v49, v50, rfl, hV, hI⟩ hL hd K hK
          have e18 := hV.get 18 rfl rfl (deps_of' hd 18 (by kernel_rfl))
          have HV := Lib.hid (hV.set 19 (.pointer (some ⟨b, 0, none⟩)) rfl rfl)
          have HI := Lib.hid (hI.other 19 (by decide) (by decide) (by decide) (by decide) (by decide) (by decide) (by decide))
          have HK := Lib.hid hK
          clear hV hI hd hK
          unfold Is at e18
          subst e18
          go_wp2
          exact HK.out _ _ ⟨_, _, _, _, _, _, _, _, _, _, _, _, _, _, _, _, _, _, _, _, rfl, HV.out, HI.out⟩
        case o20 =>
          rintro L' a' W' ⟨v31, v32, v33, v34, v35, v36, v37, v38, v39, v40, v41, v42, v43, v44, v45, v46, v47, v48, v49, v50, rfl, hV, hI⟩ hL hd K hK
          have e19 := hV.get 19 rfl rfl (deps_of' hd 19 (by kernel_rfl))
          have d17 := deps_of' hd 17 (by kernel_rfl)
          have hcW := ((hI.below hL).cell (p := ⟨b, 0, none⟩) hbl).trans hc
          have hfW := ((hI.below hL).frozen (p := ⟨b, 0, none⟩) hbl).trans hfz
          obtain ⟨x1, x2, x3, e48⟩ := own_slice (hI.p17 d17 hL)
          have HV := Lib.hid (vals_off20 hV)
          have HI := Lib.hid (hI.s20 hL d17)
          have HK := Lib.hid hK
          clear hV hI hd hK
          unfold Is at e19
          subst e19
          subst e48
          go_wp2
          exact HK.out _ _ ⟨_, _, _, _, _, _, _, _, _, _, _, _, _, _, _, _, _, _, _, _, rfl, HV.out, HI.out⟩
        case he =>
          rintro L' a' W' ⟨v31, v32, v33, v34, v35, v36, v37, v38, v39, v40, v41, v42, v43, v44, v45, v46, v47, v48, v49, v50, rfl, hV, hI⟩ hall
          obtain ⟨W1, rfl, hB1, hO1⟩ := hI.p20 (hall 20 (by decide))
          have HB1 := Lib.hid hB1
          have HO1 := Lib.hid hO1
          clear hV hI hall hB1 hO1
          go_wp2_with (fail)
          go_ret
          refine ⟨rfl, k, HP.out, H.out.put HB1.out ?_⟩
          have h3 := HO1.out
          rw [HXY.out.1, HXY.out.2] at h3
          exact own_cast h3 (by simp <;> omega) (by simp [List.map_take, List.map_drop])
    · have hk2 : k = l.length := by omega
      have b1 : ¬ (k : Int) < (l.length : Int) := by omega
      obtain ⟨w, ew⟩ : ∃ w, w = wr := ⟨_, rfl⟩
      subst ew
      obtain ⟨xs, hxs⟩ : ∃ xs : List Value, xs = (l.take k).map (Value.int .u64) := ⟨_, rfl⟩
      obtain ⟨ys, hys⟩ : ∃ ys : List Value, ys = (l.drop k).map (Value.int .u64) := ⟨_, rfl⟩
      have HXY := Lib.hid (And.intro hxs hys)
      have HT := Lib.hid (show Reads w w.heap.size 1 (some ⟨g, 0, none⟩) k xs by rw [hxs, List.map_take]; exact hRD.out.take hk)
      have HX1 := Lib.hid (show ∀ u ∈ xs, u.oneCell' = true by rw [hxs]; exact ints_oneCell .u64 _)
      have HY1 := Lib.hid (show ∀ u ∈ ys, u.oneCell' = true by rw [hys]; exact ints_oneCell .u64 _)
      have b4 : (k : Int) ≤ (C : Int) := by omega
      have b5 : (k : Int) ≤ (l.length : Int) := by omega
      have b7 : (C : Int) ≤ 9223372036854775807 := by omega
      have HP := Lib.hid (show PutAt l a k from ⟨hk, HN.out, fun h => absurd h hlt⟩)
      clear hlt
      by_cases b8 : C = k
      · have HC := Lib.hid (show Reads w w.heap.size 1 (some ⟨g, 0, none⟩) 0 ys from by
          rw [hys, List.map_drop]
          have := hRD.out.cut (cap := C) hk hC
          rw [if_pos b8, show l.length - k = 0 by omega] at this
          simpa using this)
        clear hxs hys hk2
        have b9 := b8.symm
        clear b8
        subst b9
        go_wp2_with (fail)
        refine wp_region_inv (fun L' a' W' => ∃ v31 v32 v33 v34 v35 v36 v37 v38 v39 v40 v41 v42 v43 v44 v45 v46 v47 v48 v49 v50, a' = { tmps := #[.pointer (some ⟨b, 0, none⟩), .int .u64 a, undef, undef, .int .i64 0, .int .i64 k, .int .u64 a, .bool false, .pointer (some ⟨b, 0, none⟩), .int .u64 a, .bool false, .int .i64 k, .pointer (some ⟨b,0,none⟩), .pointer (some ⟨b,0,none⟩), .pointer (some ⟨b,0,none⟩), .slice (some ⟨g,0,none⟩) l.length k, .int .i64 l.length, .bool false, .bool false, undef, undef, undef, undef, undef, undef, undef, undef, undef, .bool false, u29, u30, v31, v32, v33, v34, v35, v36, v37, v38, v39, v40, v41, v42, v43, v44, v45, v46, v47, v48, v49, v50], defers := [] } ∧ Vals L' w 0 (psPut (.pointer (some ⟨b, 0, none⟩)) (.slice (some ⟨g,0,none⟩) l.length k) (.int .i64 k) (.slice (some ⟨g,0,none⟩) k k) (.slice (some ⟨g,0,none⟩) 0 0) (.int .u64 a)) [v31, v32, v33, v34, v35, v36, v37, v38, v39, v40, v41, v42, v43, v44, v45, v46, v47, v48, v49, v50] ∧ PInv w b k 0 xs ys a L' v38 v40 v41 v48 W') (by kernel_rfl) (by kernel_rfl) (by kernel_rfl) ?h0 ⟨?o0, ?o1, ?o2, ?o3, ?o4, ?o5, ?o6, ?o7, ?o8, ?o9, ?o10, ?o11, ?o12, ?o13, ?o14, ?o15, ?o16, ?o17, ?o18, ?o19, ?o20, trivial⟩ ?he
        case h0 => exact ⟨undef, undef, undef, undef, undef, undef, undef, undef, undef, undef, undef, undef, undef, undef, undef, undef, undef, undef, undef, undef, rfl, Vals.none _ _ _ rfl, PInv.init⟩
        case o0 =>
          rintro L' a' W' ⟨v31, v32, v33, v34, v35, v36, v37, v38, v39, v40, v41, v42, v43, v44, v45, v46, v47, v48, v49, v50, rfl, hV, hI⟩ hL hd K hK
          have HV := Lib.hid (hV.set 0 (.pointer (some ⟨b, 0, none⟩)) rfl rfl)
          have HI := Lib.hid (hI.other 0 (by decide) (by decide) (by decide) (by decide) (by decide) (by decide) (by decide))
          have HK := Lib.hid hK
          clear hV hI hd hK
          go_wp2
          exact HK.out _ _ ⟨_, _, _, _, _, _, _, _, _, _, _, _, _, _, _, _, _, _, _, _, rfl, HV.out, HI.out⟩
        case o1 =>
          rintro L' a' W' ⟨v31, v32, v33, v34, v35, v36, v37, v38, v39, v40, v41, v42, v43, v44, v45, v46, v47, v48, v49, v50, rfl, hV, hI⟩ hL hd K hK
          have HV := Lib.hid (hV.set 1 (.pointer (some ⟨b, 0, none⟩)) rfl rfl)
          have HI := Lib.hid (hI.other 1 (by decide) (by decide) (by decide) (by decide) (by decide) (by decide) (by decide))
          have HK := Lib.hid hK
          clear hV hI hd hK
          go_wp2
          exact HK.out _ _ ⟨_, _, _, _, _, _, _, _, _, _, _, _, _, _, _, _, _, _, _, _, rfl, HV.out, HI.out⟩
        case o2 =>
          rintro L' a' W' ⟨v31, v32, v33, v34, v35, v36, v37, v38, v39, v40, v41, v42, v43, v44, v45, v46, v47, v48, v49, v50, rfl, hV, hI⟩ hL hd K hK
          have e1 := hV.get 1 rfl rfl (deps_of' hd 1 (by kernel_rfl))
          have HV := Lib.hid (hV.set 2 (.pointer (some ⟨b, 0, none⟩)) rfl rfl)
          have HI := Lib.hid (hI.other 2 (by decide) (by decide) (by decide) (by decide) (by decide) (by decide) (by decide))
          have HK := Lib.hid hK
          clear hV hI hd hK
          unfold Is at e1
          subst e1
          go_wp2
          exact HK.out _ _ ⟨_, _, _, _, _, _, _, _, _, _, _, _, _, _, _, _, _, _, _, _, rfl, HV.out, HI.out⟩
        case o3 =>
          rintro L' a' W' ⟨v31, v32, v33, v34, v35, v36, v37, v38, v39, v40, v41, v42, v43, v44, v45, v46, v47, v48, v49, v50, rfl, hV, hI⟩ hL hd K hK
          have e2 := hV.get 2 rfl rfl (deps_of' hd 2 (by kernel_rfl))
          have HV := Lib.hid (hV.set 3 (.pointer (some ⟨b, 0, none⟩)) rfl rfl)
          have HI := Lib.hid (hI.other 3 (by decide) (by decide) (by decide) (by decide) (by decide) (by decide) (by decide))
          have HK := Lib.hid hK
          clear hV hI hd hK
          unfold Is at e2
          subst e2
          go_wp2
          exact HK.out _ _ ⟨_, _, _, _, _, _, _, _, _, _, _, _, _, _, _, _, _, _, _, _, rfl, HV.out, HI.out⟩
        case o4 =>
          rintro L' a' W' ⟨v31, v32, v33, v34, v35, v36, v37, v38, v39, v40, v41, v42, v43, v44, v45, v46, v47, v48, v49, v50, rfl, hV, hI⟩ hL hd K hK
          have e3 := hV.get 3 rfl rfl (deps_of' hd 3 (by kernel_rfl))
          have hcW := ((hI.below (hI.n4 hL)).cell (p := ⟨b, 0, none⟩) hbl).trans hc
          have HV := Lib.hid (hV.set 4 ((.slice (some ⟨g,0,none⟩) l.length k)) rfl rfl)
          have HI := Lib.hid (hI.other 4 (by decide) (by decide) (by decide) (by decide) (by decide) (by decide) (by decide))
          have HK := Lib.hid hK
          clear hV hI hd hK
          unfold Is at e3
          subst e3
          go_wp2
          exact HK.out _ _ ⟨_, _, _, _, _, _, _, _, _, _, _, _, _, _, _, _, _, _, _, _, rfl, HV.out, HI.out⟩
        case o5 =>
          rintro L' a' W' ⟨v31, v32, v33, v34, v35, v36, v37, v38, v39, v40, v41, v42, v43, v44, v45, v46, v47, v48, v49, v50, rfl, hV, hI⟩ hL hd K hK
          have HV := Lib.hid (hV.set 5 (.int .i64 k) rfl rfl)
          have HI := Lib.hid (hI.other 5 (by decide) (by decide) (by decide) (by decide) (by decide) (by decide) (by decide))
          have HK := Lib.hid hK
          clear hV hI hd hK
          go_wp2
          exact HK.out _ _ ⟨_, _, _, _, _, _, _, _, _, _, _, _, _, _, _, _, _, _, _, _, rfl, HV.out, HI.out⟩
        case o6 =>
          rintro L' a' W' ⟨v31, v32, v33, v34, v35, v36, v37, v38, v39, v40, v41, v42, v43, v44, v45, v46, v47, v48, v49, v50, rfl, hV, hI⟩ hL hd K hK
          have e4 := hV.get 4 rfl rfl (deps_of' hd 4 (by kernel_rfl))
          have e5 := hV.get 5 rfl rfl (deps_of' hd 5 (by kernel_rfl))
          have HV := Lib.hid (hV.set 6 (.slice (some ⟨g,0,none⟩) k k) rfl rfl)
          have HI := Lib.hid (hI.s6 (deps_of' hd 4 (by kernel_rfl)))
          have HK := Lib.hid hK
          clear hV hI hd hK
          unfold Is at e4
          subst e4
          unfold Is at e5
          subst e5
          go_wp2
          exact HK.out _ _ ⟨_, _, _, _, _, _, _, _, _, _, _, _, _, _, _, _, _, _, _, _, rfl, HV.out, HI.out⟩
        case o7 =>
          rintro L' a' W' ⟨v31, v32, v33, v34, v35, v36, v37, v38, v39, v40, v41, v42, v43, v44, v45, v46, v47, v48, v49, v50, rfl, hV, hI⟩ hL hd K hK
          have e6 := hV.get 6 rfl rfl (deps_of' hd 6 (by kernel_rfl))
          have bel := hI.below (hI.n7 hL).2.2
          refine wp_append_any W' (.const (.slice none 0 0)) (.tmp 37) 35 rfl w.heap.size 39 i0 _ 1 8 Try.underlying35 hi hz0 hz1 hz2 rfl (by omega) (.slice none 0 0) 0 [] rfl (World.ownsRow_nil _ _ _ _) w.heap.size _ k _ xs (by unfold Is at e6; rw [e6]; rfl) (HT.out.below bel) HX1.out (by unfold maxLen; omega) (by omega) bel.size ?_
          intro v' w' hown hg hat
          exact hK _ _ ⟨_, _, _, _, _, _, _, _, _, _, _, _, _, _, _, _, _, _, _, _, rfl, hV.set 7 v' rfl trivial, hI.s7 hL (deps_of' hd 6 (by kernel_rfl)) (by simpa using hown) hg⟩
        case o8 =>
          rintro L' a' W' ⟨v31, v32, v33, v34, v35, v36, v37, v38, v39, v40, v41, v42, v43, v44, v45, v46, v47, v48, v49, v50, rfl, hV, hI⟩ hL hd K hK
          have HV := Lib.hid (hV.set 8 (.int .u64 a) rfl rfl)
          have HI := Lib.hid (hI.other 8 (by decide) (by decide) (by decide) (by decide) (by decide) (by decide) (by decide))
          have HK := Lib.hid hK
          clear hV hI hd hK
          go_wp2
          exact HK.out _ _ ⟨_, _, _, _, _, _, _, _, _, _, _, _, _, _, _, _, _, _, _, _, rfl, HV.out, HI.out⟩
        case o9 =>
          rintro L' a' W' ⟨v31, v32, v33, v34, v35, v36, v37, v38, v39, v40, v41, v42, v43, v44, v45, v46, v47, v48, v49, v50, rfl, hV, hI⟩ hL hd K hK
          have e8 := hV.get 8 rfl rfl (deps_of' hd 8 (by kernel_rfl))
          have HV := Lib.hid (hV.set 9 (.slice (some ⟨W'.heap.size, 0, none⟩) 1 1) rfl trivial)
          have HI := Lib.hid (hI.s9 hL 39)
          have HK := Lib.hid hK
          clear hV hI hd hK
          unfold Is at e8
          subst e8
          go_wp2
          exact HK.out _ _ ⟨_, _, _, _, _, _, _, _, _, _, _, _, _, _, _, _, _, _, _, _, rfl, HV.out, HI.out⟩
        case o10 =>
          rintro L' a' W' ⟨v31, v32, v33, v34, v35, v36, v37, v38, v39, v40, v41, v42, v43, v44, v45, v46, v47, v48, v49, v50, rfl, hV, hI⟩ hL hd K hK
          have d7 := deps_of' hd 7 (by kernel_rfl)
          have d9 := deps_of' hd 9 (by kernel_rfl)
          have bel := hI.below (f_imp hI.e20 (f_imp hI.e17 hL))
          obtain ⟨g, e40, _, hcg⟩ := hI.p9 d9 hL
          refine wp_append_any W' (.tmp 38) (.tmp 40) 35 rfl w.heap.size 39 i0 _ 1 8 Try.underlying35 hi hz0 hz1 hz2 rfl (by omega) v38 k xs rfl (hI.p7 d7 hL) (g + 1) (some ⟨g, 0, none⟩) 1 1 [.int .u64 a] (by rw [e40]; rfl) (reads_one hcg) (ints_oneCell .u64 [a]) (by unfold maxLen; omega) (by omega) bel.size ?_
          intro v' w' hown hg hat
          exact hK _ _ ⟨_, _, _, _, _, _, _, _, _, _, _, _, _, _, _, _, _, _, _, _, rfl, hV.set 10 v' rfl trivial, hI.s10 hL d7 d9 hown hg⟩
        case o11 =>
          rintro L' a' W' ⟨v31, v32, v33, v34, v35, v36, v37, v38, v39, v40, v41, v42, v43, v44, v45, v46, v47, v48, v49, v50, rfl, hV, hI⟩ hL hd K hK
          have HV := Lib.hid (hV.set 11 (.pointer (some ⟨b, 0, none⟩)) rfl rfl)
          have HI := Lib.hid (hI.other 11 (by decide) (by decide) (by decide) (by decide) (by decide) (by decide) (by decide))
          have HK := Lib.hid hK
          clear hV hI hd hK
          go_wp2
          exact HK.out _ _ ⟨_, _, _, _, _, _, _, _, _, _, _, _, _, _, _, _, _, _, _, _, rfl, HV.out, HI.out⟩
        case o12 =>
          rintro L' a' W' ⟨v31, v32, v33, v34, v35, v36, v37, v38, v39, v40, v41, v42, v43, v44, v45, v46, v47, v48, v49, v50, rfl, hV, hI⟩ hL hd K hK
          have e11 := hV.get 11 rfl rfl (deps_of' hd 11 (by kernel_rfl))
          have HV := Lib.hid (hV.set 12 (.pointer (some ⟨b, 0, none⟩)) rfl rfl)
          have HI := Lib.hid (hI.other 12 (by decide) (by decide) (by decide) (by decide) (by decide) (by decide) (by decide))
          have HK := Lib.hid hK
          clear hV hI hd hK
          unfold Is at e11
          subst e11
          go_wp2
          exact HK.out _ _ ⟨_, _, _, _, _, _, _, _, _, _, _, _, _, _, _, _, _, _, _, _, rfl, HV.out, HI.out⟩
        case o13 =>
          rintro L' a' W' ⟨v31, v32, v33, v34, v35, v36, v37, v38, v39, v40, v41, v42, v43, v44, v45, v46, v47, v48, v49, v50, rfl, hV, hI⟩ hL hd K hK
          have e12 := hV.get 12 rfl rfl (deps_of' hd 12 (by kernel_rfl))
          have HV := Lib.hid (hV.set 13 (.pointer (some ⟨b, 0, none⟩)) rfl rfl)
          have HI := Lib.hid (hI.other 13 (by decide) (by decide) (by decide) (by decide) (by decide) (by decide) (by decide))
          have HK := Lib.hid hK
          clear hV hI hd hK
          unfold Is at e12
          subst e12
          go_wp2
          exact HK.out _ _ ⟨_, _, _, _, _, _, _, _, _, _, _, _, _, _, _, _, _, _, _, _, rfl, HV.out, HI.out⟩
        case o14 =>
          rintro L' a' W' ⟨v31, v32, v33, v34, v35, v36, v37, v38, v39, v40, v41, v42, v43, v44, v45, v46, v47, v48, v49, v50, rfl, hV, hI⟩ hL hd K hK
          have e13 := hV.get 13 rfl rfl (deps_of' hd 13 (by kernel_rfl))
          have hcW := ((hI.below (hI.n14 hL)).cell (p := ⟨b, 0, none⟩) hbl).trans hc
          have HV := Lib.hid (hV.set 14 ((.slice (some ⟨g,0,none⟩) l.length k)) rfl rfl)
          have HI := Lib.hid (hI.other 14 (by decide) (by decide) (by decide) (by decide) (by decide) (by decide) (by decide))
          have HK := Lib.hid hK
          clear hV hI hd hK
          unfold Is at e13
          subst e13
          go_wp2
          exact HK.out _ _ ⟨_, _, _, _, _, _, _, _, _, _, _, _, _, _, _, _, _, _, _, _, rfl, HV.out, HI.out⟩
        case o15 =>
          rintro L' a' W' ⟨v31, v32, v33, v34, v35, v36, v37, v38, v39, v40, v41, v42, v43, v44, v45, v46, v47, v48, v49, v50, rfl, hV, hI⟩ hL hd K hK
          have HV := Lib.hid (hV.set 15 (.int .i64 k) rfl rfl)
          have HI := Lib.hid (hI.other 15 (by decide) (by decide) (by decide) (by decide) (by decide) (by decide) (by decide))
          have HK := Lib.hid hK
          clear hV hI hd hK
          go_wp2
          exact HK.out _ _ ⟨_, _, _, _, _, _, _, _, _, _, _, _, _, _, _, _, _, _, _, _, rfl, HV.out, HI.out⟩
        case o16 =>
          rintro L' a' W' ⟨v31, v32, v33, v34, v35, v36, v37, v38, v39, v40, v41, v42, v43, v44, v45, v46, v47, v48, v49, v50, rfl, hV, hI⟩ hL hd K hK
          have e14 := hV.get 14 rfl rfl (deps_of' hd 14 (by kernel_rfl))
          have e15 := hV.get 15 rfl rfl (deps_of' hd 15 (by kernel_rfl))
          have HV := Lib.hid (hV.set 16 (.slice (some ⟨g,0,none⟩) 0 0) rfl rfl)
          have HI := Lib.hid (hI.s16 (deps_of' hd 14 (by kernel_rfl)))
          have HK := Lib.hid hK
          clear hV hI hd hK
          unfold Is at e14
          subst e14
          unfold Is at e15
          subst e15
          go_wp2
          exact HK.out _ _ ⟨_, _, _, _, _, _, _, _, _, _, _, _, _, _, _, _, _, _, _, _, rfl, HV.out, HI.out⟩
        case o17 =>
          rintro L' a' W' ⟨v31, v32, v33, v34, v35, v36, v37, v38, v39, v40, v41, v42, v43, v44, v45, v46, v47, v48, v49, v50, rfl, hV, hI⟩ hL hd K hK
          have e16 := hV.get 16 rfl rfl (deps_of' hd 16 (by kernel_rfl))
          have d10 := deps_of' hd 10 (by kernel_rfl)
          have bel := hI.below (f_imp hI.e20 hL)
          refine wp_append_any W' (.tmp 41) (.tmp 47) 35 rfl w.heap.size 39 i0 _ 1 8 Try.underlying35 hi hz0 hz1 hz2 rfl (by omega) v41 (k + 1) (xs ++ [.int .u64 a]) rfl (hI.p10 d10 hL) w.heap.size _ 0 _ ys (by unfold Is at e16; rw [e16]; rfl) (HC.out.below bel) HY1.out (by unfold maxLen; omega) (by omega) bel.size ?_
          intro v' w' hown hg hat
          exact hK _ _ ⟨_, _, _, _, _, _, _, _, _, _, _, _, _, _, _, _, _, _, _, _, rfl, hV.set 17 v' rfl trivial, hI.s17 hL d10 (deps_of' hd 16 (by kernel_rfl)) hown hg⟩
        case o18 =>
          rintro L' a' W' ⟨v31, v32, v33, v34, v35, v36, v37, v38, v39, v40, v41, v42, v43, v44, v45, v46, v47, v48, v49, v50, rfl, hV, hI⟩ hL hd K hK
          have e0 := hV.get 0 rfl rfl (deps_of' hd 0 (by kernel_rfl))
          have HV := Lib.hid (hV.set 18 (.pointer (some ⟨b, 0, none⟩)) rfl rfl)
          have HI := Lib.hid (hI.other 18 (by decide) (by decide) (by decide) (by decide) (by decide) (by decide) (by decide))
          have HK := Lib.hid hK
          clear hV hI hd hK
          unfold Is at e0
          subst e0
          go_wp2
          exact HK.out _ _ ⟨_, _, _, _, _, _, _, _, _, _, _, _, _, _, _, _, _, _, _, _, rfl, HV.out, HI.out⟩
        case o19 =>
          rintro L' a' W' ⟨v31, v32, v33, v34, v35, v36, v37, v38, v39, v40, v41, v42, v43, v44, v45, v46, v47, v48, v49, v50, rfl, hV, hI⟩ hL hd K hK
          have e18 := hV.get 18 rfl rfl (deps_of' hd 18 (by kernel_rfl))
          have HV := Lib.hid (hV.set 19 (.pointer (some ⟨b, 0, none⟩)) rfl rfl)
          have HI := Lib.hid (hI.other 19 (by decide) (by decide) (by decide) (by decide) (by decide) (by decide) (by decide))
          have HK := Lib.hid hK
          clear hV hI hd hK
          unfold Is at e18
          subst e18
          go_wp2
          exact HK.out _ _ ⟨_, _, _, _, _, _, _, _, _, _, _, _, _, _, _, _, _, _, _, _, rfl, HV.out, HI.out⟩
        case o20 =>
          rintro L' a' W' ⟨v31, v32, v33, v34, v35, v36, v37, v38, v39, v40, v41, v42, v43, v44, v45, v46, v47, v48, v49, v50, rfl, hV, hI⟩ hL hd K hK
          have e19 := hV.get 19 rfl rfl (deps_of' hd 19 (by kernel_rfl))
          have d17 := deps_of' hd 17 (by kernel_rfl)
          have hcW := ((hI.below hL).cell (p := ⟨b, 0, none⟩) hbl).trans hc
          have hfW := ((hI.below hL).frozen (p := ⟨b, 0, none⟩) hbl).trans hfz
          obtain ⟨x1, x2, x3, e48⟩ := own_slice (hI.p17 d17 hL)
          have HV := Lib.hid (vals_off20 hV)
          have HI := Lib.hid (hI.s20 hL d17)
          have HK := Lib.hid hK
          clear hV hI hd hK
          unfold Is at e19
          subst e19
          subst e48
          go_wp2
          exact HK.out _ _ ⟨_, _, _, _, _, _, _, _, _, _, _, _, _, _, _, _, _, _, _, _, rfl, HV.out, HI.out⟩
        case he =>
          rintro L' a' W' ⟨v31, v32, v33, v34, v35, v36, v37, v38, v39, v40, v41, v42, v43, v44, v45, v46, v47, v48, v49, v50, rfl, hV, hI⟩ hall
          obtain ⟨W1, rfl, hB1, hO1⟩ := hI.p20 (hall 20 (by decide))
          have HB1 := Lib.hid hB1
          have HO1 := Lib.hid hO1
          clear hV hI hall hB1 hO1
          go_wp2_with (fail)
          go_ret
          refine ⟨rfl, k, HP.out, H.out.put HB1.out ?_⟩
          have h3 := HO1.out
          rw [HXY.out.1, HXY.out.2] at h3
          exact own_cast h3 (by simp <;> omega) (by simp [List.map_take, List.map_drop])
      · have HC := Lib.hid (show Reads w w.heap.size 1 (some ⟨g, k, none⟩) (l.length - k) ys from by
          rw [hys, List.map_drop]
          exact put_cut hRD.out hk hC b8)
        have b6 : (k : Int) < (C : Int) := by omega
        clear hxs hys hk2
        go_wp2_with (fail)
        refine wp_region_inv (fun L' a' W' => ∃ v31 v32 v33 v34 v35 v36 v37 v38 v39 v40 v41 v42 v43 v44 v45 v46 v47 v48 v49 v50, a' = { tmps := #[.pointer (some ⟨b, 0, none⟩), .int .u64 a, undef, undef, .int .i64 0, .int .i64 k, .int .u64 a, .bool false, .pointer (some ⟨b, 0, none⟩), .int .u64 a, .bool false, .int .i64 k, .pointer (some ⟨b,0,none⟩), .pointer (some ⟨b,0,none⟩), .pointer (some ⟨b,0,none⟩), .slice (some ⟨g,0,none⟩) l.length C, .int .i64 l.length, .bool false, .bool false, undef, undef, undef, undef, undef, undef, undef, undef, undef, .bool false, u29, u30, v31, v32, v33, v34, v35, v36, v37, v38, v39, v40, v41, v42, v43, v44, v45, v46, v47, v48, v49, v50], defers := [] } ∧ Vals L' w 0 (psPut (.pointer (some ⟨b, 0, none⟩)) (.slice (some ⟨g,0,none⟩) l.length C) (.int .i64 k) (.slice (some ⟨g,0,none⟩) k C) (.slice (some ⟨g,k,none⟩) (l.length - k) (C - k)) (.int .u64 a)) [v31, v32, v33, v34, v35, v36, v37, v38, v39, v40, v41, v42, v43, v44, v45, v46, v47, v48, v49, v50] ∧ PInv w b k (l.length - k) xs ys a L' v38 v40 v41 v48 W') (by kernel_rfl) (by kernel_rfl) (by kernel_rfl) ?h0 ⟨?o0, ?o1, ?o2, ?o3, ?o4, ?o5, ?o6, ?o7, ?o8, ?o9, ?o10, ?o11, ?o12, ?o13, ?o14, ?o15, ?o16, ?o17, ?o18, ?o19, ?o20, trivial⟩ ?he
        case h0 => exact ⟨undef, undef, undef, undef, undef, undef, undef, undef, undef, undef, undef, undef, undef, undef, undef, undef, undef, undef, undef, undef, rfl, Vals.none _ _ _ rfl, PInv.init⟩
        case o0 =>
          rintro L' a' W' ⟨v31, v32, v33, v34, v35, v36, v37, v38, v39, v40, v41, v42, v43, v44, v45, v46, v47, v48, v49, v50, rfl, hV, hI⟩ hL hd K hK
          have HV := Lib.hid (hV.set 0 (.pointer (some ⟨b, 0, none⟩)) rfl rfl)
          have HI := Lib.hid (hI.other 0 (by decide) (by decide) (by decide) (by decide) (by decide) (by decide) (by decide))
          have HK := Lib.hid hK
          clear hV hI hd hK
          go_wp2
          exact HK.out _ _ ⟨_, _, _, _, _, _, _, _, _, _, _, _, _, _, _, _, _, _, _, _, rfl, HV.out, HI.out⟩
        case o1 =>
          rintro L' a' W' ⟨v31, v32, v33, v34, v35, v36, v37, v38, v39, v40, v41, v42, v43, v44, v45, v46, v47, v48, v49, v50, rfl, hV, hI⟩ hL hd K hK
          have HV := Lib.hid (hV.set 1 (.pointer (some ⟨b, 0, none⟩)) rfl rfl)
          have HI := Lib.hid (hI.other 1 (by decide) (by decide) (by decide) (by decide) (by decide) (by decide) (by decide))
          have HK := Lib.hid hK
          clear hV hI hd hK
          go_wp2
          exact HK.out _ _ ⟨_, _, _, _, _, _, _, _, _, _, _, _, _, _, _, _, _, _, _, _, rfl, HV.out, HI.out⟩
        case o2 =>
          rintro L' a' W' ⟨v31, v32, v33, v34, v35, v36, v37, v38, v39, v40, v41, v42, v43, v44, v45, v46, v47, v48, v49, v50, rfl, hV, hI⟩ hL hd K hK
          have e1 := hV.get 1 rfl rfl (deps_of' hd 1 (by kernel_rfl))
          have HV := Lib.hid (hV.set 2 (.pointer (some ⟨b, 0, none⟩)) rfl rfl)
          have HI := Lib.hid (hI.other 2 (by decide) (by decide) (by decide) (by decide) (by decide) (by decide) (by decide))
          have HK := Lib.hid hK
          clear hV hI hd hK
          unfold Is at e1
          subst e1
          go_wp2
          exact HK.out _ _ ⟨_, _, _, _, _, _, _, _, _, _, _, _, _, _, _, _, _, _, _, _, rfl, HV.out, HI.out⟩
        case o3 =>
          rintro L' a' W' ⟨v31, v32, v33, v34, v35, v36, v37, v38, v39, v40, v41, v42, v43, v44, v45, v46, v47, v48, v49, v50, rfl, hV, hI⟩ hL hd K hK
          have e2 := hV.get 2 rfl rfl (deps_of' hd 2 (by kernel_rfl))
          have HV := Lib.hid (hV.set 3 (.pointer (some ⟨b, 0, none⟩)) rfl rfl)
          have HI := Lib.hid (hI.other 3 (by decide) (by decide) (by decide) (by decide) (by decide) (by decide) (by decide))
          have HK := Lib.hid hK
          clear hV hI hd hK
          unfold Is at e2
          subst e2
          go_wp2
          exact HK.out _ _ ⟨_, _, _, _, _, _, _, _, _, _, _, _, _, _, _, _, _, _, _, _, rfl, HV.out, HI.out⟩
        case o4 =>
          rintro L' a' W' ⟨v31, v32, v33, v34, v35, v36, v37, v38, v39, v40, v41, v42, v43, v44, v45, v46, v47, v48, v49, v50, rfl, hV, hI⟩ hL hd K hK
          have e3 := hV.get 3 rfl rfl (deps_of' hd 3 (by kernel_rfl))
          have hcW := ((hI.below (hI.n4 hL)).cell (p := ⟨b, 0, none⟩) hbl).trans hc
          have HV := Lib.hid (hV.set 4 ((.slice (some ⟨g,0,none⟩) l.length C)) rfl rfl)
          have HI := Lib.hid (hI.other 4 (by decide) (by decide) (by decide) (by decide) (by decide) (by decide) (by decide))
          have HK := Lib.hid hK
          clear hV hI hd hK
          unfold Is at e3
          subst e3
          go_wp2
          exact HK.out _ _ ⟨_, _, _, _, _, _, _, _, _, _, _, _, _, _, _, _, _, _, _, _, rfl, HV.out, HI.out⟩
        case o5 =>
          rintro L' a' W' ⟨v31, v32, v33, v34, v35, v36, v37, v38, v39, v40, v41, v42, v43, v44, v45, v46, v47, v48, v49, v50, rfl, hV, hI⟩ hL hd K hK
          have HV := Lib.hid (hV.set 5 (.int .i64 k) rfl rfl)
          have HI := Lib.hid (hI.other 5 (by decide) (by decide) (by decide) (by decide) (by decide) (by decide) (by decide))
          have HK := Lib.hid hK
          clear hV hI hd hK
          go_wp2
          exact HK.out _ _ ⟨_, _, _, _, _, _, _, _, _, _, _, _, _, _, _, _, _, _, _, _, rfl, HV.out, HI.out⟩
        case o6 =>
          rintro L' a' W' ⟨v31, v32, v33, v34, v35, v36, v37, v38, v39, v40, v41, v42, v43, v44, v45, v46, v47, v48, v49, v50, rfl, hV, hI⟩ hL hd K hK
          have e4 := hV.get 4 rfl rfl (deps_of' hd 4 (by kernel_rfl))
          have e5 := hV.get 5 rfl rfl (deps_of' hd 5 (by kernel_rfl))
          have HV := Lib.hid (hV.set 6 (.slice (some ⟨g,0,none⟩) k C) rfl rfl)
          have HI := Lib.hid (hI.s6 (deps_of' hd 4 (by kernel_rfl)))
          have HK := Lib.hid hK
          clear hV hI hd hK
          unfold Is at e4
          subst e4
          unfold Is at e5
          subst e5
          go_wp2
          exact HK.out _ _ ⟨_, _, _, _, _, _, _, _, _, _, _, _, _, _, _, _, _, _, _, _, rfl, HV.out, HI.out⟩
        case o7 =>
          rintro L' a' W' ⟨v31, v32, v33, v34, v35, v36, v37, v38, v39, v40, v41, v42, v43, v44, v45, v46, v47, v48, v49, v50, rfl, hV, hI⟩ hL hd K hK
          have e6 := hV.get 6 rfl rfl (deps_of' hd 6 (by kernel_rfl))
          have bel := hI.below (hI.n7 hL).2.2
          refine wp_append_any W' (.const (.slice none 0 0)) (.tmp 37) 35 rfl w.heap.size 39 i0 _ 1 8 Try.underlying35 hi hz0 hz1 hz2 rfl (by omega) (.slice none 0 0) 0 [] rfl (World.ownsRow_nil _ _ _ _) w.heap.size _ k _ xs (by unfold Is at e6; rw [e6]; rfl) (HT.out.below bel) HX1.out (by unfold maxLen; omega) (by omega) bel.size ?_
          intro v' w' hown hg hat
          exact hK _ _ ⟨_, _, _, _, _, _, _, _, _, _, _, _, _, _, _, _, _, _, _, _, rfl, hV.set 7 v' rfl trivial, hI.s7 hL (deps_of' hd 6 (by kernel_rfl)) (by simpa using hown) hg⟩
        case o8 =>
          rintro L' a' W' ⟨v31, v32, v33, v34, v35, v36, v37, v38, v39, v40, v41, v42, v43, v44, v45, v46, v47, v48, v49, v50, rfl, hV, hI⟩ hL hd K hK
          have HV := Lib.hid (hV.set 8 (.int .u64 a) rfl rfl)
          have HI := Lib.hid (hI.other 8 (by decide) (by decide) (by decide) (by decide) (by decide) (by decide) (by decide))
          have HK := Lib.hid hK
          clear hV hI hd hK
          go_wp2
          exact HK.out _ _ ⟨_, _, _, _, _, _, _, _, _, _, _, _, _, _, _, _, _, _, _, _, rfl, HV.out, HI.out⟩
        case o9 =>
          rintro L' a' W' ⟨v31, v32, v33, v34, v35, v36, v37, v38, v39, v40, v41, v42, v43, v44, v45, v46, v47, v48, v49, v50, rfl, hV, hI⟩ hL hd K hK
          have e8 := hV.get 8 rfl rfl (deps_of' hd 8 (by kernel_rfl))
          have HV := Lib.hid (hV.set 9 (.slice (some ⟨W'.heap.size, 0, none⟩) 1 1) rfl trivial)
          have HI := Lib.hid (hI.s9 hL 39)
          have HK := Lib.hid hK
          clear hV hI hd hK
          unfold Is at e8
          subst e8
          go_wp2
          exact HK.out _ _ ⟨_, _, _, _, _, _, _, _, _, _, _, _, _, _, _, _, _, _, _, _, rfl, HV.out, HI.out⟩
        case o10 =>
          rintro L' a' W' ⟨v31, v32, v33, v34, v35, v36, v37, v38, v39, v40, v41, v42, v43, v44, v45, v46, v47, v48, v49, v50, rfl, hV, hI⟩ hL hd K hK
          have d7 := deps_of' hd 7 (by kernel_rfl)
          have d9 := deps_of' hd 9 (by kernel_rfl)
          have bel := hI.below (f_imp hI.e20 (f_imp hI.e17 hL))
          obtain ⟨g, e40, _, hcg⟩ := hI.p9 d9 hL
          refine wp_append_any W' (.tmp 38) (.tmp 40) 35 rfl w.heap.size 39 i0 _ 1 8 Try.underlying35 hi hz0 hz1 hz2 rfl (by omega) v38 k xs rfl (hI.p7 d7 hL) (g + 1) (some ⟨g, 0, none⟩) 1 1 [.int .u64 a] (by rw [e40]; rfl) (reads_one hcg) (ints_oneCell .u64 [a]) (by unfold maxLen; omega) (by omega) bel.size ?_
          intro v' w' hown hg hat
          exact hK _ _ ⟨_, _, _, _, _, _, _, _, _, _, _, _, _, _, _, _, _, _, _, _, rfl, hV.set 10 v' rfl trivial, hI.s10 hL d7 d9 hown hg⟩
        case o11 =>
          rintro L' a' W' ⟨v31, v32, v33, v34, v35, v36, v37, v38, v39, v40, v41, v42, v43, v44, v45, v46, v47, v48, v49, v50, rfl, hV, hI⟩ hL hd K hK
          have HV := Lib.hid (hV.set 11 (.pointer (some ⟨b, 0, none⟩)) rfl rfl)
          have HI := Lib.hid (hI.other 11 (by decide) (by decide) (by decide) (by decide) (by decide) (by decide) (by decide))
          have HK := Lib.hid hK
          clear hV hI hd hK
          go_wp2
          exact HK.out _ _ ⟨_, _, _, _, _, _, _, _, _, _, _, _, _, _, _, _, _, _, _, _, rfl, HV.out, HI.out⟩
        case o12 =>
          rintro L' a' W' ⟨v31, v32, v33, v34, v35, v36, v37, v38, v39, v40, v41, v42, v43, v44, v45, v46, v47, v48, v49, v50, rfl, hV, hI⟩ hL hd K hK
          have e11 := hV.get 11 rfl rfl (deps_of' hd 11 (by kernel_rfl))
          have HV := Lib.hid (hV.set 12 (.pointer (some ⟨b, 0, none⟩)) rfl rfl)
          have HI := Lib.hid (hI.other 12 (by decide) (by decide) (by decide) (by decide) (by decide) (by decide) (by decide))
          have HK := Lib.hid hK
          clear hV hI hd hK
          unfold Is at e11
          subst e11
          go_wp2
          exact HK.out _ _ ⟨_, _, _, _, _, _, _, _, _, _, _, _, _, _, _, _, _, _, _, _, rfl, HV.out, HI.out⟩
        case o13 =>
          rintro L' a' W' ⟨v31, v32, v33, v34, v35, v36, v37, v38, v39, v40, v41, v42, v43, v44, v45, v46, v47, v48, v49, v50, rfl, hV, hI⟩ hL hd K hK
          have e12 := hV.get 12 rfl rfl (deps_of' hd 12 (by kernel_rfl))
          have HV := Lib.hid (hV.set 13 (.pointer (some ⟨b, 0, none⟩)) rfl rfl)
          have HI := Lib.hid (hI.other 13 (by decide) (by decide) (by decide) (by decide) (by decide) (by decide) (by decide))
          have HK := Lib.hid hK
          clear hV hI hd hK
          unfold Is at e12
          subst e12
          go_wp2
          exact HK.out _ _ ⟨_, _, _, _, _, _, _, _, _, _, _, _, _, _, _, _, _, _, _, _, rfl, HV.out, HI.out⟩
        case o14 =>
          rintro L' a' W' ⟨v31, v32, v33, v34, v35, v36, v37, v38, v39, v40, v41, v42, v43, v44, v45, v46, v47, v48, v49, v50, rfl, hV, hI⟩ hL hd K hK
          have e13 := hV.get 13 rfl rfl (deps_of' hd 13 (by kernel_rfl))
          have hcW := ((hI.below (hI.n14 hL)).cell (p := ⟨b, 0, none⟩) hbl).trans hc
          have HV := Lib.hid (hV.set 14 ((.slice (some ⟨g,0,none⟩) l.length C)) rfl rfl)
          have HI := Lib.hid (hI.other 14 (by decide) (by decide) (by decide) (by decide) (by decide) (by decide) (by decide))
          have HK := Lib.hid hK
          clear hV hI hd hK
          unfold Is at e13
          subst e13
          go_wp2
          exact HK.out _ _ ⟨_, _, _, _, _, _, _, _, _, _, _, _, _, _, _, _, _, _, _, _, rfl, HV.out, HI.out⟩
        case o15 =>
          rintro L' a' W' ⟨v31, v32, v33, v34, v35, v36, v37, v38, v39, v40, v41, v42, v43, v44, v45, v46, v47, v48, v49, v50, rfl, hV, hI⟩ hL hd K hK
          have HV := Lib.hid (hV.set 15 (.int .i64 k) rfl rfl)
          have HI := Lib.hid (hI.other 15 (by decide) (by decide) (by decide) (by decide) (by decide) (by decide) (by decide))
          have HK := Lib.hid hK
          clear hV hI hd hK
          go_wp2
          exact HK.out _ _ ⟨_, _, _, _, _, _, _, _, _, _, _, _, _, _, _, _, _, _, _, _, rfl, HV.out, HI.out⟩
        case o16 =>
          rintro L' a' W' ⟨v31, v32, v33, v34, v35, v36, v37, v38, v39, v40, v41, v42, v43, v44, v45, v46, v47, v48, v49, v50, rfl, hV, hI⟩ hL hd K hK
          have e14 := hV.get 14 rfl rfl (deps_of' hd 14 (by kernel_rfl))
          have e15 := hV.get 15 rfl rfl (deps_of' hd 15 (by kernel_rfl))
          have HV := Lib.hid (hV.set 16 (.slice (some ⟨g,k,none⟩) (l.length - k) (C - k)) rfl rfl)
          have HI := Lib.hid (hI.s16 (deps_of' hd 14 (by kernel_rfl)))
          have HK := Lib.hid hK
          clear hV hI hd hK
          unfold Is at e14
          subst e14
          unfold Is at e15
          subst e15
          go_wp2
          exact HK.out _ _ ⟨_, _, _, _, _, _, _, _, _, _, _, _, _, _, _, _, _, _, _, _, rfl, HV.out, HI.out⟩
        case o17 =>
          rintro L' a' W' ⟨v31, v32, v33, v34, v35, v36, v37, v38, v39, v40, v41, v42, v43, v44, v45, v46, v47, v48, v49, v50, rfl, hV, hI⟩ hL hd K hK
          have e16 := hV.get 16 rfl rfl (deps_of' hd 16 (by kernel_rfl))
          have d10 := deps_of' hd 10 (by kernel_rfl)
          have bel := hI.below (f_imp hI.e20 hL)
          refine wp_append_any W' (.tmp 41) (.tmp 47) 35 rfl w.heap.size 39 i0 _ 1 8 Try.underlying35 hi hz0 hz1 hz2 rfl (by omega) v41 (k + 1) (xs ++ [.int .u64 a]) rfl (hI.p10 d10 hL) w.heap.size _ (l.length - k) _ ys (by unfold Is at e16; rw [e16]; rfl) (HC.out.below bel) HY1.out (by unfold maxLen; omega) (by omega) bel.size ?_
          intro v' w' hown hg hat
          exact hK _ _ ⟨_, _, _, _, _, _, _, _, _, _, _, _, _, _, _, _, _, _, _, _, rfl, hV.set 17 v' rfl trivial, hI.s17 hL d10 (deps_of' hd 16 (by kernel_rfl)) hown hg⟩
        case o18 =>
          rintro L' a' W' ⟨v31, v32, v33, v34, v35, v36, v37, v38, v39, v40, v41, v42, v43, v44, v45, v46, v47, v48, v49, v50, rfl, hV, hI⟩ hL hd K hK
          have e0 := hV.get 0 rfl rfl (deps_of' hd 0 (by kernel_rfl))
          have HV := Lib.hid (hV.set 18 (.pointer (some ⟨b, 0, none⟩)) rfl rfl)
          have HI := Lib.hid (hI.other 18 (by decide) (by decide) (by decide) (by decide) (by decide) (by decide) (by decide))
          have HK := Lib.hid hK
          clear hV hI hd hK
          unfold Is at e0
          subst e0
          go_wp2
          exact HK.out _ _ ⟨_, _, _, _, _, _, _, _, _, _, _, _, _, _, _, _, _, _, _, _, rfl, HV.out, HI.out⟩
        case o19 =>
          rintro L' a' W' ⟨v31, v32, v33, v34, v35, v36, v37, v38, v39, v40, v41, v42, v43, v44, v45, v46, v47, v48, v49, v50, rfl, hV, hI⟩ hL hd K hK
          have e18 := hV.get 18 rfl rfl (deps_of' hd 18 (by kernel_rfl))
          have HV := Lib.hid (hV.set 19 (.pointer (some ⟨b, 0, none⟩)) rfl rfl)
          have HI := Lib.hid (hI.other 19 (by decide) (by decide) (by decide) (by decide) (by decide) (by decide) (by decide))
          have HK := Lib.hid hK
          clear hV hI hd hK
          unfold Is at e18
          subst e18
          go_wp2
          exact HK.out _ _ ⟨_, _, _, _, _, _, _, _, _, _, _, _, _, _, _, _, _, _, _, _, rfl, HV.out, HI.out⟩
        case o20 =>
          rintro L' a' W' ⟨v31, v32, v33, v34, v35, v36, v37, v38, v39, v40, v41, v42, v43, v44, v45, v46, v47, v48, v49, v50, rfl, hV, hI⟩ hL hd K hK
          have e19 := hV.get 19 rfl rfl (deps_of' hd 19 (by kernel_rfl))
          have d17 := deps_of' hd 17 (by kernel_rfl)
          have hcW := ((hI.below hL).cell (p := ⟨b, 0, none⟩) hbl).trans hc
          have hfW := ((hI.below hL).frozen (p := ⟨b, 0, none⟩) hbl).trans hfz
          obtain ⟨x1, x2, x3, e48⟩ := own_slice (hI.p17 d17 hL)
          have HV := Lib.hid (vals_off20 hV)
          have HI := Lib.hid (hI.s20 hL d17)
          have HK := Lib.hid hK
          clear hV hI hd hK
          unfold Is at e19
          subst e19
          subst e48
          go_wp2
          exact HK.out _ _ ⟨_, _, _, _, _, _, _, _, _, _, _, _, _, _, _, _, _, _, _, _, rfl, HV.out, HI.out⟩
        case he =>
          rintro L' a' W' ⟨v31, v32, v33, v34, v35, v36, v37, v38, v39, v40, v41, v42, v43, v44, v45, v46, v47, v48, v49, v50, rfl, hV, hI⟩ hall
          obtain ⟨W1, rfl, hB1, hO1⟩ := hI.p20 (hall 20 (by decide))
          have HB1 := Lib.hid hB1
          have HO1 := Lib.hid hO1
          clear hV hI hall hB1 hO1
          go_wp2_with (fail)
          go_ret
          refine ⟨rfl, k, HP.out, H.out.put HB1.out ?_⟩
          have h3 := HO1.out
          rw [HXY.out.1, HXY.out.2] at h3
          exact own_cast h3 (by simp <;> omega) (by simp [List.map_take, List.map_drop])
end Go.Proofs.Ytdekjfbaoaobeaa
