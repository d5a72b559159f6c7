/-
  A memory as a whole: Lines, Image, View.
-/
import Derived.Test.YticgfnnmjcjnjaaRli
import Derived.Test.YticgfnnmjcjnjaaIm
import Derived.Test.YticgfnnmjcjnjaaLift
namespace Go.Proofs.Yticgfnnmjcjnjaa
open Go.RowKit Go.Maps Go.WideElems Go.WideShapes
set_option linter.unusedVariables false

section
variable {w w' : World} {mb : Nat} {S : Nat → Prop} {vs is : List Int} {mk : Int → Nat → Int} {F : Int → List (Int × Int)} {lo st fl fe : Int}
/-- the lines with something pending -/
def KeysF (F : Int → List (Int × Int)) (xs : List Int) : Prop := xs.Nodup ∧ (∀ a, a ∈ xs ↔ F a ≠ []) ∧ ∀ a, a ∈ xs → 0 ≤ a ∧ a ≤ 18446744073709551615
theorem MemC.keysF {w : World} {N0 mb : Nat} {vs is : List Int} {vv vi : Value} {ml n : Nat} {D : DataW Value} {sl : Int → Value} {mk : Int → Nat → Int} {F : Int → List (Int × Int)} {lo st fl fe : Int}
    (h : MemC w N0 mb vs is vv vi ml n D sl mk F lo st fl fe) (hh : ∀ a, Maps.has D (.int .u64 a) = true → F a ≠ []) {xs : List Int} (hk : KeysOf D xs) : KeysF F xs := by
  refine ⟨hk.1, fun a => (hk.2.1 a).trans ⟨hh a, fun hne => ?_⟩, fun a ha => u64_bounds (hk.2.2 a ha)⟩
  cases hq : Maps.has D (.int .u64 a) with
  | true => rfl
  | false => exact absurd (hasL_none (h.e a) (h.r a) hq).1 hne
theorem lines_m (h : MemP w mb S vs is mk F lo st fl fe) : Calls Try.prog 10 #[.pointer (some ⟨mb, 0, none⟩)] w fun e w' =>
    ∃ u xs, e = .returned u ∧ KeysF F xs ∧ w'.ownsRow w.heap.size 36 1 u (srt xs).length ((srt xs).map (Value.int .u64)) ∧ Below w.heap.size w w' := by
  obtain ⟨N0, vv, vi, ml, D, sl, hm, hN, hS, hp, hl, hi, hok, hF, hmk, hh, r⟩ := h
  refine (callsIn_wide.1 (lines_in w mb ml vs.length D (by omega) (hm.m.c 2) hm.o (fun W hB => mthere_v W mb vs is vv vi ml lo st fl fe (hm.m.below hB) hp))).mono ?_
  rintro e w' ⟨u, xs, rfl, hk, hxl, ho, hB⟩
  exact ⟨u, xs, rfl, hm.keysF hh hk, ho, hB⟩
theorem image_m (h : MemP w mb S vs is mk F lo st fl fe) (hu : U64s is) :
    Calls Try.prog 9 #[.pointer (some ⟨mb, 0, none⟩)] w fun e w' => ∃ v, e = .returned v ∧ w'.ownsRow w.heap.size 5 1 v (bytesW is).length (bvals (bytesW is)) ∧ Below w.heap.size w w' := by
  obtain ⟨N0, vv, vi, ml, D, sl, hm, hN, hS, hp, hl, hi, r⟩ := h
  exact image_v w mb vs is vv vi ml lo st fl fe hm.m hp (by omega) (by omega) hu
theorem view_m (h : MemP w mb S vs is mk F lo st fl fe) (hu : U64s vs) :
    Calls Try.prog 8 #[.pointer (some ⟨mb, 0, none⟩)] w fun e w' => ∃ v, e = .returned v ∧ w'.ownsRow w.heap.size 5 1 v (bytesW vs).length (bvals (bytesW vs)) ∧ Below w.heap.size w w' := by
  obtain ⟨N0, vv, vi, ml, D, sl, hm, hN, hS, hp, hl, hi, r⟩ := h
  exact view_v w mb vs is vv vi ml lo st fl fe hm.m hp (by omega) hu
/-- no line has anything pending -/
theorem KeysF.nil {F : Int → List (Int × Int)} {xs : List Int} (h : KeysF F xs) (hF : ∀ a, F a = []) : xs = [] := by
  cases xs with
  | nil => rfl
  | cons x r => exact absurd (hF x) ((h.2.1 x).1 List.mem_cons_self)
end
end Go.Proofs.Yticgfnnmjcjnjaa
