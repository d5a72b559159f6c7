/-
  pmem.Mem.rising: a contract.
-/
import Derived.Test.YticgfnnmjcjnjaaSr
namespace Go.Proofs.Yticgfnnmjcjnjaa
open Go.RowKit Go.Maps Go.Shelf
set_option linter.unusedVariables false

/-- the lines with something pending, rising -/
def RisingP (w : World) (D : DataW Value) (n : Nat) (e : Ending) (w' : World) : Prop :=
  ∃ b g v xs, e = .returned (.func (.func 33) #[] #[.pointer (some ⟨b, 0, none⟩)]) ∧ KeysOf D xs ∧ xs.length ≤ n ∧ Blk w' b #[v] 31 ∧ RowG w' g v (srt xs) ∧ w.heap.size ≤ g ∧ w.heap.size ≤ b ∧ Below w.heap.size w w'
set_option maxRecDepth 100000 in
theorem rising_v (w : World) (mb ml n : Nat) (D : DataW Value) (hn : n ≤ 1000000) (c2 : w.cell? ⟨mb, 2, none⟩ = some (.map (some ml))) (hown : OwnL w ml n D) :
    Calls Try.prog 20 #[.pointer (some ⟨mb, 0, none⟩)] w (RisingP w D n) := by
  have hB1 : Below w.heap.size w (w.alloc (.cells #[.map (some ml)] 42)) := (Below.refl _ _).alloc (Nat.le_refl _) _
  have HB1 := Lib.hid hB1
  have HKc := Lib.hid (callsIn_wide.1 (keys_calls 9 ml w))
  have HSo := Lib.hid (sorted_v w.heap.size ml n D (w.alloc (.cells #[.map (some ml)] 42)) hn (Blk.new w _ _) (ownL_keeps hown (Keeps.of_below' hB1) (fun h => h)))
  clear hown hB1
  go_enter Try.func20, Try.ntmps20
  go_wp2_with (fail)
  refine HKc.out.mono ?_
  rintro e w1 ⟨rfl, h1⟩
  subst h1
  go_wp2_with (fail)
  refine HSo.out.mono ?_
  rintro e w2 ⟨u, xs, rfl, hks, hxl, hown, hB⟩
  have hB2 : Below w.heap.size w w2 := HB1.out.trans (hB.mono HB1.out.size)
  have hsl := own_slice hown
  obtain ⟨a, n0, c, rfl⟩ := hsl
  obtain rfl : n0 = (srt xs).length := own_len hown
  have HAl := Lib.hid (callsIn_wide.1 (all_calls 9 a (srt xs).length c w2))
  have HKs := Lib.hid hks
  have HXl := Lib.hid hxl
  have hB3 : Below w2.heap.size w2 (w2.alloc (.cells #[.slice a (srt xs).length c] 31)) := (Below.refl _ _).alloc (Nat.le_refl _) _
  have HR := Lib.hid (show ∃ g, RowG (w2.alloc (.cells #[.slice a (srt xs).length c] 31)) g (.slice a (srt xs).length c) (srt xs) ∧ w.heap.size ≤ g from by
    by_cases h0 : 0 < (srt xs).length
    · obtain ⟨g, cap, e, hg0, hg, _, _, _, hc, _⟩ := own_shape hown h0
      have hr : RowG w2 g (.slice a (srt xs).length c) (srt xs) := ⟨⟨_, _, rfl, fun _ => by cases e; rfl⟩, hg, fun j hj => by rw [hc j hj]; simp [hj]⟩
      have hg0' := hg0
      simp at hg0'
      exact ⟨g, hr.kept hB3.size (fun h => hB3.block g h), by omega⟩
    · exact ⟨w2.heap.size, ⟨⟨_, _, rfl, fun h => absurd h h0⟩, by simp, fun j hj => absurd hj (by omega)⟩, hB2.size⟩)
  have HB3 := Lib.hid (hB2.trans (hB3.mono hB2.size))
  have HZ := Lib.hid hB2.size
  clear hown hB hB2 hB3 hks hxl
  go_wp2_with (fail)
  refine HAl.out.mono ?_
  rintro e w3 ⟨rfl, h3⟩
  subst h3
  go_wp2_with (fail)
  go_ret
  obtain ⟨g, hg1, hg2⟩ := HR.out
  exact ⟨_, g, _, xs, rfl, HKs.out, HXl.out, Blk.new w2 _ _, hg1, hg2, HZ.out, HB3.out⟩
end Go.Proofs.Yticgfnnmjcjnjaa
