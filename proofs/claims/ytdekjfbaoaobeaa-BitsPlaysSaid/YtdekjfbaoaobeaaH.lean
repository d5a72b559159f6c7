/-
  A SET OF ADDRESSES AS A HEAP IN MEMORY; the methods of the row.
-/
import Derived.Test.YtdekjfbaoaobeaaChecked
import Derived.Test.YtdekjfbaoaobeaaLib
import Derived.Test.YtdekjfbaoaobeaaCls
import Derived.Lib.Hide
import Derived.Outline
import Derived.Handy
import Derived.Deep.QuietTactic
import Derived.BigQuiet
import Derived.Deep.RegionWith
import Derived.RegionTactic
import Derived.BigRegion
import Derived.Maps.AppendAt
namespace Go.Proofs.Ytdekjfbaoaobeaa
open Go.RowKit

/-- THE ROW BEHIND A POINTER: block b one cell, the slice v, that owns the cells l. -/
structure HeapV (w : World) (b : Nat) (v : Value) (l : List Int) : Prop where
  blk : Blk w b #[v] 58
  row : w.ownsRow 0 39 1 v l.length (l.map (Value.int .u64))
  ne : v.ownBlock ≠ some b
/-- A step that writes the row, its pointer and new blocks alone. -/
def HStep (b : Nat) (v v' : Value) (w w' : World) : Prop :=
  Keeps (fun k => k = b ∨ v.ownBlock = some k) w w' ∧ (v'.ownBlock = v.ownBlock ∨ ∀ g, v'.ownBlock = some g → w.heap.size ≤ g)
theorem HStep.refl (b : Nat) (v : Value) (w : World) : HStep b v v w w := ⟨Keeps.refl _ _, .inl rfl⟩
theorem HStep.trans {b : Nat} {v v1 v2 : Value} {w w1 w2 : World} (h : HStep b v v1 w w1) (k : HStep b v1 v2 w1 w2) : HStep b v v2 w w2 := by
  refine ⟨h.1.trans' k.1 (fun i hi hS => ?_), ?_⟩
  · rcases hS with rfl | hS
    · exact .inl rfl
    · rcases h.2 with h2 | h2
      · rw [h2] at hS; exact .inr hS
      · have := h2 i hS; omega
  · rcases k.2 with k2 | k2
    · rcases h.2 with h2 | h2
      · exact .inl (k2.trans h2)
      · exact .inr (fun g hg => h2 g (by rw [← k2]; exact hg))
    · exact .inr (fun g hg => by have := k2 g hg; have := h.1.size; omega)

theorem find_len : ∃ m, Try.t62.methods.find? (fun x => x.name == "Len") = some m ∧ m.path = #[] ∧ m.func = some (44, false) := ⟨_, rfl, rfl, rfl⟩
theorem meth_len (n : Nat) (hn : 0 < n) (w : World) (b : Nat) (v : Value) (h : w.cell? ⟨b, 0, none⟩ = some v) : (method n 62 (.pointer (some ⟨b, 0, none⟩)) "Len").run Try.prog w = .ok (44, v) w := by
  obtain ⟨m, h1, h2, h3⟩ := find_len
  obtain ⟨fuel, rfl⟩ : ∃ fuel, n = fuel + 1 := ⟨n - 1, by omega⟩
  unfold method
  simp [go_sem]
  rw [h1]
  simp only [h2, h3, follow]
  have hw : ∀ s : String, (Builtin.ssaWrapNilChk_ #[62] 62 #[.pointer (some ⟨b, 0, none⟩), strVal "", strVal s]).run Try.prog w = .ok (.pointer (some ⟨b, 0, none⟩)) w := fun s => rfl
  simp [go_sem, receiverAt, Place.get, hw, h]

theorem find_less : ∃ m, Try.t62.methods.find? (fun x => x.name == "Less") = some m ∧ m.path = #[] ∧ m.func = some (91, false) := ⟨_, rfl, rfl, rfl⟩
theorem meth_less (n : Nat) (hn : 0 < n) (w : World) (b : Nat) (v : Value) (h : w.cell? ⟨b, 0, none⟩ = some v) : (method n 62 (.pointer (some ⟨b, 0, none⟩)) "Less").run Try.prog w = .ok (91, v) w := by
  obtain ⟨m, h1, h2, h3⟩ := find_less
  obtain ⟨fuel, rfl⟩ : ∃ fuel, n = fuel + 1 := ⟨n - 1, by omega⟩
  unfold method
  simp [go_sem]
  rw [h1]
  simp only [h2, h3, follow]
  have hw : ∀ s : String, (Builtin.ssaWrapNilChk_ #[62] 62 #[.pointer (some ⟨b, 0, none⟩), strVal "", strVal s]).run Try.prog w = .ok (.pointer (some ⟨b, 0, none⟩)) w := fun s => rfl
  simp [go_sem, receiverAt, Place.get, hw, h]

theorem find_swap : ∃ m, Try.t62.methods.find? (fun x => x.name == "Swap") = some m ∧ m.path = #[] ∧ m.func = some (92, false) := ⟨_, rfl, rfl, rfl⟩
theorem meth_swap (n : Nat) (hn : 0 < n) (w : World) (b : Nat) (v : Value) (h : w.cell? ⟨b, 0, none⟩ = some v) : (method n 62 (.pointer (some ⟨b, 0, none⟩)) "Swap").run Try.prog w = .ok (92, v) w := by
  obtain ⟨m, h1, h2, h3⟩ := find_swap
  obtain ⟨fuel, rfl⟩ : ∃ fuel, n = fuel + 1 := ⟨n - 1, by omega⟩
  unfold method
  simp [go_sem]
  rw [h1]
  simp only [h2, h3, follow]
  have hw : ∀ s : String, (Builtin.ssaWrapNilChk_ #[62] 62 #[.pointer (some ⟨b, 0, none⟩), strVal "", strVal s]).run Try.prog w = .ok (.pointer (some ⟨b, 0, none⟩)) w := fun s => rfl
  simp [go_sem, receiverAt, Place.get, hw, h]

end Go.Proofs.Ytdekjfbaoaobeaa
