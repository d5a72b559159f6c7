/-
  THE REFERENCE's Pack: contract.
-/
import Derived.Test.YtgmbnoimlffgcaaP
namespace Go.Proofs.Ytgmbnoimlffgcaa
open Go.RowKit

theorem own_below {B : Nat} {e : TypeId} {k : Nat} {v : Value} {n : Nat} {xs : List Value} {w w' : World} (h : w.ownsRow B e k v n xs) (hb : Below w.heap.size w w') : w'.ownsRow B e k v n xs := by
  obtain ⟨hl, h2⟩ := h
  refine ⟨hl, ?_⟩
  rcases h2 with h2 | ⟨g, cap, cur, hv, hB, hh, r⟩
  · exact .inl h2
  · exact .inr ⟨g, cap, cur, hv, hB, (hb.block g (Array.getElem?_eq_some_iff.1 hh).1).trans hh, r⟩

def zero8 : List UInt8 := List.replicate 8 0
def bcells (m : List UInt8) : Array Value := (m.map (fun b => Value.int .u8 (b.toNat : Int))).toArray
theorem bytesAt_blk {w : World} {b : Nat} {m : List UInt8} {t : TypeId} (h : Blk w b (bcells m) t) : BytesAt w b 0 m := fun i hi => by
  rw [Nat.zero_add, h.cell]; simp [bcells, hi]
/-- a part of a text in eight bytes -/
def pad8 (l : List UInt8) (i k : Nat) : List UInt8 := (l.drop i).take k ++ List.replicate (8 - k) 0
theorem pad8_len (l : List UInt8) (i k : Nat) (hk : k ≤ 8) (h : i + k ≤ l.length) : (pad8 l i k).length = 8 := by
  simp [pad8]; omega
theorem pad8_set (l : List UInt8) (i k : Nat) (hk : k < 8) (h : i + k < l.length) : (pad8 l i k).set k (l[i + k]) = pad8 l i (k + 1) := by
  have hl : ((l.drop i).take k).length = k := by simp; omega
  unfold pad8
  rw [show 8 - k = (8 - (k + 1)) + 1 by omega, List.replicate_succ, List.set_append_right _ _ (by omega), hl, Nat.sub_self, List.set_cons_zero]
  have : (l.drop i).take (k + 1) = (l.drop i).take k ++ [l[i + k]] := by
    rw [List.take_succ_eq_append_getElem (by simp; omega)]; simp
  rw [this, List.append_assoc]; rfl
theorem bcells_set (m : List UInt8) (k : Nat) (b : UInt8) : (bcells m).setIfInBounds k (.int .u8 (b.toNat : Int)) = bcells (m.set k b) := by
  simp [bcells]
theorem pad8_wd (l : List UInt8) (i k : Nat) (hk : k ≤ 8) (h : 8 ≤ k ∨ l.length ≤ i + k) : wd (pad8 l i k) = wd ((l.drop i).take 8) := by
  unfold pad8
  rw [wd_zeros]
  by_cases h9 : k = 8
  · rw [h9]
  · rw [List.take_of_length_le (by simp; omega), List.take_of_length_le (by simp; omega)]

end Go.Proofs.Ytgmbnoimlffgcaa
