/-
  THE REFERENCE's Pack: contract.
-/
import Derived.Test.YtgmbnoimlffgcaaP
namespace Go.Proofs.Ytgmbnoimlffgcaa
open Go.RowKit

theorem own_below {B : Nat} {e : TypeId} {k : Nat} {v : Value} {n : Nat} {xs : List Value} {w w' : World} (h : w.ownsRow B e k v n xs) (hb : Below w.heap.size w w') : w'.ownsRow B e k v n xs := by
  obtain ⟨hl, h2⟩ := h
  refine ⟨hl, ?_⟩
  rcases h2 with h2 | ⟨g, cap, cur, hv, hB, hh, r⟩
  · exact .inl h2
  · exact .inr ⟨g, cap, cur, hv, hB, (hb.block g (Array.getElem?_eq_some_iff.1 hh).1).trans hh, r⟩

end Go.Proofs.Ytgmbnoimlffgcaa
