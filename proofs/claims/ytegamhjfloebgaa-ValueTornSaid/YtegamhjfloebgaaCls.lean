/-
  A REGION THAT DRAWS ITS ORDER, WHOSE OPERATIONS READ AND WHOSE CALLEES MAY MAKE MEMORY (Below): one walk of the lexical order, over the class of all worlds that keep what was there.
-/
import Derived.BigQuiet
import Derived.Below
import Derived.Lib.Hide
namespace Go.Proofs.Ytegamhjfloebgaa
open Go.RowKit

theorem wp_region_cls {P : Program} {S : Type} (f : S → World) {id : Nat} {Q : Exit → Act → World → Prop} {a : Act} {w : World} {l : List Oper} (hm : P.follows .mixedOrders = true) (hB : Region.lexB .any l.toArray = true)
    (h0 : ∃ x, w.drew = f x) (h : wpQuiet P l.toArray (fun w' => ∃ x, w' = f x) (fun a' => ∀ w', (∃ x, w' = f x) → Q .normal a' w') l a) : (Code.region id l.toArray true).wp P Q a w :=
  wp_region_quiet (C := fun w' => ∃ x, w' = f x) hm hB h0 (by simpa using h)

/-- all worlds that keep what is below a block -/
theorem cls_of (w : World) : ∃ (S : Type) (f : S → World), Nonempty S ∧ (∃ x, w.drew = f x) ∧ (∀ x, Below w.heap.size w (f x)) ∧ (∀ w', Below w.heap.size w w' → ∃ x, w' = f x) :=
  ⟨{w' // Below w.heap.size w w'}, Subtype.val, ⟨⟨w.drew, (Below.refl _ _).drew⟩⟩, ⟨⟨w.drew, (Below.refl _ _).drew⟩, rfl⟩, fun x => x.2, fun w' h => ⟨⟨w', h⟩, rfl⟩⟩

theorem calls_cls {P : Program} {S : Type} {f : S → World} {w : World} {g : FuncId} {args : Array Value} {v : Value} {x : S} (hi : ∀ w', Below w.heap.size w w' → ∃ x, w' = f x) (hB : ∀ x, Below w.heap.size w (f x))
    (h : Calls P g args (f x) fun e w' => e = .returned v ∧ Below (f x).heap.size (f x) w') : Calls P g args (f x) fun e w' => e = .returned v ∧ ∃ y, w' = f y :=
  h.mono fun _ _ ⟨he, hb⟩ => ⟨he, hi _ ((hB x).trans (hb.mono (hB x).size))⟩

/- In the templates a line 'go_class f, F0, (tac)' is written out by fill.py: the walk over such a class. -/
end Go.Proofs.Ytegamhjfloebgaa
