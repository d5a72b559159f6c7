/-
  A MAP OF NUMBERS (map[uint64]bool), as a table whose elements are read as themselves.
-/
import Derived.Test.YtdmcakoaakinnaaQa
import Derived.Maps.Own
import Derived.Maps.OwnSet
import Derived.Maps.Views
import Derived.Maps.RangeWalk
import Derived.RangeFuncBox
import Derived.RangeFuncWrites
namespace Go.Proofs.Ytdmcakoaakinnaa
open Go.RowKit Go.Maps
set_option linter.unusedVariables false
set_option linter.unusedSimpArgs false

theorem kA : Keyed Try.prog 24 := int_keyed Try.underlying24
/-- an element is read as itself -/
def RV (v : Value) : Option (DataW Value × List MemPlace) := some (.held v, [])
abbrev OwnL (w : World) (ml n : Nat) (D : DataW Value) : Prop := w.ownsMap Try.prog 24 RV ml n D
theorem addr_wf {a : Int} (h0 : 0 ≤ a) (h1 : a ≤ 18446744073709551615) : (Lit.int .u64 a).wf = true := by
  simp [Lit.wf, IntKind.min, IntKind.max, IntKind.signed, IntKind.bits]; omega
theorem u64_bounds {a : Int} (h : (Lit.int .u64 a).wf = true) : 0 ≤ a ∧ a ≤ 18446744073709551615 := by
  simp [Lit.wf, IntKind.min, IntKind.max, IntKind.signed, IntKind.bits] at h; omega
theorem ownL_keeps {S : Nat → Prop} {w w' : World} {ml n : Nat} {D : DataW Value} (h : OwnL w ml n D) (hk : Keeps S w w') (hn : ¬ S ml) : OwnL w' ml n D := by
  obtain ⟨es, clock, hb, F, hs, hD⟩ := h
  exact ⟨es, clock, (hk.block ml (Array.getElem?_eq_some_iff.1 hb).1 hn).trans hb, F, hs, hD⟩
theorem Blk.put {w w' : World} {row : Option Nat} {b : Nat} {C : Array Value} {t : TypeId} (h : Blk w b C t) (hg : w.grownBy w' row)
    (hr : ∀ r, row = some r → ∃ o : Obj, w.heap[r]? = some o ∧ o.isCells = false) : Blk w' b C t := by
  refine h.grown hg (fun e => ?_)
  obtain ⟨o, ho, hc⟩ := hr b e.symm
  unfold Blk at h
  rw [h] at ho; cases ho; cases hc
theorem own_put {w w' : World} {row : Option Nat} {base : Nat} {e : TypeId} {size : Nat} {v : Value} {n : Nat} {xs : List Value} (h : w.ownsRow base e size v n xs) (hg : w.grownBy w' row)
    (hr : ∀ r, row = some r → ∃ o : Obj, w.heap[r]? = some o ∧ o.isCells = false) : w'.ownsRow base e size v n xs := by
  obtain ⟨hl, h2⟩ := h
  refine ⟨hl, ?_⟩
  rcases h2 with h2 | ⟨g, cap, cur, hv, hb, hh, r⟩
  · exact .inl h2
  · refine .inr ⟨g, cap, cur, hv, hb, ?_, r⟩
    rw [hg.block g (Array.getElem?_eq_some_iff.1 hh).1 (fun e => by
      obtain ⟨o, ho, hc⟩ := hr g e.symm
      rw [hh] at ho; cases ho; cases hc)]
    exact hh
end Go.Proofs.Ytdmcakoaakinnaa
