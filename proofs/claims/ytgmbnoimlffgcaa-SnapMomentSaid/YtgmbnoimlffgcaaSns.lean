/-
  The law SnapAlone: the walk.
-/
import Derived.Test.YtgmbnoimlffgcaaSnr
namespace Go.Proofs.Ytgmbnoimlffgcaa
open Go.RowKit
attribute [local go_sem] Oper.semAt_some
set_option linter.unusedVariables false

/-! ### plain -/
theorem rightN_nx (n : Nd) : (rightN n).nx = 0 ∨ (rightN n).nx = 1280 := by
  unfold rightN
  split
  · rename_i h; exact .inl h
  · exact .inr rfl
theorem rightN_wf {n : Nd} (h : n.Wf) : (rightN n).Wf := by
  unfold rightN
  split
  · exact h
  · exact ⟨h.lv, h.lo, (show (Lit.int .u64 1280).wf = true by decide), h.ct, h.fi, h.k, h.p⟩
end Go.Proofs.Ytgmbnoimlffgcaa
