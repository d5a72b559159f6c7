/-
  linear's small functions: Ahead, ok, and the closures of May, Whole, value: contracts.
-/
import Derived.Test.YtdmcakoaakinnaaQa
namespace Go.Proofs.Ytdmcakoaakinnaa
open Go.RowKit
attribute [local go_sem] Oper.semAt_some
set_option linter.unusedVariables false
set_option linter.unusedSimpArgs false

set_option maxRecDepth 100000 in
theorem ahead_v (a b : Dn) (w : World) : Calls Try.prog 42 #[.agg (dnCells a), .agg (dnCells b)] w fun e w' => e = .returned (.bool (aheadP a b)) ∧ Below w.heap.size w w' := by
  have FIN := Lib.hid (fun (r : Bool) (hr : aheadP a b = r) => show Ending.returned (.bool r) = .returned (.bool (aheadP a b)) by rw [hr])
  have HB := Lib.hid (((Below.refl w.heap.size w).alloc (Nat.le_refl _) (.cells (dnCells a) 53)).alloc (by simp) (.cells (dnCells b) 53))
  unfold dnCells at HB ⊢
  by_cases h1 : 0 ≤ a.en
  · by_cases h2 : a.en < b.bg
    · have HF := Lib.hid (FIN.out true (by unfold aheadP; simp [h1, h2]))
      go_enter Try.func42, Try.ntmps42
      go_wp2_with (fail)
      go_ret
      exact ⟨HF.out, HB.out⟩
    · have HF := Lib.hid (FIN.out false (by unfold aheadP; simp [h1, h2]))
      go_enter Try.func42, Try.ntmps42
      go_wp2_with (fail)
      go_ret
      exact ⟨HF.out, HB.out⟩
  · have HF := Lib.hid (FIN.out false (by unfold aheadP; simp [h1]))
    go_enter Try.func42, Try.ntmps42
    go_wp2_with (fail)
    go_ret
    exact ⟨HF.out, HB.out⟩
set_option maxRecDepth 100000 in
theorem ok_v (d : Dn) (w : World) : Calls Try.prog 34 #[.agg (dnCells d)] w fun e w' => e = .returned (.bool (okP d)) ∧ Below w.heap.size w w' := by
  have FIN := Lib.hid (fun (r : Bool) (hr : okP d = r) => show Ending.returned (.bool r) = .returned (.bool (okP d)) by rw [hr])
  have HB := Lib.hid ((Below.refl w.heap.size w).alloc (Nat.le_refl _) (.cells (dnCells d) 53))
  unfold dnCells at HB ⊢
  by_cases h1 : 0 ≤ d.en
  · by_cases h2 : d.code = 0
    · have HF := Lib.hid (FIN.out true (by unfold okP; simp [h1, h2]))
      have e1 : (d.code == 0) = true := beq_iff_eq.2 h2
      clear h2
      go_enter Try.func34, Try.ntmps34
      go_wp2_with (fail)
      go_ret
      exact ⟨HF.out, HB.out⟩
    · have HF := Lib.hid (FIN.out false (by unfold okP; simp [h1, h2]))
      have e1 : (d.code == 0) = false := beq_eq_false_iff_ne.2 h2
      clear h2
      go_enter Try.func34, Try.ntmps34
      go_wp2_with (fail)
      go_ret
      exact ⟨HF.out, HB.out⟩
  · have HF := Lib.hid (FIN.out false (by unfold okP; simp [h1]))
    go_enter Try.func34, Try.ntmps34
    go_wp2_with (fail)
    go_ret
    exact ⟨HF.out, HB.out⟩
set_option maxRecDepth 100000 in
theorem odd_v (d : Dn) (w : World) : Calls Try.prog 37 #[.agg (dnCells d)] w fun e w' => e = .returned (.bool (oddP d)) ∧ Below w.heap.size w w' := by
  have FIN := Lib.hid (fun (r : Bool) (hr : oddP d = r) => show Ending.returned (.bool r) = .returned (.bool (oddP d)) by rw [hr])
  have HB := Lib.hid ((Below.refl w.heap.size w).alloc (Nat.le_refl _) (.cells (dnCells d) 53))
  unfold dnCells at HB ⊢
  by_cases h0 : d.bg < 0
  · have HF := Lib.hid (FIN.out true (by unfold oddP; simp [h0]))
    go_enter Try.func37, Try.ntmps37
    go_wp2_with (fail)
    go_ret
    exact ⟨HF.out, HB.out⟩
  by_cases h1 : 0 ≤ d.en
  · by_cases h2 : d.en ≤ d.bg
    · have HF := Lib.hid (FIN.out true (by unfold oddP; simp [h1, h2]))
      go_enter Try.func37, Try.ntmps37
      go_wp2_with (fail)
      go_ret
      exact ⟨HF.out, HB.out⟩
    · have HF := Lib.hid (FIN.out false (by unfold oddP; simp [h0, h2]))
      go_enter Try.func37, Try.ntmps37
      go_wp2_with (fail)
      go_ret
      exact ⟨HF.out, HB.out⟩
  · have HF := Lib.hid (FIN.out false (by unfold oddP; simp [h0, h1]))
    go_enter Try.func37, Try.ntmps37
    go_wp2_with (fail)
    go_ret
    exact ⟨HF.out, HB.out⟩
set_option maxRecDepth 100000 in
theorem vkey_v (p : Pr) (key : Int) (bk : Nat) (w : World) (hk : Blk w bk #[.int .u64 key] 24) : Calls Try.prog 44 #[.agg (prCells p), .pointer (some ⟨bk, 0, none⟩)] w fun e w' => e = .returned (.bool (p.key == key)) ∧ Below w.heap.size w w' := by
  have HB := Lib.hid ((Below.refl w.heap.size w).alloc (Nat.le_refl _) (.cells (prCells p) 59))
  have d : (w.alloc (.cells (prCells p) 59)).cell? ⟨bk, 0, none⟩ = some (.int .u64 key) := by rw [(hk.alloc _).cell]; rfl
  unfold prCells at HB d ⊢
  clear hk
  go_enter Try.func44, Try.ntmps44
  go_wp2_with (fail)
  go_ret
  exact ⟨rfl, HB.out⟩
def outP (d : Dn) (p : Pr) : Bool := decide (p.key < d.key) || decide (d.hi < p.key)
set_option maxRecDepth 100000 in
theorem out_v (p : Pr) (d : Dn) (bk : Nat) (w : World) (hk : Blk w bk (caCells d) 41) : Calls Try.prog 55 #[.agg (prCells p), .pointer (some ⟨bk, 0, none⟩)] w fun e w' => e = .returned (.bool (outP d p)) ∧ Below w.heap.size w w' := by
  have FIN := Lib.hid (fun (r : Bool) (hr : outP d p = r) => show Ending.returned (.bool r) = .returned (.bool (outP d p)) by rw [hr])
  have HB := Lib.hid ((Below.refl w.heap.size w).alloc (Nat.le_refl _) (.cells (prCells p) 59))
  have d1 : (w.alloc (.cells (prCells p) 59)).cell? ⟨bk, 1, none⟩ = some (.int .u64 d.key) := by rw [(hk.alloc _).cell]; rfl
  have d2 : (w.alloc (.cells (prCells p) 59)).cell? ⟨bk, 2, none⟩ = some (.int .u64 d.hi) := by rw [(hk.alloc _).cell]; rfl
  unfold prCells at HB d1 d2 ⊢
  clear hk
  by_cases h1 : p.key < d.key
  · have HF := Lib.hid (FIN.out true (by unfold outP; simp [h1]))
    go_enter Try.func55, Try.ntmps55
    go_wp2_with (fail)
    go_ret
    exact ⟨HF.out, HB.out⟩
  · by_cases h2 : d.hi < p.key
    · have HF := Lib.hid (FIN.out true (by unfold outP; simp [h2]))
      go_enter Try.func55, Try.ntmps55
      go_wp2_with (fail)
      go_ret
      exact ⟨HF.out, HB.out⟩
    · have HF := Lib.hid (FIN.out false (by unfold outP; simp [h1, h2]))
      go_enter Try.func55, Try.ntmps55
      go_wp2_with (fail)
      go_ret
      exact ⟨HF.out, HB.out⟩
end Go.Proofs.Ytdmcakoaakinnaa
