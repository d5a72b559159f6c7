/-
  node.Active: its closure, slices.IndexFunc at it, slices.DeleteFunc, and the whole: contracts.
-/
import Derived.Test.YtkfpoekeofnglaaDoorNf
import Derived.Lib.SliceRun
namespace Go.Proofs.YtkfpoekeofnglaaDoor
open Go.RowKit
set_option linter.unusedVariables false

/-- is an entry not below the bound? -/
def cutB (has : Bool) (high : Int) (k : Int) : Bool := has && decide (high ≤ k)
def keepL (has : Bool) (high : Int) (l : List (Int × Int)) : List (Int × Int) := l.filter (fun e => !cutB has high e.1)

set_option maxRecDepth 100000 in
theorem actF_calls (k p high : Int) (has : Bool) (bh bg : Nat) (w : World) (hh : Blk w bh #[.bool has] 4) (hg : Blk w bg #[.int .u64 high] 22) :
    Calls Tryd.prog 48 #[.agg #[.int .u64 k, .int .u64 p], .pointer (some ⟨bh, 0, none⟩), .pointer (some ⟨bg, 0, none⟩)] w fun e w' => e = .returned (.bool (cutB has high k)) ∧ Below w.heap.size w w' := by
  have HW := Lib.hid ((Below.refl w.heap.size w).alloc (Nat.le_refl _) (.cells #[.int .u64 k, .int .u64 p] 57))
  have h2 := hh.alloc (.cells #[.int .u64 k, .int .u64 p] 57)
  have g2 := hg.alloc (.cells #[.int .u64 k, .int .u64 p] 57)
  have c1 : (w.alloc (.cells #[.int .u64 k, .int .u64 p] 57)).cell? ⟨bh, 0, none⟩ = some (.bool has) := by rw [h2.cell]; rfl
  have c2 : (w.alloc (.cells #[.int .u64 k, .int .u64 p] 57)).cell? ⟨bg, 0, none⟩ = some (.int .u64 high) := by rw [g2.cell]; rfl
  have FIN := Lib.hid (fun (r : Bool) (hr : cutB has high k = r) => show Ending.returned (.bool r) = .returned (.bool (cutB has high k)) by rw [hr])
  clear h2 g2 hh hg
  cases has with
  | false =>
    have HF := Lib.hid (FIN.out false rfl)
    go_enter Tryd.func48, Tryd.ntmps48
    go_wp2_with (fail)
    go_ret
    exact ⟨HF.out, HW.out⟩
  | true =>
    by_cases hq : high ≤ k
    · have HF := Lib.hid (FIN.out true (by unfold cutB; rw [decide_eq_true hq]; rfl))
      go_enter Tryd.func48, Tryd.ntmps48
      go_wp2_with (fail)
      go_ret
      exact ⟨HF.out, HW.out⟩
    · have HF := Lib.hid (FIN.out false (by unfold cutB; rw [decide_eq_false hq]; rfl))
      go_enter Tryd.func48, Tryd.ntmps48
      go_wp2_with (fail)
      go_ret
      exact ⟨HF.out, HW.out⟩

set_option maxRecDepth 100000 in
set_option maxHeartbeats 1600000 in
theorem idxA_calls (l : List (Int × Int)) (g cap : Nat) (high : Int) (has : Bool) (bh bg : Nat) (w : World) (hm : l.length ≤ 1000000) (hE : EntsAt w g 0 l) (hh : Blk w bh #[.bool has] 4) (hg : Blk w bg #[.int .u64 high] 22) :
    Calls Tryd.prog 56 #[.slice (some ⟨g, 0, none⟩) l.length cap, .func (.func 48) #[] #[.pointer (some ⟨bh, 0, none⟩), .pointer (some ⟨bg, 0, none⟩)]] w
      fun e w' => e = .returned (.int .i64 (firstF (fun j => cutB has high (eK l j)) l.length 0)) ∧ Below w.heap.size w w' := by
  have hgl : 0 < l.length → g < w.heap.size := fun h => hE.lt h
  have HE := Lib.hid hE
  have HH := Lib.hid hh
  have HG := Lib.hid hg
  have hhl := hh.lt
  have hgg := hg.lt
  clear hE hh hg
  have FIN := Lib.hid (fun (r : Int) (hr : firstF (fun j => cutB has high (eK l j)) l.length 0 = r) => show Ending.returned (.int .i64 r) = .returned (.int .i64 (firstF (fun j => cutB has high (eK l j)) l.length 0)) by rw [hr])
  go_enter Tryd.func56, Tryd.ntmps56
  go_wp2_with (fail)
  go_loopw [8] (fun iv wr => ∃ k : Nat, k ≤ l.length ∧ iv = .int .i64 k ∧ Hid (firstF (fun j => cutB has high (eK l j)) l.length 0 = firstF (fun j => cutB has high (eK l j)) (l.length - k) k) ∧ Below w.heap.size w wr) (fun iv _ => l.length - (intOf iv).toNat)
  case atStart => exact ⟨0, Nat.zero_le _, rfl, Lib.hid rfl, Below.refl _ _⟩
  case round =>
    obtain ⟨k, hk, rfl, hR, hB⟩ := hrel
    have HB := Lib.hid hB
    have hsz : w.heap.size ≤ wr.heap.size := hB.size
    by_cases hlt : k < l.length
    · obtain ⟨c1, c2⟩ := HE.out.below hB (hgl (by omega)) k (by omega)
      obtain ⟨ka, hka⟩ : ∃ x, eK l k = x := ⟨_, rfl⟩
      obtain ⟨pa, hpa⟩ : ∃ x, eP l k = x := ⟨_, rfl⟩
      rw [hka] at c1
      rw [hpa] at c2
      rw [Nat.zero_add] at c1 c2
      have hst := Lib.hid (hR.out.trans (firstF_step (fun j => cutB has high (eK l j)) l.length k hlt))
      have HKA := Lib.hid hka
      clear hB hka hpa
      go_wp2_with (fail)
      refine (actF_calls ka pa high has bh bg _ (HH.out.below HB.out hhl) (HG.out.below HB.out hgg)).mono ?_
      rintro e w2 ⟨rfl, hB2⟩
      have HB2 := Lib.hid (HB.out.trans (hB2.mono hsz))
      clear hB2 c1 c2
      cases hc : cutB has high ka
      · have hr2 := Lib.hid (hst.out.trans (if_neg (by simp only [HKA.out, hc]; simp)))
        go_wp2_with (fail)
        go_roundw
        case rel => exact ⟨k + 1, by omega, by go_num, hr2, HB2.out⟩
        case measure => simp [intOf]; omega
      · have hr2 := Lib.hid (hst.out.trans (if_pos (by simp only [HKA.out, hc])))
        go_wp2_with (fail)
        go_ret
        exact ⟨FIN.out _ hr2.out, HB2.out⟩
    · have hf := Lib.hid (hR.out.trans (firstF_end _ l.length k (by omega)))
      clear hB
      go_wp2_with (fail)
      go_ret
      exact ⟨FIN.out _ hf.out, HB.out⟩
end Go.Proofs.YtkfpoekeofnglaaDoor
