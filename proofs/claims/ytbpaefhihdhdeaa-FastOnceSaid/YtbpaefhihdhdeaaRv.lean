/-
  node.rise$1, slices.IndexFunc, slices.ContainsFunc at entries: contracts.
-/
import Derived.Test.YtbpaefhihdhdeaaRu
namespace Go.Proofs.Ytbpaefhihdhdeaa
open Go.RowKit

theorem firstF_step (t : Nat → Bool) (n k : Nat) (h : k < n) : firstF t (n - k) k = if t k = true then (k : Int) else firstF t (n - (k + 1)) (k + 1) := by
  rw [show n - k = (n - (k + 1)) + 1 by omega]; rfl
theorem firstF_end (t : Nat → Bool) (n k : Nat) (h : n ≤ k) : firstF t (n - k) k = -1 := by
  rw [show n - k = 0 by omega]; rfl
theorem firstF_lb (t : Nat → Bool) : ∀ d i, -1 ≤ firstF t d i ∧ firstF t d i < (i + d : Nat) := by
  intro d
  induction d with
  | zero => intro i; simp [firstF]; omega
  | succ d ih => intro i; unfold firstF; split
                 · omega
                 · have := ih (i + 1); omega
theorem firstF_any (t : Nat → Bool) : ∀ d i, decide (firstF t d i ≥ 0) = (List.range d).any (fun j => t (i + j)) := by
  intro d
  induction d with
  | zero => intro i; simp [firstF]
  | succ d ih =>
    intro i
    unfold firstF
    rw [List.range_succ_eq_map, List.any_cons, List.any_map]
    by_cases h : t i = true
    · rw [if_pos h]; simp [h]
    · rw [if_neg h, ih (i + 1)]
      have : t i = false := by simpa using h
      simp only [Nat.add_zero, this, Bool.false_or]
      congr 1
      funext j
      simp only [Function.comp]
      rw [show i + 1 + j = i + (j + 1) by omega]

def entC (k p : Int) : Array Value := #[.int .u64 k, .int .u64 p]

theorem riseF_calls (k p kx px : Int) (bx : Nat) (w : World) (hx : Blk w bx (entC kx px) 60) :
    Calls Try.prog 69 #[.agg #[.int .u64 k, .int .u64 p], .pointer (some ⟨bx, 0, none⟩)] w fun e w' => e = .returned (.bool (p == px)) ∧ Below w.heap.size w w' := by
  have HW := Lib.hid ((Below.refl w.heap.size w).alloc (Nat.le_refl _) (.cells #[.int .u64 k, .int .u64 p] 60))
  have hlt := hx.lt
  have hx2 := hx.alloc (.cells #[.int .u64 k, .int .u64 p] 60)
  have c1 : (w.alloc (.cells #[.int .u64 k, .int .u64 p] 60)).cell? ⟨bx, 1, none⟩ = some (.int .u64 px) := by rw [hx2.cell]; rfl
  clear hx hx2
  go_enter Try.func69, Try.ntmps69
  go_wp2_with (fail)
  go_ret
  exact ⟨rfl, HW.out⟩

set_option maxRecDepth 100000 in
set_option maxHeartbeats 1600000 in
theorem idxE_calls (l : List (Int × Int)) (n g o cap : Nat) (kx px : Int) (bx : Nat) (w : World) (hn : n ≤ l.length) (hm : n ≤ 1000000) (hE : EntsAt w g o l) (hg : 0 < n → g < w.heap.size) (hx : Blk w bx (entC kx px) 60) :
    Calls Try.prog 77 #[.slice (some ⟨g, o, none⟩) n cap, .func (.func 69) #[] #[.pointer (some ⟨bx, 0, none⟩)]] w
      fun e w' => e = .returned (.int .i64 (firstF (fun j => eP l j == px) n 0)) ∧ Below w.heap.size w w' := by
  have HE := Lib.hid hE
  have HX := Lib.hid hx
  have hxl := hx.lt
  clear hE hx
  have FIN := Lib.hid (fun (r : Int) (hr : firstF (fun j => eP l j == px) n 0 = r) => show Ending.returned (.int .i64 r) = .returned (.int .i64 (firstF (fun j => eP l j == px) n 0)) by rw [hr])
  go_enter Try.func77, Try.ntmps77
  go_wp2_with (fail)
  go_loopw [8] (fun iv wr => ∃ k : Nat, k ≤ n ∧ iv = .int .i64 k ∧ Hid (firstF (fun j => eP l j == px) n 0 = firstF (fun j => eP l j == px) (n - k) k) ∧ Below w.heap.size w wr) (fun iv _ => n - (intOf iv).toNat)
  case atStart => exact ⟨0, Nat.zero_le _, rfl, Lib.hid rfl, Below.refl _ _⟩
  case round =>
    obtain ⟨k, hk, rfl, hR, hB⟩ := hrel
    have HB := Lib.hid hB
    have hsz : w.heap.size ≤ wr.heap.size := hB.size
    by_cases hlt : k < n
    · obtain ⟨c1, c2⟩ := HE.out.below hB (hg (by omega)) k (by omega)
      obtain ⟨ka, hka⟩ : ∃ x, eK l k = x := ⟨_, rfl⟩
      obtain ⟨pa, hpa⟩ : ∃ x, eP l k = x := ⟨_, rfl⟩
      rw [hka] at c1
      rw [hpa] at c2
      have hst := Lib.hid (hR.out.trans (firstF_step (fun j => eP l j == px) n k hlt))
      have HPA := Lib.hid hpa
      clear hB hka hpa
      go_wp2_with (fail)
      refine (riseF_calls ka pa kx px bx _ (HX.out.below HB.out hxl)).mono ?_
      rintro e w2 ⟨rfl, hB2⟩
      have HB2 := Lib.hid (HB.out.trans (hB2.mono hsz))
      clear hB2 c1 c2
      cases hc : (pa == px)
      · have hr2 := Lib.hid (hst.out.trans (if_neg (by simp only [HPA.out, hc]; simp)))
        go_wp2_with (fail)
        go_roundw
        case rel => exact ⟨k + 1, by omega, by go_num, hr2, HB2.out⟩
        case measure => simp [intOf]; omega
      · have hr2 := Lib.hid (hst.out.trans (if_pos (by simp only [HPA.out, hc])))
        go_wp2_with (fail)
        go_ret
        exact ⟨FIN.out _ hr2.out, HB2.out⟩
    · have hf := Lib.hid (hR.out.trans (firstF_end _ n k (by omega)))
      clear hB
      go_wp2_with (fail)
      go_ret
      exact ⟨FIN.out _ hf.out, HB.out⟩

theorem contE_calls (l : List (Int × Int)) (n g o cap : Nat) (kx px : Int) (bx : Nat) (w : World) (hn : n ≤ l.length) (hm : n ≤ 1000000) (hE : EntsAt w g o l) (hg : 0 < n → g < w.heap.size) (hx : Blk w bx (entC kx px) 60) :
    Calls Try.prog 70 #[.slice (some ⟨g, o, none⟩) n cap, .func (.func 69) #[] #[.pointer (some ⟨bx, 0, none⟩)]] w
      fun e w' => e = .returned (.bool ((List.range n).any (fun j => eP l j == px))) ∧ Below w.heap.size w w' := by
  have HE := Lib.hid hE
  have HX := Lib.hid hx
  clear hE hx
  go_enter Try.func70, Try.ntmps70
  go_wp2_with (fail)
  refine (idxE_calls l n g o cap kx px bx _ hn hm HE.out hg HX.out).mono ?_
  rintro e w2 ⟨rfl, hB⟩
  have HB := Lib.hid hB
  have FIN := Lib.hid (show (List.range n).any (fun j => eP l j == px) = decide ((0 : Int) ≤ firstF (fun j => eP l j == px) n 0) by
    have := firstF_any (fun j => eP l j == px) n 0
    simp only [Nat.zero_add] at this
    exact this.symm)
  clear hB
  generalize firstF (fun j => eP l j == px) n 0 = r at *
  go_wp2_with (fail)
  go_ret
  exact ⟨by rw [FIN.out]; rfl, HB.out⟩
end Go.Proofs.Ytbpaefhihdhdeaa
