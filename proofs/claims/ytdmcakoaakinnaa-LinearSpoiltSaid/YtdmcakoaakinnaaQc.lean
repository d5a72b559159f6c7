/-
  slices.IndexFunc, slices.ContainsFunc at linear's closures; rise, May, value: contracts.
-/
import Derived.Test.YtdmcakoaakinnaaQb
namespace Go.Proofs.Ytdmcakoaakinnaa
open Go.RowKit
attribute [local go_sem] Oper.semAt_some
set_option linter.unusedVariables false
set_option linter.unusedSimpArgs false

def firstF (t : Nat → Bool) : Nat → Nat → Int
  | 0, _ => -1
  | d + 1, i => if t i = true then (i : Int) else firstF t d (i + 1)
theorem firstF_step (t : Nat → Bool) (n k : Nat) (h : k < n) : firstF t (n - k) k = if t k = true then (k : Int) else firstF t (n - (k + 1)) (k + 1) := by
  rw [show n - k = (n - (k + 1)) + 1 by omega]; rfl
theorem firstF_end (t : Nat → Bool) (n k : Nat) (h : n ≤ k) : firstF t (n - k) k = -1 := by rw [show n - k = 0 by omega]; rfl
theorem firstF_any (t : Nat → Bool) : ∀ (d i : Nat), decide (0 ≤ firstF t d i) = (List.range d).any (fun j => t (i + j))
  | 0, i => rfl
  | d + 1, i => by
    have ih := firstF_any t d (i + 1)
    unfold firstF
    rw [List.range_succ_eq_map, List.any_cons, List.any_map]
    cases h : t i with
    | true => simp [h]
    | false =>
      rw [if_neg (by simp), ih]
      simp only [Nat.add_zero, h, Bool.false_or]
      congr 1
      funext j
      simp only [Function.comp]
      congr 1
      omega
theorem any_range {α : Type} (l : List α) (z : α) (p : α → Bool) : (List.range l.length).any (fun j => p (l.getD (0 + j) z)) = l.any p := by
  rw [Bool.eq_iff_iff, List.any_eq_true, List.any_eq_true]
  constructor
  · rintro ⟨j, hj, h⟩
    rw [Nat.zero_add] at h
    exact ⟨_, getD_memL l j z (List.mem_range.1 hj), h⟩
  · rintro ⟨x, hx, h⟩
    obtain ⟨j, hj, rfl⟩ := List.getElem_of_mem hx
    exact ⟨j, List.mem_range.2 hj, by rw [Nat.zero_add, getD_eq l j z hj]; exact h⟩
theorem RowAt.dn {w : World} {g o n : Nat} {a : Option Addr} {l : List Dn} (h : DnsAt w a l) (k : Nat) (hk : k < l.length) : ∃ g o, a = some ⟨g, o, none⟩ ∧ g < w.heap.size ∧ ∀ j, j < 11 → w.cell? ⟨g, o + k * 11 + j, none⟩ = (dnCells (l.getD k dnZ))[j]? := by
  obtain ⟨g, o, e, hg, hc⟩ := h.1 (by omega)
  exact ⟨g, o, e, hg, hc k hk⟩
set_option maxRecDepth 100000 in
set_option maxHeartbeats 1600000 in
theorem idxM   (l : List Dn) (a : Option Addr) (cap : Nat) (w : World) (hm : l.length ≤ 9223372036854775807) (hE : DnsAt w a l) (t : Dn → Bool)
    (HC : ∀ d W, d ∈ l → Below w.heap.size w W → Calls Try.prog 37 #[.agg (dnCells d) ] W fun e w' => e = .returned (.bool (t d)) ∧ Below W.heap.size W w') :
    Calls Try.prog 57 #[.slice a l.length cap, .func (.func 37) #[] #[ ]] w
      fun e w' => e = .returned (.int .i64 (firstF (fun j => t (l.getD j dnZ)) l.length 0)) ∧ Below w.heap.size w w' := by
  have HE := Lib.hid hE
  have HCC := Lib.hid HC
  clear hE HC
  have FIN := Lib.hid (fun (r : Int) (hr : firstF (fun j => t (l.getD j dnZ)) l.length 0 = r) => show Ending.returned (.int .i64 r) = .returned (.int .i64 (firstF (fun j => t (l.getD j dnZ)) l.length 0)) by rw [hr])
  go_enter Try.func57, Try.ntmps57
  go_wp2_with (fail)
  go_loopw [8] (fun iv wr => ∃ k : Nat, k ≤ l.length ∧ iv = .int .i64 k ∧ Hid (firstF (fun j => t (l.getD j dnZ)) l.length 0 = firstF (fun j => t (l.getD j dnZ)) (l.length - k) k) ∧ Below w.heap.size w wr) (fun iv _ => l.length - (intOf iv).toNat)
  case atStart => exact ⟨0, Nat.zero_le _, rfl, Lib.hid rfl, Below.refl _ _⟩
  case round =>
    obtain ⟨k, hk, rfl, hR, hB⟩ := hrel
    have HB := Lib.hid hB
    have hsz : w.heap.size ≤ wr.heap.size := hB.size
    by_cases hlt : k < l.length
    · obtain ⟨g, o, rfl, hg, hc⟩ := (HE.out.below hB).1 (by omega)
      have hc := hc k hlt
      obtain ⟨d, hd⟩ : ∃ x, l.getD k dnZ = x := ⟨_, rfl⟩
      have hmem : d ∈ l := by rw [← hd]; exact getD_memL l k dnZ hlt
      have hst := Lib.hid (hR.out.trans (firstF_step (fun j => t (l.getD j dnZ)) l.length k hlt))
      simp only [hd] at hc
      have HCl := Lib.hid (show cellsAt wr g (o + k * 11) (dnCells d) from fun j v hj => by
        have hjn : j < 11 := by have := (Array.getElem?_eq_some_iff.1 hj).1; exact this
        rw [hc j hjn]; exact hj)
      have HM := Lib.hid hmem
      have HD := Lib.hid hd
      clear hB hd hmem hc
      go_wp2_with (with_reducible refine wpList_idx_dn ?h1 ?h2 (.tmp 12) (.tmp 13) 14 ?hd ?ho1 ?ho2 g o l.length cap k d ?hx ?hy ?hk ?hs ?hc ?_; (case h1 => rfl); (case h2 => rfl); (case hd => rfl); (case ho1 => rfl); (case ho2 => rfl); (case hx => exact ev_tmp (by simp)); (case hy => exact ev_tmp (by simp)); (case hk => exact hlt); (case hs => simp); (case hc => exact HCl.out))
      refine (HCC.out d _ HM.out HB.out).mono ?_
      rintro e w2 ⟨rfl, hB2⟩
      have HB2 := Lib.hid (HB.out.trans (hB2.mono hsz))
      clear hB2
      cases hc : t d
      · have hr2 := Lib.hid (hst.out.trans (if_neg (by simp only [HD.out, hc]; simp)))
        go_wp2_with (fail)
        go_roundw
        case rel => exact ⟨k + 1, by omega, by go_num, hr2, HB2.out⟩
        case measure => simp [intOf]; omega
      · have hr2 := Lib.hid (hst.out.trans (if_pos (by simp only [HD.out, hc])))
        go_wp2_with (fail)
        go_ret
        exact ⟨FIN.out _ hr2.out, HB2.out⟩
    · have hf := Lib.hid (hR.out.trans (firstF_end _ l.length k (by omega)))
      clear hB
      go_wp2_with (fail)
      go_ret
      exact ⟨FIN.out _ hf.out, HB.out⟩
set_option maxRecDepth 100000 in
theorem idxMC   (l : List Dn) (a : Option Addr) (cap : Nat) (w : World) (hm : l.length ≤ 9223372036854775807) (hE : DnsAt w a l) (t : Dn → Bool)
    (HC : ∀ d W, d ∈ l → Below w.heap.size w W → Calls Try.prog 37 #[.agg (dnCells d) ] W fun e w' => e = .returned (.bool (t d)) ∧ Below W.heap.size W w') :
    Calls Try.prog 36 #[.slice a l.length cap, .func (.func 37) #[] #[ ]] w
      fun e w' => e = .returned (.bool (l.any t)) ∧ Below w.heap.size w w' := by
  have HI := Lib.hid (idxM   l a cap w hm hE t HC)
  have hv : decide (0 ≤ firstF (fun j => t (l.getD j dnZ)) l.length 0) = l.any t := by rw [firstF_any]; exact any_range l dnZ t
  obtain ⟨r, hr⟩ : ∃ r, firstF (fun j => t (l.getD j dnZ)) l.length 0 = r := ⟨_, rfl⟩
  rw [hr] at HI hv
  rw [← hv]
  clear hE HC hv hr
  go_enter Try.func36, Try.ntmps36
  go_wp2_with (fail)
  refine HI.out.mono ?_
  rintro e w2 ⟨rfl, hB2⟩
  go_wp2_with (fail)
  go_ret
  exact ⟨rfl, hB2⟩
set_option maxRecDepth 100000 in
set_option maxHeartbeats 1600000 in
theorem idxE   (l : List Dn) (a : Option Addr) (cap : Nat) (w : World) (hm : l.length ≤ 9223372036854775807) (hE : DnsAt w a l) (t : Dn → Bool)
    (HC : ∀ d W, d ∈ l → Below w.heap.size w W → Calls Try.prog 33 #[.agg (dnCells d) ] W fun e w' => e = .returned (.bool (t d)) ∧ Below W.heap.size W w') :
    Calls Try.prog 57 #[.slice a l.length cap, .func (.func 33) #[] #[ ]] w
      fun e w' => e = .returned (.int .i64 (firstF (fun j => t (l.getD j dnZ)) l.length 0)) ∧ Below w.heap.size w w' := by
  have HE := Lib.hid hE
  have HCC := Lib.hid HC
  clear hE HC
  have FIN := Lib.hid (fun (r : Int) (hr : firstF (fun j => t (l.getD j dnZ)) l.length 0 = r) => show Ending.returned (.int .i64 r) = .returned (.int .i64 (firstF (fun j => t (l.getD j dnZ)) l.length 0)) by rw [hr])
  go_enter Try.func57, Try.ntmps57
  go_wp2_with (fail)
  go_loopw [8] (fun iv wr => ∃ k : Nat, k ≤ l.length ∧ iv = .int .i64 k ∧ Hid (firstF (fun j => t (l.getD j dnZ)) l.length 0 = firstF (fun j => t (l.getD j dnZ)) (l.length - k) k) ∧ Below w.heap.size w wr) (fun iv _ => l.length - (intOf iv).toNat)
  case atStart => exact ⟨0, Nat.zero_le _, rfl, Lib.hid rfl, Below.refl _ _⟩
  case round =>
    obtain ⟨k, hk, rfl, hR, hB⟩ := hrel
    have HB := Lib.hid hB
    have hsz : w.heap.size ≤ wr.heap.size := hB.size
    by_cases hlt : k < l.length
    · obtain ⟨g, o, rfl, hg, hc⟩ := (HE.out.below hB).1 (by omega)
      have hc := hc k hlt
      obtain ⟨d, hd⟩ : ∃ x, l.getD k dnZ = x := ⟨_, rfl⟩
      have hmem : d ∈ l := by rw [← hd]; exact getD_memL l k dnZ hlt
      have hst := Lib.hid (hR.out.trans (firstF_step (fun j => t (l.getD j dnZ)) l.length k hlt))
      simp only [hd] at hc
      have HCl := Lib.hid (show cellsAt wr g (o + k * 11) (dnCells d) from fun j v hj => by
        have hjn : j < 11 := by have := (Array.getElem?_eq_some_iff.1 hj).1; exact this
        rw [hc j hjn]; exact hj)
      have HM := Lib.hid hmem
      have HD := Lib.hid hd
      clear hB hd hmem hc
      go_wp2_with (with_reducible refine wpList_idx_dn ?h1 ?h2 (.tmp 12) (.tmp 13) 14 ?hd ?ho1 ?ho2 g o l.length cap k d ?hx ?hy ?hk ?hs ?hc ?_; (case h1 => rfl); (case h2 => rfl); (case hd => rfl); (case ho1 => rfl); (case ho2 => rfl); (case hx => exact ev_tmp (by simp)); (case hy => exact ev_tmp (by simp)); (case hk => exact hlt); (case hs => simp); (case hc => exact HCl.out))
      refine (HCC.out d _ HM.out HB.out).mono ?_
      rintro e w2 ⟨rfl, hB2⟩
      have HB2 := Lib.hid (HB.out.trans (hB2.mono hsz))
      clear hB2
      cases hc : t d
      · have hr2 := Lib.hid (hst.out.trans (if_neg (by simp only [HD.out, hc]; simp)))
        go_wp2_with (fail)
        go_roundw
        case rel => exact ⟨k + 1, by omega, by go_num, hr2, HB2.out⟩
        case measure => simp [intOf]; omega
      · have hr2 := Lib.hid (hst.out.trans (if_pos (by simp only [HD.out, hc])))
        go_wp2_with (fail)
        go_ret
        exact ⟨FIN.out _ hr2.out, HB2.out⟩
    · have hf := Lib.hid (hR.out.trans (firstF_end _ l.length k (by omega)))
      clear hB
      go_wp2_with (fail)
      go_ret
      exact ⟨FIN.out _ hf.out, HB.out⟩
set_option maxRecDepth 100000 in
theorem idxEC   (l : List Dn) (a : Option Addr) (cap : Nat) (w : World) (hm : l.length ≤ 9223372036854775807) (hE : DnsAt w a l) (t : Dn → Bool)
    (HC : ∀ d W, d ∈ l → Below w.heap.size w W → Calls Try.prog 33 #[.agg (dnCells d) ] W fun e w' => e = .returned (.bool (t d)) ∧ Below W.heap.size W w') :
    Calls Try.prog 36 #[.slice a l.length cap, .func (.func 33) #[] #[ ]] w
      fun e w' => e = .returned (.bool (l.any t)) ∧ Below w.heap.size w w' := by
  have HI := Lib.hid (idxE   l a cap w hm hE t HC)
  have hv : decide (0 ≤ firstF (fun j => t (l.getD j dnZ)) l.length 0) = l.any t := by rw [firstF_any]; exact any_range l dnZ t
  obtain ⟨r, hr⟩ : ∃ r, firstF (fun j => t (l.getD j dnZ)) l.length 0 = r := ⟨_, rfl⟩
  rw [hr] at HI hv
  rw [← hv]
  clear hE HC hv hr
  go_enter Try.func36, Try.ntmps36
  go_wp2_with (fail)
  refine HI.out.mono ?_
  rintro e w2 ⟨rfl, hB2⟩
  go_wp2_with (fail)
  go_ret
  exact ⟨rfl, hB2⟩
set_option maxRecDepth 100000 in
set_option maxHeartbeats 1600000 in
theorem idxC (bl : Nat) (l : List Dn) (a : Option Addr) (cap : Nat) (w : World) (hm : l.length ≤ 9223372036854775807) (hE : DnsAt w a l) (t : Dn → Bool)
    (HC : ∀ d W, d ∈ l → Below w.heap.size w W → Calls Try.prog 41 #[.agg (dnCells d), .pointer (some ⟨bl, 0, none⟩)] W fun e w' => e = .returned (.bool (t d)) ∧ Below W.heap.size W w') :
    Calls Try.prog 57 #[.slice a l.length cap, .func (.func 41) #[] #[.pointer (some ⟨bl, 0, none⟩)]] w
      fun e w' => e = .returned (.int .i64 (firstF (fun j => t (l.getD j dnZ)) l.length 0)) ∧ Below w.heap.size w w' := by
  have HE := Lib.hid hE
  have HCC := Lib.hid HC
  clear hE HC
  have FIN := Lib.hid (fun (r : Int) (hr : firstF (fun j => t (l.getD j dnZ)) l.length 0 = r) => show Ending.returned (.int .i64 r) = .returned (.int .i64 (firstF (fun j => t (l.getD j dnZ)) l.length 0)) by rw [hr])
  go_enter Try.func57, Try.ntmps57
  go_wp2_with (fail)
  go_loopw [8] (fun iv wr => ∃ k : Nat, k ≤ l.length ∧ iv = .int .i64 k ∧ Hid (firstF (fun j => t (l.getD j dnZ)) l.length 0 = firstF (fun j => t (l.getD j dnZ)) (l.length - k) k) ∧ Below w.heap.size w wr) (fun iv _ => l.length - (intOf iv).toNat)
  case atStart => exact ⟨0, Nat.zero_le _, rfl, Lib.hid rfl, Below.refl _ _⟩
  case round =>
    obtain ⟨k, hk, rfl, hR, hB⟩ := hrel
    have HB := Lib.hid hB
    have hsz : w.heap.size ≤ wr.heap.size := hB.size
    by_cases hlt : k < l.length
    · obtain ⟨g, o, rfl, hg, hc⟩ := (HE.out.below hB).1 (by omega)
      have hc := hc k hlt
      obtain ⟨d, hd⟩ : ∃ x, l.getD k dnZ = x := ⟨_, rfl⟩
      have hmem : d ∈ l := by rw [← hd]; exact getD_memL l k dnZ hlt
      have hst := Lib.hid (hR.out.trans (firstF_step (fun j => t (l.getD j dnZ)) l.length k hlt))
      simp only [hd] at hc
      have HCl := Lib.hid (show cellsAt wr g (o + k * 11) (dnCells d) from fun j v hj => by
        have hjn : j < 11 := by have := (Array.getElem?_eq_some_iff.1 hj).1; exact this
        rw [hc j hjn]; exact hj)
      have HM := Lib.hid hmem
      have HD := Lib.hid hd
      clear hB hd hmem hc
      go_wp2_with (with_reducible refine wpList_idx_dn ?h1 ?h2 (.tmp 12) (.tmp 13) 14 ?hd ?ho1 ?ho2 g o l.length cap k d ?hx ?hy ?hk ?hs ?hc ?_; (case h1 => rfl); (case h2 => rfl); (case hd => rfl); (case ho1 => rfl); (case ho2 => rfl); (case hx => exact ev_tmp (by simp)); (case hy => exact ev_tmp (by simp)); (case hk => exact hlt); (case hs => simp); (case hc => exact HCl.out))
      refine (HCC.out d _ HM.out HB.out).mono ?_
      rintro e w2 ⟨rfl, hB2⟩
      have HB2 := Lib.hid (HB.out.trans (hB2.mono hsz))
      clear hB2
      cases hc : t d
      · have hr2 := Lib.hid (hst.out.trans (if_neg (by simp only [HD.out, hc]; simp)))
        go_wp2_with (fail)
        go_roundw
        case rel => exact ⟨k + 1, by omega, by go_num, hr2, HB2.out⟩
        case measure => simp [intOf]; omega
      · have hr2 := Lib.hid (hst.out.trans (if_pos (by simp only [HD.out, hc])))
        go_wp2_with (fail)
        go_ret
        exact ⟨FIN.out _ hr2.out, HB2.out⟩
    · have hf := Lib.hid (hR.out.trans (firstF_end _ l.length k (by omega)))
      clear hB
      go_wp2_with (fail)
      go_ret
      exact ⟨FIN.out _ hf.out, HB.out⟩
set_option maxRecDepth 100000 in
theorem idxCC (bl : Nat) (l : List Dn) (a : Option Addr) (cap : Nat) (w : World) (hm : l.length ≤ 9223372036854775807) (hE : DnsAt w a l) (t : Dn → Bool)
    (HC : ∀ d W, d ∈ l → Below w.heap.size w W → Calls Try.prog 41 #[.agg (dnCells d), .pointer (some ⟨bl, 0, none⟩)] W fun e w' => e = .returned (.bool (t d)) ∧ Below W.heap.size W w') :
    Calls Try.prog 36 #[.slice a l.length cap, .func (.func 41) #[] #[.pointer (some ⟨bl, 0, none⟩)]] w
      fun e w' => e = .returned (.bool (l.any t)) ∧ Below w.heap.size w w' := by
  have HI := Lib.hid (idxC bl l a cap w hm hE t HC)
  have hv : decide (0 ≤ firstF (fun j => t (l.getD j dnZ)) l.length 0) = l.any t := by rw [firstF_any]; exact any_range l dnZ t
  obtain ⟨r, hr⟩ : ∃ r, firstF (fun j => t (l.getD j dnZ)) l.length 0 = r := ⟨_, rfl⟩
  rw [hr] at HI hv
  rw [← hv]
  clear hE HC hv hr
  go_enter Try.func36, Try.ntmps36
  go_wp2_with (fail)
  refine HI.out.mono ?_
  rintro e w2 ⟨rfl, hB2⟩
  go_wp2_with (fail)
  go_ret
  exact ⟨rfl, hB2⟩
set_option maxRecDepth 100000 in
set_option maxHeartbeats 1600000 in
theorem idxW (bl : Nat) (l : List Pr) (a : Option Addr) (cap : Nat) (w : World) (hm : l.length ≤ 9223372036854775807) (hE : PrsAt w a l) (t : Pr → Bool)
    (HC : ∀ d W, d ∈ l → Below w.heap.size w W → Calls Try.prog 55 #[.agg (prCells d), .pointer (some ⟨bl, 0, none⟩)] W fun e w' => e = .returned (.bool (t d)) ∧ Below W.heap.size W w') :
    Calls Try.prog 43 #[.slice a l.length cap, .func (.func 55) #[] #[.pointer (some ⟨bl, 0, none⟩)]] w
      fun e w' => e = .returned (.int .i64 (firstF (fun j => t (l.getD j prZ)) l.length 0)) ∧ Below w.heap.size w w' := by
  have HE := Lib.hid hE
  have HCC := Lib.hid HC
  clear hE HC
  have FIN := Lib.hid (fun (r : Int) (hr : firstF (fun j => t (l.getD j prZ)) l.length 0 = r) => show Ending.returned (.int .i64 r) = .returned (.int .i64 (firstF (fun j => t (l.getD j prZ)) l.length 0)) by rw [hr])
  go_enter Try.func43, Try.ntmps43
  go_wp2_with (fail)
  go_loopw [8] (fun iv wr => ∃ k : Nat, k ≤ l.length ∧ iv = .int .i64 k ∧ Hid (firstF (fun j => t (l.getD j prZ)) l.length 0 = firstF (fun j => t (l.getD j prZ)) (l.length - k) k) ∧ Below w.heap.size w wr) (fun iv _ => l.length - (intOf iv).toNat)
  case atStart => exact ⟨0, Nat.zero_le _, rfl, Lib.hid rfl, Below.refl _ _⟩
  case round =>
    obtain ⟨k, hk, rfl, hR, hB⟩ := hrel
    have HB := Lib.hid hB
    have hsz : w.heap.size ≤ wr.heap.size := hB.size
    by_cases hlt : k < l.length
    · obtain ⟨g, o, rfl, hg, hc⟩ := (HE.out.below hB)  (by omega)
      have hc := hc k hlt
      obtain ⟨d, hd⟩ : ∃ x, l.getD k prZ = x := ⟨_, rfl⟩
      have hmem : d ∈ l := by rw [← hd]; exact getD_memL l k prZ hlt
      have hst := Lib.hid (hR.out.trans (firstF_step (fun j => t (l.getD j prZ)) l.length k hlt))
      simp only [hd] at hc
      have HCl := Lib.hid (show cellsAt wr g (o + k * 2) (prCells d) from fun j v hj => by
        have hjn : j < 2 := by have := (Array.getElem?_eq_some_iff.1 hj).1; exact this
        rw [hc j hjn]; exact hj)
      have HM := Lib.hid hmem
      have HD := Lib.hid hd
      clear hB hd hmem hc
      go_wp2_with (with_reducible refine wpList_idx_pr ?h1 ?h2 (.tmp 12) (.tmp 13) 14 ?hd ?ho1 ?ho2 g o l.length cap k d ?hx ?hy ?hk ?hs ?hc ?_; (case h1 => rfl); (case h2 => rfl); (case hd => rfl); (case ho1 => rfl); (case ho2 => rfl); (case hx => exact ev_tmp (by simp)); (case hy => exact ev_tmp (by simp)); (case hk => exact hlt); (case hs => simp); (case hc => exact HCl.out))
      refine (HCC.out d _ HM.out HB.out).mono ?_
      rintro e w2 ⟨rfl, hB2⟩
      have HB2 := Lib.hid (HB.out.trans (hB2.mono hsz))
      clear hB2
      cases hc : t d
      · have hr2 := Lib.hid (hst.out.trans (if_neg (by simp only [HD.out, hc]; simp)))
        go_wp2_with (fail)
        go_roundw
        case rel => exact ⟨k + 1, by omega, by go_num, hr2, HB2.out⟩
        case measure => simp [intOf]; omega
      · have hr2 := Lib.hid (hst.out.trans (if_pos (by simp only [HD.out, hc])))
        go_wp2_with (fail)
        go_ret
        exact ⟨FIN.out _ hr2.out, HB2.out⟩
    · have hf := Lib.hid (hR.out.trans (firstF_end _ l.length k (by omega)))
      clear hB
      go_wp2_with (fail)
      go_ret
      exact ⟨FIN.out _ hf.out, HB.out⟩
set_option maxRecDepth 100000 in
theorem idxWC (bl : Nat) (l : List Pr) (a : Option Addr) (cap : Nat) (w : World) (hm : l.length ≤ 9223372036854775807) (hE : PrsAt w a l) (t : Pr → Bool)
    (HC : ∀ d W, d ∈ l → Below w.heap.size w W → Calls Try.prog 55 #[.agg (prCells d), .pointer (some ⟨bl, 0, none⟩)] W fun e w' => e = .returned (.bool (t d)) ∧ Below W.heap.size W w') :
    Calls Try.prog 56 #[.slice a l.length cap, .func (.func 55) #[] #[.pointer (some ⟨bl, 0, none⟩)]] w
      fun e w' => e = .returned (.bool (l.any t)) ∧ Below w.heap.size w w' := by
  have HI := Lib.hid (idxW bl l a cap w hm hE t HC)
  have hv : decide (0 ≤ firstF (fun j => t (l.getD j prZ)) l.length 0) = l.any t := by rw [firstF_any]; exact any_range l prZ t
  obtain ⟨r, hr⟩ : ∃ r, firstF (fun j => t (l.getD j prZ)) l.length 0 = r := ⟨_, rfl⟩
  rw [hr] at HI hv
  rw [← hv]
  clear hE HC hv hr
  go_enter Try.func56, Try.ntmps56
  go_wp2_with (fail)
  refine HI.out.mono ?_
  rintro e w2 ⟨rfl, hB2⟩
  go_wp2_with (fail)
  go_ret
  exact ⟨rfl, hB2⟩
set_option maxRecDepth 100000 in
set_option maxHeartbeats 1600000 in
theorem idxV (bl : Nat) (l : List Pr) (a : Option Addr) (cap : Nat) (w : World) (hm : l.length ≤ 9223372036854775807) (hE : PrsAt w a l) (t : Pr → Bool)
    (HC : ∀ d W, d ∈ l → Below w.heap.size w W → Calls Try.prog 44 #[.agg (prCells d), .pointer (some ⟨bl, 0, none⟩)] W fun e w' => e = .returned (.bool (t d)) ∧ Below W.heap.size W w') :
    Calls Try.prog 43 #[.slice a l.length cap, .func (.func 44) #[] #[.pointer (some ⟨bl, 0, none⟩)]] w
      fun e w' => e = .returned (.int .i64 (firstF (fun j => t (l.getD j prZ)) l.length 0)) ∧ Below w.heap.size w w' := by
  have HE := Lib.hid hE
  have HCC := Lib.hid HC
  clear hE HC
  have FIN := Lib.hid (fun (r : Int) (hr : firstF (fun j => t (l.getD j prZ)) l.length 0 = r) => show Ending.returned (.int .i64 r) = .returned (.int .i64 (firstF (fun j => t (l.getD j prZ)) l.length 0)) by rw [hr])
  go_enter Try.func43, Try.ntmps43
  go_wp2_with (fail)
  go_loopw [8] (fun iv wr => ∃ k : Nat, k ≤ l.length ∧ iv = .int .i64 k ∧ Hid (firstF (fun j => t (l.getD j prZ)) l.length 0 = firstF (fun j => t (l.getD j prZ)) (l.length - k) k) ∧ Below w.heap.size w wr) (fun iv _ => l.length - (intOf iv).toNat)
  case atStart => exact ⟨0, Nat.zero_le _, rfl, Lib.hid rfl, Below.refl _ _⟩
  case round =>
    obtain ⟨k, hk, rfl, hR, hB⟩ := hrel
    have HB := Lib.hid hB
    have hsz : w.heap.size ≤ wr.heap.size := hB.size
    by_cases hlt : k < l.length
    · obtain ⟨g, o, rfl, hg, hc⟩ := (HE.out.below hB)  (by omega)
      have hc := hc k hlt
      obtain ⟨d, hd⟩ : ∃ x, l.getD k prZ = x := ⟨_, rfl⟩
      have hmem : d ∈ l := by rw [← hd]; exact getD_memL l k prZ hlt
      have hst := Lib.hid (hR.out.trans (firstF_step (fun j => t (l.getD j prZ)) l.length k hlt))
      simp only [hd] at hc
      have HCl := Lib.hid (show cellsAt wr g (o + k * 2) (prCells d) from fun j v hj => by
        have hjn : j < 2 := by have := (Array.getElem?_eq_some_iff.1 hj).1; exact this
        rw [hc j hjn]; exact hj)
      have HM := Lib.hid hmem
      have HD := Lib.hid hd
      clear hB hd hmem hc
      go_wp2_with (with_reducible refine wpList_idx_pr ?h1 ?h2 (.tmp 12) (.tmp 13) 14 ?hd ?ho1 ?ho2 g o l.length cap k d ?hx ?hy ?hk ?hs ?hc ?_; (case h1 => rfl); (case h2 => rfl); (case hd => rfl); (case ho1 => rfl); (case ho2 => rfl); (case hx => exact ev_tmp (by simp)); (case hy => exact ev_tmp (by simp)); (case hk => exact hlt); (case hs => simp); (case hc => exact HCl.out))
      refine (HCC.out d _ HM.out HB.out).mono ?_
      rintro e w2 ⟨rfl, hB2⟩
      have HB2 := Lib.hid (HB.out.trans (hB2.mono hsz))
      clear hB2
      cases hc : t d
      · have hr2 := Lib.hid (hst.out.trans (if_neg (by simp only [HD.out, hc]; simp)))
        go_wp2_with (fail)
        go_roundw
        case rel => exact ⟨k + 1, by omega, by go_num, hr2, HB2.out⟩
        case measure => simp [intOf]; omega
      · have hr2 := Lib.hid (hst.out.trans (if_pos (by simp only [HD.out, hc])))
        go_wp2_with (fail)
        go_ret
        exact ⟨FIN.out _ hr2.out, HB2.out⟩
    · have hf := Lib.hid (hR.out.trans (firstF_end _ l.length k (by omega)))
      clear hB
      go_wp2_with (fail)
      go_ret
      exact ⟨FIN.out _ hf.out, HB.out⟩
end Go.Proofs.Ytdmcakoaakinnaa
