/-
  CONTRACTS OF slices.Index, slices.Contains, slices.Min AT []int.
-/
import Derived.Test.YtajccnmeijgagaaA
import Derived.Lib.Hide
namespace Go.Proofs.Ytajccnmeijgagaa
open Go.RowKit

/-- Where a number stands first in a list, or -1. -/
def idxI (zs : List Int) (x : Int) : Int := if x ∈ zs then (zs.idxOf x : Int) else -1

theorem idxI_found (zs : List Int) (x : Int) (k : Nat) (hk : k < zs.length) (h : ∀ j, j < k → zs.getD j 0 ≠ x) (hx : zs.getD k 0 = x) : idxI zs x = k := by
  have e : zs[k] = x := by rw [← hx]; simp [hk]
  have hm : x ∈ zs := by rw [← e]; exact List.getElem_mem hk
  unfold idxI
  rw [if_pos hm]
  have hl := List.idxOf_lt_length_iff.2 hm
  have h1 : zs[zs.idxOf x] = x := List.getElem_idxOf hl
  congr 1
  rcases Nat.lt_trichotomy (zs.idxOf x) k with hlt | he | hgt
  · exact absurd (by simp [hl]) (h _ hlt)
  · exact he
  · have := List.not_of_lt_findIdx (p := (· == x)) (xs := zs) (i := k) (by simpa [List.idxOf] using hgt)
    simp [e] at this

theorem idxI_none (zs : List Int) (x : Int) (h : ∀ j, j < zs.length → zs.getD j 0 ≠ x) : idxI zs x = -1 := by
  unfold idxI
  rw [if_neg]
  intro hm
  obtain ⟨j, hj, e⟩ := List.getElem_of_mem hm
  exact h j hj (by simp [hj, e])

theorem idxI_ge (zs : List Int) (x : Int) : decide (0 ≤ idxI zs x) = decide (x ∈ zs) := by
  unfold idxI
  split <;> rename_i h <;> simp [h]

theorem ret_int {k : IntKind} {a b : Int} (h : a = b) : Ending.returned (.int k a) = .returned (.int k b) := by rw [h]

theorem index_any (w : World) (g o cap : Nat) (zs : List Int) (x : Int) (hn : zs.length ≤ 1000000) (hc : ∀ i, i < zs.length → w.cell? ⟨g, o + i, none⟩ = some (.int .i64 (zs.getD i 0))) :
    Calls Try.prog 25 #[.slice (some ⟨g, o, none⟩) zs.length cap, .int .i64 x] w fun e w' => e = .returned (.int .i64 (idxI zs x)) ∧ w = w' := by
  have HC := Lib.hid hc
  clear hc
  go_enter Try.func25, Try.ntmps25
  go_wp2
  go_loop [8] (fun i => ∃ k : Nat, k ≤ zs.length ∧ i = .int .i64 k ∧ Hid (∀ j, j < k → zs.getD j 0 ≠ x)) (fun i => zs.length - (intOf i).toNat)
  case atStart => exact ⟨0, Nat.zero_le _, rfl, fun j hj => by omega⟩
  case round =>
    obtain ⟨k, hk, rfl, hj⟩ := hrel
    by_cases hlt : k < zs.length
    · have hcell := HC.out k hlt
      by_cases hx : zs.getD k 0 = x
      · have hfin := Lib.hid (idxI_found zs x k hlt hj.out hx)
        obtain ⟨y, hy⟩ : ∃ y, y = zs.getD k 0 := ⟨_, rfl⟩
        rw [← hy] at hcell hx
        have hb : (x == y) = true := by simpa using hx.symm
        clear hx hy
        go_wp2
        go_ret
        exact ⟨ret_int hfin.out.symm, rfl⟩
      · have hj2 := Lib.hid (show ∀ j, j < k + 1 → zs.getD j 0 ≠ x from fun j h => by
          rcases Nat.lt_or_ge j k with h1 | h1
          · exact hj.out j h1
          · obtain rfl : j = k := by omega
            exact hx)
        obtain ⟨y, hy⟩ : ∃ y, y = zs.getD k 0 := ⟨_, rfl⟩
        rw [← hy] at hcell hx
        have hb : (x == y) = false := by simpa using fun h => hx h.symm
        clear hx hy
        go_wp2
        go_round
        case rel => exact ⟨k + 1, by omega, by go_num, hj2⟩
        case measure => simp [intOf]; omega
    · have hfin := Lib.hid (idxI_none zs x (fun j h => hj.out j (by omega)))
      go_wp2
      go_ret
      exact ⟨ret_int hfin.out.symm, rfl⟩

theorem contains_any (w : World) (g o cap : Nat) (zs : List Int) (x : Int) (hn : zs.length ≤ 1000000) (hc : ∀ i, i < zs.length → w.cell? ⟨g, o + i, none⟩ = some (.int .i64 (zs.getD i 0))) :
    Calls Try.prog 23 #[.slice (some ⟨g, o, none⟩) zs.length cap, .int .i64 x] w fun e w' => e = .returned (.bool (decide (x ∈ zs))) ∧ w = w' := by
  have H := Lib.hid (index_any w g o cap zs x hn hc)
  have fin := Lib.hid (idxI_ge zs x)
  clear hc
  obtain ⟨r, hr⟩ : ∃ r, r = idxI zs x := ⟨_, rfl⟩
  rw [← hr] at H fin
  clear hr
  go_enter Try.func23, Try.ntmps23
  go_wp2_with (go_at_call 25; refine H.out.mono ?_; rintro e w' ⟨rfl, rfl⟩)
  go_ret
  exact ⟨by rw [← fin.out]; rfl, rfl⟩

def minL (zs : List Int) : Int := (zs.drop 1).foldl min (zs.getD 0 0)
def minTo (zs : List Int) (k : Nat) : Int := ((zs.take k).drop 1).foldl min (zs.getD 0 0)
theorem minTo_succ (zs : List Int) (k : Nat) (hk : k < zs.length) (h1 : 1 ≤ k) : minTo zs (k + 1) = min (minTo zs k) (zs.getD k 0) := by
  unfold minTo
  rw [List.take_succ_eq_append_getElem hk, List.drop_append_of_le_length (by simp; omega), List.foldl_append]
  simp [hk]
theorem minTo_all (zs : List Int) (k : Nat) (hk : zs.length ≤ k) : minTo zs k = minL zs := by
  unfold minTo minL; rw [List.take_of_length_le hk]
theorem minTo_one (zs : List Int) : minTo zs 1 = zs.getD 0 0 := by
  unfold minTo; cases zs <;> simp

theorem min_any (w : World) (g o cap : Nat) (zs : List Int) (hn : zs.length ≤ 1000000) (h0 : 0 < zs.length) (hc : ∀ i, i < zs.length → w.cell? ⟨g, o + i, none⟩ = some (.int .i64 (zs.getD i 0))) :
    Calls Try.prog 24 #[.slice (some ⟨g, o, none⟩) zs.length cap] w fun e w' => e = .returned (.int .i64 (minL zs)) ∧ w = w' := by
  have HC := Lib.hid hc
  have hc0 := hc 0 h0
  rw [← minTo_one, Nat.add_zero] at hc0
  clear hc
  have h1 : (1 : Int) ≤ (zs.length : Int) := by omega
  have h2 : (0 : Int) < (zs.length : Int) := by omega
  go_enter Try.func24, Try.ntmps24
  go_wp2
  go_loop [3, 4] (fun m i => ∃ k : Nat, 1 ≤ k ∧ k ≤ zs.length ∧ i = .int .i64 k ∧ m = .int .i64 (minTo zs k)) (fun _ i => zs.length - (intOf i).toNat)
  case atStart => exact ⟨1, by omega, h0, rfl, rfl⟩
  case round =>
    obtain ⟨k, hk1, hk, rfl, rfl⟩ := hrel
    by_cases hlt : k < zs.length
    · have hcell := HC.out k hlt
      have hs := Lib.hid (minTo_succ zs k hlt hk1)
      obtain ⟨y, hy⟩ : ∃ y, y = zs.getD k 0 := ⟨_, rfl⟩
      obtain ⟨u, hu⟩ : ∃ u, u = minTo zs k := ⟨_, rfl⟩
      rw [← hy] at hcell hs
      rw [← hu] at hs ⊢
      clear hy hu
      go_wp2
      go_round
      case rel => exact ⟨k + 1, by omega, by omega, by go_num, by rw [hs.out, Int.min_def]; congr 1; split <;> split <;> omega⟩
      case measure => simp [intOf]; omega
    · have hfin := Lib.hid (minTo_all zs k (by omega))
      go_wp2
      go_ret
      exact ⟨ret_int hfin.out, rfl⟩
/-- The same, the length under a name. -/
theorem index_n (w : World) (g o cap n : Nat) (zs : List Int) (x : Int) (hz : zs.length = n) (r : Int) (hr : idxI zs x = r) (hn : n ≤ 1000000) (hc : ∀ i, i < zs.length → w.cell? ⟨g, o + i, none⟩ = some (.int .i64 (zs.getD i 0))) :
    Calls Try.prog 25 #[.slice (some ⟨g, o, none⟩) n cap, .int .i64 x] w fun e w' => e = .returned (.int .i64 r) ∧ w = w' := by
  subst hz; subst hr; exact index_any w g o cap zs x hn hc
theorem contains_n (w : World) (g o cap n : Nat) (zs : List Int) (x : Int) (hz : zs.length = n) (r : Bool) (hr : decide (x ∈ zs) = r) (hn : n ≤ 1000000) (hc : ∀ i, i < zs.length → w.cell? ⟨g, o + i, none⟩ = some (.int .i64 (zs.getD i 0))) :
    Calls Try.prog 23 #[.slice (some ⟨g, o, none⟩) n cap, .int .i64 x] w fun e w' => e = .returned (.bool r) ∧ w = w' := by
  subst hz; subst hr; exact contains_any w g o cap zs x hn hc
theorem min_n (w : World) (g o cap n : Nat) (zs : List Int) (hz : zs.length = n) (r : Int) (hr : minL zs = r) (hn : n ≤ 1000000) (h0 : 0 < n) (hc : ∀ i, i < zs.length → w.cell? ⟨g, o + i, none⟩ = some (.int .i64 (zs.getD i 0))) :
    Calls Try.prog 24 #[.slice (some ⟨g, o, none⟩) n cap] w fun e w' => e = .returned (.int .i64 r) ∧ w = w' := by
  subst hz; subst hr; exact min_any w g o cap zs hn h0 hc

end Go.Proofs.Ytajccnmeijgagaa
