/-
  The law WordUnpacks: its plain part, and its walk.
-/
import Derived.Test.YticgfnnmjcjnjaaRu
namespace Go.Proofs.Yticgfnnmjcjnjaa
open Go.RowKit

theorem wd_putB (x : Int) (h0 : 0 ≤ x) (h1 : x ≤ 18446744073709551615) : wd (putB x) = x := by
  obtain ⟨n, rfl⟩ := Int.eq_ofNat_of_zero_le h0
  have key : ∀ (k m : Nat), wd ((List.range k).map (fun i => UInt8.ofNat (m / 256 ^ i % 256))) = ((m % 256 ^ k : Nat) : Int) := by
    intro k
    induction k with
    | zero => intro m; simp [wd, Nat.mod_one]
    | succ k ih =>
      intro m
      rw [List.range_succ_eq_map, List.map_cons, List.map_map]
      have e0 : (UInt8.ofNat (m / 256 ^ 0 % 256)).toNat = m % 256 := by
        rw [Nat.pow_zero, Nat.div_one, UInt8.toNat_ofNat']
        exact Nat.mod_eq_of_lt (Nat.mod_lt _ (by decide))
      show wd ((List.range k).map _) * 256 + ((UInt8.ofNat (m / 256 ^ 0 % 256)).toNat : Int) = _
      rw [e0]
      have e1 : (List.range k).map ((fun i => UInt8.ofNat (m / 256 ^ i % 256)) ∘ Nat.succ) = (List.range k).map (fun i => UInt8.ofNat (m / 256 / 256 ^ i % 256)) := by
        apply List.map_congr_left
        intro i _
        show UInt8.ofNat (m / 256 ^ (i + 1) % 256) = _
        rw [Nat.pow_succ, Nat.mul_comm, ← Nat.div_div_eq_div_mul]
      rw [e1, ih (m / 256)]
      have e2 : m % 256 ^ (k + 1) = m / 256 % 256 ^ k * 256 + m % 256 := by
        rw [Nat.pow_succ, Nat.mul_comm (256 ^ k) 256, Nat.mod_mul]; omega
      rw [e2]; omega
  have := key 8 n
  have e3 : (256 : Nat) ^ 8 = 18446744073709551616 := by decide
  rw [e3, Nat.mod_eq_of_lt (by omega)] at this
  exact this
theorem bytesW_at (t : List Int) (i : Nat) (hi : i < t.length) : ((bytesW t).drop (8 * i)).take 8 = putB (t[i]) := by
  induction t generalizing i with
  | nil => simp at hi
  | cons y t ih =>
    have e : bytesW (y :: t) = putB y ++ bytesW t := by simp [bytesW]
    rw [e]
    cases i with
    | zero =>
      rw [Nat.mul_zero, List.drop_zero, List.take_append_of_le_length (by rw [putB_len]; omega), List.take_of_length_le (by rw [putB_len]; omega)]
      rfl
    | succ i =>
      rw [show 8 * (i + 1) = 8 + 8 * i by omega, ← List.drop_drop, List.drop_append_of_le_length (by rw [putB_len]; omega), List.drop_of_length_le (l := putB y) (by rw [putB_len]; omega), List.nil_append, ih i (by simpa using hi)]
      rfl
theorem ok_of_ref (x : Int) (t : List Int) (hu : U64s (x :: t)) (h : refOk x t) : unpackOk (x :: t) = true := by
  obtain ⟨h1, h2, h3⟩ := h
  have hx := hu x (by simp)
  obtain ⟨k, rfl⟩ := Int.eq_ofNat_of_zero_le hx.1
  rw [Int.toNat_natCast] at h3
  have hl := bytesW_len t
  have hT : unpackT ((k : Int) :: t) = (bytesW t).take k := by unfold unpackT; simp
  have hTl : ((bytesW t).take k).length = k := by rw [List.length_take, hl]; omega
  have hsplit : bytesW t = (bytesW t).take k ++ List.replicate (8 * t.length - k) 0 := by
    conv => lhs; rw [← List.take_append_drop k (bytesW t)]
    congr 1
    apply List.ext_getElem
    · simp [hl]
    · intro i hi1 hi2
      simp at hi1
      have := h3 (k + i) (by omega) (by omega)
      simp [show k + i < (bytesW t).length by omega] at this
      simp [this]
  have hpk : packW ((bytesW t).take k) = (k : Int) :: t := by
    unfold packW packTo
    rw [hTl, show (k + 7) / 8 = t.length by omega]
    congr 1
    apply List.ext_getElem
    · simp
    · intro i hi1 hi2
      simp only [List.getElem_map, List.getElem_range]
      unfold chunk
      have hlt : 8 * i + 8 ≤ 8 * t.length := by omega
      have e1 := bytesW_at t i hi2
      rw [hsplit, List.drop_append_of_le_length (by rw [hTl]; omega), List.take_append, List.take_replicate] at e1
      have hut := hu (t[i]) (by simp)
      rw [← wd_putB (t[i]) hut.1 hut.2, ← e1, wd_zeros]
  unfold unpackOk
  rw [hT, hpk]
  simp
  omega
theorem ref_of_ok (x : Int) (t : List Int) (hu : U64s (x :: t)) (h : unpackOk (x :: t) = true) : refOk x t := by
  have hx := hu x (by simp)
  obtain ⟨k, rfl⟩ := Int.eq_ofNat_of_zero_le hx.1
  unfold unpackOk at h
  simp only [Bool.and_eq_true, decide_eq_true_eq, List.headD_cons, List.length_cons] at h
  obtain ⟨⟨_, h1⟩, h2⟩ := h
  have h1' : (k : Int) ≤ 8 * (((t.length + 1 : Nat) : Int) - 1) := of_decide_eq_true h1
  clear h1
  have hl := bytesW_len t
  have hT : unpackT ((k : Int) :: t) = (bytesW t).take k := by unfold unpackT; simp
  rw [hT] at h2
  have hTl : ((bytesW t).take k).length = k := by rw [List.length_take, hl]; omega
  have hln := congrArg List.length h2
  rw [packW_len, hTl, List.length_cons] at hln
  refine ⟨by omega, by omega, fun i hi1 hi2 => ?_⟩
  rw [Int.toNat_natCast] at hi1
  have h4 := packW_tail ((bytesW t).take k)
  rw [h2, List.tail_cons, hTl] at h4
  rw [h4]
  simp only [List.getD_eq_getElem?_getD]
  rw [List.getElem?_append_right (by rw [hTl]; exact hi1), List.getElem?_replicate]
  split <;> rfl

end Go.Proofs.Yticgfnnmjcjnjaa
