/-
  PACKED TEXTS, IN PLAIN LEAN: what is packed is read again.
-/
import Derived.Test.YtegamhjfloebgaaUn
namespace Go.Proofs.Ytegamhjfloebgaa

theorem wd_digit : ∀ (m : List UInt8) (i : Nat), (wd m).toNat / 256 ^ i % 256 = (m.getD i 0).toNat
  | [], i => by simp [wd]
  | b :: r, i => by
    have h0 := wd_nonneg r
    have hb := b.toNat_lt
    have e0 : wd (b :: r) = wd r * 256 + (b.toNat : Int) := rfl
    have e : (wd (b :: r)).toNat = (wd r).toNat * 256 + b.toNat := by rw [e0]; omega
    rw [e]
    cases i with
    | zero => simp; try omega
    | succ i =>
      rw [Nat.pow_succ, Nat.mul_comm (256 ^ i) 256, ← Nat.div_div_eq_div_mul, show ((wd r).toNat * 256 + b.toNat) / 256 = (wd r).toNat by omega, wd_digit r i]
      simp
theorem putB_wd (m : List UInt8) (h : m.length ≤ 8) : putB (wd m) = m ++ List.replicate (8 - m.length) 0 := by
  apply List.ext_getElem
  · simp [putB_len]; omega
  · intro i h1 h2
    have hi : i < 8 := by rw [putB_len] at h1; exact h1
    have e : (putB (wd m))[i] = byteN (wd m) i := by simp [putB]
    refine e.trans ?_
    unfold byteN
    rw [wd_digit]
    have e2 : UInt8.ofNat (m.getD i 0).toNat = m.getD i 0 := by simp
    rw [e2]
    rcases Nat.lt_or_ge i m.length with h3 | h3
    · rw [List.getElem_append_left h3]; simp [h3]
    · rw [List.getElem_append_right h3]; simp [h3]
theorem bytes_chunks (L : List UInt8) : ∀ k, bytesW ((List.range k).map (chunk L)) = L.take (8 * k) ++ List.replicate (8 * k - L.length) 0
  | 0 => by simp [bytesW]
  | k + 1 => by
    rw [List.range_succ, List.map_append, List.map_cons, List.map_nil, bytesW_snoc, bytes_chunks L k]
    unfold chunk
    have hl : ((L.drop (8 * k)).take 8).length ≤ 8 := List.length_take_le _ _
    rw [putB_wd _ hl]
    rcases Nat.lt_or_ge (8 * k) L.length with h | h
    · rw [show 8 * k - L.length = 0 by omega, List.replicate_zero, List.append_nil, ← List.append_assoc, show 8 * (k + 1) = 8 * k + 8 by omega, List.take_add]
      congr 2
      simp; omega
    · rw [List.drop_of_length_le h, List.take_of_length_le h, List.take_of_length_le (show L.length ≤ 8 * (k + 1) by omega)]
      simp only [List.take_nil, List.length_nil, List.nil_append, List.append_assoc]
      rw [List.replicate_append_replicate]
      congr 2
      omega
theorem packW_tail (L : List UInt8) : bytesW (packW L).tail = L ++ List.replicate (8 * ((L.length + 7) / 8) - L.length) 0 := by
  unfold packW packTo
  rw [List.tail_cons, bytes_chunks, List.take_of_length_le (by omega)]
theorem unpackT_pack (L : List UInt8) (more : List Int) : unpackT (packW L ++ more) = L := by
  unfold unpackT
  have e1 : (packW L ++ more).tail = (packW L).tail ++ more := by unfold packW packTo; rfl
  have e2 : (packW L ++ more).headD 0 = (L.length : Int) := by unfold packW packTo; rfl
  rw [e1, e2]
  have e3 : bytesW ((packW L).tail ++ more) = bytesW (packW L).tail ++ bytesW more := by unfold bytesW; rw [List.flatMap_append]
  rw [e3, packW_tail, List.append_assoc, Int.toNat_natCast]
  simp
theorem unpackOk_pack (L : List UInt8) : unpackOk (packW L) = true := by
  unfold unpackOk
  have h := unpackT_pack L []
  rw [List.append_nil] at h
  rw [h]
  have e2 : (packW L).headD 0 = (L.length : Int) := by unfold packW packTo; rfl
  have e3 : (packW L).length = (L.length + 7) / 8 + 1 := packW_len L
  have e4 : (packW L).isEmpty = false := by unfold packW packTo; rfl
  rw [e2, e3, e4]
  simp
  omega
theorem unpackOk_more (L : List UInt8) (x : Int) : unpackOk (packW L ++ [x]) = false := by
  unfold unpackOk
  rw [unpackT_pack]
  have : ¬ packW L = packW L ++ [x] := fun h => by
    have := congrArg List.length h
    simp at this
  simp [this]
theorem packW_u64 (L : List UInt8) (hl : L.length ≤ 1000000) : U64s (packW L) := by
  intro x hx
  unfold packW packTo at hx
  rcases List.mem_cons.1 hx with rfl | h
  · omega
  · obtain ⟨i, _, rfl⟩ := List.mem_map.1 h
    unfold chunk
    refine ⟨wd_nonneg _, ?_⟩
    have h1 := wd_lt ((L.drop (8 * i)).take 8)
    have h2 : 256 ^ ((L.drop (8 * i)).take 8).length ≤ 256 ^ 8 := Nat.pow_le_pow_right (by decide) (List.length_take_le _ _)
    have h3 : (256 : Nat) ^ 8 = 18446744073709551616 := by decide
    omega
end Go.Proofs.Ytegamhjfloebgaa
