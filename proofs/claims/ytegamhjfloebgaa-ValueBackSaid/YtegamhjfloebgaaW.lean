/-
  WORDS OF BYTES: take, Take: contracts.
-/
import Derived.Test.YtegamhjfloebgaaGr
import Derived.Laws.BitsAllLaws
namespace Go.Proofs.Ytegamhjfloebgaa
open Go.RowKit

/-- the word of bytes, the lowest one first -/
def wd : List UInt8 → Int
  | [] => 0
  | b :: r => wd r * 256 + (b.toNat : Int)
theorem u8_lt (b : UInt8) : (b.toNat : Int) < 256 := by have := b.toNat_lt; omega
theorem wd_nonneg : ∀ l, 0 ≤ wd l
  | [] => Int.le_refl _
  | b :: r => by unfold wd; have := wd_nonneg r; omega
theorem wd_lt (l : List UInt8) : wd l < ((256 ^ l.length : Nat) : Int) := by
  induction l with
  | nil => decide
  | cons b r ih =>
    unfold wd
    rw [List.length_cons, Nat.pow_succ]
    have := u8_lt b
    omega
theorem wd_lt7 (l : List UInt8) (h : l.length ≤ 7) : wd l < 72057594037927936 := by
  have h1 := wd_lt l
  have h2 : 256 ^ l.length ≤ 256 ^ 7 := Nat.pow_le_pow_right (n := 256) (by decide) h
  have h3 : 256 ^ 7 = 72057594037927936 := by decide
  rw [h3] at h2
  omega
theorem or_byte (n b : Int) (h0 : 0 ≤ n) (h1 : n < 72057594037927936) (h2 : 0 ≤ b) (h3 : b < 256) : bits BinOp.or IntKind.u64 (n * 256) b = n * 256 + b := by
  obtain ⟨n, rfl⟩ := Int.eq_ofNat_of_zero_le h0
  obtain ⟨b, rfl⟩ := Int.eq_ofNat_of_zero_le h2
  have e : ((n : Int) * 256) = ((n * 256 : Nat) : Int) := by omega
  rw [e, u64_or_nat (n * 256) b (by omega) (by omega)]
  have : n * 256 ||| b = n * 256 + b := by
    have h := Nat.shiftLeft_add_eq_or_of_lt (a := n) (b := b) (i := 8) (by omega)
    rw [Nat.shiftLeft_eq] at h
    exact h.symm
  rw [this]; omega
theorem wd_zeros : ∀ (l : List UInt8) (k : Nat), wd (l ++ List.replicate k 0) = wd l
  | [], k => by
    induction k with
    | zero => rfl
    | succ k ih => rw [List.nil_append, List.replicate_succ]; unfold wd; rw [List.nil_append] at ih; rw [ih]; rfl
  | b :: r, k => by rw [List.cons_append]; unfold wd; rw [wd_zeros r k]
theorem wd_drop (l : List UInt8) (k : Nat) (h : k < l.length) : wd (l.drop k) = wd (l.drop (k + 1)) * 256 + (l[k].toNat : Int) := by
  rw [List.drop_eq_getElem_cons h]; rfl

set_option maxRecDepth 100000 in
theorem take_s (l : List UInt8) (hl : l.length ≤ 8) (w : World) : Calls Try.prog 57 #[.string ⟨l.toArray⟩] w fun e w' => e = .returned (.int .u64 (wd l)) ∧ w = w' := by
  go_enter Try.func57, Try.ntmps57
  go_wp2_with (fail)
  go_loop [2, 3] (fun nv iv => ∃ k : Nat, k ≤ l.length ∧ iv = .int .i64 ((k : Int) - 1) ∧ nv = .int .u64 (wd (l.drop k))) (fun _ iv => (intOf iv + 1).toNat)
  case atStart => exact ⟨l.length, Nat.le_refl _, rfl, by rw [List.drop_length]; rfl⟩
  case round =>
    obtain ⟨k, hk, rfl, rfl⟩ := hrel
    by_cases h0 : k = 0
    · subst h0
      go_wp2_with (fail)
      go_ret
      exact ⟨rfl, rfl⟩
    · have h1 : k - 1 < l.length := by omega
      have hd := Lib.hid (wd_drop l (k - 1) h1)
      have e1 : k - 1 + 1 = k := by omega
      obtain ⟨n, hn⟩ : ∃ n, wd (l.drop k) = n := ⟨_, rfl⟩
      have n0 : 0 ≤ n := by rw [← hn]; exact wd_nonneg _
      have n1 : n < 72057594037927936 := by rw [← hn]; exact wd_lt7 _ (by rw [List.length_drop]; omega)
      have HN := Lib.hid hn
      rw [hn]
      clear hn
      go_wp2_with (fail)
      go_round
      case rel => exact ⟨k - 1, by omega, by go_num, by
        rw [hd.out, e1, HN.out]
        change Value.int .u64 (bits BinOp.or .u64 (n * 256) (IntKind.u64.wrap (l[k - 1].toNat : Int))) = Value.int .u64 (n * 256 + (l[k - 1].toNat : Int))
        rw [IntWalk.u64_in _ (by have := u8_lt l[k - 1]; omega), or_byte n _ n0 n1 (by omega) (u8_lt _)]⟩
      case measure => simp [intOf]; omega

/-- bytes in memory -/
def BytesAt (w : World) (g o : Nat) (l : List UInt8) : Prop := ∀ i, (h : i < l.length) → w.cell? ⟨g, o + i, none⟩ = some (.int .u8 (l[i].toNat : Int))

set_option maxRecDepth 100000 in
theorem rtake_s (l : List UInt8) (g o len cap at_ : Nat) (hl : at_ + 8 ≤ l.length) (hlen : l.length ≤ len) (hm : len ≤ maxLen) (w : World) (hb : BytesAt w g o l) :
    Calls Try.prog 28 #[.slice (some ⟨g, o, none⟩) len cap, .int .i64 at_] w fun e w' => e = .returned (.int .u64 (wd ((l.drop at_).take 8))) ∧ w = w' := by
  unfold maxLen at hm
  have h8 : ((l.drop at_).take 8).length = 8 := by rw [List.length_take, List.length_drop]; omega
  obtain ⟨r, hr⟩ : ∃ r, r = (l.drop at_).take 8 := ⟨_, rfl⟩
  rw [← hr] at h8 ⊢
  have HC := Lib.hid (show ∀ i, (h : i < r.length) → w.cell? ⟨g, o + (at_ + i), none⟩ = some (.int .u8 (r[i].toNat : Int)) from fun i hi => by
    rw [hb (at_ + i) (by omega)]
    subst hr
    simp)
  clear hb hr
  go_enter Try.func28, Try.ntmps28
  go_wp2_with (fail)
  go_loop [5, 6] (fun nv iv => ∃ k : Nat, k ≤ 8 ∧ iv = .int .i64 ((k : Int) - 1) ∧ nv = .int .u64 (wd (r.drop k))) (fun _ iv => (intOf iv + 1).toNat)
  case atStart => exact ⟨8, Nat.le_refl _, rfl, by rw [List.drop_of_length_le (by omega)]; rfl⟩
  case round =>
    obtain ⟨k, hk, rfl, rfl⟩ := hrel
    by_cases h0 : k = 0
    · subst h0
      go_wp2_with (fail)
      go_ret
      exact ⟨rfl, rfl⟩
    · have h1 : k - 1 < r.length := by omega
      have hd := Lib.hid (wd_drop r (k - 1) h1)
      obtain ⟨j, hj⟩ : ∃ j : Nat, k = j + 1 := ⟨k - 1, by omega⟩
      subst hj
      have hc := HC.out j (by omega)
      obtain ⟨b, hbb⟩ : ∃ b : UInt8, r[j] = b := ⟨_, rfl⟩
      rw [hbb] at hc
      have HB := Lib.hid hbb
      obtain ⟨n, hn⟩ : ∃ n, wd (r.drop (j + 1)) = n := ⟨_, rfl⟩
      have n0 : 0 ≤ n := by rw [← hn]; exact wd_nonneg _
      have n1 : n < 72057594037927936 := by rw [← hn]; exact wd_lt7 _ (by rw [List.length_drop]; omega)
      have HN := Lib.hid hn
      rw [hn]
      have hb1 := u8_lt b
      have e2 : ((j + 1 : Nat) : Int) - 1 = (j : Int) := by omega
      rw [e2]
      clear hn hbb
      go_wp2_with (fail)
      go_round
      case rel => exact ⟨j, by omega, rfl, by
        have := hd.out
        simp only [Nat.add_sub_cancel] at this
        rw [this, HN.out, HB.out]⟩
      case measure => simp [intOf]
end Go.Proofs.Ytegamhjfloebgaa
