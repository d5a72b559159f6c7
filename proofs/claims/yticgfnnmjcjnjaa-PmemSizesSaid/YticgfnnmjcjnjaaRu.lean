/-
  The document's Unpack: a contract.
-/
import Derived.Test.YticgfnnmjcjnjaaUn
import Derived.Test.YticgfnnmjcjnjaaSl
import Derived.Test.YticgfnnmjcjnjaaRd
namespace Go.Proofs.Yticgfnnmjcjnjaa

theorem wd_digit : ∀ (m : List UInt8) (i : Nat), (wd m).toNat / 256 ^ i % 256 = (m.getD i 0).toNat
  | [], i => by simp [wd]
  | b :: r, i => by
    have h0 := wd_nonneg r
    have hb := b.toNat_lt
    have e0 : wd (b :: r) = wd r * 256 + (b.toNat : Int) := rfl
    have e : (wd (b :: r)).toNat = (wd r).toNat * 256 + b.toNat := by rw [e0]; omega
    rw [e]
    cases i with
    | zero => simp; try omega
    | succ i =>
      rw [Nat.pow_succ, Nat.mul_comm (256 ^ i) 256, ← Nat.div_div_eq_div_mul, show ((wd r).toNat * 256 + b.toNat) / 256 = (wd r).toNat by omega, wd_digit r i]
      simp
theorem putB_wd (m : List UInt8) (h : m.length ≤ 8) : putB (wd m) = m ++ List.replicate (8 - m.length) 0 := by
  apply List.ext_getElem
  · simp [putB_len]; omega
  · intro i h1 h2
    have hi : i < 8 := by rw [putB_len] at h1; exact h1
    have e : (putB (wd m))[i] = byteN (wd m) i := by simp [putB]
    refine e.trans ?_
    unfold byteN
    rw [wd_digit]
    have e2 : UInt8.ofNat (m.getD i 0).toNat = m.getD i 0 := by simp
    rw [e2]
    rcases Nat.lt_or_ge i m.length with h3 | h3
    · rw [List.getElem_append_left h3]; simp [h3]
    · rw [List.getElem_append_right h3]; simp [h3]
theorem bytes_chunks (L : List UInt8) : ∀ k, bytesW ((List.range k).map (chunk L)) = L.take (8 * k) ++ List.replicate (8 * k - L.length) 0
  | 0 => by simp [bytesW]
  | k + 1 => by
    rw [List.range_succ, List.map_append, List.map_cons, List.map_nil, bytesW_snoc, bytes_chunks L k]
    unfold chunk
    have hl : ((L.drop (8 * k)).take 8).length ≤ 8 := List.length_take_le _ _
    rw [putB_wd _ hl]
    rcases Nat.lt_or_ge (8 * k) L.length with h | h
    · rw [show 8 * k - L.length = 0 by omega, List.replicate_zero, List.append_nil, ← List.append_assoc, show 8 * (k + 1) = 8 * k + 8 by omega, List.take_add]
      congr 2
      simp; omega
    · rw [List.drop_of_length_le h, List.take_of_length_le h, List.take_of_length_le (show L.length ≤ 8 * (k + 1) by omega)]
      simp only [List.take_nil, List.length_nil, List.nil_append, List.append_assoc]
      rw [List.replicate_append_replicate]
      congr 2
      omega
theorem packW_tail (L : List UInt8) : bytesW (packW L).tail = L ++ List.replicate (8 * ((L.length + 7) / 8) - L.length) 0 := by
  unfold packW packTo
  rw [List.tail_cons, bytes_chunks, List.take_of_length_le (by omega)]
theorem unpackT_pack (L : List UInt8) (more : List Int) : unpackT (packW L ++ more) = L := by
  unfold unpackT
  have e1 : (packW L ++ more).tail = (packW L).tail ++ more := by unfold packW packTo; rfl
  have e2 : (packW L ++ more).headD 0 = (L.length : Int) := by unfold packW packTo; rfl
  rw [e1, e2]
  have e3 : bytesW ((packW L).tail ++ more) = bytesW (packW L).tail ++ bytesW more := by unfold bytesW; rw [List.flatMap_append]
  rw [e3, packW_tail, List.append_assoc, Int.toNat_natCast]
  simp
theorem unpackOk_pack (L : List UInt8) : unpackOk (packW L) = true := by
  unfold unpackOk
  have h := unpackT_pack L []
  rw [List.append_nil] at h
  rw [h]
  have e2 : (packW L).headD 0 = (L.length : Int) := by unfold packW packTo; rfl
  have e3 : (packW L).length = (L.length + 7) / 8 + 1 := packW_len L
  have e4 : (packW L).isEmpty = false := by unfold packW packTo; rfl
  rw [e2, e3, e4]
  simp
  omega
theorem unpackOk_more (L : List UInt8) (x : Int) : unpackOk (packW L ++ [x]) = false := by
  unfold unpackOk
  rw [unpackT_pack]
  have : ¬ packW L = packW L ++ [x] := fun h => by
    have := congrArg List.length h
    simp at this
  simp [this]
theorem packW_u64 (L : List UInt8) (hl : L.length ≤ 1000000) : U64s (packW L) := by
  intro x hx
  unfold packW packTo at hx
  rcases List.mem_cons.1 hx with rfl | h
  · omega
  · obtain ⟨i, _, rfl⟩ := List.mem_map.1 h
    unfold chunk
    refine ⟨wd_nonneg _, ?_⟩
    have h1 := wd_lt ((L.drop (8 * i)).take 8)
    have h2 : 256 ^ ((L.drop (8 * i)).take 8).length ≤ 256 ^ 8 := Nat.pow_le_pow_right (by decide) (List.length_take_le _ _)
    have h3 : (256 : Nat) ^ 8 = 18446744073709551616 := by decide
    omega
end Go.Proofs.Yticgfnnmjcjnjaa
namespace Go.Proofs.Yticgfnnmjcjnjaa
open Go.RowKit
set_option linter.unusedVariables false

theorem RowAt.sl {w : World} {v : Value} {l : List Int} (h : RowAt w v l) : ∃ p c, v = .slice p l.length c := by
  rcases h with ⟨rfl, p, c, rfl⟩ | ⟨_, g, o, c, rfl, _⟩
  · exact ⟨_, _, rfl⟩
  · exact ⟨_, _, rfl⟩
theorem Reads.none_' {w : World} {B : Nat} (p : Option Addr) : Reads w B 1 p 0 [] := ⟨rfl, fun h => absurd h (by omega)⟩
theorem reads_one' (w : World) (v : Value) (t : TypeId) : Reads (w.alloc (.cells #[v] t)) (w.heap.size + 1) 1 (some ⟨w.heap.size, 0, none⟩) 1 [v] :=
  ⟨rfl, fun _ => ⟨_, rfl, Nat.lt_succ_self _, fun j u hu => by
    cases j with
    | zero =>
      simp at hu; subst hu
      have := (Blk.new w #[v] t).cell 0
      simp [Addr.add]
    | succ j => simp at hu⟩⟩
theorem RowAt.reads {w : World} {p : Option Addr} {n c : Nat} {l : List Int} (h : RowAt w (.slice p n c) l) : n = l.length ∧ Reads w w.heap.size 1 p l.length (l.map (Value.int .u64)) := by
  rcases h with ⟨rfl, p', c', e⟩ | ⟨h0, g, o, c', e, _, hg, hw⟩
  · cases e; exact ⟨rfl, Reads.none_' _⟩
  · cases e
    refine ⟨rfl, by simp, fun _ => ⟨_, rfl, hg, fun j u hu => ?_⟩⟩
    have hj : j < l.length := by have := (List.getElem?_eq_some_iff.1 hu).1; simpa using this
    have e1 : (⟨g, o, none⟩ : Addr).add j = ⟨g, o + j, none⟩ := by unfold Addr.add; split; (rename_i h; subst h; rfl); rfl
    rw [e1, hw j hj]
    simp [hj] at hu ⊢
    exact hu
end Go.Proofs.Yticgfnnmjcjnjaa
namespace Go.Proofs.Yticgfnnmjcjnjaa
open Go.RowKit

theorem own_ne_blk {w : World} {base : Nat} {e : TypeId} {size n : Nat} {v : Value} {xs : List Value} {b : Nat} {C : Array Value} {t : TypeId} (h : w.ownsRow base e size v n xs) (hb : Blk w b C t) (hne : e ≠ t) : some b ≠ v.ownBlock := by
  obtain ⟨_, ⟨rfl, _⟩ | ⟨g, cap, cur, rfl, _, hh, _⟩⟩ := h
  · intro e; cases e
  · intro e
    cases e
    unfold Blk at hb
    rw [hh] at hb
    cases hb
    exact hne rfl
theorem take_snocB (l : List UInt8) (k : Nat) (h : k < l.length) : l.take (k + 1) = l.take k ++ [l.getD k 0] := by
  rw [List.take_succ_eq_append_getElem h]; simp [h]
theorem bvals_app (a b : List UInt8) : bvals (a ++ b) = bvals a ++ bvals b := by simp [bvals]

end Go.Proofs.Yticgfnnmjcjnjaa
namespace Go.Proofs.Yticgfnnmjcjnjaa
open Go.RowKit

/-- the bytes behind a text's end are noughts -/
def zeroFrom (m : List UInt8) (n : Nat) : Prop := ∀ i, n ≤ i → i < m.length → m.getD i 0 = 0
def refOk (x : Int) (t : List Int) : Prop := x ≤ 8 * (t.length : Int) ∧ 8 * (t.length : Int) < x + 8 ∧ zeroFrom (bytesW t) x.toNat
def RunPost (w : World) (x : Int) (t : List Int) (e : Ending) (w' : World) : Prop :=
  ((refOk x t ∧ e = .returned (.tuple #[.string ⟨((bytesW t).take x.toNat).toArray⟩, .int .i64 0])) ∨ (¬ refOk x t ∧ e = .returned (.tuple #[.string ⟨#[]⟩, .int .i64 11]))) ∧ Below w.heap.size w w'

theorem conv_nil (w : World) : (convert 29 9 (.slice none 0 0)).run Try.prog w = .ok (.string ⟨#[]⟩) w := by kernel_rfl
/-- a front of bytes of the call's own, as a text -/
theorem conv_row {w : World} {base : Nat} {a : Option Addr} {n c : Nat} {M : List UInt8} (h : w.ownsRow base 5 1 (.slice a n c) M.length (bvals M)) (k : Nat) (hk : k ≤ M.length) :
    (convert 29 9 (.slice a k c)).run Try.prog w = .ok (.string ⟨(M.take k).toArray⟩) w := by
  obtain ⟨_, ⟨e, h0⟩ | ⟨g, cap, cur, e, _, hh, _, _, _, ht⟩⟩ := h
  · cases e
    have hM : M = [] := List.eq_nil_of_length_eq_zero h0
    subst hM
    obtain rfl : k = 0 := by simpa using hk
    exact conv_nil w
  · cases e
    have hb := BAt.of_blk (L := M) (t := 5) (w := w) (g := g) (cur := cur.toList) (by simpa using hh) (by simpa using ht)
    have hl : (M.take k).length = k := by simp; omega
    have := run_convert_bytes_back (P := Try.prog) w 29 9 5 ⟨g, 0, none⟩ c (M.take k) Try.underlying29 Try.underlying5 Try.underlying9 (fun j hj => by
      rw [hl] at hj
      obtain ⟨g', o', e, _, hc⟩ := hb j (by omega)
      cases e
      have e1 : (⟨g, 0, none⟩ : Addr).add j = ⟨g, 0 + j, none⟩ := by unfold Addr.add; split; (rename_i h; subst h; rfl); rfl
      rw [e1, hc]
      have : j < M.length := by omega
      simp [this])
    rwa [hl] at this

theorem own_cap {w : World} {base : Nat} {e : TypeId} {size : Nat} {A : Option Addr} {m cap n : Nat} {xs : List Value} (h : w.ownsRow base e size (.slice A m cap) n xs) : n ≤ cap := by
  obtain ⟨_, ⟨e, rfl⟩ | ⟨_, cap', _, e, _, _, h1, _⟩⟩ := h
  · exact Nat.zero_le _
  · cases e; exact h1

end Go.Proofs.Yticgfnnmjcjnjaa
