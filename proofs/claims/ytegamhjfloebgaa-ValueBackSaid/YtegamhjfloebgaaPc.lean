/-
  ROWS OF WORDS; Unpack in two contracts (from the texts of word).
-/
import Derived.Test.YtegamhjfloebgaaSl
import Derived.Test.YtegamhjfloebgaaPl
import Derived.Test.YtegamhjfloebgaaRd
namespace Go.Proofs.Ytegamhjfloebgaa
open Go.RowKit
set_option linter.unusedVariables false

theorem RowAt.sl {w : World} {v : Value} {l : List Int} (h : RowAt w v l) : ∃ p c, v = .slice p l.length c := by
  rcases h with ⟨rfl, p, c, rfl⟩ | ⟨_, g, o, c, rfl, _⟩
  · exact ⟨_, _, rfl⟩
  · exact ⟨_, _, rfl⟩
theorem Reads.none_' {w : World} {B : Nat} (p : Option Addr) : Reads w B 1 p 0 [] := ⟨rfl, fun h => absurd h (by omega)⟩
theorem reads_one' (w : World) (v : Value) (t : TypeId) : Reads (w.alloc (.cells #[v] t)) (w.heap.size + 1) 1 (some ⟨w.heap.size, 0, none⟩) 1 [v] :=
  ⟨rfl, fun _ => ⟨_, rfl, Nat.lt_succ_self _, fun j u hu => by
    cases j with
    | zero =>
      simp at hu; subst hu
      have := (Blk.new w #[v] t).cell 0
      simp [Addr.add]
    | succ j => simp at hu⟩⟩
theorem RowAt.reads {w : World} {p : Option Addr} {n c : Nat} {l : List Int} (h : RowAt w (.slice p n c) l) : n = l.length ∧ Reads w w.heap.size 1 p l.length (l.map (Value.int .u64)) := by
  rcases h with ⟨rfl, p', c', e⟩ | ⟨h0, g, o, c', e, _, hg, hw⟩
  · cases e; exact ⟨rfl, Reads.none_' _⟩
  · cases e
    refine ⟨rfl, by simp, fun _ => ⟨_, rfl, hg, fun j u hu => ?_⟩⟩
    have hj : j < l.length := by have := (List.getElem?_eq_some_iff.1 hu).1; simpa using this
    have e1 : (⟨g, o, none⟩ : Addr).add j = ⟨g, o + j, none⟩ := by unfold Addr.add; split; (rename_i h; subst h; rfl); rfl
    rw [e1, hw j hj]
    simp [hj] at hu ⊢
    exact hu
theorem rpack_row (l : List UInt8) (hl : l.length ≤ 1000000) (w : World) : Calls Try.prog 35 #[.string ⟨l.toArray⟩] w fun e w' => ∃ p n c, e = .returned (.slice p n c) ∧ RowAt w' (.slice p n c) (packW l) ∧ Below w.heap.size w w' :=
  (rpack_s l hl w).mono fun _ _ ⟨v, he, ho, hB⟩ => by
    obtain ⟨p, n, c, rfl⟩ := own_slice ho
    exact ⟨p, n, c, he, RowAt.of_own ho, hB⟩
theorem unpack_yes (l : List Int) (v : Value) (w : World) (hl : l.length ≤ 100000) (hu : U64s l) (hr : RowAt w v l) (T : List UInt8) (h : unpackOk l = true) (hT : unpackT l = T) :
    Calls Try.prog 59 #[v] w fun e w' => e = .returned (.tuple #[.string ⟨T.toArray⟩, .int .i64 0]) ∧ Below w.heap.size w w' :=
  (unpack_r l v w hl hu hr).mono fun _ _ ⟨he, hB⟩ => ⟨by rw [he, if_pos h, hT], hB⟩
theorem unpack_no (l : List Int) (v : Value) (w : World) (hl : l.length ≤ 100000) (hu : U64s l) (hr : RowAt w v l) (h : unpackOk l = false) :
    Calls Try.prog 59 #[v] w fun e w' => e = .returned (.tuple #[.string ⟨#[]⟩, .int .i64 11]) ∧ Below w.heap.size w w' :=
  (unpack_r l v w hl hu hr).mono fun _ _ ⟨he, hB⟩ => ⟨by rw [he, h, if_neg (by decide)], hB⟩

end Go.Proofs.Ytegamhjfloebgaa
