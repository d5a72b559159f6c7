/-
  pmem.Mem.Crash on a memory as a whole.
-/
import Derived.Test.YticgfnnmjcjnjaaRcr
import Derived.Test.YticgfnnmjcjnjaaRst
namespace Go.Proofs.Yticgfnnmjcjnjaa
open Go.RowKit Go.Maps Go.WideElems Go.WideShapes
set_option linter.unusedVariables false

/-- numbers that came in (what a crash keeps) -/
def NumsAt (w : World) (S : Nat → Prop) (p : Option Addr) (ks : List Int) : Prop := 0 < ks.length → ∃ g o, p = some ⟨g, o, none⟩ ∧ g < w.heap.size ∧ ¬ S g ∧ ∀ i, i < ks.length → w.cell? ⟨g, o + i, none⟩ = some (.int .i64 (ks.getD i 0))
/-- what a crash leaves: of each line so many of its pending stores have lasted -/
def CrP (w : World) (mb : Nat) (S : Nat → Prop) (M : MSt) (ks : List Int) (w' : World) : Prop :=
  ∃ S' isF xs, KeysF M.F xs ∧ isF.length = M.is.length ∧ (∀ k, isF.getD k 0 = (lastIm M.is ((M.F (lnW k)).take (foldQ M.F ks (srt xs) (List.finRange (srt xs).length) (lnW k)))).getD k 0) ∧
    MemD w' mb S' ⟨isF, isF, fun _ _ => 0, fun _ => [], M.lo, M.st, M.fl, M.fe⟩ ∧ (∀ i, S' i → S i ∨ w.heap.size ≤ i) ∧ Keeps S w w'
theorem crash_m {w : World} {mb : Nat} {S : Nat → Prop} {M : MSt} (h : MemD w mb S M) (hn : M.vs.length ≤ 1000) (hst : M.st ≤ 1000000) (p : Option Addr) (cK : Nat) (ks : List Int) (hks : ks.length ≤ 1000) (hk64 : ∀ x ∈ ks, -9223372036854775808 ≤ x ∧ x ≤ 9223372036854775807) (hka : NumsAt w S p ks) :
    Calls Try.prog 17 #[.pointer (some ⟨mb, 0, none⟩), .slice p ks.length cK] w fun e w' => e = .returned (.tuple #[]) ∧ CrP w mb S M ks w' := by
  obtain ⟨N0, vv, vi, ml, D, sl, hm, hN, hS, hp, hl, hi, hok, hF, hmk, hh, hs0, hf0, hfe⟩ := h
  have hml : ¬ S ml → False := fun h => h ((hS ml).2 (.inr (.inl rfl)))
  refine (callsIn_wide.1 (crash_x w N0 mb M.vs M.is vv vi ml M.vs.length D sl M.mk M.F M.lo M.st M.fl M.fe hm (fun a c => by have := hmk a c; omega) (by rw [hi]; exact hok) (fun a => by have := hF a; omega) hh hN hp (by omega) hn p cK ks hks hk64 (fun h0 => by
    obtain ⟨g, o, e, hg, hs, hc⟩ := hka h0
    exact ⟨g, o, e, hg, fun e => hs ((hS g).2 (.inr (.inl e))), fun e => hs ((hS g).2 (.inr (.inr (.inr (.inl e))))), hc⟩))).mono ?_
  rintro e w' ⟨rfl, isF, vvF, xs, hks, hlen, himg, hmb, ho, hvb, hk⟩
  refine ⟨rfl, fun i => i = mb ∨ i = ml ∨ vvF.ownBlock = some i ∨ vi.ownBlock = some i ∨ ∃ a : Int, (Value.slice none 0 0).ownBlock = some i, isF, xs, hks, hlen, himg, ?_, fun i hi => ?_, hk.mono (fun i hil h => ?_)⟩
  · have hlt := hm.lt
    have hvl : ∀ i, vvF.ownBlock = some i → i < w'.heap.size := fun i e => own_ltS hmb.v e
    refine ⟨w'.heap.size, vvF, vi, ml, .map [], fun _ => .slice none 0 0, ⟨hmb, ho.mono (Nat.zero_le _), fun a => rfl, fun a => .inl (World.ownsRow_nil _ _ _ _), fun a b i _ h => by (cases h), fun i hi => ?_, ⟨hm.x.1, fun e => by have := hvb ml e; have := hlt ml (.inr (.inl rfl)); omega, hm.x.2.2⟩, fun i hi e => by have := hvb i hi; have := hlt i (.inr (.inr (.inr e))); omega⟩, Nat.le_refl _, fun i => Iff.rfl, by show 0 < isF.length; omega, by show isF.length ≤ 400000; omega, rfl, fun a q hq => by (cases hq), fun a => by simpa using hs0, fun a i => ⟨Int.le_refl _, hs0⟩, fun a ha => by simp [Maps.has] at ha, hs0, hf0, hfe⟩
    rcases hi with h | h | h | h
    · have := hlt i (.inl h); have := hk.size; omega
    · have := hlt i (.inr (.inl h)); have := hk.size; omega
    · exact hvl i h
    · have := hlt i (.inr (.inr (.inr h))); have := hk.size; omega
  · rcases hi with h | h | h | h | ⟨_, h⟩
    · exact .inl ((hS i).2 (.inl h))
    · exact .inl ((hS i).2 (.inr (.inl h)))
    · exact .inr (hvb i h)
    · exact .inl ((hS i).2 (.inr (.inr (.inr (.inl h)))))
    · cases h
  · rcases h with h | h | h | h
    · exact (hS i).2 (.inl h)
    · exact (hS i).2 (.inr (.inl h))
    · exact (hS i).2 (.inr (.inr (.inr (.inl h))))
    · omega
end Go.Proofs.Yticgfnnmjcjnjaa
