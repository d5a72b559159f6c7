/-
  NewFree: a contract.
-/
import Derived.Test.YtdekjfbaoaobeaaHg
namespace Go.Proofs.Ytdekjfbaoaobeaa
open Go.RowKit

theorem put_zero (b : Nat) (w : World) :
    Calls Try.prog 30 #[.pointer (some ⟨b, 0, none⟩), .int .u64 0] w fun e w' => e = .returned (.int .i64 2) ∧ w = w' := by
  go_enter Try.func30, Try.ntmps30
  go_wp2_with (fail)
  go_ret
  exact ⟨rfl, rfl⟩

/-- a list that lies somewhere to be read -/
def ReadL (w : World) (a : Option Addr) (xs : List Int) : Prop := xs = [] ∨ ∃ g o, a = some ⟨g, o, none⟩ ∧ g < w.heap.size ∧ ∀ j, j < xs.length → w.cell? ⟨g, o + j, none⟩ = some (.int .u64 (xs.getD j 0))
def NewP (xs : List Int) (e : Ending) (w w' : World) : Prop := ∃ v l, e = .returned (.pointer (some ⟨w.heap.size, 0, none⟩)) ∧ SetV w' w.heap.size v l ∧ (∀ x, x ∈ l ↔ x ∈ xs ∧ x ≠ 0) ∧ l.length ≤ xs.length ∧ (∀ g, v.ownBlock = some g → w.heap.size ≤ g) ∧ Below w.heap.size w w'

theorem HStep.own {b : Nat} {v v' : Value} {w w' : World} {B : Nat} (h : HStep b v v' w w') (hv : ∀ g, v.ownBlock = some g → B ≤ g) (hB : B ≤ w.heap.size) : ∀ g, v'.ownBlock = some g → B ≤ g := by
  rcases h.2 with e | e
  · rw [e]; exact hv
  · exact fun g hg => by have := e g hg; omega
theorem HStep.below {b : Nat} {v v' : Value} {w0 w w' : World} {B : Nat} (h : HStep b v v' w w') (hv : ∀ g, v.ownBlock = some g → B ≤ g) (hb : B ≤ b) (hB : B ≤ w.heap.size) (k : Below B w0 w) : Below B w0 w' := by
  refine k.trans ⟨h.1.os, h.1.tape, h.1.output, h.1.size, fun i hi => h.1.block i (by omega) ?_⟩
  rintro (e | e)
  · omega
  · have := hv i e; omega

set_option maxRecDepth 100000 in
set_option maxHeartbeats 2000000 in
theorem newfree_v (a : Option Addr) (c : Nat) (xs : List Int) (w : World) (h : ReadL w a xs) (hn : xs.length ≤ 100000) :
    Calls Try.prog 23 #[.slice a xs.length c] w fun e w' => NewP xs e w w' := by
  have H := Lib.hid h
  clear h
  go_enter Try.func23, Try.ntmps23
  go_wp2_with (fail)
  go_loopw [10] (fun jv wr => ∃ (k : Nat) (v : Value) (l : List Int), jv = .int .i64 k ∧ k ≤ xs.length ∧ SetV wr w.heap.size v l ∧ (∀ x, x ∈ l ↔ x ∈ xs.take k ∧ x ≠ 0) ∧ l.length ≤ k ∧ (∀ g, v.ownBlock = some g → w.heap.size ≤ g) ∧ Below w.heap.size w wr) (fun jv _ => xs.length - (intOf jv).toNat)
  case atStart =>
    refine ⟨0, .slice none 0 0, [], rfl, Nat.zero_le _, ⟨⟨?_, ?_, fun e => by simp [Value.ownBlock] at e⟩, fun k hk => absurd hk (Nat.not_lt_zero _), List.nodup_nil⟩, by simp, Nat.le_refl _, fun g e => by simp [Value.ownBlock] at e, (Below.refl _ w).alloc (Nat.le_refl _) _⟩
    · exact Blk.new w #[.slice none 0 0] 58
    · exact World.ownsRow_nil _ _ _ _
  case round =>
    obtain ⟨k, v, l, rfl, hk, hs, hm, hlk, hown, hB⟩ := hrel
    have HS := Lib.hid hs
    have HM := Lib.hid hm
    have HO := Lib.hid hown
    have HB := Lib.hid hB
    have hsz := hB.size
    clear hs hm hown
    by_cases hlt : k < xs.length
    · rcases H.out with e | ⟨g, o, rfl, hg, hc⟩
      · subst e; simp at hlt
      obtain ⟨x, hx⟩ : ∃ x, xs.getD k 0 = x := ⟨_, rfl⟩
      have c1 := (HB.out.cell (p := ⟨g, o + k, none⟩) hg).trans (hc k hlt)
      rw [hx] at c1
      have HT := Lib.hid (show xs.take (k + 1) = xs.take k ++ [x] from by rw [← hx, List.take_succ_eq_append_getElem hlt]; simp [hlt])
      have b1 : (k : Int) < (xs.length : Int) := by omega
      have b3 : ((k : Int)).toNat = k := by omega
      clear hc hx hB
      by_cases hx0 : x = 0
      · subst hx0
        go_wp2_with (fail)
        refine (put_zero _ _).mono ?_
        rintro e w2 ⟨rfl, rfl⟩
        go_wp2_with (fail)
        go_roundw
        case rel => exact ⟨k + 1, v, l, by go_num, by omega, HS.out, fun y => by rw [HM.out, HT.out, List.mem_append]; simp; intro h1 h2; exact absurd h2 h1, by omega, HO.out, HB.out⟩
        case measure => simp [intOf]; omega
      · have HP := Lib.hid (put_v w.heap.size v l x wr HS.out (by omega) hx0)
        have HX := Lib.hid hx0
        clear hx0
        go_wp2_with (fail)
        refine HP.out.mono ?_
        rintro e w2 ⟨rfl, v2, l2, hs2, hp2, hst2⟩
        have HR := Lib.hid (show (∀ y, y ∈ l2 ↔ y ∈ xs.take (k + 1) ∧ y ≠ 0) ∧ l2.length ≤ k + 1 from by
          constructor
          · intro y
            rw [hp2.mem_iff, HT.out, List.mem_append]
            by_cases hxl : x ∈ l
            · rw [if_pos hxl, HM.out]
              have := (HM.out x).1 hxl
              constructor
              · rintro ⟨h1, h2⟩; exact ⟨.inl h1, h2⟩
              · rintro ⟨h1 | h1, h2⟩
                · exact ⟨h1, h2⟩
                · rw [List.mem_singleton] at h1; subst h1; exact this
            · rw [if_neg hxl, List.mem_cons, HM.out]
              constructor
              · rintro (rfl | ⟨h1, h2⟩)
                · exact ⟨.inr (by simp), HX.out⟩
                · exact ⟨.inl h1, h2⟩
              · rintro ⟨h1 | h1, h2⟩
                · exact .inr ⟨h1, h2⟩
                · exact .inl (by simpa using h1)
          · rw [hp2.length_eq]; split <;> (try simp only [List.length_cons]) <;> omega)
        have HS2 := Lib.hid hs2
        have HO2 := Lib.hid (hst2.own HO.out hsz)
        have HB2 := Lib.hid (hst2.below HO.out (Nat.le_refl _) hsz HB.out)
        clear hs2 hp2 hst2
        go_wp2_with (fail)
        go_roundw
        case rel => exact ⟨k + 1, v2, l2, by go_num, by omega, HS2.out, HR.out.1, HR.out.2, HO2.out, HB2.out⟩
        case measure => simp [intOf]; omega
    · have hk2 : k = xs.length := by omega
      subst hk2
      clear hB
      go_wp2_with (fail)
      go_ret
      exact ⟨v, l, rfl, HS.out, fun x => by rw [HM.out, List.take_length], hlk, HO.out, HB.out⟩
end Go.Proofs.Ytdekjfbaoaobeaa
