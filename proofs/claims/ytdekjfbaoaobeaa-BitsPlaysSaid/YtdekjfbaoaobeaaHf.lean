/-
  Free's place, Has, Len: contracts.
-/
import Derived.Test.YtdekjfbaoaobeaaHr
namespace Go.Proofs.Ytdekjfbaoaobeaa
open Go.RowKit

/-- where a stands in l -/
def PlaceR (l : List Int) (a : Int) (r : Int) : Prop := (r = -1 ∧ a ∉ l) ∨ ∃ i : Nat, r = i ∧ i < l.length ∧ l.getD i 0 = a
def PlaceP (l : List Int) (a : Int) (e : Ending) : Prop := ∃ r, e = .returned (.int .i64 r) ∧ PlaceR l a r

theorem eq_v (x a : Int) (B : Nat) (w : World) (hc : w.cell? ⟨B, 0, none⟩ = some (.int .u64 a)) : Calls Try.prog 48 #[.int .u64 x, .pointer (some ⟨B, 0, none⟩)] w fun e w' => e = .returned (.bool (x == a)) ∧ ∃ q, w' = w.drewN q := by
  go_enter Try.func48, Try.ntmps48
  go_wp2_with (fail)
  go_ret
  exact ⟨rfl, 0, rfl⟩

set_option maxRecDepth 100000 in
set_option maxHeartbeats 1000000 in
theorem index_v (b B : Nat) (v : Value) (l : List Int) (a : Int) (w : World) (h : HeapV w b v l) (hn : l.length ≤ 1000000) (hB : w.cell? ⟨B, 0, none⟩ = some (.int .u64 a)) :
    Calls Try.prog 47 #[v, .func (.func 48) #[] #[.pointer (some ⟨B, 0, none⟩)]] w fun e w' => PlaceP l a e ∧ ∃ q, w' = w.drewN q := by
  obtain ⟨a1, c1, rfl⟩ := h.slice
  have H := Lib.hid h
  clear h
  go_enter Try.func47, Try.ntmps47
  go_wp2_with (fail)
  go_loopw [8] (fun jv wr => ∃ k q : Nat, jv = .int .i64 k ∧ k ≤ l.length ∧ wr = w.drewN q ∧ ∀ j, j < k → l.getD j 0 ≠ a) (fun jv _ => l.length - (intOf jv).toNat)
  case atStart => exact ⟨0, 0, rfl, Nat.zero_le _, rfl, fun j hj => absurd hj (Nat.not_lt_zero _)⟩
  case round =>
    obtain ⟨k, q, rfl, hk, rfl, hno⟩ := hrel
    have HN := Lib.hid hno
    clear hno
    by_cases hlt : k < l.length
    · obtain ⟨g, cap, e, _, _, _, _, hc, _⟩ := (H.out.drewN q).pos (by omega)
      simp at e
      obtain ⟨rfl, rfl⟩ := e
      have c2 := hc k hlt
      obtain ⟨x, hx⟩ : ∃ x, l.getD k 0 = x := ⟨_, rfl⟩
      rw [hx] at c2
      have c3 : w.cell? ⟨g, k, none⟩ = some (.int .u64 x) := c2
      have HX := Lib.hid hx
      have b1 : (k : Int) < (l.length : Int) := by omega
      have b3 : ((k : Int)).toNat = k := by omega
      have HQ := Lib.hid (eq_v x a B (w.drewN q) hB)
      clear hc hx
      by_cases hxa : x = a
      · rw [show (x == a) = true by simpa using hxa] at HQ
        have HXA := Lib.hid hxa
        clear hxa
        go_wp2_with (go_at_call 48; refine HQ.out.mono ?_; rintro e w2 ⟨rfl, q2, rfl⟩)
        go_ret
        exact ⟨⟨k, rfl, .inr ⟨k, rfl, hlt, HX.out.trans HXA.out⟩⟩, _, rfl⟩
      · rw [show (x == a) = false by simpa using hxa] at HQ
        have HXA := Lib.hid hxa
        clear hxa
        go_wp2_with (go_at_call 48; refine HQ.out.mono ?_; rintro e w2 ⟨rfl, q2, rfl⟩)
        go_roundw
        case rel =>
          refine ⟨k + 1, _, by go_num, by omega, rfl, fun j hj => ?_⟩
          by_cases e : j = k
          · subst e; rw [HX.out]; exact HXA.out
          · exact HN.out j (by omega)
        case measure => simp [intOf]; omega
    · have hk2 : k = l.length := by omega
      subst hk2
      go_wp2_with (fail)
      go_ret
      refine ⟨⟨-1, rfl, .inl ⟨rfl, fun hm => ?_⟩⟩, q, rfl⟩
      obtain ⟨i, hi, e⟩ := List.getElem_of_mem hm
      exact HN.out i hi (by simp [hi, e])
end Go.Proofs.Ytdekjfbaoaobeaa
