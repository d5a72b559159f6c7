/-
  The document's Rise, Value, Ahead (leveeref28): contracts.
-/
import Derived.Test.YtdmcakoaakinnaaQe
import Derived.Deep.QuietTactic
import Derived.BigQuiet
namespace Go.Proofs.Ytdmcakoaakinnaa
open Go.RowKit
attribute [local go_sem] Oper.semAt_some
set_option linter.unusedVariables false
set_option linter.unusedSimpArgs false

theorem riseP_pair (l : List Pr) : riseP l = true ↔ ∀ i, i < l.length → ∀ k, k < i → (l.getD k prZ).key < (l.getD i prZ).key := by
  rw [riseP_iff]
  constructor
  · intro h i
    induction i with
    | zero => intro _ k hk; omega
    | succ i ih =>
      intro hi k hk
      have h1 := h i hi
      by_cases e : k = i
      · subst e; exact h1
      · have := ih (by omega) k (by omega); omega
  · intro h i hi
    exact h (i + 1) hi i (by omega)
theorem below_drewNL {B : Nat} {w w1 : World} (h : Below B w w1) (n : Nat) : Below B w (w1.drewN n) := ⟨h.os, h.tape, h.output, h.size, h.block⟩
set_option maxRecDepth 100000 in
set_option maxHeartbeats 1600000 in
theorem rrise_v (l : List Pr) (a : Option Addr) (cap : Nat) (w : World) (hm : l.length ≤ 9223372036854775807) (hE : PrsAt w a l) :
    Calls Try.prog 47 #[.slice a l.length cap] w fun e w' => e = .returned (.bool (riseP l)) ∧ Below w.heap.size w w' := by
  have FIN := Lib.hid (fun (r : Bool) (hr : riseP l = r) => show Ending.returned (.bool r) = .returned (.bool (riseP l)) by rw [hr])
  have HE := Lib.hid hE
  clear hE
  go_enter Try.func47, Try.ntmps47
  go_wp2_with (fail)
  go_loopw [3] (fun iv wr => ∃ i : Nat, i ≤ l.length ∧ iv = .int .i64 i ∧ Hid (∀ x, x < i → ∀ k, k < x → (l.getD k prZ).key < (l.getD x prZ).key) ∧ Below w.heap.size w wr) (fun iv _ => l.length - (intOf iv).toNat)
  case atStart => exact ⟨0, Nat.zero_le _, rfl, Lib.hid (fun x h => absurd h (by omega)), Below.refl _ _⟩
  case round =>
    obtain ⟨i, hi, rfl, hR, hB⟩ := hrel
    have HB := Lib.hid hB
    by_cases hlt : i < l.length
    · have hib : (i : Int) < (l.length : Int) := by omega
      have HLt := Lib.hid hlt
      clear hB hlt hi
      obtain ⟨wo, rfl⟩ : ∃ wo : World, wo = wr := ⟨_, rfl⟩
      go_wp2_with (fail)
      go_loopw [4] (fun kv wz => ∃ k : Nat, k ≤ i ∧ kv = .int .i64 k ∧ Hid (∀ x, x < k → (l.getD x prZ).key < (l.getD i prZ).key) ∧ Below w.heap.size w wz) (fun kv _ => i - (intOf kv).toNat)
      case atStart => exact ⟨0, Nat.zero_le _, rfl, Lib.hid (fun x h => absurd h (by omega)), HB.out⟩
      case round =>
        obtain ⟨k, hk, rfl, hS, hB⟩ := hrel
        have HB2 := Lib.hid hB
        by_cases hlk : k < i
        · obtain ⟨g, o, rfl, hg, hc⟩ := (HE.out.below hB) (by have := HLt.out; omega)
          have c1 := hc k (by have := HLt.out; omega) 0 (by decide)
          have c2 := hc i HLt.out 0 (by decide)
          obtain ⟨p1, hp1⟩ : ∃ x, l.getD k prZ = x := ⟨_, rfl⟩
          obtain ⟨p2, hp2⟩ : ∃ x, l.getD i prZ = x := ⟨_, rfl⟩
          simp only [hp1] at c1
          simp only [hp2] at c2
          have d1 : wr.cell? ⟨g, o + k * 2, none⟩ = some (.int .u64 p1.key) := c1
          have d2 : wr.cell? ⟨g, o + i * 2, none⟩ = some (.int .u64 p2.key) := c2
          have HP := Lib.hid (And.intro hp1 hp2)
          have HLk := Lib.hid hlk
          have b1 : (k : Int) < (i : Int) := by omega
          have b2 : (k : Int) < (l.length : Int) := by omega
          clear hc c1 c2 hp1 hp2 hB hlk hk
          cases hle : decide (p2.key ≤ p1.key) with
          | true =>
            have HF := Lib.hid (FIN.out false (by
              refine Bool.eq_false_iff.2 (fun h => ?_)
              have := (riseP_pair l).1 h i HLt.out k HLk.out
              rw [HP.out.1, HP.out.2] at this
              have := of_decide_eq_true hle
              omega))
            go_wp2_with (fail)
            go_quiet (fail)
            go_wp2_with (fail)
            go_ret
            exact ⟨HF.out, below_drewNL HB2.out _⟩
          | false =>
            have HN := Lib.hid (show p1.key < p2.key from by have := of_decide_eq_false hle; omega)
            go_wp2_with (fail)
            go_quiet (fail)
            go_wp2_with (fail)
            go_roundw
            case rel => exact ⟨k + 1, HLk.out, by go_num, Lib.hid (fun x hx => by
              by_cases e : x = k
              · subst e; rw [HP.out.1, HP.out.2]; exact HN.out
              · exact hS.out x (by omega)), below_drewNL HB2.out _⟩
            case measure => have := HLk.out; simp [intOf]; omega
        · have b1 : ¬ (k : Int) < (i : Int) := by omega
          have HKi := Lib.hid (show k = i by omega)
          clear hlk hk hB
          go_wp2_with (fail)
          go_roundw
          case rel => exact ⟨i + 1, HLt.out, by go_num, Lib.hid (fun x hx => by
            by_cases e : x = i
            · subst e; intro y hy; exact hS.out y (by rw [HKi.out]; exact hy)
            · exact hR.out x (by omega)), HB2.out⟩
          case measure => have := HLt.out; simp [intOf]; omega
    · have HF := Lib.hid (FIN.out true ((riseP_pair l).2 (fun x hx => hR.out x (by omega))))
      have hib : ¬ ((i : Int) < (l.length : Int)) := by omega
      clear hB hlt hi
      go_wp2_with (fail)
      go_ret
      exact ⟨HF.out, HB.out⟩
theorem valueP_cons (p : Pr) (r : List Pr) (key : Int) : valueP (p :: r) key = if (p.key == key) = true then (p.val, true) else valueP r key := by
  unfold valueP
  rw [List.find?_cons]
  cases h : (p.key == key) <;> simp
theorem drop_getD (l : List Pr) (k : Nat) (h : k < l.length) : l.drop k = l.getD k prZ :: l.drop (k + 1) := by
  rw [getD_eq l k prZ h]; exact (List.getElem_cons_drop h).symm
set_option maxRecDepth 100000 in
theorem rvalue_v (l : List Pr) (key : Int) (a : Option Addr) (cap : Nat) (w : World) (hm : l.length ≤ 9223372036854775807) (hE : PrsAt w a l) :
    Calls Try.prog 28 #[.slice a l.length cap, .int .u64 key] w fun e w' => e = .returned (.tuple #[.string (valueP l key).1, .bool (valueP l key).2]) ∧ w = w' := by
  have HE := Lib.hid hE
  clear hE
  go_enter Try.func28, Try.ntmps28
  go_wp2_with (fail)
  go_loop [6] (fun iv => ∃ i : Nat, i ≤ l.length ∧ iv = .int .i64 i ∧ Hid (valueP l key = valueP (l.drop i) key)) (fun iv => l.length - (intOf iv).toNat)
  case atStart => exact ⟨0, Nat.zero_le _, rfl, Lib.hid rfl⟩
  case round =>
    obtain ⟨i, hi, rfl, hR⟩ := hrel
    by_cases hlt : i < l.length
    · have hib : (i : Int) < (l.length : Int) := by omega
      obtain ⟨g, o, rfl, hg, hc⟩ := HE.out (by omega)
      have c1 := hc i hlt 0 (by decide)
      have c2 := hc i hlt 1 (by decide)
      obtain ⟨p1, hp1⟩ : ∃ x, l.getD i prZ = x := ⟨_, rfl⟩
      simp only [hp1] at c1 c2
      have d1 : w.cell? ⟨g, o + i * 2, none⟩ = some (.int .u64 p1.key) := c1
      have d2 : w.cell? ⟨g, o + i * 2 + 1, none⟩ = some (.string p1.val) := c2
      have HS := Lib.hid (show valueP l key = if (p1.key == key) = true then (p1.val, true) else valueP (l.drop (i + 1)) key by
        rw [hR.out, drop_getD l i hlt, hp1, valueP_cons])
      have HLt := Lib.hid hlt
      clear hc c1 c2 hp1 hlt hi
      cases hk : (p1.key == key) with
      | true =>
        have HF := Lib.hid (show valueP l key = (p1.val, true) by rw [HS.out, hk]; rfl)
        go_wp2_with (fail)
        go_ret2
        exact ⟨by rw [HF.out]; rfl, rfl⟩
      | false =>
        have HF := Lib.hid (show valueP l key = valueP (l.drop (i + 1)) key by rw [HS.out, hk]; rfl)
        go_wp2_with (fail)
        go_round
        case rel => exact ⟨i + 1, HLt.out, by go_num, HF⟩
        case measure => have := HLt.out; simp [intOf]; omega
    · have hib : ¬ (i : Int) < (l.length : Int) := by omega
      have HF := Lib.hid (show valueP l key = (⟨#[]⟩, false) by rw [hR.out, List.drop_eq_nil_of_le (by omega)]; rfl)
      clear hlt hi
      go_wp2_with (fail)
      go_ret2
      exact ⟨by rw [HF.out]; rfl, rfl⟩
set_option maxRecDepth 100000 in
theorem rahead_v (a b : Dn) (w : World) : Calls Try.prog 49 #[.agg (dnCells a), .agg (dnCells b)] w fun e w' => e = .returned (.bool (aheadP a b)) ∧ Below w.heap.size w w' := by
  have FIN := Lib.hid (fun (r : Bool) (hr : aheadP a b = r) => show Ending.returned (.bool r) = .returned (.bool (aheadP a b)) by rw [hr])
  have HB := Lib.hid (((Below.refl w.heap.size w).alloc (Nat.le_refl _) (.cells (dnCells a) 53)).alloc (by simp) (.cells (dnCells b) 53))
  unfold dnCells at HB ⊢
  by_cases h1 : 0 ≤ a.en
  · by_cases h2 : a.en < b.bg
    · have HF := Lib.hid (FIN.out true (by unfold aheadP; simp [h1, h2]))
      go_enter Try.func49, Try.ntmps49
      go_wp2_with (fail)
      go_ret
      exact ⟨HF.out, HB.out⟩
    · have HF := Lib.hid (FIN.out false (by unfold aheadP; simp [h1, h2]))
      go_enter Try.func49, Try.ntmps49
      go_wp2_with (fail)
      go_ret
      exact ⟨HF.out, HB.out⟩
  · have HF := Lib.hid (FIN.out false (by unfold aheadP; simp [h1]))
    go_enter Try.func49, Try.ntmps49
    go_wp2_with (fail)
    go_ret
    exact ⟨HF.out, HB.out⟩
end Go.Proofs.Ytdmcakoaakinnaa
