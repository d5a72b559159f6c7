/-
  fast.Insert, whatever it is asked: a contract.
-/
import Derived.Test.YtbpaefhihdhdeaaFj
namespace Go.Proofs.Ytbpaefhihdhdeaa
open Go.RowKit

theorem insert_v (base : Int) (n : Nd) (key ptr : Int) (w : World) :
    Calls Try.prog 25 #[.int .u64 base, .agg (ndCells n), .int .u64 key, .int .u64 ptr] w fun e w' => MadeP (insP base n key ptr) (insE base n key ptr) w e w' := by
  have none_ : ∀ c, c ≠ 0 → insE base n key ptr = c → insP base n key ptr = [] := fun c hc h => by unfold insP; rw [h, if_neg hc]
  by_cases h2 : mayE base n = 2
  · have hE : insE base n key ptr = 2 := by unfold insE; rw [if_pos (.inl h2)]
    rw [none_ 2 (by decide) hE, hE]
    exact insert_arg base n key ptr w h2
  by_cases hf : freshB n ptr = false
  · have hE : insE base n key ptr = 2 := by unfold insE; rw [if_pos (.inr hf)]
    rw [none_ 2 (by decide) hE, hE]
    exact insert_old base n key ptr w h2 hf
  have hft : freshB n ptr = true := by simpa using hf
  have h2f : ¬ (mayE base n = 2 ∨ freshB n ptr = false) := fun h => h.elim h2 hf
  by_cases h0 : mayE base n = 0
  · by_cases hb : badKey n key = true
    · have hE : insE base n key ptr = 2 := by unfold insE; rw [if_neg h2f, if_neg (by omega), if_pos hb]
      rw [none_ 2 (by decide) hE, hE]
      unfold badKey at hb
      by_cases b1 : decide (0 ≤ n.find key) = true
      · exact insert_bad1 base n key ptr w h0 hft b1
      · have b1' : decide (0 ≤ n.find key) = false := by simpa using b1
        by_cases b2 : decide (key < n.lo) = true
        · exact insert_bad2 base n key ptr w h0 hft b1' b2
        · have b2' : decide (key < n.lo) = false := by simpa using b2
          rw [b1', b2', Bool.false_or, Bool.false_or, Bool.and_eq_true] at hb
          exact insert_bad3 base n key ptr w h0 hft b1' b2' hb.1 hb.2
    · have hbf : badKey n key = false := by simpa using hb
      by_cases h8 : n.len = 8
      · have hE : insE base n key ptr = 4 := by unfold insE; rw [if_neg h2f, if_neg (by omega), if_neg hb, if_pos h8]
        rw [none_ 4 (by decide) hE, hE]
        exact insert_full base n key ptr w h0 hft hbf h8
      · have hE : insE base n key ptr = 0 := by unfold insE; rw [if_neg h2f, if_neg (by omega), if_neg hb, if_neg h8]
        have hP : insP base n key ptr = insL base n key ptr (n.last key + 1).toNat := by unfold insP; rw [if_pos hE]
        rw [hP, hE]
        exact insert_ok base n key ptr w h0 hft hbf (by have := n.len_le; omega)
  · have hE : insE base n key ptr = mayE base n := by unfold insE; rw [if_neg h2f, if_pos h0]
    rw [none_ (mayE base n) h0 hE, hE]
    exact insert_state base n key ptr w h2 h0 hft
end Go.Proofs.Ytbpaefhihdhdeaa
