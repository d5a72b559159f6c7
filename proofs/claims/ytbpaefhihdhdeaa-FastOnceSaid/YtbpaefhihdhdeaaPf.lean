/-
  THE RUN OF ANY CHANGE THAT IS MADE. (Plain.)
-/
import Derived.Test.YtbpaefhihdhdeaaPe
namespace Go.Proofs.Ytbpaefhihdhdeaa
open Go.RowKit
set_option linter.unusedVariables false

/-- at which store a change's effect is -/
def effOf (kd : Int) (L : List (Int × Int)) : Option Nat := if kd = 0 then some (L.length - 2) else if kd = 2 ∨ kd = 5 then none else some 1
theorem mayE_full {base : Int} {n : Nd} (h : mayE base n = 0) : Full n n.valid ∧ Fine n n.valid := by
  obtain ⟨_, hm, hi⟩ := mayE_stands h
  exact ⟨rep_full hm hi, may_fine hm⟩
theorem insE_parts {base : Int} {n : Nd} {key ptr : Int} (h : insE base n key ptr = 0) : mayE base n = 0 ∧ freshB n ptr = true ∧ badKey n key = false ∧ n.len ≠ 8 := by
  unfold insE at h
  split at h
  · omega
  rename_i h1
  split at h
  · omega
  rename_i h2
  split at h
  · omega
  rename_i h3
  split at h
  · omega
  rename_i h4
  refine ⟨by omega, ?_, by simpa using h3, h4⟩
  cases hf : freshB n ptr
  · exact absurd (.inr hf) h1
  · rfl
theorem swapE_parts {base : Int} {n : Nd} {key p : Int} (h : swapE base n key p = 0) : mayE base n = 0 ∧ freshB n p = true ∧ 0 ≤ n.find key := by
  unfold swapE at h
  split at h
  · omega
  rename_i h1
  split at h
  · omega
  rename_i h2
  split at h
  · omega
  refine ⟨by omega, ?_, by omega⟩
  cases hf : freshB n p
  · exact absurd (.inr hf) h1
  · rfl
theorem traj_all {base : Int} {n : Nd} {kd key ptr : Int} (hk : kd = 0 ∨ kd = 1 ∨ kd = 2 ∨ kd = 3 ∨ kd = 4 ∨ kd = 5) (hc : madeC base n kd key ptr = 0) :
    Traj base n n.valid (behL kd key ptr n.valid) (madeL base n kd key ptr) (effOf kd (madeL base n kd key ptr)) := by
  rcases hk with rfl | rfl | rfl | rfl | rfl | rfl
  · have hE : insE base n key ptr = 0 := hc
    obtain ⟨hm, hfr, hb, h8⟩ := insE_parts hE
    obtain ⟨hF, hf⟩ := mayE_full hm
    obtain ⟨k1, k2, k3⟩ := badKey_no hb
    have k1 : ¬ 0 ≤ n.find key := of_decide_eq_false k1
    obtain ⟨at_, e, ha, h1, h2⟩ := last_split hF hf key
    have hl := hF.len hf
    have hlt : n.valid.length < 8 := by have := n.len_le; omega
    have hn : ∀ j, j < n.valid.length → eK n.valid j ≠ key := by
      rcases find_split hF hf key with ⟨_, h⟩ | ⟨i, hi, _⟩
      · exact h
      · exact absurd (by omega) k1
    have hL : madeL base n 0 key ptr = insL base n key ptr at_ := by
      show insP base n key ptr = _
      unfold insP
      rw [if_pos hE, e]
    have hB : behL 0 key ptr n.valid = insA n.valid at_ (key, ptr) := by
      unfold insA
      conv => lhs; rw [← List.take_append_drop at_ n.valid]
      refine behL_ins _ _ (fun a ha' => ?_) (fun b hb' => ?_)
      · obtain ⟨j, q1, q2, q3, _⟩ := take_mem ha'
        rw [← q3]; exact h1 j q1
      · obtain ⟨j, q1, q2, q3, _⟩ := drop_mem hb'
        rw [← q3]; exact h2 j q1 q2
    have hT := traj_ins (base := base) hF hf hlt (cOne n) (cTwo n) key ptr ha (fun j hj => by
      have := h1 j hj; have := hn j (by omega); omega) h2 ⟨by omega, fun hl0 => by have := k3 hl0; simpa using this⟩ hfr (if n.valid.length + 1 < 8 then [(base + 64 + 16 * ((n.valid.length + 1 : Nat) : Int) + 8, 0)] else []) rfl
    rw [hB, hL]
    unfold insL effOf
    rw [if_pos rfl, hl]
    have he : ([(base + 24, cOne n)] ++ (if n.valid.length + 1 < 8 then [(base + 64 + 16 * ((n.valid.length + 1 : Nat) : Int) + 8, 0)] else []) ++ shiftL base n n.valid.length (n.valid.length - at_) ++ [(base + 64 + 16 * (at_ : Int) + 8, n.ahead at_), (base + 64 + 16 * (at_ : Int), key), (base + 64 + 16 * (at_ : Int) + 8, ptr)] ++ [(base + 24, cTwo n)]).length - 2 = ([(base + 24, cOne n)] ++ (if n.valid.length + 1 < 8 then [(base + 64 + 16 * ((n.valid.length + 1 : Nat) : Int) + 8, 0)] else []) ++ shiftL base n n.valid.length (n.valid.length - at_)).length + 2 := by
      rw [List.length_append, List.length_append (bs := [_, _, _])]
      simp only [List.length_cons, List.length_nil]
      omega
    rw [he]
    exact hT
  · have hE : delE base n key = 0 := hc
    have hm : mayE base n = 0 := by
      unfold delE at hE
      split at hE
      · omega
      · omega
    obtain ⟨hF, hf⟩ := mayE_full hm
    have hl := hF.len hf
    have hfd : ¬ n.find key < 0 := by
      unfold delE at hE
      rw [if_neg (by omega)] at hE
      split at hE
      · omega
      · assumption
    rcases find_split hF hf key with ⟨h, _⟩ | ⟨i, hi, hil, hik⟩
    · exact absurd h hfd
    have hL : madeL base n 1 key ptr = [(base + 24, cOne n)] ++ [(base + 64 + 16 * (i : Int) + 8, n.ahead i)] ++ gapL base n i (n.len - 1 - i) ++ [(base + 64 + 16 * ((n.len - 1 : Nat) : Int) + 8, 0)] ++ [(base + 24, cTwo n)] := by
      show delP base n key = _
      unfold delP delL
      rw [if_pos hE, hi]
      rfl
    have hT := traj_del (base := base) hF hf (cOne n) (cTwo n) hil (q := n.len - 1) (by omega)
    rw [behL_del hf hil ptr hik, hL]
    exact hT
  · have hE : repE base n = 0 := hc
    have hm : mayE base n = 7 := by
      unfold repE at hE
      rcases mayE_val base n with h | h | h
      · rw [if_neg (by omega), if_pos h] at hE; omega
      · rw [if_pos h] at hE; omega
      · exact h.1
    obtain ⟨_, hmy, hiv⟩ : Stands base ∧ n.mayB 0 false = true ∧ 0 ≤ n.invalid := by
      rcases mayE_val base n with h | h | h
      · omega
      · omega
      · exact h.2
    obtain ⟨p, hp, hG⟩ := rep_gap hmy hiv
    have hf := may_fine hmy
    have hl := hG.len hf
    have hL : madeL base n 2 key ptr = [(base + 24, cOne n)] ++ gapL base n p (n.len - 1 - p) ++ [(base + 64 + 16 * ((n.len - 1 : Nat) : Int) + 8, 0)] ++ [(base + 24, cTwo n)] := by
      show repP base n = _
      unfold repP repL
      rw [if_pos hE, hp]
      rfl
    rw [behL_same (.inl rfl), hL]
    exact traj_rep (base := base) hG hf (cOne n) (cTwo n) (q := n.len - 1) (by omega)
  · have hE : swapE base n key ptr = 0 := hc
    obtain ⟨hm, hfr, hfd⟩ := swapE_parts hE
    obtain ⟨hF, hf⟩ := mayE_full hm
    rcases find_split hF hf key with ⟨h, _⟩ | ⟨i, hi, hil, hik⟩
    · omega
    have hL : madeL base n 3 key ptr = [(base + 24, cOne n), (base + 64 + 16 * (i : Int) + 8, ptr), (base + 24, cTwo n)] := by
      show swapP base n key ptr = _
      unfold swapP
      rw [if_pos hE, hi]
    rw [behL_swap hf hil hik, hL, ← hik]
    exact traj_swap hF hf (cOne n) (cTwo n) hil hfr
  · have hE : cutE base n key = 0 := hc
    have hm : mayE base n = 0 := by
      unfold cutE at hE
      split at hE
      · omega
      · omega
    obtain ⟨hF, hf⟩ := mayE_full hm
    have hl := hF.len hf
    have hfd : ¬ n.cutAt key < 0 := by
      unfold cutE at hE
      rw [if_neg (by omega)] at hE
      split at hE
      · omega
      · assumption
    rcases firstF_spec (fun j => decide (key ≤ n.k j)) n.len 0 with ⟨e, _⟩ | ⟨i, e, _, h2, h3, h4⟩
    · unfold Nd.cutAt at hfd; omega
    have hil : i < n.valid.length := by omega
    have hik : key ≤ eK n.valid i := by rw [← (hF.ent i hil).1]; exact of_decide_eq_true h3
    have hlow : ∀ j, j < i → eK n.valid j < key := fun j hj => by
      have : decide (key ≤ n.k j) = false := h4 j (Nat.zero_le _) hj
      rw [(hF.ent j (by omega)).1] at this
      have := of_decide_eq_false this
      omega
    have hL : madeL base n 4 key ptr = [(base + 24, cOne n), (base + 64 + 16 * (i : Int) + 8, 0), (base + 24, cTwo n)] := by
      show cutP base n key = _
      unfold cutP
      rw [if_pos hE, show n.cutAt key = (i : Int) from e]
    rw [behL_cut hf hil ptr hik hlow, hL]
    exact traj_cut hF hf (cOne n) (cTwo n) hil
  · have hm : mayE base n = 0 := hc
    obtain ⟨hF, hf⟩ := mayE_full hm
    have hL : madeL base n 5 key ptr = [(base + 24, cOne n), (base + 16, ptr), (base + 24, cTwo n)] := by
      show linkP base n ptr = _
      unfold linkP
      rw [if_pos hm]
    rw [behL_same (.inr rfl), hL]
    exact traj_link hF hf (cOne n) (cTwo n) ptr
theorem made_stands {base : Int} {n : Nd} {kd key ptr : Int} (hk : kd = 0 ∨ kd = 1 ∨ kd = 2 ∨ kd = 3 ∨ kd = 4 ∨ kd = 5) (hc : madeC base n kd key ptr = 0) : Stands base := by
  have of0 : mayE base n = 0 → Stands base := fun h => (mayE_stands h).1
  rcases hk with rfl | rfl | rfl | rfl | rfl | rfl
  · exact of0 (insE_parts (show insE base n key ptr = 0 from hc)).1
  · have hE : delE base n key = 0 := hc
    unfold delE at hE
    split at hE
    · omega
    · exact of0 (by omega)
  · have hE : repE base n = 0 := hc
    rcases mayE_val base n with h | h | h
    · exact of0 h
    · unfold repE at hE; rw [if_pos h] at hE; omega
    · exact h.2.1
  · exact of0 (swapE_parts (show swapE base n key ptr = 0 from hc)).1
  · have hE : cutE base n key = 0 := hc
    unfold cutE at hE
    split at hE
    · omega
    · exact of0 (by omega)
  · exact of0 hc
end Go.Proofs.Ytbpaefhihdhdeaa
