/-
  leveelaw28.known: contract.
-/
import Derived.Test.YtdmcakoaakinnaaQt
namespace Go.Proofs.Ytdmcakoaakinnaa
open Go.RowKit
attribute [local go_sem] Oper.semAt_some
set_option linter.unusedVariables false
set_option linter.unusedSimpArgs false

theorem KeyB.small {key : Int} {first : List Pr} {l : List Er} (hc : ∀ e ∈ l, e.cs.length ≤ 30) (hl : l.length ≤ 10) (hf : ∀ p ∈ first, p.val.size ≤ maxLen) (hv : ∀ e ∈ l, ∀ d ∈ e.cs, DnV d) : KeyB key first l (stsV (valsK key first l) 0) := by
  refine KeyB.of (fun e he => Nat.le_trans (ofP_len _ _) (hc e he)) ?_ hf hv
  have gen : ∀ r : List Er, (∀ e ∈ r, e.cs.length ≤ 30) → (r.flatMap fun e => (ofP key e.cs).map (·.val)).length ≤ r.length * 30 := by
    intro r
    induction r with
    | nil => intro _; simp
    | cons x r ih =>
      intro h
      rw [List.flatMap_cons, List.length_append, List.length_map, List.length_cons]
      have h1 := ofP_len key x.cs
      have h2 := h x List.mem_cons_self
      have h3 := ih (fun e he => h e (List.mem_cons_of_mem _ he))
      omega
  have := gen l hc
  show (_ :: _ :: _).length ≤ _
  rw [List.length_cons, List.length_cons]
  omega
def sa : ByteArray := ⟨#[97]⟩
def lA : List Dn := [putD sa 0 9, getD5 sa 3 5 0, getD5 ⟨#[]⟩ 1 2 5]
def lB : List Dn := [putD sa 0 4, getD5 ⟨#[]⟩ 5 6 5]
def lC : List Dn := [putD sa 0 (-1)]
def eA (b : Nat) : Er := ⟨some ⟨b, 0, none⟩, 3, lA, none, 0, [], false⟩
def eB (b : Nat) : Er := ⟨some ⟨b, 0, none⟩, 2, lB, none, 0, [], false⟩
def eC (b : Nat) : Er := ⟨some ⟨b, 0, none⟩, 1, lC, none, 0, [], true⟩
def eD (b c : Nat) : Er := ⟨some ⟨b, 0, none⟩, 1, lC, some ⟨c, 0, none⟩, 1, [⟨5, sa⟩], true⟩
theorem hist_of {l : List Er} (h1 : l.length ≤ 10) (h2 : ∀ e ∈ l, e.cs.length ≤ 30 ∧ e.af.length ≤ 30 ∧ (∀ d ∈ e.cs, d.ps = [] ∧ U64P d.key ∧ d.val.size ≤ 1000) ∧ ∀ p ∈ e.af, U64P p.key) : HistB [] l := by
  have hsum : (l.map nmE).sum ≤ l.length * 60 := by
    have gen : ∀ r : List Er, (∀ e ∈ r, e ∈ l) → (r.map nmE).sum ≤ r.length * 60 := by
      intro r
      induction r with
      | nil => intro _; simp
      | cons x r ih =>
        intro h
        have h3 := ih (fun e he => h e (List.mem_cons_of_mem _ he))
        obtain ⟨k1, k2, k3, _⟩ := h2 x (h x List.mem_cons_self)
        have k4 : (x.cs.map (fun d => d.ps.length + 1)).sum ≤ x.cs.length := by
          have gen2 : ∀ cs : List Dn, (∀ d ∈ cs, d.ps = []) → (cs.map (fun d => d.ps.length + 1)).sum ≤ cs.length := by
            intro cs
            induction cs with
            | nil => intro _; simp
            | cons y q ih2 =>
              intro hq
              have := ih2 (fun d hd => hq d (List.mem_cons_of_mem _ hd))
              rw [List.map_cons, List.sum_cons, hq y List.mem_cons_self, List.length_cons]
              simp only [List.length_nil]
              omega
          exact gen2 x.cs (fun d hd => (k3 d hd).1)
        rw [List.map_cons, List.sum_cons, List.length_cons]
        unfold nmE at h3 ⊢
        omega
    exact gen l (fun e he => he)
  refine ⟨by simp, by omega, by simp; omega, fun p hp => absurd hp List.not_mem_nil, fun e he => ⟨(h2 e he).2.2.2, fun d hd => ⟨((h2 e he).2.2.1 d hd).2.1, fun p hp => ?_⟩⟩, fun e he => ⟨?_, ?_, fun d hd => ?_⟩, fun e he => ?_, fun e he d hd => ?_⟩
  · rw [((h2 e he).2.2.1 d hd).1] at hp; cases hp
  · have := (h2 e he).1; omega
  · have := (h2 e he).2.1; omega
  · unfold DnL; rw [((h2 e he).2.2.1 d hd).1]; simp
  · have := (h2 e he).1; omega
  · have := ((h2 e he).2.2.1 d hd).2.2
    unfold DnV maxLen
    omega
theorem yes_of {l : List Er} (h1 : l.length ≤ 10) (h2 : ∀ e ∈ l, e.cs.length ≤ 30 ∧ e.af.length ≤ 30 ∧ (∀ d ∈ e.cs, d.ps = [] ∧ U64P d.key ∧ d.val.size ≤ 1000) ∧ ∀ p ∈ e.af, U64P p.key)
    (hm : mayP [] l = true) (hn : (namesL [] l).all (fun a => decide (a = 5)) = true) (he : keyE 5 [] l = 0) (ht : (nowL 5 l [startS (valueP [] 5)]).isEmpty = false) (hq : (l.any fun e => e.cs.any tornP) = false) : YesH l := by
  have hH := hist_of h1 h2
  refine ⟨hH, fun a _ => ⟨_, KeyB.small (fun e he => (h2 e he).1) h1 (fun p hp => absurd hp List.not_mem_nil) hH.v⟩, fun b k er hp => exp_yes hm (fun a ha => ?_) hq hp⟩
  rw [named_iff] at ha
  have := of_decide_eq_true (List.all_eq_true.1 hn a ha)
  subst this
  exact ⟨he, (keyT_iff _ _ _).2 (fun e => by rw [e] at ht; simp at ht)⟩
theorem u5 : U64P 5 := ⟨by decide, by decide⟩
theorem yesA (b : Nat) : YesH [eA b] := by
  refine yes_of (by simp) (fun e he => ?_) (by kernel_rfl) (by kernel_rfl) (by kernel_rfl) (by kernel_rfl) (by kernel_rfl)
  obtain rfl := List.mem_singleton.1 he
  refine ⟨by simp [eA, lA], by simp [eA], fun d hd => ?_, fun p hp => by cases hp⟩
  simp only [eA, lA, List.mem_cons, List.not_mem_nil, or_false] at hd
  rcases hd with rfl | rfl | rfl <;> exact ⟨rfl, u5, by decide⟩
theorem yesC (b : Nat) : YesH [eC b] := by
  refine yes_of (by simp) (fun e he => ?_) (by kernel_rfl) (by kernel_rfl) (by kernel_rfl) (by kernel_rfl) (by kernel_rfl)
  obtain rfl := List.mem_singleton.1 he
  refine ⟨by simp [eC, lC], by simp [eC], fun d hd => ?_, fun p hp => by cases hp⟩
  simp only [eC, lC, List.mem_cons, List.not_mem_nil, or_false] at hd
  rcases hd with rfl
  exact ⟨rfl, u5, by decide⟩
theorem yesD (b c : Nat) : YesH [eD b c] := by
  refine yes_of (by simp) (fun e he => ?_) (by kernel_rfl) (by kernel_rfl) (by kernel_rfl) (by kernel_rfl) (by kernel_rfl)
  obtain rfl := List.mem_singleton.1 he
  refine ⟨by simp [eD, lC], by simp [eD], fun d hd => ?_, fun p hp => ?_⟩
  · simp only [eD, lC, List.mem_cons, List.not_mem_nil, or_false] at hd
    rcases hd with rfl
    exact ⟨rfl, u5, by decide⟩
  · simp only [eD, List.mem_cons, List.not_mem_nil, or_false] at hp
    rcases hp with rfl
    exact u5
theorem histB (b : Nat) : HistB [] [eB b] := by
  refine hist_of (by simp) (fun e he => ?_)
  obtain rfl := List.mem_singleton.1 he
  refine ⟨by simp [eB, lB], by simp [eB], fun d hd => ?_, fun p hp => by cases hp⟩
  simp only [eB, lB, List.mem_cons, List.not_mem_nil, or_false] at hd
  rcases hd with rfl | rfl <;> exact ⟨rfl, u5, by decide⟩
theorem noB (b : Nat) {x : Bool} {k er : Int} (h : ExP [] [eB b] x k er) : x = false ∧ k = 5 ∧ er = 0 := by
  have hn : (namesL [] [eB b]).all (fun a => decide (a = 5)) = true := by kernel_rfl
  have h5 : ∀ a, named [] [eB b] a → a = 5 := fun a ha => of_decide_eq_true (List.all_eq_true.1 hn a ((named_iff _ _ _).1 ha))
  refine exp_no (a := 5) (by kernel_rfl) ((named_iff _ _ _).2 (by show (5 : Int) ∈ [5, 5]; decide)) (fun a ha => by rw [h5 a ha]; kernel_rfl) (fun hk => ?_) (fun a ha hne => absurd (h5 a ha) hne) h
  have := (keyT_iff _ _ _).1 hk
  exact this (List.isEmpty_iff.1 (by kernel_rfl))
end Go.Proofs.Ytdmcakoaakinnaa
