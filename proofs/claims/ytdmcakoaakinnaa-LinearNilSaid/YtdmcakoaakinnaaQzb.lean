/-
  LinearNil, PLAIN: its histories.
-/
import Derived.Test.YtdmcakoaakinnaaQza
namespace Go.Proofs.Ytdmcakoaakinnaa
open Go.RowKit
set_option linter.unusedVariables false
set_option linter.unusedSimpArgs false

def sx : ByteArray := ⟨#[120]⟩
def lP (n : Nat) : List Dn := (List.range n).map fun i : Nat => putD sx (2 * (i : Int)) (2 * (i : Int) + 1)
def lM (n : Nat) : List Dn := (List.range n).map fun i : Nat => putD sx i (12 + (i : Int))
theorem lP_len (n : Nat) : (lP n).length = n := by simp [lP]
theorem lM_len (n : Nat) : (lM n).length = n := by simp [lM]
theorem lP_get {n i : Nat} (h : i < n) : (lP n).getD i dnZ = putD sx (2 * (i : Int)) (2 * (i : Int) + 1) := by
  rw [getD_eq _ _ _ (by rw [lP_len]; exact h)]; simp [lP]
theorem lM_get {n i : Nat} (h : i < n) : (lM n).getD i dnZ = putD sx i (12 + (i : Int)) := by
  rw [getD_eq _ _ _ (by rw [lM_len]; exact h)]; simp [lM]
theorem lP_succ (n : Nat) : lP (n + 1) = lP n ++ [putD sx (2 * (n : Int)) (2 * (n : Int) + 1)] := by simp [lP, List.range_succ]
theorem lM_succ (n : Nat) : lM (n + 1) = lM n ++ [putD sx n (12 + (n : Int))] := by simp [lM, List.range_succ]
theorem lP_take {n m : Nat} (h : m ≤ n) : (lP n).take m = lP m := by
  unfold lP; rw [← List.map_take, List.take_range, Nat.min_eq_left h]
theorem lM_take {n m : Nat} (h : m ≤ n) : (lM n).take m = lM m := by
  unfold lM; rw [← List.map_take, List.take_range, Nat.min_eq_left h]
theorem lP_puts (n : Nat) : PutsP (lP n) sx := by
  refine ⟨fun i hi => ?_, fun i hi => ?_, fun i hi => ?_, fun i k hik hk => ?_⟩
  · rw [lP_len] at hi; rw [lP_get hi]; rfl
  · rw [lP_len] at hi; rw [lP_get hi]; rfl
  · rw [lP_len] at hi; rw [lP_get hi]; rfl
  · rw [lP_len] at hk; rw [lP_get hk, lP_get (by omega)]
    have : ¬ 2 * (k : Int) + 1 < 2 * (i : Int) := by omega
    simp [aheadP, putD, this]
theorem lM_puts (n : Nat) (hn : n ≤ 12) : PutsP (lM n) sx := by
  refine ⟨fun i hi => ?_, fun i hi => ?_, fun i hi => ?_, fun i k hik hk => ?_⟩
  · rw [lM_len] at hi; rw [lM_get hi]; rfl
  · rw [lM_len] at hi; rw [lM_get hi]; rfl
  · rw [lM_len] at hi; rw [lM_get hi]; rfl
  · rw [lM_len] at hk; rw [lM_get hk, lM_get (by omega)]
    have : ¬ 12 + (k : Int) < (i : Int) := by omega
    simp [aheadP, putD, this]
theorem lP_seq (n : Nat) : ∀ i k, k < i → i < (lP n).length → aheadP ((lP n).getD k dnZ) ((lP n).getD i dnZ) = true := by
  intro i k h hi
  rw [lP_len] at hi
  rw [lP_get hi, lP_get (by omega)]
  have h1 : (2 * (k : Int) + 1 < 2 * (i : Int)) := by omega
  have h2 : (0 ≤ 2 * (k : Int) + 1) := by omega
  simp [aheadP, putD, h1, h2]
theorem puts_of {l : List Dn} (h : ∀ d ∈ l, d.op = 1 ∧ d.key = 5 ∧ d.code = 0) : ofP 5 l = l := by
  unfold ofP
  induction l with
  | nil => rfl
  | cons x r ih =>
    obtain ⟨h1, h2, h3⟩ := h x List.mem_cons_self
    have ht : tellsP x 5 = false := by simp [tellsP, wholeP, h1]
    have ho : ownP x 5 = true := by simp [ownP, h1, h2, h3]
    rw [List.filterMap_cons, ht, ho, ih (fun d hd => h d (List.mem_cons_of_mem _ hd))]
    rfl
theorem lP_mem {n : Nat} {d : Dn} (h : d ∈ lP n) : ∃ f t, d = putD sx f t := by
  obtain ⟨i, _, rfl⟩ := List.mem_map.1 h; exact ⟨_, _, rfl⟩
theorem lM_mem {n : Nat} {d : Dn} (h : d ∈ lM n) : ∃ f t, d = putD sx f t := by
  obtain ⟨i, _, rfl⟩ := List.mem_map.1 h; exact ⟨_, _, rfl⟩
theorem lP_of (n : Nat) : ofP 5 (lP n) = lP n := puts_of fun d hd => by obtain ⟨f, t, rfl⟩ := lP_mem hd; exact ⟨rfl, rfl, rfl⟩
theorem lM_of (n : Nat) : ofP 5 (lM n) = lM n := puts_of fun d hd => by obtain ⟨f, t, rfl⟩ := lM_mem hd; exact ⟨rfl, rfl, rfl⟩
/-- a history of one era of such calls may be walked -/
theorem hist_puts (ca : Option Addr) (cc : Nat) {l : List Dn} (hl : l.length ≤ 1000) (h : ∀ d ∈ l, d.ps = [] ∧ U64P d.key ∧ d.val.size ≤ 1000) : HistB [] [eN ca cc l] := by
  have h1 : nmE (eN ca cc l) ≤ 1000 := by
    have gen : ∀ cs : List Dn, (∀ d ∈ cs, d.ps = []) → (cs.map (fun d => d.ps.length + 1)).sum ≤ cs.length := by
      intro cs
      induction cs with
      | nil => intro _; simp
      | cons y q ih2 =>
        intro hq
        have := ih2 (fun d hd => hq d (List.mem_cons_of_mem _ hd))
        rw [List.map_cons, List.sum_cons, hq y List.mem_cons_self, List.length_cons]
        simp only [List.length_nil]
        omega
    have := gen l (fun d hd => (h d hd).1)
    unfold nmE
    show 0 + _ ≤ 1000
    rw [show (eN ca cc l).cs = l from rfl]
    omega
  have hm : ∀ e ∈ [eN ca cc l], e = eN ca cc l := fun e he => List.mem_singleton.1 he
  refine ⟨by simp, by simp, by simp; omega, fun p hp => absurd hp List.not_mem_nil, fun e he => ?_, fun e he => ?_, fun e he => ?_, fun e he d hd => ?_⟩
  · rw [hm e he]
    refine ⟨(fun p hp => by cases hp), fun d hd => ⟨(h d hd).2.1, fun p hp => ?_⟩⟩
    rw [(h d hd).1] at hp; cases hp
  · rw [hm e he]
    refine ⟨by show l.length ≤ _; omega, by show 0 ≤ _; omega, fun d hd => ?_⟩
    unfold DnL; rw [(h d hd).1]; simp
  · rw [hm e he]; show l.length ≤ _; omega
  · rw [hm e he] at hd
    have := (h d hd).2.2
    unfold DnV maxLen
    omega
theorem put_facts (f t : Int) : (putD sx f t).ps = [] ∧ U64P (putD sx f t).key ∧ (putD sx f t).val.size ≤ 1000 := ⟨rfl, u5, by show (1 : Nat) ≤ _; omega⟩
theorem lP_hist (ca : Option Addr) (cc n : Nat) (hn : n ≤ 1000) : HistB [] [eN ca cc (lP n)] := hist_puts ca cc (by rw [lP_len]; exact hn) fun d hd => by obtain ⟨f, t, rfl⟩ := lP_mem hd; exact put_facts f t
theorem lM_hist (ca : Option Addr) (cc n : Nat) (hn : n ≤ 1000) : HistB [] [eN ca cc (lM n)] := hist_puts ca cc (by rw [lM_len]; exact hn) fun d hd => by obtain ⟨f, t, rfl⟩ := lM_mem hd; exact put_facts f t
theorem named5 {ca : Option Addr} {cc : Nat} {l : List Dn} (hl : ∀ d ∈ l, d.op = 1 ∧ d.key = 5) {a : Int} (h : named [] [eN ca cc l] a) : a = 5 := by
  rcases h with ⟨p, hp, _⟩ | ⟨e, he, h⟩
  · cases hp
  · obtain rfl := List.mem_singleton.1 he
    rcases h with ⟨p, hp, _⟩ | ⟨d, hd, h⟩
    · cases hp
    · obtain ⟨h1, h2⟩ := hl d hd
      rcases h with ⟨_, h⟩ | ⟨h, _⟩
      · rw [← h, h2]
      · rw [h1] at h; cases h
theorem lP_named {ca : Option Addr} {cc n : Nat} {a : Int} (h : named [] [eN ca cc (lP n)] a) : a = 5 := named5 (fun d hd => by obtain ⟨f, t, rfl⟩ := lP_mem hd; exact ⟨rfl, rfl⟩) h
theorem lM_named {ca : Option Addr} {cc n : Nat} {a : Int} (h : named [] [eN ca cc (lM n)] a) : a = 5 := named5 (fun d hd => by obtain ⟨f, t, rfl⟩ := lM_mem hd; exact ⟨rfl, rfl⟩) h
end Go.Proofs.Ytdmcakoaakinnaa
