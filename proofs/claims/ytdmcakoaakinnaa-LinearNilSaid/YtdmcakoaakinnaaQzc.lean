/-
  LinearNil, PLAIN: what is answered of its histories.
-/
import Derived.Test.YtdmcakoaakinnaaQzb
namespace Go.Proofs.Ytdmcakoaakinnaa
open Go.RowKit
set_option linter.unusedVariables false
set_option linter.unusedSimpArgs false

theorem yesNil : YesH [] := by
  refine ⟨⟨by simp, by simp, by simp, fun p hp => absurd hp List.not_mem_nil, fun e he => absurd he List.not_mem_nil, fun e he => absurd he List.not_mem_nil, fun e he => absurd he List.not_mem_nil, fun e he => absurd he List.not_mem_nil⟩, fun a ha => ?_, fun b k er hp => exp_yes (by kernel_rfl) (fun a ha => ?_) (by kernel_rfl) hp⟩
  · rcases ha with ⟨p, hp, _⟩ | ⟨e, he, _⟩
    · cases hp
    · cases he
  · rcases ha with ⟨p, hp, _⟩ | ⟨e, he, _⟩
    · cases hp
    · cases he
/-- two pairs of one key -/
def twice : List Pr := [⟨1, ⟨#[]⟩⟩, ⟨1, ⟨#[]⟩⟩]
theorem histTwice : HistB twice [] := by
  refine ⟨by simp [twice], by simp, by simp [twice], fun p hp => ?_, fun e he => absurd he List.not_mem_nil, fun e he => absurd he List.not_mem_nil, fun e he => absurd he List.not_mem_nil, fun e he => absurd he List.not_mem_nil⟩
  simp only [twice, List.mem_cons, List.not_mem_nil, or_false] at hp
  rcases hp with rfl | rfl <;> exact ⟨by decide, by decide⟩
theorem keyBTwice (a : Int) : ∃ U, KeyB a twice [] U := ⟨_, KeyB.small (fun e he => absurd he List.not_mem_nil) (by simp) (fun p hp => by
  simp only [twice, List.mem_cons, List.not_mem_nil, or_false] at hp
  rcases hp with rfl | rfl <;> (show (0 : Nat) ≤ _; omega)) (fun e he => absurd he List.not_mem_nil)⟩
theorem ansTwice {b : Bool} {k er : Int} (h : ExP twice [] b k er) : b = false ∧ k = 0 ∧ er = 2 := exp_may (by kernel_rfl) h
/-- a call that ends where it begins -/
theorem ansOdd (ca : Option Addr) (cc : Nat) {b : Bool} {k er : Int} (h : ExP [] [eN ca cc [putD sx 1 1]] b k er) : b = false ∧ k = 0 ∧ er = 2 := exp_may (by kernel_rfl) h
theorem histOdd (ca : Option Addr) (cc : Nat) : HistB [] [eN ca cc [putD sx 1 1]] := hist_puts ca cc (by simp) fun d hd => by obtain rfl := List.mem_singleton.1 hd; exact put_facts 1 1
theorem keyBOdd (ca : Option Addr) (cc : Nat) (a : Int) : ∃ U, KeyB a [] [eN ca cc [putD sx 1 1]] U := ⟨_, KeyB.small (fun e he => by obtain rfl := List.mem_singleton.1 he; simp [eN]) (by simp) (fun p hp => absurd hp List.not_mem_nil) (histOdd ca cc).v⟩
/-- 61 puts -/
theorem name5 (ca : Option Addr) (cc : Nat) {l : List Dn} {d : Dn} (hd : d ∈ l) (h1 : d.op = 1) (h2 : d.key = 5) : named [] [eN ca cc l] 5 := .inr ⟨_, List.mem_singleton.2 rfl, .inr ⟨d, hd, .inl ⟨.inl h1, h2⟩⟩⟩
theorem lP_first (n : Nat) : putD sx 0 1 ∈ lP (n + 1) := List.mem_map.2 ⟨0, List.mem_range.2 (by omega), rfl⟩
theorem lM_first (n : Nat) : putD sx 0 12 ∈ lM (n + 1) := List.mem_map.2 ⟨0, List.mem_range.2 (by omega), rfl⟩
theorem may_puts (ca : Option Addr) (cc : Nat) {l : List Dn} (h : (l.any oddP) = false) : mayP [] [eN ca cc l] = true := by
  unfold mayP
  simp only [List.all_cons, List.all_nil, Bool.and_true]
  rw [show (eN ca cc l).cs = l from rfl, h]
  rfl
theorem may61 (ca : Option Addr) (cc : Nat) : mayP [] [eN ca cc (lP 61)] = true := may_puts ca cc (by kernel_rfl)
theorem may60 (ca : Option Addr) (cc : Nat) : mayP [] [eN ca cc (lP 60)] = true := may_puts ca cc (by kernel_rfl)
theorem may13 (ca : Option Addr) (cc : Nat) : mayP [] [eN ca cc (lM 13)] = true := may_puts ca cc (by kernel_rfl)
theorem may12 (ca : Option Addr) (cc : Nat) : mayP [] [eN ca cc (lM 12)] = true := may_puts ca cc (by kernel_rfl)
theorem keyE_one {key : Int} {ca : Option Addr} {cc : Nat} {l : List Dn} (hm : mayP [] [eN ca cc l] = true) : keyE key [] [eN ca cc l] = if longP key (eN ca cc l) = true then 10 else 0 := by
  unfold keyE
  rw [if_neg (by rw [hm]; simp)]
  simp only [List.any_cons, List.any_nil, Bool.or_false]
theorem keyE61 (ca : Option Addr) (cc : Nat) : keyE 5 [] [eN ca cc (lP 61)] = 10 := by
  rw [keyE_one (may61 ca cc), if_pos]
  unfold longP
  rw [show (eN ca cc (lP 61)).cs = lP 61 from rfl, lP_of, lP_len]
  rfl
theorem ans61 (ca : Option Addr) (cc : Nat) {b : Bool} {k er : Int} (h : ExP [] [eN ca cc (lP 61)] b k er) : b = false ∧ k = 0 ∧ er = 10 :=
  exp_long (may61 ca cc) (name5 ca cc (lP_first 60) rfl rfl) (fun a ha => lP_named ha) (keyE61 ca cc) h
theorem keyB61 (ca : Option Addr) (cc : Nat) (a : Int) (ha : named [] [eN ca cc (lP 61)] a) : ∃ U, KeyB a [] [eN ca cc (lP 61)] U := by
  rw [lP_named ha]
  exact ⟨_, keyB_long 5 ca cc _ (by rw [lP_of, lP_len]; omega)⟩
/-- .. of another key -/
theorem of6 (n : Nat) : ofP 6 (lP n) = [] := by
  unfold ofP
  rw [List.filterMap_eq_nil_iff]
  intro d hd
  obtain ⟨f, t, rfl⟩ := lP_mem hd
  have h1 : tellsP (putD sx f t) 6 = false := by simp [tellsP, wholeP, putD]
  have h2 : ownP (putD sx f t) 6 = false := by simp [ownP, putD]
  rw [h1, h2]
  rfl
theorem keyE6 (ca : Option Addr) (cc : Nat) : keyE 6 [] [eN ca cc (lP 61)] = 0 := by
  rw [keyE_one (may61 ca cc), if_neg]
  unfold longP
  rw [show (eN ca cc (lP 61)).cs = lP 61 from rfl, of6]
  simp [crowdP]
theorem keyT6 (ca : Option Addr) (cc : Nat) : KeyT 6 [] [eN ca cc (lP 61)] :=
  ⟨s0, s0, rfl, by rw [show (eN ca cc (lP 61)).cs = lP 61 from rfl, of6]; exact ⟨s0, .refl _, fun i hi => absurd hi (Nat.not_lt_zero _), rfl⟩, fun h => by cases h⟩
theorem keyB6 (ca : Option Addr) (cc : Nat) : ∃ U, KeyB 6 [] [eN ca cc (lP 61)] U :=
  ⟨_, KeyB.of (fun e he => by obtain rfl := List.mem_singleton.1 he; rw [show (eN ca cc (lP 61)).cs = lP 61 from rfl, of6]; simp) (by simp [valsK, eN, of6]) (fun p hp => absurd hp List.not_mem_nil) (lP_hist ca cc 61 (by omega)).v⟩
/-- 13 at once -/
theorem keyE13 (ca : Option Addr) (cc : Nat) : keyE 5 [] [eN ca cc (lM 13)] = 10 := by
  rw [keyE_one (may13 ca cc), if_pos]
  unfold longP
  rw [show (eN ca cc (lM 13)).cs = lM 13 from rfl, lM_of, lM_len]
  rw [show crowdP (lM 13) = true from by kernel_rfl]
  rfl
theorem keyBM (ca : Option Addr) (cc n : Nat) (hn : n ≤ 30) (a : Int) : ∃ U, KeyB a [] [eN ca cc (lM n)] U :=
  ⟨_, KeyB.small (fun e he => by obtain rfl := List.mem_singleton.1 he; rw [show (eN ca cc (lM n)).cs = lM n from rfl, lM_len]; exact hn) (by simp) (fun p hp => absurd hp List.not_mem_nil) (lM_hist ca cc n (by omega)).v⟩
theorem any_torn {ca : Option Addr} {cc : Nat} {l : List Dn} (h : ∀ d ∈ l, d.op = 1) : (([eN ca cc l].any fun e => e.cs.any tornP)) = false := by
  simp only [List.any_cons, List.any_nil, Bool.or_false]
  rw [List.any_eq_false]
  intro d hd
  simp [tornP, h d hd]
theorem yes60 (ca : Option Addr) (cc : Nat) : YesH [eN ca cc (lP 60)] := by
  have hk : keyE 5 [] [eN ca cc (lP 60)] = 0 := by
    rw [keyE_one (may60 ca cc), if_neg]
    unfold longP
    rw [show (eN ca cc (lP 60)).cs = lP 60 from rfl, lP_of, lP_len, show crowdP (lP 60) = false from by kernel_rfl]
    simp
  refine ⟨lP_hist ca cc 60 (by omega), fun a ha => ?_, fun b k er hp => exp_yes (may60 ca cc) (fun a ha => ?_) (any_torn fun d hd => by obtain ⟨f, t, rfl⟩ := lP_mem hd; rfl) hp⟩
  · rw [lP_named ha]
    exact ⟨_, keyB_seq 5 ca cc (lP_puts 60) (lP_seq 60) (by rw [lP_len]; omega) (lP_of 60) (by show (1 : Nat) ≤ _; unfold maxLen; omega)⟩
  · rw [lP_named ha]
    exact ⟨hk, keyT_puts 5 ca cc (lP_puts 60) (lP_of 60)⟩
theorem yes12 (ca : Option Addr) (cc : Nat) : YesH [eN ca cc (lM 12)] := by
  have hk : keyE 5 [] [eN ca cc (lM 12)] = 0 := by
    rw [keyE_one (may12 ca cc), if_neg]
    unfold longP
    rw [show (eN ca cc (lM 12)).cs = lM 12 from rfl, lM_of, lM_len, show crowdP (lM 12) = false from by kernel_rfl]
    simp
  refine ⟨lM_hist ca cc 12 (by omega), fun a ha => keyBM ca cc 12 (by omega) a, fun b k er hp => exp_yes (may12 ca cc) (fun a ha => ?_) (any_torn fun d hd => by obtain ⟨f, t, rfl⟩ := lM_mem hd; rfl) hp⟩
  rw [lM_named ha]
  exact ⟨hk, keyT_puts 5 ca cc (lM_puts 12 (by omega)) (lM_of 12)⟩
/-- a scan that tells what it may not -/
def scD (pa : Option Addr) (pc : Nat) : Dn := ⟨0, 4, 0, 9, 1, ⟨#[]⟩, 0, 1, 0, ⟨#[]⟩, pa, pc, [⟨10, ⟨#[]⟩⟩]⟩
theorem namedSc (ca : Option Addr) (cc : Nat) (pa : Option Addr) (pc : Nat) (a : Int) : ¬ named [] [eN ca cc [scD pa pc]] a := fun h => by
  have h := (named_iff _ _ _).1 h
  rw [show namesL [] [eN ca cc [scD pa pc]] = [] from by kernel_rfl] at h
  cases h
theorem ansSc (ca : Option Addr) (cc : Nat) (pa : Option Addr) (pc : Nat) {b : Bool} {k er : Int} (h : ExP [] [eN ca cc [scD pa pc]] b k er) : b = false ∧ k = 0 ∧ er = 0 :=
  exp_torn (by kernel_rfl) (namedSc ca cc pa pc) (by kernel_rfl) h
theorem histSc (ca : Option Addr) (cc : Nat) (pa : Option Addr) (pc : Nat) : HistB [] [eN ca cc [scD pa pc]] := by
  have hm : ∀ e ∈ [eN ca cc [scD pa pc]], e = eN ca cc [scD pa pc] := fun e he => List.mem_singleton.1 he
  have hd1 : ∀ d ∈ [scD pa pc], d = scD pa pc := fun d hd => List.mem_singleton.1 hd
  refine ⟨by simp, by simp, by simp [nmE, eN, scD], fun p hp => absurd hp List.not_mem_nil, fun e he => ?_, fun e he => ?_, fun e he => ?_, fun e he d hd => ?_⟩
  · rw [hm e he]
    refine ⟨(fun p hp => by cases hp), fun d hd => ?_⟩
    rw [hd1 d hd]
    exact ⟨⟨by show (0 : Int) ≤ 0; omega, by show (0 : Int) ≤ _; omega⟩, fun p hp => by obtain rfl := List.mem_singleton.1 hp; exact ⟨by decide, by decide⟩⟩
  · rw [hm e he]
    exact ⟨by simp [eN], by simp [eN], fun d hd => by rw [hd1 d hd]; simp [DnL, scD]⟩
  · rw [hm e he]; simp [eN]
  · rw [hm e he] at hd
    rw [hd1 d hd]
    show (0 : Nat) ≤ _; omega
end Go.Proofs.Ytdmcakoaakinnaa
