/-
  leveelaw28.LinearSpoilt: the walk.
-/
import Derived.Test.YtdmcakoaakinnaaLsd
import Derived.Test.YtdmcakoaakinnaaQv
import Derived.Laws.IdiomStrings
namespace Go.Proofs.Ytdmcakoaakinnaa
open Go.RowKit
set_option linter.unusedVariables false
set_option linter.unusedSimpArgs false

/-! ### one step -/
theorem curP_no {L : List Pt} {a : Int} (h : (curP L a).2 = false) : curP L a = (⟨#[]⟩, false) := by
  unfold curP at h ⊢
  split
  · rfl
  · rename_i h9; rw [if_neg h9] at h; cases h
theorem find_filter (all : List Pr) (c : Dn) (a : Int) (h1 : c.key ≤ a) (h2 : a ≤ c.hi) : valueP (all.filter (inR c)) a = valueP all a := by
  unfold valueP
  rw [List.find?_filter]
  have e : (fun p : Pr => decide (inR c p = true ∧ (p.key == a) = true)) = fun p => p.key == a := by
    funext p
    by_cases h : p.key = a
    · have hi : inR c p = true := by unfold inR; rw [h]; simp [h1, h2]
      simp [h, hi]
    · simp [h]
  rw [e]
theorem rise_sub {l m : List Pr} (h : riseP m = true) (hs : l.Sublist m) : riseP l = true := by
  have hp : m.Pairwise (fun x y => x.key < y.key) := by
    rw [List.pairwise_iff_getElem]
    intro i j hi hj hij
    have := (riseP_pair m).1 h j hj i hij
    rwa [getD_eq m i prZ hi, getD_eq m j prZ hj] at this
  have hl := hp.sublist hs
  rw [riseP_pair]
  intro i hi k hk
  have := List.pairwise_iff_getElem.1 hl k i (by omega) hi hk
  rwa [getD_eq l k prZ (by omega), getD_eq l i prZ hi]
theorem take_tells (F : List Pr) (m : Nat) (a : Int) (hr : riseP F = true) (h : ((F.take m).length : Int) < m ∨ (0 < (F.take m).length ∧ a ≤ ((F.take m).getD ((F.take m).length - 1) prZ).key)) : valueP (F.take m) a = valueP F a := by
  by_cases hm : F.length ≤ m
  · rw [List.take_of_length_le hm]
  · have hlen : (F.take m).length = m := by rw [List.length_take]; omega
    rcases h with h | ⟨h1, h2⟩
    · omega
    · conv => rhs; rw [← List.take_append_drop m F]
      unfold valueP
      rw [List.find?_append]
      cases hf : (F.take m).find? (fun p => p.key == a) with
      | some p => rfl
      | none =>
        have hd : (F.drop m).find? (fun p => p.key == a) = none := by
          rw [List.find?_eq_none]
          intro p hp
          obtain ⟨i, hi, rfl⟩ := List.mem_iff_getElem.1 hp
          rw [List.getElem_drop]
          have h3 := (riseP_pair F).1 hr (m + i) (by rw [List.length_drop] at hi; omega) (m - 1) (by omega)
          have h4 : (F.take m).getD ((F.take m).length - 1) prZ = F.getD (m - 1) prZ := by
            rw [hlen, List.getD_eq_getElem?_getD, List.getD_eq_getElem?_getD, List.getElem?_take, if_pos (by omega)]
          rw [h4] at h2
          rw [getD_eq F (m + i) prZ (by rw [List.length_drop] at hi; omega)] at h3
          simp only [beq_iff_eq]
          omega
        rw [hd]; rfl
theorem mayC_lim {c : Dn} (h : mayC c = 0) (ho : c.op = 4) : 1 ≤ c.lim ∧ c.lim ≤ 256 := by
  unfold mayC at h
  split at h
  · exact absurd h (by decide)
  · split at h
    · exact absurd h (by decide)
    · rename_i h8 h9
      simp [ho] at h9
      omega
theorem mayC_val (c : Dn) : mayC c = 0 ∨ mayC c = 2 ∨ mayC c = 10 := by
  unfold mayC
  split
  · exact .inr (.inl rfl)
  · split
    · exact .inr (.inl rfl)
    · split
      · exact .inr (.inr rfl)
      · exact .inl rfl
/-- what a call that was answered says of a key -/
structure SayP (a : Int) (x : Dn) (L L' : List Pt) : Prop where
  none : ofP a [x] = [] → curP L' a = curP L a
  one : ∀ y, ofP a [x] = [y] → y.bg = x.bg ∧ y.en = x.en ∧ ∀ (s : St) (i : Nat), s.is = (curP L a).2 → s.v = (curP L a).1 → rightS s y = true ∧ (afterS s i y).is = (curP L' a).2 ∧ (afterS s i y).v = (curP L' a).1
theorem right_get {s : St} {y : Dn} {p : ByteArray × Bool} (ho : y.op = 2) (hc : y.code = if p.2 = true then 0 else 5) (hr : y.rv = p.1) (hp : p.2 = false → p.1 = ⟨#[]⟩) (h1 : s.is = p.2) (h2 : s.v = p.1) (i : Nat) :
    rightS s y = true ∧ (afterS s i y).is = p.2 ∧ (afterS s i y).v = p.1 := by
  refine ⟨?_, ?_, ?_⟩
  · have e1 : ¬ y.op = 1 := by omega
    have e3 : ¬ y.op = 3 := by omega
    unfold rightS codeS valS
    simp only [if_neg e1, if_neg e3, hc, hr, h1, h2]
    cases hq : p.2 with
    | true => simp
    | false => rw [hp hq]; simp
  · unfold afterS; rw [if_neg (by omega), if_neg (by omega)]; exact h1
  · unfold afterS; rw [if_neg (by omega), if_neg (by omega)]; exact h2
theorem say_of {L L' : List Pt} {c : Dn} {r : Re} (a : Int) (n : Nat) (h : DoP L c r.c r.v r.ps L') : SayP a (dkP n c r) L L' := by
  obtain ⟨rc, rv, rpa, rpc, rps⟩ := r
  have hen : ¬ (100 * ((n : Int) + 1) + 1) < 0 := by omega
  have hen0 : (0 : Int) ≤ 100 * ((n : Int) + 1) + 1 := by omega
  have nott : c.op ≠ 4 → tellsP (dkP n c ⟨rc, rv, rpa, rpc, rps⟩) a = false := fun ho => by unfold tellsP wholeP dkP; simp [ho]
  have own : c.key = a → (rc = 0 ∨ rc = 5) → (c.op = 1 ∨ c.op = 2 ∨ c.op = 3) → ownP (dkP n c ⟨rc, rv, rpa, rpc, rps⟩) a = true := fun hk hc ho => by
    unfold ownP dkP
    simp only [hk, decide_true, Bool.true_and]
    rcases hc with hc | hc <;> rcases ho with ho | ho | ho <;> simp [hc, ho, hen0]
  have ownk : ownP (dkP n c ⟨rc, rv, rpa, rpc, rps⟩) a = true → c.key = a := fun ho => by
    unfold ownP dkP at ho
    simp only [Bool.and_eq_true, decide_eq_true_eq] at ho
    exact ho.1.1
  -- a call of its own
  have lone : c.op ≠ 4 → (c.key ≠ a → curP L' a = curP L a) → (c.key = a → (rc = 0 ∨ rc = 5) ∧ (c.op = 1 ∨ c.op = 2 ∨ c.op = 3) ∧ ∀ (s : St) (i : Nat), s.is = (curP L a).2 → s.v = (curP L a).1 → rightS s (dkP n c ⟨rc, rv, rpa, rpc, rps⟩) = true ∧ (afterS s i (dkP n c ⟨rc, rv, rpa, rpc, rps⟩)).is = (curP L' a).2 ∧ (afterS s i (dkP n c ⟨rc, rv, rpa, rpc, rps⟩)).v = (curP L' a).1) → SayP a (dkP n c ⟨rc, rv, rpa, rpc, rps⟩) L L' := fun ho hk hy => by
    by_cases hka : c.key = a
    · obtain ⟨h1, h2, h3⟩ := hy hka
      have e := ofP_own (nott ho) (own hka h1 h2)
      exact ⟨fun h => by (rw [e] at h; cases h), fun y h => by rw [e] at h; cases h; exact ⟨rfl, rfl, h3⟩⟩
    · have e : ofP a [dkP n c ⟨rc, rv, rpa, rpc, rps⟩] = [] := by
        refine ofP_none (nott ho) ?_
        cases hw : ownP (dkP n c ⟨rc, rv, rpa, rpc, rps⟩) a with
        | false => rfl
        | true => exact absurd (ownk hw) hka
      exact ⟨fun _ => hk hka, fun y h => by rw [e] at h; cases h⟩
  have nokey : (¬ (rc = 0 ∨ rc = 5)) → L' = L → SayP a (dkP n c ⟨rc, rv, rpa, rpc, rps⟩) L L' := fun hc hL => by
    have e : ofP a [dkP n c ⟨rc, rv, rpa, rpc, rps⟩] = [] := by
      refine ofP_none ?_ ?_
      · unfold tellsP wholeP okP dkP
        have : ¬ rc = 0 := fun h => hc (.inl h)
        simp [this]
      · unfold ownP dkP
        have h0 : ¬ rc = 0 := fun h => hc (.inl h)
        have h5 : ¬ rc = 5 := fun h => hc (.inr h)
        simp [h0, h5, hen0]
    exact ⟨fun _ => by rw [hL], fun y h => by rw [e] at h; cases h⟩
  cases h with
  | bad hm =>
    exact nokey (show ¬ (mayC c = 0 ∨ mayC c = 5) from by
      rcases mayC_val c with h | h | h
      · exact absurd h hm
      · rw [h]; omega
      · rw [h]; omega) rfl
  | put hm ho =>
    refine lone (by omega) (fun hk => by rw [curP_app, if_neg hk]) (fun hk => ⟨.inl rfl, .inl ho, fun s i h1 h2 => ?_⟩)
    rw [curP_app, if_pos hk]
    refine ⟨?_, ?_, ?_⟩
    · unfold rightS codeS dkP; simp [ho]
    · unfold afterS dkP; simp [ho]
    · unfold afterS dkP; simp [ho]
  | get hm ho hc =>
    refine lone (by omega) (fun _ => rfl) (fun hk => ⟨.inl rfl, .inr (.inl ho), fun s i h1 h2 => ?_⟩)
    subst hk
    exact right_get (y := dkP n c ⟨0, (curP L c.key).1, rpa, rpc, []⟩) ho (by show (0 : Int) = _; rw [hc, if_pos rfl]) rfl (fun h => by rw [hc] at h; cases h) h1 h2 i
  | none hm ho hc =>
    refine lone (by omega) (fun _ => rfl) (fun hk => ⟨.inr rfl, .inr ho, fun s i h1 h2 => ?_⟩)
    subst hk
    have he := curP_no hc
    rcases ho with ho | ho
    · exact right_get (y := dkP n c ⟨5, ⟨#[]⟩, rpa, rpc, []⟩) ho (by show (5 : Int) = _; rw [hc]; rfl) (by show (⟨#[]⟩ : ByteArray) = _; rw [he]) (fun _ => by rw [he]) h1 h2 i
    · rw [he] at h1 h2 ⊢
      refine ⟨?_, ?_, ?_⟩
      · unfold rightS codeS dkP; simp [ho, h1]
      · unfold afterS dkP; simp [ho]
      · unfold afterS dkP; simp [ho]
  | del hm ho hc =>
    refine lone (by omega) (fun hk => by rw [curP_app, if_neg hk]) (fun hk => ⟨.inl rfl, .inr (.inr ho), fun s i h1 h2 => ?_⟩)
    rw [curP_app, if_pos hk]
    subst hk
    rw [hc] at h1
    refine ⟨?_, ?_, ?_⟩
    · unfold rightS codeS dkP; simp [ho, h1]
    · unfold afterS dkP; simp [ho]
    · unfold afterS dkP; simp [ho]
  | scan hm ho all hp =>
    show SayP a (dkP n c ⟨0, ⟨#[]⟩, rpa, rpc, (all.filter (inR c)).take c.lim.toNat⟩) L L
    have hlim := mayC_lim hm ho
    have hown : ownP (dkP n c ⟨0, ⟨#[]⟩, rpa, rpc, (all.filter (inR c)).take c.lim.toNat⟩) a = false := by unfold ownP dkP; simp [ho]
    cases ht : tellsP (dkP n c ⟨0, ⟨#[]⟩, rpa, rpc, (all.filter (inR c)).take c.lim.toNat⟩) a with
    | false =>
      have e := ofP_none ht hown
      exact ⟨fun _ => rfl, fun y h => by rw [e] at h; cases h⟩
    | true =>
      have e := ofP_tells ht
      have hv : valueP ((all.filter (inR c)).take c.lim.toNat) a = curP L a := by
        unfold tellsP dkP at ht
        simp only [Bool.and_eq_true, Bool.or_eq_true, decide_eq_true_eq] at ht
        obtain ⟨⟨⟨_, h1⟩, h2⟩, h3⟩ := ht
        rw [take_tells _ _ _ (rise_sub hp.s.r List.filter_sublist) (by
          rcases h3 with h3 | h3
          · exact .inl (by omega)
          · exact .inr h3), find_filter all c a h1 h2, hp.c]
      refine ⟨fun _ => rfl, fun y h => ?_⟩
      rw [e] at h
      cases h
      refine ⟨rfl, rfl, fun s i h1 h2 => right_get (p := curP L a) rfl (by unfold getP dkP; simp only; rw [hv]) (by unfold getP dkP; simp only; rw [hv]) (fun h => by rw [curP_no h]) h1 h2 i⟩
/-! ### one behind the other -/
theorem full_bit (n i : Nat) : (2 ^ n - 1).testBit i = decide (i < n) := Nat.testBit_two_pow_sub_one n i
theorem full_or (n : Nat) : (2 ^ n - 1) ||| 1 <<< n = 2 ^ (n + 1) - 1 := by
  apply Nat.eq_of_testBit_eq
  intro i
  rw [Nat.testBit_or, full_bit, full_bit, Nat.one_shiftLeft, Nat.testBit_two_pow]
  rw [Bool.eq_iff_iff]
  simp
  omega
theorem getD_appL (l : List Dn) (x : Dn) (i : Nat) (h : i < l.length) : (l ++ [x]).getD i dnZ = l.getD i dnZ := by
  rw [List.getD_eq_getElem?_getD, List.getD_eq_getElem?_getD, List.getElem?_append_left h]
theorem getD_appR (l : List Dn) (x : Dn) : (l ++ [x]).getD l.length dnZ = x := by
  rw [List.getD_eq_getElem?_getD, List.getElem?_append_right (Nat.le_refl _)]; simp
theorem Reach.app {l : List Dn} {x : Dn} {s t : St} (hx : ∀ y ∈ l, aheadP x y = false) (h : Reach l s t) : Reach (l ++ [x]) s t := by
  induction h with
  | refl => exact .refl _
  | @step s n t i hs _ ih =>
    refine .step (i := i) ⟨?_, hs.un, ?_, ?_, ?_⟩ ih
    · rw [List.length_append]; have := hs.lt; omega
    · intro k hk hu
      rw [getD_appL l x _ hs.lt]
      by_cases e : k < l.length
      · rw [getD_appL l x k e]; exact hs.fr k e hu
      · have hk' : k = l.length := by rw [List.length_append, List.length_singleton] at hk; omega
        rw [hk', getD_appR]
        exact hx _ (getD_memL l _ dnZ hs.lt)
    · rw [getD_appL l x _ hs.lt]; exact hs.ok
    · rw [getD_appL l x _ hs.lt]; exact hs.eq
/-- when they were done -/
def Tmd (l : List Dn) (N : Nat) : Prop := ∀ d ∈ l, 100 ≤ d.bg ∧ d.en = d.bg + 1 ∧ d.bg ≤ 100 * (N : Int)
theorem ofP_app (a : Int) (l m : List Dn) : ofP a (l ++ m) = ofP a l ++ ofP a m := by unfold ofP; rw [List.filterMap_append]
theorem ofP_tmd {a : Int} {l : List Dn} {N : Nat} (h : Tmd l N) : Tmd (ofP a l) N := fun x hx => by
  obtain ⟨d, hd, rfl | rfl⟩ := ofP_mem hx
  · exact h d hd
  · exact h _ hd
theorem PlaySt.tmd {cs ds : List Dn} {L : List Pt} (h : PlaySt cs ds L) : Tmd ds ds.length := by
  induction h with
  | nil => intro d hd; cases hd
  | @snoc cs ds L L' c r h hd ih =>
    intro d hd'
    rw [List.length_append, List.length_singleton]
    rcases List.mem_append.1 hd' with h1 | h1
    · have := ih d h1
      exact ⟨this.1, this.2.1, by omega⟩
    · obtain rfl := List.mem_singleton.1 h1
      have hl := h.len.1
      refine ⟨?_, rfl, ?_⟩
      · show (100 : Int) ≤ 100 * ((cs.length : Int) + 1); omega
      · show 100 * ((cs.length : Int) + 1) ≤ _; omega
/-- a key's calls, gone through in turn -/
theorem play_reach {cs ds : List Dn} {L : List Pt} (a : Int) (h : PlaySt cs ds L) : Reach (ofP a ds) ⟨0, false, ⟨#[]⟩⟩ ⟨2 ^ (ofP a ds).length - 1, (curP L a).2, (curP L a).1⟩ := by
  induction h with
  | nil => exact .refl _
  | @snoc cs ds L L' c r h hd ih =>
    have hs := say_of a cs.length hd
    have ht := ofP_tmd (a := a) h.tmd
    have hl := h.len.1
    rw [ofP_app]
    have hone : ofP a [dkP cs.length c r] = [] ∨ ∃ y, ofP a [dkP cs.length c r] = [y] := by
      have := ofP_len a [dkP cs.length c r]
      match hq : ofP a [dkP cs.length c r] with
      | [] => exact .inl rfl
      | [y] => exact .inr ⟨y, rfl⟩
      | _ :: _ :: _ => rw [hq] at this; simp at this
    rcases hone with e | ⟨y, e⟩
    · rw [e, List.append_nil, hs.none e]; exact ih
    · rw [e]
      obtain ⟨hb, hen, hst⟩ := hs.one y e
      have hbg : y.bg = 100 * ((cs.length : Int) + 1) := hb
      have heny : y.en = 100 * ((cs.length : Int) + 1) + 1 := hen
      have hx : ∀ z ∈ ofP a ds, aheadP y z = false := fun z hz => by
        have h1 := ht z hz
        unfold aheadP
        rw [Bool.and_eq_false_iff]
        refine .inr (decide_eq_false ?_)
        omega
      obtain ⟨k1, k2, k3⟩ := hst ⟨2 ^ (ofP a ds).length - 1, (curP L a).2, (curP L a).1⟩ (ofP a ds).length rfl rfl
      refine (ih.app hx).trans (.step (i := (ofP a ds).length) ⟨?_, ?_, ?_, ?_, rfl⟩ ?_)
      · rw [List.length_append]; simp
      · show (2 ^ (ofP a ds).length - 1).testBit _ = false
        rw [full_bit]; simp
      · intro k hk hu
        have hu' : (2 ^ (ofP a ds).length - 1).testBit k = false := hu
        rw [full_bit] at hu'
        have hk' : k = (ofP a ds).length := by
          have := of_decide_eq_false hu'
          rw [List.length_append, List.length_singleton] at hk
          omega
        rw [hk', getD_appR]
        unfold aheadP
        rw [Bool.and_eq_false_iff]
        exact .inr (decide_eq_false (by omega))
      · rw [getD_appR]; exact k1
      · rw [getD_appR]
        have he : afterS ⟨2 ^ (ofP a ds).length - 1, (curP L a).2, (curP L a).1⟩ (ofP a ds).length y = ⟨2 ^ (ofP a ds ++ [y]).length - 1, (curP L' a).2, (curP L' a).1⟩ := by
          have hdn := afterS_dn ⟨2 ^ (ofP a ds).length - 1, (curP L a).2, (curP L a).1⟩ (ofP a ds).length y
          rw [List.length_append, List.length_singleton, ← full_or]
          generalize afterS _ _ y = n at *
          obtain ⟨n1, n2, n3⟩ := n
          simp only at hdn k2 k3
          rw [hdn, k2, k3]
        rw [he]
        exact .refl _
theorem play_key {cs ds : List Dn} {L : List Pt} {ps : List Pr} {er : Er} (a : Int) (h : PlaySt cs ds L) (hp : PairsOk L ps) (ho : ofP a er.cs = ofP a ds) (ha : er.af = ps) : KeyT a [] [er] := by
  refine ⟨startS (valueP ps a), startS (valueP [] a), rfl, ⟨⟨2 ^ (ofP a ds).length - 1, (curP L a).2, (curP L a).1⟩, by rw [ho]; exact play_reach a h, fun i hi hu => ?_, ?_⟩, fun _ => by rw [ha]⟩
  · rw [ho] at hi
    have hu' : (2 ^ (ofP a ds).length - 1).testBit i = false := hu
    rw [full_bit] at hu'
    exact absurd hi (of_decide_eq_false hu')
  · unfold ensS startS
    rw [hp.c]
/-! ### the spoilt get -/
def spD (d : Dn) (v : ByteArray) : Dn := ⟨d.cl, d.op, d.key, d.hi, d.lim, d.val, d.bg, d.en, 0, v, none, 0, []⟩
theorem set_split (l : List Dn) (k : Nat) (x : Dn) (h : k < l.length) : l.set k x = l.take k ++ ([x] ++ l.drop (k + 1)) := by
  rw [List.set_eq_take_append_cons_drop, if_pos h]; rfl
theorem self_split (l : List Dn) (k : Nat) (h : k < l.length) : l = l.take k ++ ([l.getD k dnZ] ++ l.drop (k + 1)) := by
  rw [getD_eq l k dnZ h]
  show l = l.take k ++ (l[k] :: l.drop (k + 1))
  rw [List.getElem_cons_drop, List.take_append_drop]
theorem ofP_get_other {d : Dn} {a : Int} (ho : d.op = 2) (hk : d.key ≠ a) : ofP a [d] = [] :=
  ofP_none (by unfold tellsP wholeP; simp [ho]) (by unfold ownP; simp [hk])
theorem ofP_set {ds : List Dn} {k : Nat} {v : ByteArray} {a : Int} (h : k < ds.length) (ho : (ds.getD k dnZ).op = 2) (hk : (ds.getD k dnZ).key ≠ a) : ofP a (ds.set k (spD (ds.getD k dnZ) v)) = ofP a ds := by
  rw [set_split ds k _ h, ofP_app, ofP_app, ofP_get_other (show (spD (ds.getD k dnZ) v).op = 2 from ho) (show (spD (ds.getD k dnZ) v).key ≠ a from hk)]
  conv => rhs; rw [self_split ds k h, ofP_app, ofP_app, ofP_get_other ho hk]
theorem spoilt_in {ds : List Dn} {k : Nat} {v : ByteArray} (h : k < ds.length) (ho : (ds.getD k dnZ).op = 2) (hen : 0 ≤ (ds.getD k dnZ).en) : spD (ds.getD k dnZ) v ∈ ofP (ds.getD k dnZ).key (ds.set k (spD (ds.getD k dnZ) v)) := by
  rw [set_split ds k _ h, ofP_app, ofP_app]
  generalize ds.getD k dnZ = d at *
  rw [ofP_own (d := spD d v) (by unfold tellsP wholeP spD; simp [ho]) (by unfold ownP spD; simp [ho, hen])]
  simp
theorem spoilt_no {a : Int} {er : Er} {y : Dn} {n : Nat} (hy : y ∈ ofP a er.cs) (ho : y.op = 2) (hc : y.code = 0) (hen : 0 ≤ y.en) (hv : n < y.rv.size) (hsz : ∀ x ∈ ofP a er.cs, x.val.size ≤ n) : ¬ KeyT a [] [er] := by
  rintro ⟨t, s, hst, ⟨u, hr, hw, _⟩, _⟩
  obtain ⟨j, hj, hjy⟩ := List.mem_iff_getElem.1 hy
  have hgj : (ofP a er.cs).getD j dnZ = y := by rw [getD_eq _ j dnZ hj, hjy]
  have inv : ∀ s u, Reach (ofP a er.cs) s u → s.v.size ≤ n → s.dn.testBit j = false → u.dn.testBit j = false := by
    intro s u h
    induction h with
    | refl => exact fun _ h => h
    | @step s m t i hs _ ih =>
      intro h1 h2
      have hok := hs.ok
      have hij : j ≠ i := fun e => by
        subst e
        rw [hgj] at hok
        unfold rightS codeS valS at hok
        have e1 : ¬ y.op = 1 := by omega
        have e3 : ¬ y.op = 3 := by omega
        have e4 : ¬ y.en < 0 := by omega
        simp only [if_neg e1, if_neg e3, ho, hc, e4, decide_false, Bool.false_or] at hok
        cases hi : s.is with
        | false => rw [hi] at hok; simp at hok
        | true =>
          rw [hi] at hok
          simp at hok
          rw [hok] at h1
          omega
      have he := hs.eq
      refine ih ?_ ?_
      · rw [he]
        unfold afterS
        split
        · exact hsz _ (getD_memL _ i dnZ hs.lt)
        · split
          · exact Nat.zero_le _
          · exact h1
      · rw [he, afterS_dn, Nat.testBit_or, Nat.one_shiftLeft, Nat.testBit_two_pow, h2]
        simp
        exact fun e => hij e.symm
  have h0 : s = ⟨0, false, ⟨#[]⟩⟩ := hst
  have := inv s u hr (by rw [h0]; exact Nat.zero_le _) (by rw [h0]; simp)
  have := hw j hj this
  rw [hgj] at this
  omega
/-! ### the rest of what is asked of it -/
structure PlayF (cs ds : List Dn) (L : List Pt) : Prop where
  d : ∀ d ∈ ds, (∃ c ∈ cs, d.key = c.key ∧ d.val = c.val) ∧ d.ps.length ≤ cs.length ∧ ∀ p ∈ d.ps, ∃ c ∈ cs, p.key = c.key
  l : ∀ q ∈ L, ∃ c ∈ cs, q.key = c.key
theorem DoP.facts {L : List Pt} {c : Dn} {a : Int} {b : ByteArray} {ps : List Pr} {L' : List Pt} (h : DoP L c a b ps L') : (∀ q ∈ L', q ∈ L ∨ q.key = c.key) ∧ ps.length ≤ L.length ∧ ∀ p ∈ ps, ∃ q ∈ L, p.key = q.key := by
  have app : ∀ x : Pt, x.key = c.key → ∀ q ∈ L ++ [x], q ∈ L ∨ q.key = c.key := fun x hx q hq => by
    rcases List.mem_append.1 hq with h | h
    · exact .inl h
    · obtain rfl := List.mem_singleton.1 h; exact .inr hx
  cases h with
  | bad h => exact ⟨fun q h => .inl h, by simp, fun p h => by cases h⟩
  | put h ho => exact ⟨app _ rfl, by simp, fun p h => by cases h⟩
  | get h ho hc => exact ⟨fun q h => .inl h, by simp, fun p h => by cases h⟩
  | none h ho hc => exact ⟨fun q h => .inl h, by simp, fun p h => by cases h⟩
  | del h ho hc => exact ⟨app _ rfl, by simp, fun p h => by cases h⟩
  | scan h ho all hp =>
    refine ⟨fun q h => .inl h, Nat.le_trans (by rw [List.length_take]; exact Nat.le_trans (Nat.min_le_right _ _) (List.length_filter_le _ _)) hp.s.len, fun p hp2 => ?_⟩
    obtain ⟨q, hq, e, _⟩ := hp.s.m p (List.mem_filter.1 (List.mem_of_mem_take hp2)).1
    exact ⟨q, hq, e⟩
theorem PlaySt.facts {cs ds : List Dn} {L : List Pt} (h : PlaySt cs ds L) : PlayF cs ds L := by
  induction h with
  | nil => exact ⟨fun d h => by (cases h), fun q h => by (cases h)⟩
  | @snoc cs ds L L' c r h hd ih =>
    obtain ⟨f1, f2, f3⟩ := hd.facts
    have up : ∀ {z : Int}, (∃ c ∈ cs, z = c.key) → ∃ c' ∈ cs ++ [c], z = c'.key := fun ⟨c', h1, h2⟩ => ⟨c', List.mem_append.2 (.inl h1), h2⟩
    have hlen : cs.length ≤ (cs ++ [c]).length := by simp
    refine ⟨fun d hd' => ?_, fun q hq => ?_⟩
    · rcases List.mem_append.1 hd' with h1 | h1
      · obtain ⟨⟨c', k1, k2, k3⟩, k4, k5⟩ := ih.d d h1
        exact ⟨⟨c', List.mem_append.2 (.inl k1), k2, k3⟩, Nat.le_trans k4 hlen, fun p hp => up (k5 p hp)⟩
      · obtain rfl := List.mem_singleton.1 h1
        refine ⟨⟨c, List.mem_append.2 (.inr (List.mem_singleton.2 rfl)), rfl, rfl⟩, Nat.le_trans f2 (Nat.le_trans h.len.2 hlen), fun p hp => ?_⟩
        obtain ⟨q, hq, e⟩ := f3 p hp
        obtain ⟨c', k1, k2⟩ := ih.l q hq
        exact ⟨c', List.mem_append.2 (.inl k1), e.trans k2⟩
    · rcases f1 q hq with h1 | h1
      · exact up (ih.l q h1)
      · exact ⟨c, List.mem_append.2 (.inr (List.mem_singleton.2 rfl)), h1⟩
/-- times alone -/
def Seq (l : List Dn) : Prop := l.Pairwise (fun x y => x.en < y.bg) ∧ ∀ d ∈ l, 0 ≤ d.bg ∧ d.bg < d.en
theorem PlaySt.seq {cs ds : List Dn} {L : List Pt} (h : PlaySt cs ds L) : Seq ds := by
  refine ⟨?_, fun d hd => by have := h.tmd d hd; omega⟩
  induction h with
  | nil => exact .nil
  | @snoc cs ds L L' c r h hd ih =>
    rw [List.pairwise_append]
    refine ⟨ih, List.pairwise_singleton _ _, fun x hx y hy => ?_⟩
    obtain rfl := List.mem_singleton.1 hy
    have h1 := h.tmd x hx
    have h2 := h.len.1
    show x.en < 100 * ((cs.length : Int) + 1)
    omega
theorem Seq.ofP {a : Int} {l : List Dn} (h : Seq l) : Seq (ofP a l) := by
  refine ⟨?_, fun x hx => ?_⟩
  · unfold Go.Proofs.Ytdmcakoaakinnaa.ofP
    rw [List.pairwise_filterMap]
    refine h.1.imp (fun {x y} hxy => ?_)
    intro b hb b' hb'
    have g : ∀ {d z : Dn}, (if tellsP d a = true then some (getP d a) else if ownP d a = true then some d else none) = some z → z.bg = d.bg ∧ z.en = d.en := fun {d z} hz => by
      split at hz
      · cases hz; exact ⟨rfl, rfl⟩
      · split at hz
        · cases hz; exact ⟨rfl, rfl⟩
        · cases hz
    rw [(g hb).2, (g hb').1]; exact hxy
  · obtain ⟨d, hd, rfl | rfl⟩ := ofP_mem hx
    · exact h.2 d hd
    · exact h.2 _ hd
theorem Seq.crowd {l : List Dn} (h : Seq l) : crowdP l = false := by
  unfold crowdP
  rw [List.any_eq_false]
  intro at_ _
  have hp : ((l.filter fun d => decide (d.bg ≤ at_.bg) && !aheadP d at_)).Pairwise (fun x y => x.en < y.bg) := h.1.sublist List.filter_sublist
  have hm : ∀ d ∈ l.filter (fun d => decide (d.bg ≤ at_.bg) && !aheadP d at_), d.bg ≤ at_.bg ∧ at_.bg ≤ d.en := fun d hd => by
    obtain ⟨h1, h2⟩ := List.mem_filter.1 hd
    simp only [Bool.and_eq_true, decide_eq_true_eq, Bool.not_eq_true'] at h2
    have h3 := h.2 d h1
    refine ⟨h2.1, ?_⟩
    have h4 := h2.2
    unfold aheadP at h4
    rw [Bool.and_eq_false_iff] at h4
    rcases h4 with h4 | h4
    · have := of_decide_eq_false h4; omega
    · have := of_decide_eq_false h4; omega
  generalize l.filter (fun d => decide (d.bg ≤ at_.bg) && !aheadP d at_) = F at hp hm
  have : F.length ≤ 1 := by
    match F, hp, hm with
    | [], _, _ => simp
    | [_], _, _ => simp
    | x :: y :: _, hp, hm =>
      have h1 := (List.pairwise_cons.1 hp).1 y (by simp)
      have h2 := hm x (by simp)
      have h3 := hm y (by simp)
      omega
  simp only [decide_eq_true_eq]
  omega
theorem Seq.set {l : List Dn} (h : Seq l) {k : Nat} {x : Dn} (hk : k < l.length) (h1 : x.bg = (l.getD k dnZ).bg) (h2 : x.en = (l.getD k dnZ).en) : Seq (l.set k x) := by
  have g : ∀ i, (l.set k x).getD i dnZ = if i = k then x else l.getD i dnZ := fun i => by
    rw [List.getD_eq_getElem?_getD, List.getElem?_set, List.getD_eq_getElem?_getD]
    by_cases e : k = i
    · subst e; simp [hk]
    · rw [if_neg e, if_neg (fun h => e h.symm)]
  have hb : ∀ i, ((l.set k x).getD i dnZ).bg = (l.getD i dnZ).bg ∧ ((l.set k x).getD i dnZ).en = (l.getD i dnZ).en := fun i => by
    rw [g]
    by_cases e : i = k
    · subst e; rw [if_pos rfl]; exact ⟨h1, h2⟩
    · rw [if_neg e]; exact ⟨rfl, rfl⟩
  refine ⟨?_, fun d hd => ?_⟩
  · rw [List.pairwise_iff_getElem]
    intro i j hi hj hij
    have h3 := List.pairwise_iff_getElem.1 h.1 i j (by simpa using hi) (by simpa using hj) hij
    rw [← getD_eq _ i dnZ hi, ← getD_eq _ j dnZ hj, (hb i).2, (hb j).1, getD_eq l i dnZ (by simpa using hi), getD_eq l j dnZ (by simpa using hj)]
    exact h3
  · obtain ⟨i, hi, rfl⟩ := List.mem_iff_getElem.1 hd
    rw [← getD_eq _ i dnZ hi, (hb i).1, (hb i).2]
    exact h.2 _ (getD_memL l i dnZ (by simpa using hi))
/-- all that the law asks of a history -/
structure SpoiltH (er : Er) (k0 : Int) : Prop where
  h : HistB [] [er]
  u : ∀ a, ∃ U, KeyB a [] [er] U
  e : ∀ b k e, ExP [] [er] b k e → b = false ∧ k = k0 ∧ e = 0
theorem spoilt_all {cs ds : List Dn} {L : List Pt} {ps : List Pr} {er : Er} {k : Nat} {v : ByteArray} (h : PlaySt cs ds L) (hp : PairsOk L ps) (hn : cs.length ≤ 30) (hu : ∀ c ∈ cs, U64P c.key) (hv : ∀ c ∈ cs, c.val.size ≤ 100)
    (hk : k < ds.length) (ho : (ds.getD k dnZ).op = 2) (hs : v.size = 101) (he1 : er.cs = ds.set k (spD (ds.getD k dnZ) v)) (he2 : er.af = ps) (he3 : er.kn = true) : SpoiltH er (ds.getD k dnZ).key := by
  have hf := h.facts
  have hl := h.len
  have hmem : ∀ d ∈ er.cs, (∃ c ∈ cs, d.key = c.key ∧ d.val = c.val) ∧ d.ps.length ≤ cs.length ∧ ∀ p ∈ d.ps, ∃ c ∈ cs, p.key = c.key := fun d hd => by
    rw [he1] at hd
    rcases List.mem_or_eq_of_mem_set hd with h1 | h1
    · exact hf.d d h1
    · have h2 := hf.d _ (getD_memL ds k dnZ hk)
      rw [h1]
      exact ⟨h2.1, Nat.zero_le _, fun p hp => by cases hp⟩
  have hcl : er.cs.length ≤ 30 := by rw [he1, List.length_set, hl.1]; exact hn
  have hseq : Seq er.cs := by rw [he1]; exact h.seq.set hk rfl rfl
  have hdv : ∀ e ∈ [er], ∀ d ∈ e.cs, DnV d := fun e he d hd => by
    obtain rfl := List.mem_singleton.1 he
    obtain ⟨⟨c, h1, _, h2⟩, _⟩ := hmem d hd
    show d.val.size ≤ maxLen
    rw [h2]; have := hv c h1; unfold maxLen; omega
  have hafl : er.af.length ≤ 30 := by rw [he2]; exact Nat.le_trans hp.s.len (Nat.le_trans hl.2 hn)
  have hle : ∀ e ∈ [er], ErL e := fun e he => by
    obtain rfl := List.mem_singleton.1 he
    exact ⟨by omega, by omega, fun d hd => by have := (hmem d hd).2.1; show d.ps.length ≤ _; omega⟩
  have hmay : mayP [] [er] = true := by
    unfold mayP
    have h1 : er.cs.any oddP = false := by
      rw [List.any_eq_false]
      intro d hd
      have := hseq.2 d hd
      unfold oddP
      simp
      omega
    have h2 : riseP er.af = true := by rw [he2]; exact hp.s.r
    simp [h1, h2]
    rfl
  have hkey : ∀ a, keyE a [] [er] = 0 := fun a => by
    unfold keyE
    rw [hmay]
    have h1 : longP a er = false := by
      unfold longP
      rw [hseq.ofP.crowd, Bool.or_false]
      have := ofP_len a er.cs
      exact decide_eq_false (by omega)
    simp [h1]
  have hkd : (ds.getD k dnZ).en ≥ 0 := by have := h.tmd _ (getD_memL ds k dnZ hk); omega
  refine ⟨⟨by simp, by simp, ?_, (fun p hp => by cases hp), fun e he => ?_, hle, fun e he => ?_, hdv⟩, fun a => ⟨_, KeyB.small (key := a) (first := []) (l := [er]) (fun e he => by obtain rfl := List.mem_singleton.1 he; exact hcl) (by simp) (fun p hp => by cases hp) hdv⟩, fun b k' e' hx => ?_⟩
  · have h1 : ∀ l : List Dn, (∀ d ∈ l, d.ps.length ≤ 30) → (l.map (fun d => d.ps.length + 1)).sum ≤ l.length * 31 := by
      intro l
      induction l with
      | nil => intro _; simp
      | cons x r ih =>
        intro hx
        simp only [List.map_cons, List.sum_cons, List.length_cons]
        have h2 := hx x List.mem_cons_self
        have h3 := ih (fun d hd => hx d (List.mem_cons_of_mem _ hd))
        rw [Nat.succ_mul]
        omega
    have h2 := h1 er.cs (fun d hd => by have := (hmem d hd).2.1; omega)
    show 0 + ([er].map nmE).sum ≤ 1000000
    simp only [List.map_cons, List.map_nil, List.sum_cons, List.sum_nil]
    unfold nmE
    omega
  · obtain rfl := List.mem_singleton.1 he
    refine ⟨fun p hp' => ?_, fun d hd => ?_⟩
    · rw [he2] at hp'
      obtain ⟨q, hq, e, _⟩ := hp.s.m p hp'
      obtain ⟨c, h1, h2⟩ := hf.l q hq
      rw [e, h2]; exact hu c h1
    · obtain ⟨⟨c, h1, h2, _⟩, _, h3⟩ := hmem d hd
      refine ⟨by rw [h2]; exact hu c h1, fun p hp' => ?_⟩
      obtain ⟨c', h4, h5⟩ := h3 p hp'
      rw [h5]; exact hu c' h4
  · obtain rfl := List.mem_singleton.1 he
    omega
  · have hin := spoilt_in (v := v) hk ho hkd
    rw [← he1] at hin
    refine exp_no hmay ?_ (fun a _ => hkey a) (spoilt_no (n := 100) hin ho rfl hkd (by show 100 < v.size; omega) (fun x hx' => ?_)) (fun a _ hne => play_key a h hp (by rw [he1]; exact ofP_set hk ho (fun e => hne e.symm)) he2) hx
    · refine .inr ⟨er, List.mem_singleton.2 rfl, .inr ⟨spD (ds.getD k dnZ) v, ?_, .inl ⟨.inr (.inl ho), rfl⟩⟩⟩
      rw [he1]
      exact List.mem_iff_getElem.2 ⟨k, by rw [List.length_set]; exact hk, by simp⟩
    · obtain ⟨d, hd, rfl | rfl⟩ := ofP_mem hx'
      · exact Nat.zero_le _
      · obtain ⟨⟨c, h1, _, h2⟩, _⟩ := hmem _ hd
        rw [h2]; exact hv c h1
end Go.Proofs.Ytdmcakoaakinnaa
namespace Go.Proofs.Ytdmcakoaakinnaa
open Go.RowKit
attribute [local go_sem] Oper.semAt_some
set_option linter.unusedVariables false
set_option linter.unusedSimpArgs false

theorem wp_load_cal {o : Oper} {a : Act} {w : World} {K : Act → World → Prop} {Q : Exit → Act → World → Prop} (x : Operand) (ho : o.op = .load 41 x) (g off : Nat) (d : Dn)
    (hx : a.eval x = .pointer (some ⟨g, off, none⟩)) (hc : cellsAt w g off (caCells d)) (h : K (a.put o.dst (.agg (caCells d))) w) : Oper.wp Try.prog o a w K Q :=
  wp_load_part 41 x ho g off hx (caCells d) _ hc Try.underlying41 rfl (by kernel_rfl) h
theorem wpList_load_cal {ops : Array Oper} {rest : List Oper} {o : Oper} {a : Act} {w : World} {Q : Exit → Act → World → Prop} (hw : Region.wanted o (yielded ops a.tmps) = true) (x : Operand) (ho : o.op = .load 41 x) (g off : Nat) (d : Dn)
    (hx : a.eval x = .pointer (some ⟨g, off, none⟩)) (hc : cellsAt w g off (caCells d)) (h : wpList Try.prog ops Q rest (a.put o.dst (.agg (caCells d))) w) : wpList Try.prog ops Q (o :: rest) a w := by
  simp only [wpList, hw, if_true]
  exact .inl (wp_load_cal x ho g off d hx hc h)
theorem run_idx_cal (w : World) (g off n cap k : Nat) (hk : k < n) : (Instr.indexAt 33 (.slice (some ⟨g, off, none⟩) n cap) (.int .i64 k)).run Try.prog w = .ok (.pointer (some ⟨g, off + k * 5, none⟩)) w := by
  have h1 : (0 : Int) ≤ k := by omega
  have h2 : (k : Int) < n := by omega
  have hs : (sizeOf (Try.prog.elem 33)).run Try.prog w = .ok 5 w := by kernel_rfl
  rw [run_indexAt_slice w 33 ⟨g, off, none⟩ n cap .i64 k (by kernel_rfl), if_pos ⟨h1, h2⟩, hs]
  have e : (⟨g, off, none⟩ : Addr).add (k * 5) = ⟨g, off + k * 5, none⟩ := by unfold Addr.add; split <;> simp_all
  simp only [Result.andThen_ok, Int.toNat_natCast, e]
/-- l[k], whole: two operations at once -/
theorem wpList_idx_cal {ops : Array Oper} {rest : List Oper} {o1 o2 : Oper} {a : Act} {w : World} {Q : Exit → Act → World → Prop} (h1 : o1.guard = none) (h2 : o2.guard = none) (x y : Operand) (s : Tmp) (hd : o1.dst = some s)
    (ho1 : o1.op = .indexAddr 33 x y) (ho2 : o2.op = .load 41 (.tmp s)) (g off n cap k : Nat) (d : Dn) (hx : a.eval x = .slice (some ⟨g, off, none⟩) n cap) (hy : a.eval y = .int .i64 k) (hk : k < n) (hs : s < a.tmps.size)
    (hc : cellsAt w g (off + k * 5) (caCells d)) (h : wpList Try.prog ops Q rest ((a.put o1.dst (.pointer (some ⟨g, off + k * 5, none⟩))).put o2.dst (.agg (caCells d))) w) : wpList Try.prog ops Q (o1 :: o2 :: rest) a w := by
  refine wpList_plain h1 fun K hK => ?_
  unfold Oper.wp execOp
  simp only [ho1, hx, hy, Sem.run_bind, Sem.run_pure, Result.andThen_ok, run_idx_cal w g off n cap k hk]
  refine hK _ _ (wpList_plain h2 fun K2 hK2 => ?_)
  refine wp_load_cal (.tmp s) ho2 g (off + k * 5) d ?_ hc (hK2 _ _ h)
  rw [hd]
  simp [Act.put, Act.eval, hs]
def CasAt (w : World) (a : Option Addr) (l : List Dn) : Prop := RowAt w a l.length 5 (fun i => caCells (l.getD i dnZ))
theorem CasAt.below {w w' : World} {a : Option Addr} {l : List Dn} (h : CasAt w a l) (hB : Below w.heap.size w w') : CasAt w' a l := RowAt.below h hB
theorem CasAt.at_ {w : World} {a : Option Addr} {l : List Dn} (h : CasAt w a l) {k : Nat} (hk : k < l.length) : ∃ g o, a = some ⟨g, o, none⟩ ∧ g < w.heap.size ∧ cellsAt w g (o + k * 5) (caCells (l.getD k dnZ)) := by
  obtain ⟨g, o, e, hg, hc⟩ := h (by omega)
  refine ⟨g, o, e, hg, fun j v hj => ?_⟩
  have hjn : j < 5 := by have := (Array.getElem?_eq_some_iff.1 hj).1; exact this
  rw [hc k hk j hjn]; exact hj
def wcells (l : List Dn) : List Value := l.flatMap fun d => (widCells d).toList
theorem wcells_app (l : List Dn) (d : Dn) : wcells (l ++ [d]) = wcells l ++ (widCells d).toList := by unfold wcells; rw [List.flatMap_append]; simp
theorem wcells_get : ∀ (l : List Dn) (i j : Nat), i < l.length → j < 10 → (wcells l)[i * 10 + j]? = (widCells (l.getD i dnZ))[j]?
  | d :: r, 0, j, _, hj => by
    show ((widCells d).toList ++ wcells r)[0 * 10 + j]? = _
    rw [List.getElem?_append_left (by show 0 * 10 + j < 10; omega), Nat.zero_mul, Nat.zero_add]
    rw [Array.getElem?_toList]
    rfl
  | d :: r, i + 1, j, hi, hj => by
    show ((widCells d).toList ++ wcells r)[(i + 1) * 10 + j]? = _
    rw [List.getElem?_append_right (by show 10 ≤ _; omega), show (i + 1) * 10 + j - (widCells d).toList.length = i * 10 + j from by show (i + 1) * 10 + j - 10 = _; omega]
    rw [wcells_get r i j (by simpa using hi) hj]
    rfl
theorem own_wds {w : World} {B : Nat} {e : TypeId} {v : Value} {l : List Dn} (h : w.ownsRow B e 10 v l.length (wcells l)) : ∃ a c, v = .slice a l.length c ∧ WdsAt w a l ∧ ∀ g o, a = some ⟨g, o, none⟩ → B ≤ g := by
  obtain ⟨a, n, c, rfl⟩ := own_slice h
  obtain rfl : n = l.length := own_len h
  refine ⟨a, c, rfl, fun hp => ?_, fun g o e => own_base h g (by rw [e]; rfl)⟩
  obtain ⟨g, cap, hv, _, hlt, _, _, _, hc, _⟩ := own_shapeK h hp
  have he : a = some ⟨g, 0, none⟩ := by injection hv
  refine ⟨g, 0, he, hlt, fun i hi j hj => ?_⟩
  rw [show 0 + i * 10 + j = i * 10 + j by omega, hc (i * 10 + j) (by omega), wcells_get l i j hi hj]
theorem infoWd : ∃ i, Try.prog.info? 43 = some i ∧ i.zero = some (.agg (widCells dnZ)) ∧ i.size = 10 ∧ i.bytes = 80 := by
  have h1 : ((Try.prog.info? 43).map (·.size)) = some 10 := by kernel_rfl
  have h2 : ((Try.prog.info? 43).map (·.bytes)) = some 80 := by kernel_rfl
  have h3 : ((Try.prog.info? 43).bind (·.zero)) = some (.agg (widCells dnZ)) := by kernel_rfl
  cases h : Try.prog.info? 43 with
  | none => rw [h] at h1; cases h1
  | some i =>
    rw [h] at h1 h2 h3
    exact ⟨i, rfl, by simpa using h3, by simpa using h1, by simpa using h2⟩
theorem run_buildSlice_wd (d : Dn) (w : World) : (Instr.buildSlice 38 1 #[(0, .agg (widCells d))]).run Try.prog w = .ok (.slice (some ⟨w.heap.size, 0, none⟩) 1 1) (w.alloc (.cells (widCells d) 43)) := by kernel_rfl
/-- a call appended to a row: two operations -/
theorem wpList_pushN_wd {ops : Array Oper} {rest : List Oper} {o1 o2 : Oper} {a : Act} {w : World} {Q : Exit → Act → World → Prop} (h1 : o1.guard = none) (h2 : o2.guard = none) (x s : Operand) (t : Tmp) (hd : o1.dst = some t)
    (ho1 : o1.op = .buildSlice 38 1 #[(0, x)]) (ho2 : o2.op = .call { callee := .builtin .append, args := #[s, .tmp t], argTypes := #[38, 38] }) (d : Dn) (hx : a.eval x = .agg (widCells d))
    (v : Value) (l : List Dn) (base : Nat) (hs : (a.put (some t) (.slice (some ⟨w.heap.size, 0, none⟩) 1 1)).eval s = v) (hown : w.ownsRow base 43 10 v l.length (wcells l)) (ht : t < a.tmps.size) (hl : l.length ≤ 1000000000) (hb : base ≤ w.heap.size)
    (h : ∀ v' w', w'.ownsRow base 43 10 v' (l ++ [d]).length (wcells (l ++ [d])) → Keeps (fun k => v.ownBlock = some k) w w' → (v'.ownBlock = v.ownBlock ∨ ∃ i, v'.ownBlock = some i ∧ w.heap.size ≤ i) → wpList Try.prog ops Q rest ((a.put o1.dst (.slice (some ⟨w.heap.size, 0, none⟩) 1 1)).put o2.dst v') w') : wpList Try.prog ops Q (o1 :: o2 :: rest) a w := by
  obtain ⟨i0, hi, hz0, hz1, hz2⟩ := infoWd
  refine wpList_plain h1 fun K hK => ?_
  unfold Oper.wp execOp
  simp only [ho1, List.map_toArray, List.map_cons, List.map_nil, hx, Sem.run_bind, run_buildSlice_wd, Result.andThen_ok, Sem.run_pure]
  refine hK _ _ ?_
  rw [hd] at h ⊢
  have hk1 : Keeps (fun k => v.ownBlock = some k) w (w.alloc (.cells (widCells d) 43)) := (Keeps.refl _ w).alloc _
  have hown1 : (w.alloc (.cells (widCells d) 43)).ownsRow base 43 10 v l.length (wcells l) := own_keeps hown ((Keeps.refl (fun _ => False) w).alloc _) (fun _ _ h => h)
  have hrd : Reads (w.alloc (.cells (widCells d) 43)) (w.heap.size + 1) 10 (some ⟨w.heap.size, 0, none⟩) 1 (widCells d).toList := by
    refine ⟨rfl, fun _ => ⟨_, rfl, by show w.heap.size < _; omega, fun j u hu => ?_⟩⟩
    have hadd : (⟨w.heap.size, 0, none⟩ : Addr).add j = ⟨w.heap.size, j, none⟩ := by unfold Addr.add; split <;> simp_all
    rw [hadd, (Blk.new w (widCells d) 43).cell, ← hu, Array.getElem?_toList]
  refine wpList_append_any (w.alloc (.cells (widCells d) 43)) h2 s (.tmp t) 38 ho2 base 43 i0 _ 10 80 Try.underlying38 hi hz0 hz1 hz2 rfl (by decide) v l.length (wcells l) hs hown1 (w.heap.size + 1) (some ⟨w.heap.size, 0, none⟩) 1 1 (widCells d).toList (by simp [Act.put, Act.eval, ht]) hrd
    (fun u hu => by have := wdCells_one d; rw [Array.all_eq_true_iff_forall_mem] at this; exact this u (by simpa using hu)) (by unfold maxLen; omega) (by omega) (by simp; omega) ?_
  intro v' w' ho hg hnw
  refine h v' w' (by rw [List.length_append, wcells_app]; exact ho) (hk1.grown hg (fun k hk => .inl hk)) (hnw.imp (fun h => h) (fun h => ⟨_, h, by simp⟩))
/-- 101 noughts, as a text -/
def z101 : ByteArray := ⟨(List.replicate 101 (0 : UInt8)).toArray⟩
theorem z101_size : z101.size = 101 := by unfold z101; rfl
theorem make_z : ∃ M, (∀ W : World, (Instr.makeSlice 54 (.int .i64 101) (.int .i64 101)).run Try.prog W = .ok (.slice (some ⟨W.heap.size, 0, none⟩) 101 101) (W.alloc (.cells M 5))) ∧
    ∀ W : World, (convert 54 9 (.slice (some ⟨W.heap.size, 0, none⟩) 101 101)).run Try.prog (W.alloc (.cells M 5)) = .ok (.string z101) (W.alloc (.cells M 5)) := by
  obtain ⟨i0, hi, hz0, hz1, hz2⟩ : ∃ i, Try.prog.info? 5 = some i ∧ i.zero = some (.int .u8 0) ∧ i.size = 1 ∧ i.bytes = 1 := by
    have h1 : ((Try.prog.info? 5).map (·.size)) = some 1 := by kernel_rfl
    have h2 : ((Try.prog.info? 5).map (·.bytes)) = some 1 := by kernel_rfl
    have h3 : ((Try.prog.info? 5).bind (·.zero)) = some (.int .u8 0) := by kernel_rfl
    cases h : Try.prog.info? 5 with
    | none => rw [h] at h1; cases h1
    | some i =>
      rw [h] at h1 h2 h3
      exact ⟨i, rfl, by simpa using h3, by simpa using h1, by simpa using h2⟩
  obtain ⟨M, hM⟩ : ∃ M, M = madeCells (Value.int .u8 0).cells ((101 : Int).toNat * i0.size) := ⟨_, rfl⟩
  have hMl : M.toList = List.replicate 101 (.int .u8 0) := by
    rw [hM, hz1, Nat.mul_one]
    rw [show (Value.int .u8 0).cells = #[Value.int .u8 0] from rfl, toList_madeCells_one]
    rfl
  refine ⟨M, fun W => ?_, fun W => ?_⟩
  · have h := run_make (P := Try.prog) W 54 5 i0 (.int .u8 0) Try.underlying54 hi hz0 .i64 .i64 101 101 (by omega) (by omega) (by rw [hz2]; decide) (by omega)
    rw [← hM] at h
    simpa using h
  · refine run_convert_bytes_back (P := Try.prog) (W.alloc (.cells M 5)) 54 9 5 ⟨W.heap.size, 0, none⟩ 101 (List.replicate 101 (0 : UInt8)) Try.underlying54 Try.underlying5 Try.underlying9 (fun j hj => ?_)
    have e1 : (⟨W.heap.size, 0, none⟩ : Addr).add j = ⟨W.heap.size, j, none⟩ := by unfold Addr.add; split <;> simp_all
    rw [e1, (Blk.new W M 5).cell, ← Array.getElem?_toList, hMl]
    have hj' : j < 101 := by rwa [List.length_replicate] at hj
    rw [List.getElem?_replicate, if_pos hj', List.getElem_replicate]
    rfl
theorem u64_wrap_nn (x : Int) : 0 ≤ IntKind.u64.wrap x := by
  unfold IntKind.wrap
  simp [IntKind.signed, IntKind.bits]
  omega
theorem pick_k (i n : Nat) (x : Int) (hn : 0 < n) (h30 : n ≤ 1000) : ∃ q : Nat, wrap64 ((IntKind.u64.wrap ((i : Int) + x)).tmod (n : Int)) = (q : Int) ∧ q < n := by
  have h0 := u64_wrap_nn ((i : Int) + x)
  rw [Int.tmod_eq_emod_of_nonneg h0]
  have h1 := Int.emod_nonneg (IntKind.u64.wrap ((i : Int) + x)) (show (n : Int) ≠ 0 by omega)
  have h2 := Int.emod_lt_of_pos (IntKind.u64.wrap ((i : Int) + x)) (show (0 : Int) < n by omega)
  refine ⟨(IntKind.u64.wrap ((i : Int) + x) % (n : Int)).toNat, ?_, by omega⟩
  unfold wrap64
  omega
/-- an answer is laid over another one, in a row -/
theorem set_dns {w : World} {B g cap q : Nat} {e : TypeId} {ds : List Dn} (h : w.ownsRow B e 11 (.slice (some ⟨g, 0, none⟩) ds.length cap) ds.length (dcells ds)) (hq : q < ds.length) (v : ByteArray) :
    w.there g (q * 11 + 8) 3 ∧ RowAt (w.setCells g (q * 11 + 8) (reCells ⟨0, v, none, 0, []⟩).toList) (some ⟨g, 0, none⟩) ds.length 11 (fun i => dnCells ((ds.set q (spD (ds.getD q dnZ) v)).getD i dnZ)) := by
  obtain ⟨g', cap', hv, _, hlt, _, _, hl, hc, hf⟩ := own_shapeK h (by omega)
  obtain rfl : g = g' := by injection hv with h1; injection h1 with h1; injection h1
  have hth : w.there g (q * 11 + 8) 3 := fun j hj => by
    refine ⟨?_, hf _⟩
    rw [hc _ (by omega), List.getElem?_eq_getElem (by omega)]; rfl
  refine ⟨hth, fun _ => ⟨g, 0, rfl, ?_, fun i hi j hj => ?_⟩⟩
  · have : ∀ (vs : List Value) (o : Nat) (w : World), (w.setCells g o vs).heap.size = w.heap.size := by
      intro vs
      induction vs with
      | nil => intro o w; rfl
      | cons x r ih => intro o w; rw [World.setCells, ih]; simp
    rw [this]; exact hlt
  · have hg : (ds.set q (spD (ds.getD q dnZ) v)).getD i dnZ = if i = q then spD (ds.getD q dnZ) v else ds.getD i dnZ := by
      rw [List.getD_eq_getElem?_getD, List.getElem?_set, List.getD_eq_getElem?_getD]
      by_cases e : q = i
      · subst e; simp [hq]
      · rw [if_neg e, if_neg (fun h => e h.symm), List.getD_eq_getElem?_getD]
    show (w.setCells g (q * 11 + 8) (reCells ⟨0, v, none, 0, []⟩).toList).cell? ⟨g, 0 + i * 11 + j, none⟩ = (dnCells ((ds.set q (spD (ds.getD q dnZ) v)).getD i dnZ))[j]?
    rw [hg]
    by_cases hin : i = q ∧ 8 ≤ j
    · obtain ⟨rfl, h8⟩ := hin
      rw [if_pos rfl]
      have hj3 : j - 8 < (reCells ⟨0, v, none, 0, []⟩).toList.length := by show j - 8 < 3; omega
      have := World.cell?_setCells_in g (reCells ⟨0, v, none, 0, []⟩).toList (i * 11 + 8) w (fun k hk => (hth k (by have : k < 3 := hk; omega)).1) (j - 8) hj3
      rw [show 0 + i * 11 + j = i * 11 + 8 + (j - 8) by omega, this]
      match j, h8, hj with
      | 8, _, _ => rfl
      | 9, _, _ => rfl
      | 10, _, _ => rfl
    · have hout : (w.setCells g (q * 11 + 8) (reCells ⟨0, v, none, 0, []⟩).toList).cell? ⟨g, 0 + i * 11 + j, none⟩ = w.cell? ⟨g, 0 + i * 11 + j, none⟩ := World.cell?_setCells_out g (reCells ⟨0, v, none, 0, []⟩).toList (q * 11 + 8) w ⟨g, 0 + i * 11 + j, none⟩ (fun _ _ => by
        show 0 + i * 11 + j < q * 11 + 8 ∨ q * 11 + 8 + 3 ≤ 0 + i * 11 + j
        by_cases e : i = q
        · subst e; left; have : ¬ 8 ≤ j := fun h8 => hin ⟨rfl, h8⟩; omega
        · by_cases e2 : i < q
          · left; omega
          · right; omega)
      rw [hout, show 0 + i * 11 + j = i * 11 + j by omega, hc (i * 11 + j) (by omega), dcells_get ds i j hi hj]
      by_cases e : i = q
      · subst e
        rw [if_pos rfl]
        have h8 : j < 8 := by have : ¬ 8 ≤ j := fun h8 => hin ⟨rfl, h8⟩; omega
        match j, h8 with
        | 0, _ | 1, _ | 2, _ | 3, _ | 4, _ | 5, _ | 6, _ | 7, _ => rfl
      · rw [if_neg e]
theorem keeps_setCellsS {b : Nat} (vs : List Value) (o : Nat) (w : World) : Keeps (fun k => k = b) w (w.setCells b o vs) := keeps_setCells (S := fun k => k = b) (.inl rfl) vs o (Keeps.refl _ w)
set_option maxRecDepth 100000 in
set_option maxHeartbeats 16000000 in
theorem spoilt_v (l : List Dn) (at_ : Int) (a : Option Addr) (cap : Nat) (w : World) (hm : l.length ≤ 9223372036854775807) (hat : -9223372036854775808 ≤ at_ ∧ at_ ≤ 9223372036854775807) (hu : ∀ c ∈ l, U64P c.key) (hvs : ∀ c ∈ l, c.val.size ≤ maxLen) (hE : CasAt w a l) :
    Calls Try.prog 4 #[.slice a l.length cap, .int .i64 at_] w fun e w' => e = .returned (.bool true) ∧ Below w.heap.size w w' := by
  have HE := Lib.hid hE
  have HU := Lib.hid (And.intro hu (And.intro hvs hat))
  obtain ⟨n, hn⟩ : ∃ n, l.length = n := ⟨_, rfl⟩
  have HN := Lib.hid hn
  rw [hn] at hm ⊢
  clear hE hu hvs hat hn
  by_cases h30 : 30 < n
  · have hb : (30 : Int) < (n : Int) := by omega
    clear h30
    go_enter Try.func4, Try.ntmps4
    go_wp2_with (fail)
    refine (known_v w).mono ?_
    rintro e w1 ⟨rfl, hB⟩
    go_wp2_with (fail)
    go_ret
    exact ⟨rfl, hB⟩
  · have hb : ¬ (30 : Int) < (n : Int) := by omega
    have hb2 : (n : Int) ≤ 30 := by omega
    clear h30
    go_enter Try.func4, Try.ntmps4
    go_upto_region 4 with (fail)
    have hb1 := Blk.new w #[.slice none 0 0] 37
    have hB1 : Below w.heap.size w (w.alloc (.cells #[.slice none 0 0] 37)) := (Below.refl _ w).alloc (Nat.le_refl _) _
    generalize w.alloc (.cells #[.slice none 0 0] 37) = W1 at hb1 hB1 ⊢
    obtain ⟨bm, hbm⟩ : ∃ bm, w.heap.size = bm := ⟨_, rfl⟩
    rw [hbm] at hb1
    simp only [hbm]
    have HBm := Lib.hid hbm
    have HM1 := Lib.hid hb1
    have HB1 := Lib.hid hB1
    clear hbm hb1 hB1
    go_wp2_with (fail)
    go_loopw [6, 7] (fun uv iv wr => ∃ (k : Nat) (u : Value), k ≤ n ∧ iv = .int .i64 k ∧ uv = u ∧ Hid (wr.ownsRow W1.heap.size 43 10 u (l.take k).length (wcells (l.take k))) ∧ Hid (∀ c ∈ l.take k, c.val.size ≤ 100) ∧ Hid (Below W1.heap.size W1 wr)) (fun _ iv _ => n - (intOf iv).toNat)
    case atStart => exact ⟨0, _, Nat.zero_le _, rfl, rfl, Lib.hid (World.ownsRow_nil _ _ _ _), Lib.hid (fun c h => by (cases h)), Lib.hid (Below.refl _ _)⟩
    case round =>
      obtain ⟨k, u, hk, rfl, rfl, HO, HV, HB⟩ := hrel
      have HBw := Lib.hid (HB1.out.trans (HB.out.mono HB1.out.size))
      by_cases hkt : k < n
      · obtain ⟨g, o, rfl, hg, hc⟩ := CasAt.at_ (HE.out.below HBw.out) (k := k) (by have := HN.out; omega)
        obtain ⟨c, hcd⟩ : ∃ c, l.getD k dnZ = c := ⟨_, rfl⟩
        rw [hcd] at hc
        have x4 : wr.cell? ⟨g, o + k * 5 + 4, none⟩ = some (.string c.val) := hc 4 _ rfl
        have HCl := Lib.hid hc
        have HKt := Lib.hid hkt
        have HTk := Lib.hid (show l.take (k + 1) = l.take k ++ [c] from by rw [List.take_add_one, List.getElem?_eq_getElem (by have := HN.out; omega), ← getD_eq l k dnZ (by have := HN.out; omega), hcd]; rfl)
        have hkb : (k : Int) < (n : Int) := by omega
        clear hc hcd hkt hk
        by_cases h100 : 100 < c.val.size
        · have hcs : (100 : Int) < (c.val.size : Int) := by omega
          clear h100
          as_aux_lemma =>
            go_wp2_with (fail)
            refine (known_v _).mono ?_
            rintro e w2 ⟨rfl, hB⟩
            go_wp2_with (fail)
            go_ret
            exact ⟨rfl, HBw.out.trans (hB.mono HBw.out.size)⟩
        · have hcs : ¬ (100 : Int) < (c.val.size : Int) := by omega
          have HCs := Lib.hid (show c.val.size ≤ 100 by omega)
          clear h100
          obtain ⟨ua, um, uc, rfl⟩ := own_slice HO.out
          obtain ⟨i0, hi0, hz0, hz1, hz2⟩ := infoWd
          go_upto_region 10 with (fail)
          clear x4
          go_step
          refine wpList_plain rfl (fun K hK => ?_)
          go_simp
          refine hK _ _ ?_
          clear hK K
          refine wpList_plain rfl (fun K hK => ?_)
          go_simp
          refine hK _ _ ?_
          clear hK K
          refine wpList_plain rfl (fun K hK => ?_)
          go_simp
          refine hK _ _ ?_
          clear hK K
          refine wpList_idx_cal rfl rfl (.tmp 36) (.tmp 37) 38 rfl rfl rfl g o n cap k c (ev_tmp (by first | (simp [Act.put]; done) | rfl)) (ev_tmp (by first | (simp [Act.put]; done) | rfl)) HKt.out (by first | (simp [Act.put]; done) | rfl) HCl.out ?_
          unfold caCells
          refine wpList_plain rfl (fun K hK => ?_)
          go_simp
          refine hK _ _ ?_
          clear hK K
          refine wpList_pushN_wd rfl rfl (.tmp 40) (.tmp 35) 41 rfl rfl rfl c (ev_tmp (by first | (simp [Act.put, widCells]; done) | rfl)) _ (l.take k) W1.heap.size (ev_tmp (by first | (simp [Act.put]; done) | rfl)) HO.out (by first | (simp [Act.put]; done) | rfl) (by rw [List.length_take]; omega) HB.out.size ?_
          intro v6 w6 hO6 hK6 _
          have HO6 := Lib.hid hO6
          have HB6 := Lib.hid (below_keeps HB.out (Nat.le_refl _) hK6 (fun i hi => own_base HO.out i hi))
          clear hO6 hK6 hi0 hz0 hz1 hz2
          go_wp2_with (fail)
          go_roundw
          case rel => exact ⟨k + 1, _, HKt.out, by go_num, rfl, Lib.hid (by rw [HTk.out]; exact HO6.out), Lib.hid (fun x hx => by
            rw [HTk.out] at hx
            rcases List.mem_append.1 hx with h | h
            · exact HV.out x h
            · obtain rfl := List.mem_singleton.1 h; exact HCs.out), HB6⟩
          case measure => have := HKt.out; simp [intOf]; omega
      · obtain rfl : n = k := by omega
        have HTn := Lib.hid (show l.take n = l from List.take_of_length_le (by have := HN.out; omega))
        rw [HTn.out] at HO HV
        obtain ⟨ua, uc, rfl, hws, hwb⟩ := own_wds HO.out
        rw [HN.out]
        have hkb : ¬ (n : Int) < (n : Int) := by omega
        have hMr : MapV wr wr.heap.size bm (.slice none 0 0) [] := ⟨HM1.out.kept (Keeps.of_below' HB.out) (fun h => h), World.ownsRow_nil _ _ _ _, by have h1 := HM1.out.lt; have h2 := HB.out.size; omega, Nat.le_refl _⟩
        have HPl := Lib.hid (played_v wr.heap.size bm l ua uc wr hMr hws (fun g o e h => by have h1 := hwb g o e; have h2 := HM1.out.lt; omega) (by have := HN.out; omega))
        rw [HN.out] at HPl
        clear hws hwb hMr hkt hk
        go_upto_region 11 with (fail)
        go_wp2_with (fail)
        refine HPl.out.mono ?_
        rintro e2 w2 ⟨er, L, rfl, hkn, hps, hpo, hown, hds, haf, haa, hkp⟩
        go_simp
        go_step
        refine wpList_anew_er rfl rfl 8 (.tmp 45) rfl rfl rfl er (ev_tmp (by first | (simp [Act.put]; done) | rfl)) (by first | (simp [Act.put]; done) | rfl) ?_
        have hb8 := Blk.new w2 (erCells er) 46
        have hB8 : Below w2.heap.size w2 (w2.alloc (.cells (erCells er) 46)) := (Below.refl _ w2).alloc (Nat.le_refl _) _
        generalize w2.alloc (.cells (erCells er) 46) = w3 at hb8 hB8 ⊢
        obtain ⟨b8, hb8e⟩ : ∃ b8, w2.heap.size = b8 := ⟨_, rfl⟩
        rw [hb8e] at hb8
        simp only [hb8e]
        have hcl : er.cs.length = n := by rw [hps.len.1, HN.out]
        have HB8 := Lib.hid hb8
        have HOw := Lib.hid (own_keeps hown (Keeps.of_below' hB8) (fun _ _ h => h))
        have HDs := Lib.hid (fun d hd => show PrsAt w3 d.pa d.ps ∧ ∀ g o, d.pa = some ⟨g, o, none⟩ → (Value.slice er.ca er.cs.length er.cc).ownBlock ≠ some g from ⟨(hds d hd).1.below hB8, (hds d hd).2⟩)
        have HAf := Lib.hid (haf.below hB8)
        have HAa := Lib.hid haa
        have HPs := Lib.hid (And.intro hps (And.intro hpo hkn))
        have HCl := Lib.hid hcl
        have HK3 := Lib.hid (show Below w.heap.size w w3 from by
          have h1 : Below w.heap.size w w2 := ⟨hkp.os.trans HBw.out.os, hkp.tape.trans HBw.out.tape, hkp.output.trans HBw.out.output, Nat.le_trans HBw.out.size hkp.size, fun k hk1 => by
            rw [hkp.block k (Nat.lt_of_lt_of_le hk1 HBw.out.size) (fun e => by have e' : k = bm := e; have := HBm.out; omega)]
            exact HBw.out.block k hk1⟩
          exact h1.trans (hB8.mono h1.size))
        have HG8 := Lib.hid (show ∀ i, (Value.slice er.ca er.cs.length er.cc).ownBlock = some i → w.heap.size ≤ i ∧ i < b8 from fun i hi => ⟨Nat.le_trans HBw.out.size (own_base hown i hi), by rw [← hb8e]; exact own_ltS hown hi⟩)
        have c0 : w3.cell? ⟨b8, 0, none⟩ = some (.slice er.ca n er.cc) := by rw [hb8.cell, ← hcl]; rfl
        clear hkn hps hpo hown hds haf haa hkp hb8 hB8 hb8e hcl
        go_wp2_with (fail)
        go_loop [9] (fun iv => ∃ i : Nat, i ≤ n ∧ iv = .int .i64 i) (fun iv => n - (intOf iv).toNat)
        case atStart => exact ⟨0, Nat.zero_le _, rfl⟩
        case round =>
          obtain ⟨i, hi, rfl⟩ := hrel
          by_cases hit : i < n
          · have hib : (i : Int) < (n : Int) := by omega
            have HIt := Lib.hid hit
            clear hit hi
            go_upto_region 16 with (fail)
            obtain ⟨q, hq, hqn⟩ := pick_k i n (IntKind.u64.wrap at_) (by have := HIt.out; omega) (by omega)
            rw [hq]
            obtain ⟨g, cap9, hv9, hgB, hgl, _, _, _, _, _⟩ := own_shapeK HOw.out (by have := HCl.out; omega)
            have hca : er.ca = some ⟨g, 0, none⟩ := by injection hv9
            obtain ⟨d, hd⟩ : ∃ d, er.cs.getD q dnZ = d := ⟨_, rfl⟩
            have hqd : q < er.cs.length := by have := HCl.out; omega
            have hrow := own_dns HOw.out
            have HOg := Lib.hid (show w3.ownsRow wr.heap.size 53 11 (.slice (some ⟨g, 0, none⟩) er.cs.length er.cc) er.cs.length (dcells er.cs) from by rw [← hca]; exact HOw.out)
            have hcell : ∀ j v, j < 11 → (dnCells d)[j]? = some v → w3.cell? ⟨g, q * 11 + j, none⟩ = some v := fun j v hj hjv => by
              obtain ⟨a', c', e', hr', _⟩ := hrow
              have ea : er.ca = a' := by injection e'
              obtain ⟨g', o', e2, _, hc'⟩ := hr' (by omega)
              rw [← ea, hca] at e2
              cases e2
              have := hc' q hqd j hj
              rw [show 0 + q * 11 + j = q * 11 + j by omega] at this
              rw [this, ← hjv]
              show (dnCells (er.cs.getD q dnZ))[j]? = _
              rw [hd]
            have x1 : w3.cell? ⟨g, q * 11 + 1, none⟩ = some (.int .i64 d.op) := hcell 1 _ (by decide) rfl
            have HX2 := Lib.hid (hcell 2 _ (by decide) rfl : w3.cell? ⟨g, q * 11 + 2, none⟩ = some (.int .u64 d.key))
            have HQd := Lib.hid (And.intro hqd hd)
            have HGl := Lib.hid (show g < w3.heap.size ∧ w.heap.size ≤ g ∧ g < b8 from ⟨hgl, HG8.out g (by rw [hv9]; rfl)⟩)
            have HCa := Lib.hid hca
            rw [hca] at c0
            have hqb : (q : Int) < (n : Int) := by omega
            clear hq hqn hv9 hgB hgl hd hqd hrow hcell hca
            cases h2 : (d.op == 2) with
            | false =>
              go_wp2_with (fail)
              go_round
              case rel => exact ⟨i + 1, HIt.out, by go_num⟩
              case measure => have := HIt.out; simp [intOf]; omega
            | true =>
              have HOp := Lib.hid (show d.op = 2 from by simpa using h2)
              obtain ⟨M, hmk, hcv⟩ := make_z
              have hcv3 := hcv w3
              go_upto_region 18 with (fail)
              clear x1 c0
              go_step
              refine wpList_plain rfl (fun K hK => ?_)
              go_simp
              refine hK _ _ ?_
              clear hK K
              refine wpList_plain rfl (fun K hK => ?_)
              go_simp
              refine hK _ _ ?_
              clear hK K
              refine wpList_plain rfl (fun K hK => ?_)
              go_simp
              refine hK _ _ ?_
              clear hK K
              have hBm1 : Below w3.heap.size w3 (w3.alloc (.cells M 5)) := (Below.refl _ w3).alloc (Nat.le_refl _) _
              have HOg4 := Lib.hid (own_keeps HOg.out (Keeps.of_below' hBm1) (fun _ _ h => h))
              have HB84 := Lib.hid (HB8.out.kept (Keeps.of_below' hBm1) (fun h => h))
              have HB4 := Lib.hid hBm1
              generalize w3.alloc (.cells M 5) = w4 at HOg4 HB84 HB4 hcv3 hBm1 ⊢
              clear hcv3 hBm1 hmk hcv
              refine wpList_plain rfl (fun K hK => ?_)
              go_simp
              refine hK _ _ ?_
              clear hK K
              refine wpList_plain rfl (fun K hK => ?_)
              go_simp
              refine hK _ _ ?_
              clear hK K
              refine wpList_plain rfl (fun K hK => ?_)
              go_simp
              refine hK _ _ ?_
              clear hK K
              obtain ⟨hth, hset⟩ := set_dns HOg4.out HQd.out.1 z101
              refine wpList_store_mid rfl 51 (.tmp 77) (.tmp 75) rfl g (q * 11 + 8) (reCells ⟨0, z101, none, 0, []⟩) (ev_tmp (by first | (simp [Act.put]; done) | rfl)) (ev_tmp (by first | (simp [Act.put, reCells]; done) | rfl)) hth (by kernel_rfl) (reCells_one _) ?_
              have hks := keeps_setCellsS (b := g) (reCells ⟨0, z101, none, 0, []⟩).toList (q * 11 + 8) w4
              generalize w4.setCells g (q * 11 + 8) (reCells ⟨0, z101, none, 0, []⟩).toList = w5 at hset hks ⊢
              have hkw5 : Keeps (fun k => k = g) w3 w5 := ⟨hks.os.trans HB4.out.os, hks.tape.trans HB4.out.tape, hks.output.trans HB4.out.output, Nat.le_trans HB4.out.size hks.size, fun k hk1 hn1 => (hks.block k (Nat.lt_of_lt_of_le hk1 HB4.out.size) hn1).trans (HB4.out.block k hk1)⟩
              have HB85 := Lib.hid (HB84.out.kept hks (by show ¬ b8 = g; have := HGl.out; omega))
              obtain ⟨ds', hds'⟩ : ∃ ds', er.cs.set q (spD (er.cs.getD q dnZ) z101) = ds' := ⟨_, rfl⟩
              have hdl : ds'.length = er.cs.length := by rw [← hds', List.length_set]
              rw [hds'] at hset
              obtain ⟨er', her'⟩ : ∃ er', (⟨er.ca, er.cc, ds', er.aa, er.ac, er.af, er.kn⟩ : Er) = er' := ⟨_, rfl⟩
              have hec : erCells er = erCells er' := by rw [← her']; unfold erCells; rw [hdl]
              have HDn := Lib.hid (show DnsAt w5 er'.ca er'.cs ∧ PrsAt w5 er'.aa er'.af from by
                rw [← her']
                refine ⟨⟨?_, fun d hd => ?_⟩, ?_⟩
                · show RowAt w5 er.ca ds'.length 11 _
                  rw [HCa.out, hdl]; exact hset
                · have hd' : d ∈ ds' := hd
                  rw [← hds'] at hd'
                  rcases List.mem_or_eq_of_mem_set hd' with h1 | h1
                  · obtain ⟨k1, k2⟩ := HDs.out d h1
                    exact RowAt.kept k1 hkw5 (fun g' o' e x => by
                      have := k2 g' o' e
                      rw [HCa.out] at this
                      exact this (by have e' : g' = g := x; rw [e']; rfl))
                  · rw [h1]; exact PrsAt.nil _ _
                · exact RowAt.kept HAf.out hkw5 (fun g' o' e x => by
                    have := HAa.out g' o' e
                    rw [HCa.out] at this
                    exact this (by have e' : g' = g := x; rw [e']; rfl)))
              have HSp := Lib.hid (spoilt_all (er := er') (v := z101) HPs.out.1 HPs.out.2.1 (by have := HN.out; omega) HU.out.1 HV.out HQd.out.1 (by rw [HQd.out.2]; exact HOp.out) z101_size (by rw [← her', ← hds']) (by rw [← her']) (by rw [← her']; exact HPs.out.2.2))
              rw [HQd.out.2] at HSp
              have HKg := Lib.hid hkw5
              have HEc := Lib.hid hec
              have HX5 := Lib.hid hset
              have HDl := Lib.hid (And.intro hds' hdl)
              clear hth hset hks hkw5 hds' hdl her' hec
              go_upto_region 19 with (fail)
              go_step
              refine wpList_load_er rfl (.tmp 8) rfl b8 0 er (ev_tmp (by first | (simp [Act.put]; done) | rfl)) HB85.out.cellsAt ?_
              rw [HEc.out]
              refine wpList_bs1_er rfl (.tmp 79) rfl er' (ev_tmp (by first | (simp [Act.put]; done) | rfl)) ?_
              have hE6 := blk_ers (Blk.new w5 (ecellsE [er']).toArray 46) (fun e he => by
                obtain rfl := List.mem_singleton.1 he
                exact ⟨HDn.out.1.below ((Below.refl _ w5).alloc (Nat.le_refl _) _), HDn.out.2.below ((Below.refl _ w5).alloc (Nat.le_refl _) _)⟩)
              have hB6 : Below w5.heap.size w5 (w5.alloc (.cells (ecellsE [er']).toArray 46)) := (Below.refl _ w5).alloc (Nat.le_refl _) _
              generalize w5.alloc (.cells (ecellsE [er']).toArray 46) = w6 at hE6 hB6 ⊢
              generalize w5.heap.size = nb at hE6 ⊢
              have HEx := Lib.hid (explains_v [] [er'] none (some ⟨nb, 0, none⟩) 0 1 w6 HSp.out.h (fun a _ => HSp.out.u a) (PrsAt.nil _ _) hE6)
              have HW5 := Lib.hid (show Below w.heap.size w w5 from ⟨HKg.out.os.trans HK3.out.os, HKg.out.tape.trans HK3.out.tape, HKg.out.output.trans HK3.out.output, Nat.le_trans HK3.out.size HKg.out.size, fun k hk1 => (HKg.out.block k (Nat.lt_of_lt_of_le hk1 HK3.out.size) (fun e => by have e' : k = g := e; have := HGl.out; omega)).trans (HK3.out.block k hk1)⟩)
              have HW6 := Lib.hid (HW5.out.trans (hB6.mono HW5.out.size))
              have HX6 := Lib.hid (show w6.cell? ⟨g, q * 11 + 2, none⟩ = some (.int .u64 d.key) from by
                rw [hB6.cell (p := ⟨g, q * 11 + 2, none⟩) (Nat.lt_of_lt_of_le HGl.out.1 HKg.out.size)]
                obtain ⟨g', o', e2, _, hc'⟩ := HX5.out (by have := HQd.out.1; omega)
                cases e2
                have h9 := hc' q HQd.out.1 2 (by decide)
                rw [show 0 + q * 11 + 2 = q * 11 + 2 by omega] at h9
                rw [h9]
                show (dnCells (ds'.getD q dnZ))[2]? = _
                have h8 : ds'.getD q dnZ = spD d z101 := by
                  rw [← HDl.out.1, List.getD_eq_getElem?_getD, List.getElem?_set_self HQd.out.1, HQd.out.2]; rfl
                rw [h8]; rfl)
              have HGx := Lib.hid (show g < w6.heap.size from Nat.lt_of_lt_of_le HGl.out.1 (Nat.le_trans HKg.out.size hB6.size))
              clear hE6 hB6
              go_wp2_with (fail)
              refine HEx.out.mono ?_
              rintro e9 w7 ⟨b, k9, er9, rfl, hxp, hB7⟩
              obtain ⟨rfl, rfl, rfl⟩ := HSp.out.e _ _ _ hxp
              have HW7 := Lib.hid (HW6.out.trans (hB7.mono HW6.out.size))
              have x2 : w7.cell? ⟨g, q * 11 + 2, none⟩ = some (.int .u64 d.key) := (hB7.cell (p := ⟨g, q * 11 + 2, none⟩) HGx.out).trans HX6.out
              clear hxp hB7
              go_wp2_with (fail)
              refine (known_v w7).mono ?_
              rintro e10 w8 ⟨rfl, hB8⟩
              go_wp2_with (fail)
              go_ret
              exact ⟨rfl, HW7.out.trans (hB8.mono HW7.out.size)⟩
          · have hib : ¬ (i : Int) < (n : Int) := by omega
            clear hit hi c0
            go_wp2_with (fail)
            refine (known_v w3).mono ?_
            rintro e9 w9 ⟨rfl, hB9⟩
            go_wp2_with (fail)
            go_ret
            exact ⟨rfl, HK3.out.trans (hB9.mono HK3.out.size)⟩
end Go.Proofs.Ytdmcakoaakinnaa
