/-
  A copy of the set, and the old one, that goes on and is forgotten.
-/
import Derived.Test.YtdekjfbaoaobeaaAp
import Derived.Lib.SliceRun
namespace Go.Proofs.Ytdekjfbaoaobeaa
open Go.RowKit

/-- two sets that share nothing -/
def Pt (b : Nat) (v : Value) (b' : Nat) (v' : Value) : Prop := b ≠ b' ∧ v.ownBlock ≠ some b' ∧ v'.ownBlock ≠ some b ∧ ∀ g, v.ownBlock = some g → v'.ownBlock ≠ some g
theorem Pt.symm {b b' : Nat} {v v' : Value} (h : Pt b v b' v') : Pt b' v' b v := ⟨Ne.symm h.1, h.2.2.1, h.2.1, fun g h1 h2 => h.2.2.2 g h2 h1⟩
def Lo (B b : Nat) (v : Value) : Prop := B ≤ b ∧ ∀ g, v.ownBlock = some g → B ≤ g
def Hi (w : World) (b : Nat) (v : Value) : Prop := b < w.heap.size ∧ ∀ g, v.ownBlock = some g → g < w.heap.size
theorem Pt.fresh {w : World} {b b' : Nat} {v v' : Value} (h : Hi w b v) (k : Lo w.heap.size b' v') : Pt b v b' v' := by
  refine ⟨?_, fun e => ?_, fun e => ?_, fun g e1 e2 => ?_⟩
  · have := h.1; have := k.1; omega
  · have := h.2 _ e; have := k.1; omega
  · have := h.1; have := k.2 _ e; omega
  · have := h.2 _ e1; have := k.2 _ e2; omega
theorem Pt.step {b b' : Nat} {v v1 v' : Value} {w w' : World} (h : Pt b v b' v') (hs : HStep b v v1 w w') (hh : Hi w b' v') : Pt b v1 b' v' := by
  rcases hs.2 with e | e
  · unfold Pt; rw [e]; exact h
  · refine ⟨h.1, fun e1 => ?_, h.2.2.1, fun g e1 e2 => ?_⟩
    · have := e _ e1; have := hh.1; omega
    · have := e _ e1; have := hh.2 _ e2; omega
theorem HStep.lo {B b : Nat} {v v' : Value} {w w' : World} (h : HStep b v v' w w') (hl : Lo B b v) (hB : B ≤ w.heap.size) : Lo B b v' := ⟨hl.1, h.own hl.2 hB⟩
theorem HStep.hits {B b : Nat} {v v' : Value} {w w' : World} (h : HStep b v v' w w') (hl : Lo B b v) (hB : B ≤ w.heap.size) : Below B w w' := h.below hl.2 hl.1 hB (Below.refl _ _)
theorem SetV.hi {w : World} {b : Nat} {v : Value} {l : List Int} (h : SetV w b v l) : Hi w b v := ⟨h.hv.blk.lt, own_lt h.hv.row⟩
theorem AddV.hi {w : World} {b : Nat} {v : Value} {l : List Int} (h : AddV w b v l) : Hi w b v := ⟨h.blk.lt, own_lt h.row⟩
theorem Pt.clear {b b' : Nat} {v v' : Value} (p : Pt b v b' v') : ¬ (b' = b ∨ v.ownBlock = some b') := fun e => e.elim (fun e => p.1 e.symm) p.2.1
theorem Pt.clear2 {b b' : Nat} {v v' : Value} (p : Pt b v b' v') : ∀ g, v'.ownBlock = some g → ¬ (g = b ∨ v.ownBlock = some g) := fun g hg e => e.elim (fun e => p.2.2.1 (e ▸ hg)) (fun e => p.2.2.2 g e hg)
theorem SetV.other {b b' : Nat} {v v1 v' : Value} {l : List Int} {w w' : World} (h : SetV w b' v' l) (k : HStep b v v1 w w') (p : Pt b v b' v') : SetV w' b' v' l :=
  ⟨⟨h.hv.blk.kept k.1 p.clear, own_keeps h.hv.row k.1 p.clear2, h.hv.ne⟩, h.hp, h.nd⟩
theorem AddV.other {b b' : Nat} {v v1 v' : Value} {l : List Int} {w w' : World} (h : AddV w b' v' l) (k : HStep b v v1 w w') (p : Pt b v b' v') : AddV w' b' v' l :=
  ⟨h.blk.kept k.1 p.clear, own_keeps h.row k.1 p.clear2, h.ne⟩
theorem SetV.keep {w w' : World} {b : Nat} {v : Value} {l : List Int} (h : SetV w b v l) (hB : Below w.heap.size w w') : SetV w' b v l := ⟨h.hv.keep hB, h.hp, h.nd⟩
theorem SetV.perm {w : World} {b : Nat} {v : Value} {l : List Int} (h : SetV w b v l) : l.Nodup := h.nd

/-- rising lists -/
def Rises (l : List Int) : Prop := l.Pairwise (· < ·)
theorem Rises.nodup {l : List Int} (h : Rises l) : l.Nodup := List.Pairwise.imp (fun {a b} h => by omega) h
theorem Rises.srt {S L : List Int} (h : Rises L) (hp : S.Perm L) : srt S = L := by
  have hs : (Go.Proofs.Ytdekjfbaoaobeaa.srt S).Pairwise (fun x y => decide (x ≤ y) = true) := List.pairwise_mergeSort (by simp; omega) (by simp; omega) S
  have hl : L.Pairwise (fun x y => decide (x ≤ y) = true) := List.Pairwise.imp (fun {a b} h => by simp; omega) h
  exact List.Perm.eq_of_pairwise (by intro x y _ _ h1 h2; simp at h1 h2; omega) hs hl ((srt_perm S).trans hp)
def putS (l : List Int) (a : Int) : List Int := if a = 0 ∨ a ∈ l then l else a :: l
def putE (a : Int) : Int := if a = 0 then 2 else 0
theorem putS_len (l : List Int) (a : Int) : (putS l a).length ≤ l.length + 1 := by unfold putS; split <;> simp
theorem putS_perm {l l' : List Int} (a : Int) (h : l.Perm l') : (putS l a).Perm (putS l' a) := by
  unfold putS
  by_cases ha : a = 0 ∨ a ∈ l
  · have : a = 0 ∨ a ∈ l' := ha.imp id (fun e => h.mem_iff.1 e)
    rw [if_pos ha, if_pos this]; exact h
  · have : ¬ (a = 0 ∨ a ∈ l') := fun e => ha (e.imp id (fun e => h.mem_iff.2 e))
    rw [if_neg ha, if_neg this]; exact h.cons a
theorem putS_mem {l : List Int} {a x : Int} : x ∈ putS l a ↔ x ∈ l ∨ (x = a ∧ a ≠ 0) := by
  unfold putS
  by_cases h0 : a = 0
  · simp [h0]
  by_cases hm : a ∈ l
  · rw [if_pos (.inr hm)]
    exact ⟨.inl, fun e => e.elim id fun e => e.1 ▸ hm⟩
  · rw [if_neg (fun e => e.elim h0 hm), List.mem_cons]
    exact ⟨fun e => e.elim (fun e => .inr ⟨e, h0⟩) .inl, fun e => e.elim .inr fun e => .inl e.1⟩
theorem PutAt.rises {l : List Int} {a : Int} {k : Nat} (h : PutAt l a k) (hr : Rises l) (hm : a ∉ l) : Rises (l.take k ++ a :: l.drop k) := by
  obtain ⟨hk, hlo, hhi⟩ := h
  have h1 : ∀ x ∈ l.take k, x < a := by
    intro x hx
    obtain ⟨i, hi, e⟩ := List.getElem_of_mem hx
    have hi2 : i < k := by simp at hi; omega
    have := hlo i hi2
    rw [List.getElem_take] at e
    simp [show i < l.length by omega] at this
    omega
  have h2 : ∀ y ∈ l.drop k, a < y := by
    intro y hy
    obtain ⟨i, hi, e⟩ := List.getElem_of_mem hy
    rw [List.getElem_drop] at e
    simp at hi
    have hkl : k < l.length := by omega
    have h3 := hhi hkl
    simp [hkl] at h3
    have h4 : l[k] ≤ y := by
      rcases Nat.eq_zero_or_pos i with rfl | hi0
      · simp at e; omega
      · have := List.pairwise_iff_getElem.1 hr k (k + i) hkl (by omega) (by omega)
        omega
    have h5 : a ≠ l[k] := fun e => hm (e ▸ List.getElem_mem _)
    omega
  refine List.pairwise_append.2 ⟨hr.sublist (List.take_sublist k l), List.pairwise_cons.2 ⟨h2, hr.sublist (List.drop_sublist k l)⟩, ?_⟩
  intro x hx y hy
  have := h1 x hx
  rcases List.mem_cons.1 hy with rfl | hy
  · exact this
  · have := h2 y hy; omega
theorem PutAt.perm {l : List Int} {a : Int} {k : Nat} (hm : a ∉ l) (h0 : a ≠ 0) : (l.take k ++ a :: l.drop k).Perm (putS l a) := by
  unfold putS
  rw [if_neg (fun e => e.elim h0 hm)]
  have := List.perm_middle (a := a) (l₁ := l.take k) (l₂ := l.drop k)
  rwa [List.take_append_drop] at this
theorem dropL_rises {l : List Int} (h : Rises l) (a : Int) : Rises (dropL l a) := h.sublist List.filter_sublist
theorem dropL_perm {S L : List Int} (hd : S.Nodup) (hp : S.Perm L) (a : Int) : (S.erase a).Perm (dropL L a) := by
  rw [hd.erase_eq_filter]
  exact hp.filter _
theorem Rises.tail {l : List Int} (h : Rises l) : Rises l.tail := h.sublist (List.tail_sublist l)

/-- the document's Put, whatever it is asked -/
def APutP (b : Nat) (v : Value) (l : List Int) (a : Int) (w w' : World) : Prop := ∃ l', Rises l' ∧ l'.Perm (putS l a) ∧ ASetP b v l' w w'
theorem aput_v (b : Nat) (v : Value) (l : List Int) (a : Int) (w : World) (h : AddV w b v l) (hr : Rises l) (hn : l.length ≤ 1000000) :
    Calls Try.prog 29 #[.pointer (some ⟨b, 0, none⟩), .int .u64 a] w fun e w' => e = .returned (.int .i64 (putE a)) ∧ APutP b v l a w w' := by
  by_cases h0 : a = 0
  · subst h0
    refine (aput_zero b w).mono ?_
    rintro e w' ⟨rfl, rfl⟩
    exact ⟨rfl, l, hr, by simp [putS], v, h, HStep.refl _ _ _⟩
  have hE : putE a = 0 := if_neg h0
  rw [hE]
  by_cases hm : a ∈ l
  · refine (aput_in b v l a w h hn h0 hm).mono ?_
    rintro e w' ⟨rfl, rfl⟩
    exact ⟨rfl, l, hr, by simp [putS, hm], v, h, HStep.refl _ _ _⟩
  · obtain ⟨hl, ⟨e, hz⟩ | ⟨g, cap, cur, e, _, _, h1, h2, _⟩⟩ := h.row
    · subst e
      have : l = [] := List.eq_nil_of_length_eq_zero hz
      subst this
      refine (aput_new_nil b a w h h0).mono ?_
      rintro e w' ⟨rfl, k, hk, hp⟩
      exact ⟨rfl, _, hk.rises hr hm, PutAt.perm hm h0, hp⟩
    · subst e
      refine (aput_new_some b g cap l a w h hn h1 h2 h0 hm).mono ?_
      rintro e w' ⟨rfl, k, hk, hp⟩
      exact ⟨rfl, _, hk.rises hr hm, PutAt.perm hm h0, hp⟩

/-- f's set is S, s's list is L; all of both lies from B on -/
def Two (B b : Nat) (S : List Int) (sb : Nat) (L : List Int) (w : World) : Prop :=
  ∃ v l u, SetV w b v l ∧ l.Perm S ∧ AddV w sb u L ∧ Pt b v sb u ∧ Lo B b v ∧ Lo B sb u ∧ B ≤ w.heap.size
theorem Two.perm {B b sb : Nat} {S S' L : List Int} {w : World} (h : Two B b S sb L w) (hp : S.Perm S') : Two B b S' sb L w := by
  obtain ⟨v, l, u, h1, h2, h3⟩ := h
  exact ⟨v, l, u, h1, h2.trans hp, h3⟩
theorem Two.keep {B b sb : Nat} {S L : List Int} {w w' : World} (h : Two B b S sb L w) (hB : Below w.heap.size w w') : Two B b S sb L w' := by
  obtain ⟨v, l, u, h1, h2, h3, h4, h5, h6, h7⟩ := h
  exact ⟨v, l, u, h1.keep hB, h2, h3.keep hB, h4, h5, h6, Nat.le_trans h7 hB.size⟩
theorem Two.size {B b sb : Nat} {S L : List Int} {w : World} (h : Two B b S sb L w) : B ≤ w.heap.size := by
  obtain ⟨v, l, u, h1, h2, h3, h4, h5, h6, h7⟩ := h
  exact h7
theorem Two.nodup {B b sb : Nat} {S L : List Int} {w : World} (h : Two B b S sb L w) : S.Nodup := by
  obtain ⟨v, l, u, h1, h2, _⟩ := h
  exact h2.nodup_iff.1 h1.nd
theorem below_keeps {B : Nat} {w w' : World} (h : Below B w w') : Keeps (fun k => B ≤ k) w w' := Keeps.of_below h
/-- a store elsewhere -/
theorem Two.set {B b sb g i : Nat} {S L : List Int} {w : World} (h : Two B b S sb L w) (hg : g < B) (x : Value) : Two B b S sb L (w.setCell ⟨g, i, none⟩ x) := by
  obtain ⟨v, l, u, h1, h2, h3, h4, h5, h6, h7⟩ := h
  have hk : Keeps (fun k => k = g) w (w.setCell ⟨g, i, none⟩ x) := (Keeps.refl (fun k => k = g) w).setCell (p := ⟨g, i, none⟩) (.inl rfl) x
  refine ⟨v, l, u, ⟨⟨h1.hv.blk.kept hk ?_, own_keeps h1.hv.row hk ?_, h1.hv.ne⟩, h1.hp, h1.nd⟩, h2, ⟨h3.blk.kept hk ?_, own_keeps h3.row hk ?_, h3.ne⟩, h4, h5, h6, by simpa [World.setCell] using h7⟩
  · have := h5.1; omega
  · intro r hr; have := h5.2 r hr; omega
  · have := h6.1; omega
  · intro r hr; have := h6.2 r hr; omega
theorem Two.fstep {B b sb : Nat} {S' L : List Int} {w w' : World} {v v' u : Value} {l' : List Int} (hs : HStep b v v' w w') (h1 : SetV w' b v' l') (hp : l'.Perm S') (h3 : AddV w sb u L) (h4 : Pt b v sb u) (h5 : Lo B b v) (h6 : Lo B sb u) (h7 : B ≤ w.heap.size) :
    Two B b S' sb L w' ∧ Below B w w' :=
  ⟨⟨v', l', u, h1, hp, h3.other hs h4, h4.step hs h3.hi, hs.lo h5 h7, h6, Nat.le_trans h7 hs.1.size⟩, hs.hits h5 h7⟩
theorem Two.sstep {B b sb : Nat} {S L' l : List Int} {w w' : World} {v u u' : Value} (h1 : SetV w b v l) (hp : l.Perm S) (hs : HStep sb u u' w w') (h3 : AddV w' sb u' L') (h4 : Pt b v sb u) (h5 : Lo B b v) (h6 : Lo B sb u) (h7 : B ≤ w.heap.size) :
    Two B b S sb L' w' ∧ Below B w w' :=
  ⟨⟨v, l, u', h1.other hs h4.symm, hp, h3, (h4.symm.step hs h1.hi).symm, h5, hs.lo h6 h7, Nat.le_trans h7 hs.1.size⟩, hs.hits h6 h7⟩

theorem two_fput {B b sb : Nat} {S L : List Int} {w : World} (a : Int) (h : Two B b S sb L w) (hn : S.length ≤ 1000) :
    Calls Try.prog 30 #[.pointer (some ⟨b, 0, none⟩), .int .u64 a] w fun e w' => e = .returned (.int .i64 (putE a)) ∧ Two B b (putS S a) sb L w' ∧ Below B w w' := by
  by_cases h0 : a = 0
  · subst h0
    refine (put_zero b w).mono ?_
    rintro e w' ⟨rfl, rfl⟩
    exact ⟨rfl, by rw [show putS S 0 = S from by simp [putS]]; exact h, Below.refl _ _⟩
  obtain ⟨v, l, u, h1, h2, h3, h4, h5, h6, h7⟩ := h
  refine (put_v b v l a w h1 (by rw [h2.length_eq]; omega) h0).mono ?_
  rintro e w' ⟨rfl, v', l', hs', hp', hst⟩
  refine ⟨by rw [show putE a = 0 from if_neg h0], Two.fstep hst hs' ?_ h3 h4 h5 h6 h7⟩
  refine hp'.trans ?_
  have : (if a ∈ l then l else a :: l) = putS l a := by simp [putS, h0]
  rw [this]
  exact putS_perm a h2
theorem two_ftake {B b sb : Nat} {S L L2 : List Int} {w : World} (h : Two B b S sb L2 w) (hp : S.Perm L) (hr : Rises L) (hn : S.length ≤ 1000) :
    Calls Try.prog 26 #[.pointer (some ⟨b, 0, none⟩)] w fun e w' => e = .returned (.tuple #[.int .u64 (L.headD 0), .bool (!L.isEmpty)]) ∧ Two B b L.tail sb L2 w' ∧ Below B w w' := by
  have h0 := h
  obtain ⟨v, l, u, h1, h2, h3, h4, h5, h6, h7⟩ := h
  cases L with
  | nil =>
    have e1 : S = [] := hp.eq_nil
    subst e1
    have e2 : l = [] := h2.eq_nil
    subst e2
    refine (take_none b v w h1).mono ?_
    rintro e w' ⟨rfl, rfl⟩
    exact ⟨rfl, h0, Below.refl _ _⟩
  | cons a T =>
    have hpl := h2.trans hp
    have hl := hpl.length_eq
    refine (take_some b v l w h1 (by rw [h2.length_eq]; omega) (by intro e; subst e; simp at hl)).mono ?_
    rintro e w' ⟨x, rfl, hx, hmin, v', l', hs', hp', hst⟩
    have h8 := hmin a (hpl.mem_iff.2 (by simp))
    have h9 : a ≤ x := by
      rcases List.mem_cons.1 (hpl.mem_iff.1 hx) with e | e
      · omega
      · have := (List.pairwise_cons.1 hr).1 x e; omega
    obtain rfl : x = a := by omega
    exact ⟨rfl, Two.fstep hst hs' ((hp'.symm.trans hpl).cons_inv) h3 h4 h5 h6 h7⟩
theorem two_fdrop {B b sb : Nat} {S L L2 : List Int} {w : World} (a : Int) (h : Two B b S sb L2 w) (hp : S.Perm L) (hn : S.length ≤ 1000) :
    Calls Try.prog 24 #[.pointer (some ⟨b, 0, none⟩), .int .u64 a] w fun e w' => e = .returned (.bool (decide (a ∈ L))) ∧ Two B b (dropL L a) sb L2 w' ∧ Below B w w' := by
  obtain ⟨v, l, u, h1, h2, h3, h4, h5, h6, h7⟩ := h
  have hpl := h2.trans hp
  refine (drop_v b v l a w h1 (by rw [h2.length_eq]; omega)).mono ?_
  rintro e w' ⟨rfl, v', l', hs', hp', hst⟩
  exact ⟨by rw [show decide (a ∈ l) = decide (a ∈ L) from decide_eq_decide.2 hpl.mem_iff], Two.fstep hst hs' (hp'.trans (dropL_perm h1.nd hpl a)) h3 h4 h5 h6 h7⟩
theorem two_fhas {B b sb : Nat} {S L L2 : List Int} {w : World} (a : Int) (h : Two B b S sb L2 w) (hp : S.Perm L) (hn : S.length ≤ 1000) :
    Calls Try.prog 27 #[.pointer (some ⟨b, 0, none⟩), .int .u64 a] w fun e w' => e = .returned (.bool (decide (a ∈ L))) ∧ Below w.heap.size w w' := by
  have h0 := h
  obtain ⟨v, l, u, h1, h2, h3, h4, h5, h6, h7⟩ := h
  have hpl := h2.trans hp
  refine (has_v b v l a w h1.hv (by rw [h2.length_eq]; omega)).mono ?_
  rintro e w' ⟨rfl, hB⟩
  exact ⟨by rw [show decide (a ∈ l) = decide (a ∈ L) from decide_eq_decide.2 hpl.mem_iff], hB⟩
theorem two_flen {B b sb : Nat} {S L2 : List Int} {w : World} (h : Two B b S sb L2 w) (n : Nat) (hp : S.length = n) :
    Calls Try.prog 28 #[.pointer (some ⟨b, 0, none⟩)] w fun e w' => e = .returned (.int .i64 n) ∧ w = w' := by
  obtain ⟨v, l, u, h1, h2, h3⟩ := h
  rw [← hp, ← h2.length_eq]
  exact flen_v b v l w h1.hv
/-- All's answer beside both -/
def TwoAll (B b : Nat) (S : List Int) (sb : Nat) (L2 L : List Int) (e : Ending) (w w' : World) : Prop :=
  ∃ a c, e = .returned (.slice a L.length c) ∧ w'.ownsRow w.heap.size 39 1 (.slice a L.length c) L.length (L.map (Value.int .u64)) ∧ Two B b S sb L2 w' ∧ Below w.heap.size w w'
theorem two_fall {B b sb : Nat} {S L L2 : List Int} {w : World} (h : Two B b S sb L2 w) (hp : S.Perm L) (hr : Rises L) (hn : S.length ≤ 1000) :
    Calls Try.prog 25 #[.pointer (some ⟨b, 0, none⟩)] w fun e w' => TwoAll B b S sb L2 L e w w' := by
  have h0 := h
  obtain ⟨v, l, u, h1, h2, h3, h4, h5, h6, h7⟩ := h
  refine (fall_v b v l w h1 (by rw [h2.length_eq]; omega)).mono ?_
  rintro e w' ⟨x, rfl, ho, hB⟩
  rw [hr.srt (h2.trans hp)] at ho
  obtain ⟨a, n, c, rfl⟩ := own_slice ho
  have hn2 : n = L.length := own_len ho
  subst hn2
  exact ⟨a, c, rfl, ho, h0.keep hB, hB⟩
theorem two_sput {B b sb : Nat} {S L : List Int} {w : World} (a : Int) (h : Two B b S sb L w) (hr : Rises L) (hn : L.length ≤ 1000) :
    Calls Try.prog 29 #[.pointer (some ⟨sb, 0, none⟩), .int .u64 a] w fun e w' => e = .returned (.int .i64 (putE a)) ∧ ∃ L', Rises L' ∧ L'.Perm (putS L a) ∧ Two B b S sb L' w' ∧ Below B w w' := by
  obtain ⟨v, l, u, h1, h2, h3, h4, h5, h6, h7⟩ := h
  refine (aput_v sb u L a w h3 hr (by omega)).mono ?_
  rintro e w' ⟨rfl, L', hr', hp', u', hs', hst⟩
  exact ⟨rfl, L', hr', hp', Two.sstep h1 h2 hst hs' h4 h5 h6 h7⟩
theorem two_stake {B b sb : Nat} {S L : List Int} {w : World} (h : Two B b S sb L w) (hn : L.length ≤ 1000) :
    Calls Try.prog 31 #[.pointer (some ⟨sb, 0, none⟩)] w fun e w' => e = .returned (.tuple #[.int .u64 (L.headD 0), .bool (!L.isEmpty)]) ∧ Two B b S sb L.tail w' ∧ Below B w w' := by
  have h0 := h
  obtain ⟨v, l, u, h1, h2, h3, h4, h5, h6, h7⟩ := h
  cases L with
  | nil =>
    refine (atake_none sb u w h3).mono ?_
    rintro e w' ⟨rfl, rfl⟩
    exact ⟨rfl, h0, Below.refl _ _⟩
  | cons a T =>
    refine (atake_some sb u a T w h3 (by simp at hn; omega)).mono ?_
    rintro e w' ⟨rfl, u', hs', hst⟩
    exact ⟨rfl, Two.sstep h1 h2 hst hs' h4 h5 h6 h7⟩
theorem two_sdrop {B b sb : Nat} {S L : List Int} {w : World} (a : Int) (h : Two B b S sb L w) (hn : L.length ≤ 1000) :
    Calls Try.prog 32 #[.pointer (some ⟨sb, 0, none⟩), .int .u64 a] w fun e w' => e = .returned (.bool (decide (a ∈ L))) ∧ Two B b S sb (dropL L a) w' ∧ Below B w w' := by
  obtain ⟨v, l, u, h1, h2, h3, h4, h5, h6, h7⟩ := h
  refine (adrop_v sb u L a w h3 (by omega)).mono ?_
  rintro e w' ⟨rfl, u', hs', hst⟩
  exact ⟨rfl, Two.sstep h1 h2 hst hs' h4 h5 h6 h7⟩
theorem two_shas {B b sb : Nat} {S L : List Int} {w : World} (a : Int) (h : Two B b S sb L w) (hn : L.length ≤ 1000) :
    Calls Try.prog 34 #[.pointer (some ⟨sb, 0, none⟩), .int .u64 a] w fun e w' => e = .returned (.bool (decide (a ∈ L))) ∧ w = w' := by
  obtain ⟨v, l, u, h1, h2, h3, h4, h5, h6, h7⟩ := h
  exact ahas_v sb u L a w h3 (by omega)
/-- the document's list, as it lies -/
theorem Two.lies {B b sb : Nat} {S L : List Int} {w : World} (h : Two B b S sb L w) : ∃ a c, w.cell? ⟨sb, 0, none⟩ = some (.slice a L.length c) ∧ ReadL w a L := by
  obtain ⟨v, l, u, h1, h2, h3, _⟩ := h
  obtain ⟨a, c, rfl⟩ := h3.slice
  refine ⟨a, c, h3.cell, ?_⟩
  rcases Nat.eq_zero_or_pos L.length with h0 | h0
  · exact .inl (List.eq_nil_of_length_eq_zero h0)
  · obtain ⟨g, cap, e, _⟩ := h3.at h0
    cases e
    refine .inr ⟨g, 0, rfl, own_lt h3.row g rfl, fun j hj => ?_⟩
    obtain ⟨g', cap', e', hc⟩ := h3.at hj
    cases e'
    simpa using hc
theorem ReadL.of_own {w : World} {base : Nat} {a : Option Addr} {c : Nat} {L : List Int} (h : w.ownsRow base 39 1 (.slice a L.length c) L.length (L.map (Value.int .u64))) : ReadL w a L := by
  rcases Nat.eq_zero_or_pos L.length with h0 | h0
  · exact .inl (List.eq_nil_of_length_eq_zero h0)
  · obtain ⟨g, cap, e, _, hg, _, _, _, hc, _⟩ := own_shape h h0
    cases e
    exact .inr ⟨g, 0, rfl, own_lt h g rfl, fun j hj => by rw [Nat.zero_add, hc j hj]; simp [hj]⟩
end Go.Proofs.Ytdekjfbaoaobeaa
namespace Go.Proofs.Ytdekjfbaoaobeaa
open Go.RowKit

set_option maxRecDepth 100000 in
set_option maxHeartbeats 1000000 in
theorem asame_v (a1 a2 : Option Addr) (c1 c2 : Nat) (L : List Int) (w : World) (h1 : ReadL w a1 L) (h2 : ReadL w a2 L) (hn : L.length ≤ 1000000) :
    Calls Try.prog 35 #[.slice a1 L.length c1, .slice a2 L.length c2] w fun e w' => e = .returned (.bool true) ∧ ∃ q, w' = w.drewN q := by
  have H1 := Lib.hid h1
  have H2 := Lib.hid h2
  clear h1 h2
  go_enter Try.func35, Try.ntmps35
  go_wp2_with (fail)
  go_loopw [5] (fun jv wr => ∃ k q : Nat, jv = .int .i64 k ∧ k ≤ L.length ∧ wr = w.drewN q) (fun jv _ => L.length - (intOf jv).toNat)
  case atStart => exact ⟨0, 0, rfl, Nat.zero_le _, rfl⟩
  case round =>
    obtain ⟨k, q, rfl, hk, rfl⟩ := hrel
    by_cases hlt : k < L.length
    · obtain ⟨g, o, rfl, hg, hc⟩ := H1.out.at hlt
      obtain ⟨g2, o2, rfl, hg2, hc2⟩ := H2.out.at hlt
      obtain ⟨x, hx⟩ : ∃ x, L.getD k 0 = x := ⟨_, rfl⟩
      rw [hx] at hc hc2
      have b1 : (k : Int) < (L.length : Int) := by omega
      have b2 : (0 : Int) ≤ (k : Int) := by omega
      have b3 : ((k : Int)).toNat = k := by omega
      have HLT := Lib.hid hlt
      clear hx hlt
      go_wp2_with (fail)
      go_quiet (fail)
      go_wp2_with (fail)
      go_roundw
      case rel => exact ⟨k + 1, _, by go_num, HLT.out, by first | rfl | exact World.drewN_drewN _ _ _⟩
      case measure => have := HLT.out; simp [intOf]; omega
    · have hk2 : k = L.length := by omega
      subst hk2
      go_wp2_with (fail)
      go_ret
      exact ⟨rfl, q, rfl⟩

set_option maxRecDepth 100000 in
set_option maxHeartbeats 1000000 in
theorem aclone_v (v : Value) (l : List Int) (w : World) (h : w.ownsRow 0 39 1 v l.length (l.map (Value.int .u64))) (hn : l.length ≤ 1000000) :
    Calls Try.prog 46 #[v] w fun e w' => ∃ v', e = .returned v' ∧ w'.ownsRow w.heap.size 39 1 v' l.length (l.map (Value.int .u64)) ∧ Below w.heap.size w w' := by
  obtain ⟨i0, hi, hz0, hz1, hz2⟩ := info_parts Try.infoA
  have hq : ∀ (w : World) (a : Option Addr) (n c n' c' : Nat), (binOp .eql 56 (.slice a n c) (.slice none n' c')).run Try.prog w = .ok (.bool a.isNone) w := fun w a n c n' c' => Lib.run_eql_slice_nil w _ _ a n c n' c' Try.underlying56
  have hr : ∀ a c, v = .slice a l.length c → Reads w w.heap.size 1 a l.length (l.map (Value.int .u64)) := fun a c e => by subst e; exact Reads.of_own h
  obtain ⟨hl, ⟨rfl, h0⟩ | ⟨g, cap, cur, rfl, hb, hg, h1, h2, hsz, ht⟩⟩ := h
  · have : l = [] := List.eq_nil_of_length_eq_zero h0
    subst this
    go_enter Try.func46, Try.ntmps46
    go_wp2_with (fail)
    go_ret
    exact ⟨_, rfl, World.ownsRow_nil _ _ _ _, Below.refl _ _⟩
  · have HR := Lib.hid (hr _ _ rfl)
    clear hr hl hb hg hsz ht
    go_enter Try.func46, Try.ntmps46
    go_wp2_with (at_builtin; refine wpList_append_own _ rfl _ _ 56 rfl w.heap.size 39 i0 (.int .u64 0) 1 8 Try.underlying56 hi hz0 hz1 hz2 rfl (by decide) _ _ _ rfl (World.ownsRow_made w #[] 0 (Nat.le_refl _) (Nat.zero_le _) (by simp)) ⟨g, 0, none⟩ l.length cap (l.map (Value.int .u64)) rfl ?qc1 ?qc2 ?qc3 ?qc4 ?qc5 ?qc6 ?_)
    case qc1 => simp
    case qc2 =>
      intro j u hj
      obtain ⟨ad, hA, hb, hcc⟩ := HR.out.2 (by have := (List.getElem?_eq_some_iff.1 hj).1; simp at this; omega)
      cases hA
      have := hcc j u hj
      rw [Addr.add_lit] at this ⊢
      exact Lib.cell?_alloc_some _ this
    case qc3 => exact ints_oneCell .u64 l
    case qc4 => unfold maxLen; omega
    case qc5 => omega
    case qc6 => simp
    intro v' w1 hown hgrow hnil
    obtain ⟨a3, n3, c3, rfl⟩ := own_slice hown
    have HO := Lib.hid hown
    have HB := Lib.hid ((((Below.refl _ w).alloc (Nat.le_refl _) _).grown hgrow (by simp) (by intro k hk; simp [Value.ownBlock] at hk; omega)) : Below w.heap.size w w1)
    clear hown hgrow hnil
    go_wp2_with (fail)
    go_ret
    exact ⟨_, rfl, by simpa using HO.out, HB.out⟩

theorem fcopy_v (b : Nat) (v : Value) (l : List Int) (w : World) (h : SetV w b v l) (hn : l.length ≤ 1000000) :
    Calls Try.prog 33 #[.pointer (some ⟨b, 0, none⟩)] w fun e w' => ∃ b2 v2, e = .returned (.pointer (some ⟨b2, 0, none⟩)) ∧ SetV w' b2 v2 l ∧ Lo w.heap.size b2 v2 ∧ Below w.heap.size w w' := by
  have hc := h.hv.cell
  have HC := Lib.hid (aclone_v v l w h.hv.row hn)
  obtain ⟨a1, c1, rfl⟩ := h.hv.slice
  have HP := Lib.hid h.hp
  have HD := Lib.hid h.nd
  clear h
  go_enter Try.func33, Try.ntmps33
  go_wp2_with (fail)
  refine HC.out.mono ?_
  rintro e w1 ⟨v1, rfl, ho, hB⟩
  have HO := Lib.hid ho
  have HB := Lib.hid hB
  obtain ⟨a3, n3, c3, rfl⟩ := own_slice ho
  clear ho hB
  go_wp2_with (fail)
  go_ret
  have hsz := HB.out.size
  refine ⟨_, _, rfl, ⟨⟨Blk.new w1 #[.slice a3 n3 c3] 58, own_mono (HO.out.alloc _) (Nat.zero_le _), fun e => ?_⟩, HP.out, HD.out⟩, ⟨hsz, fun g hg => own_base HO.out g hg⟩, HB.out.alloc hsz _⟩
  have := own_lt HO.out _ e
  omega
end Go.Proofs.Ytdekjfbaoaobeaa
namespace Go.Proofs.Ytdekjfbaoaobeaa
open Go.RowKit

def Copied (B b b2 : Nat) (S : List Int) (sb : Nat) (L : List Int) (w : World) : Prop :=
  ∃ v l v2 l2 u, SetV w b v l ∧ l.length ≤ 1000 ∧ SetV w b2 v2 l2 ∧ l2.Perm S ∧ AddV w sb u L ∧ Pt b v b2 v2 ∧ Pt b v sb u ∧ Pt b2 v2 sb u ∧ Lo B b v ∧ Lo B b2 v2 ∧ Lo B sb u ∧ B ≤ w.heap.size
theorem Copied.two {B b b2 sb : Nat} {S L : List Int} {w : World} (h : Copied B b b2 S sb L w) : Two B b2 S sb L w := by
  obtain ⟨v, l, v2, l2, u, h1, h2, h3, h4, h5, p1, p2, p3, l1, l2', l3, hB⟩ := h
  exact ⟨v2, l2, u, h3, h4, h5, p3, l2', l3, hB⟩
theorem Lo.mono {B B' b : Nat} {v : Value} (h : Lo B' b v) (k : B ≤ B') : Lo B b v := ⟨Nat.le_trans k h.1, fun g hg => Nat.le_trans k (h.2 g hg)⟩
theorem two_fcopy {B b sb : Nat} {S L : List Int} {w : World} (h : Two B b S sb L w) (hn : S.length ≤ 1000) :
    Calls Try.prog 33 #[.pointer (some ⟨b, 0, none⟩)] w fun e w' => ∃ b2, e = .returned (.pointer (some ⟨b2, 0, none⟩)) ∧ Copied B b b2 S sb L w' ∧ Below B w w' := by
  obtain ⟨v, l, u, h1, h2, h3, h4, h5, h6, h7⟩ := h
  have hl := h2.length_eq
  refine (fcopy_v b v l w h1 (by omega)).mono ?_
  rintro e w' ⟨b2, v2, rfl, hs, hlo, hB⟩
  exact ⟨b2, rfl, ⟨v, l, v2, l, u, h1.keep hB, by omega, hs, h2, h3.keep hB, Pt.fresh h1.hi hlo, h4, (Pt.fresh h3.hi hlo).symm, h5, hlo.mono h7, h6, Nat.le_trans h7 hB.size⟩, hB.mono h7⟩
theorem Copied.step {B b b2 sb : Nat} {S L l' : List Int} {w w' : World} {v v' v2 u : Value} {l2 : List Int} (hs : HStep b v v' w w') (hs' : SetV w' b v' l') (hl : l'.length ≤ 1000) (h3 : SetV w b2 v2 l2) (h4 : l2.Perm S) (h5 : AddV w sb u L)
    (p1 : Pt b v b2 v2) (p2 : Pt b v sb u) (p3 : Pt b2 v2 sb u) (l1 : Lo B b v) (l2' : Lo B b2 v2) (l3 : Lo B sb u) (hB : B ≤ w.heap.size) : Copied B b b2 S sb L w' ∧ Below B w w' :=
  ⟨⟨v', l', v2, l2, u, hs', hl, h3.other hs p1, h4, h5.other hs p2, p1.step hs h3.hi, p2.step hs h5.hi, p3, hs.lo l1 hB, l2', l3, Nat.le_trans hB hs.1.size⟩, hs.hits l1 hB⟩
def JunkT (B b b2 : Nat) (S : List Int) (sb : Nat) (L : List Int) (w : World) (e : Ending) (w' : World) : Prop :=
  (∃ x y, e = .returned (.tuple #[.int .u64 x, .bool y])) ∧ (∃ v l v2 l2 u, SetV w' b v l ∧ l.length ≤ 999 ∧ SetV w' b2 v2 l2 ∧ l2.Perm S ∧ AddV w' sb u L ∧ Pt b v b2 v2 ∧ Pt b v sb u ∧ Pt b2 v2 sb u ∧ Lo B b v ∧ Lo B b2 v2 ∧ Lo B sb u ∧ B ≤ w'.heap.size) ∧ Below B w w'
theorem junk_take {B b b2 sb : Nat} {S L : List Int} {w : World} (h : Copied B b b2 S sb L w) :
    Calls Try.prog 26 #[.pointer (some ⟨b, 0, none⟩)] w fun e w' => JunkT B b b2 S sb L w e w' := by
  obtain ⟨v, l, v2, l2, u, h1, h2, h3, h4, h5, p1, p2, p3, l1, l2', l3, hB⟩ := h
  by_cases h0 : l = []
  · subst h0
    refine (take_none b v w h1).mono ?_
    rintro e w' ⟨rfl, rfl⟩
    exact ⟨⟨_, _, rfl⟩, ⟨v, [], v2, l2, u, h1, by simp, h3, h4, h5, p1, p2, p3, l1, l2', l3, hB⟩, Below.refl _ _⟩
  · refine (take_some b v l w h1 (by omega) h0).mono ?_
    rintro e w' ⟨x, rfl, hx, hmin, v', l', hs', hp', hst⟩
    have := hp'.length_eq
    simp at this
    exact ⟨⟨_, _, rfl⟩, ⟨v', l', v2, l2, u, hs', by omega, h3.other hst p1, h4, h5.other hst p2, p1.step hst h3.hi, p2.step hst h5.hi, p3, hst.lo l1 hB, l2', l3, Nat.le_trans hB hst.1.size⟩, hst.hits l1 hB⟩
theorem junk_put {B b b2 sb : Nat} {S L : List Int} {w0 w : World} {e0 : Ending} (a : Int) (h : JunkT B b b2 S sb L w0 e0 w) :
    Calls Try.prog 30 #[.pointer (some ⟨b, 0, none⟩), .int .u64 a] w fun e w' => e = .returned (.int .i64 (putE a)) ∧ Two B b2 S sb L w' ∧ Below B w w' := by
  obtain ⟨_, ⟨v, l, v2, l2, u, h1, h2, h3, h4, h5, p1, p2, p3, l1, l2', l3, hB⟩, _⟩ := h
  by_cases h0 : a = 0
  · subst h0
    refine (put_zero b w).mono ?_
    rintro e w' ⟨rfl, rfl⟩
    exact ⟨rfl, ⟨v2, l2, u, h3, h4, h5, p3, l2', l3, hB⟩, Below.refl _ _⟩
  · refine (put_v b v l a w h1 (by omega) h0).mono ?_
    rintro e w' ⟨rfl, v', l', hs', hp', hst⟩
    have hl : l'.length ≤ 1000 := by
      rw [hp'.length_eq]
      split
      · omega
      · simp; omega
    have := Copied.step hst hs' hl h3 h4 h5 p1 p2 p3 l1 l2' l3 hB
    exact ⟨by rw [show putE a = 0 from if_neg h0], this.1.two, this.2⟩
theorem perm_nodup {a b : List Int} (ha : a.Nodup) (hb : b.Nodup) (h : ∀ x, x ∈ a ↔ x ∈ b) : a.Perm b := by
  rw [List.perm_iff_count]
  intro x
  rw [ha.count, hb.count]
  by_cases hx : x ∈ a
  · rw [if_pos hx, if_pos ((h x).1 hx)]
  · rw [if_neg hx, if_neg (fun e => hx ((h x).2 e))]
theorem ReadL.reads {w : World} {a : Option Addr} {xs : List Int} (h : ReadL w a xs) : Reads w w.heap.size 1 a xs.length (xs.map (Value.int .u64)) := by
  refine ⟨by simp, fun hn => ?_⟩
  rcases h with h | ⟨g, o, h1, h2, h3⟩
  · subst h; simp at hn
  · refine ⟨_, h1, h2, fun j u hu => ?_⟩
    have hj : j < xs.length := by have := (List.getElem?_eq_some_iff.1 hu).1; simpa using this
    have e1 : (xs.map (Value.int .u64))[j]? = some (.int .u64 (xs.getD j 0)) := by simp [hj]
    rw [e1] at hu
    cases hu
    rw [Addr.add_lit]
    exact h3 j hj
/-- the two sets, as they begin -/
theorem two_start {w0 w : World} {B S} (h : KSet B w0 B S w) (hB : B ≤ w.heap.size) :
    Two B B S w.heap.size [] (w.alloc (.cells #[.slice none 0 0] 48)) := by
  obtain ⟨v, l, hs, hp, ho, _, _, _⟩ := h
  have hBl : Below w.heap.size w (w.alloc (.cells #[.slice none 0 0] 48)) := (Below.refl _ _).alloc (Nat.le_refl _) _
  have hlo : Lo w.heap.size w.heap.size (.slice none 0 0) := ⟨Nat.le_refl _, fun g e => by simp [Value.ownBlock] at e⟩
  exact ⟨v, l, .slice none 0 0, hs.keep hBl, hp, ⟨Blk.new w #[.slice none 0 0] 48, World.ownsRow_nil _ _ _ _, fun e => by simp [Value.ownBlock] at e⟩, Pt.fresh hs.hi hlo, ⟨Nat.le_refl _, ho⟩, hlo.mono hB, by simp; omega⟩
end Go.Proofs.Ytdekjfbaoaobeaa
