/-
  THE TABLE AND THE DOCUMENT's, SIDE BY SIDE: what they agree in, and that each call keeps it.
-/
import Derived.Test.YtajccnmeijgagaaTo
namespace Go.Proofs.Ytajccnmeijgagaa
open Go.RowKit Go.Maps
set_option linter.unusedVariables false

structure Agr (n : Nat) (h : Int → Option Int) (l : List (Int × Int)) : Prop where
  eq : ∀ a, h a = lk l a
  nd : (l.map (·.1)).Nodup
  z : lk l 0 = none
  rng : Rng n h
  wf : ∀ x ∈ l, (Lit.int .u64 x.1).wf = true
theorem agr_nil (n : Nat) : Agr n (fun _ => none) [] := ⟨fun _ => rfl, List.nodup_nil, rfl, (fun a x h => by cases h), (fun x h => by cases h)⟩
theorem Agr.hld {n : Nat} {h : Int → Option Int} {l : List (Int × Int)} (H : Agr n h l) (id : Int) : (h id = none ∧ hldI l id = -1) ∨ ∃ y, h id = some y ∧ hldI l id = y ∧ 0 ≤ y ∧ y < n := by
  unfold hldI
  rw [← H.eq]
  cases e : h id with
  | none => exact .inl ⟨rfl, rfl⟩
  | some y => exact .inr ⟨y, rfl, rfl, H.rng id y e⟩
theorem Agr.tryB {n : Nat} {h : Int → Option Int} {l : List (Int × Int)} (H : Agr n h l) (c id : Int) : tryB n h c id = rtB n l c id := by
  unfold Go.Proofs.Ytajccnmeijgagaa.tryB rtB
  congr 1
  rcases H.hld id with ⟨e1, e2⟩ | ⟨y, e1, e2, y0, _⟩
  · rw [e1, e2]; simp
  · rw [e1, e2]
    simp only [Option.some.injEq, reduceCtorEq, false_or]
    have : ¬ y < 0 := by omega
    simp [this]
theorem Agr.tryW {n : Nat} {h : Int → Option Int} {l : List (Int × Int)} (H : Agr n h l) (W : Nat → Int) (c id : Int) : tryW n h W c id = rtW n l W c id := by
  unfold Go.Proofs.Ytajccnmeijgagaa.tryW rtW
  rw [H.tryB]
theorem mem_keys {l : List (Int × Int)} {id : Int} (h : lk l id = none) : id ∉ l.map (·.1) := by
  intro hm
  obtain ⟨x, hx, e⟩ := List.mem_map.1 hm
  induction l with
  | nil => cases hx
  | cons y r ih =>
    rw [lk_cons] at h
    by_cases q : y.1 = id
    · rw [if_pos q] at h; cases h
    · rw [if_neg q] at h
      rcases List.mem_cons.1 hx with e2 | e2
      · rw [e2] at e; exact q e
      · exact ih h (List.mem_map.2 ⟨x, e2, e⟩) e2
theorem Agr.try {n : Nat} {h : Int → Option Int} {l : List (Int × Int)} (H : Agr n h l) (c id : Int) (hid : (Lit.int .u64 id).wf = true) : Agr n (tryH n h c id) (rtL n l c id) := by
  by_cases hb : Go.Proofs.Ytajccnmeijgagaa.tryB n h c id = true
  · have hd : 0 ≤ c ∧ c < (n : Int) ∧ id ≠ 0 ∧ (h id = none ∨ h id = some c) := of_decide_eq_true hb
    have e1 : tryH n h c id = updI h id (some c) := by unfold tryH; rw [if_pos hb]
    rw [e1]
    rcases H.hld id with ⟨a1, a2⟩ | ⟨y, a1, a2, y0, _⟩
    · have hlk : lk l id = none := by rw [← H.eq]; exact a1
      have e2 : rtL n l c id = l ++ [(id, c)] := by unfold rtL; rw [if_pos ⟨by rw [← H.tryB]; exact hb, by rw [a2]; omega⟩]
      rw [e2]
      refine ⟨fun a => ?_, ?_, ?_, updI_range H.rng id c ⟨hd.1, hd.2.1⟩, fun x hx => ?_⟩
      · rw [lk_app_new l hlk]; unfold updI; rw [H.eq]
      · rw [List.map_append, List.nodup_append]
        refine ⟨H.nd, by simp, fun a ha b hb e => ?_⟩
        rw [List.map_cons, List.map_nil, List.mem_singleton] at hb
        rw [e, hb] at ha
        exact mem_keys hlk ha
      · rw [lk_app_new l hlk]; unfold updI; rw [if_neg (fun e => hd.2.2.1 e.symm)]; exact H.z
      · rcases List.mem_append.1 hx with q | q
        · exact H.wf x q
        · rw [List.mem_singleton.1 q]; exact hid
    · have hyc : y = c := by
        rcases hd.2.2.2 with q | q
        · rw [a1] at q; cases q
        · rw [a1] at q; exact Option.some.inj q
      have e2 : rtL n l c id = l := by unfold rtL; rw [if_neg (fun e => by rw [a2] at e; have := e.2; omega)]
      rw [e2]
      refine ⟨fun a => ?_, H.nd, H.z, updI_range H.rng id c ⟨hd.1, hd.2.1⟩, H.wf⟩
      unfold updI
      split
      · rename_i e; rw [e, ← H.eq, a1, hyc]
      · exact H.eq a
  · have e1 : tryH n h c id = h := by unfold tryH; rw [if_neg hb]
    have e2 : rtL n l c id = l := by unfold rtL; rw [if_neg (fun e => hb (by rw [H.tryB]; exact e.1))]
    rw [e1, e2]; exact H
theorem Agr.relB {n : Nat} {h : Int → Option Int} {l : List (Int × Int)} (H : Agr n h l) (c id : Int) : relB n h c id = rrB n l c id := by
  unfold Go.Proofs.Ytajccnmeijgagaa.relB rrB
  rcases H.hld id with ⟨e1, e2⟩ | ⟨y, e1, e2, y0, _⟩
  · rw [e1, e2]
    congr 1
    apply propext
    constructor
    · rintro ⟨_, _, h⟩; cases h
    · rintro ⟨h1, _, h⟩; omega
  · rw [e1, e2]; simp
theorem relW_eq (n : Nat) (W : Nat → Int) (c id : Int) : relW n W c id = rrW n W c id := rfl
theorem Agr.rel {n : Nat} {h : Int → Option Int} {l : List (Int × Int)} (H : Agr n h l) (c id : Int) : Agr n (relH n h c id) (rrL n l c id) := by
  unfold relH rrL
  rw [H.relB]
  by_cases hb : rrB n l c id = true
  · rw [if_pos hb, if_pos hb]
    refine ⟨fun a => ?_, List.Nodup.sublist (List.Sublist.map _ List.filter_sublist) H.nd, ?_, updI_range_none H.rng id, fun x hx => H.wf x (List.mem_filter.1 hx).1⟩
    · rw [lk_filter]; unfold updI; rw [H.eq]
    · rw [lk_filter]; unfold updI; split
      · rfl
      · exact H.z
  · rw [if_neg hb, if_neg hb]; exact H
theorem Agr.drop {n : Nat} {h : Int → Option Int} {l l' : List (Int × Int)} (H : Agr n h l) (c : Int) (hd : if 0 ≤ c ∧ c < (n : Int) then DropL l c l' else l' = l) : Agr n (dropH n h c) l' := by
  by_cases hc : 0 ≤ c ∧ c < (n : Int)
  · rw [if_pos hc] at hd
    obtain ⟨h1, h2, h3, _⟩ := hd
    refine ⟨fun a => ?_, h1, ?_, fun a x e => ?_, fun x hx => H.wf x (h3 x hx)⟩
    · unfold dropH
      rw [h2, ← H.eq]
      by_cases q : h a = some c
      · rw [if_pos ⟨hc, q⟩, if_pos q]
      · rw [if_neg (fun z => q z.2), if_neg q]
    · rw [h2, H.z]; rfl
    · unfold dropH at e
      split at e
      · cases e
      · exact H.rng a x e
  · rw [if_neg hc] at hd
    subst hd
    refine ⟨fun a => ?_, H.nd, H.z, fun a x e => ?_, H.wf⟩
    · unfold dropH; rw [if_neg (fun z => hc z.1)]; exact H.eq a
    · unfold dropH at e; rw [if_neg (fun z => hc z.1)] at e; exact H.rng a x e
theorem Agr.nxt {n : Nat} {h : Int → Option Int} {l : List (Int × Int)} (H : Agr n h l) (W : Nat → Int) : nxt h W = nxt (lk l) W := by
  have : h = lk l := funext H.eq
  rw [this]
theorem rtL_len (n : Nat) (l : List (Int × Int)) (c id : Int) : (rtL n l c id).length ≤ l.length + 1 := by
  unfold rtL; split
  · rw [List.length_append]; exact Nat.le_refl _
  · omega
theorem rrL_len (n : Nat) (l : List (Int × Int)) (c id : Int) : (rrL n l c id).length ≤ l.length := by
  unfold rrL; split
  · exact List.length_filter_le _ _
  · exact Nat.le_refl _

/-- nobody beyond waits for anything -/
def WZ (n : Nat) (W : Nat → Int) : Prop := ∀ i, n ≤ i → W i = 0
theorem WZ.upd {n : Nat} {W : Nat → Int} (h : WZ n W) {q : Nat} (hq : q < n) (v : Int) : WZ n (updN W q v) := fun i hi => by
  unfold updN; rw [if_neg (by omega)]; exact h i hi
theorem WZ.try {n : Nat} {W : Nat → Int} (H : WZ n W) (l : List (Int × Int)) (c id : Int) : WZ n (rtW n l W c id) := by
  unfold rtW; split
  · exact H.upd (by omega) _
  · exact H
theorem WZ.rel {n : Nat} {W : Nat → Int} (H : WZ n W) (c id : Int) : WZ n (rrW n W c id) := by
  unfold rrW; split
  · exact H.upd (by omega) _
  · exact H
theorem WZ.drop {n : Nat} {W : Nat → Int} (H : WZ n W) (c : Int) : WZ n (dropW n W c) := by
  unfold dropW; split
  · exact H.upd (by omega) _
  · exact H
/-- BOTH IN MEMORY, side by side; S: their blocks. -/
def JT (n : Nat) (w : World) (b r K : Nat) (S : Nat → Prop) : Prop :=
  ∃ m h W k l vL vW, Tab w b m n h W k ∧ RT w r n l W vL vW ∧ Agr n h l ∧ k ≤ K ∧ l.length ≤ K ∧ WZ n W ∧ ∀ i, Two b m i ∨ RS r vL vW i → S i
theorem JT.kept {n : Nat} {w w' : World} {b r K : Nat} {S T : Nat → Prop} (h : JT n w b r K S) (hk : Keeps T w w') (hd : ∀ i, S i → ¬ T i) : JT n w' b r K S := by
  obtain ⟨m, h0, W, k, l, vL, vW, t, q, a, h1, h2, hz, h3⟩ := h
  exact ⟨m, h0, W, k, l, vL, vW, t.kept hk (hd b (h3 b (.inl (.inl rfl)))) (hd m (h3 m (.inl (.inr rfl)))), q.kept hk (fun i hi => hd i (h3 i (.inr hi))), a, h1, h2, hz, h3⟩
theorem JT.keptN {n : Nat} {w w' : World} {b r K : Nat} {S : Nat → Prop} (h : JT n w b r K S) (hk : Keeps NoB w w') : JT n w' b r K S := h.kept hk (fun _ _ h => h)
theorem JT.mono {n : Nat} {w : World} {b r K K' : Nat} {S : Nat → Prop} (h : JT n w b r K S) (hK : K ≤ K') : JT n w b r K' S := by
  obtain ⟨m, h0, W, k, l, vL, vW, t, q, a, h1, h2, hz, h3⟩ := h
  exact ⟨m, h0, W, k, l, vL, vW, t, q, a, by omega, by omega, hz, h3⟩
/-- just their blocks -/
theorem JT.tight {n : Nat} {w : World} {b r K : Nat} {S : Nat → Prop} (h : JT n w b r K S) : ∃ S' : Nat → Prop, JT n w b r K S' ∧ (∀ i, S' i → S i) ∧ ∀ i, S' i → i < w.heap.size := by
  obtain ⟨m, h0, W, k, l, vL, vW, t, q, a, h1, h2, hz, h3⟩ := h
  refine ⟨fun i => Two b m i ∨ RS r vL vW i, ⟨m, h0, W, k, l, vL, vW, t, q, a, h1, h2, hz, fun _ h => h⟩, h3, ?_⟩
  rintro i ((e | e) | e)
  · rw [e]; exact t.blk.lt
  · rw [e]; obtain ⟨D, hD, _⟩ := t.map; exact hD.lt
  · exact q.lt i e
end Go.Proofs.Ytajccnmeijgagaa
