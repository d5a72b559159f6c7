/-
  A memory, as a whole: its state, what each call makes of it, and which blocks are its own.
-/
import Derived.Test.YticgfnnmjcjnjaaFc
namespace Go.Proofs.Yticgfnnmjcjnjaa
open Go.RowKit Go.Maps Go.WideElems Go.WideShapes
set_option linter.unusedVariables false

/-! ### as many entries as there are words -/
theorem php : ∀ (N : Nat) (l : List Nat), l.Nodup → (∀ x ∈ l, x < N) → l.length ≤ N
  | 0, [], _, _ => Nat.le_refl _
  | 0, x :: l, _, h => absurd (h x (List.mem_cons_self)) (by omega)
  | N + 1, l, hn, h => by
    have h1 := php N (l.erase N) (hn.erase N) (fun x hx => by
      have := h x (List.mem_of_mem_erase hx)
      have hne : x ≠ N := (hn.mem_erase_iff.1 hx).1
      omega)
    have := List.length_erase (a := N) (l := l)
    split at this <;> omega
theorem own_keys {w : World} {ml n : Nat} {D : DataW Value} (h : OwnL w ml n D) : ∃ es, D = .map es ∧ es.Pairwise (fun p q => p.1 ≠ q.1) ∧ ∀ p ∈ es, ∃ x : Int, p.1 = .int .u64 x ∧ 0 ≤ x ∧ x ≤ 18446744073709551615 := by
  obtain ⟨es, clock, hb, F, hs, rfl⟩ := h
  refine ⟨_, rfl, ((sorted_perm _).pairwise_iff (fun {_ _} hne => Ne.symm hne)).2 (Maps.fit_apart kA F), fun p hp => ?_⟩
  obtain ⟨x, hx, rfl⟩ := List.mem_map.1 (mem_sorted.1 hp)
  obtain ⟨y, hy⟩ := F.reads x hx
  rw [rg_of hy]
  obtain ⟨x', ex, he, hwx⟩ := Maps.keyOf_int_inv Try.underlying36 (rd_key hy)
  refine ⟨x', he, ?_⟩
  simp [Lit.wf, IntKind.min, IntKind.max, IntKind.signed, IntKind.bits] at hwx; omega
theorem own_tight {w : World} {ml n : Nat} {D : DataW Value} (h : OwnL w ml n D) {F : Int → List (Int × Int)} {N : Nat} (hok : LnOk F N) (hh : ∀ a, Maps.has D (.int .u64 a) = true → F a ≠ []) : OwnL w ml N D := by
  obtain ⟨es, hD, hp, hk⟩ := own_keys h
  have hsz : Maps.size D ≤ N := by
    subst hD
    rw [size_eq]
    have hkey : ∀ p ∈ es, ∃ x : Int, p.1 = .int .u64 x ∧ 0 ≤ x ∧ x % 64 = 0 ∧ x / 8 < N := by
      intro p hpm
      obtain ⟨x, hx, h0, _⟩ := hk p hpm
      refine ⟨x, hx, h0, ?_⟩
      have hhas : Maps.has (.map es) (.int .u64 x) = true := by
        rw [has_eq, List.any_eq_true]
        exact ⟨p, hpm, by rw [hx]; simp [Lit.sameKey]⟩
      obtain ⟨q, hq⟩ := List.exists_mem_of_ne_nil _ (hh x hhas)
      obtain ⟨h1, h2, h3⟩ := hok x q hq
      unfold lineOf at h1
      omega
    let f : Lit × DataW Value → Nat := fun p => match p.1 with | .int _ x => (x / 64).toNat | _ => 0
    have hnd : (es.map f).Nodup := by
      unfold List.Nodup
      rw [List.pairwise_map]
      refine List.Pairwise.imp_of_mem ?_ hp
      intro p q hpm hqm hne e
      obtain ⟨x, hx, hx0, hx1, _⟩ := hkey p hpm
      obtain ⟨y, hy, hy0, hy1, _⟩ := hkey q hqm
      simp only [f, hx, hy] at e
      exact hne (by rw [hx, hy, show x = y by omega])
    have := php N (es.map f) hnd (fun k hkm => by
      obtain ⟨p, hpm, rfl⟩ := List.mem_map.1 hkm
      obtain ⟨x, hx, hx0, hx1, hx2⟩ := hkey p hpm
      simp only [f, hx]
      omega)
    rwa [List.length_map] at this
  obtain ⟨es', clock, hb, F', hs, hD'⟩ := h
  refine ⟨es', clock, hb, F', ?_, hD'⟩
  rw [hD', size_eq, length_sorted] at hsz
  simpa using hsz

/-- A memory: what is seen, what lasted, marks, what is pending; S are its blocks. -/
def MemP (w : World) (mb : Nat) (S : Nat → Prop) (vs is : List Int) (mk : Int → Nat → Int) (F : Int → List (Int × Int)) (lo st fl fe : Int) : Prop :=
  ∃ N0 vv vi ml D sl, MemC w N0 mb vs is vv vi ml vs.length D sl mk F lo st fl fe ∧ N0 ≤ w.heap.size ∧ (∀ i, S i ↔ (i = mb ∨ i = ml ∨ vv.ownBlock = some i ∨ vi.ownBlock = some i ∨ ∃ a, (sl a).ownBlock = some i)) ∧
    0 < vs.length ∧ vs.length ≤ 400000 ∧ is.length = vs.length ∧ LnOk F vs.length ∧ (∀ a, ((F a).length : Int) ≤ st) ∧ (∀ a i, 0 ≤ mk a i ∧ mk a i ≤ st) ∧ (∀ a, Maps.has D (.int .u64 a) = true → F a ≠ []) ∧ 0 ≤ st ∧ 0 ≤ fl ∧ 0 ≤ fe
section
variable {w w' : World} {mb : Nat} {S : Nat → Prop} {vs is : List Int} {mk : Int → Nat → Int} {F : Int → List (Int × Int)} {lo st fl fe : Int}
theorem MemP.lt (h : MemP w mb S vs is mk F lo st fl fe) {i : Nat} (hi : S i) : i < w.heap.size := by
  obtain ⟨N0, vv, vi, ml, D, sl, hm, hN, hS, _⟩ := h
  rcases (hS i).1 hi with h | h | h | h | ⟨a, h⟩
  · have := hm.lt i (.inl h); omega
  · have := hm.lt i (.inr (.inl h)); omega
  · have := hm.lt i (.inr (.inr (.inl h))); omega
  · have := hm.lt i (.inr (.inr (.inr h))); omega
  · exact (hm.r a).lt h
theorem MemP.mem (h : MemP w mb S vs is mk F lo st fl fe) : S mb := by
  obtain ⟨N0, vv, vi, ml, D, sl, hm, hN, hS, _⟩ := h
  exact (hS mb).2 (.inl rfl)
theorem MemP.pos (h : MemP w mb S vs is mk F lo st fl fe) : 0 < vs.length := by
  obtain ⟨N0, vv, vi, ml, D, sl, hm, hN, hS, h, _⟩ := h
  exact h
theorem MemP.kept (h : MemP w mb S vs is mk F lo st fl fe) {T : Nat → Prop} (hk : Keeps T w w') (hT : ∀ i, S i → ¬ T i) : MemP w' mb S vs is mk F lo st fl fe := by
  obtain ⟨N0, vv, vi, ml, D, sl, hm, hN, hS, r⟩ := h
  have hb := hm
  refine ⟨N0, vv, vi, ml, D, sl, ?_, Nat.le_trans hN hk.size, hS, r⟩
  exact ⟨hm.m.kept hk (fun i hi => hT i ((hS i).2 (by rcases hi with h | h | h; exact .inl h; exact .inr (.inr (.inl h)); exact .inr (.inr (.inr (.inl h)))))),
    ownL_keeps hm.o hk (hT ml ((hS ml).2 (.inr (.inl rfl)))), hm.e, fun a => (hm.r a).keeps hk (fun i hi => hT i ((hS i).2 (.inr (.inr (.inr (.inr ⟨a, hi⟩)))))), hm.d, hm.lt, hm.x, hm.xv⟩
theorem MemP.keptN (h : MemP w mb S vs is mk F lo st fl fe) (hk : Keeps NoB w w') : MemP w' mb S vs is mk F lo st fl fe := h.kept hk (fun _ _ h => h)
theorem MemP.below (h : MemP w mb S vs is mk F lo st fl fe) (hk : Below w.heap.size w w') : MemP w' mb S vs is mk F lo st fl fe := h.keptN (Keeps.of_below' hk)

/-- what a call of the memory leaves -/
def MemG (w : World) (mb : Nat) (S : Nat → Prop) (vs is : List Int) (mk : Int → Nat → Int) (F : Int → List (Int × Int)) (lo st fl fe : Int) (w' : World) : Prop :=
  ∃ S', MemP w' mb S' vs is mk F lo st fl fe ∧ (∀ i, S' i → S i ∨ w.heap.size ≤ i) ∧ Keeps S w w'

theorem size_m (h : MemP w mb S vs is mk F lo st fl fe) : Calls Try.prog 7 #[.pointer (some ⟨mb, 0, none⟩)] w fun e w' => e = .returned (.int .i64 (8 * (vs.length : Int))) ∧ w = w' := by
  obtain ⟨N0, vv, vi, ml, D, sl, hm, hN, hS, hp, hl, r⟩ := h
  exact msize_v w mb vs is vv vi ml lo st fl fe hm.m hp (by omega)
theorem store_m (h : MemP w mb S vs is mk F lo st fl fe) (a x : Int) (h0 : 0 ≤ a) (h1 : a ≤ 18446744073709551615) (he : atE vs.length a = 0) (hs : st ≤ 1000000) :
    Calls Try.prog 13 #[.pointer (some ⟨mb, 0, none⟩), .int .u64 a, .int .u64 x] w fun e w' => e = .returned (.int .i64 0) ∧
      MemG w mb S (vs.set (a / 8).toNat x) is mk (updF F (lineOf a) (F (lineOf a) ++ [(a, x)])) lo (st + 1) fl fe w' := by
  obtain ⟨N0, vv, vi, ml, D, sl, hm, hN, hS, hp, hl, hi, hok, hF, hmk, hh, hs0, hf0, hfe⟩ := h
  refine (mstore_k w N0 mb vs is vv vi ml vs.length D sl mk F lo st fl fe hm hN hp (by omega) a x h0 h1 he hs0 hs (by omega) (by have := hF (lineOf a); omega)).mono ?_
  rintro e w' ⟨rfl, v', D', hm', rfl, ho, hk⟩
  obtain ⟨m1, m2⟩ := atE_zero he
  have hok' : LnOk (updF F (lineOf a) (F (lineOf a) ++ [(a, x)])) vs.length := by
    intro b p hpb
    unfold updF at hpb
    split at hpb
    · rename_i hb
      rw [List.mem_append, List.mem_singleton] at hpb
      rcases hpb with h | rfl
      · rw [hb]; exact hok _ _ h
      · exact ⟨hb.symm, h0, m2⟩
    · exact hok _ _ hpb
  have hh' : ∀ b, Maps.has (D.put (.int .u64 (lineOf a)) (.held (.agg (lnCells v' (mk (lineOf a)))))) (.int .u64 b) = true → updF F (lineOf a) (F (lineOf a) ++ [(a, x)]) b ≠ [] := by
    intro b hb
    unfold updF
    split
    · simp
    · rename_i hne
      rw [has_put_other (fun e => hne (by cases e; rfl))] at hb
      exact hh b hb
  refine ⟨rfl, fun i => i = mb ∨ i = ml ∨ vv.ownBlock = some i ∨ vi.ownBlock = some i ∨ ∃ b, (updV sl (lineOf a) v' b).ownBlock = some i, ⟨N0, vv, vi, ml, _, _, ⟨hm'.m, by rw [List.length_set]; exact own_tight hm'.o hok' hh', hm'.e, hm'.r, hm'.d, hm'.lt, hm'.x, hm'.xv⟩, Nat.le_trans hN hk.size, fun i => Iff.rfl, by rw [List.length_set]; exact hp, by rw [List.length_set]; exact hl, by rw [List.length_set]; exact hi, by rw [List.length_set]; exact hok', fun b => ?_, fun b i => ?_, hh', by omega, hf0, hfe⟩, fun i hi => ?_, hk.mono (fun i _ hi => (hS i).2 ?_)⟩
  · unfold updF
    split
    · rw [List.length_append]; have := hF (lineOf a); simp; omega
    · have := hF b; omega
  · have := hmk b i; omega
  · rcases hi with h | h | h | h | ⟨b, h⟩
    · exact .inl ((hS i).2 (.inl h))
    · exact .inl ((hS i).2 (.inr (.inl h)))
    · exact .inl ((hS i).2 (.inr (.inr (.inl h))))
    · exact .inl ((hS i).2 (.inr (.inr (.inr (.inl h)))))
    · unfold updV at h
      split at h
      · rcases ho i h with h | h
        · exact .inl ((hS i).2 (.inr (.inr (.inr (.inr ⟨_, h⟩)))))
        · exact .inr h
      · exact .inl ((hS i).2 (.inr (.inr (.inr (.inr ⟨_, h⟩)))))
  · rcases hi with h | h | h | h
    · exact .inl h
    · exact .inr (.inl h)
    · exact .inr (.inr (.inl h))
    · exact .inr (.inr (.inr (.inr ⟨_, h⟩)))
theorem flush_m (h : MemP w mb S vs is mk F lo st fl fe) (c : Nat) (hc : c ≤ 64) (a : Int) (h0 : 0 ≤ a) (h1 : a ≤ 18446744073709551615) (he : atE vs.length a = 0) (hs : st ≤ 1000000) (hf : fl ≤ 1000000) :
    Calls Try.prog 14 #[.pointer (some ⟨mb, 0, none⟩), .int .i64 c, .int .u64 a] w fun e w' => e = .returned (.int .i64 0) ∧
      MemG w mb S vs is (updM mk (lineOf a) (mkS (mk (lineOf a)) c (F (lineOf a)).length)) F lo st (fl + 1) fe w' := by
  obtain ⟨N0, vv, vi, ml, D, sl, hm, hN, hS, hp, hl, hi, hok, hF, hmk, hh, hs0, hf0, hfe⟩ := h
  refine (mflush_c w N0 mb vs is vv vi ml vs.length D sl mk F lo st fl fe hm hN hp (by omega) c hc a h0 h1 he hf0 hf (by omega) (by have := hF (lineOf a); omega)).mono ?_
  rintro e w' ⟨rfl, D', hm', hk, hhas⟩
  have hh' : ∀ b, Maps.has D' (.int .u64 b) = true → F b ≠ [] := fun b hb => hh b (by rw [← hhas]; exact hb)
  refine ⟨rfl, S, ⟨N0, vv, vi, ml, D', sl, ⟨hm'.m, own_tight hm'.o hok hh', hm'.e, hm'.r, hm'.d, hm'.lt, hm'.x, hm'.xv⟩, Nat.le_trans hN hk.size, hS, hp, hl, hi, hok, hF, fun b i => ?_, hh', hs0, by omega, hfe⟩, fun i hi => .inl hi, hk.mono (fun i _ hi => (hS i).2 ?_)⟩
  · unfold updM mkS
    split
    · show 0 ≤ (if i = c then _ else _) ∧ (if i = c then _ else _) ≤ st
      split
      · have := hF (lineOf a); omega
      · exact hmk _ _
    · exact hmk _ _
  · rcases hi with h | h
    · exact .inl h
    · exact .inr (.inl h)
theorem fence_m (h : MemP w mb S vs is mk F lo st fl fe) (c : Nat) (hc : c ≤ 64) (hs : st ≤ 1000000) (hf : fe ≤ 1000000) :
    Calls Try.prog 15 #[.pointer (some ⟨mb, 0, none⟩), .int .i64 c] w fun e w' => e = .returned (.int .i64 0) ∧
      ∃ mk' is', (∀ a i, 0 ≤ mk' a i ∧ mk' a i ≤ mk a i) ∧ (∀ a, F a ≠ [] → ∀ i, mk' a i = mkX F mk c a i) ∧ is'.length = is.length ∧ (∀ k, is'.getD k 0 = imX is F mk c k) ∧
        MemG w mb S vs is' mk' (FF F mk c) lo st fl (fe + 1) w' := by
  obtain ⟨N0, vv, vi, ml, D, sl, hm, hN, hS, hp, hl, hi, hok, hF, hmk, hh, hs0, hf0, hfe⟩ := h
  refine (mfence_c w N0 mb vs is vv vi ml vs.length D sl mk F lo st fl fe hm hN hp (by omega) c hc hfe hf (by omega) (fun a => by have := hF a; omega) (fun a i => by have := hmk a i; omega) (by rw [hi]; exact hok) hh).mono ?_
  rintro e w' ⟨rfl, n', D', sl', mk', is', _, hm', hb, hx, hil, hik, hso, hh', hk⟩
  have hok' : LnOk (FF F mk c) vs.length := fun a p hpa => hok a p (List.mem_of_mem_drop hpa)
  refine ⟨rfl, mk', is', hb, hx, hil, hik, fun i => i = mb ∨ i = ml ∨ vv.ownBlock = some i ∨ vi.ownBlock = some i ∨ ∃ b, (sl' b).ownBlock = some i, ⟨N0, vv, vi, ml, D', sl', ⟨hm'.m, own_tight hm'.o hok' hh', hm'.e, hm'.r, hm'.d, hm'.lt, hm'.x, hm'.xv⟩, Nat.le_trans hN hk.size, fun i => Iff.rfl, hp, hl, by omega, hok', fun a => ?_, fun a i => ?_, hh', hs0, hf0, by omega⟩, fun i hi => .inl ((hS i).2 ?_), hk.mono (fun i _ hi => (hS i).2 ?_)⟩
  · have := hF a
    unfold FF
    rw [List.length_drop]
    omega
  · have := hb a i
    have := hmk a i
    omega
  · rcases hi with h | h | h | h | ⟨a, h⟩
    · exact .inl h
    · exact .inr (.inl h)
    · exact .inr (.inr (.inl h))
    · exact .inr (.inr (.inr (.inl h)))
    · exact .inr (.inr (.inr (.inr ⟨a, hso a i h⟩)))
  · rcases hi with h | h | h
    · exact .inl h
    · exact .inr (.inl h)
    · exact .inr (.inr (.inr (.inl h)))
theorem MemS.whole {w : World} {N0 mb : Nat} {vs : List Int} {vv vi : Value} {ml : Nat} (h : MemS w N0 mb vs vs vv vi ml 0 (.map []) (fun _ => .slice none 0 0) (fun _ _ => 0) (fun _ => []) 0 0 0 0) (hN : N0 ≤ w.heap.size) (hp : 0 < vs.length) (hl : vs.length ≤ 400000) :
    MemP w mb (fun i => i = ml ∨ MS mb vv vi i) vs vs (fun _ _ => 0) (fun _ => []) 0 0 0 0 := by
  refine ⟨N0, vv, vi, ml, _, _, ⟨h.m, h.o.mono (Nat.zero_le _), h.e, fun a => .inl (h.r a), h.d, h.lt, h.x, h.xv⟩, hN, fun i => ?_, hp, hl, rfl, (fun a p hq => (by cases hq)), (fun a => by simp), fun a i => ⟨Int.le_refl _, Int.le_refl _⟩, (fun a ha => by simp [Maps.has] at ha), Int.le_refl _, Int.le_refl _, Int.le_refl _⟩
  constructor
  · rintro (h | h | h | h)
    · exact .inr (.inl h)
    · exact .inl h
    · exact .inr (.inr (.inl h))
    · exact .inr (.inr (.inr (.inl h)))
  · rintro (h | h | h | h | ⟨a, h⟩)
    · exact .inr (.inl h)
    · exact .inl h
    · exact .inr (.inr (.inl h))
    · exact .inr (.inr (.inr h))
    · cases h
end
end Go.Proofs.Yticgfnnmjcjnjaa
