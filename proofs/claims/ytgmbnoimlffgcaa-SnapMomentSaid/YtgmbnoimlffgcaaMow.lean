/-
  leveelaw11.writer.step: a contract.
-/
import Derived.Test.YtgmbnoimlffgcaaMoe
import Derived.Test.YtgmbnoimlffgcaaAf
namespace Go.Proofs.Ytgmbnoimlffgcaa
open Go.RowKit
attribute [local go_sem] Oper.semAt_some
set_option linter.unusedVariables false

/-! ### a writer's cells -/
def wrList (mb : Nat) (n : Nd) (v : Value) (r : Option Addr) : List Value := [Value.pointer (some ⟨mb, 0, none⟩)] ++ (ndCells n).toList ++ [v, .pointer r]
def wrCells (mb : Nat) (n : Nd) (v : Value) (r : Option Addr) : Array Value := (wrList mb n v r).toArray
theorem ndl_len (n : Nd) : (ndCells n).toList.length = 21 := by rw [Array.length_toList]; exact ndCells_size n
theorem wrCells_size (mb : Nat) (n : Nd) (v : Value) (r : Option Addr) : (wrCells mb n v r).size = 24 := by
  simp [wrCells, wrList, ndCells_size]
theorem wr_0 (mb : Nat) (n : Nd) (v : Value) (r : Option Addr) : (wrCells mb n v r)[0]? = some (.pointer (some ⟨mb, 0, none⟩)) := by simp [wrCells, wrList]
theorem wr_n (mb : Nat) (n : Nd) (v : Value) (r : Option Addr) (j : Nat) (u : Value) (h : (ndCells n)[j]? = some u) : (wrCells mb n v r)[1 + j]? = some u := by
  have hj : j < 21 := by
    have := (Array.getElem?_eq_some_iff.1 h).1
    rwa [ndCells_size] at this
  unfold wrCells wrList
  rw [List.getElem?_toArray, List.append_assoc, List.getElem?_append_right (by simp), List.getElem?_append_left (by rw [ndl_len]; simpa using hj)]
  simpa using h
theorem wr_hi (mb : Nat) (n : Nd) (v : Value) (r : Option Addr) (i : Nat) : (wrCells mb n v r)[22 + i]? = [v, .pointer r][i]? := by
  unfold wrCells wrList
  rw [List.getElem?_toArray, List.getElem?_append_right (by simp [ndCells_size])]
  congr 1
  simp [ndCells_size]
theorem wr_22 (mb : Nat) (n : Nd) (v : Value) (r : Option Addr) : (wrCells mb n v r)[22]? = some v := wr_hi mb n v r 0
theorem wr_23 (mb : Nat) (n : Nd) (v : Value) (r : Option Addr) : (wrCells mb n v r)[23]? = some (.pointer r) := wr_hi mb n v r 1
theorem wr_set (mb : Nat) (n : Nd) (v : Value) (r : Option Addr) (i : Nat) (u : Value) : (wrCells mb n v r).setIfInBounds (22 + i) u = ([Value.pointer (some ⟨mb, 0, none⟩)] ++ (ndCells n).toList ++ [v, .pointer r].set i u).toArray := by
  have e : 22 + i = ([Value.pointer (some ⟨mb, 0, none⟩)] ++ (ndCells n).toList).length + i := by simp [ndCells_size]
  rw [e]
  unfold wrCells wrList
  rw [List.setIfInBounds_toArray, List.set_append_right _ _ (by omega), Nat.add_sub_cancel_left]
theorem wr_set22 (mb : Nat) (n : Nd) (v u : Value) (r : Option Addr) : (wrCells mb n v r).setIfInBounds 22 u = wrCells mb n u r := wr_set mb n v r 0 u
theorem wr_set23 (mb : Nat) (n : Nd) (v : Value) (r q : Option Addr) : (wrCells mb n v r).setIfInBounds 23 (.pointer q) = wrCells mb n v q := wr_set mb n v r 1 _
theorem wr_putN (mb : Nat) (n m : Nd) (v : Value) (r : Option Addr) : putL (wrCells mb n v r) 1 (ndCells m).toList = wrCells mb m v r :=
  putL_list (ndCells m).toList [Value.pointer (some ⟨mb, 0, none⟩)] (ndCells n).toList [v, .pointer r] (by rw [ndl_len, ndl_len])

/-! ### what is asked for, as it came in -/
abbrev Rq := Int × Int × Int
def akOf (x : Rq) : Ak := ask11 x.1 x.2.1 x.2.2
def rqC (x : Rq) : Array Value := ask11C x.1 x.2.1 x.2.2
/-- a slice of what is asked for, in blocks below -/
def AskAt (w : World) (B : Nat) (v : Value) (l : List Rq) : Prop :=
  ∃ a c, v = .slice a l.length c ∧ l.length ≤ c ∧ (0 < l.length → ∃ g o, a = some ⟨g, o, none⟩ ∧ g < B ∧ ∀ j x, l[j]? = some x → ∀ i u, (rqC x)[i]? = some u → w.cell? ⟨g, o + 3 * j + i, none⟩ = some u)
theorem AskAt.kept {w w' : World} {B : Nat} {v : Value} {l : List Rq} {X : Nat → Prop} (h : AskAt w B v l) (hk : Keeps X w w') (hB : B ≤ w.heap.size) (hX : ∀ i, X i → B ≤ i) : AskAt w' B v l := by
  obtain ⟨a, c, e, h1, h3⟩ := h
  refine ⟨a, c, e, h1, fun h0 => ?_⟩
  obtain ⟨g, o, e, hg, hc⟩ := h3 h0
  exact ⟨g, o, e, hg, fun j x hj i u hi => by rw [hk.cell (by show g < _; omega) (fun hx => by have := hX _ hx; simp at this; omega)]; exact hc j x hj i u hi⟩
theorem AskAt.tail {w : World} {B : Nat} {a : Option Addr} {k c : Nat} {x : Rq} {l : List Rq} (h : AskAt w B (.slice a k c) (x :: l)) : AskAt w B (.slice (if c = 1 then a else a.map (·.add (1 * 3))) l.length (c - 1)) l := by
  obtain ⟨a', c', e, h1, h3⟩ := h
  cases e
  have h1' : l.length + 1 ≤ c := h1
  refine ⟨_, _, rfl, by omega, fun h0 => ?_⟩
  obtain ⟨g, o, rfl, hg, hc⟩ := h3 (by simp)
  rw [if_neg (by omega)]
  refine ⟨g, o + 3, rfl, hg, fun j y hj i u hi => ?_⟩
  have := hc (j + 1) y hj i u hi
  rw [show o + 3 + 3 * j + i = o + 3 * (j + 1) + i by omega]
  exact this

/-! ### a writer -/
/-- its block; what it owns besides; what is still to come -/
structure Wr (w : World) (wb mb B : Nat) (S A : Nat → Prop) (C : List (Int × Int)) (T : Nat) : Prop where
  sz : B ≤ w.heap.size
  own : ∀ i, A i → B ≤ i ∧ i < w.heap.size
  sub : ∀ i, S i → A i
  wbA : A wb
  wbS : ¬ S wb
  tl : T ≤ C.length
  h : ∃ n v l r, Blk w wb (wrCells mb n v r) 76 ∧ AskAt w B v l ∧ NdOk 1280 n ∧ (∀ x ∈ l, U64 x.2.1 ∧ U64 x.2.2) ∧ l.length ≤ 1000 ∧
    ((r = none ∧ C.drop T = comeL 1088 n (l.map akOf)) ∨
     (∃ rb g cap L k, r = some ⟨rb, 0, none⟩ ∧ RunW w rb mb g cap S L k ∧ A rb ∧ A g ∧ wb ≠ rb ∧ wb ≠ g ∧ k ≤ L.length ∧ L.length ≤ 1000 ∧ (∀ s ∈ L, 1088 ≤ s.1 ∧ s.1 < 1280 ∧ (s.1 - 1088) % 8 = 0) ∧ C.drop T = L.drop k ++ comeL 1088 n (l.map akOf)))
theorem RunW.kept {w w' : World} {rb mb g cap : Nat} {S X : Nat → Prop} {l : List (Int × Int)} {k : Nat} (h : RunW w rb mb g cap S l k) (hk : Keeps X w w') (h1 : ¬ X rb) (h2 : ¬ X g) : RunW w' rb mb g cap S l k := by
  obtain ⟨r, hr, q⟩ := h.h
  exact ⟨r, ⟨hr.b.kept hk h1, hr.mv, hr.cl, hr.sl, Nat.lt_of_lt_of_le hr.glt hk.size, hr.e.kep hk hr.glt h2, hr.s⟩, q⟩
/-- it stays, where but its memory, and other blocks, are written to -/
theorem Wr.kept {w w' : World} {wb mb B : Nat} {S A X : Nat → Prop} {C : List (Int × Int)} {T : Nat} (h : Wr w wb mb B S A C T) (hk : Keeps X w w') (hX : ∀ i, X i → B ≤ i ∧ (A i → S i)) : Wr w' wb mb B S A C T := by
  obtain ⟨n, v, l, r, hb, ha, hn, hu, hl, q⟩ := h.h
  refine ⟨Nat.le_trans h.sz hk.size, fun i hi => ⟨(h.own i hi).1, Nat.lt_of_lt_of_le (h.own i hi).2 hk.size⟩, h.sub, h.wbA, h.wbS, h.tl, n, v, l, r, hb.kept hk (fun e => h.wbS ((hX _ e).2 h.wbA)), ha.kept hk h.sz (fun i e => (hX i e).1), hn, hu, hl, ?_⟩
  rcases q with q | ⟨rb, g, cap, L, k, e, hr, h1, h2, h3⟩
  · exact .inl q
  · obtain ⟨r', hr', _⟩ := hr.h
    exact .inr ⟨rb, g, cap, L, k, e, hr.kept hk (fun e => hr'.s.1 ((hX _ e).2 h1)) (fun e => hr'.s.2.1 ((hX _ e).2 h2)), h1, h2, h3⟩

/-! ### one store further (plain) -/
theorem holds_next {n : Nd} {C : List (Int × Int)} {d T : Nat} {low : Int} {vs : List Int} (hC : Course 1088 1280 n C d) (hH : Holds (wAt 1088 n C) low T vs) (hT : T < C.length) :
    Holds (wAt 1088 n C) low (T + 1) (vs.set (eK C T / 8).toNat (eP C T)) := by
  obtain ⟨m3, hm⟩ := hC.ok
  have hp := ndAt_next hm T hT
  have ha : 1088 ≤ eK C T ∧ eK C T < 1088 + 192 ∧ (eK C T - 1088) % 8 = 0 := by
    have := hC.addr (eK C T, eP C T) (ent_mem hT)
    exact ⟨this.1, this.2.1, this.2.2.1⟩
  have hlen := hH.len
  refine ⟨by rw [List.length_set]; exact hlen, fun i hi => ?_, ?_⟩
  · show _ = wordsF (ndAt 1088 n C (T + 1)) i
    rw [words_full (hC.at_ (T + 1)).lv hi, putA_word hp hi]
    by_cases h : eK C T = 1088 + 8 * (i : Int)
    · rw [if_pos h, List.getD_eq_getElem?_getD, show (eK C T / 8).toNat = 136 + i by omega, List.getElem?_set_self (by omega)]
      rfl
    · rw [if_neg h, ← words_full (hC.at_ T).lv hi, List.getD_eq_getElem?_getD, List.getElem?_set_ne (by omega), ← List.getD_eq_getElem?_getD]
      exact hH.at_ i hi
  · rw [List.getD_eq_getElem?_getD, List.getElem?_set_ne (by omega), ← List.getD_eq_getElem?_getD]
    exact hH.low
theorem drop_next {C L M : List (Int × Int)} {T k : Nat} (h : C.drop T = L.drop k ++ M) (hk : k < L.length) : T < C.length ∧ eK C T = eK L k ∧ eP C T = eP L k ∧ C.drop (T + 1) = L.drop (k + 1) ++ M := by
  have hT : T < C.length := by
    have := congrArg List.length h
    rw [List.length_drop, List.length_append, List.length_drop] at this
    omega
  rw [List.drop_eq_getElem_cons hT, List.drop_eq_getElem_cons hk, List.cons_append] at h
  injection h with h1 h2
  refine ⟨hT, ?_, ?_, h2⟩
  · simp [eK, List.getD, hT, hk, h1]
  · simp [eP, List.getD, hT, hk, h1]
theorem u64s_set {vs : List Int} (h : U64s vs) (i : Nat) {x : Int} (hx : U64 x) : U64s (vs.set i x) := by
  intro y hy
  rcases List.mem_or_eq_of_mem_set hy with h' | h'
  · exact h y h'
  · rw [h']; exact hx

/-! ### stores as they come back -/
def MadeR (B : Nat) (l : List (Int × Int)) (c : Int) (v : Value) (W : World) : Prop := ∃ a m k, v = .tuple #[.slice a m k, .int .i64 c] ∧ m = l.length ∧ W.ownsRow B 32 2 (.slice a m k) l.length (ecells l)
def RowQ (B : Nat) (l : List (Int × Int)) (v : Value) (W : World) : Prop := ∃ a k, v = .slice a l.length k ∧ W.ownsRow B 32 2 (.slice a l.length k) l.length (ecells l)
theorem MadeR.below {B : Nat} {l : List (Int × Int)} {c : Int} {v : Value} {W W' : World} (h : MadeR B l c v W) (hB : Below W.heap.size W W') : MadeR B l c v W' := by
  obtain ⟨a, m, k, e, hm, ho⟩ := h
  exact ⟨a, m, k, e, hm, own_below ho hB⟩
theorem RowQ.below {B : Nat} {l : List (Int × Int)} {v : Value} {W W' : World} (h : RowQ B l v W) (hB : Below W.heap.size W W') : RowQ B l v W' := by
  obtain ⟨a, k, e, ho⟩ := h
  exact ⟨a, k, e, own_below ho hB⟩
theorem infoAsk (x : Rq) : (Try.prog.info? 104).map (·.size) = some (rqC x).size := by
  show (Try.prog.info? 104).map (·.size) = some 3
  kernel_rfl

/-! ### the walk -/
def sliceLen : Value → Nat
  | .slice _ n _ => n
  | _ => 0
def wrM (wb : Nat) (w : World) : Nat := sliceLen ((w.cell? ⟨wb, 22, none⟩).getD undef)
theorem wrM_eq {w : World} {wb mb k c : Nat} {n : Nd} {a r : Option Addr} {t : TypeId} (h : Blk w wb (wrCells mb n (.slice a k c) r) t) : wrM wb w = k := by
  unfold wrM
  rw [h.cell, wr_22]
  rfl
/-- what a step of the writer leaves -/
def WstP (n0 : Nd) (low : Int) (w : World) (wb mb B : Nat) (A : Nat → Prop) (C : List (Int × Int)) (T : Nat) (N : Int) (e : Ending) (w' : World) : Prop :=
  ∃ b T' vs' S' A', e = .returned (.bool b) ∧ (T' = T ∨ T' = T + 1) ∧ MemN w' mb S' vs' (N + 1) ∧ Holds (wAt 1088 n0 C) low T' vs' ∧ U64s vs' ∧ Wr w' wb mb B S' A' C T' ∧ (∀ i, A' i → A i ∨ w.heap.size ≤ i) ∧ Keeps A w w'
def WlI (w : World) (wb mb B : Nat) (S A : Nat → Prop) (C : List (Int × Int)) (T : Nat) (wr : World) : Prop :=
  ∃ A', Wr wr wb mb B S A' C T ∧ (∀ i, A' i → A i ∨ w.heap.size ≤ i) ∧ Keeps (fun i => i = wb) w wr
theorem MemN.kept {w w' : World} {mb : Nat} {S : Nat → Prop} {vs : List Int} {N : Int} (h : MemN w mb S vs N) {X : Nat → Prop} (hk : Keeps X w w') (hX : ∀ i, S i → ¬ X i) : MemN w' mb S vs N := by
  obtain ⟨is, mk, F, lo, st, fl, fe, hm, q⟩ := h
  exact ⟨is, mk, F, lo, st, fl, fe, hm.kept hk hX, q⟩
theorem MemN.mono {w : World} {mb : Nat} {S : Nat → Prop} {vs : List Int} {N N' : Int} (h : MemN w mb S vs N) (hN : N ≤ N') : MemN w mb S vs N' := by
  obtain ⟨is, mk, F, lo, st, fl, fe, hm, h1, h2, h3⟩ := h
  exact ⟨is, mk, F, lo, st, fl, fe, hm, by omega, by omega, by omega⟩
theorem MemN.lt {w : World} {mb : Nat} {S : Nat → Prop} {vs : List Int} {N : Int} (h : MemN w mb S vs N) {i : Nat} (hi : S i) : i < w.heap.size := by
  obtain ⟨is, mk, F, lo, st, fl, fe, hm, _⟩ := h
  exact hm.lt hi
/-- a step of a run: how far the memory is -/
theorem run_far {n0 : Nd} {low : Int} {C L M : List (Int × Int)} {d T k k' : Nat} {vs vs' : List Int} (hC : Course 1088 1280 n0 C d) (hH : Holds (wAt 1088 n0 C) low T vs) (hU : U64s vs) (hT : T ≤ C.length) (hk : k ≤ L.length) (he : C.drop T = L.drop k ++ M)
    (hc : (k' = k ∧ vs' = vs) ∨ (k < L.length ∧ k' = k + 1 ∧ vs' = vs.set (eK L k / 8).toNat (eP L k))) :
    ∃ T', (T' = T ∨ T' = T + 1) ∧ T' ≤ C.length ∧ Holds (wAt 1088 n0 C) low T' vs' ∧ U64s vs' ∧ k' ≤ L.length ∧ C.drop T' = L.drop k' ++ M := by
  rcases hc with ⟨rfl, rfl⟩ | ⟨h1, rfl, rfl⟩
  · exact ⟨T, .inl rfl, hT, hH, hU, hk, he⟩
  · obtain ⟨q1, q2, q3, q4⟩ := drop_next he h1
    rw [← q2, ← q3]
    exact ⟨T + 1, .inr rfl, q1, holds_next hC hH q1, u64s_set hU _ (hC.addr _ (ent_mem q1)).2.2.2, h1, q4⟩
theorem wr_end {n0 : Nd} {low : Int} {w wr w2 w3 : World} {wb mb B : Nat} {S A A1 : Nat → Prop} {C : List (Int × Int)} {d T : Nat} {vs : List Int} {N : Int} {n : Nd} {v : Value} {l : List Rq} {rb g cap : Nat} {L : List (Int × Int)} {k : Nat}
    (hW1 : Wr wr wb mb B S A1 C T) (hA1 : ∀ i, A1 i → A i ∨ w.heap.size ≤ i) (hK1 : Keeps (fun i => i = wb) w wr) (hSA : (∀ i, S i → A i) ∧ A wb ∧ ¬ S wb) (hC : Course 1088 1280 n0 C d) (hH : Holds (wAt 1088 n0 C) low T vs) (hU : U64s vs)
    (ha : AskAt wr B v l) (hn : NdOk 1280 n) (hu : ∀ x ∈ l, U64 x.2.1 ∧ U64 x.2.2) (hl : l.length ≤ 1000)
    (hr : A1 rb ∧ A1 g ∧ wb ≠ rb ∧ wb ≠ g ∧ k ≤ L.length ∧ L.length ≤ 1000 ∧ (∀ s ∈ L, 1088 ≤ s.1 ∧ s.1 < 1280 ∧ (s.1 - 1088) % 8 = 0) ∧ C.drop T = L.drop k ++ comeL 1088 n (l.map akOf))
    {dn : Bool} {k' : Nat} {vs' : List Int} {S' : Nat → Prop} (hc : (k' = k ∧ vs' = vs) ∨ (k < L.length ∧ k' = k + 1 ∧ vs' = vs.set (eK L k / 8).toNat (eP L k)))
    (hm2 : MemN w2 mb S' vs' (N + 1)) (hs2 : ∀ i, S' i → S i ∨ wr.heap.size ≤ i) (hk2 : Keeps (fun i => i = rb ∨ S i) wr w2) (hd : dn = true → k' = L.length) (hnd : dn = false → RunW w2 rb mb g cap S' L k')
    (hk3 : Keeps (fun i => i = wb) w2 w3) (hb3 : Blk w3 wb (wrCells mb n v (if dn = true then none else some ⟨rb, 0, none⟩)) 76) : WstP n0 low w wb mb B A C T N (.returned (.bool true)) w3 := by
  obtain ⟨h1, h2, h3, h4, h5, h6, h7, h8⟩ := hr
  obtain ⟨T', q1, q2, q3, q4, q5, q6⟩ := run_far hC hH hU hW1.tl h5 h8 hc
  have hwb : wb < wr.heap.size := (hW1.own wb hW1.wbA).2
  have hS'wb : ¬ S' wb := fun h => (hs2 wb h).elim hSA.2.2 (fun h => by omega)
  have hz2 := hk2.size
  have hz3 := hk3.size
  have hB := hW1.sz
  have hK : Keeps A w w3 := (hK1.mono (fun i _ e => e ▸ hSA.2.1)).trans' ((hk2.mono (fun i _ e => (show (i = rb ∨ S i) ∨ i = wb from .inl e))).trans (hk3.mono (fun i _ e => .inr e))) (fun i hi e => by
    rcases e with (e | e) | e
    · exact (hA1 i (e ▸ h1)).elim id (fun h => by omega)
    · exact hSA.1 i e
    · exact e ▸ hSA.2.1)
  have hk23 : Keeps (fun i => (i = rb ∨ S i) ∨ i = wb) wr w3 := (hk2.mono (fun i _ e => .inl e)).trans (hk3.mono (fun i _ e => .inr e))
  refine ⟨true, T', vs', S', fun i => A1 i ∨ S' i, rfl, q1, hm2.kept hk3 (fun i hi e => hS'wb (e ▸ hi)), q3, q4, ⟨by omega, fun i hi => ?_, fun i hi => .inr hi, .inl hW1.wbA, hS'wb, q2, n, v, l, _, hb3, ha.kept hk23 hB (fun i hi => ?_), hn, hu, hl, ?_⟩, fun i hi => ?_, hK⟩
  · rcases hi with hi | hi
    · have := hW1.own i hi; omega
    · have := hm2.lt hi
      rcases hs2 i hi with h | h
      · have := hW1.own i (hW1.sub i h); omega
      · omega
  · rcases hi with (e | e) | e
    · rw [e]; exact (hW1.own rb h1).1
    · exact (hW1.own i (hW1.sub i e)).1
    · rw [e]; exact (hW1.own wb hW1.wbA).1
  · cases dn with
    | true =>
      refine .inl ⟨rfl, ?_⟩
      rw [q6, hd rfl, List.drop_length, List.nil_append]
    | false =>
      exact .inr ⟨rb, g, cap, L, k', rfl, (hnd rfl).kept hk3 h3.symm h4.symm, .inl h1, .inl h2, h3, h4, q5, h6, h7, q6⟩
  · have hz1 := hK1.size
    rcases hi with hi | hi
    · exact hA1 i hi
    · rcases hs2 i hi with h | h
      · exact .inl (hSA.1 i h)
      · exact .inr (by omega)
theorem wr_skip {wr W : World} {wb mb B : Nat} {S A1 : Nat → Prop} {C : List (Int × Int)} {T : Nat} {n : Nd} {v : Value} {l : List Rq} (hW1 : Wr wr wb mb B S A1 C T) (hk : Keeps (fun i => i = wb) wr W) (hb : Blk W wb (wrCells mb n v none) 76)
    (ha : AskAt wr B v l) (hn : NdOk 1280 n) (hu : ∀ x ∈ l, U64 x.2.1 ∧ U64 x.2.2) (hl : l.length ≤ 1000) (hc : C.drop T = comeL 1088 n (l.map akOf)) : Wr W wb mb B S A1 C T :=
  ⟨Nat.le_trans hW1.sz hk.size, fun i hi => ⟨(hW1.own i hi).1, Nat.lt_of_lt_of_le (hW1.own i hi).2 hk.size⟩, hW1.sub, hW1.wbA, hW1.wbS, hW1.tl, n, v, l, none, hb, ha.kept hk hW1.sz (fun i e => by rw [e]; exact (hW1.own wb hW1.wbA).1), hn, hu, hl, .inl ⟨rfl, hc⟩⟩
theorem wr_start {w wr W : World} {wb mb B : Nat} {S A A1 : Nat → Prop} {C : List (Int × Int)} {T : Nat} {m : Nd} {v sl : Value} {l : List Rq} {L : List (Int × Int)} {rb : Nat} (hW1 : Wr wr wb mb B S A1 C T) (hA1 : ∀ i, A1 i → A i ∨ w.heap.size ≤ i) (hsz : w.heap.size ≤ wr.heap.size) (hk : Keeps (fun i => i = wb) wr W)
    (hb : Blk W wb (wrCells mb m v (some ⟨rb, 0, none⟩)) 76) (ha : AskAt wr B v l) (hn : NdOk 1280 m) (hu : ∀ x ∈ l, U64 x.2.1 ∧ U64 x.2.2) (hl : l.length ≤ 1000)
    (hbr : Blk W rb (rnCells (rnNew rb (some ⟨mb, 0, none⟩) 1 sl)) 129) (hsl : W.ownsRow wr.heap.size 32 2 sl L.length (ecells L)) (hlt : wr.heap.size ≤ rb) (hne : sl.ownBlock ≠ some rb) (hL0 : 0 < L.length) (hL1 : L.length ≤ 1000) (hLa : ∀ s ∈ L, 1088 ≤ s.1 ∧ s.1 < 1280 ∧ (s.1 - 1088) % 8 = 0)
    (hc : C.drop T = L ++ comeL 1088 m (l.map akOf)) : ∃ A2, Wr W wb mb B S A2 C T ∧ ∀ i, A2 i → A i ∨ w.heap.size ≤ i := by
  obtain ⟨g, cap, rfl, hg1, hg2, hg3, hg4, hE⟩ := own_ents hsl rfl hL0
  have hB := hW1.sz
  have hz := hk.size
  have hwb := (hW1.own wb hW1.wbA).2
  have hSl : ∀ i, S i → i < wr.heap.size := fun i hi => (hW1.own i (hW1.sub i hi)).2
  have hrl := hbr.lt
  refine ⟨fun i => A1 i ∨ i = rb ∨ i = g, ⟨by omega, fun i hi => ?_, fun i hi => .inl (hW1.sub i hi), .inl hW1.wbA, hW1.wbS, hW1.tl, m, v, l, _, hb, ha.kept hk hB (fun i e => by rw [e]; exact (hW1.own wb hW1.wbA).1), hn, hu, hl, .inr ⟨rb, g, cap, L, 0, rfl, ?_, .inr (.inl rfl), .inr (.inr rfl), by omega, by omega, Nat.zero_le _, hL1, hLa, by rw [List.drop_zero]; exact hc⟩⟩, fun i hi => ?_⟩
  · rcases hi with hi | rfl | rfl
    · have := hW1.own i hi; omega
    · omega
    · omega
  · exact ⟨_, ⟨hbr, rfl, rfl, rfl, hg2, hE, fun h => by have := hSl rb h; omega, fun h => by have := hSl g h; omega, fun e => hne (by rw [e]; rfl)⟩, rfl, rfl, .inl ⟨rfl, hL0⟩⟩
  · rcases hi with hi | rfl | rfl
    · exact hA1 i hi
    · exact .inr (by omega)
    · exact .inr (by omega)
theorem apply_made {n : Nd} {x : Rq} (hn : NdOk 1280 n) (hu : U64 x.2.1 ∧ U64 x.2.2) (hc : aC 1088 n (akOf x) = 0) :
    applyV 1088 n (aL 1088 n (akOf x)) = (aN 1088 n (akOf x), 0) ∧ NdOk 1280 (aN 1088 n (akOf x)) ∧ 0 < (aL 1088 n (akOf x)).length ∧ (aL 1088 n (akOf x)).length ≤ 1000 ∧ (∀ s ∈ aL 1088 n (akOf x), 1088 ≤ s.1 ∧ s.1 < 1280 ∧ (s.1 - 1088) % 8 = 0) := by
  obtain ⟨k1, k2, k3, k4⟩ := ask11_ok (kind := x.1) hu.1 hu.2
  obtain ⟨hC, hl, _, _, h2⟩ := course_one hn k1 k2 k3 k4 hc
  obtain ⟨m, hm⟩ := hC.ok
  refine ⟨?_, hC.at_ _, (show 0 < _ from Nat.lt_of_lt_of_le (by decide) h2), hl, fun s hs => ⟨(hC.addr s hs).1, (hC.addr s hs).2.1, (hC.addr s hs).2.2.1⟩⟩
  unfold applyV
  have hm' : applyL 1088 n (aL 1088 n (akOf x)) = some m := hm
  rw [hm', show aN 1088 n (akOf x) = m from ndAt_all hm']
set_option maxRecDepth 100000 in
set_option maxHeartbeats 40000000 in
theorem wstep_v (n0 : Nd) (low : Int) (w : World) (wb mb B : Nat) (S A : Nat → Prop) (C : List (Int × Int)) (d T : Nat) (vs : List Int) (N : Int) (h : Wr w wb mb B S A C T) (hm : MemN w mb S vs N) (hN : N ≤ 1000000)
    (hC : Course 1088 1280 n0 C d) (hH : Holds (wAt 1088 n0 C) low T vs) (hU : U64s vs) :
    Calls Try.prog 26 #[.pointer (some ⟨wb, 0, none⟩)] w (WstP n0 low w wb mb B A C T N) := by
  have HM := Lib.hid hm
  have HN := Lib.hid hN
  have HC := Lib.hid hC
  have HH := Lib.hid hH
  have HU := Lib.hid hU
  have HW := Lib.hid (show WlI w wb mb B S A C T w from ⟨A, h, fun _ hi => .inl hi, Keeps.refl _ _⟩)
  have HSA := Lib.hid (show (∀ i, S i → A i) ∧ A wb ∧ ¬ S wb from ⟨h.sub, h.wbA, h.wbS⟩)
  clear h hm hN hC hH hU
  go_enter Try.func26, Try.ntmps26
  go_wp2_with (fail)
  go_loopw [3] (fun _ wr => Hid (WlI w wb mb B S A C T wr)) (fun _ wr => wrM wb wr)
  case atStart => exact HW
  case round =>
    have HI := hrel
    clear HW hrel
    obtain ⟨A1, hW1, hA1, hK1⟩ := HI.out
    obtain ⟨n, v, l, r, hb, ha, hn, hu, hl, q⟩ := hW1.h
    have HW1 := Lib.hid hW1
    have HA1 := Lib.hid hA1
    have HK1 := Lib.hid hK1
    have HB := Lib.hid hb
    have HA := Lib.hid ha
    have HN1 := Lib.hid hn
    have HU1 := Lib.hid hu
    have HL := Lib.hid hl
    rcases q with ⟨rfl, hcome⟩ | ⟨rb, g, cap, L, k, rfl, hrun, hr⟩
    · have HCm := Lib.hid hcome
      have c23 : wr.cell? ⟨wb, 23, none⟩ = some (.pointer none) := (hb.cell 23).trans (wr_23 _ _ _ _)
      obtain ⟨a, c, rfl, hlc, ha2⟩ := ha
      have c22 : wr.cell? ⟨wb, 22, none⟩ = some (.slice a l.length c) := (hb.cell 22).trans (wr_22 _ _ _ _)
      have HA2 := Lib.hid ha2
      cases l with
      | nil =>
        clear hW1 hA1 hK1 hb hn hu hl hcome ha2 hlc
        go_wp2_with (fail)
        go_ret
        exact ⟨false, T, vs, S, A1, rfl, .inl rfl, (HM.out.kept HK1.out (fun i hi e => HSA.out.2.2 (e ▸ hi))).mono (by omega), HH.out, HU.out, HW1.out, HA1.out, HK1.out.mono (fun i _ e => e ▸ HSA.out.2.1)⟩
      | cons x l =>
        obtain ⟨g, o, rfl, hg, hcl⟩ := ha2 (by simp)
        clear hW1 hA1 hK1 hb hn hu hl hcome ha2
        have HXl := Lib.hid (show ∀ j u, (rqC x)[j]? = some u → wr.cell? ⟨g, o + j, none⟩ = some u from fun j u hj => by have := hcl 0 x rfl j u hj; rwa [Nat.mul_zero, Nat.add_zero] at this)
        have HLc := Lib.hid hlc
        clear HA2 hcl hlc
        go_upto_region 5 with ((with_reducible refine wpList_load_part (o := ⟨some 24, .load 104 (.tmp 23), _, _, _, _⟩) ?hg 104 (.tmp 23) ?ho g o ?hx #[.int .i64 x.1, .int .u64 x.2.1, .int .u64 x.2.2] ?dd ?hc ?hu ?hd ?hi ?_); (case hg => rfl); (case ho => rfl); (case hx => rfl); (case hc => exact HXl.out); (case hu => exact Try.underlying104); (case hd => rfl); (case hi => exact infoAsk x))
        obtain ⟨ab, hab⟩ : ∃ ab, wr.heap.size = ab := ⟨_, rfl⟩
        have hxb := Blk.new wr (rqC x) 104
        have hk5 : Below wr.heap.size wr (wr.alloc (.cells (rqC x) 104)) := (Below.refl _ wr).alloc (Nat.le_refl _) _
        have hb5 := HB.out.alloc (.cells (rqC x) 104)
        rw [hab] at hxb ⊢
        unfold rqC ask11C at hxb hk5 hb5
        obtain ⟨W5, hW5⟩ : ∃ W5, W5 = wr.alloc (.cells #[.int .i64 x.1, .int .u64 x.2.1, .int .u64 x.2.2] 104) := ⟨_, rfl⟩
        rw [← hW5] at hxb hk5 hb5 ⊢
        have HX5 := Lib.hid hxb
        have HK5 := Lib.hid hk5
        have HB5 := Lib.hid hb5
        have c5 : W5.cell? ⟨wb, 22, none⟩ = some (.slice (some ⟨g, o, none⟩) (l.length + 1) c) := (hb5.cell 22).trans (wr_22 _ _ _ _)
        have f5 : W5.frozen? ⟨wb, 22, none⟩ = false := hb5.frozen 22
        clear hxb hk5 hb5 c22 c23 hW5
        go_upto_region 6 with (fail)
        have hA6 := HA.out.tail
        obtain ⟨v6, hv6⟩ : ∃ v6, v6 = Value.slice (if c = 1 then (some ⟨g, o, none⟩ : Option Addr) else some ⟨g, o + 3, none⟩) l.length (c - 1) := ⟨_, rfl⟩
        have hA6 : AskAt wr B v6 l := by rw [hv6]; exact hA6
        have hs6 : ∃ a k, v6 = .slice a l.length k := ⟨_, _, hv6⟩
        rw [← hv6]
        have hb6 := HB5.out.set 22 v6
        rw [wr_set22] at hb6
        have hx6 := HX5.out.other 22 v6 (fun e => by have := HB.out.lt; omega : ab ≠ wb)
        have hk6 : Keeps (fun i => i = wb) wr (W5.setCell ⟨wb, 22, none⟩ v6) := (show Keeps (fun i => i = wb) wr W5 from (Keeps.of_below' HK5.out).mono (fun _ _ h => h.elim)).setCell (p := ⟨wb, 22, none⟩) (.inl rfl) v6
        obtain ⟨W6, hW6⟩ : ∃ W6, W6 = W5.setCell ⟨wb, 22, none⟩ v6 := ⟨_, rfl⟩
        rw [← hW6] at hb6 hx6 hk6 ⊢
        have HA6 := Lib.hid hA6
        have HS6 := Lib.hid hs6
        have HB6 := Lib.hid hb6
        have HX6 := Lib.hid (show Blk W6 ab (rqC x) 104 from hx6)
        have HK6 := Lib.hid hk6
        have HWS := Lib.hid (show wb < W6.heap.size from hb6.lt)
        clear hA6 hv6 hs6 hb6 hx6 hk6 hW6 HB5 HX5 HK5 HXl HLc c5 f5 hg hab
        --GEN r_ms6
        refine wp_region_vals [Is (.pointer (some ⟨wb, 0, none⟩)), Is (.pointer (some ⟨wb, 0, none⟩)), Is (.pointer (some ⟨wb, 1, none⟩)), Is (.agg (ndCells n)), Is (.agg (rqC x)), MadeR W6.heap.size (aL 1088 n (akOf x)) (aC 1088 n (akOf x)), MadeR W6.heap.size (aL 1088 n (akOf x)) (aC 1088 n (akOf x)), RowQ W6.heap.size (aL 1088 n (akOf x)), Is (.int .i64 (aC 1088 n (akOf x))), RowQ W6.heap.size (aL 1088 n (akOf x)), Is (.int .i64 (aC 1088 n (akOf x)))]
          (fun _ W W' => Below W.heap.size W W') (fun _ W => Below W6.heap.size W6 W) (by kernel_rfl) (by kernel_rfl) (by kernel_rfl) ?hst ?h0 ⟨?o0, ?o1, ?o2, ?o3, ?o4, ?o5, ?o6, ?o7, ?o8, ?o9, ?o10, trivial⟩ ?he
        case hst =>
          exact ⟨(fun _ _ _ _ _ _ h _ => h), (fun _ _ _ _ _ _ h _ => h), (fun _ _ _ _ _ _ h _ => h), (fun _ _ _ _ _ _ h _ => h), (fun _ _ _ _ _ _ h _ => h), (fun _ _ _ _ _ _ h hR => MadeR.below h hR), (fun _ _ _ _ _ _ h hR => MadeR.below h hR), (fun _ _ _ _ _ _ h hR => RowQ.below h hR), (fun _ _ _ _ _ _ h _ => h), (fun _ _ _ _ _ _ h hR => RowQ.below h hR), (fun _ _ _ _ _ _ h _ => h), trivial⟩
        case h0 =>
          exact (Below.refl _ _).drew
        case o0 =>
          intro L vs A W H hf hd K hK
          have e0 : A.tmps[0]?.getD undef = .pointer (some ⟨wb, 0, none⟩) := H.old 0 (by kernel_rfl)
          go_simp
          exact hK _ _ (Below.refl _ _) rfl (H.glob)
        case o1 =>
          intro L vs A W H hf hd K hK
          have e34 := H.is 0 34 rfl rfl rfl (deps_of' hd 0 (by kernel_rfl)) (by kernel_rfl)
          go_simp
          exact hK _ _ (Below.refl _ _) rfl (H.glob)
        case o2 =>
          intro L vs A W H hf hd K hK
          have e35 := H.is 1 35 rfl rfl rfl (deps_of' hd 1 (by kernel_rfl)) (by kernel_rfl)
          go_simp
          exact hK _ _ (Below.refl _ _) rfl (H.glob)
        case o3 =>
          intro L vs A W H hf hd K hK
          have e36 := H.is 2 36 rfl rfl rfl (deps_of' hd 2 (by kernel_rfl)) (by kernel_rfl)
          refine wp_load_part 40 (.tmp 36) rfl wb 1 (ev_tmp e36) (ndCells n) _ (fun j u hj => ?_) Try.underlying40 rfl (info27 n) (hK _ _ (Below.refl _ _) rfl H.glob)
          exact ((HB6.out.below H.glob HB6.out.lt).cell (1 + j)).trans (wr_n mb n _ _ j u hj)
        case o4 =>
          intro L vs A W H hf hd K hK
          have e3 : A.tmps[3]?.getD undef = .pointer (some ⟨ab, 0, none⟩) := H.old 3 (by kernel_rfl)
          refine wp_load_part 104 (.tmp 3) rfl ab 0 (ev_tmp e3) (rqC x) _ (fun j u hj => ?_) Try.underlying104 rfl (infoAsk x) (hK _ _ (Below.refl _ _) rfl H.glob)
          exact ((HX6.out.below H.glob HX6.out.lt).cell (0 + j)).trans (by rw [Nat.zero_add]; exact hj)
        case o5 =>
          intro L vs A W H hf hd K hK
          have e37 := H.is 3 37 rfl rfl rfl (deps_of' hd 3 (by kernel_rfl)) (by kernel_rfl)
          have e38 := H.is 4 38 rfl rfl rfl (deps_of' hd 4 (by kernel_rfl)) (by kernel_rfl)
          have HP := Lib.hid (puts_v n x.1 x.2.1 x.2.2 W)
          go_simp
          refine HP.out.mono ?_
          rintro e W2 ⟨a, m, c, rfl, hm, ho, hB⟩
          subst hm
          go_simp
          exact hK _ _ hB ⟨a, _, c, rfl, rfl, own_mono ho H.glob.size⟩ (H.glob.trans (hB.mono H.glob.size))
        case o6 =>
          intro L vs A W H hf hd K hK
          obtain ⟨v39, e39, q39⟩ := H.val 5 39 rfl rfl rfl (deps_of' hd 5 (by kernel_rfl)) (by kernel_rfl)
          go_simp
          exact hK _ _ (Below.refl _ _) q39 H.glob
        case o7 =>
          intro L vs A W H hf hd K hK
          obtain ⟨v33, e33, q33⟩ := H.val 6 33 rfl rfl rfl (deps_of' hd 6 (by kernel_rfl)) (by kernel_rfl)
          obtain ⟨a, m, c, rfl, hm, ho⟩ := q33
          subst hm
          go_simp
          exact hK _ _ (Below.refl _ _) ⟨a, c, rfl, ho⟩ H.glob
        case o8 =>
          intro L vs A W H hf hd K hK
          obtain ⟨v33, e33, q33⟩ := H.val 6 33 rfl rfl rfl (deps_of' hd 6 (by kernel_rfl)) (by kernel_rfl)
          obtain ⟨a, m, c, rfl, hm, ho⟩ := q33
          go_simp
          exact hK _ _ (Below.refl _ _) rfl H.glob
        case o9 =>
          intro L vs A W H hf hd K hK
          obtain ⟨v40, e40, q40⟩ := H.val 7 40 rfl rfl rfl (deps_of' hd 7 (by kernel_rfl)) (by kernel_rfl)
          go_simp
          exact hK _ _ (Below.refl _ _) q40 H.glob
        case o10 =>
          intro L vs A W H hf hd K hK
          have e41 := H.is 8 41 rfl rfl rfl (deps_of' hd 8 (by kernel_rfl)) (by kernel_rfl)
          go_simp
          exact hK _ _ (Below.refl _ _) rfl (H.glob)
        case he =>
          intro vs W hlen hv
          match vs, hlen, hv with
          | [x0_, x1_, x2_, x3_, x4_, x5_, x6_, x7_, x8_, x9_, x10_], _, hv =>
          obtain rfl : (.pointer (some ⟨wb, 0, none⟩)) = x0_ := by obtain ⟨z, h1, h2⟩ := hv 0 _ rfl; cases h1; exact h2.symm
          obtain rfl : (.pointer (some ⟨wb, 0, none⟩)) = x1_ := by obtain ⟨z, h1, h2⟩ := hv 1 _ rfl; cases h1; exact h2.symm
          obtain rfl : (.pointer (some ⟨wb, 1, none⟩)) = x2_ := by obtain ⟨z, h1, h2⟩ := hv 2 _ rfl; cases h1; exact h2.symm
          obtain rfl : (.agg (ndCells n)) = x3_ := by obtain ⟨z, h1, h2⟩ := hv 3 _ rfl; cases h1; exact h2.symm
          obtain rfl : (.agg (rqC x)) = x4_ := by obtain ⟨z, h1, h2⟩ := hv 4 _ rfl; cases h1; exact h2.symm
          have hx5 : (MadeR W6.heap.size (aL 1088 n (akOf x)) (aC 1088 n (akOf x))) x5_ W := by obtain ⟨z, h1, h2⟩ := hv 5 _ rfl; cases h1; exact h2
          have hx6 : (MadeR W6.heap.size (aL 1088 n (akOf x)) (aC 1088 n (akOf x))) x6_ W := by obtain ⟨z, h1, h2⟩ := hv 6 _ rfl; cases h1; exact h2
          have hx7 : (RowQ W6.heap.size (aL 1088 n (akOf x))) x7_ W := by obtain ⟨z, h1, h2⟩ := hv 7 _ rfl; cases h1; exact h2
          obtain rfl : (.int .i64 (aC 1088 n (akOf x))) = x8_ := by obtain ⟨z, h1, h2⟩ := hv 8 _ rfl; cases h1; exact h2.symm
          have hx9 : (RowQ W6.heap.size (aL 1088 n (akOf x))) x9_ W := by obtain ⟨z, h1, h2⟩ := hv 9 _ rfl; cases h1; exact h2
          obtain rfl : (.int .i64 (aC 1088 n (akOf x))) = x10_ := by obtain ⟨z, h1, h2⟩ := hv 10 _ rfl; cases h1; exact h2.symm
          intro L hall hG
          clear hv hlen
          have HQ := Lib.hid hx9
          have HG7 := Lib.hid hG
          clear hG hall hx5 hx6 hx7 hx9
          simp only [fill, if_true]
        --END
          have HHu := Lib.hid (HU1.out x (by simp))
          have HUl := Lib.hid (fun y (hy : y ∈ l) => HU1.out y (by simp [hy]))
          have HLl := Lib.hid (show l.length ≤ 1000 from by have := HL.out; rw [List.length_cons] at this; omega)
          have HKW := Lib.hid (show Keeps (fun i => i = wb) wr W from HK6.out.trans ((Keeps.of_below' HG7.out).mono (fun _ _ h => h.elim)))
          have HBW := Lib.hid (HB6.out.below HG7.out HB6.out.lt)
          simp [Act.put]
          clear HG7 HB6 HX6 HK6
          by_cases hc0 : aC 1088 n (akOf x) = 0
          · obtain ⟨hap, hno, hL0, hL1, hLa⟩ := apply_made HN1.out HHu.out hc0
            have hcm := HCm.out.trans (comeL_yes hc0 _)
            obtain ⟨m, hm⟩ : ∃ m, aN 1088 n (akOf x) = m := ⟨_, rfl⟩
            rw [hm] at hap hno hcm
            obtain ⟨a9, k9, rfl, ho9⟩ := HQ.out
            obtain ⟨Lx, hLx⟩ : ∃ Lx, aL 1088 n (akOf x) = Lx := ⟨_, rfl⟩
            rw [hLx] at hap hL0 hL1 hLa hcm ho9 ⊢
            obtain ⟨g9, c9, he9, hg9, hg9', -, -, hE9⟩ := own_ents ho9 rfl hL0
            injection he9 with he9a _ he9b
            subst he9a he9b
            have HAp := Lib.hid (show Calls Try.prog 46 #[.int .u64 1088, .agg (ndCells n), .slice (some ⟨g9, 0, none⟩) Lx.length k9] W fun e w' => e = .returned (.tuple #[.agg (ndCells m), .int .i64 0]) ∧ Below W.heap.size W w' from by
              have := apply_v 1088 n Lx (some ⟨g9, 0, none⟩) g9 k9 W (by unfold Stands; omega) (by omega) (fun _ => rfl) hE9 (fun i hi => by
                have := hLa _ (ent_mem hi); simp only at this; omega)
              rw [hap] at this
              exact this)
            have HOw := Lib.hid ho9
            have HNo := Lib.hid hno
            have HL0 := Lib.hid hL0
            have HL1 := Lib.hid hL1
            have HLa := Lib.hid hLa
            have HCy := Lib.hid hcm
            have HWb := Lib.hid (show wb < W6.heap.size ∧ wb < W.heap.size ∧ wb < wr.heap.size from ⟨HWS.out, HBW.out.lt, HB.out.lt⟩)
            clear hap hno hL0 hL1 hLa hcm hm hLx ho9 hE9 hg9 hg9' HQ
            rw [hc0]
            clear hc0
            go_wp2_with ((with_reducible refine wpList_load_part (o := ⟨some 49, .load 40 (.tmp 48), _, _, _, _⟩) ?hgN 40 (.tmp 48) ?hoN wb 1 ?hxN (ndCells n) ?ddN ?hcN ?huN ?hdN ?hiN ?_); (case hgN => rfl); (case hoN => rfl); (case hxN => rfl); (case hcN => exact fun j u hj => (HBW.out.cell (1 + j)).trans (wr_n mb n _ _ j u hj)); (case huN => exact Try.underlying40); (case hdN => rfl); (case hiN => exact info27 n))
            refine HAp.out.mono ?_
            rintro e W8 ⟨rfl, hB8⟩
            have HB8 := Lib.hid (HBW.out.below hB8 HWb.out.2.1)
            have HO8 := Lib.hid (own_below HOw.out hB8)
            have HK8 := Lib.hid (HKW.out.trans ((Keeps.of_below' hB8).mono (fun _ _ h => h.elim)))
            clear hB8 HAp HOw HBW HKW
            go_upto_region 9 with ((with_reducible refine wpList_store_ndm (o := ⟨none, .store 40 (.tmp 55) (.tmp 52), _, _, _, _⟩) ?hgM (.tmp 55) (.tmp 52) ?hoM wb 1 m (ndCells m) ?CCM 76 ?hxM ?hyM ?hmM ?hbM ?hsM ?_); (case hgM => rfl); (case hoM => rfl); (case hxM => rfl); (case hyM => rfl); (case hmM => rfl); (case hbM => exact HB8.out); (case hsM => rw [wrCells_size]; decide))
            have hb9 := Blk.mid (ndCells m).toList 1 HB8.out
            rw [wr_putN] at hb9
            have hk9 : Keeps (fun i => i = wb) W8 (W8.setCells wb 1 (ndCells m).toList) := keeps_setCells (S := fun i => i = wb) (.inl rfl) _ 1 (Keeps.refl _ _)
            have ho9 := own_keeps HO8.out hk9 (fun i hi e => by have := own_base HO8.out i hi; have := HWb.out.1; omega)
            obtain ⟨W9, hW9⟩ : ∃ W9, W9 = W8.setCells wb 1 (ndCells m).toList := ⟨_, rfl⟩
            rw [← hW9] at hb9 hk9 ho9 ⊢
            have HB9 := Lib.hid hb9
            have HK9 := Lib.hid (HK8.out.trans hk9)
            have HRn := Lib.hid (rnew_v (some ⟨mb, 0, none⟩) 1 _ Lx W9 (own_mono ho9 (Nat.zero_le _)) (by have := HL1.out; omega))
            have c0 : W9.cell? ⟨wb, 0, none⟩ = some (.pointer (some ⟨mb, 0, none⟩)) := (hb9.cell 0).trans (wr_0 _ _ _ _)
            clear hb9 hk9 ho9 hW9 HB8 HO8 HK8
            simp [Act.put]
            go_wp2_with (fail)
            refine HRn.out.mono ?_
            rintro e W10 ⟨rb, sl, rfl, hbr, hsl, hlt, hne, hB10⟩
            have hz9 := HK9.out.size
            have hb10 := HB9.out.below hB10 HB9.out.lt
            have f23 : W10.frozen? ⟨wb, 23, none⟩ = false := hb10.frozen 23
            have d23 : W10.cell? ⟨wb, 23, none⟩ = some (.pointer none) := (hb10.cell 23).trans (wr_23 _ _ _ _)
            have hb11 := hb10.set 23 (.pointer (some ⟨rb, 0, none⟩))
            rw [wr_set23] at hb11
            have hk11 : Keeps (fun i => i = wb) W10 (W10.setCell ⟨wb, 23, none⟩ (.pointer (some ⟨rb, 0, none⟩))) := (Keeps.refl (fun i => i = wb) W10).setCell (p := ⟨wb, 23, none⟩) (.inl rfl) _
            have hkW := (HK9.out.trans ((Keeps.of_below' hB10).mono (fun _ _ h => h.elim))).trans hk11
            have hw9 := HWb.out.2.2
            obtain ⟨A2, hW2, hA2⟩ := wr_start HW1.out HA1.out HK1.out.size hkW hb11 HA6.out HNo.out HUl.out HLl.out (hbr.other 23 _ (by omega : rb ≠ wb)) (own_mono (own_keeps hsl hk11 (fun i hi e => by have := own_base hsl i hi; omega)) hz9) (by omega) hne HL0.out HL1.out HLa.out HCy.out
            have HRel := Lib.hid (show WlI w wb mb B S A C T _ from ⟨A2, hW2, hA2, HK1.out.trans hkW⟩)
            have HMs := Lib.hid (show wrM wb (W10.setCell ⟨wb, 23, none⟩ (.pointer (some ⟨rb, 0, none⟩))) < wrM wb wr from by
              obtain ⟨a6, k6, e6⟩ := HS6.out
              rw [e6] at hb11
              rw [wrM_eq hb11, wrM_eq HB.out, List.length_cons]; omega)
            clear hbr hsl hlt hne hB10 hz9 hb10 hb11 hk11 hkW hw9 hW2 hA2 HRn
            go_wp2_with (fail)
            go_roundw
            case rel => exact HRel
            case measure => exact HMs.out
          · have hq : (aC 1088 n (akOf x) != 0) = true := bne_iff_ne.2 hc0
            have hW := wr_skip HW1.out HKW.out HBW.out HA6.out HN1.out HUl.out HLl.out (HCm.out.trans (comeL_no hc0 _))
            have HRel := Lib.hid (show WlI w wb mb B S A C T W from ⟨A1, hW, HA1.out, HK1.out.trans HKW.out⟩)
            have HMs := Lib.hid (show wrM wb W < wrM wb wr from by
              obtain ⟨a6, k6, e6⟩ := HS6.out
              have h1 := HBW.out
              rw [e6] at h1
              rw [wrM_eq h1, wrM_eq HB.out, List.length_cons]; omega)
            clear hW hc0
            go_wp2_with (fail)
            go_roundw
            case rel => exact HRel
            case measure => exact HMs.out
    · clear hW1 hA1 hK1 hb hn hu hl ha
      have c23 : wr.cell? ⟨wb, 23, none⟩ = some (.pointer (some ⟨rb, 0, none⟩)) := (HB.out.cell 23).trans (wr_23 _ _ _ _)
      go_wp2_with (fail)
      have hmr := HM.out.kept HK1.out (fun i hi e => HSA.out.2.2 (e ▸ hi))
      have hvl := HH.out.len
      refine (rgo_v hrun hmr HN.out (by omega) (fun i hi => ?_)).mono ?_
      · have := hr.2.2.2.2.2.2.1 _ (ent_mem hi)
        refine ⟨by show 0 ≤ eK L i; have := this.1; simp only at this; omega, ?_, ?_⟩
        · have := this.2.1; simp only at this; omega
        · unfold atE
          rw [if_neg]
          simp only at this
          omega
      rintro e w2 ⟨dn, k', vs', S', rfl, hcs, hm2, hs2, hk2, hd, hnd⟩
      have hb2 := HB.out.kept hk2 (fun e => e.elim hr.2.2.1 (fun e => HSA.out.2.2 e))
      cases dn with
      | false =>
        have HE := Lib.hid (wr_end (n0 := n0) (low := low) HW1.out HA1.out HK1.out HSA.out HC.out HH.out HU.out HA.out HN1.out HU1.out HL.out hr hcs hm2 hs2 hk2 hd hnd (Keeps.refl _ _) hb2)
        clear hcs hm2 hs2 hk2 hd hnd hb2 hr hrun hmr hvl
        go_wp2_with (fail)
        go_ret
        exact HE.out
      | true =>
        have hb3 := hb2.set 23 (.pointer none)
        rw [wr_set23] at hb3
        have HE := Lib.hid (wr_end (n0 := n0) (low := low) HW1.out HA1.out HK1.out HSA.out HC.out HH.out HU.out HA.out HN1.out HU1.out HL.out hr hcs hm2 hs2 hk2 hd hnd ((Keeps.refl (fun i => i = wb) w2).setCell (p := ⟨wb, 23, none⟩) (.inl rfl) (.pointer none)) hb3)
        have f23 : w2.frozen? ⟨wb, 23, none⟩ = false := hb2.frozen 23
        have d23 : w2.cell? ⟨wb, 23, none⟩ = some (.pointer (some ⟨rb, 0, none⟩)) := (hb2.cell 23).trans (wr_23 _ _ _ _)
        clear hcs hm2 hs2 hk2 hd hnd hb2 hb3 hr hrun hmr hvl
        go_wp2_with (fail)
        go_ret
        exact HE.out
end Go.Proofs.Ytgmbnoimlffgcaa
