/-
  The document's search (leveeref28.fits): PLAIN; rows of bools.
-/
import Derived.Test.YtdmcakoaakinnaaLrc
import Derived.Test.YtdmcakoaakinnaaQp
import Derived.Test.YtdmcakoaakinnaaQs
namespace Go.Proofs.Ytdmcakoaakinnaa
open Go.RowKit
attribute [local go_sem] Oper.semAt_some
set_option linter.unusedVariables false
set_option linter.unusedSimpArgs false

def FitsL (key : Int) : List Er → St → Prop
  | [], _ => True
  | e :: r, s => ∃ t, Reach (ofP key e.cs) s t ∧ WholeS (ofP key e.cs) t ∧ (e.kn = true → ensS t = startS (valueP e.af key)) ∧ FitsL key r (ensS t)
def EndOk (key : Int) (e : Er) (r : List Er) (s : St) : Prop := WholeS (ofP key e.cs) s ∧ (e.kn = true → ensS s = startS (valueP e.af key)) ∧ FitsL key r (ensS s)
theorem fitsL_now (key : Int) : ∀ (l : List Er) (S : St → Prop), (∃ t, nowP key l S t) ↔ ∃ s, S s ∧ FitsL key l s
  | [], S => ⟨fun ⟨t, h⟩ => ⟨t, h, trivial⟩, fun ⟨s, h, _⟩ => ⟨s, h⟩⟩
  | e :: r, S => by
    show (∃ t, nowP key r (stepE key S e) t) ↔ _
    rw [fitsL_now key r]
    constructor
    · rintro ⟨u, ⟨s, hs, ⟨t, h1, h2, rfl⟩, h3⟩, h4⟩
      exact ⟨s, hs, t, h1, h2, h3, h4⟩
    · rintro ⟨s, hs, t, h1, h2, h3, h4⟩
      exact ⟨ensS t, ⟨s, hs, ⟨t, h1, h2, rfl⟩, h3⟩, h4⟩
theorem keyT_fits (key : Int) (first : List Pr) (l : List Er) : KeyT key first l ↔ FitsL key l (startS (valueP first key)) := by
  unfold KeyT
  rw [fitsL_now]
  exact ⟨fun ⟨s, h1, h2⟩ => h1 ▸ h2, fun h => ⟨_, rfl, h⟩⟩
section
variable {key : Int} {e : Er} {r : List Er} {s n : St} {i : Nat}
theorem fits_end (h : EndOk key e r s) : FitsL key (e :: r) s := ⟨s, .refl s, h.1, h.2.1, h.2.2⟩
theorem fits_step (h : StepA (ofP key e.cs) s i n) (hf : FitsL key (e :: r) n) : FitsL key (e :: r) s := by
  obtain ⟨t, h1, h2⟩ := hf
  exact ⟨t, .step h h1, h2⟩
theorem fits_no (h : ¬ EndOk key e r s) (hn : ∀ i, i < (ofP key e.cs).length → nextB (ofP key e.cs) s i = true → ¬ FitsL key (e :: r) (afterS s i ((ofP key e.cs).getD i dnZ))) : ¬ FitsL key (e :: r) s := by
  rintro ⟨t, h1, h2⟩
  cases h1 with
  | refl => exact h h2
  | step hs hr =>
    have := hs.eq
    subst this
    exact hn _ hs.lt ((nextB_iff _ _ _ hs.lt).2 hs) ⟨t, hr, h2⟩
end
theorem ofP_op {key : Int} {cs : List Dn} {x : Dn} (h : x ∈ ofP key cs) : x.op = 1 ∨ x.op = 2 ∨ x.op = 3 := by
  unfold ofP at h
  obtain ⟨d, hd, e⟩ := List.mem_filterMap.1 h
  split at e
  · cases Option.some.inj e; exact .inr (.inl rfl)
  · split at e
    · rename_i ho
      cases Option.some.inj e
      unfold ownP at ho
      simp only [Bool.and_eq_true, Bool.or_eq_true, decide_eq_true_iff] at ho
      rcases ho.2 with (h1 | h1) | h1
      · exact .inl h1
      · exact .inr (.inr h1)
      · exact .inr (.inl h1.1)
    · cases e
/-- what is left of an era, and of those behind -/
def leftN (key : Int) : List Er → St → Nat
  | [], _ => 0
  | e :: r, s => unsetN (ofP key e.cs) s + ((r.map fun e => (ofP key e.cs).length + 1).foldr (· + ·) 0) + 1
theorem unset_le (l : List Dn) (s : St) : unsetN l s ≤ l.length := by
  unfold unsetN
  exact Nat.le_trans (List.length_filter_le _ _) (by rw [List.length_range]; exact Nat.le_refl _)
theorem left_next (key : Int) (e : Er) (r : List Er) (s t : St) : leftN key r t < leftN key (e :: r) s := by
  cases r with
  | nil => show 0 < _ + _ + 1; omega
  | cons e2 r =>
    show _ + _ + 1 < _ + _ + 1
    have := unset_le (ofP key e2.cs) t
    simp only [List.map_cons, List.foldr_cons]
    omega
theorem left_step {key : Int} {e : Er} {r : List Er} {s n : St} {i : Nat} (h : StepA (ofP key e.cs) s i n) : leftN key (e :: r) n < leftN key (e :: r) s := by
  show _ + _ + 1 < _ + _ + 1
  have := unset_lt h
  omega
theorem drop_er (l : List Er) (k : Nat) (h : k < l.length) : l.drop k = l.getD k erZ :: l.drop (k + 1) := by
  rw [getD_eq l k erZ h]; exact (List.getElem_cons_drop h).symm

/-! ### rows of bools -/
def BsRow (w : World) (a : Option Addr) (n : Nat) (f : Nat → Bool) : Prop := 0 < n → ∃ g o, a = some ⟨g, o, none⟩ ∧ g < w.heap.size ∧ ∀ i, i < n → w.cell? ⟨g, o + i, none⟩ = some (.bool (f i))
theorem BsRow.below {w w' : World} {a : Option Addr} {n : Nat} {f : Nat → Bool} (h : BsRow w a n f) (hB : Below w.heap.size w w') : BsRow w' a n f := fun hn => by
  obtain ⟨g, o, e, hg, hc⟩ := h hn
  exact ⟨g, o, e, Nat.lt_of_lt_of_le hg hB.size, fun i hi => (hB.cell (p := ⟨g, o + i, none⟩) hg).trans (hc i hi)⟩
def bsV (n : Nat) (f : Nat → Bool) : List Value := (List.range n).map fun i => .bool (f i)
theorem bsV_len (n : Nat) (f : Nat → Bool) : (bsV n f).length = n := by unfold bsV; simp
theorem bsV_get (n : Nat) (f : Nat → Bool) (i : Nat) (h : i < n) : (bsV n f)[i]? = some (.bool (f i)) := by unfold bsV; simp [h]
theorem BsRow.reads {w : World} {a : Option Addr} {n : Nat} {f : Nat → Bool} (h : BsRow w a n f) : Reads w w.heap.size 1 a n (bsV n f) :=
  ⟨by rw [bsV_len]; omega, fun hn => by
    obtain ⟨g, o, e, hg, hc⟩ := h hn
    refine ⟨_, e, hg, fun j u hu => ?_⟩
    have hj : j < n := by have := (List.getElem?_eq_some_iff.1 hu).1; rwa [bsV_len] at this
    have hadd : (⟨g, o, none⟩ : Addr).add j = ⟨g, o + j, none⟩ := by unfold Addr.add; split <;> simp_all
    rw [bsV_get n f j hj] at hu
    rw [hadd, hc j hj, ← hu]⟩
theorem bsV_one (n : Nat) (f : Nat → Bool) : ∀ u ∈ bsV n f, u.oneCell' = true := fun u hu => by
  unfold bsV at hu
  obtain ⟨i, _, rfl⟩ := List.mem_map.1 hu
  rfl
theorem bsV_set (n : Nat) (f : Nat → Bool) (i : Nat) : (bsV n f).set i (.bool true) = bsV n (fun j => if j = i then true else f j) := by
  apply List.ext_getElem?
  intro j
  rw [List.getElem?_set]
  by_cases hj : j < n
  · rw [bsV_get n (fun j => if j = i then true else f j) j hj]
    by_cases e : i = j
    · subst e; rw [if_pos rfl, bsV_len, if_pos hj]; simp
    · rw [if_neg e, bsV_get n f j hj, if_neg (fun h => e h.symm)]
  · have h1 : (bsV n (fun j => if j = i then true else f j))[j]? = none := List.getElem?_eq_none (by rw [bsV_len]; omega)
    rw [h1]
    split
    · rw [bsV_len, if_neg (by omega)]
    · exact List.getElem?_eq_none (by rw [bsV_len]; omega)
theorem bsV_congr {n : Nat} {f g : Nat → Bool} (h : ∀ i, i < n → f i = g i) : bsV n f = bsV n g := by
  unfold bsV
  apply List.map_congr_left
  intro i hi
  rw [h i (List.mem_range.1 hi)]
theorem own_bs {w : World} {base : Nat} {e : TypeId} {v : Value} {n : Nat} {f : Nat → Bool} (h : w.ownsRow base e 1 v n (bsV n f)) : ∃ a c, v = .slice a n c ∧ BsRow w a n f := by
  obtain ⟨a, m, c, rfl⟩ := own_slice h
  obtain rfl : m = n := own_len h
  refine ⟨a, c, rfl, fun hn => ?_⟩
  obtain ⟨g, cap, hv, _, hlt, _, _, _, hc, _⟩ := own_shape h hn
  have he : a = some ⟨g, 0, none⟩ := by injection hv
  refine ⟨g, 0, he, hlt, fun i hi => ?_⟩
  rw [Nat.zero_add, hc i hi, bsV_get _ f i hi]
theorem own_setB {w : World} {base : Nat} {e : TypeId} {n c g : Nat} {xs : List Value} (h : w.ownsRow base e 1 (.slice (some ⟨g, 0, none⟩) n c) n xs) (k : Nat) (u : Value) :
    (w.setCell ⟨g, k, none⟩ u).ownsRow base e 1 (.slice (some ⟨g, 0, none⟩) n c) n (xs.set k u) := by
  obtain ⟨hl, ⟨h0, _⟩ | ⟨g', cap, cur, hv, hb, hh, h1, h2, h3, h4⟩⟩ := h
  · cases h0
  · cases hv
    refine ⟨by simpa using hl, .inr ⟨g, c, _, rfl, hb, Blk.set (C := cur) hh k u, h1, h2, by simpa using h3, ?_⟩⟩
    rw [← h4]
    simp [List.take_set]
theorem testBit_after (s : St) (i : Nat) (d : Dn) (j : Nat) : (afterS s i d).dn.testBit j = if j = i then true else s.dn.testBit j := by
  rw [afterS_dn, Nat.testBit_or, Nat.one_shiftLeft, Nat.testBit_two_pow]
  by_cases e : j = i
  · subst e; simp
  · rw [if_neg e]; simp [show ¬ i = j from fun h => e h.symm]
theorem infoBool : ∃ i, Try.prog.info? 4 = some i ∧ i.zero = some (.bool false) ∧ i.size = 1 ∧ i.bytes = 1 := by
  have h1 : ((Try.prog.info? 4).map (·.size)) = some 1 := by kernel_rfl
  have h2 : ((Try.prog.info? 4).map (·.bytes)) = some 1 := by kernel_rfl
  have h3 : ((Try.prog.info? 4).bind (·.zero)) = some (.bool false) := by kernel_rfl
  cases h : Try.prog.info? 4 with
  | none => rw [h] at h1; cases h1
  | some i =>
    rw [h] at h1 h2 h3
    exact ⟨i, rfl, by simpa using h3, by simpa using h1, by simpa using h2⟩
/-- make([]bool, n) -/
theorem make_bs (n : Nat) (hn : n ≤ 1000000) : ∃ M, (∀ W : World, (Instr.makeSlice 93 (.int .i64 (n : Int)) (.int .i64 (n : Int))).run Try.prog W = .ok (.slice (some ⟨W.heap.size, 0, none⟩) n n) (W.alloc (.cells M 4))) ∧
    ∀ W : World, BsRow (W.alloc (.cells M 4)) (some ⟨W.heap.size, 0, none⟩) n (fun _ => false) := by
  obtain ⟨i0, hi, hz0, hz1, hz2⟩ := infoBool
  obtain ⟨M, hM⟩ : ∃ M, M = madeCells (Value.bool false).cells (((n : Nat) : Int).toNat * i0.size) := ⟨_, rfl⟩
  have hMl : M.toList = List.replicate n (.bool false) := by
    rw [hM, hz1, Nat.mul_one, Int.toNat_natCast]
    rw [show (Value.bool false).cells = #[Value.bool false] from rfl, toList_madeCells_one]
  refine ⟨M, fun W => ?_, fun W hn => ?_⟩
  · have h := run_make (P := Try.prog) W 93 4 i0 (.bool false) Try.underlying93 hi hz0 .i64 .i64 (n : Int) (n : Int) (by omega) (by omega) (by rw [hz2]; omega) (by omega)
    rw [← hM] at h
    simpa using h
  · refine ⟨_, 0, rfl, by simp, fun i hi => ?_⟩
    rw [(Blk.new W M 4).cell, Nat.zero_add, ← Array.getElem?_toList, hMl]
    simp [hi]
end Go.Proofs.Ytdmcakoaakinnaa
