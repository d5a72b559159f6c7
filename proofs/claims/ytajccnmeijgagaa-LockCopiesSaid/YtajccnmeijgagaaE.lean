/-
  THE ITERATOR OVER A CLIENT's LOCKS (Table.of): its contract.
-/
import Derived.Test.YtajccnmeijgagaaD
import Derived.RangeFuncNested
import Derived.RangeFuncBound
import Derived.RangeFuncCalls
import Derived.RangeFuncLeaves
import Derived.RangeFuncBox
import Derived.RangeFuncMany
import Derived.Sort.MapsRangeIn
import Derived.Sort.KeysCollected
import Derived.Shelf.Abstract
import Derived.Shelf.RegionOpen
import Derived.OwnWalkIn
import Derived.TacticsInMore
import Derived.RegionIn
import Derived.LoopNIn
import Derived.LoopIn
import Derived.Outline
namespace Go.Proofs.Ytajccnmeijgagaa
open Go.RowKit Go.Maps Go.Shelf
attribute [local go_sem] Oper.semAt_some

def u64E (x : Int) : Array Value := #[.int .u64 x]
def KpO (bc : Nat) (A B : World) : Prop := KeepsWalks A B ∧ (bc < A.heap.size → B.heap[bc]? = A.heap[bc]?)
/-- those that a client has -/
def HeldOf (h : Int → Option Int) (c : Int) (xs : List Int) : Prop := xs.Nodup ∧ (∀ a, a ∈ xs ↔ h a = some c) ∧ ∀ a, a ∈ xs → (Lit.int .u64 a).wf = true
def CollO (h : Int → Option Int) (c : Int) (left : Lit → Bool) (ss : List Int) : Prop := ss.Nodup ∧ (∀ a, a ∈ ss ↔ (h a = some c ∧ left (.int .u64 a) = false)) ∧ ∀ a, a ∈ ss → (Lit.int .u64 a).wf = true

theorem hold_isSome {D : DataW Unit} {a c : Int} (h : hold D a = some c) : Maps.has D (.int .u64 a) = true := by
  unfold hold at h
  split at h
  · assumption
  · cases h
theorem CollO.start {h : Int → Option Int} {c : Int} {D : DataW Unit} (hh : ∀ a, hold D a = h a) : CollO h c (Maps.has D) [] :=
  ⟨List.nodup_nil, (fun a => by
    constructor
    · intro h; cases h
    · rintro ⟨h1, h2⟩
      rw [← hh a] at h1
      rw [hold_isSome h1] at h2; cases h2), (fun a h => by cases h)⟩
theorem same_u64 (a x : Int) : (Lit.int .u64 a).sameKey (.int .u64 x) = decide (a = x) := by
  simp [Lit.sameKey]
theorem CollO.stepY {h : Int → Option Int} {c : Int} {left : Lit → Bool} {ss : List Int} (hC : CollO h c left ss) {x : Int} (hlk : left (.int .u64 x) = true) (hx : h x = some c) (hwf : (Lit.int .u64 x).wf = true) :
    CollO h c (fun z => left z && !z.sameKey (.int .u64 x)) (ss ++ [x]) := by
  obtain ⟨h1, h2, h3⟩ := hC
  have hn : x ∉ ss := fun hm => by have := ((h2 x).1 hm).2; rw [hlk] at this; cases this
  refine ⟨List.nodup_append.2 ⟨h1, by simp, by intro a ha b hb e; simp at hb; subst hb; subst e; exact hn ha⟩, fun a => ?_, fun a ha => by
    rcases List.mem_append.1 ha with h | h
    · exact h3 a h
    · simp at h; subst h; exact hwf⟩
  rw [List.mem_append, h2 a]
  simp only [same_u64]
  by_cases e : a = x
  · subst e; simp [hx]
  · simp [e]
theorem CollO.stepN {h : Int → Option Int} {c : Int} {left : Lit → Bool} {ss : List Int} (hC : CollO h c left ss) {x : Int} (hx : h x ≠ some c) :
    CollO h c (fun z => left z && !z.sameKey (.int .u64 x)) ss := by
  obtain ⟨h1, h2, h3⟩ := hC
  refine ⟨h1, fun a => ?_, h3⟩
  rw [h2 a]
  simp only [same_u64]
  by_cases e : a = x
  · subst e; simp [hx]
  · simp [e]
theorem CollO.done {h : Int → Option Int} {c : Int} {left : Lit → Bool} {ss : List Int} (hC : CollO h c left ss) (hl : ∀ kl, left kl = false) : HeldOf h c ss :=
  ⟨hC.1, (fun a => by rw [hC.2.1 a, hl]; simp), hC.2.2⟩
theorem hold_at {D : DataW Unit} {a c : Int} (hat : ∀ zd, D.atKey (.int .u64 a) zd = .lit (.int .i64 c)) : hold D a = some c :=
  hold_some (hat _) (Maps.has_true_of_atKey hat)
theorem kpO_t {bc : Nat} {A B C : World} (h : KpO bc A B) (k : KpO bc B C) : KpO bc A C :=
  ⟨h.1.trans k.1, fun hb => (k.2 (by have := h.1.size; omega)).trans (h.2 hb)⟩
theorem kpO_b {w : World} {bc : Nat} (hn : bc < w.heap.size) (W : World) (l : Nat) (o o' : Obj) (hl : w.heap.size ≤ l) (h : W.heap[l]? = some o) (hc : o.isCells = false) (hw : o.isWalk = false) : KpO bc W (W.putObj l o') :=
  ⟨walksK_b (w := w) W l o o' hl h hc hw, fun hb => (belowK_b (w := w) (n₀ := bc + 1) (by omega) W l o o' hl h hc hw).block bc (by omega)⟩
theorem block_lt {w W : World} {b : Nat} (h : w.heap[b]? = W.heap[b]?) (hb : b < W.heap.size) : b < w.heap.size := by
  rcases Nat.lt_or_ge b w.heap.size with h1 | h1
  · exact h1
  · rw [Array.getElem?_eq_none h1, Array.getElem?_eq_getElem hb] at h; cases h

set_option maxRecDepth 100000 in
set_option maxHeartbeats 1000000 in
theorem of1_stops (m : Nat) (hm1 : 1 ≤ m) (bt bc b mb k : Nat) (c : Int) (h : Int → Option Int) (D0 : DataW Unit) (hh : ∀ a, hold D0 a = h a) (w : World)
    (hbt : bt < w.heap.size) (hbc : bc < w.heap.size) (hb : b < w.heap.size) (hmb : mb < w.heap.size)
    (ht : w.cell? ⟨bt, 0, none⟩ = some (.pointer (some ⟨b, 0, none⟩))) (hc : w.cell? ⟨bc, 0, none⟩ = some (.int .i64 c)) (h1 : w.cell? ⟨b, 1, none⟩ = some (.map (some mb)))
    (hown : w.ownsMap Try.prog 29 (plainElem Try.prog 3) mb k D0) :
    SeqStopsK Fence.wide m Try.prog 41 #[.pointer (some ⟨bt, 0, none⟩), .pointer (some ⟨bc, 0, none⟩)] u64E (KpO bc) (fun xs => HeldOf h c xs ∧ xs.length ≤ Maps.size D0) (fun _ => True) (Maps.size D0) w := by
  intro l J Jx W hW hJ _ hY h0
  have ht' : W.cell? ⟨bt, 0, none⟩ = some (.pointer (some ⟨b, 0, none⟩)) := (hW.cell (p := ⟨bt, 0, none⟩) hbt).trans ht
  have h1' : W.cell? ⟨b, 1, none⟩ = some (.map (some mb)) := (hW.cell (p := ⟨b, 1, none⟩) hb).trans h1
  have hown' : W.ownsMap Try.prog 29 (plainElem Try.prog 3) mb k D0 := by
    obtain ⟨es, clock, hb', Ft, hs, hD⟩ := hown
    exact ⟨es, clock, (hW.block mb hmb).trans hb', Ft, hs, hD⟩
  have hWs : w.heap.size ≤ W.heap.size := hW.size
  have HC := Lib.hid ((hW.cell (p := ⟨bc, 0, none⟩) hbc).trans hc)
  have HH := Lib.hid hh
  have hbcW : bc < W.heap.size := by omega
  clear hown ht h1 hc hh hW
  refine callsIn_of_wp Try.func41 rfl trivial ?_ rfl
  simp only [Try.ntmps41, List.size_toArray, List.length_cons, List.length_nil, Nat.reduceAdd, Nat.reduceSub, Array.replicate_succ, Array.replicate_zero, List.push_toArray, List.append_toArray, List.nil_append, List.cons_append]
  gi_wp2_with (gi_at_range; refine wpListIn_range_own _ rfl _ 56 rfl 29 3 law29 Try.underlying56 _ mb k _ rfl hown' ?_; intro w0 hrg0 hg0 hs0)
  go_frame
  gi_loopw [4, 5] (fun _ _ wr => ∃ (left : Lit → Bool) (cnt : Nat) (ss : List Int), wr.ranges Try.prog 29 (plainElem Try.prog 3) mb W.heap.size k D0 left cnt ∧ ss.length + cnt ≤ Maps.size D0 ∧ Hid (CollO h c left ss) ∧ J ss wr ∧ Hid (wr.heap[bc]? = W.heap[bc]?))
    (fun _ _ wr => wr.rangeLeft mb W.heap.size)
  case atStart =>
    exact ⟨_, _, [], hrg0, by simp, Lib.hid (CollO.start HH.out), hJ [] W w0 none h0 hg0 (fun r e => by cases e), Lib.hid (hg0.block bc hbcW (by intro e; cases e))⟩
  case round =>
    obtain ⟨left, cnt, ss, hrg, hcs, hC, hJs, hB⟩ := hrel
    gi_wp2_with (gi_at_next; refine wpListIn_next_ranges _ rfl _ rfl 29 law29 (plainElem Try.prog 3) (Value.int .u64) (Value.int .i64) (fun key kl hk => by obtain ⟨x, hx, _⟩ := Maps.keyOf_int_inv Try.underlying29 hk; exact ⟨x, hx⟩) (fun v y hv => by obtain ⟨c, rfl, _⟩ := plainElem_int_inv Try.underlying3 hv; exact ⟨c, rfl⟩) mb W.heap.size k _ _ _ rfl hrg ?_ ?_)
    · intro hc0 hl0
      have HF := Lib.hid (hC.out.done hl0)
      gi_wp2
      go_end0
      exact ⟨⟨_, rfl⟩, .inl ⟨ss, ⟨HF.out, by omega⟩, hJs⟩⟩
    · intro x v kl yd yp w2 cnt2 hkey hlk hv hat hrg2 hlt hg2 hs2 hen
      obtain ⟨x', ex, rfl, hwf⟩ := Maps.keyOf_int_inv Try.underlying29 hkey
      obtain rfl : x = x' := by simpa using ex
      obtain ⟨v', ev, ey, _⟩ := plainElem_int_inv Try.underlying3 hv
      obtain rfl : v = v' := by simpa using ev
      obtain rfl : yd = .lit (.int .i64 v) := (Prod.mk.inj ey).1
      have hx := HH.out x
      rw [hold_at hat] at hx
      have hJ2 : J ss w2 := hJ ss wr w2 (some W.heap.size) hJs hg2 (fun r e => by cases e; exact ⟨Nat.le_refl _, hrg.iter_walk⟩)
      have hbl := block_lt hB.out hbcW
      have hB2 : w2.heap[bc]? = W.heap[bc]? := (hg2.block bc hbl (by intro e; cases e; omega)).trans hB.out
      have c2 : w2.cell? ⟨bc, 0, none⟩ = some (.int .i64 c) := (World.cell?_of_block (w := W) (a := ⟨bc, 0, none⟩) hB2).trans HC.out
      have HB2 := Lib.hid hB2
      clear hs2 hB hB2
      by_cases hvc : v = c
      · subst hvc
        have HC2 := Lib.hid (hC.out.stepY hlk hx.symm hwf)
        obtain ⟨fn, tmps, assign, body, hy, hR⟩ := hY ss x w2 hJ2 (by omega)
        dsimp only [u64E] at hy
        clear hx hat hkey hv
        gi_wp2
        refine hR.mono ?_
        rintro e W3 (⟨rfl, hJ3, hk3⟩ | ⟨rfl, hJx3⟩)
        · have hrg3 := hrg2.of_walks hk3.1
          have HB3 := Lib.hid ((hk3.2 (block_lt HB2.out hbcW)).trans HB2.out)
          clear hk3
          gi_wp2
          go_roundw
          case rel => exact ⟨_, cnt2, ss ++ [x], hrg3, by simp; omega, HC2, hJ3, HB3⟩
          case measure => rw [hrg3.left_eq, hrg.left_eq]; exact hlt
        · gi_wp2
          refine bodyPost_ret (results_none rfl _ _ _) rfl ?_
          exact ⟨⟨_, rfl⟩, .inr ⟨ss ++ [x], trivial, hJx3⟩⟩
      · have hvb : (v == c) = false := by simpa using hvc
        have HC2 := Lib.hid (hC.out.stepN (x := x) (by rw [← hx]; intro e; exact hvc (Option.some.inj e)))
        clear hx hat hkey hv hvc
        gi_wp2
        refine ⟨fun _ h => (by cases h), ?_⟩
        gi_wp2
        go_roundw
        case rel => exact ⟨_, cnt2, ss, hrg2, by omega, HC2, hJ2, HB2⟩
        case measure => rw [hrg2.left_eq, hrg.left_eq]; exact hlt
end Go.Proofs.Ytajccnmeijgagaa
