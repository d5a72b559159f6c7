/-
  A change under way: its block, its stores; fast.stands, key, ptr, word, (*change).key, ptr, ahead, end: contracts.
-/
import Derived.Test.YtgmbnoimlffgcaaNf
import Derived.OwnWalk
namespace Go.Proofs.Ytgmbnoimlffgcaa
open Go.RowKit

/-! ### where a node may stand; where its words do -/
def Stands (b : Int) : Prop := 0 < b ∧ b ≤ 1099511627776 ∧ b % 64 = 0
theorem stands_yes (b : Int) (h : Stands b) (w : World) : Calls Try.prog 64 #[.int .u64 b] w fun e w' => e = .returned (.bool true) ∧ w = w' := by
  obtain ⟨h1, h2, h3⟩ := h
  have q : (b % 64 == 0) = true := by simpa using h3
  clear h3
  go_enter Try.func64, Try.ntmps64
  go_wp2_with (fail)
  go_ret
  exact ⟨rfl, rfl⟩
theorem stands_no (b : Int) (h : ¬ Stands b) (w : World) : Calls Try.prog 64 #[.int .u64 b] w fun e w' => e = .returned (.bool false) ∧ w = w' := by
  by_cases h1 : 0 < b
  · by_cases h2 : b ≤ 1099511627776
    · have q : (b % 64 == 0) = false := by rw [beq_eq_false_iff_ne]; intro e; exact h ⟨h1, h2, e⟩
      clear h
      go_enter Try.func64, Try.ntmps64
      go_wp2_with (fail)
      go_ret
      exact ⟨rfl, rfl⟩
    · clear h
      go_enter Try.func64, Try.ntmps64
      go_wp2_with (fail)
      go_ret
      exact ⟨rfl, rfl⟩
  · clear h
    go_enter Try.func64, Try.ntmps64
    go_wp2_with (fail)
    go_ret
    exact ⟨rfl, rfl⟩
theorem key_a (b : Int) (i : Int) (_h0 : 0 ≤ b) (h : b ≤ 1099511627776) (hi : 0 ≤ i) (hi8 : i ≤ 8) (w : World) : Calls Try.prog 98 #[.int .u64 b, .int .i64 i] w fun e w' => e = .returned (.int .u64 (b + 64 + 16 * i)) ∧ w = w' := by
  go_enter Try.func98, Try.ntmps98
  go_wp2_with (fail)
  go_ret
  exact ⟨rfl, rfl⟩
theorem ptr_a (b : Int) (i : Int) (h0 : 0 ≤ b) (h : b ≤ 1099511627776) (hi : 0 ≤ i) (hi8 : i ≤ 8) (w : World) : Calls Try.prog 97 #[.int .u64 b, .int .i64 i] w fun e w' => e = .returned (.int .u64 (b + 64 + 16 * i + 8)) ∧ w = w' := by
  go_enter Try.func97, Try.ntmps97
  go_wp2_with (go_at_call 98; refine (key_a b i h0 h hi hi8 _).mono ?_; rintro e w' ⟨rfl, rfl⟩)
  go_ret
  exact ⟨rfl, rfl⟩

/-! ### the block of a change -/
def chCells (base : Int) (n : Nd) (v : Value) : Array Value :=
  #[.int .u64 base, .int .i64 n.lv, .int .u64 n.lo, .int .u64 n.nx, .int .u64 n.ct, .int .u64 n.fi, .int .u64 (n.k 0), .int .u64 (n.k 1), .int .u64 (n.k 2), .int .u64 (n.k 3), .int .u64 (n.k 4), .int .u64 (n.k 5), .int .u64 (n.k 6), .int .u64 (n.k 7),
    .int .u64 (n.p 0), .int .u64 (n.p 1), .int .u64 (n.p 2), .int .u64 (n.p 3), .int .u64 (n.p 4), .int .u64 (n.p 5), .int .u64 (n.p 6), .int .u64 (n.p 7), v]
def Nd.setK (n : Nd) (i : Nat) (x : Int) : Nd := { n with k := fun j => if j = i then x else n.k j }
def Nd.setP (n : Nd) (i : Nat) (x : Int) : Nd := { n with p := fun j => if j = i then x else n.p j }
theorem chCells_k (base : Int) (n : Nd) (v : Value) (i : Nat) (h : i < 8) : (chCells base n v)[6 + i]? = some (.int .u64 (n.k i)) := by
  have : i = 0 ∨ i = 1 ∨ i = 2 ∨ i = 3 ∨ i = 4 ∨ i = 5 ∨ i = 6 ∨ i = 7 := by omega
  rcases this with rfl | rfl | rfl | rfl | rfl | rfl | rfl | rfl <;> rfl
theorem chCells_p (base : Int) (n : Nd) (v : Value) (i : Nat) (h : i < 8) : (chCells base n v)[14 + i]? = some (.int .u64 (n.p i)) := by
  have : i = 0 ∨ i = 1 ∨ i = 2 ∨ i = 3 ∨ i = 4 ∨ i = 5 ∨ i = 6 ∨ i = 7 := by omega
  rcases this with rfl | rfl | rfl | rfl | rfl | rfl | rfl | rfl <;> rfl
theorem chCells_setK (base : Int) (n : Nd) (v : Value) (i : Nat) (h : i < 8) (x : Int) : (chCells base n v).setIfInBounds (6 + i) (.int .u64 x) = chCells base (n.setK i x) v := by
  have : i = 0 ∨ i = 1 ∨ i = 2 ∨ i = 3 ∨ i = 4 ∨ i = 5 ∨ i = 6 ∨ i = 7 := by omega
  rcases this with rfl | rfl | rfl | rfl | rfl | rfl | rfl | rfl <;> rfl
theorem chCells_setP (base : Int) (n : Nd) (v : Value) (i : Nat) (h : i < 8) (x : Int) : (chCells base n v).setIfInBounds (14 + i) (.int .u64 x) = chCells base (n.setP i x) v := by
  have : i = 0 ∨ i = 1 ∨ i = 2 ∨ i = 3 ∨ i = 4 ∨ i = 5 ∨ i = 6 ∨ i = 7 := by omega
  rcases this with rfl | rfl | rfl | rfl | rfl | rfl | rfl | rfl <;> rfl
theorem chCells_setL (base : Int) (n : Nd) (v v' : Value) : (chCells base n v).setIfInBounds 22 v' = chCells base n v' := rfl

/-- a change made since B: its node, its stores -/
def CSet (B b : Nat) (base : Int) (n : Nd) (l : List (Int × Int)) (w : World) : Prop :=
  ∃ v, Blk w b (chCells base n v) 141 ∧ w.ownsRow B 32 2 v l.length (ecells l) ∧ v.ownBlock ≠ some b ∧ B ≤ b ∧ B ≤ w.heap.size
theorem CSet.keep {B b : Nat} {base : Int} {n : Nd} {l : List (Int × Int)} {w w' : World} (h : CSet B b base n l w) (hB : Below w.heap.size w w') : CSet B b base n l w' := by
  obtain ⟨v, h1, h2, h3, h4, h5⟩ := h
  exact ⟨v, h1.below hB h1.lt, own_below h2 hB, h3, h4, Nat.le_trans h5 hB.size⟩
theorem CSet.size {B b : Nat} {base : Int} {n : Nd} {l : List (Int × Int)} {w : World} (h : CSet B b base n l w) : B ≤ w.heap.size := by
  obtain ⟨v, h1, h2, h3, h4, h5⟩ := h
  exact h5
theorem CSet.lt {B b : Nat} {base : Int} {n : Nd} {l : List (Int × Int)} {w : World} (h : CSet B b base n l w) : b < w.heap.size := by
  obtain ⟨v, h1, h2, h3, h4, h5⟩ := h
  exact h1.lt
theorem CSet.above {B b : Nat} {base : Int} {n : Nd} {l : List (Int × Int)} {w : World} (h : CSet B b base n l w) : B ≤ b := by
  obtain ⟨v, h1, h2, h3, h4, h5⟩ := h
  exact h4
/-- a cell of it -/
theorem CSet.at {B b : Nat} {base : Int} {n : Nd} {l : List (Int × Int)} {w : World} (h : CSet B b base n l w) :
    w.cell? ⟨b, 0, none⟩ = some (.int .u64 base) ∧ w.cell? ⟨b, 4, none⟩ = some (.int .u64 n.ct) ∧ w.cell? ⟨b, 5, none⟩ = some (.int .u64 n.fi) ∧ (∀ i, i < 8 → w.cell? ⟨b, 6 + i, none⟩ = some (.int .u64 (n.k i)) ∧ w.cell? ⟨b, 14 + i, none⟩ = some (.int .u64 (n.p i))) ∧ ∀ i, w.frozen? ⟨b, i, none⟩ = false := by
  obtain ⟨v, h1, h2, h3, h4, h5⟩ := h
  exact ⟨by rw [h1.cell]; rfl, by rw [h1.cell]; rfl, by rw [h1.cell]; rfl, fun i hi => ⟨by rw [h1.cell, chCells_k _ _ _ _ hi], by rw [h1.cell, chCells_p _ _ _ _ hi]⟩, fun i => h1.frozen i⟩
theorem CSet.setK {B b : Nat} {base : Int} {n : Nd} {l : List (Int × Int)} {w : World} (h : CSet B b base n l w) (i : Nat) (hi : i < 8) (x : Int) : CSet B b base (n.setK i x) l (w.setCell ⟨b, 6 + i, none⟩ (.int .u64 x)) := by
  obtain ⟨v, h1, h2, h3, h4, h5⟩ := h
  refine ⟨v, ?_, ownsRow_setCell_other h2 h3 _, h3, h4, by simpa [World.setCell] using h5⟩
  have := h1.set (6 + i) (.int .u64 x)
  rwa [chCells_setK _ _ _ _ hi] at this
theorem CSet.setP {B b : Nat} {base : Int} {n : Nd} {l : List (Int × Int)} {w : World} (h : CSet B b base n l w) (i : Nat) (hi : i < 8) (x : Int) : CSet B b base (n.setP i x) l (w.setCell ⟨b, 14 + i, none⟩ (.int .u64 x)) := by
  obtain ⟨v, h1, h2, h3, h4, h5⟩ := h
  refine ⟨v, ?_, ownsRow_setCell_other h2 h3 _, h3, h4, by simpa [World.setCell] using h5⟩
  have := h1.set (14 + i) (.int .u64 x)
  rwa [chCells_setP _ _ _ _ hi] at this
theorem Try.info36 : (Try.prog.info? 32).map (fun i => (i.zero, i.size, i.bytes)) = some (some (.agg #[.int .u64 0, .int .u64 0]), 2, 16) := by kernel_rfl

set_option maxRecDepth 100000 in
set_option maxHeartbeats 1600000 in
theorem cword {B b : Nat} {base : Int} {n : Nd} {l : List (Int × Int)} {w : World} (h : CSet B b base n l w) (hl : l.length ≤ 1000) (at_ x : Int) :
    Calls Try.prog 83 #[.pointer (some ⟨b, 0, none⟩), .int .u64 at_, .int .u64 x] w fun e w' => e = .returned (.tuple #[]) ∧ CSet B b base n (l ++ [(at_, x)]) w' ∧ Below B w w' := by
  obtain ⟨i0, hi, hz0, hz1, hz2⟩ := info_parts Try.info36
  obtain ⟨v, h1, hown, h3, h4, h5⟩ := h
  have hc : w.cell? ⟨b, 22, none⟩ = some v := by rw [h1.cell]; rfl
  obtain ⟨sa, sl, sc, rfl⟩ := own_slice hown
  have hsl : sl = l.length := own_len hown
  subst hsl
  have H1 := Lib.hid h1
  have H3 := Lib.hid h3
  have HO := Lib.hid hown
  have hbl := h1.lt
  clear h1 h3
  go_enter Try.func83, Try.ntmps83
  go_wp2_with (at_builtin; refine wpList_append_own _ rfl _ _ 22 rfl B 32 i0 (.agg #[.int .u64 0, .int .u64 0]) 2 16 Try.underlying22 hi hz0 hz1 hz2 rfl (by decide) _ _ _ rfl (hown.alloc _) ⟨w.heap.size, 0, none⟩ 1 1 [.int .u64 at_, .int .u64 x] rfl rfl (cells_two_new w _ _ _) (ints_oneCell .u64 [at_, x]) (by unfold maxLen; omega) (by omega) (by simp; omega) ?_)
  intro v' w1 hown' hgrow hnil
  have hk1 : Blk w1 b (chCells base n (.slice sa l.length sc)) 141 := (H1.out.alloc _).grown hgrow (fun e => H3.out (by rw [e]))
  have hc1 : w1.cell? ⟨b, 22, none⟩ = some (.slice sa l.length sc) := by rw [hk1.cell]; rfl
  have hf1 := hk1.frozen 22
  have HK1 := Lib.hid hk1
  have HO1 := Lib.hid hown'
  have hne : v'.ownBlock ≠ some b := fun e => by
    have hb1 := own_base hown' b e
    have : w1.heap[b]? = some (.cells (chCells base n (.slice sa l.length sc)) 141 (0, 0)) := hk1
    obtain ⟨_, ⟨rfl, _⟩ | ⟨g, cap, cur, rfl, _, hg, _⟩⟩ := hown'
    · simp [Value.ownBlock] at e
    · have eg : g = b := by simpa [Value.ownBlock] using e
      subst eg
      rw [hg] at this
      cases this
  have HNE := Lib.hid hne
  have HB := Lib.hid (((Below.refl B w).alloc h5 (.cells #[.int .u64 at_, .int .u64 x] 32)).grown hgrow (by simp; omega) (fun r e => own_base HO.out r e))
  have hs1 := hgrow.size
  simp at hs1
  obtain ⟨va, vl, vc, rfl⟩ := own_slice hown'
  clear hk1 hown hown' hgrow hnil hne
  go_wp2_with (fail)
  go_end0
  refine ⟨rfl, ⟨_, ?_, ?_, HNE.out, h4, by simp [World.setCell]; omega⟩, HB.out.setCell h4 _⟩
  · have := HK1.out.set 22 (.slice va vl vc)
    rwa [chCells_setL] at this
  · have := ownsRow_setCell_other HO1.out (a := ⟨b, 22, none⟩) HNE.out (.slice va vl vc)
    rw [ecells_snoc, List.length_append]
    exact this

set_option maxRecDepth 100000 in
set_option maxHeartbeats 1600000 in
theorem ckey {B b : Nat} {base : Int} {n : Nd} {l : List (Int × Int)} {w : World} (h : CSet B b base n l w) (hl : l.length ≤ 1000) (h0 : 0 ≤ base) (h1 : base ≤ 1099511627776) (i : Nat) (hi : i < 8) (x : Int) :
    Calls Try.prog 77 #[.pointer (some ⟨b, 0, none⟩), .int .i64 i, .int .u64 x] w fun e w' => e = .returned (.tuple #[]) ∧ CSet B b base (n.setK i x) (l ++ [(base + 64 + 16 * (i : Int), x)]) w' ∧ Below B w w' := by
  obtain ⟨c0, _, _, hat, hfz⟩ := h.at
  have ck := (hat i hi).1
  have fk := hfz (6 + i)
  have h2 := h.setK i hi x
  have HW := Lib.hid (cword h2 hl (base + 64 + 16 * (i : Int)) x)
  have HB := Lib.hid ((Below.refl B w).setCell (p := ⟨b, 6 + i, none⟩) h.above (.int .u64 x))
  have c0' : (w.setCell ⟨b, 6 + i, none⟩ (.int .u64 x)).cell? ⟨b, 0, none⟩ = some (.int .u64 base) := h2.at.1
  have b1 : (i : Int) < 8 := by omega
  have b2 : (0 : Int) ≤ (i : Int) := by omega
  have b3 : ((i : Int)).toNat = i := by omega
  clear h h2 hat hfz c0
  go_enter Try.func77, Try.ntmps77
  go_wp2_with (first | (go_at_call 98; refine (key_a base i h0 h1 (by omega) (by omega) _).mono ?_; rintro e w' ⟨rfl, rfl⟩) | (go_at_call 83; refine HW.out.mono ?_; rintro e w2 ⟨rfl, hk, hB⟩; have HK := Lib.hid hk; have HB2 := Lib.hid hB; clear hk hB))
  go_end0
  exact ⟨rfl, HK.out, HB.out.trans HB2.out⟩
set_option maxRecDepth 100000 in
set_option maxHeartbeats 1600000 in
theorem cptr {B b : Nat} {base : Int} {n : Nd} {l : List (Int × Int)} {w : World} (h : CSet B b base n l w) (hl : l.length ≤ 1000) (h0 : 0 ≤ base) (h1 : base ≤ 1099511627776) (i : Nat) (hi : i < 8) (x : Int) :
    Calls Try.prog 76 #[.pointer (some ⟨b, 0, none⟩), .int .i64 i, .int .u64 x] w fun e w' => e = .returned (.tuple #[]) ∧ CSet B b base (n.setP i x) (l ++ [(base + 64 + 16 * (i : Int) + 8, x)]) w' ∧ Below B w w' := by
  obtain ⟨c0, _, _, hat, hfz⟩ := h.at
  have ck := (hat i hi).2
  have fk := hfz (14 + i)
  have h2 := h.setP i hi x
  have HW := Lib.hid (cword h2 hl (base + 64 + 16 * (i : Int) + 8) x)
  have HB := Lib.hid ((Below.refl B w).setCell (p := ⟨b, 14 + i, none⟩) h.above (.int .u64 x))
  have c0' : (w.setCell ⟨b, 14 + i, none⟩ (.int .u64 x)).cell? ⟨b, 0, none⟩ = some (.int .u64 base) := h2.at.1
  have b1 : (i : Int) < 8 := by omega
  have b2 : (0 : Int) ≤ (i : Int) := by omega
  have b3 : ((i : Int)).toNat = i := by omega
  clear h h2 hat hfz c0
  go_enter Try.func76, Try.ntmps76
  go_wp2_with (first | (go_at_call 97; refine (ptr_a base i h0 h1 (by omega) (by omega) _).mono ?_; rintro e w' ⟨rfl, rfl⟩) | (go_at_call 83; refine HW.out.mono ?_; rintro e w2 ⟨rfl, hk, hB⟩; have HK := Lib.hid hk; have HB2 := Lib.hid hB; clear hk hB))
  go_end0
  exact ⟨rfl, HK.out, HB.out.trans HB2.out⟩
theorem cahead_0 {B b : Nat} {base : Int} {n : Nd} {l : List (Int × Int)} {w : World} (h : CSet B b base n l w) :
    Calls Try.prog 78 #[.pointer (some ⟨b, 0, none⟩), .int .i64 0] w fun e w' => e = .returned (.int .u64 n.fi) ∧ w = w' := by
  obtain ⟨_, _, c5, _, _⟩ := h.at
  clear h
  go_enter Try.func78, Try.ntmps78
  go_wp2_with (fail)
  go_ret
  exact ⟨rfl, rfl⟩
theorem cahead_s {B b : Nat} {base : Int} {n : Nd} {l : List (Int × Int)} {w : World} (h : CSet B b base n l w) (i : Nat) (hi : i < 8) :
    Calls Try.prog 78 #[.pointer (some ⟨b, 0, none⟩), .int .i64 ((i + 1 : Nat) : Int)] w fun e w' => e = .returned (.int .u64 (n.p i)) ∧ w = w' := by
  obtain ⟨_, _, _, hat, _⟩ := h.at
  have cp := (hat i hi).2
  clear h hat
  have q0 : (((i + 1 : Nat) : Int) == 0) = false := by rw [beq_eq_false_iff_ne]; omega
  have q1 : ((i + 1 : Nat) : Int) - 1 = (i : Int) := by omega
  have b1 : (i : Int) < 8 := by omega
  have b2 : (0 : Int) ≤ (i : Int) := by omega
  have b3 : ((i : Int)).toNat = i := by omega
  obtain ⟨z, hz⟩ : ∃ z : Int, ((i + 1 : Nat) : Int) = z := ⟨_, rfl⟩
  rw [hz] at q0 q1 ⊢
  have hz' : z = (i : Int) + 1 := by omega
  clear hz
  subst hz'
  clear q1
  go_enter Try.func78, Try.ntmps78
  go_wp2_with (fail)
  go_ret
  exact ⟨rfl, rfl⟩
/-- the pointer ahead of a place -/
theorem cahead {B b : Nat} {base : Int} {n : Nd} {l : List (Int × Int)} {w : World} (h : CSet B b base n l w) (i : Nat) (hi : i ≤ 8) :
    Calls Try.prog 78 #[.pointer (some ⟨b, 0, none⟩), .int .i64 i] w fun e w' => e = .returned (.int .u64 (n.ahead i)) ∧ w = w' := by
  cases i with
  | zero => exact cahead_0 h
  | succ i => exact cahead_s h i (by omega)

/-- what has been stored, as it comes back -/
def Done (B : Nat) (l : List (Int × Int)) (w : World) (e : Ending) (w' : World) : Prop := ∃ a m c, e = .returned (.tuple #[.slice a m c, .int .i64 0]) ∧ m = l.length ∧ w'.ownsRow B 32 2 (.slice a m c) l.length (ecells l) ∧ Below B w w'
set_option maxRecDepth 100000 in
set_option maxHeartbeats 400000 in
theorem cend {B b : Nat} {base : Int} {n : Nd} {l : List (Int × Int)} {w : World} (h : CSet B b base n l w) (hl : l.length ≤ 1000) (h0 : 0 ≤ base) (h1 : base ≤ 1099511627776) (c2 : Int) (hc2 : IntKind.u64.wrap (n.ct + 2) = c2) :
    Calls Try.prog 79 #[.pointer (some ⟨b, 0, none⟩)] w fun e w' => Done B (l ++ [(base + 24, c2)]) w e w' := by
  have HW := Lib.hid (cword (h.keep ((Below.refl _ _).drew)) hl (base + 24) c2)
  have HBd := Lib.hid ((Below.refl B w).drew)
  obtain ⟨c0, c4, _, _, _⟩ := h.at
  have hb24 : IntKind.u64.wrap (base + 24) = base + 24 := by rw [IntKind.wrap_u64]; omega
  clear h
  go_enter Try.func79, Try.ntmps79
  go_wp2_with (fail)
  go_region_with (go_at_call 83; (with_reducible refine HW.out.mono ?_); rintro e w2 ⟨rfl, ⟨v, hk, ho, hne, h4, h5⟩, hB⟩; have c22 : w2.cell? ⟨b, 22, none⟩ = some v := (by rw [hk.cell]; rfl); obtain ⟨va, vl, vc, rfl⟩ := own_slice ho; have HVL := Lib.hid (own_len ho); have HO := Lib.hid ho; have HB2 := Lib.hid (HBd.out.trans hB); clear hk ho hne h4 h5 hB)
  all_goals
    go_wp2_with (fail)
    go_ret2
    exact ⟨_, _, _, rfl, HVL.out, HO.out, HB2.out⟩
end Go.Proofs.Ytgmbnoimlffgcaa
