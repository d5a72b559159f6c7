/-
  leveelaw09.want, and the law FastStores.
-/
import Derived.Test.YtbpaefhihdhdeaaRp
import Derived.Test.YtbpaefhihdhdeaaAr
import Derived.Test.YtbpaefhihdhdeaaRd
import Derived.Test.YtbpaefhihdhdeaaKo
import Derived.Deep.DeepCutAuto
import Derived.Test.YtbpaefhihdhdeaaMd
import Derived.Test.YtbpaefhihdhdeaaFs
namespace Go.Proofs.Ytbpaefhihdhdeaa
open Go.RowKit
set_option linter.unusedVariables false

theorem pt_b (b : Int) (i : Nat) (h0 : 0 ≤ b) (h : b ≤ 1099511627776) (hi8 : i ≤ 8) (w : World) : Calls Try.prog 29 #[.int .u64 b, .int .i64 i] w fun e w' => e = .returned (.int .u64 (b + 64 + 16 * (i : Int) + 8)) ∧ w' = w := by
  have := pt_a b i h0 h hi8 w
  rwa [show b + 72 + 16 * (i : Int) = b + 64 + 16 * (i : Int) + 8 by omega] at this

/-! ### may -/
theorem mayE_no {base : Int} {n : Nd} (h : ¬ Stands base) : mayE base n = 2 := by unfold mayE; rw [if_neg (fun x => h x.1)]
set_option maxRecDepth 100000 in
set_option maxHeartbeats 1600000 in
theorem rmay_v (base : Int) (n : Nd) (h0 : 0 ≤ base) (w : World) :
    Calls Try.prog 60 #[.int .u64 base, .agg (ndCells n)] w fun e w' => e = .returned (.int .i64 (mayE base n)) ∧ Below w.heap.size w w' := by
  have HI := Lib.hid (info27 n)
  have hk0 : Blk (w.alloc (.cells (ndCells n) 27)) w.heap.size (ndCells n) 27 := Blk.new w _ _
  have HK0 := Lib.hid hk0
  have HL0 := Lib.hid (ndLoad hk0)
  have HB0 := Lib.hid ((Below.refl w.heap.size w).alloc (Nat.le_refl _) (.cells (ndCells n) 27))
  have FIN := Lib.hid (fun (r : Int) (hr : mayE base n = r) => show Ending.returned (.int .i64 r) = .returned (.int .i64 (mayE base n)) by rw [hr])
  clear hk0
  cases q1 : (base == 0)
  case true =>
    have HF := Lib.hid (FIN.out 2 (mayE_no (fun ⟨a, b, c⟩ => by have : base = 0 := (by simpa using q1); omega)))
    go_enter Try.func60, Try.ntmps60
    go_wp2_with (fail)
    go_ret
    exact ⟨HF.out, HB0.out⟩
  case false =>
  cases q2 : decide (1099511627776 < base)
  case true =>
    have HF := Lib.hid (FIN.out 2 (mayE_no (fun ⟨a, b, c⟩ => by have := of_decide_eq_true q2; omega)))
    go_enter Try.func60, Try.ntmps60
    go_wp2_with (fail)
    go_ret
    exact ⟨HF.out, HB0.out⟩
  case false =>
  cases q3 : (base % 64 != 0)
  case true =>
    have HF := Lib.hid (FIN.out 2 (mayE_no (fun ⟨a, b, c⟩ => by rw [c] at q3; simp at q3)))
    go_enter Try.func60, Try.ntmps60
    go_wp2_with (fail)
    go_ret
    exact ⟨HF.out, HB0.out⟩
  case false =>
  have hs : Stands base := by
    have h1 : base ≠ 0 := by simpa using q1
    have h2 := of_decide_eq_false q2
    exact ⟨by omega, by omega, by simpa using q3⟩
  have HMy := Lib.hid (fun w => rmay_calls n 0 false w)
  cases hm : n.mayB 0 false
  case false =>
    have HF := Lib.hid (FIN.out 2 (by unfold mayE; rw [if_neg (fun x => by rw [hm] at x; cases x.2)]))
    rw [hm] at HMy
    clear hm hs
    go_enter Try.func60, Try.ntmps60
    go_wp2_with (refine wpList_load_gd (o := ⟨some 17, .load 27 (.tmp 3), _, _, _, _⟩) 27 (.tmp 3) ?ho w.heap.size 0 ?hx (ndCells n) _ HL0.out Try.underlying27 rfl HI.out ?hw ?_; (case ho => rfl); (case hx => rfl); (case hw => rfl))
    refine (HMy.out _).mono ?_
    rintro e w1 ⟨rfl, hB⟩
    have HB1 := Lib.hid (HB0.out.trans (hB.mono HB0.out.size))
    clear hB
    go_wp2_with (fail)
    go_ret
    exact ⟨HF.out, HB1.out⟩
  case true =>
    have HF := Lib.hid (FIN.out (if 0 ≤ n.inval then 7 else 0) (by unfold mayE; rw [if_pos ⟨hs, hm⟩, inval_eq]))
    rw [hm] at HMy
    have HIv := Lib.hid (fun w => rinvalid_calls n w)
    obtain ⟨iv, hiv⟩ : ∃ z, n.inval = z := ⟨_, rfl⟩
    rw [hiv] at HF HIv
    clear hm hs hiv
    go_enter Try.func60, Try.ntmps60
    go_wp2_with (refine wpList_load_gd (o := ⟨some 17, .load 27 (.tmp 3), _, _, _, _⟩) 27 (.tmp 3) ?ho w.heap.size 0 ?hx (ndCells n) _ HL0.out Try.underlying27 rfl HI.out ?hw ?_; (case ho => rfl); (case hx => rfl); (case hw => rfl))
    refine (HMy.out _).mono ?_
    rintro e w1 ⟨rfl, hB⟩
    have HB1 := Lib.hid (HB0.out.trans (hB.mono HB0.out.size))
    have HL1 := Lib.hid (ndLoad (HK0.out.below hB HK0.out.lt))
    clear hB
    go_wp2_with (with_reducible refine wpList_load_part (o := ⟨some 21, _, _, _, _, _⟩) rfl 27 _ rfl w.heap.size 0 rfl (ndCells n) _ HL1.out Try.underlying27 rfl HI.out ?_)
    refine (HIv.out _).mono ?_
    rintro e w2 ⟨rfl, hB⟩
    have HB2 := Lib.hid (HB1.out.trans (hB.mono HB1.out.size))
    clear hB
    by_cases hq : 0 ≤ iv
    · have HF2 := Lib.hid (show Ending.returned (.int .i64 7) = .returned (.int .i64 (mayE base n)) by have := HF.out; rwa [if_pos hq] at this)
      go_wp2_with (fail)
      go_ret
      exact ⟨HF2.out, HB2.out⟩
    · have HF2 := Lib.hid (show Ending.returned (.int .i64 0) = .returned (.int .i64 (mayE base n)) by have := HF.out; rwa [if_neg hq] at this)
      go_wp2_with (fail)
      go_ret
      exact ⟨HF2.out, HB2.out⟩

/-! ### had -/
theorem fresh_not {n : Nd} {p : Int} {k : Nat} (hk : k < n.len) (h : (n.p k == p) = true) : freshB n p = false := by
  unfold freshB
  have : ((List.range n.len).any fun j => p == n.p j) = true := List.any_eq_true.2 ⟨k, List.mem_range.2 hk, by have : n.p k = p := (by simpa using h); simp [this]⟩
  rw [this]; simp
theorem fresh_end {n : Nd} {p : Int} (h : ∀ j, j < n.len → (n.p j == p) = false) : freshB n p = ((p != 0) && (p != n.fi)) := by
  unfold freshB
  have : ((List.range n.len).any fun j => p == n.p j) = false := by
    rw [List.any_eq_false]
    intro j hj
    have := h j (List.mem_range.1 hj)
    simp at this ⊢
    exact fun e => this e.symm
  rw [this]; simp
set_option maxRecDepth 100000 in
set_option maxHeartbeats 1600000 in
theorem had_v (n : Nd) (p : Int) (w : World) :
    Calls Try.prog 61 #[.agg (ndCells n), .int .u64 p] w fun e w' => e = .returned (.bool (!freshB n p)) ∧ Below w.heap.size w w' := by
  have HI := Lib.hid (info27 n)
  have hk0 : Blk (w.alloc (.cells (ndCells n) 27)) w.heap.size (ndCells n) 27 := Blk.new w _ _
  have HK0 := Lib.hid hk0
  have HB0 := Lib.hid ((Below.refl w.heap.size w).alloc (Nat.le_refl _) (.cells (ndCells n) 27))
  have HLn := Lib.hid (fun w => rlen_calls n w)
  have h8 := n.len_le
  have FIN := Lib.hid (fun (r : Bool) (hr : freshB n p = !r) => show Ending.returned (.bool r) = .returned (.bool (!freshB n p)) by rw [hr, Bool.not_not])
  clear hk0
  go_enter Try.func61, Try.ntmps61
  go_wp2_with (fail)
  go_loopw [5] (fun iv wr => ∃ k : Nat, k ≤ n.len ∧ iv = .int .i64 k ∧ Hid (∀ j, j < k → (n.p j == p) = false) ∧ Hid (Blk wr w.heap.size (ndCells n) 27) ∧ Hid (Below w.heap.size w wr)) (fun iv _ => 9 - (intOf iv).toNat)
  case atStart => exact ⟨0, Nat.zero_le _, rfl, Lib.hid (fun j hj => by omega), HK0, HB0⟩
  case round =>
    obtain ⟨k, hk, rfl, HN, HK, HB⟩ := hrel
    have HL := Lib.hid (ndLoad HK.out)
    go_wp2_with (with_reducible refine wpList_load_part (o := ⟨some 7, _, _, _, _, _⟩) rfl 27 _ rfl w.heap.size 0 rfl (ndCells n) _ HL.out Try.underlying27 rfl HI.out ?_)
    refine (HLn.out _).mono ?_
    rintro e w1 ⟨rfl, hB⟩
    have HB1 := Lib.hid (HB.out.trans (hB.mono HB.out.size))
    have HK1 := Lib.hid (HK.out.below hB HK.out.lt)
    clear hB
    obtain ⟨m, hm⟩ : ∃ m, n.len = m := ⟨_, rfl⟩
    have HM := Lib.hid hm
    rw [hm] at h8 hk ⊢
    clear hm
    by_cases hlt : k < m
    · have b1 : (k : Int) < (m : Int) := by omega
      have c1 : w1.cell? ⟨w.heap.size, 13 + k, none⟩ = some (.int .u64 (n.p k)) := by rw [HK1.out.cell, ndCells_p n k (by omega)]
      obtain ⟨y, hy⟩ : ∃ y, n.p k = y := ⟨_, rfl⟩
      rw [hy] at c1
      have HY := Lib.hid hy
      have b2 : (k : Int) < 8 := by omega
      clear hy
      cases hq : (y == p)
      · have HN2 := Lib.hid (show ∀ j, j < k + 1 → (n.p j == p) = false from fun j hj => by
          rcases Nat.lt_succ_iff_lt_or_eq.1 hj with h | h
          · exact HN.out j h
          · rw [h, HY.out]; exact hq)
        go_wp2_with (fail)
        go_roundw
        case rel => exact ⟨k + 1, by have := HM.out; omega, by go_num, HN2, HK1, HB1⟩
        case measure => simp [intOf]; omega
      · have HF := Lib.hid (FIN.out true (by rw [fresh_not (by rw [HM.out]; exact hlt) (by rw [HY.out]; exact hq)]; rfl))
        go_wp2_with (fail)
        go_ret
        exact ⟨HF.out, HB1.out⟩
    · have b1 : ¬ (k : Int) < (m : Int) := by omega
      have HFr := Lib.hid (fresh_end (n := n) (p := p) (fun j hj => HN.out j (by rw [HM.out] at hj; omega)))
      have c4 : w1.cell? ⟨w.heap.size, 4, none⟩ = some (.int .u64 n.fi) := by rw [HK1.out.cell, ndCells_4]
      cases q1 : (p == 0)
      · cases q2 : (p == n.fi)
        · have HF := Lib.hid (FIN.out false (by rw [HFr.out, bne, bne, q1, q2]; rfl))
          go_wp2_with (fail)
          go_ret
          exact ⟨HF.out, HB1.out⟩
        · have HF := Lib.hid (FIN.out true (by rw [HFr.out, bne, bne, q1, q2]; rfl))
          go_wp2_with (fail)
          go_ret
          exact ⟨HF.out, HB1.out⟩
      · have HF := Lib.hid (FIN.out true (by rw [HFr.out, bne, bne, q1]; rfl))
        go_wp2_with (fail)
        go_ret
        exact ⟨HF.out, HB1.out⟩

/-! ### ahead -/
set_option maxRecDepth 100000 in
theorem rahead_v (n : Nd) (i : Nat) (hi : i ≤ 8) (w : World) :
    Calls Try.prog 64 #[.agg (ndCells n), .int .i64 i] w fun e w' => e = .returned (.int .u64 (n.ahead i)) ∧ Below w.heap.size w w' := by
  have hk0 : Blk (w.alloc (.cells (ndCells n) 27)) w.heap.size (ndCells n) 27 := Blk.new w _ _
  have HB0 := Lib.hid ((Below.refl w.heap.size w).alloc (Nat.le_refl _) (.cells (ndCells n) 27))
  cases i with
  | zero =>
    have c4 : (w.alloc (.cells (ndCells n) 27)).cell? ⟨w.heap.size, 4, none⟩ = some (.int .u64 n.fi) := by rw [hk0.cell, ndCells_4]
    clear hk0
    go_enter Try.func64, Try.ntmps64
    go_wp2_with (fail)
    go_ret
    exact ⟨rfl, HB0.out⟩
  | succ j =>
    have c4 : (w.alloc (.cells (ndCells n) 27)).cell? ⟨w.heap.size, 13 + j, none⟩ = some (.int .u64 (n.p j)) := by rw [hk0.cell, ndCells_p n j (by omega)]
    have b1 : (((j + 1 : Nat) : Int) == 0) = false := beq_eq_false_iff_ne.2 (by omega)
    have b2 : ((j + 1 : Nat) : Int) - 1 = (j : Int) := by omega
    have b3 : (j : Int) < 8 := by omega
    have HX := Lib.hid (show n.ahead (j + 1) = n.p j from rfl)
    obtain ⟨y, hy⟩ : ∃ y, n.p j = y := ⟨_, rfl⟩
    rw [hy] at c4 HX
    clear hk0 hy
    rw [HX.out]
    go_enter Try.func64, Try.ntmps64
    go_wp2_with (fail)
    go_ret
    exact ⟨rfl, HB0.out⟩
end Go.Proofs.Ytbpaefhihdhdeaa
namespace Go.Proofs.Ytbpaefhihdhdeaa
open Go.RowKit
set_option linter.unusedVariables false

/-- stores, in a row of their own -/
def RowB (B : Nat) (l : List (Int × Int)) (v : Value) (W : World) : Prop := W.ownsRow B 36 2 v l.length (ecells l)
def RowP (l : List (Int × Int)) (w : World) (e : Ending) (w' : World) : Prop := ∃ v, e = .returned v ∧ RowB w.heap.size l v w' ∧ Below w.heap.size w w'
theorem RowB.below {B : Nat} {l : List (Int × Int)} {v : Value} {w w' : World} (h : RowB B l v w) (hb : Below w.heap.size w w') : RowB B l v w' := own_below h hb
theorem RowB.mono {B B' : Nat} {l : List (Int × Int)} {v : Value} {w : World} (h : RowB B l v w) (hb : B' ≤ B) : RowB B' l v w := own_mono h hb
theorem ecells_oneP (l : List (Int × Int)) : ∀ u ∈ ecells l, u.oneCell' = true := by
  intro u hu
  unfold ecells at hu
  obtain ⟨p, _, h⟩ := List.mem_flatMap.1 hu
  simp only [List.mem_cons, List.not_mem_nil, or_false] at h
  rcases h with rfl | rfl <;> rfl
theorem ecells_app (a b : List (Int × Int)) : ecells (a ++ b) = ecells a ++ ecells b := by simp [ecells]
theorem RowB.reads {B : Nat} {l : List (Int × Int)} {a : Option Addr} {m c : Nat} {w : World} (h : RowB B l (.slice a m c) w) : m = l.length ∧ Reads w w.heap.size 2 a l.length (ecells l) := by
  have hm : m = l.length := own_len h
  subst hm
  exact ⟨rfl, Reads.of_own h⟩
/-- a row that is a block of its own -/
theorem RowB.lit {B g : Nat} {l : List (Int × Int)} {w : World} (hb : Blk w g (ecells l).toArray 36) (hl : l.length ≤ 1000000) (hB : B ≤ g) : RowB B l (.slice (some ⟨g, 0, none⟩) l.length l.length) w := by
  have := own_lit (base := B) (n := l.length) (size := 2) (C := (ecells l).toArray) hb (by simp [ecells_len]) hl hB
  simpa [RowB] using this

set_option maxRecDepth 100000 in
set_option maxHeartbeats 1600000 in
theorem whole_v (base : Int) (n : Nd) (l : List (Int × Int)) (v : Value) (B : Nat) (w : World) (h0 : 0 ≤ base) (h1 : base ≤ 1099511627776) (hl : l.length ≤ 1000) (ho : RowB B l v w) :
    Calls Try.prog 65 #[.int .u64 base, .agg (ndCells n), v] w fun e w' => RowP ([(base + 24, cOne n)] ++ l ++ [(base + 24, cTwo n)]) w e w' := by
  obtain ⟨i0, hi, hz0, hz1, hz2⟩ := info_parts Try.info36
  obtain ⟨a, m, c, rfl⟩ := own_slice ho
  obtain ⟨rfl, hr⟩ := ho.reads
  have hk0 : Blk (w.alloc (.cells (ndCells n) 27)) w.heap.size (ndCells n) 27 := Blk.new w _ _
  have HB0 := Lib.hid ((Below.refl w.heap.size w).alloc (Nat.le_refl _) (.cells (ndCells n) 27))
  have c3 : (w.alloc (.cells (ndCells n) 27)).cell? ⟨w.heap.size, 3, none⟩ = some (.int .u64 n.ct) := by rw [hk0.cell, ndCells_3]
  obtain ⟨c1, hc1⟩ : ∃ x, IntKind.u64.wrap (n.ct + 1) = x := ⟨_, rfl⟩
  obtain ⟨c2, hc2⟩ : ∃ x, IntKind.u64.wrap (n.ct + 2) = x := ⟨_, rfl⟩
  have HL := Lib.hid (show [(base + 24, cOne n)] ++ l ++ [(base + 24, cTwo n)] = [(base + 24, c1)] ++ l ++ [(base + 24, c2)] by unfold cOne cTwo; rw [hc1, hc2])
  have HK0 := Lib.hid hk0
  have HR := Lib.hid hr
  have HO := Lib.hid ho
  clear hk0 hr ho
  go_enter Try.func65, Try.ntmps65
  go_upto_region 2 with (fail)
  have hb1 : Blk ((w.alloc (.cells (ndCells n) 27)).alloc (.cells #[.int .u64 (base + 24), .int .u64 c1] 36)) (w.heap.size + 1) (ecells [(base + 24, c1)]).toArray 36 := by
    have := Blk.new (w.alloc (.cells (ndCells n) 27)) #[.int .u64 (base + 24), .int .u64 c1] 36
    simpa [ecells] using this
  have hB1 := HB0.out.alloc (by simp) (.cells #[.int .u64 (base + 24), .int .u64 c1] 36)
  have hk1 := HK0.out.alloc (.cells #[.int .u64 (base + 24), .int .u64 c1] 36)
  have hR1 := (HR.out.alloc (Nat.le_refl _) (.cells (ndCells n) 27)).alloc (by simp) (.cells #[.int .u64 (base + 24), .int .u64 c1] 36)
  have hO1 : RowB w.heap.size [(base + 24, c1)] (.slice (some ⟨w.heap.size + 1, 0, none⟩) 1 1) _ := RowB.lit hb1 (by simp) (by omega)
  generalize (w.alloc (.cells (ndCells n) 27)).alloc (.cells #[.int .u64 (base + 24), .int .u64 c1] 36) = w1 at *
  have HO1 := Lib.hid hO1
  have HR1 := Lib.hid hR1
  have HB1 := Lib.hid hB1
  have HK1 := Lib.hid hk1
  clear hb1 hB1 hk1 hR1 hO1
  go_upto_region 3 with (at_builtin; refine wpList_append_any _ rfl (.tmp 15) (.tmp 16) _ rfl w.heap.size 36 i0 _ 2 16 Try.underlying28 hi hz0 hz1 hz2 rfl (by omega) _ 1 (ecells [(base + 24, c1)]) rfl HO1.out w.heap.size _ l.length c (ecells l) rfl HR1.out (ecells_oneP l) (by unfold maxLen; omega) (by omega) HB1.out.size ?_; intro v2 w2 hown2 hg2 _)
  have hb2 := HB1.out.grown hg2 HB1.out.size (fun r e => own_base HO1.out _ e)
  have hk2 := HK1.out.grown hg2 (fun e => by have e2 : some w.heap.size = some (w.heap.size + 1) := e; have := Option.some.inj e2; omega)
  have c3' : w2.cell? ⟨w.heap.size, 3, none⟩ = some (.int .u64 n.ct) := by rw [hk2.cell, ndCells_3]
  obtain ⟨a2, m2, cc2, rfl⟩ := own_slice hown2
  have hm2 : m2 = 1 + l.length := own_len hown2
  subst hm2
  have HO2 := Lib.hid hown2
  have HB2 := Lib.hid hb2
  clear hown2 hg2 hb2 hk2 c3
  go_wp2_with (at_builtin; refine wpList_append_own _ rfl (.tmp 18) (.tmp 25) 28 rfl w.heap.size 36 i0 _ 2 16 Try.underlying28 hi hz0 hz1 hz2 rfl (by decide) _ (1 + l.length) _ rfl (HO2.out.alloc _) ⟨w2.heap.size, 0, none⟩ 1 1 [.int .u64 (base + 24), .int .u64 c2] rfl rfl (World.news_of_block (cs := #[.int .u64 (base + 24), .int .u64 c2]) (t := 36) (fr := (0, 0)) (heap_alloc_new w2 _)) (by simp [Value.oneCell']) (by unfold maxLen; omega) (by omega) (by simp; have := HB2.out.size; omega) ?_; intro v3 w3 hown3 hg3 _)
  have HB3 := Lib.hid ((HB2.out.alloc HB2.out.size (.cells #[.int .u64 (base + 24), .int .u64 c2] 36)).grown hg3 (by simp; have := HB2.out.size; omega) (fun r e => own_base HO2.out _ e))
  have HO3 := Lib.hid (show RowB w.heap.size ([(base + 24, c1)] ++ l ++ [(base + 24, c2)]) v3 w3 by
    unfold RowB
    rw [ecells_app, ecells_app]
    simpa [ecells, Nat.add_comm] using hown3)
  have HF := Lib.hid (show RowP ([(base + 24, cOne n)] ++ l ++ [(base + 24, cTwo n)]) w (.returned v3) w3 by rw [HL.out]; exact ⟨_, rfl, HO3.out, HB3.out⟩)
  clear hown3 hg3
  go_wp2_with (fail)
  go_ret
  exact HF.out
end Go.Proofs.Ytbpaefhihdhdeaa
namespace Go.Proofs.Ytbpaefhihdhdeaa
open Go.RowKit
set_option linter.unusedVariables false

/-- two stores in a block of their own -/
def Two (v0 : Value) (a1 x1 a2 x2 : Int) (v : Value) (W : World) : Prop := ∃ H, v = .slice (some ⟨H, 0, none⟩) 2 2 ∧ Blk W H #[.int .u64 a1, .int .u64 x1, .int .u64 a2, .int .u64 x2] 36 ∧ v0.ownBlock ≠ some H
theorem reads_two {W : World} {H : Nat} {a b c d : Value} {t : TypeId} (h : Blk W H #[a, b, c, d] t) : Reads W W.heap.size 2 (some ⟨H, 0, none⟩) 2 [a, b, c, d] := by
  refine ⟨by simp, fun _ => ⟨_, rfl, h.lt, fun j u hu => ?_⟩⟩
  have ha : (⟨H, 0, none⟩ : Addr).add j = ⟨H, j, none⟩ := by unfold Addr.add; split <;> simp_all
  rw [ha, h.cell]
  simpa using hu
theorem row_two {B : Nat} {l0 : List (Int × Int)} {v : Value} {W : World} {a1 x1 a2 x2 : Int} (h : W.ownsRow B 36 2 v (l0.length + 2) (ecells l0 ++ [.int .u64 a1, .int .u64 x1, .int .u64 a2, .int .u64 x2])) : RowB B (l0 ++ [(a1, x1), (a2, x2)]) v W := by
  unfold RowB
  rw [ecells_app]
  simpa [ecells] using h

set_option maxRecDepth 100000 in
set_option maxHeartbeats 6400000 in
theorem gap_v (base : Int) (n : Nd) (p q : Nat) (hq : n.len = q + 1) (hpq : p ≤ q) (w : World) (s0 : 0 ≤ base) (s2 : base ≤ 1099511627776) :
    Calls Try.prog 66 #[.int .u64 base, .agg (ndCells n), .int .i64 p] w fun e w' => RowP (gapL base n p (q - p) ++ [(base + 64 + 16 * (q : Int) + 8, 0)]) w e w' := by
  obtain ⟨i0, hi, hz0, hz1, hz2⟩ := info_parts Try.info36
  have HI := Lib.hid (info27 n)
  have hk0 : Blk (w.alloc (.cells (ndCells n) 27)) w.heap.size (ndCells n) 27 := Blk.new w _ _
  have HK0 := Lib.hid hk0
  have HL0 := Lib.hid (ndLoad hk0)
  have HB0 := Lib.hid ((Below.refl w.heap.size w).alloc (Nat.le_refl _) (.cells (ndCells n) 27))
  have h8 := n.len_le
  have hq8 : q + 1 ≤ 8 := by omega
  have HLn := Lib.hid (fun w => rlen_calls n w)
  rw [hq, Int.natCast_add, Int.natCast_one] at HLn
  clear hk0 hq h8
  go_enter Try.func66, Try.ntmps66
  go_wp2_with (with_reducible refine wpList_load_part (o := ⟨some 10, _, _, _, _, _⟩) rfl 27 _ rfl w.heap.size 0 rfl (ndCells n) _ HL0.out Try.underlying27 rfl HI.out ?_)
  refine (HLn.out _).mono ?_
  rintro e w1 ⟨rfl, hB⟩
  have HB1 := Lib.hid (HB0.out.trans (hB.mono HB0.out.size))
  have HK1 := Lib.hid (HK0.out.below hB HK0.out.lt)
  have HS4 := Lib.hid HK1.out.lt
  obtain ⟨b4, hb4⟩ : ∃ b, w.heap.size = b := ⟨_, rfl⟩
  rw [hb4] at HK1 HS4 ⊢
  clear hB HB0 HK0 HL0 hb4
  go_wp2_with (fail)
  go_loopw [7, 9] (fun ov iv wr => ∃ k : Nat, p ≤ k ∧ k ≤ q ∧ iv = .int .i64 k ∧ Hid (RowB w1.heap.size (gapL base n p (k - p)) ov wr) ∧ Hid (Blk wr b4 (ndCells n) 27) ∧ Hid (Below w1.heap.size w1 wr)) (fun _ iv _ => q - (intOf iv).toNat)
  case atStart => exact ⟨p, Nat.le_refl _, hpq, rfl, Lib.hid (by rw [Nat.sub_self]; exact World.ownsRow_nil _ _ _ _), HK1, Lib.hid (Below.refl _ _)⟩
  case round =>
    obtain ⟨k, hpk, hkq, rfl, HO, HK, HB⟩ := hrel
    by_cases hlt : k < q
    · have hk8 : k + 1 < 8 := by omega
      obtain ⟨x1, hx1⟩ : ∃ x, n.k (k + 1) = x := ⟨_, rfl⟩
      obtain ⟨x2, hx2⟩ : ∃ x, n.p (k + 1) = x := ⟨_, rfl⟩
      obtain ⟨a1, ha1⟩ : ∃ x, base + 64 + 16 * (k : Int) = x := ⟨_, rfl⟩
      obtain ⟨a2, ha2⟩ : ∃ x, base + 64 + 16 * (k : Int) + 8 = x := ⟨_, rfl⟩
      have HX := Lib.hid (And.intro hx1 hx2)
      have HKt := Lib.hid (fun w => kt_a base k s0 s2 (by omega) w)
      have HPt := Lib.hid (fun w => pt_b base k s0 s2 (by omega) w)
      have HGp := Lib.hid (show gapL base n p (k - p) ++ [(a1, x1), (a2, x2)] = gapL base n p (k + 1 - p) by
        rw [show k + 1 - p = (k - p) + 1 by omega, gapL, show p + (k - p) = k by omega, hx1, hx2, ha2, ha1])
      rw [ha1] at HKt
      rw [ha2] at HPt
      have HLl := Lib.hid (show (gapL base n p (k - p)).length ≤ 100 by rw [gapL_len]; omega)
      obtain ⟨l0, hl0⟩ : ∃ l, gapL base n p (k - p) = l := ⟨_, rfl⟩
      rw [hl0] at HO HGp HLl
      obtain ⟨v0, rfl⟩ : ∃ v, v = u7 := ⟨_, rfl⟩
      have b1 : (k : Int) + 1 < (q : Int) + 1 := by omega
      have b2 : (k : Int) + 1 < 8 := by omega
      have b3 : ((k : Int) + 1).toNat = k + 1 := by omega
      have HWk := Lib.hid (show IntKind.i64.wrap ((k : Int) + 1) = (k : Int) + 1 from IntWalk.i64_in _ (by omega))
      clear hx1 hx2 ha1 ha2 hl0
      go_upto_region 6 with (fail)
      --GEN r_gap
      refine wp_region_vals [Is v0, Is (.int .u64 base), Is (.int .i64 k), Is (.int .u64 a1), Is (.int .i64 k), Is (.int .i64 ((k : Int) + 1)), Is (.pointer (some ⟨b4, 5, none⟩)), Is (.pointer (some ⟨b4, 5 + (k + 1), none⟩)), Is (.int .u64 x1), Is (.agg #[.int .u64 a1, .int .u64 x1]), Is (.int .u64 base), Is (.int .i64 k), Is (.int .u64 a2), Is (.int .i64 k), Is (.int .i64 ((k : Int) + 1)), Is (.pointer (some ⟨b4, 13, none⟩)), Is (.pointer (some ⟨b4, 13 + (k + 1), none⟩)), Is (.int .u64 x2), Is (.agg #[.int .u64 a2, .int .u64 x2]), Two v0 a1 x1 a2 x2, RowB w1.heap.size (l0 ++ [(a1, x1), (a2, x2)]), RowB w1.heap.size (l0 ++ [(a1, x1), (a2, x2)])]
        (fun i => Keeps (fun g => i = 20 ∧ v0.ownBlock = some g)) (fun L W => (L 20 = true ∨ RowB w1.heap.size l0 v0 W) ∧ Blk W b4 (ndCells n) 27 ∧ Below w1.heap.size w1 W) (by kernel_rfl) (by kernel_rfl) (by kernel_rfl) ?hst ?h0 ⟨?o0, ?o1, ?o2, ?o3, ?o4, ?o5, ?o6, ?o7, ?o8, ?o9, ?o10, ?o11, ?o12, ?o13, ?o14, ?o15, ?o16, ?o17, ?o18, ?o19, ?o20, ?o21, trivial⟩ ?he
      case hst =>
        exact ⟨(fun _ _ _ _ _ _ h _ => h), (fun _ _ _ _ _ _ h _ => h), (fun _ _ _ _ _ _ h _ => h), (fun _ _ _ _ _ _ h _ => h), (fun _ _ _ _ _ _ h _ => h), (fun _ _ _ _ _ _ h _ => h), (fun _ _ _ _ _ _ h _ => h), (fun _ _ _ _ _ _ h _ => h), (fun _ _ _ _ _ _ h _ => h), (fun _ _ _ _ _ _ h _ => h), (fun _ _ _ _ _ _ h _ => h), (fun _ _ _ _ _ _ h _ => h), (fun _ _ _ _ _ _ h _ => h), (fun _ _ _ _ _ _ h _ => h), (fun _ _ _ _ _ _ h _ => h), (fun _ _ _ _ _ _ h _ => h), (fun _ _ _ _ _ _ h _ => h), (fun _ _ _ _ _ _ h _ => h), (fun _ _ _ _ _ _ h _ => h), (fun _ _ _ _ _ _ h hR => by obtain ⟨H, e, hb, hn⟩ := h; exact ⟨H, e, hb.kept hR (fun hx => hn hx.2), hn⟩), (fun _ hij _ _ _ _ h hR => RowB.below h (Keeps.below (hR.mono (fun _ _ hx => hij hx.1)))), (fun i hij hw _ _ _ h hR => (if h20 : i = 20 then by (subst h20; have h3 : false = true := hw.symm.trans (by kernel_rfl); cases h3) else RowB.below h (Keeps.below (hR.mono (fun _ _ hx => h20 hx.1))))), trivial⟩
      case h0 =>
        exact ⟨.inr (HO.out.below (Below.refl _ _).drew), HK.out.drew, HB.out.drew⟩
      case o0 =>
        intro L vs A W H hf hd K hK
        have e7 : A.tmps[7]?.getD undef = v0 := H.later 7 0 hf (by kernel_rfl)
        go_simp
        exact hK _ _ (Keeps.refl _ _) rfl (H.glob)
      case o1 =>
        intro L vs A W H hf hd K hK
        have e0 : A.tmps[0]?.getD undef = .int .u64 base := H.old 0 (by kernel_rfl)
        go_simp
        exact hK _ _ (Keeps.refl _ _) rfl (H.glob)
      case o2 =>
        intro L vs A W H hf hd K hK
        have e9 : A.tmps[9]?.getD undef = .int .i64 k := H.old 9 (by kernel_rfl)
        go_simp
        exact hK _ _ (Keeps.refl _ _) rfl (H.glob)
      case o3 =>
        intro L vs A W H hf hd K hK
        have e20 := H.is 1 20 rfl rfl rfl (deps_of' hd 1 (by kernel_rfl)) (by kernel_rfl)
        have e21 := H.is 2 21 rfl rfl rfl (deps_of' hd 2 (by kernel_rfl)) (by kernel_rfl)
        rw [if_pos (show Region.wanted _ _ = true from rfl)]
        go_wp2_with (fail)
        refine (HKt.out _).mono ?_
        rintro e W2 ⟨rfl, rfl⟩
        exact hK _ _ (Keeps.refl _ _) rfl H.glob
      case o4 =>
        intro L vs A W H hf hd K hK
        have e9 : A.tmps[9]?.getD undef = .int .i64 k := H.old 9 (by kernel_rfl)
        go_simp
        exact hK _ _ (Keeps.refl _ _) rfl (H.glob)
      case o5 =>
        intro L vs A W H hf hd K hK
        have e23 := H.is 4 23 rfl rfl rfl (deps_of' hd 4 (by kernel_rfl)) (by kernel_rfl)
        have wk := HWk.out
        go_simp
        exact hK _ _ (Keeps.refl _ _) rfl (H.glob)
      case o6 =>
        intro L vs A W H hf hd K hK
        have e4 : A.tmps[4]?.getD undef = .pointer (some ⟨b4, 0, none⟩) := H.old 4 (by kernel_rfl)
        go_simp
        exact hK _ _ (Keeps.refl _ _) rfl (H.glob)
      case o7 =>
        intro L vs A W H hf hd K hK
        have e25 := H.is 6 25 rfl rfl rfl (deps_of' hd 6 (by kernel_rfl)) (by kernel_rfl)
        have e24 := H.is 5 24 rfl rfl rfl (deps_of' hd 5 (by kernel_rfl)) (by kernel_rfl)
        go_simp
        exact hK _ _ (Keeps.refl _ _) rfl (H.glob)
      case o8 =>
        intro L vs A W H hf hd K hK
        have e26 := H.is 7 26 rfl rfl rfl (deps_of' hd 7 (by kernel_rfl)) (by kernel_rfl)
        have d1 : W.cell? ⟨b4, 5 + (k + 1), none⟩ = some (.int .u64 x1) := by rw [H.glob.2.1.cell, ndCells_k n (k + 1) hk8, HX.out.1]
        go_simp
        exact hK _ _ (Keeps.refl _ _) rfl (H.glob)
      case o9 =>
        intro L vs A W H hf hd K hK
        have e22 := H.is 3 22 rfl rfl rfl (deps_of' hd 3 (by kernel_rfl)) (by kernel_rfl)
        have e27 := H.is 8 27 rfl rfl rfl (deps_of' hd 8 (by kernel_rfl)) (by kernel_rfl)
        go_simp
        exact hK _ _ (Keeps.refl _ _) rfl (H.glob)
      case o10 =>
        intro L vs A W H hf hd K hK
        have e0 : A.tmps[0]?.getD undef = .int .u64 base := H.old 0 (by kernel_rfl)
        go_simp
        exact hK _ _ (Keeps.refl _ _) rfl (H.glob)
      case o11 =>
        intro L vs A W H hf hd K hK
        have e9 : A.tmps[9]?.getD undef = .int .i64 k := H.old 9 (by kernel_rfl)
        go_simp
        exact hK _ _ (Keeps.refl _ _) rfl (H.glob)
      case o12 =>
        intro L vs A W H hf hd K hK
        have e29 := H.is 10 29 rfl rfl rfl (deps_of' hd 10 (by kernel_rfl)) (by kernel_rfl)
        have e30 := H.is 11 30 rfl rfl rfl (deps_of' hd 11 (by kernel_rfl)) (by kernel_rfl)
        rw [if_pos (show Region.wanted _ _ = true from rfl)]
        go_wp2_with (fail)
        refine (HPt.out _).mono ?_
        rintro e W2 ⟨rfl, rfl⟩
        exact hK _ _ (Keeps.refl _ _) rfl H.glob
      case o13 =>
        intro L vs A W H hf hd K hK
        have e9 : A.tmps[9]?.getD undef = .int .i64 k := H.old 9 (by kernel_rfl)
        go_simp
        exact hK _ _ (Keeps.refl _ _) rfl (H.glob)
      case o14 =>
        intro L vs A W H hf hd K hK
        have e32 := H.is 13 32 rfl rfl rfl (deps_of' hd 13 (by kernel_rfl)) (by kernel_rfl)
        have wk := HWk.out
        go_simp
        exact hK _ _ (Keeps.refl _ _) rfl (H.glob)
      case o15 =>
        intro L vs A W H hf hd K hK
        have e4 : A.tmps[4]?.getD undef = .pointer (some ⟨b4, 0, none⟩) := H.old 4 (by kernel_rfl)
        go_simp
        exact hK _ _ (Keeps.refl _ _) rfl (H.glob)
      case o16 =>
        intro L vs A W H hf hd K hK
        have e34 := H.is 15 34 rfl rfl rfl (deps_of' hd 15 (by kernel_rfl)) (by kernel_rfl)
        have e33 := H.is 14 33 rfl rfl rfl (deps_of' hd 14 (by kernel_rfl)) (by kernel_rfl)
        go_simp
        exact hK _ _ (Keeps.refl _ _) rfl (H.glob)
      case o17 =>
        intro L vs A W H hf hd K hK
        have e35 := H.is 16 35 rfl rfl rfl (deps_of' hd 16 (by kernel_rfl)) (by kernel_rfl)
        have d1 : W.cell? ⟨b4, 13 + (k + 1), none⟩ = some (.int .u64 x2) := by rw [H.glob.2.1.cell, ndCells_p n (k + 1) hk8, HX.out.2]
        go_simp
        exact hK _ _ (Keeps.refl _ _) rfl (H.glob)
      case o18 =>
        intro L vs A W H hf hd K hK
        have e31 := H.is 12 31 rfl rfl rfl (deps_of' hd 12 (by kernel_rfl)) (by kernel_rfl)
        have e36 := H.is 17 36 rfl rfl rfl (deps_of' hd 17 (by kernel_rfl)) (by kernel_rfl)
        go_simp
        exact hK _ _ (Keeps.refl _ _) rfl (H.glob)
      case o19 =>
        intro L vs A W H hf hd K hK
        have e28 := H.is 9 28 rfl rfl rfl (deps_of' hd 9 (by kernel_rfl)) (by kernel_rfl)
        have e37 := H.is 18 37 rfl rfl rfl (deps_of' hd 18 (by kernel_rfl)) (by kernel_rfl)
        have n20 := H.notYet 20 19 rfl hf (by kernel_rfl)
        have hrow : RowB w1.heap.size l0 v0 W := by rcases H.glob.1 with h | h; (rw [n20] at h; cases h); exact h
        have hnb : v0.ownBlock ≠ some W.heap.size := fun e => by have := World.ownsRow.lt hrow _ e; omega
        have hgb := H.glob.2
        go_simp
        exact hK _ _ ((Keeps.refl _ _).alloc _) ⟨_, rfl, Blk.new _ _ _, hnb⟩ ⟨.inr (hrow.below ((Below.refl _ _).alloc (Nat.le_refl _) _)), hgb.1.alloc _, hgb.2.alloc hgb.2.size _⟩
      case o20 =>
        intro L vs A W H hf hd K hK
        have e19 := H.is 0 19 rfl rfl rfl (deps_of' hd 0 (by kernel_rfl)) (by kernel_rfl)
        obtain ⟨v38, e38, q38⟩ := H.val 19 38 rfl rfl rfl (deps_of' hd 19 (by kernel_rfl)) (by kernel_rfl)
        have hf20 : L 20 = false := hf
        have hrow : RowB w1.heap.size l0 v0 W := by rcases H.glob.1 with h | h; (rw [hf20] at h; cases h); exact h
        have hgb := H.glob.2
        obtain ⟨H2, rfl, hb2, hn2⟩ := q38
        refine step_append_any (w := W) rfl (.tmp 19) (.tmp 38) 28 rfl w1.heap.size 36 i0 _ 2 16 Try.underlying28 hi hz0 hz1 hz2 rfl (by omega) v0 l0.length (ecells l0) (ev_tmp e19) hrow W.heap.size (some ⟨H2, 0, none⟩) 2 2 [.int .u64 a1, .int .u64 x1, .int .u64 a2, .int .u64 x2] (ev_tmp e38) (reads_two hb2) (by simp [Value.oneCell']) (by unfold maxLen; have := HLl.out; omega) (by have := HLl.out; omega) hgb.2.size ?_
        intro v' w' hown' hg' _
        exact hK _ _ ((Keeps.refl _ _).grown hg' (fun _ e => .inl ⟨rfl, e⟩)) (row_two hown') ⟨.inl rfl, hgb.1.grown hg' (fun e => by have := own_base hrow _ e.symm; have := HS4.out; omega), hgb.2.grown hg' hgb.2.size (fun r e => own_base hrow _ e)⟩
      case o21 =>
        intro L vs A W H hf hd K hK
        obtain ⟨v39, e39, q39⟩ := H.val 20 39 rfl rfl rfl (deps_of' hd 20 (by kernel_rfl)) (by kernel_rfl)
        rw [if_pos (show Region.wanted _ _ = true from rfl)]
        go_simp
        exact hK _ _ (Keeps.refl _ _) q39 H.glob
      case he =>
        intro vs W hlen hv
        match vs, hlen, hv with
        | [x0_, x1_, x2_, x3_, x4_, x5_, x6_, x7_, x8_, x9_, x10_, x11_, x12_, x13_, x14_, x15_, x16_, x17_, x18_, x19_, x20_, x21_], _, hv =>
        obtain rfl : v0 = x0_ := by obtain ⟨z, h1, h2⟩ := hv 0 _ rfl; cases h1; exact h2.symm
        obtain rfl : (.int .u64 base) = x1_ := by obtain ⟨z, h1, h2⟩ := hv 1 _ rfl; cases h1; exact h2.symm
        obtain rfl : (.int .i64 k) = x2_ := by obtain ⟨z, h1, h2⟩ := hv 2 _ rfl; cases h1; exact h2.symm
        obtain rfl : (.int .u64 a1) = x3_ := by obtain ⟨z, h1, h2⟩ := hv 3 _ rfl; cases h1; exact h2.symm
        obtain rfl : (.int .i64 k) = x4_ := by obtain ⟨z, h1, h2⟩ := hv 4 _ rfl; cases h1; exact h2.symm
        obtain rfl : (.int .i64 ((k : Int) + 1)) = x5_ := by obtain ⟨z, h1, h2⟩ := hv 5 _ rfl; cases h1; exact h2.symm
        obtain rfl : (.pointer (some ⟨b4, 5, none⟩)) = x6_ := by obtain ⟨z, h1, h2⟩ := hv 6 _ rfl; cases h1; exact h2.symm
        obtain rfl : (.pointer (some ⟨b4, 5 + (k + 1), none⟩)) = x7_ := by obtain ⟨z, h1, h2⟩ := hv 7 _ rfl; cases h1; exact h2.symm
        obtain rfl : (.int .u64 x1) = x8_ := by obtain ⟨z, h1, h2⟩ := hv 8 _ rfl; cases h1; exact h2.symm
        obtain rfl : (.agg #[.int .u64 a1, .int .u64 x1]) = x9_ := by obtain ⟨z, h1, h2⟩ := hv 9 _ rfl; cases h1; exact h2.symm
        obtain rfl : (.int .u64 base) = x10_ := by obtain ⟨z, h1, h2⟩ := hv 10 _ rfl; cases h1; exact h2.symm
        obtain rfl : (.int .i64 k) = x11_ := by obtain ⟨z, h1, h2⟩ := hv 11 _ rfl; cases h1; exact h2.symm
        obtain rfl : (.int .u64 a2) = x12_ := by obtain ⟨z, h1, h2⟩ := hv 12 _ rfl; cases h1; exact h2.symm
        obtain rfl : (.int .i64 k) = x13_ := by obtain ⟨z, h1, h2⟩ := hv 13 _ rfl; cases h1; exact h2.symm
        obtain rfl : (.int .i64 ((k : Int) + 1)) = x14_ := by obtain ⟨z, h1, h2⟩ := hv 14 _ rfl; cases h1; exact h2.symm
        obtain rfl : (.pointer (some ⟨b4, 13, none⟩)) = x15_ := by obtain ⟨z, h1, h2⟩ := hv 15 _ rfl; cases h1; exact h2.symm
        obtain rfl : (.pointer (some ⟨b4, 13 + (k + 1), none⟩)) = x16_ := by obtain ⟨z, h1, h2⟩ := hv 16 _ rfl; cases h1; exact h2.symm
        obtain rfl : (.int .u64 x2) = x17_ := by obtain ⟨z, h1, h2⟩ := hv 17 _ rfl; cases h1; exact h2.symm
        obtain rfl : (.agg #[.int .u64 a2, .int .u64 x2]) = x18_ := by obtain ⟨z, h1, h2⟩ := hv 18 _ rfl; cases h1; exact h2.symm
        have hx19 : (Two v0 a1 x1 a2 x2) x19_ W := by obtain ⟨z, h1, h2⟩ := hv 19 _ rfl; cases h1; exact h2
        have hx20 : (RowB w1.heap.size (l0 ++ [(a1, x1), (a2, x2)])) x20_ W := by obtain ⟨z, h1, h2⟩ := hv 20 _ rfl; cases h1; exact h2
        have hx21 : (RowB w1.heap.size (l0 ++ [(a1, x1), (a2, x2)])) x21_ W := by obtain ⟨z, h1, h2⟩ := hv 21 _ rfl; cases h1; exact h2
        intro L hall hG
        clear hv hlen
        have HO2 := Lib.hid hx21
        have HK2 := Lib.hid hG.2.1
        have HB2 := Lib.hid hG.2.2
        clear hG hall hx19 hx20 hx21
        simp only [fill, if_true]
        go_simp
        go_wp2_with (fail)
        go_roundw
        case rel => exact ⟨k + 1, by omega, by omega, by go_num, Lib.hid (by have := HO2.out; rwa [HGp.out] at this), HK2, HB2⟩
        case measure => simp [intOf]; omega
      --END
    · have hkq : k = q := by omega
      subst hkq
      have b1 : ¬ (k : Int) + 1 < (k : Int) + 1 := by omega
      have b2 : (k : Int) + 1 - 1 = (k : Int) := by omega
      have hl : (gapL base n p (k - p)).length ≤ 100 := by rw [gapL_len]; omega
      obtain ⟨a2, ha2⟩ : ∃ x, base + 64 + 16 * (k : Int) + 8 = x := ⟨_, rfl⟩
      have HPt := Lib.hid (fun w => pt_b base k s0 s2 (by omega) w)
      rw [ha2] at HPt
      have HA2 := Lib.hid ha2
      have HSz := Lib.hid HB.out.size
      clear ha2
      go_wp2_with (first | (go_at_call 29; refine (HPt.out _).mono ?_; rintro e w2 ⟨rfl, rfl⟩) | (at_builtin; refine wpList_append_own _ rfl (.tmp 40) (.tmp 46) 28 rfl w1.heap.size 36 i0 _ 2 16 Try.underlying28 hi hz0 hz1 hz2 rfl (by decide) _ _ _ rfl (HO.out.alloc _) ⟨_, 0, none⟩ 1 1 [.int .u64 a2, .int .u64 0] rfl rfl (World.news_of_block (cs := #[.int .u64 a2, .int .u64 0]) (t := 36) (fr := (0, 0)) (heap_alloc_new _ _)) (by simp [Value.oneCell']) (by unfold maxLen; omega) (by omega) (by simp; have := HSz.out; omega) ?_; intro v3 w3 hown3 hg3 _))
      have HB3 := Lib.hid ((HB.out.alloc HSz.out (.cells #[.int .u64 a2, .int .u64 0] 36)).grown hg3 (by simp; have := HSz.out; omega) (fun r e => own_base HO.out _ e))
      have HO3 := Lib.hid (show RowB w1.heap.size (gapL base n p (k - p) ++ [(a2, 0)]) v3 w3 by
        unfold RowB
        rw [ecells_app]
        simpa [ecells] using hown3)
      have HF := Lib.hid (show RowP (gapL base n p (k - p) ++ [(base + 64 + 16 * (k : Int) + 8, 0)]) w (.returned v3) w3 by rw [HA2.out]; exact ⟨_, rfl, HO3.out.mono HB1.out.size, HB1.out.trans (HB3.out.mono HB1.out.size)⟩)
      clear hown3 hg3
      go_wp2_with (fail)
      go_ret
      exact HF.out
end Go.Proofs.Ytbpaefhihdhdeaa
namespace Go.Proofs.Ytbpaefhihdhdeaa
open Go.RowKit
set_option linter.unusedVariables false

theorem RowB.one (w : World) (a x : Int) : RowB w.heap.size [(a, x)] (.slice (some ⟨w.heap.size, 0, none⟩) 1 1) (w.alloc (.cells #[.int .u64 a, .int .u64 x] 36)) := by
  have hb : Blk (w.alloc (.cells #[.int .u64 a, .int .u64 x] 36)) w.heap.size (ecells [(a, x)]).toArray 36 := by
    have := Blk.new w #[.int .u64 a, .int .u64 x] 36
    simpa [ecells] using this
  exact RowB.lit hb (by simp) (Nat.le_refl _)
theorem MadeP.row {B : Nat} {l l' : List (Int × Int)} {w w' : World} {a : Option Addr} {m c : Nat} (h : RowB B l (.slice a m c) w') (hB : Below w.heap.size w w') (hle : w.heap.size ≤ B) (hl : l = l') : MadeP l' 0 w (.returned (.tuple #[.slice a m c, .int .i64 0])) w' := by
  subst hl
  exact ⟨a, m, c, rfl, own_len h, h.mono hle, hB⟩

theorem RowB.new {B : Nat} {l : List (Int × Int)} {W : World} (hB : B ≤ W.heap.size) (hl : l.length ≤ 1000000 := by simp) : RowB B l (.slice (some ⟨W.heap.size, 0, none⟩) l.length l.length) (W.alloc (.cells (ecells l).toArray 36)) :=
  RowB.lit (Blk.new W _ _) hl hB


/-! ### Link -/
set_option maxRecDepth 100000 in
set_option maxHeartbeats 1600000 in
theorem link_d (base : Int) (n : Nd) (tp : Int) (h0 : 0 ≤ base) (w : World) :
    Calls Try.prog 38 #[.int .u64 base, .agg (ndCells n), .int .u64 tp] w fun e w' => MadeP (linkP base n tp) (mayE base n) w e w' := by
  have HI := Lib.hid (info27 n)
  have hk0 : Blk (w.alloc (.cells (ndCells n) 27)) w.heap.size (ndCells n) 27 := Blk.new w _ _
  have HK0 := Lib.hid hk0
  have HL0 := Lib.hid (ndLoad hk0)
  have HB0 := Lib.hid ((Below.refl w.heap.size w).alloc (Nat.le_refl _) (.cells (ndCells n) 27))
  have HM := Lib.hid (fun w => rmay_v base n h0 w)
  clear hk0
  by_cases hm : mayE base n = 0
  · obtain ⟨⟨s1, s2, s3⟩, _, _⟩ := mayE_stands hm
    have HP := Lib.hid (show linkP base n tp = [(base + 24, cOne n)] ++ [(base + 16, tp)] ++ [(base + 24, cTwo n)] by unfold linkP; rw [if_pos hm]; rfl)
    have HE := Lib.hid hm
    rw [hm] at HM
    clear hm s3
    go_enter Try.func38, Try.ntmps38
    go_wp2_with (with_reducible refine wpList_load_part (o := ⟨some 10, _, _, _, _, _⟩) rfl 27 _ rfl w.heap.size 0 rfl (ndCells n) _ HL0.out Try.underlying27 rfl HI.out ?_)
    refine (HM.out _).mono ?_
    rintro e w1 ⟨rfl, hB⟩
    have HK1 := Lib.hid (HK0.out.below hB HK0.out.lt)
    have HL1 := Lib.hid (ndLoad HK1.out)
    have HB1 := Lib.hid (HB0.out.trans (hB.mono HB0.out.size))
    clear hB
    go_wp2_with (with_reducible refine wpList_load_part (o := ⟨some 16, _, _, _, _, _⟩) rfl 27 _ rfl w.heap.size 0 rfl (ndCells n) _ HL1.out Try.underlying27 rfl HI.out ?_)
    refine (whole_v base n [(base + 16, tp)] _ w1.heap.size _ h0 s2 (by simp) (RowB.one w1 _ _)).mono ?_
    rintro e w2 ⟨v, rfl, ho, hB⟩
    obtain ⟨a, m, c, rfl⟩ := own_slice ho
    have hb1 := (Below.refl w1.heap.size w1).alloc (Nat.le_refl _) (.cells #[.int .u64 (base + 16), .int .u64 tp] 36)
    have HD := Lib.hid (show MadeP (linkP base n tp) 0 w (.returned (.tuple #[.slice a m c, .int .i64 0])) w2 from MadeP.row ho (HB1.out.trans ((hb1.trans (hB.mono hb1.size)).mono HB1.out.size)) (by have := HB1.out.size; simp; omega) HP.out.symm)
    clear ho hB hb1
    go_wp2_with (fail)
    go_ret2
    rw [HE.out]
    exact HD.out
  · have HP := Lib.hid (show linkP base n tp = [] by unfold linkP; rw [if_neg hm])
    obtain ⟨M, hM⟩ : ∃ M, mayE base n = M := ⟨_, rfl⟩
    rw [hM] at HM
    have HE := Lib.hid hM
    have q1 : (M != 0) = true := by rw [bne_iff_ne, ← hM]; exact hm
    clear hm hM
    go_enter Try.func38, Try.ntmps38
    go_wp2_with (with_reducible refine wpList_load_part (o := ⟨some 10, _, _, _, _, _⟩) rfl 27 _ rfl w.heap.size 0 rfl (ndCells n) _ HL0.out Try.underlying27 rfl HI.out ?_)
    refine (HM.out _).mono ?_
    rintro e w1 ⟨rfl, hB⟩
    have HK1 := Lib.hid (HK0.out.below hB HK0.out.lt)
    have HL1 := Lib.hid (ndLoad HK1.out)
    have HB1 := Lib.hid (HB0.out.trans (hB.mono HB0.out.size))
    clear hB
    go_wp2_with (fail)
    go_ret2
    rw [HE.out, HP.out]
    exact MadeP.err HB1.out

/-! ### Swap -/
theorem fresh_had {n : Nd} {p : Int} {b : Bool} (h : freshB n p = b) (w : World) : Calls Try.prog 61 #[.agg (ndCells n), .int .u64 p] w fun e w' => e = .returned (.bool (!b)) ∧ Below w.heap.size w w' := by
  have := had_v n p w; rwa [h] at this
set_option maxRecDepth 100000 in
set_option maxHeartbeats 3200000 in
theorem swap_d (base : Int) (n : Nd) (key p : Int) (h0 : 0 ≤ base) (w : World) :
    Calls Try.prog 36 #[.int .u64 base, .agg (ndCells n), .int .u64 key, .int .u64 p] w fun e w' => MadeP (swapP base n key p) (swapE base n key p) w e w' := by
  have HI := Lib.hid (info27 n)
  have hk0 : Blk (w.alloc (.cells (ndCells n) 27)) w.heap.size (ndCells n) 27 := Blk.new w _ _
  have HK0 := Lib.hid hk0
  have HL0 := Lib.hid (ndLoad hk0)
  have HB0 := Lib.hid ((Below.refl w.heap.size w).alloc (Nat.le_refl _) (.cells (ndCells n) 27))
  have HM := Lib.hid (fun w => rmay_v base n h0 w)
  clear hk0
  have HFd := Lib.hid (fun w => rfind_calls n key w)
  by_cases hm : mayE base n = 2
  · have HE := Lib.hid (show swapE base n key p = 2 ∧ swapP base n key p = [] by
      have : swapE base n key p = 2 := by unfold swapE; rw [if_pos (.inl hm)]
      exact ⟨this, by unfold swapP; rw [this]; rfl⟩)
    rw [hm] at HM
    clear hm
    go_enter Try.func36, Try.ntmps36
    go_wp2_with (with_reducible refine wpList_load_part (o := ⟨some 13, _, _, _, _, _⟩) rfl 27 _ rfl w.heap.size 0 rfl (ndCells n) _ HL0.out Try.underlying27 rfl HI.out ?_)
    refine (HM.out _).mono ?_
    rintro e w1 ⟨rfl, hB⟩
    have HK1 := Lib.hid (HK0.out.below hB HK0.out.lt)
    have HL1 := Lib.hid (ndLoad HK1.out)
    have HB1 := Lib.hid (HB0.out.trans (hB.mono HB0.out.size))
    clear hB
    go_wp2_with (fail)
    go_ret2
    rw [HE.out.1, HE.out.2]
    exact MadeP.err HB1.out
  · have q0 : (mayE base n == 2) = false := beq_eq_false_iff_ne.2 hm
    cases hf : freshB n p with
    | false =>
      have HE := Lib.hid (show swapE base n key p = 2 ∧ swapP base n key p = [] by
        have : swapE base n key p = 2 := by unfold swapE; rw [if_pos (.inr hf)]
        exact ⟨this, by unfold swapP; rw [this]; rfl⟩)
      have HFr := Lib.hid (fun w => fresh_had hf w)
      obtain ⟨M, hM⟩ : ∃ M, mayE base n = M := ⟨_, rfl⟩
      rw [hM] at HM q0
      clear hm hf hM
      go_enter Try.func36, Try.ntmps36
      go_wp2_with (with_reducible refine wpList_load_part (o := ⟨some 13, _, _, _, _, _⟩) rfl 27 _ rfl w.heap.size 0 rfl (ndCells n) _ HL0.out Try.underlying27 rfl HI.out ?_)
      refine (HM.out _).mono ?_
      rintro e w1 ⟨rfl, hB⟩
      have HK1 := Lib.hid (HK0.out.below hB HK0.out.lt)
      have HL1 := Lib.hid (ndLoad HK1.out)
      have HB1 := Lib.hid (HB0.out.trans (hB.mono HB0.out.size))
      clear hB
      go_wp2_with (refine wpList_load_gd (o := ⟨some 18, .load 27 (.tmp 5), _, _, _, _⟩) 27 (.tmp 5) ?hoa w.heap.size 0 ?hxa (ndCells n) _ HL1.out Try.underlying27 rfl HI.out ?hwa ?_; (case hoa => rfl); (case hxa => rfl); (case hwa => rfl))
      refine (HFr.out _).mono ?_
      rintro e w2 ⟨rfl, hB⟩
      have HK2 := Lib.hid (HK1.out.below hB HK1.out.lt)
      have HL2 := Lib.hid (ndLoad HK2.out)
      have HB2 := Lib.hid (HB1.out.trans (hB.mono HB1.out.size))
      clear hB
      go_wp2_with (fail)
      go_ret2
      rw [HE.out.1, HE.out.2]
      exact MadeP.err HB2.out
    | true =>
      have HFr := Lib.hid (fun w => fresh_had hf w)
      by_cases hm0 : mayE base n = 0
      · obtain ⟨⟨s1, s2, s3⟩, _, _⟩ := mayE_stands hm0
        by_cases hfn : n.find key < 0
        · have HE := Lib.hid (show swapE base n key p = 5 ∧ swapP base n key p = [] by
            have : swapE base n key p = 5 := by unfold swapE; rw [if_neg (by rw [hf]; simp [hm]), if_neg (by simp [hm0]), if_pos hfn]
            exact ⟨this, by unfold swapP; rw [this]; rfl⟩)
          obtain ⟨fi, hfi⟩ : ∃ z, n.find key = z := ⟨_, rfl⟩
          rw [hfi] at HFd hfn
          rw [hm0] at HM
          clear hm hm0 hf q0 s3 hfi
          go_enter Try.func36, Try.ntmps36
          go_wp2_with (with_reducible refine wpList_load_part (o := ⟨some 13, _, _, _, _, _⟩) rfl 27 _ rfl w.heap.size 0 rfl (ndCells n) _ HL0.out Try.underlying27 rfl HI.out ?_)
          refine (HM.out _).mono ?_
          rintro e w1 ⟨rfl, hB⟩
          have HK1 := Lib.hid (HK0.out.below hB HK0.out.lt)
          have HL1 := Lib.hid (ndLoad HK1.out)
          have HB1 := Lib.hid (HB0.out.trans (hB.mono HB0.out.size))
          clear hB
          go_wp2_with (refine wpList_load_gd (o := ⟨some 18, .load 27 (.tmp 5), _, _, _, _⟩) 27 (.tmp 5) ?hob w.heap.size 0 ?hxb (ndCells n) _ HL1.out Try.underlying27 rfl HI.out ?hwb ?_; (case hob => rfl); (case hxb => rfl); (case hwb => rfl))
          refine (HFr.out _).mono ?_
          rintro e w2 ⟨rfl, hB⟩
          have HK2 := Lib.hid (HK1.out.below hB HK1.out.lt)
          have HL2 := Lib.hid (ndLoad HK2.out)
          have HB2 := Lib.hid (HB1.out.trans (hB.mono HB1.out.size))
          clear hB
          go_wp2_with (with_reducible refine wpList_load_part (o := ⟨some 25, _, _, _, _, _⟩) rfl 27 _ rfl w.heap.size 0 rfl (ndCells n) _ HL2.out Try.underlying27 rfl HI.out ?_)
          refine (HFd.out _).mono ?_
          rintro e w3 ⟨rfl, hB⟩
          have HK3 := Lib.hid (HK2.out.below hB HK2.out.lt)
          have HL3 := Lib.hid (ndLoad HK3.out)
          have HB3 := Lib.hid (HB2.out.trans (hB.mono HB2.out.size))
          clear hB
          go_wp2_with (fail)
          go_ret2
          rw [HE.out.1, HE.out.2]
          exact MadeP.err HB3.out
        · obtain ⟨at_, hat, hlt⟩ := find_lt n key (by omega)
          have h8 := n.len_le
          have ha8 : at_ ≤ 8 := by omega
          have HPt := Lib.hid (fun w => pt_b base at_ h0 s2 ha8 w)
          obtain ⟨a1, ha1⟩ : ∃ x, base + 64 + 16 * (at_ : Int) + 8 = x := ⟨_, rfl⟩
          have HE := Lib.hid (show swapE base n key p = 0 ∧ swapP base n key p = [(base + 24, cOne n)] ++ [(a1, p)] ++ [(base + 24, cTwo n)] by
            have : swapE base n key p = 0 := by unfold swapE; rw [if_neg (by rw [hf]; simp [hm]), if_neg (by simp [hm0]), if_neg hfn]
            exact ⟨this, by unfold swapP; rw [if_pos this, hat, ha1]; rfl⟩)
          rw [ha1] at HPt
          rw [hat] at HFd
          rw [hm0] at HM
          have q1 : ¬ (at_ : Int) < 0 := by omega
          clear hm hm0 hf hfn q0 s3 hat ha1 hlt h8
          go_enter Try.func36, Try.ntmps36
          go_wp2_with (with_reducible refine wpList_load_part (o := ⟨some 13, _, _, _, _, _⟩) rfl 27 _ rfl w.heap.size 0 rfl (ndCells n) _ HL0.out Try.underlying27 rfl HI.out ?_)
          refine (HM.out _).mono ?_
          rintro e w1 ⟨rfl, hB⟩
          have HK1 := Lib.hid (HK0.out.below hB HK0.out.lt)
          have HL1 := Lib.hid (ndLoad HK1.out)
          have HB1 := Lib.hid (HB0.out.trans (hB.mono HB0.out.size))
          clear hB
          go_wp2_with (refine wpList_load_gd (o := ⟨some 18, .load 27 (.tmp 5), _, _, _, _⟩) 27 (.tmp 5) ?hoc w.heap.size 0 ?hxc (ndCells n) _ HL1.out Try.underlying27 rfl HI.out ?hwc ?_; (case hoc => rfl); (case hxc => rfl); (case hwc => rfl))
          refine (HFr.out _).mono ?_
          rintro e w2 ⟨rfl, hB⟩
          have HK2 := Lib.hid (HK1.out.below hB HK1.out.lt)
          have HL2 := Lib.hid (ndLoad HK2.out)
          have HB2 := Lib.hid (HB1.out.trans (hB.mono HB1.out.size))
          clear hB
          go_wp2_with (with_reducible refine wpList_load_part (o := ⟨some 25, _, _, _, _, _⟩) rfl 27 _ rfl w.heap.size 0 rfl (ndCells n) _ HL2.out Try.underlying27 rfl HI.out ?_)
          refine (HFd.out _).mono ?_
          rintro e w3 ⟨rfl, hB⟩
          have HK3 := Lib.hid (HK2.out.below hB HK2.out.lt)
          have HL3 := Lib.hid (ndLoad HK3.out)
          have HB3 := Lib.hid (HB2.out.trans (hB.mono HB2.out.size))
          clear hB
          have HKx := HK3
          have HBx := HB3
          obtain ⟨wB, rfl⟩ : ∃ x, x = w3 := ⟨_, rfl⟩
          go_upto_region 9 with (fail)
          --GEN r_dswap
          refine wp_region_vals [Is (.int .u64 base), Is (.agg (ndCells n)), Is (.int .u64 base), Is (.int .i64 (at_ : Int)), Is (.int .u64 a1), Is (.int .u64 p), Is (.agg #[.int .u64 a1, .int .u64 p]), RowB wB.heap.size [(a1, p)], RowB wB.heap.size ([(base + 24, cOne n)] ++ [(a1, p)] ++ [(base + 24, cTwo n)]), RowB wB.heap.size ([(base + 24, cOne n)] ++ [(a1, p)] ++ [(base + 24, cTwo n)]), Is (.int .i64 0)]
            (fun _ W W' => Below W.heap.size W W') (fun _ W => Below wB.heap.size wB W) (by kernel_rfl) (by kernel_rfl) (by kernel_rfl) ?hst ?h0 ⟨?o0, ?o1, ?o2, ?o3, ?o4, ?o5, ?o6, ?o7, ?o8, ?o9, ?o10, trivial⟩ ?he
          case hst =>
            exact ⟨(fun _ _ _ _ _ _ h _ => h), (fun _ _ _ _ _ _ h _ => h), (fun _ _ _ _ _ _ h _ => h), (fun _ _ _ _ _ _ h _ => h), (fun _ _ _ _ _ _ h _ => h), (fun _ _ _ _ _ _ h _ => h), (fun _ _ _ _ _ _ h _ => h), (fun _ _ _ _ _ _ h hR => RowB.below h hR), (fun _ _ _ _ _ _ h hR => RowB.below h hR), (fun _ _ _ _ _ _ h hR => RowB.below h hR), (fun _ _ _ _ _ _ h _ => h), trivial⟩
          case h0 =>
            exact (Below.refl _ _).drew
          case o0 =>
            intro L vs A W H hf hd K hK
            have e0 : A.tmps[0]?.getD undef = .int .u64 base := H.old 0 (by kernel_rfl)
            go_simp
            exact hK _ _ (Below.refl _ _) rfl (H.glob)
          case o1 =>
            intro L vs A W H hf hd K hK
            have e5 : A.tmps[5]?.getD undef = .pointer (some ⟨w.heap.size, 0, none⟩) := H.old 5 (by kernel_rfl)
            rw [if_pos (show Region.wanted _ _ = true from rfl)]
            exact wp_load_nd _ rfl w.heap.size n (ev_tmp e5) (HKx.out.below H.glob HKx.out.lt) (hK _ _ (Below.refl _ _) rfl H.glob)
          case o2 =>
            intro L vs A W H hf hd K hK
            have e0 : A.tmps[0]?.getD undef = .int .u64 base := H.old 0 (by kernel_rfl)
            go_simp
            exact hK _ _ (Below.refl _ _) rfl (H.glob)
          case o3 =>
            intro L vs A W H hf hd K hK
            have e11 : A.tmps[11]?.getD undef = .int .i64 (at_ : Int) := H.old 11 (by kernel_rfl)
            go_simp
            exact hK _ _ (Below.refl _ _) rfl (H.glob)
          case o4 =>
            intro L vs A W H hf hd K hK
            have e32 := H.is 2 32 rfl rfl rfl (deps_of' hd 2 (by kernel_rfl)) (by kernel_rfl)
            have e33 := H.is 3 33 rfl rfl rfl (deps_of' hd 3 (by kernel_rfl)) (by kernel_rfl)
            rw [if_pos (show Region.wanted _ _ = true from rfl)]
            go_wp2_with (fail)
            refine (HPt.out _).mono ?_
            rintro e W2 ⟨rfl, rfl⟩
            exact hK _ _ (Below.refl _ _) rfl H.glob
          case o5 =>
            intro L vs A W H hf hd K hK
            have e3 : A.tmps[3]?.getD undef = .int .u64 p := H.old 3 (by kernel_rfl)
            go_simp
            exact hK _ _ (Below.refl _ _) rfl (H.glob)
          case o6 =>
            intro L vs A W H hf hd K hK
            have e34 := H.is 4 34 rfl rfl rfl (deps_of' hd 4 (by kernel_rfl)) (by kernel_rfl)
            have e35 := H.is 5 35 rfl rfl rfl (deps_of' hd 5 (by kernel_rfl)) (by kernel_rfl)
            go_simp
            exact hK _ _ (Below.refl _ _) rfl (H.glob)
          case o7 =>
            intro L vs A W H hf hd K hK
            have e36 := H.is 6 36 rfl rfl rfl (deps_of' hd 6 (by kernel_rfl)) (by kernel_rfl)
            have hgs := H.glob.size
            go_simp
            exact hK _ _ ((Below.refl _ _).alloc (Nat.le_refl _) _) (RowB.new (l := [(a1, p)]) hgs) (H.glob.trans (((Below.refl _ _).alloc (Nat.le_refl _) _).mono H.glob.size))
          case o8 =>
            intro L vs A W H hf hd K hK
            have e30 := H.is 0 30 rfl rfl rfl (deps_of' hd 0 (by kernel_rfl)) (by kernel_rfl)
            have e31 := H.is 1 31 rfl rfl rfl (deps_of' hd 1 (by kernel_rfl)) (by kernel_rfl)
            obtain ⟨v37, e37, q37⟩ := H.val 7 37 rfl rfl rfl (deps_of' hd 7 (by kernel_rfl)) (by kernel_rfl)
            rw [if_pos (show Region.wanted _ _ = true from rfl)]
            go_wp2_with (fail)
            refine (whole_v base n [(a1, p)] _ _ _ h0 s2 (by simp) q37).mono ?_
            rintro e W2 ⟨v, rfl, ho, hB⟩
            exact hK _ _ hB (ho.mono H.glob.size) (H.glob.trans (hB.mono H.glob.size))
          case o9 =>
            intro L vs A W H hf hd K hK
            obtain ⟨v38, e38, q38⟩ := H.val 8 38 rfl rfl rfl (deps_of' hd 8 (by kernel_rfl)) (by kernel_rfl)
            rw [if_pos (show Region.wanted _ _ = true from rfl)]
            go_simp
            exact hK _ _ (Below.refl _ _) q38 H.glob
          case o10 =>
            intro L vs A W H hf hd K hK
            go_simp
            exact hK _ _ (Below.refl _ _) rfl (H.glob)
          case he =>
            intro vs W hlen hv
            match vs, hlen, hv with
            | [x0_, x1_, x2_, x3_, x4_, x5_, x6_, x7_, x8_, x9_, x10_], _, hv =>
            obtain rfl : (.int .u64 base) = x0_ := by obtain ⟨z, h1, h2⟩ := hv 0 _ rfl; cases h1; exact h2.symm
            obtain rfl : (.agg (ndCells n)) = x1_ := by obtain ⟨z, h1, h2⟩ := hv 1 _ rfl; cases h1; exact h2.symm
            obtain rfl : (.int .u64 base) = x2_ := by obtain ⟨z, h1, h2⟩ := hv 2 _ rfl; cases h1; exact h2.symm
            obtain rfl : (.int .i64 (at_ : Int)) = x3_ := by obtain ⟨z, h1, h2⟩ := hv 3 _ rfl; cases h1; exact h2.symm
            obtain rfl : (.int .u64 a1) = x4_ := by obtain ⟨z, h1, h2⟩ := hv 4 _ rfl; cases h1; exact h2.symm
            obtain rfl : (.int .u64 p) = x5_ := by obtain ⟨z, h1, h2⟩ := hv 5 _ rfl; cases h1; exact h2.symm
            obtain rfl : (.agg #[.int .u64 a1, .int .u64 p]) = x6_ := by obtain ⟨z, h1, h2⟩ := hv 6 _ rfl; cases h1; exact h2.symm
            have hx7 : (RowB wB.heap.size [(a1, p)]) x7_ W := by obtain ⟨z, h1, h2⟩ := hv 7 _ rfl; cases h1; exact h2
            have hx8 : (RowB wB.heap.size ([(base + 24, cOne n)] ++ [(a1, p)] ++ [(base + 24, cTwo n)])) x8_ W := by obtain ⟨z, h1, h2⟩ := hv 8 _ rfl; cases h1; exact h2
            have hx9 : (RowB wB.heap.size ([(base + 24, cOne n)] ++ [(a1, p)] ++ [(base + 24, cTwo n)])) x9_ W := by obtain ⟨z, h1, h2⟩ := hv 9 _ rfl; cases h1; exact h2
            obtain rfl : (.int .i64 0) = x10_ := by obtain ⟨z, h1, h2⟩ := hv 10 _ rfl; cases h1; exact h2.symm
            intro L hall hG
            clear hv hlen
            have hx := hx9
            obtain ⟨a, m, c, rfl⟩ := own_slice hx
            have HD := Lib.hid (show MadeP (swapP base n key p) 0 w (.returned (.tuple #[.slice a m c, .int .i64 0])) W from MadeP.row hx (HBx.out.trans (hG.mono HBx.out.size)) HBx.out.size HE.out.2.symm)
            clear hG hall hx8 hx9 hx7 hx
            simp only [fill, if_true]
            go_simp
            go_wp2_with (fail)
            go_ret2
            rw [HE.out.1]
            exact HD.out
          --END
      · have HE := Lib.hid (show swapE base n key p = mayE base n ∧ swapP base n key p = [] by
          have : swapE base n key p = mayE base n := by unfold swapE; rw [if_neg (by rw [hf]; simp [hm]), if_pos hm0]
          exact ⟨this, by unfold swapP; rw [this, if_neg hm0]⟩)
        have q1 : (mayE base n != 0) = true := bne_iff_ne.2 hm0
        obtain ⟨M, hM⟩ : ∃ M, mayE base n = M := ⟨_, rfl⟩
        rw [hM] at HM q0 q1 HE
        clear hm hf hM hm0
        go_enter Try.func36, Try.ntmps36
        go_wp2_with (with_reducible refine wpList_load_part (o := ⟨some 13, _, _, _, _, _⟩) rfl 27 _ rfl w.heap.size 0 rfl (ndCells n) _ HL0.out Try.underlying27 rfl HI.out ?_)
        refine (HM.out _).mono ?_
        rintro e w1 ⟨rfl, hB⟩
        have HK1 := Lib.hid (HK0.out.below hB HK0.out.lt)
        have HL1 := Lib.hid (ndLoad HK1.out)
        have HB1 := Lib.hid (HB0.out.trans (hB.mono HB0.out.size))
        clear hB
        go_wp2_with (refine wpList_load_gd (o := ⟨some 18, .load 27 (.tmp 5), _, _, _, _⟩) 27 (.tmp 5) ?hod w.heap.size 0 ?hxd (ndCells n) _ HL1.out Try.underlying27 rfl HI.out ?hwd ?_; (case hod => rfl); (case hxd => rfl); (case hwd => rfl))
        refine (HFr.out _).mono ?_
        rintro e w2 ⟨rfl, hB⟩
        have HK2 := Lib.hid (HK1.out.below hB HK1.out.lt)
        have HL2 := Lib.hid (ndLoad HK2.out)
        have HB2 := Lib.hid (HB1.out.trans (hB.mono HB1.out.size))
        clear hB
        go_wp2_with (fail)
        go_ret2
        rw [HE.out.1, HE.out.2]
        exact MadeP.err HB2.out
end Go.Proofs.Ytbpaefhihdhdeaa
namespace Go.Proofs.Ytbpaefhihdhdeaa
open Go.RowKit
set_option linter.unusedVariables false


/-! ### Cut -/
set_option maxRecDepth 100000 in
set_option maxHeartbeats 3200000 in
theorem cut_d (base : Int) (n : Nd) (high : Int) (h0 : 0 ≤ base) (w : World) :
    Calls Try.prog 37 #[.int .u64 base, .agg (ndCells n), .int .u64 high] w fun e w' => MadeP (cutP base n high) (cutE base n high) w e w' := by
  have HI := Lib.hid (info27 n)
  have hk0 : Blk (w.alloc (.cells (ndCells n) 27)) w.heap.size (ndCells n) 27 := Blk.new w _ _
  have HK0 := Lib.hid hk0
  have HL0 := Lib.hid (ndLoad hk0)
  have HB0 := Lib.hid ((Below.refl w.heap.size w).alloc (Nat.le_refl _) (.cells (ndCells n) 27))
  have HM := Lib.hid (fun w => rmay_v base n h0 w)
  clear hk0
  by_cases hm : mayE base n = 0
  · obtain ⟨⟨s1, s2, s3⟩, _, _⟩ := mayE_stands hm
    have hcE : cutE base n high = if n.cutAt high < 0 then 5 else 0 := by unfold cutE; rw [if_neg (by omega)]
    have HCE := Lib.hid hcE
    have HLn := Lib.hid (fun w => rlen_calls n w)
    have h8 := n.len_le
    rw [hm] at HM
    clear hm s3 hcE
    go_enter Try.func37, Try.ntmps37
    go_wp2_with (with_reducible refine wpList_load_part (o := ⟨some 11, _, _, _, _, _⟩) rfl 27 _ rfl w.heap.size 0 rfl (ndCells n) _ HL0.out Try.underlying27 rfl HI.out ?_)
    refine (HM.out _).mono ?_
    rintro e w1 ⟨rfl, hB⟩
    have HK1 := Lib.hid (HK0.out.below hB HK0.out.lt)
    have HL1 := Lib.hid (ndLoad HK1.out)
    have HB1 := Lib.hid (HB0.out.trans (hB.mono HB0.out.size))
    clear hB
    go_wp2_with (fail)
    go_loopw [9] (fun iv wr => ∃ k : Nat, k ≤ n.len ∧ iv = .int .i64 k ∧ Hid (n.cutAt high = firstF (fun j => decide (high ≤ n.k j)) (n.len - k) k) ∧ Hid (Blk wr w.heap.size (ndCells n) 27) ∧ Hid (Below w.heap.size w wr)) (fun iv _ => 9 - (intOf iv).toNat)
    case atStart => exact ⟨0, Nat.zero_le _, rfl, Lib.hid rfl, HK1, HB1⟩
    case round =>
      obtain ⟨k, hk, rfl, HR, HKr, HBr⟩ := hrel
      have HLr := Lib.hid (ndLoad HKr.out)
      go_wp2_with (with_reducible refine wpList_load_part (o := ⟨some 17, _, _, _, _, _⟩) rfl 27 _ rfl w.heap.size 0 rfl (ndCells n) _ HLr.out Try.underlying27 rfl HI.out ?_)
      refine (HLn.out _).mono ?_
      rintro e w3 ⟨rfl, hB⟩
      have HK3 := Lib.hid (HKr.out.below hB HKr.out.lt)
      have HB3 := Lib.hid (HBr.out.trans (hB.mono HBr.out.size))
      clear hB
      by_cases hlt : k < n.len
      · have c1 : w3.cell? ⟨w.heap.size, 5 + k, none⟩ = some (.int .u64 (n.k k)) := by rw [HK3.out.cell, ndCells_k n k (by omega)]
        have hst := Lib.hid (HR.out.trans (firstF_step (fun j => decide (high ≤ n.k j)) n.len k hlt))
        obtain ⟨m, hm⟩ : ∃ m, n.len = m := ⟨_, rfl⟩
        have HMl := Lib.hid hm
        rw [hm] at h8 hlt hk ⊢
        obtain ⟨y, hy⟩ : ∃ y, n.k k = y := ⟨_, rfl⟩
        have HY := Lib.hid hy
        rw [hy] at c1
        have b1 : (k : Int) < (m : Int) := by omega
        have b2 : (k : Int) < 8 := by omega
        clear hm hy
        by_cases hq : high ≤ y
        · have hr2 := Lib.hid (hst.out.trans (if_pos (by simp only [HY.out]; exact decide_eq_true hq)))
          have HPt := Lib.hid (fun w => pt_b base k h0 s2 (by omega) w)
          obtain ⟨a1, ha1⟩ : ∃ x, base + 64 + 16 * (k : Int) + 8 = x := ⟨_, rfl⟩
          rw [ha1] at HPt
          have HE := Lib.hid (show cutE base n high = 0 ∧ cutP base n high = [(base + 24, cOne n)] ++ [(a1, 0)] ++ [(base + 24, cTwo n)] by
            have : cutE base n high = 0 := by rw [HCE.out, hr2.out, if_neg (by omega)]
            exact ⟨this, by unfold cutP; rw [if_pos this, hr2.out, ha1]; rfl⟩)
          have HKx := HK3
          have HBx := HB3
          obtain ⟨wB, rfl⟩ : ∃ x, x = w3 := ⟨_, rfl⟩
          clear ha1
          go_upto_region 8 with (fail)
          --GEN r_dcut
          refine wp_region_vals [Is (.int .u64 base), Is (.agg (ndCells n)), Is (.int .u64 base), Is (.int .i64 (k : Int)), Is (.int .u64 a1), Is (.agg #[.int .u64 a1, .int .u64 0]), RowB wB.heap.size [(a1, 0)], RowB wB.heap.size ([(base + 24, cOne n)] ++ [(a1, 0)] ++ [(base + 24, cTwo n)]), RowB wB.heap.size ([(base + 24, cOne n)] ++ [(a1, 0)] ++ [(base + 24, cTwo n)]), Is (.int .i64 0)]
            (fun _ W W' => Below W.heap.size W W') (fun _ W => Below wB.heap.size wB W) (by kernel_rfl) (by kernel_rfl) (by kernel_rfl) ?hst ?h0 ⟨?o0, ?o1, ?o2, ?o3, ?o4, ?o5, ?o6, ?o7, ?o8, ?o9, trivial⟩ ?he
          case hst =>
            exact ⟨(fun _ _ _ _ _ _ h _ => h), (fun _ _ _ _ _ _ h _ => h), (fun _ _ _ _ _ _ h _ => h), (fun _ _ _ _ _ _ h _ => h), (fun _ _ _ _ _ _ h _ => h), (fun _ _ _ _ _ _ h _ => h), (fun _ _ _ _ _ _ h hR => RowB.below h hR), (fun _ _ _ _ _ _ h hR => RowB.below h hR), (fun _ _ _ _ _ _ h hR => RowB.below h hR), (fun _ _ _ _ _ _ h _ => h), trivial⟩
          case h0 =>
            exact (Below.refl _ _).drew
          case o0 =>
            intro L vs A W H hf hd K hK
            have e0 : A.tmps[0]?.getD undef = .int .u64 base := H.old 0 (by kernel_rfl)
            go_simp
            exact hK _ _ (Below.refl _ _) rfl (H.glob)
          case o1 =>
            intro L vs A W H hf hd K hK
            have e4 : A.tmps[4]?.getD undef = .pointer (some ⟨w.heap.size, 0, none⟩) := H.old 4 (by kernel_rfl)
            rw [if_pos (show Region.wanted _ _ = true from rfl)]
            exact wp_load_nd _ rfl w.heap.size n (ev_tmp e4) (HKx.out.below H.glob HKx.out.lt) (hK _ _ (Below.refl _ _) rfl H.glob)
          case o2 =>
            intro L vs A W H hf hd K hK
            have e0 : A.tmps[0]?.getD undef = .int .u64 base := H.old 0 (by kernel_rfl)
            go_simp
            exact hK _ _ (Below.refl _ _) rfl (H.glob)
          case o3 =>
            intro L vs A W H hf hd K hK
            have e9 : A.tmps[9]?.getD undef = .int .i64 (k : Int) := H.old 9 (by kernel_rfl)
            go_simp
            exact hK _ _ (Below.refl _ _) rfl (H.glob)
          case o4 =>
            intro L vs A W H hf hd K hK
            have e30 := H.is 2 30 rfl rfl rfl (deps_of' hd 2 (by kernel_rfl)) (by kernel_rfl)
            have e31 := H.is 3 31 rfl rfl rfl (deps_of' hd 3 (by kernel_rfl)) (by kernel_rfl)
            rw [if_pos (show Region.wanted _ _ = true from rfl)]
            go_wp2_with (fail)
            refine (HPt.out _).mono ?_
            rintro e W2 ⟨rfl, rfl⟩
            exact hK _ _ (Below.refl _ _) rfl H.glob
          case o5 =>
            intro L vs A W H hf hd K hK
            have e32 := H.is 4 32 rfl rfl rfl (deps_of' hd 4 (by kernel_rfl)) (by kernel_rfl)
            go_simp
            exact hK _ _ (Below.refl _ _) rfl (H.glob)
          case o6 =>
            intro L vs A W H hf hd K hK
            have e33 := H.is 5 33 rfl rfl rfl (deps_of' hd 5 (by kernel_rfl)) (by kernel_rfl)
            have hgs := H.glob.size
            go_simp
            exact hK _ _ ((Below.refl _ _).alloc (Nat.le_refl _) _) (RowB.new (l := [(a1, 0)]) hgs) (H.glob.trans (((Below.refl _ _).alloc (Nat.le_refl _) _).mono H.glob.size))
          case o7 =>
            intro L vs A W H hf hd K hK
            have e28 := H.is 0 28 rfl rfl rfl (deps_of' hd 0 (by kernel_rfl)) (by kernel_rfl)
            have e29 := H.is 1 29 rfl rfl rfl (deps_of' hd 1 (by kernel_rfl)) (by kernel_rfl)
            obtain ⟨v34, e34, q34⟩ := H.val 6 34 rfl rfl rfl (deps_of' hd 6 (by kernel_rfl)) (by kernel_rfl)
            rw [if_pos (show Region.wanted _ _ = true from rfl)]
            go_wp2_with (fail)
            refine (whole_v base n [(a1, 0)] _ _ _ h0 s2 (by simp) q34).mono ?_
            rintro e W2 ⟨v, rfl, ho, hB⟩
            exact hK _ _ hB (ho.mono H.glob.size) (H.glob.trans (hB.mono H.glob.size))
          case o8 =>
            intro L vs A W H hf hd K hK
            obtain ⟨v35, e35, q35⟩ := H.val 7 35 rfl rfl rfl (deps_of' hd 7 (by kernel_rfl)) (by kernel_rfl)
            rw [if_pos (show Region.wanted _ _ = true from rfl)]
            go_simp
            exact hK _ _ (Below.refl _ _) q35 H.glob
          case o9 =>
            intro L vs A W H hf hd K hK
            go_simp
            exact hK _ _ (Below.refl _ _) rfl (H.glob)
          case he =>
            intro vs W hlen hv
            match vs, hlen, hv with
            | [x0_, x1_, x2_, x3_, x4_, x5_, x6_, x7_, x8_, x9_], _, hv =>
            obtain rfl : (.int .u64 base) = x0_ := by obtain ⟨z, h1, h2⟩ := hv 0 _ rfl; cases h1; exact h2.symm
            obtain rfl : (.agg (ndCells n)) = x1_ := by obtain ⟨z, h1, h2⟩ := hv 1 _ rfl; cases h1; exact h2.symm
            obtain rfl : (.int .u64 base) = x2_ := by obtain ⟨z, h1, h2⟩ := hv 2 _ rfl; cases h1; exact h2.symm
            obtain rfl : (.int .i64 (k : Int)) = x3_ := by obtain ⟨z, h1, h2⟩ := hv 3 _ rfl; cases h1; exact h2.symm
            obtain rfl : (.int .u64 a1) = x4_ := by obtain ⟨z, h1, h2⟩ := hv 4 _ rfl; cases h1; exact h2.symm
            obtain rfl : (.agg #[.int .u64 a1, .int .u64 0]) = x5_ := by obtain ⟨z, h1, h2⟩ := hv 5 _ rfl; cases h1; exact h2.symm
            have hx6 : (RowB wB.heap.size [(a1, 0)]) x6_ W := by obtain ⟨z, h1, h2⟩ := hv 6 _ rfl; cases h1; exact h2
            have hx7 : (RowB wB.heap.size ([(base + 24, cOne n)] ++ [(a1, 0)] ++ [(base + 24, cTwo n)])) x7_ W := by obtain ⟨z, h1, h2⟩ := hv 7 _ rfl; cases h1; exact h2
            have hx8 : (RowB wB.heap.size ([(base + 24, cOne n)] ++ [(a1, 0)] ++ [(base + 24, cTwo n)])) x8_ W := by obtain ⟨z, h1, h2⟩ := hv 8 _ rfl; cases h1; exact h2
            obtain rfl : (.int .i64 0) = x9_ := by obtain ⟨z, h1, h2⟩ := hv 9 _ rfl; cases h1; exact h2.symm
            intro L hall hG
            clear hv hlen
            have hx := hx8
            obtain ⟨a, m, c, rfl⟩ := own_slice hx
            have HD := Lib.hid (show MadeP (cutP base n high) 0 w (.returned (.tuple #[.slice a m c, .int .i64 0])) W from MadeP.row hx (HBx.out.trans (hG.mono HBx.out.size)) HBx.out.size HE.out.2.symm)
            clear hG hall hx6 hx7 hx8 hx
            simp only [fill, if_true]
            go_simp
            go_wp2_with (fail)
            go_ret2
            rw [HE.out.1]
            exact HD.out
          --END
        · have hr2 := Lib.hid (hst.out.trans (if_neg (by simp only [HY.out]; rw [decide_eq_false hq]; simp)))
          go_wp2_with (fail)
          go_roundw
          case rel => exact ⟨k + 1, by rw [HMl.out]; omega, by go_num, hr2, HK3, HB3⟩
          case measure => simp [intOf]; omega
      · have hf := Lib.hid (HR.out.trans (firstF_end _ n.len k (by omega)))
        have HE := Lib.hid (show cutE base n high = 5 ∧ cutP base n high = [] by
          have : cutE base n high = 5 := by rw [HCE.out, hf.out, if_pos (by omega)]
          exact ⟨this, by unfold cutP; rw [this]; rfl⟩)
        have b1 : ¬ (k : Int) < (n.len : Int) := by omega
        go_wp2_with (fail)
        go_ret2
        rw [HE.out.1, HE.out.2]
        exact MadeP.err HB3.out
  · have HP := Lib.hid (show cutE base n high = mayE base n ∧ cutP base n high = [] by
      have : cutE base n high = mayE base n := by unfold cutE; rw [if_pos hm]
      exact ⟨this, by unfold cutP; rw [this, if_neg hm]⟩)
    obtain ⟨M, hM⟩ : ∃ M, mayE base n = M := ⟨_, rfl⟩
    rw [hM] at HM HP
    have q1 : (M != 0) = true := by rw [bne_iff_ne, ← hM]; exact hm
    clear hm hM
    go_enter Try.func37, Try.ntmps37
    go_wp2_with (with_reducible refine wpList_load_part (o := ⟨some 11, _, _, _, _, _⟩) rfl 27 _ rfl w.heap.size 0 rfl (ndCells n) _ HL0.out Try.underlying27 rfl HI.out ?_)
    refine (HM.out _).mono ?_
    rintro e w1 ⟨rfl, hB⟩
    have HK1 := Lib.hid (HK0.out.below hB HK0.out.lt)
    have HL1 := Lib.hid (ndLoad HK1.out)
    have HB1 := Lib.hid (HB0.out.trans (hB.mono HB0.out.size))
    clear hB
    go_wp2_with (fail)
    go_ret2
    rw [HP.out.1, HP.out.2]
    exact MadeP.err HB1.out

/-! ### Repair, Delete -/
theorem RowB.keepApp {B N : Nat} {l : List (Int × Int)} {v v0 : Value} {w w' : World} (h : RowB B l v w) (hR : Keeps (fun g => N = N ∧ v0.ownBlock = some g) w w') (hn0 : ∀ g, v0.ownBlock = some g → g < B) : RowB B l v w' := by
  obtain ⟨hl, h0 | ⟨g, cap, cur, hv, hb, hg, h1⟩⟩ := h
  · exact ⟨hl, .inl h0⟩
  · exact ⟨hl, .inr ⟨g, cap, cur, hv, hb, (hR.block g (Array.getElem?_eq_some_iff.1 hg).1 (fun hx => by have := hn0 g hx.2; omega)).trans hg, h1⟩⟩
theorem row_app {B : Nat} {l0 l : List (Int × Int)} {v : Value} {W : World} (h : W.ownsRow B 36 2 v (l0.length + l.length) (ecells l0 ++ ecells l)) : RowB B (l0 ++ l) v W := by
  unfold RowB
  rw [ecells_app, List.length_append]
  exact h
set_option maxRecDepth 100000 in
set_option maxHeartbeats 3200000 in
theorem repair_d (base : Int) (n : Nd) (h0 : 0 ≤ base) (w : World) :
    Calls Try.prog 35 #[.int .u64 base, .agg (ndCells n)] w fun e w' => MadeP (repP base n) (repE base n) w e w' := by
  have HI := Lib.hid (info27 n)
  have hk0 : Blk (w.alloc (.cells (ndCells n) 27)) w.heap.size (ndCells n) 27 := Blk.new w _ _
  have HK0 := Lib.hid hk0
  have HL0 := Lib.hid (ndLoad hk0)
  have HB0 := Lib.hid ((Below.refl w.heap.size w).alloc (Nat.le_refl _) (.cells (ndCells n) 27))
  have HM := Lib.hid (fun w => rmay_v base n h0 w)
  clear hk0
  rcases mayE_val base n with hm | hm | ⟨hm, ⟨s1, s2, s3⟩, _, hinv⟩
  · have HE := Lib.hid (show repE base n = 7 ∧ repP base n = [] by
      have : repE base n = 7 := by unfold repE; rw [if_neg (by omega), if_pos hm]
      exact ⟨this, by unfold repP; rw [this]; rfl⟩)
    rw [hm] at HM
    clear hm
    go_enter Try.func35, Try.ntmps35
    go_wp2_with (with_reducible refine wpList_load_part (o := ⟨some 8, _, _, _, _, _⟩) rfl 27 _ rfl w.heap.size 0 rfl (ndCells n) _ HL0.out Try.underlying27 rfl HI.out ?_)
    refine (HM.out _).mono ?_
    rintro e w1 ⟨rfl, hB⟩
    have HK1 := Lib.hid (HK0.out.below hB HK0.out.lt)
    have HL1 := Lib.hid (ndLoad HK1.out)
    have HB1 := Lib.hid (HB0.out.trans (hB.mono HB0.out.size))
    clear hB
    go_wp2_with (fail)
    go_ret2
    rw [HE.out.1, HE.out.2]
    exact MadeP.err HB1.out
  · have HE := Lib.hid (show repE base n = 2 ∧ repP base n = [] by
      have : repE base n = 2 := by unfold repE; rw [if_pos hm]
      exact ⟨this, by unfold repP; rw [this]; rfl⟩)
    rw [hm] at HM
    clear hm
    go_enter Try.func35, Try.ntmps35
    go_wp2_with (with_reducible refine wpList_load_part (o := ⟨some 8, _, _, _, _, _⟩) rfl 27 _ rfl w.heap.size 0 rfl (ndCells n) _ HL0.out Try.underlying27 rfl HI.out ?_)
    refine (HM.out _).mono ?_
    rintro e w1 ⟨rfl, hB⟩
    have HK1 := Lib.hid (HK0.out.below hB HK0.out.lt)
    have HL1 := Lib.hid (ndLoad HK1.out)
    have HB1 := Lib.hid (HB0.out.trans (hB.mono HB0.out.size))
    clear hB
    go_wp2_with (fail)
    go_ret2
    rw [HE.out.1, HE.out.2]
    exact MadeP.err HB1.out
  · obtain ⟨p, hp, hlt⟩ := inval_lt n hinv
    have h8 := n.len_le
    obtain ⟨q, hq⟩ : ∃ q, n.len = q + 1 := ⟨n.len - 1, by omega⟩
    obtain ⟨lg, hlg⟩ : ∃ l, gapL base n p (q - p) ++ [(base + 64 + 16 * (q : Int) + 8, 0)] = l := ⟨_, rfl⟩
    have HE := Lib.hid (show repE base n = 0 ∧ repP base n = [(base + 24, cOne n)] ++ lg ++ [(base + 24, cTwo n)] by
      have : repE base n = 0 := by unfold repE; rw [if_neg (by omega), if_neg (by omega)]
      refine ⟨this, ?_⟩
      unfold repP repL
      rw [if_pos this, hp, hq, ← hlg]
      simp)
    have HGap := Lib.hid (fun w => gap_v base n p q hq (by omega) w h0 s2)
    have HLg := Lib.hid (show lg.length ≤ 1000 by rw [← hlg, List.length_append, gapL_len]; simp; omega)
    have HIv := Lib.hid (fun w => rinvalid_calls n w)
    rw [hlg] at HGap
    rw [← inval_eq, hp] at HIv
    rw [hm] at HM
    clear hm s3 hp hlt h8 hq hinv hlg
    go_enter Try.func35, Try.ntmps35
    go_wp2_with (with_reducible refine wpList_load_part (o := ⟨some 8, _, _, _, _, _⟩) rfl 27 _ rfl w.heap.size 0 rfl (ndCells n) _ HL0.out Try.underlying27 rfl HI.out ?_)
    refine (HM.out _).mono ?_
    rintro e w1 ⟨rfl, hB⟩
    have HK1 := Lib.hid (HK0.out.below hB HK0.out.lt)
    have HL1 := Lib.hid (ndLoad HK1.out)
    have HB1 := Lib.hid (HB0.out.trans (hB.mono HB0.out.size))
    clear hB
    have HKx := HK1
    have HBx := HB1
    obtain ⟨wB, rfl⟩ : ∃ x, x = w1 := ⟨_, rfl⟩
    go_upto_region 6 with (fail)
    --GEN r_drep
    refine wp_region_vals [Is (.int .u64 base), Is (.agg (ndCells n)), Is (.int .u64 base), Is (.agg (ndCells n)), Is (.agg (ndCells n)), Is (.int .i64 p), RowB wB.heap.size lg, RowB wB.heap.size ([(base + 24, cOne n)] ++ lg ++ [(base + 24, cTwo n)]), RowB wB.heap.size ([(base + 24, cOne n)] ++ lg ++ [(base + 24, cTwo n)]), Is (.int .i64 0)]
      (fun _ W W' => Below W.heap.size W W') (fun _ W => Below wB.heap.size wB W) (by kernel_rfl) (by kernel_rfl) (by kernel_rfl) ?hst ?h0 ⟨?o0, ?o1, ?o2, ?o3, ?o4, ?o5, ?o6, ?o7, ?o8, ?o9, trivial⟩ ?he
    case hst =>
      exact ⟨(fun _ _ _ _ _ _ h _ => h), (fun _ _ _ _ _ _ h _ => h), (fun _ _ _ _ _ _ h _ => h), (fun _ _ _ _ _ _ h _ => h), (fun _ _ _ _ _ _ h _ => h), (fun _ _ _ _ _ _ h _ => h), (fun _ _ _ _ _ _ h hR => RowB.below h hR), (fun _ _ _ _ _ _ h hR => RowB.below h hR), (fun _ _ _ _ _ _ h hR => RowB.below h hR), (fun _ _ _ _ _ _ h _ => h), trivial⟩
    case h0 =>
      exact (Below.refl _ _).drew
    case o0 =>
      intro L vs A W H hf hd K hK
      have e0 : A.tmps[0]?.getD undef = .int .u64 base := H.old 0 (by kernel_rfl)
      go_simp
      exact hK _ _ (Below.refl _ _) rfl (H.glob)
    case o1 =>
      intro L vs A W H hf hd K hK
      have e3 : A.tmps[3]?.getD undef = .pointer (some ⟨w.heap.size, 0, none⟩) := H.old 3 (by kernel_rfl)
      rw [if_pos (show Region.wanted _ _ = true from rfl)]
      exact wp_load_nd _ rfl w.heap.size n (ev_tmp e3) (HKx.out.below H.glob HKx.out.lt) (hK _ _ (Below.refl _ _) rfl H.glob)
    case o2 =>
      intro L vs A W H hf hd K hK
      have e0 : A.tmps[0]?.getD undef = .int .u64 base := H.old 0 (by kernel_rfl)
      go_simp
      exact hK _ _ (Below.refl _ _) rfl (H.glob)
    case o3 =>
      intro L vs A W H hf hd K hK
      have e3 : A.tmps[3]?.getD undef = .pointer (some ⟨w.heap.size, 0, none⟩) := H.old 3 (by kernel_rfl)
      rw [if_pos (show Region.wanted _ _ = true from rfl)]
      exact wp_load_nd _ rfl w.heap.size n (ev_tmp e3) (HKx.out.below H.glob HKx.out.lt) (hK _ _ (Below.refl _ _) rfl H.glob)
    case o4 =>
      intro L vs A W H hf hd K hK
      have e3 : A.tmps[3]?.getD undef = .pointer (some ⟨w.heap.size, 0, none⟩) := H.old 3 (by kernel_rfl)
      rw [if_pos (show Region.wanted _ _ = true from rfl)]
      exact wp_load_nd _ rfl w.heap.size n (ev_tmp e3) (HKx.out.below H.glob HKx.out.lt) (hK _ _ (Below.refl _ _) rfl H.glob)
    case o5 =>
      intro L vs A W H hf hd K hK
      have e18 := H.is 4 18 rfl rfl rfl (deps_of' hd 4 (by kernel_rfl)) (by kernel_rfl)
      rw [if_pos (show Region.wanted _ _ = true from rfl)]
      go_wp2_with (fail)
      refine (HIv.out _).mono ?_
      rintro e W2 ⟨rfl, hB⟩
      exact hK _ _ hB rfl (H.glob.trans (hB.mono H.glob.size))
    case o6 =>
      intro L vs A W H hf hd K hK
      have e16 := H.is 2 16 rfl rfl rfl (deps_of' hd 2 (by kernel_rfl)) (by kernel_rfl)
      have e17 := H.is 3 17 rfl rfl rfl (deps_of' hd 3 (by kernel_rfl)) (by kernel_rfl)
      have e19 := H.is 5 19 rfl rfl rfl (deps_of' hd 5 (by kernel_rfl)) (by kernel_rfl)
      rw [if_pos (show Region.wanted _ _ = true from rfl)]
      go_wp2_with (fail)
      refine (HGap.out _).mono ?_
      rintro e W2 ⟨v, rfl, ho, hB⟩
      exact hK _ _ hB (ho.mono H.glob.size) (H.glob.trans (hB.mono H.glob.size))
    case o7 =>
      intro L vs A W H hf hd K hK
      have e14 := H.is 0 14 rfl rfl rfl (deps_of' hd 0 (by kernel_rfl)) (by kernel_rfl)
      have e15 := H.is 1 15 rfl rfl rfl (deps_of' hd 1 (by kernel_rfl)) (by kernel_rfl)
      obtain ⟨v20, e20, q20⟩ := H.val 6 20 rfl rfl rfl (deps_of' hd 6 (by kernel_rfl)) (by kernel_rfl)
      rw [if_pos (show Region.wanted _ _ = true from rfl)]
      go_wp2_with (fail)
      refine (whole_v base n lg _ _ _ h0 s2 HLg.out q20).mono ?_
      rintro e W2 ⟨v, rfl, ho, hB⟩
      exact hK _ _ hB (ho.mono H.glob.size) (H.glob.trans (hB.mono H.glob.size))
    case o8 =>
      intro L vs A W H hf hd K hK
      obtain ⟨v21, e21, q21⟩ := H.val 7 21 rfl rfl rfl (deps_of' hd 7 (by kernel_rfl)) (by kernel_rfl)
      rw [if_pos (show Region.wanted _ _ = true from rfl)]
      go_simp
      exact hK _ _ (Below.refl _ _) q21 H.glob
    case o9 =>
      intro L vs A W H hf hd K hK
      go_simp
      exact hK _ _ (Below.refl _ _) rfl (H.glob)
    case he =>
      intro vs W hlen hv
      match vs, hlen, hv with
      | [x0_, x1_, x2_, x3_, x4_, x5_, x6_, x7_, x8_, x9_], _, hv =>
      obtain rfl : (.int .u64 base) = x0_ := by obtain ⟨z, h1, h2⟩ := hv 0 _ rfl; cases h1; exact h2.symm
      obtain rfl : (.agg (ndCells n)) = x1_ := by obtain ⟨z, h1, h2⟩ := hv 1 _ rfl; cases h1; exact h2.symm
      obtain rfl : (.int .u64 base) = x2_ := by obtain ⟨z, h1, h2⟩ := hv 2 _ rfl; cases h1; exact h2.symm
      obtain rfl : (.agg (ndCells n)) = x3_ := by obtain ⟨z, h1, h2⟩ := hv 3 _ rfl; cases h1; exact h2.symm
      obtain rfl : (.agg (ndCells n)) = x4_ := by obtain ⟨z, h1, h2⟩ := hv 4 _ rfl; cases h1; exact h2.symm
      obtain rfl : (.int .i64 p) = x5_ := by obtain ⟨z, h1, h2⟩ := hv 5 _ rfl; cases h1; exact h2.symm
      have hx6 : (RowB wB.heap.size lg) x6_ W := by obtain ⟨z, h1, h2⟩ := hv 6 _ rfl; cases h1; exact h2
      have hx7 : (RowB wB.heap.size ([(base + 24, cOne n)] ++ lg ++ [(base + 24, cTwo n)])) x7_ W := by obtain ⟨z, h1, h2⟩ := hv 7 _ rfl; cases h1; exact h2
      have hx8 : (RowB wB.heap.size ([(base + 24, cOne n)] ++ lg ++ [(base + 24, cTwo n)])) x8_ W := by obtain ⟨z, h1, h2⟩ := hv 8 _ rfl; cases h1; exact h2
      obtain rfl : (.int .i64 0) = x9_ := by obtain ⟨z, h1, h2⟩ := hv 9 _ rfl; cases h1; exact h2.symm
      intro L hall hG
      clear hv hlen
      have hx := hx8
      obtain ⟨a, m, c, rfl⟩ := own_slice hx
      have HD := Lib.hid (show MadeP (repP base n) 0 w (.returned (.tuple #[.slice a m c, .int .i64 0])) W from MadeP.row hx (HBx.out.trans (hG.mono HBx.out.size)) HBx.out.size HE.out.2.symm)
      clear hG hall hx6 hx7 hx8 hx
      simp only [fill, if_true]
      go_simp
      go_wp2_with (fail)
      go_ret2
      rw [HE.out.1]
      exact HD.out
    --END

set_option maxRecDepth 100000 in
set_option maxHeartbeats 6400000 in
theorem delete_d (base : Int) (n : Nd) (key : Int) (h0 : 0 ≤ base) (w : World) :
    Calls Try.prog 34 #[.int .u64 base, .agg (ndCells n), .int .u64 key] w fun e w' => MadeP (delP base n key) (delE base n key) w e w' := by
  have HI := Lib.hid (info27 n)
  have hk0 : Blk (w.alloc (.cells (ndCells n) 27)) w.heap.size (ndCells n) 27 := Blk.new w _ _
  have HK0 := Lib.hid hk0
  have HL0 := Lib.hid (ndLoad hk0)
  have HB0 := Lib.hid ((Below.refl w.heap.size w).alloc (Nat.le_refl _) (.cells (ndCells n) 27))
  have HM := Lib.hid (fun w => rmay_v base n h0 w)
  clear hk0
  by_cases hm : mayE base n = 0
  · obtain ⟨⟨s1, s2, s3⟩, _, _⟩ := mayE_stands hm
    have HFd := Lib.hid (fun w => rfind_calls n key w)
    rw [hm] at HM
    by_cases hf : n.find key < 0
    · have HE := Lib.hid (show delE base n key = 5 ∧ delP base n key = [] by
        have : delE base n key = 5 := by unfold delE; rw [if_neg (by omega), if_pos hf]
        exact ⟨this, by unfold delP; rw [this]; rfl⟩)
      obtain ⟨fi, hfi⟩ : ∃ z, n.find key = z := ⟨_, rfl⟩
      rw [hfi] at HFd hf
      clear hm s3 hfi
      go_enter Try.func34, Try.ntmps34
      go_wp2_with (with_reducible refine wpList_load_part (o := ⟨some 12, _, _, _, _, _⟩) rfl 27 _ rfl w.heap.size 0 rfl (ndCells n) _ HL0.out Try.underlying27 rfl HI.out ?_)
      refine (HM.out _).mono ?_
      rintro e w1 ⟨rfl, hB⟩
      have HK1 := Lib.hid (HK0.out.below hB HK0.out.lt)
      have HL1 := Lib.hid (ndLoad HK1.out)
      have HB1 := Lib.hid (HB0.out.trans (hB.mono HB0.out.size))
      clear hB
      go_wp2_with (with_reducible refine wpList_load_part (o := ⟨some 17, _, _, _, _, _⟩) rfl 27 _ rfl w.heap.size 0 rfl (ndCells n) _ HL1.out Try.underlying27 rfl HI.out ?_)
      refine (HFd.out _).mono ?_
      rintro e w2 ⟨rfl, hB⟩
      have HK2 := Lib.hid (HK1.out.below hB HK1.out.lt)
      have HL2 := Lib.hid (ndLoad HK2.out)
      have HB2 := Lib.hid (HB1.out.trans (hB.mono HB1.out.size))
      clear hB
      go_wp2_with (fail)
      go_ret2
      rw [HE.out.1, HE.out.2]
      exact MadeP.err HB2.out
    · obtain ⟨at_, hat, hlt⟩ := find_lt n key (by omega)
      have h8 := n.len_le
      obtain ⟨q, hq⟩ : ∃ q, n.len = q + 1 := ⟨n.len - 1, by omega⟩
      obtain ⟨i0, hi, hz0, hz1, hz2⟩ := info_parts Try.info36
      obtain ⟨lg, hlg⟩ : ∃ l, gapL base n at_ (q - at_) ++ [(base + 64 + 16 * (q : Int) + 8, 0)] = l := ⟨_, rfl⟩
      obtain ⟨a1, ha1⟩ : ∃ x, base + 64 + 16 * (at_ : Int) + 8 = x := ⟨_, rfl⟩
      obtain ⟨ax, hax⟩ : ∃ x, n.ahead at_ = x := ⟨_, rfl⟩
      obtain ⟨l0, hl0⟩ : ∃ l, [(a1, ax)] = l := ⟨_, rfl⟩
      have HE := Lib.hid (show delE base n key = 0 ∧ delP base n key = [(base + 24, cOne n)] ++ (l0 ++ lg) ++ [(base + 24, cTwo n)] by
        have : delE base n key = 0 := by unfold delE; rw [if_neg (by omega), if_neg hf]
        refine ⟨this, ?_⟩
        unfold delP delL
        rw [if_pos this, hat, hq, ← hl0, ← hlg]
        simp [ha1, hax])
      have HGap := Lib.hid (fun w => gap_v base n at_ q hq (by omega) w h0 s2)
      have HLl := Lib.hid (show l0.length ≤ 100 ∧ lg.length ≤ 100 by rw [← hlg, ← hl0, List.length_append, gapL_len]; simp; omega)
      have HLw := Lib.hid (show (l0 ++ lg).length ≤ 1000 by rw [List.length_append]; have := HLl.out; omega)
      have HPt := Lib.hid (fun w => pt_b base at_ h0 s2 (by omega) w)
      have HAh := Lib.hid (fun w => rahead_v n at_ (by omega) w)
      rw [hlg] at HGap
      rw [ha1] at HPt
      rw [hax] at HAh
      rw [hat] at HFd
      have q1 : ¬ (at_ : Int) < 0 := by omega
      have HL0e := Lib.hid hl0
      clear hm s3 hat hlt h8 hq hlg ha1 hax hf hl0
      go_enter Try.func34, Try.ntmps34
      go_wp2_with (with_reducible refine wpList_load_part (o := ⟨some 12, _, _, _, _, _⟩) rfl 27 _ rfl w.heap.size 0 rfl (ndCells n) _ HL0.out Try.underlying27 rfl HI.out ?_)
      refine (HM.out _).mono ?_
      rintro e w1 ⟨rfl, hB⟩
      have HK1 := Lib.hid (HK0.out.below hB HK0.out.lt)
      have HL1 := Lib.hid (ndLoad HK1.out)
      have HB1 := Lib.hid (HB0.out.trans (hB.mono HB0.out.size))
      clear hB
      go_wp2_with (with_reducible refine wpList_load_part (o := ⟨some 17, _, _, _, _, _⟩) rfl 27 _ rfl w.heap.size 0 rfl (ndCells n) _ HL1.out Try.underlying27 rfl HI.out ?_)
      refine (HFd.out _).mono ?_
      rintro e w2 ⟨rfl, hB⟩
      have HK2 := Lib.hid (HK1.out.below hB HK1.out.lt)
      have HL2 := Lib.hid (ndLoad HK2.out)
      have HB2 := Lib.hid (HB1.out.trans (hB.mono HB1.out.size))
      clear hB
      have HKx := HK2
      have HBx := HB2
      obtain ⟨wB, rfl⟩ : ∃ x, x = w2 := ⟨_, rfl⟩
      go_upto_region 7 with (fail)
      --GEN r_ddel7
      refine wp_region_vals [Is (.int .u64 base), Is (.int .i64 (at_ : Int)), Is (.int .u64 a1), Is (.agg (ndCells n)), Is (.int .i64 (at_ : Int)), Is (.int .u64 ax), Is (.agg #[.int .u64 a1, .int .u64 ax]), RowB wB.heap.size [(a1, ax)], RowB wB.heap.size [(a1, ax)]]
        (fun _ W W' => Below W.heap.size W W') (fun _ W => Below wB.heap.size wB W) (by kernel_rfl) (by kernel_rfl) (by kernel_rfl) ?hst ?h0 ⟨?o0, ?o1, ?o2, ?o3, ?o4, ?o5, ?o6, ?o7, ?o8, trivial⟩ ?he
      case hst =>
        exact ⟨(fun _ _ _ _ _ _ h _ => h), (fun _ _ _ _ _ _ h _ => h), (fun _ _ _ _ _ _ h _ => h), (fun _ _ _ _ _ _ h _ => h), (fun _ _ _ _ _ _ h _ => h), (fun _ _ _ _ _ _ h _ => h), (fun _ _ _ _ _ _ h _ => h), (fun _ _ _ _ _ _ h hR => RowB.below h hR), (fun _ _ _ _ _ _ h hR => RowB.below h hR), trivial⟩
      case h0 =>
        exact (Below.refl _ _).drew
      case o0 =>
        intro L vs A W H hf hd K hK
        have e0 : A.tmps[0]?.getD undef = .int .u64 base := H.old 0 (by kernel_rfl)
        go_simp
        exact hK _ _ (Below.refl _ _) rfl (H.glob)
      case o1 =>
        intro L vs A W H hf hd K hK
        have e9 : A.tmps[9]?.getD undef = .int .i64 (at_ : Int) := H.old 9 (by kernel_rfl)
        go_simp
        exact hK _ _ (Below.refl _ _) rfl (H.glob)
      case o2 =>
        intro L vs A W H hf hd K hK
        have e22 := H.is 0 22 rfl rfl rfl (deps_of' hd 0 (by kernel_rfl)) (by kernel_rfl)
        have e23 := H.is 1 23 rfl rfl rfl (deps_of' hd 1 (by kernel_rfl)) (by kernel_rfl)
        rw [if_pos (show Region.wanted _ _ = true from rfl)]
        go_wp2_with (fail)
        refine (HPt.out _).mono ?_
        rintro e W2 ⟨rfl, rfl⟩
        exact hK _ _ (Below.refl _ _) rfl H.glob
      case o3 =>
        intro L vs A W H hf hd K hK
        have e4 : A.tmps[4]?.getD undef = .pointer (some ⟨w.heap.size, 0, none⟩) := H.old 4 (by kernel_rfl)
        rw [if_pos (show Region.wanted _ _ = true from rfl)]
        exact wp_load_nd _ rfl w.heap.size n (ev_tmp e4) (HKx.out.below H.glob HKx.out.lt) (hK _ _ (Below.refl _ _) rfl H.glob)
      case o4 =>
        intro L vs A W H hf hd K hK
        have e9 : A.tmps[9]?.getD undef = .int .i64 (at_ : Int) := H.old 9 (by kernel_rfl)
        go_simp
        exact hK _ _ (Below.refl _ _) rfl (H.glob)
      case o5 =>
        intro L vs A W H hf hd K hK
        have e25 := H.is 3 25 rfl rfl rfl (deps_of' hd 3 (by kernel_rfl)) (by kernel_rfl)
        have e26 := H.is 4 26 rfl rfl rfl (deps_of' hd 4 (by kernel_rfl)) (by kernel_rfl)
        rw [if_pos (show Region.wanted _ _ = true from rfl)]
        go_wp2_with (fail)
        refine (HAh.out _).mono ?_
        rintro e W2 ⟨rfl, hB⟩
        exact hK _ _ hB rfl (H.glob.trans (hB.mono H.glob.size))
      case o6 =>
        intro L vs A W H hf hd K hK
        have e24 := H.is 2 24 rfl rfl rfl (deps_of' hd 2 (by kernel_rfl)) (by kernel_rfl)
        have e27 := H.is 5 27 rfl rfl rfl (deps_of' hd 5 (by kernel_rfl)) (by kernel_rfl)
        go_simp
        exact hK _ _ (Below.refl _ _) rfl (H.glob)
      case o7 =>
        intro L vs A W H hf hd K hK
        have e28 := H.is 6 28 rfl rfl rfl (deps_of' hd 6 (by kernel_rfl)) (by kernel_rfl)
        have hgs := H.glob.size
        go_simp
        exact hK _ _ ((Below.refl _ _).alloc (Nat.le_refl _) _) (RowB.new (l := [(a1, ax)]) hgs) (H.glob.trans (((Below.refl _ _).alloc (Nat.le_refl _) _).mono H.glob.size))
      case o8 =>
        intro L vs A W H hf hd K hK
        obtain ⟨v29, e29, q29⟩ := H.val 7 29 rfl rfl rfl (deps_of' hd 7 (by kernel_rfl)) (by kernel_rfl)
        rw [if_pos (show Region.wanted _ _ = true from rfl)]
        go_simp
        exact hK _ _ (Below.refl _ _) q29 H.glob
      case he =>
        intro vs W hlen hv
        match vs, hlen, hv with
        | [x0_, x1_, x2_, x3_, x4_, x5_, x6_, x7_, x8_], _, hv =>
        obtain rfl : (.int .u64 base) = x0_ := by obtain ⟨z, h1, h2⟩ := hv 0 _ rfl; cases h1; exact h2.symm
        obtain rfl : (.int .i64 (at_ : Int)) = x1_ := by obtain ⟨z, h1, h2⟩ := hv 1 _ rfl; cases h1; exact h2.symm
        obtain rfl : (.int .u64 a1) = x2_ := by obtain ⟨z, h1, h2⟩ := hv 2 _ rfl; cases h1; exact h2.symm
        obtain rfl : (.agg (ndCells n)) = x3_ := by obtain ⟨z, h1, h2⟩ := hv 3 _ rfl; cases h1; exact h2.symm
        obtain rfl : (.int .i64 (at_ : Int)) = x4_ := by obtain ⟨z, h1, h2⟩ := hv 4 _ rfl; cases h1; exact h2.symm
        obtain rfl : (.int .u64 ax) = x5_ := by obtain ⟨z, h1, h2⟩ := hv 5 _ rfl; cases h1; exact h2.symm
        obtain rfl : (.agg #[.int .u64 a1, .int .u64 ax]) = x6_ := by obtain ⟨z, h1, h2⟩ := hv 6 _ rfl; cases h1; exact h2.symm
        have hx7 : (RowB wB.heap.size [(a1, ax)]) x7_ W := by obtain ⟨z, h1, h2⟩ := hv 7 _ rfl; cases h1; exact h2
        have hx8 : (RowB wB.heap.size [(a1, ax)]) x8_ W := by obtain ⟨z, h1, h2⟩ := hv 8 _ rfl; cases h1; exact h2
        intro L hall hG
        clear hv hlen
        have hx := hx8
        have HBy := Lib.hid (HBx.out.trans (hG.mono HBx.out.size))
        have HKy := Lib.hid (HKx.out.below hG HKx.out.lt)
        have HO := Lib.hid hx
        have HwR := Lib.hid (show wB.heap.size ≤ W.heap.size from hG.size)
        have hn0 : ∀ g, x8_.ownBlock = some g → g < W.heap.size := fun g e => (World.ownsRow.lt hx g e).2
        obtain ⟨v0, rfl⟩ : ∃ v, v = x8_ := ⟨_, rfl⟩
        clear hG hall hx7 hx8 hx
        simp only [fill, if_true]
        go_simp
      --END
        rw [HL0e.out] at HO
        have HwK := Lib.hid (show w.heap.size < wB.heap.size from HKx.out.lt)
        obtain ⟨wC, rfl⟩ : ∃ x, x = W := ⟨_, rfl⟩
        go_upto_region 8 with (fail)
        --GEN r_ddel8
        refine wp_region_vals [Is (.int .u64 base), Is (.agg (ndCells n)), Is v0, Is (.int .u64 base), Is (.agg (ndCells n)), Is (.int .i64 (at_ : Int)), RowB wC.heap.size lg, RowB wB.heap.size (l0 ++ lg), RowB wC.heap.size ([(base + 24, cOne n)] ++ (l0 ++ lg) ++ [(base + 24, cTwo n)]), RowB wC.heap.size ([(base + 24, cOne n)] ++ (l0 ++ lg) ++ [(base + 24, cTwo n)]), Is (.int .i64 0)]
          (fun i => Keeps (fun g => i = 7 ∧ v0.ownBlock = some g)) (fun L W => (L 7 = true ∨ RowB wB.heap.size l0 v0 W) ∧ Below wB.heap.size wC W) (by kernel_rfl) (by kernel_rfl) (by kernel_rfl) ?hst ?h0 ⟨?o0, ?o1, ?o2, ?o3, ?o4, ?o5, ?o6, ?o7, ?o8, ?o9, ?o10, trivial⟩ ?he
        case hst =>
          exact ⟨(fun _ _ _ _ _ _ h _ => h), (fun _ _ _ _ _ _ h _ => h), (fun _ _ _ _ _ _ h _ => h), (fun _ _ _ _ _ _ h _ => h), (fun _ _ _ _ _ _ h _ => h), (fun _ _ _ _ _ _ h _ => h), (fun i2 hij hw _ _ _ h hR => (if hA : i2 = 7 then by (subst hA; exact RowB.keepApp h hR hn0) else RowB.below h (Keeps.below (hR.mono (fun _ _ hx => hA hx.1))))), (fun i2 hij hw _ _ _ h hR => (if hA : i2 = 7 then by (subst hA; exact absurd rfl hij) else RowB.below h (Keeps.below (hR.mono (fun _ _ hx => hA hx.1))))), (fun i2 hij hw _ _ _ h hR => (if hA : i2 = 7 then by (subst hA; exact by (have h3 : false = true := hw.symm.trans (by kernel_rfl); cases h3)) else RowB.below h (Keeps.below (hR.mono (fun _ _ hx => hA hx.1))))), (fun i2 hij hw _ _ _ h hR => (if hA : i2 = 7 then by (subst hA; exact by (have h3 : false = true := hw.symm.trans (by kernel_rfl); cases h3)) else RowB.below h (Keeps.below (hR.mono (fun _ _ hx => hA hx.1))))), (fun _ _ _ _ _ _ h _ => h), trivial⟩
        case h0 =>
          exact ⟨.inr (HO.out.below (Below.refl _ _).drew), (Below.refl _ _).drew⟩
        case o0 =>
          intro L vs A W H hf hd K hK
          have e0 : A.tmps[0]?.getD undef = .int .u64 base := H.old 0 (by kernel_rfl)
          go_simp
          exact hK _ _ (Keeps.refl _ _) rfl (H.glob)
        case o1 =>
          intro L vs A W H hf hd K hK
          have e4 : A.tmps[4]?.getD undef = .pointer (some ⟨w.heap.size, 0, none⟩) := H.old 4 (by kernel_rfl)
          rw [if_pos (show Region.wanted _ _ = true from rfl)]
          exact wp_load_nd _ rfl w.heap.size n (ev_tmp e4) (HKy.out.below H.glob.2 HwK.out) (hK _ _ (Keeps.refl _ _) rfl H.glob)
        case o2 =>
          intro L vs A W H hf hd K hK
          have e10 : A.tmps[10]?.getD undef = v0 := H.old 10 (by kernel_rfl)
          go_simp
          exact hK _ _ (Keeps.refl _ _) rfl (H.glob)
        case o3 =>
          intro L vs A W H hf hd K hK
          have e0 : A.tmps[0]?.getD undef = .int .u64 base := H.old 0 (by kernel_rfl)
          go_simp
          exact hK _ _ (Keeps.refl _ _) rfl (H.glob)
        case o4 =>
          intro L vs A W H hf hd K hK
          have e4 : A.tmps[4]?.getD undef = .pointer (some ⟨w.heap.size, 0, none⟩) := H.old 4 (by kernel_rfl)
          rw [if_pos (show Region.wanted _ _ = true from rfl)]
          exact wp_load_nd _ rfl w.heap.size n (ev_tmp e4) (HKy.out.below H.glob.2 HwK.out) (hK _ _ (Keeps.refl _ _) rfl H.glob)
        case o5 =>
          intro L vs A W H hf hd K hK
          have e9 : A.tmps[9]?.getD undef = .int .i64 (at_ : Int) := H.old 9 (by kernel_rfl)
          go_simp
          exact hK _ _ (Keeps.refl _ _) rfl (H.glob)
        case o6 =>
          intro L vs A W H hf hd K hK
          have e33 := H.is 3 33 rfl rfl rfl (deps_of' hd 3 (by kernel_rfl)) (by kernel_rfl)
          have e34 := H.is 4 34 rfl rfl rfl (deps_of' hd 4 (by kernel_rfl)) (by kernel_rfl)
          have e35 := H.is 5 35 rfl rfl rfl (deps_of' hd 5 (by kernel_rfl)) (by kernel_rfl)
          rw [if_pos (show Region.wanted _ _ = true from rfl)]
          go_wp2_with (fail)
          refine (HGap.out _).mono ?_
          rintro e W2 ⟨v, rfl, ho, hB⟩
          exact hK _ _ (Keeps.of_belowS hB) (ho.mono H.glob.2.size) ⟨(by rcases H.glob.1 with h | h; (exact .inl h); exact .inr (h.below hB)), H.glob.2.trans (hB.mono (Nat.le_trans HwR.out H.glob.2.size))⟩
        case o7 =>
          intro L vs A W H hf hd K hK
          have e32 := H.is 2 32 rfl rfl rfl (deps_of' hd 2 (by kernel_rfl)) (by kernel_rfl)
          obtain ⟨v36, e36, q36⟩ := H.val 6 36 rfl rfl rfl (deps_of' hd 6 (by kernel_rfl)) (by kernel_rfl)
          have hfA : L 7 = false := hf
          have hrow : RowB wB.heap.size l0 v0 W := by rcases H.glob.1 with h | h; (rw [hfA] at h; cases h); exact h
          have hgb := H.glob.2
          obtain ⟨aN, mN, cN, rfl⟩ := own_slice q36
          obtain ⟨rfl, hrN⟩ := q36.reads
          refine step_append_any (w := W) rfl (.tmp 32) (.tmp 36) 28 rfl wB.heap.size 36 i0 _ 2 16 Try.underlying28 hi hz0 hz1 hz2 rfl (by omega) v0 l0.length (ecells l0) (ev_tmp e32) hrow W.heap.size aN _ cN (ecells lg) (ev_tmp e36) hrN (ecells_oneP _) (by unfold maxLen; have := HLl.out; omega) (by have := HLl.out; omega) (by have := hgb.size; have := HwR.out; omega) ?_
          intro v' w' hown' hg' _
          exact hK _ _ ((Keeps.refl _ _).grown hg' (fun _ e => .inl ⟨rfl, e⟩)) (row_app hown') ⟨.inl rfl, hgb.grown hg' (Nat.le_trans HwR.out hgb.size) (fun r e => own_base hrow _ e)⟩
        case o8 =>
          intro L vs A W H hf hd K hK
          have e30 := H.is 0 30 rfl rfl rfl (deps_of' hd 0 (by kernel_rfl)) (by kernel_rfl)
          have e31 := H.is 1 31 rfl rfl rfl (deps_of' hd 1 (by kernel_rfl)) (by kernel_rfl)
          obtain ⟨v37, e37, q37⟩ := H.val 7 37 rfl rfl rfl (deps_of' hd 7 (by kernel_rfl)) (by kernel_rfl)
          rw [if_pos (show Region.wanted _ _ = true from rfl)]
          go_wp2_with (fail)
          refine (whole_v base n (l0 ++ lg) _ _ _ h0 s2 HLw.out q37).mono ?_
          rintro e W2 ⟨v, rfl, ho, hB⟩
          exact hK _ _ (Keeps.of_belowS hB) (ho.mono H.glob.2.size) ⟨(by rcases H.glob.1 with h | h; (exact .inl h); exact .inr (h.below hB)), H.glob.2.trans (hB.mono (Nat.le_trans HwR.out H.glob.2.size))⟩
        case o9 =>
          intro L vs A W H hf hd K hK
          obtain ⟨v38, e38, q38⟩ := H.val 8 38 rfl rfl rfl (deps_of' hd 8 (by kernel_rfl)) (by kernel_rfl)
          rw [if_pos (show Region.wanted _ _ = true from rfl)]
          go_simp
          exact hK _ _ (Keeps.refl _ _) q38 H.glob
        case o10 =>
          intro L vs A W H hf hd K hK
          go_simp
          exact hK _ _ (Keeps.refl _ _) rfl (H.glob)
        case he =>
          intro vs W hlen hv
          match vs, hlen, hv with
          | [x0_, x1_, x2_, x3_, x4_, x5_, x6_, x7_, x8_, x9_, x10_], _, hv =>
          obtain rfl : (.int .u64 base) = x0_ := by obtain ⟨z, h1, h2⟩ := hv 0 _ rfl; cases h1; exact h2.symm
          obtain rfl : (.agg (ndCells n)) = x1_ := by obtain ⟨z, h1, h2⟩ := hv 1 _ rfl; cases h1; exact h2.symm
          obtain rfl : v0 = x2_ := by obtain ⟨z, h1, h2⟩ := hv 2 _ rfl; cases h1; exact h2.symm
          obtain rfl : (.int .u64 base) = x3_ := by obtain ⟨z, h1, h2⟩ := hv 3 _ rfl; cases h1; exact h2.symm
          obtain rfl : (.agg (ndCells n)) = x4_ := by obtain ⟨z, h1, h2⟩ := hv 4 _ rfl; cases h1; exact h2.symm
          obtain rfl : (.int .i64 (at_ : Int)) = x5_ := by obtain ⟨z, h1, h2⟩ := hv 5 _ rfl; cases h1; exact h2.symm
          have hx6 : (RowB wC.heap.size lg) x6_ W := by obtain ⟨z, h1, h2⟩ := hv 6 _ rfl; cases h1; exact h2
          have hx7 : (RowB wB.heap.size (l0 ++ lg)) x7_ W := by obtain ⟨z, h1, h2⟩ := hv 7 _ rfl; cases h1; exact h2
          have hx8 : (RowB wC.heap.size ([(base + 24, cOne n)] ++ (l0 ++ lg) ++ [(base + 24, cTwo n)])) x8_ W := by obtain ⟨z, h1, h2⟩ := hv 8 _ rfl; cases h1; exact h2
          have hx9 : (RowB wC.heap.size ([(base + 24, cOne n)] ++ (l0 ++ lg) ++ [(base + 24, cTwo n)])) x9_ W := by obtain ⟨z, h1, h2⟩ := hv 9 _ rfl; cases h1; exact h2
          obtain rfl : (.int .i64 0) = x10_ := by obtain ⟨z, h1, h2⟩ := hv 10 _ rfl; cases h1; exact h2.symm
          intro L hall hG
          clear hv hlen
          have hx := hx9
          obtain ⟨a, m, c, rfl⟩ := own_slice hx
          have HD := Lib.hid (show MadeP (delP base n key) 0 w (.returned (.tuple #[.slice a m c, .int .i64 0])) W from MadeP.row hx (HBy.out.trans (hG.2.mono (Nat.le_of_lt HwK.out))) HBy.out.size HE.out.2.symm)
          clear hG hall hx6 hx7 hx8 hx9 hx
          simp only [fill, if_true]
          go_simp
          go_wp2_with (fail)
          go_ret2
          rw [HE.out.1]
          exact HD.out
        --END
  · have HP := Lib.hid (show delE base n key = mayE base n ∧ delP base n key = [] by
      have : delE base n key = mayE base n := by unfold delE; rw [if_pos hm]
      exact ⟨this, by unfold delP; rw [this, if_neg hm]⟩)
    obtain ⟨M, hM⟩ : ∃ M, mayE base n = M := ⟨_, rfl⟩
    rw [hM] at HM HP
    have q1 : (M != 0) = true := by rw [bne_iff_ne, ← hM]; exact hm
    clear hm hM
    go_enter Try.func34, Try.ntmps34
    go_wp2_with (with_reducible refine wpList_load_part (o := ⟨some 12, _, _, _, _, _⟩) rfl 27 _ rfl w.heap.size 0 rfl (ndCells n) _ HL0.out Try.underlying27 rfl HI.out ?_)
    refine (HM.out _).mono ?_
    rintro e w1 ⟨rfl, hB⟩
    have HK1 := Lib.hid (HK0.out.below hB HK0.out.lt)
    have HL1 := Lib.hid (ndLoad HK1.out)
    have HB1 := Lib.hid (HB0.out.trans (hB.mono HB0.out.size))
    clear hB
    go_wp2_with (fail)
    go_ret2
    rw [HP.out.1, HP.out.2]
    exact MadeP.err HB1.out
end Go.Proofs.Ytbpaefhihdhdeaa
namespace Go.Proofs.Ytbpaefhihdhdeaa
open Go.RowKit
set_option linter.unusedVariables false


set_option maxRecDepth 100000 in
set_option maxHeartbeats 1600000 in
theorem dins_2 (base : Int) (n : Nd) (key ptr : Int) (h0 : 0 ≤ base) (w : World) (hm : mayE base n = 2) :
    Calls Try.prog 33 #[.int .u64 base, .agg (ndCells n), .int .u64 key, .int .u64 ptr] w fun e w' => MadeP [] 2 w e w' := by
  have HI := Lib.hid (info27 n)
  have hk0 : Blk (w.alloc (.cells (ndCells n) 27)) w.heap.size (ndCells n) 27 := Blk.new w _ _
  have HK0 := Lib.hid hk0
  have HL0 := Lib.hid (ndLoad hk0)
  have HB0 := Lib.hid ((Below.refl w.heap.size w).alloc (Nat.le_refl _) (.cells (ndCells n) 27))
  have HM := Lib.hid (fun w => rmay_v base n h0 w)
  clear hk0
  rw [hm] at HM
  clear hm
  go_enter Try.func33, Try.ntmps33
  go_wp2_with (with_reducible refine wpList_load_part (o := ⟨some 16, _, _, _, _, _⟩) rfl 27 _ rfl w.heap.size 0 rfl (ndCells n) _ HL0.out Try.underlying27 rfl HI.out ?_)
  refine (HM.out _).mono ?_
  rintro e w1 ⟨rfl, hB⟩
  have HK1 := Lib.hid (HK0.out.below hB HK0.out.lt)
  have HL1 := Lib.hid (ndLoad HK1.out)
  have HB1 := Lib.hid (HB0.out.trans (hB.mono HB0.out.size))
  clear hB
  go_wp2_with (fail)
  go_ret2
  exact MadeP.err HB1.out
set_option maxRecDepth 100000 in
set_option maxHeartbeats 1600000 in
theorem dins_old (base : Int) (n : Nd) (key ptr : Int) (h0 : 0 ≤ base) (w : World) (hm : mayE base n ≠ 2) (hf : freshB n ptr = false) :
    Calls Try.prog 33 #[.int .u64 base, .agg (ndCells n), .int .u64 key, .int .u64 ptr] w fun e w' => MadeP [] 2 w e w' := by
  have HI := Lib.hid (info27 n)
  have hk0 : Blk (w.alloc (.cells (ndCells n) 27)) w.heap.size (ndCells n) 27 := Blk.new w _ _
  have HK0 := Lib.hid hk0
  have HL0 := Lib.hid (ndLoad hk0)
  have HB0 := Lib.hid ((Below.refl w.heap.size w).alloc (Nat.le_refl _) (.cells (ndCells n) 27))
  have HM := Lib.hid (fun w => rmay_v base n h0 w)
  clear hk0
  have HFr := Lib.hid (fun w => fresh_had hf w)
  have q0 : (mayE base n == 2) = false := beq_eq_false_iff_ne.2 hm
  obtain ⟨M, hM⟩ : ∃ M, mayE base n = M := ⟨_, rfl⟩
  rw [hM] at HM q0
  clear hm hf hM
  go_enter Try.func33, Try.ntmps33
  go_wp2_with (with_reducible refine wpList_load_part (o := ⟨some 16, _, _, _, _, _⟩) rfl 27 _ rfl w.heap.size 0 rfl (ndCells n) _ HL0.out Try.underlying27 rfl HI.out ?_)
  refine (HM.out _).mono ?_
  rintro e w1 ⟨rfl, hB⟩
  have HK1 := Lib.hid (HK0.out.below hB HK0.out.lt)
  have HL1 := Lib.hid (ndLoad HK1.out)
  have HB1 := Lib.hid (HB0.out.trans (hB.mono HB0.out.size))
  clear hB
  go_wp2_with (refine wpList_load_gd (o := ⟨some 21, .load 27 (.tmp 5), _, _, _, _⟩) 27 (.tmp 5) ?hoa w.heap.size 0 ?hxa (ndCells n) _ HL1.out Try.underlying27 rfl HI.out ?hwa ?_; (case hoa => rfl); (case hxa => rfl); (case hwa => rfl))
  refine (HFr.out _).mono ?_
  rintro e w2 ⟨rfl, hB⟩
  have HK2 := Lib.hid (HK1.out.below hB HK1.out.lt)
  have HL2 := Lib.hid (ndLoad HK2.out)
  have HB2 := Lib.hid (HB1.out.trans (hB.mono HB1.out.size))
  clear hB
  go_wp2_with (fail)
  go_ret2
  exact MadeP.err HB2.out
set_option maxRecDepth 100000 in
set_option maxHeartbeats 1600000 in
theorem dins_state (base : Int) (n : Nd) (key ptr : Int) (h0 : 0 ≤ base) (w : World) (hm : mayE base n ≠ 2) (hm0 : mayE base n ≠ 0) (hf : freshB n ptr = true) :
    Calls Try.prog 33 #[.int .u64 base, .agg (ndCells n), .int .u64 key, .int .u64 ptr] w fun e w' => MadeP [] (mayE base n) w e w' := by
  have HI := Lib.hid (info27 n)
  have hk0 : Blk (w.alloc (.cells (ndCells n) 27)) w.heap.size (ndCells n) 27 := Blk.new w _ _
  have HK0 := Lib.hid hk0
  have HL0 := Lib.hid (ndLoad hk0)
  have HB0 := Lib.hid ((Below.refl w.heap.size w).alloc (Nat.le_refl _) (.cells (ndCells n) 27))
  have HM := Lib.hid (fun w => rmay_v base n h0 w)
  clear hk0
  have HFr := Lib.hid (fun w => fresh_had hf w)
  have q0 : (mayE base n == 2) = false := beq_eq_false_iff_ne.2 hm
  have q1 : (mayE base n != 0) = true := bne_iff_ne.2 hm0
  obtain ⟨M, hM⟩ : ∃ M, mayE base n = M := ⟨_, rfl⟩
  rw [hM] at HM q0 q1 ⊢
  clear hm hm0 hf hM
  go_enter Try.func33, Try.ntmps33
  go_wp2_with (with_reducible refine wpList_load_part (o := ⟨some 16, _, _, _, _, _⟩) rfl 27 _ rfl w.heap.size 0 rfl (ndCells n) _ HL0.out Try.underlying27 rfl HI.out ?_)
  refine (HM.out _).mono ?_
  rintro e w1 ⟨rfl, hB⟩
  have HK1 := Lib.hid (HK0.out.below hB HK0.out.lt)
  have HL1 := Lib.hid (ndLoad HK1.out)
  have HB1 := Lib.hid (HB0.out.trans (hB.mono HB0.out.size))
  clear hB
  go_wp2_with (refine wpList_load_gd (o := ⟨some 21, .load 27 (.tmp 5), _, _, _, _⟩) 27 (.tmp 5) ?hoa w.heap.size 0 ?hxa (ndCells n) _ HL1.out Try.underlying27 rfl HI.out ?hwa ?_; (case hoa => rfl); (case hxa => rfl); (case hwa => rfl))
  refine (HFr.out _).mono ?_
  rintro e w2 ⟨rfl, hB⟩
  have HK2 := Lib.hid (HK1.out.below hB HK1.out.lt)
  have HL2 := Lib.hid (ndLoad HK2.out)
  have HB2 := Lib.hid (HB1.out.trans (hB.mono HB1.out.size))
  clear hB
  go_wp2_with (fail)
  go_ret2
  exact MadeP.err HB2.out

/-- the test of the key -/
theorem badKey_1 {n : Nd} {key : Int} (h : 0 ≤ n.find key) : badKey n key = true := by unfold badKey; rw [decide_eq_true h]; rfl
theorem badKey_2 {n : Nd} {key : Int} (h : ¬ 0 ≤ n.find key) : badKey n key = (decide (key < n.lo) || (decide (0 < n.lv) && (key == n.lo))) := by unfold badKey; rw [decide_eq_false h]; rfl
set_option maxRecDepth 100000 in
set_option maxHeartbeats 3200000 in
theorem dins_bad (base : Int) (n : Nd) (key ptr : Int) (h0 : 0 ≤ base) (w : World) (hm : mayE base n = 0) (hf : freshB n ptr = true) (hb : badKey n key = true) :
    Calls Try.prog 33 #[.int .u64 base, .agg (ndCells n), .int .u64 key, .int .u64 ptr] w fun e w' => MadeP [] 2 w e w' := by
  have HI := Lib.hid (info27 n)
  have hk0 : Blk (w.alloc (.cells (ndCells n) 27)) w.heap.size (ndCells n) 27 := Blk.new w _ _
  have HK0 := Lib.hid hk0
  have HL0 := Lib.hid (ndLoad hk0)
  have HB0 := Lib.hid ((Below.refl w.heap.size w).alloc (Nat.le_refl _) (.cells (ndCells n) 27))
  have HM := Lib.hid (fun w => rmay_v base n h0 w)
  clear hk0
  have HFr := Lib.hid (fun w => fresh_had hf w)
  have HFd := Lib.hid (fun w => rfind_calls n key w)
  rw [hm] at HM
  obtain ⟨fi, hfi⟩ : ∃ z, n.find key = z := ⟨_, rfl⟩
  rw [hfi] at HFd
  have hb' : 0 ≤ fi ∨ (¬ 0 ≤ fi ∧ key < n.lo) ∨ (¬ 0 ≤ fi ∧ ¬ key < n.lo ∧ 0 < n.lv ∧ (key == n.lo) = true) := by
    by_cases a : 0 ≤ fi
    · exact .inl a
    · have := badKey_2 (n := n) (key := key) (by rw [hfi]; exact a)
      rw [hb] at this
      by_cases b : key < n.lo
      · exact .inr (.inl ⟨a, b⟩)
      · rw [decide_eq_false b, Bool.false_or] at this
        have h3 := this.symm
        simp only [Bool.and_eq_true, decide_eq_true_eq] at h3
        exact .inr (.inr ⟨a, b, h3.1, h3.2⟩)
  clear hm hf hb hfi
  rcases hb' with a | ⟨a, b⟩ | ⟨a, b, c, d⟩
  · skip
    go_enter Try.func33, Try.ntmps33
    go_wp2_with (with_reducible refine wpList_load_part (o := ⟨some 16, _, _, _, _, _⟩) rfl 27 _ rfl w.heap.size 0 rfl (ndCells n) _ HL0.out Try.underlying27 rfl HI.out ?_)
    refine (HM.out _).mono ?_
    rintro e w1 ⟨rfl, hB⟩
    have HK1 := Lib.hid (HK0.out.below hB HK0.out.lt)
    have HL1 := Lib.hid (ndLoad HK1.out)
    have HB1 := Lib.hid (HB0.out.trans (hB.mono HB0.out.size))
    clear hB
    go_wp2_with (refine wpList_load_gd (o := ⟨some 21, .load 27 (.tmp 5), _, _, _, _⟩) 27 (.tmp 5) ?hoa w.heap.size 0 ?hxa (ndCells n) _ HL1.out Try.underlying27 rfl HI.out ?hwa ?_; (case hoa => rfl); (case hxa => rfl); (case hwa => rfl))
    refine (HFr.out _).mono ?_
    rintro e w2 ⟨rfl, hB⟩
    have HK2 := Lib.hid (HK1.out.below hB HK1.out.lt)
    have HL2 := Lib.hid (ndLoad HK2.out)
    have HB2 := Lib.hid (HB1.out.trans (hB.mono HB1.out.size))
    clear hB
    go_wp2_with (with_reducible refine wpList_load_part (o := ⟨some 28, _, _, _, _, _⟩) rfl 27 _ rfl w.heap.size 0 rfl (ndCells n) _ HL2.out Try.underlying27 rfl HI.out ?_)
    refine (HFd.out _).mono ?_
    rintro e w3 ⟨rfl, hB⟩
    have HK3 := Lib.hid (HK2.out.below hB HK2.out.lt)
    have HL3 := Lib.hid (ndLoad HK3.out)
    have HB3 := Lib.hid (HB2.out.trans (hB.mono HB2.out.size))
    clear hB
    have c1 : w3.cell? ⟨w.heap.size, 1, none⟩ = some (.int .u64 n.lo) := by rw [HK3.out.cell, ndCells_1]
    have c0 : w3.cell? ⟨w.heap.size, 0, none⟩ = some (.int .i64 n.lv) := by rw [HK3.out.cell, ndCells_0]
    go_wp2_with (fail)
    go_ret2
    exact MadeP.err HB3.out
  · skip
    go_enter Try.func33, Try.ntmps33
    go_wp2_with (with_reducible refine wpList_load_part (o := ⟨some 16, _, _, _, _, _⟩) rfl 27 _ rfl w.heap.size 0 rfl (ndCells n) _ HL0.out Try.underlying27 rfl HI.out ?_)
    refine (HM.out _).mono ?_
    rintro e w1 ⟨rfl, hB⟩
    have HK1 := Lib.hid (HK0.out.below hB HK0.out.lt)
    have HL1 := Lib.hid (ndLoad HK1.out)
    have HB1 := Lib.hid (HB0.out.trans (hB.mono HB0.out.size))
    clear hB
    go_wp2_with (refine wpList_load_gd (o := ⟨some 21, .load 27 (.tmp 5), _, _, _, _⟩) 27 (.tmp 5) ?hob w.heap.size 0 ?hxb (ndCells n) _ HL1.out Try.underlying27 rfl HI.out ?hwb ?_; (case hob => rfl); (case hxb => rfl); (case hwb => rfl))
    refine (HFr.out _).mono ?_
    rintro e w2 ⟨rfl, hB⟩
    have HK2 := Lib.hid (HK1.out.below hB HK1.out.lt)
    have HL2 := Lib.hid (ndLoad HK2.out)
    have HB2 := Lib.hid (HB1.out.trans (hB.mono HB1.out.size))
    clear hB
    go_wp2_with (with_reducible refine wpList_load_part (o := ⟨some 28, _, _, _, _, _⟩) rfl 27 _ rfl w.heap.size 0 rfl (ndCells n) _ HL2.out Try.underlying27 rfl HI.out ?_)
    refine (HFd.out _).mono ?_
    rintro e w3 ⟨rfl, hB⟩
    have HK3 := Lib.hid (HK2.out.below hB HK2.out.lt)
    have HL3 := Lib.hid (ndLoad HK3.out)
    have HB3 := Lib.hid (HB2.out.trans (hB.mono HB2.out.size))
    clear hB
    have c1 : w3.cell? ⟨w.heap.size, 1, none⟩ = some (.int .u64 n.lo) := by rw [HK3.out.cell, ndCells_1]
    have c0 : w3.cell? ⟨w.heap.size, 0, none⟩ = some (.int .i64 n.lv) := by rw [HK3.out.cell, ndCells_0]
    go_wp2_with (fail)
    go_ret2
    exact MadeP.err HB3.out
  · skip
    go_enter Try.func33, Try.ntmps33
    go_wp2_with (with_reducible refine wpList_load_part (o := ⟨some 16, _, _, _, _, _⟩) rfl 27 _ rfl w.heap.size 0 rfl (ndCells n) _ HL0.out Try.underlying27 rfl HI.out ?_)
    refine (HM.out _).mono ?_
    rintro e w1 ⟨rfl, hB⟩
    have HK1 := Lib.hid (HK0.out.below hB HK0.out.lt)
    have HL1 := Lib.hid (ndLoad HK1.out)
    have HB1 := Lib.hid (HB0.out.trans (hB.mono HB0.out.size))
    clear hB
    go_wp2_with (refine wpList_load_gd (o := ⟨some 21, .load 27 (.tmp 5), _, _, _, _⟩) 27 (.tmp 5) ?hoc w.heap.size 0 ?hxc (ndCells n) _ HL1.out Try.underlying27 rfl HI.out ?hwc ?_; (case hoc => rfl); (case hxc => rfl); (case hwc => rfl))
    refine (HFr.out _).mono ?_
    rintro e w2 ⟨rfl, hB⟩
    have HK2 := Lib.hid (HK1.out.below hB HK1.out.lt)
    have HL2 := Lib.hid (ndLoad HK2.out)
    have HB2 := Lib.hid (HB1.out.trans (hB.mono HB1.out.size))
    clear hB
    go_wp2_with (with_reducible refine wpList_load_part (o := ⟨some 28, _, _, _, _, _⟩) rfl 27 _ rfl w.heap.size 0 rfl (ndCells n) _ HL2.out Try.underlying27 rfl HI.out ?_)
    refine (HFd.out _).mono ?_
    rintro e w3 ⟨rfl, hB⟩
    have HK3 := Lib.hid (HK2.out.below hB HK2.out.lt)
    have HL3 := Lib.hid (ndLoad HK3.out)
    have HB3 := Lib.hid (HB2.out.trans (hB.mono HB2.out.size))
    clear hB
    have c1 : w3.cell? ⟨w.heap.size, 1, none⟩ = some (.int .u64 n.lo) := by rw [HK3.out.cell, ndCells_1]
    have c0 : w3.cell? ⟨w.heap.size, 0, none⟩ = some (.int .i64 n.lv) := by rw [HK3.out.cell, ndCells_0]
    go_wp2_with (fail)
    go_ret2
    exact MadeP.err HB3.out

set_option maxRecDepth 100000 in
set_option maxHeartbeats 3200000 in
theorem dins_full (base : Int) (n : Nd) (key ptr : Int) (h0 : 0 ≤ base) (w : World) (hm : mayE base n = 0) (hf : freshB n ptr = true) (hb : badKey n key = false) (h8 : n.len = 8) :
    Calls Try.prog 33 #[.int .u64 base, .agg (ndCells n), .int .u64 key, .int .u64 ptr] w fun e w' => MadeP [] 4 w e w' := by
  have HI := Lib.hid (info27 n)
  have hk0 : Blk (w.alloc (.cells (ndCells n) 27)) w.heap.size (ndCells n) 27 := Blk.new w _ _
  have HK0 := Lib.hid hk0
  have HL0 := Lib.hid (ndLoad hk0)
  have HB0 := Lib.hid ((Below.refl w.heap.size w).alloc (Nat.le_refl _) (.cells (ndCells n) 27))
  have HM := Lib.hid (fun w => rmay_v base n h0 w)
  clear hk0
  have HFr := Lib.hid (fun w => fresh_had hf w)
  have HFd := Lib.hid (fun w => rfind_calls n key w)
  rw [hm] at HM
  have hk := badKey_no hb
  obtain ⟨k1, k2, k3⟩ := hk
  have k1 : ¬ 0 ≤ n.find key := of_decide_eq_false k1
  obtain ⟨fi, hfi⟩ : ∃ z, n.find key = z := ⟨_, rfl⟩
  rw [hfi] at HFd k1
  have k4 : (0 < n.lv ∧ (key == n.lo) = false) ∨ ¬ 0 < n.lv := by
    by_cases h : 0 < n.lv
    · exact .inl ⟨h, k3 h⟩
    · exact .inr h
  have HLn := Lib.hid (fun w => rlen_calls n w)
  rw [h8] at HLn
  clear hm hf hb hfi h8 k3
  rcases k4 with ⟨k5, k6⟩ | k5
  · skip
    go_enter Try.func33, Try.ntmps33
    go_wp2_with (with_reducible refine wpList_load_part (o := ⟨some 16, _, _, _, _, _⟩) rfl 27 _ rfl w.heap.size 0 rfl (ndCells n) _ HL0.out Try.underlying27 rfl HI.out ?_)
    refine (HM.out _).mono ?_
    rintro e w1 ⟨rfl, hB⟩
    have HK1 := Lib.hid (HK0.out.below hB HK0.out.lt)
    have HL1 := Lib.hid (ndLoad HK1.out)
    have HB1 := Lib.hid (HB0.out.trans (hB.mono HB0.out.size))
    clear hB
    go_wp2_with (refine wpList_load_gd (o := ⟨some 21, .load 27 (.tmp 5), _, _, _, _⟩) 27 (.tmp 5) ?hoa w.heap.size 0 ?hxa (ndCells n) _ HL1.out Try.underlying27 rfl HI.out ?hwa ?_; (case hoa => rfl); (case hxa => rfl); (case hwa => rfl))
    refine (HFr.out _).mono ?_
    rintro e w2 ⟨rfl, hB⟩
    have HK2 := Lib.hid (HK1.out.below hB HK1.out.lt)
    have HL2 := Lib.hid (ndLoad HK2.out)
    have HB2 := Lib.hid (HB1.out.trans (hB.mono HB1.out.size))
    clear hB
    go_wp2_with (with_reducible refine wpList_load_part (o := ⟨some 28, _, _, _, _, _⟩) rfl 27 _ rfl w.heap.size 0 rfl (ndCells n) _ HL2.out Try.underlying27 rfl HI.out ?_)
    refine (HFd.out _).mono ?_
    rintro e w3 ⟨rfl, hB⟩
    have HK3 := Lib.hid (HK2.out.below hB HK2.out.lt)
    have HL3 := Lib.hid (ndLoad HK3.out)
    have HB3 := Lib.hid (HB2.out.trans (hB.mono HB2.out.size))
    clear hB
    have c1 : w3.cell? ⟨w.heap.size, 1, none⟩ = some (.int .u64 n.lo) := by rw [HK3.out.cell, ndCells_1]
    have c0 : w3.cell? ⟨w.heap.size, 0, none⟩ = some (.int .i64 n.lv) := by rw [HK3.out.cell, ndCells_0]
    go_upto_region 8 with (fail)
    go_wp2_with (with_reducible refine wpList_load_part (o := ⟨some 49, _, _, _, _, _⟩) rfl 27 _ rfl w.heap.size 0 rfl (ndCells n) _ HL3.out Try.underlying27 rfl HI.out ?_)
    refine (HLn.out _).mono ?_
    rintro e w4 ⟨rfl, hB⟩
    have HK4 := Lib.hid (HK3.out.below hB HK3.out.lt)
    have HL4 := Lib.hid (ndLoad HK4.out)
    have HB4 := Lib.hid (HB3.out.trans (hB.mono HB3.out.size))
    clear hB
    clear c0 c1
    go_wp2_with (fail)
    go_ret2
    exact MadeP.err HB4.out
  · skip
    go_enter Try.func33, Try.ntmps33
    go_wp2_with (with_reducible refine wpList_load_part (o := ⟨some 16, _, _, _, _, _⟩) rfl 27 _ rfl w.heap.size 0 rfl (ndCells n) _ HL0.out Try.underlying27 rfl HI.out ?_)
    refine (HM.out _).mono ?_
    rintro e w1 ⟨rfl, hB⟩
    have HK1 := Lib.hid (HK0.out.below hB HK0.out.lt)
    have HL1 := Lib.hid (ndLoad HK1.out)
    have HB1 := Lib.hid (HB0.out.trans (hB.mono HB0.out.size))
    clear hB
    go_wp2_with (refine wpList_load_gd (o := ⟨some 21, .load 27 (.tmp 5), _, _, _, _⟩) 27 (.tmp 5) ?hob w.heap.size 0 ?hxb (ndCells n) _ HL1.out Try.underlying27 rfl HI.out ?hwb ?_; (case hob => rfl); (case hxb => rfl); (case hwb => rfl))
    refine (HFr.out _).mono ?_
    rintro e w2 ⟨rfl, hB⟩
    have HK2 := Lib.hid (HK1.out.below hB HK1.out.lt)
    have HL2 := Lib.hid (ndLoad HK2.out)
    have HB2 := Lib.hid (HB1.out.trans (hB.mono HB1.out.size))
    clear hB
    go_wp2_with (with_reducible refine wpList_load_part (o := ⟨some 28, _, _, _, _, _⟩) rfl 27 _ rfl w.heap.size 0 rfl (ndCells n) _ HL2.out Try.underlying27 rfl HI.out ?_)
    refine (HFd.out _).mono ?_
    rintro e w3 ⟨rfl, hB⟩
    have HK3 := Lib.hid (HK2.out.below hB HK2.out.lt)
    have HL3 := Lib.hid (ndLoad HK3.out)
    have HB3 := Lib.hid (HB2.out.trans (hB.mono HB2.out.size))
    clear hB
    have c1 : w3.cell? ⟨w.heap.size, 1, none⟩ = some (.int .u64 n.lo) := by rw [HK3.out.cell, ndCells_1]
    have c0 : w3.cell? ⟨w.heap.size, 0, none⟩ = some (.int .i64 n.lv) := by rw [HK3.out.cell, ndCells_0]
    go_upto_region 8 with (fail)
    go_wp2_with (with_reducible refine wpList_load_part (o := ⟨some 49, _, _, _, _, _⟩) rfl 27 _ rfl w.heap.size 0 rfl (ndCells n) _ HL3.out Try.underlying27 rfl HI.out ?_)
    refine (HLn.out _).mono ?_
    rintro e w4 ⟨rfl, hB⟩
    have HK4 := Lib.hid (HK3.out.below hB HK3.out.lt)
    have HL4 := Lib.hid (ndLoad HK4.out)
    have HB4 := Lib.hid (HB3.out.trans (hB.mono HB3.out.size))
    clear hB
    clear c0 c1
    go_wp2_with (fail)
    go_ret2
    exact MadeP.err HB4.out

/-- the store that ends the entries -/
def endL (base : Int) (n : Nd) : List (Int × Int) := if n.len + 1 < 8 then [(base + 64 + 16 * ((n.len + 1 : Nat) : Int) + 8, 0)] else []
theorem endL_len (base : Int) (n : Nd) : (endL base n).length ≤ 1 := by unfold endL; split <;> simp
set_option maxRecDepth 100000 in
set_option maxHeartbeats 6400000 in
theorem dins_ok (base : Int) (n : Nd) (key ptr : Int) (h0 : 0 ≤ base) (w : World) (hm : mayE base n = 0) (hf : freshB n ptr = true) (hb : badKey n key = false) (h8 : n.len < 8) :
    Calls Try.prog 33 #[.int .u64 base, .agg (ndCells n), .int .u64 key, .int .u64 ptr] w fun e w' => MadeP (insL base n key ptr (n.last key + 1).toNat) 0 w e w' := by
  have HI := Lib.hid (info27 n)
  have hk0 : Blk (w.alloc (.cells (ndCells n) 27)) w.heap.size (ndCells n) 27 := Blk.new w _ _
  have HK0 := Lib.hid hk0
  have HL0 := Lib.hid (ndLoad hk0)
  have HB0 := Lib.hid ((Below.refl w.heap.size w).alloc (Nat.le_refl _) (.cells (ndCells n) 27))
  have HM := Lib.hid (fun w => rmay_v base n h0 w)
  clear hk0
  have HFr := Lib.hid (fun w => fresh_had hf w)
  have HFd := Lib.hid (fun w => rfind_calls n key w)
  rw [hm] at HM
  have hk := badKey_no hb
  obtain ⟨k1, k2, k3⟩ := hk
  have k1 : ¬ 0 ≤ n.find key := of_decide_eq_false k1
  obtain ⟨fi, hfi⟩ : ∃ z, n.find key = z := ⟨_, rfl⟩
  rw [hfi] at HFd k1
  have k4 : (0 < n.lv ∧ (key == n.lo) = false) ∨ ¬ 0 < n.lv := by
    by_cases h : 0 < n.lv
    · exact .inl ⟨h, k3 h⟩
    · exact .inr h
  have HLn := Lib.hid (fun w => rlen_calls n w)
  obtain ⟨⟨s1, s2, s3⟩, _, _⟩ := mayE_stands hm
  obtain ⟨i0, hi, hz0, hz1, hz2⟩ := info_parts Try.info36
  have q8 : ((n.len : Int) == 8) = false := beq_eq_false_iff_ne.2 (by omega)
  obtain ⟨at_, hat, hat2⟩ := last_at n key
  have HLs := Lib.hid (show ∀ w, Calls Try.prog 63 #[.agg (ndCells n), .int .u64 key] w fun e W' => e = .returned (.int .i64 ((at_ : Int) - 1)) ∧ Below w.heap.size w W' from fun w => by have := rlast_calls n key w; rwa [show n.last key = (at_ : Int) - 1 by omega] at this)
  have HP := Lib.hid (show insL base n key ptr (n.last key + 1).toNat = [(base + 24, cOne n)] ++ (endL base n ++ shiftL base n n.len (n.len - at_) ++ [(base + 64 + 16 * (at_ : Int) + 8, n.ahead at_), (base + 64 + 16 * (at_ : Int), key), (base + 64 + 16 * (at_ : Int) + 8, ptr)]) ++ [(base + 24, cTwo n)] by
    rw [hat]; unfold insL endL; simp)
  have HEl := Lib.hid (endL_len base n)
  obtain ⟨eL, heL⟩ : ∃ l, endL base n = l := ⟨_, rfl⟩
  have HEn := Lib.hid heL
  rw [heL] at HP HEl
  obtain ⟨many, hmany⟩ : ∃ m, n.len = m := ⟨_, rfl⟩
  have HMy := Lib.hid hmany
  rw [hmany] at HLn q8 h8 hat2 HP
  clear hm hf hb hfi k3 s3 hat heL hmany
  go_enter Try.func33, Try.ntmps33
  go_wp2_with (with_reducible refine wpList_load_part (o := ⟨some 16, _, _, _, _, _⟩) rfl 27 _ rfl w.heap.size 0 rfl (ndCells n) _ HL0.out Try.underlying27 rfl HI.out ?_)
  refine (HM.out _).mono ?_
  rintro e w1 ⟨rfl, hB⟩
  have HK1 := Lib.hid (HK0.out.below hB HK0.out.lt)
  have HL1 := Lib.hid (ndLoad HK1.out)
  have HB1 := Lib.hid (HB0.out.trans (hB.mono HB0.out.size))
  clear hB
  go_wp2_with (refine wpList_load_gd (o := ⟨some 21, .load 27 (.tmp 5), _, _, _, _⟩) 27 (.tmp 5) ?hoa w.heap.size 0 ?hxa (ndCells n) _ HL1.out Try.underlying27 rfl HI.out ?hwa ?_; (case hoa => rfl); (case hxa => rfl); (case hwa => rfl))
  refine (HFr.out _).mono ?_
  rintro e w2 ⟨rfl, hB⟩
  have HK2 := Lib.hid (HK1.out.below hB HK1.out.lt)
  have HL2 := Lib.hid (ndLoad HK2.out)
  have HB2 := Lib.hid (HB1.out.trans (hB.mono HB1.out.size))
  clear hB
  go_upto_region 6 with (fail)
  go_cut [48] (fun s48 wx => s48 = .bool false ∧ Hid (Blk wx w.heap.size (ndCells n) 27) ∧ Hid (Below w.heap.size w wx))
  case first =>
    rcases k4 with ⟨k5, k6⟩ | k5
    · skip
      go_wp2_with (with_reducible refine wpList_load_part (o := ⟨some 28, _, _, _, _, _⟩) rfl 27 _ rfl w.heap.size 0 rfl (ndCells n) _ HL2.out Try.underlying27 rfl HI.out ?_)
      refine (HFd.out _).mono ?_
      rintro e w3 ⟨rfl, hB⟩
      have HK3 := Lib.hid (HK2.out.below hB HK2.out.lt)
      have HL3 := Lib.hid (ndLoad HK3.out)
      have HB3 := Lib.hid (HB2.out.trans (hB.mono HB2.out.size))
      clear hB
      have c1 : w3.cell? ⟨w.heap.size, 1, none⟩ = some (.int .u64 n.lo) := by rw [HK3.out.cell, ndCells_1]
      have c0 : w3.cell? ⟨w.heap.size, 0, none⟩ = some (.int .i64 n.lv) := by rw [HK3.out.cell, ndCells_0]
      go_wp2_with (fail)
      go_meet
      exact ⟨by rw [decide_eq_false (by omega : ¬ 0 ≤ fi), decide_eq_false (by omega : ¬ key < n.lo)]; rfl, HK3, HB3⟩
    · skip
      go_wp2_with (with_reducible refine wpList_load_part (o := ⟨some 28, _, _, _, _, _⟩) rfl 27 _ rfl w.heap.size 0 rfl (ndCells n) _ HL2.out Try.underlying27 rfl HI.out ?_)
      refine (HFd.out _).mono ?_
      rintro e w3 ⟨rfl, hB⟩
      have HK3 := Lib.hid (HK2.out.below hB HK2.out.lt)
      have HL3 := Lib.hid (ndLoad HK3.out)
      have HB3 := Lib.hid (HB2.out.trans (hB.mono HB2.out.size))
      clear hB
      have c1 : w3.cell? ⟨w.heap.size, 1, none⟩ = some (.int .u64 n.lo) := by rw [HK3.out.cell, ndCells_1]
      have c0 : w3.cell? ⟨w.heap.size, 0, none⟩ = some (.int .i64 n.lv) := by rw [HK3.out.cell, ndCells_0]
      go_wp2_with (fail)
      go_meet
      exact ⟨by rw [decide_eq_false (by omega : ¬ 0 ≤ fi), decide_eq_false (by omega : ¬ key < n.lo)]; rfl, HK3, HB3⟩
  case rest =>
    obtain ⟨rfl, HK3, HB3⟩ := hcut
    clear k1 k2 k4 HK0 HL0 HB0 HM HFr HK1 HL1 HB1 HK2 HL2 HB2 HFd
    have HL3 := Lib.hid (ndLoad HK3.out)
    go_upto_region 8 with (fail)
    go_wp2_with (with_reducible refine wpList_load_part (o := ⟨some 49, _, _, _, _, _⟩) rfl 27 _ rfl w.heap.size 0 rfl (ndCells n) _ HL3.out Try.underlying27 rfl HI.out ?_)
    refine (HLn.out _).mono ?_
    rintro e w4 ⟨rfl, hB⟩
    have HK4 := Lib.hid (HK3.out.below hB HK3.out.lt)
    have HL4 := Lib.hid (ndLoad HK4.out)
    have HB4 := Lib.hid (HB3.out.trans (hB.mono HB3.out.size))
    clear hB
    have HwK := Lib.hid HK4.out.lt
    clear HK3 HL3 HB3 HLn
    go_upto_if 54 with (fail)
    go_cut [12] (fun v12 wx => Hid (RowB w4.heap.size eL v12 wx) ∧ Hid (Below w4.heap.size w4 wx))
    case first =>
      by_cases h7 : many < 7
      · have HE2 := Lib.hid (show eL = [(base + 64 + 16 * ((many + 1 : Nat) : Int) + 8, 0)] by rw [← HEn.out]; unfold endL; rw [HMy.out, if_pos (by omega)])
        have HPt := Lib.hid (fun w => pt_b base (many + 1) h0 s2 (by omega) w)
        obtain ⟨a1, ha1⟩ : ∃ x, base + 64 + 16 * ((many + 1 : Nat) : Int) + 8 = x := ⟨_, rfl⟩
        rw [ha1, Int.natCast_add, Int.natCast_one] at HPt
        rw [ha1] at HE2
        have b1 : (many : Int) < 7 := by omega
        clear ha1
        go_wp2_with (first | (go_at_call 29; refine (HPt.out _).mono ?_; rintro e w5 ⟨rfl, hw5⟩; replace hw5 := hw5.symm; subst hw5) | (at_builtin; refine wpList_append_own _ rfl (.tmp 55) (.tmp 61) 28 rfl w4.heap.size 36 i0 _ 2 16 Try.underlying28 hi hz0 hz1 hz2 rfl (by decide) _ 0 [] rfl (World.ownsRow_nil _ _ _ _) ⟨w4.heap.size, 0, none⟩ 1 1 [.int .u64 a1, .int .u64 0] rfl rfl (World.news_of_block (cs := #[.int .u64 a1, .int .u64 0]) (t := 36) (fr := (0, 0)) (heap_alloc_new w4 _)) (by simp [Value.oneCell']) (by unfold maxLen; omega) (by omega) (by simp) ?_; intro v6 w6 hown6 hg6 _; have HO6 := Lib.hid hown6; have HB6 := Lib.hid (((Below.refl w4.heap.size w4).alloc (Nat.le_refl _) (.cells #[.int .u64 a1, .int .u64 0] 36)).grown hg6 (by simp) (fun r e => by cases e)); clear hown6 hg6))
        go_meet
        exact ⟨Lib.hid (by rw [HE2.out]; have := HO6.out; simpa [RowB, ecells] using this), HB6⟩
      · have HE2 := Lib.hid (show eL = [] by rw [← HEn.out]; unfold endL; rw [HMy.out, if_neg (by omega)])
        have b1 : ¬ (many : Int) < 7 := by omega
        go_wp2_with (fail)
        go_meet
        exact ⟨Lib.hid (by rw [HE2.out]; exact World.ownsRow_nil _ _ _ _), Lib.hid (Below.refl _ _)⟩
    case rest =>
      obtain ⟨HO5, HB5⟩ := hcut
      have HK5 := Lib.hid (HK4.out.below HB5.out HwK.out)
      have HL5 := Lib.hid (ndLoad HK5.out)
      have HwR := Lib.hid HB5.out.size
      go_upto_region 14 with (fail)
      go_wp2_with (with_reducible refine wpList_load_part (o := ⟨some 63, _, _, _, _, _⟩) rfl 27 _ rfl w.heap.size 0 rfl (ndCells n) _ HL5.out Try.underlying27 rfl HI.out ?_)
      refine (HLs.out _).mono ?_
      rintro e w6 ⟨rfl, hB⟩
      have HO6 := Lib.hid (HO5.out.below hB)
      have HK6 := Lib.hid (HK5.out.below hB HK5.out.lt)
      have HB6 := Lib.hid (HB5.out.trans (hB.mono HwR.out))
      clear hB HK5 HL5 HO5 HB5 HwR HLs HK4 HL4
      have b1 : (at_ : Int) - 1 + 1 = (at_ : Int) := by omega
      obtain ⟨b5, hb5⟩ : ∃ x, w.heap.size = x := ⟨_, rfl⟩
      have HB5e := Lib.hid hb5
      rw [hb5] at HK6 HwK ⊢
      clear hb5
      go_wp2_with (fail)
      go_loopw [12, 14] (fun ov iv wr => ∃ j i : Nat, Hid (i + j = many) ∧ at_ ≤ i ∧ iv = .int .i64 i ∧ Hid (RowB w4.heap.size (eL ++ shiftL base n many j) ov wr) ∧ Hid (Blk wr b5 (ndCells n) 27) ∧ Hid (Below w4.heap.size w4 wr)) (fun _ iv _ => (intOf iv).toNat)
      case atStart => exact ⟨0, many, Lib.hid (by omega), hat2, rfl, Lib.hid (by have := HO6.out; simpa [shiftL] using this), HK6, HB6⟩
      case round =>
        obtain ⟨j, i, HIJ, hai, rfl, HO, HKr, HBr⟩ := hrel
        have hi8 : i ≤ 8 := by have := HIJ.out; omega
        obtain ⟨l0, hl0⟩ : ∃ l, eL ++ shiftL base n many j = l := ⟨_, rfl⟩
        have HL0 := Lib.hid hl0
        have hlen : l0.length ≤ 20 := by rw [← hl0, List.length_append, shiftL_len]; have := HEl.out; have := HIJ.out; omega
        rw [hl0] at HO
        obtain ⟨v0, rfl⟩ : ∃ v, v = u12 := ⟨_, rfl⟩
        have hn0 : ∀ g, v0.ownBlock = some g → g < wr.heap.size := fun g e => (World.ownsRow.lt HO.out g e).2
        have HwR := Lib.hid HBr.out.size
        clear hl0 HO6 HK6 HB6
        by_cases hlt : at_ < i
        · obtain ⟨i1, hi1⟩ : ∃ i1, i = i1 + 1 := ⟨i - 1, by omega⟩
          obtain ⟨ii, hii⟩ : ∃ z, (i : Int) = z := ⟨_, rfl⟩
          have HPt := Lib.hid (fun w => pt_b base i h0 s2 hi8 w)
          have HKt := Lib.hid (fun w => kt_a base i h0 s2 hi8 w)
          rw [hii] at HPt HKt
          obtain ⟨a1, ha1⟩ : ∃ x, base + 64 + 16 * ii + 8 = x := ⟨_, rfl⟩
          obtain ⟨a2, ha2⟩ : ∃ x, base + 64 + 16 * ii = x := ⟨_, rfl⟩
          obtain ⟨x1, hx1⟩ : ∃ x, n.p i1 = x := ⟨_, rfl⟩
          obtain ⟨x2, hx2⟩ : ∃ x, n.k i1 = x := ⟨_, rfl⟩
          have HX1 := Lib.hid (show (ndCells n)[13 + i1]? = some (.int .u64 x1) by rw [ndCells_p n i1 (by omega), hx1])
          have HX2 := Lib.hid (show (ndCells n)[5 + i1]? = some (.int .u64 x2) by rw [ndCells_k n i1 (by omega), hx2])
          have HSh := Lib.hid (show eL ++ (shiftL base n many j ++ [(a1, x1), (a2, x2)]) = eL ++ shiftL base n many (j + 1) by
            have hmj : many - j = i := by have := HIJ.out; omega
            rw [shiftL, hmj, hii, show i - 1 = i1 by omega, ha1, ha2, hx1, hx2])
          rw [ha1] at HPt
          rw [ha2] at HKt
          have HWk := Lib.hid (show IntKind.i64.wrap (ii - 1) = (i1 : Int) by rw [IntWalk.i64_in _ (by omega)]; omega)
          have HIv := Lib.hid (show Value.int .i64 (ii - 1) = .int .i64 (i1 : Int) by rw [show ii - 1 = (i1 : Int) by omega])
          have HLl := Lib.hid (show l0.length + [(a1, x1), (a2, x2)].length ≤ 100 by simp; omega)
          have HI1 := Lib.hid hi1
          have b2 : (i1 : Int) < 8 := by omega
          have b3 : (at_ : Int) < ii := by omega
          have b4 : ii ≤ 8 := by omega
          have b6 : at_ ≤ i1 := by omega
          have b7 : 1 ≤ ii := by omega
          rw [hii]
          clear ha1 ha2 hx1 hx2 hi1 hii hai hlt hi8
          go_upto_region 18 with (fail)
          --GEN r_dins18
          refine wp_region_vals [Is v0, Is (.int .u64 base), Is (.int .i64 ii), Is (.int .u64 a1), Is (.int .i64 ii), Is (.int .i64 (i1 : Int)), Is (.pointer (some ⟨b5, 13, none⟩)), Is (.pointer (some ⟨b5, 13 + i1, none⟩)), Is (.int .u64 x1), Is (.agg #[.int .u64 a1, .int .u64 x1]), Is (.int .u64 base), Is (.int .i64 ii), Is (.int .u64 a2), Is (.int .i64 ii), Is (.int .i64 (i1 : Int)), Is (.pointer (some ⟨b5, 5, none⟩)), Is (.pointer (some ⟨b5, 5 + i1, none⟩)), Is (.int .u64 x2), Is (.agg #[.int .u64 a2, .int .u64 x2]), RowB wr.heap.size [(a1, x1), (a2, x2)], RowB w4.heap.size (l0 ++ [(a1, x1), (a2, x2)]), RowB w4.heap.size (l0 ++ [(a1, x1), (a2, x2)])]
            (fun i => Keeps (fun g => i = 20 ∧ v0.ownBlock = some g)) (fun L W => (L 20 = true ∨ RowB w4.heap.size l0 v0 W) ∧ Below w4.heap.size wr W) (by kernel_rfl) (by kernel_rfl) (by kernel_rfl) ?hst ?h0 ⟨?o0, ?o1, ?o2, ?o3, ?o4, ?o5, ?o6, ?o7, ?o8, ?o9, ?o10, ?o11, ?o12, ?o13, ?o14, ?o15, ?o16, ?o17, ?o18, ?o19, ?o20, ?o21, trivial⟩ ?he
          case hst =>
            exact ⟨(fun _ _ _ _ _ _ h _ => h), (fun _ _ _ _ _ _ h _ => h), (fun _ _ _ _ _ _ h _ => h), (fun _ _ _ _ _ _ h _ => h), (fun _ _ _ _ _ _ h _ => h), (fun _ _ _ _ _ _ h _ => h), (fun _ _ _ _ _ _ h _ => h), (fun _ _ _ _ _ _ h _ => h), (fun _ _ _ _ _ _ h _ => h), (fun _ _ _ _ _ _ h _ => h), (fun _ _ _ _ _ _ h _ => h), (fun _ _ _ _ _ _ h _ => h), (fun _ _ _ _ _ _ h _ => h), (fun _ _ _ _ _ _ h _ => h), (fun _ _ _ _ _ _ h _ => h), (fun _ _ _ _ _ _ h _ => h), (fun _ _ _ _ _ _ h _ => h), (fun _ _ _ _ _ _ h _ => h), (fun _ _ _ _ _ _ h _ => h), (fun i2 hij hw _ _ _ h hR => (if hA : i2 = 20 then by (subst hA; exact RowB.keepApp h hR hn0) else RowB.below h (Keeps.below (hR.mono (fun _ _ hx => hA hx.1))))), (fun i2 hij hw _ _ _ h hR => (if hA : i2 = 20 then by (subst hA; exact absurd rfl hij) else RowB.below h (Keeps.below (hR.mono (fun _ _ hx => hA hx.1))))), (fun i2 hij hw _ _ _ h hR => (if hA : i2 = 20 then by (subst hA; exact by (have h3 : false = true := hw.symm.trans (by kernel_rfl); cases h3)) else RowB.below h (Keeps.below (hR.mono (fun _ _ hx => hA hx.1))))), trivial⟩
          case h0 =>
            exact ⟨.inr (HO.out.below (Below.refl _ _).drew), (Below.refl _ _).drew⟩
          case o0 =>
            intro L vs A W H hf hd K hK
            have e12 : A.tmps[12]?.getD undef = v0 := H.later 12 0 hf (by kernel_rfl)
            go_simp
            exact hK _ _ (Keeps.refl _ _) rfl (H.glob)
          case o1 =>
            intro L vs A W H hf hd K hK
            have e0 : A.tmps[0]?.getD undef = .int .u64 base := H.old 0 (by kernel_rfl)
            go_simp
            exact hK _ _ (Keeps.refl _ _) rfl (H.glob)
          case o2 =>
            intro L vs A W H hf hd K hK
            have e14 : A.tmps[14]?.getD undef = .int .i64 ii := H.old 14 (by kernel_rfl)
            go_simp
            exact hK _ _ (Keeps.refl _ _) rfl (H.glob)
          case o3 =>
            intro L vs A W H hf hd K hK
            have e74 := H.is 1 74 rfl rfl rfl (deps_of' hd 1 (by kernel_rfl)) (by kernel_rfl)
            have e75 := H.is 2 75 rfl rfl rfl (deps_of' hd 2 (by kernel_rfl)) (by kernel_rfl)
            rw [if_pos (show Region.wanted _ _ = true from rfl)]
            go_wp2_with (fail)
            refine (HPt.out _).mono ?_
            rintro e W2 ⟨rfl, rfl⟩
            exact hK _ _ (Keeps.refl _ _) rfl H.glob
          case o4 =>
            intro L vs A W H hf hd K hK
            have e14 : A.tmps[14]?.getD undef = .int .i64 ii := H.old 14 (by kernel_rfl)
            go_simp
            exact hK _ _ (Keeps.refl _ _) rfl (H.glob)
          case o5 =>
            intro L vs A W H hf hd K hK
            have e77 := H.is 4 77 rfl rfl rfl (deps_of' hd 4 (by kernel_rfl)) (by kernel_rfl)
            have wk := HWk.out
            go_simp
            exact hK _ _ (Keeps.refl _ _) rfl (H.glob)
          case o6 =>
            intro L vs A W H hf hd K hK
            have e5 : A.tmps[5]?.getD undef = .pointer (some ⟨b5, 0, none⟩) := H.old 5 (by kernel_rfl)
            go_simp
            exact hK _ _ (Keeps.refl _ _) rfl (H.glob)
          case o7 =>
            intro L vs A W H hf hd K hK
            have e79 := H.is 6 79 rfl rfl rfl (deps_of' hd 6 (by kernel_rfl)) (by kernel_rfl)
            have e78 := H.is 5 78 rfl rfl rfl (deps_of' hd 5 (by kernel_rfl)) (by kernel_rfl)
            go_simp
            exact hK _ _ (Keeps.refl _ _) rfl (H.glob)
          case o8 =>
            intro L vs A W H hf hd K hK
            have e80 := H.is 7 80 rfl rfl rfl (deps_of' hd 7 (by kernel_rfl)) (by kernel_rfl)
            have d1 := ((HKr.out.below H.glob.2 HwK.out).cell (13+i1)).trans HX1.out
            go_simp
            exact hK _ _ (Keeps.refl _ _) rfl (H.glob)
          case o9 =>
            intro L vs A W H hf hd K hK
            have e76 := H.is 3 76 rfl rfl rfl (deps_of' hd 3 (by kernel_rfl)) (by kernel_rfl)
            have e81 := H.is 8 81 rfl rfl rfl (deps_of' hd 8 (by kernel_rfl)) (by kernel_rfl)
            go_simp
            exact hK _ _ (Keeps.refl _ _) rfl (H.glob)
          case o10 =>
            intro L vs A W H hf hd K hK
            have e0 : A.tmps[0]?.getD undef = .int .u64 base := H.old 0 (by kernel_rfl)
            go_simp
            exact hK _ _ (Keeps.refl _ _) rfl (H.glob)
          case o11 =>
            intro L vs A W H hf hd K hK
            have e14 : A.tmps[14]?.getD undef = .int .i64 ii := H.old 14 (by kernel_rfl)
            go_simp
            exact hK _ _ (Keeps.refl _ _) rfl (H.glob)
          case o12 =>
            intro L vs A W H hf hd K hK
            have e83 := H.is 10 83 rfl rfl rfl (deps_of' hd 10 (by kernel_rfl)) (by kernel_rfl)
            have e84 := H.is 11 84 rfl rfl rfl (deps_of' hd 11 (by kernel_rfl)) (by kernel_rfl)
            rw [if_pos (show Region.wanted _ _ = true from rfl)]
            go_wp2_with (fail)
            refine (HKt.out _).mono ?_
            rintro e W2 ⟨rfl, rfl⟩
            exact hK _ _ (Keeps.refl _ _) rfl H.glob
          case o13 =>
            intro L vs A W H hf hd K hK
            have e14 : A.tmps[14]?.getD undef = .int .i64 ii := H.old 14 (by kernel_rfl)
            go_simp
            exact hK _ _ (Keeps.refl _ _) rfl (H.glob)
          case o14 =>
            intro L vs A W H hf hd K hK
            have e86 := H.is 13 86 rfl rfl rfl (deps_of' hd 13 (by kernel_rfl)) (by kernel_rfl)
            have wk := HWk.out
            go_simp
            exact hK _ _ (Keeps.refl _ _) rfl (H.glob)
          case o15 =>
            intro L vs A W H hf hd K hK
            have e5 : A.tmps[5]?.getD undef = .pointer (some ⟨b5, 0, none⟩) := H.old 5 (by kernel_rfl)
            go_simp
            exact hK _ _ (Keeps.refl _ _) rfl (H.glob)
          case o16 =>
            intro L vs A W H hf hd K hK
            have e88 := H.is 15 88 rfl rfl rfl (deps_of' hd 15 (by kernel_rfl)) (by kernel_rfl)
            have e87 := H.is 14 87 rfl rfl rfl (deps_of' hd 14 (by kernel_rfl)) (by kernel_rfl)
            go_simp
            exact hK _ _ (Keeps.refl _ _) rfl (H.glob)
          case o17 =>
            intro L vs A W H hf hd K hK
            have e89 := H.is 16 89 rfl rfl rfl (deps_of' hd 16 (by kernel_rfl)) (by kernel_rfl)
            have d1 := ((HKr.out.below H.glob.2 HwK.out).cell (5+i1)).trans HX2.out
            go_simp
            exact hK _ _ (Keeps.refl _ _) rfl (H.glob)
          case o18 =>
            intro L vs A W H hf hd K hK
            have e85 := H.is 12 85 rfl rfl rfl (deps_of' hd 12 (by kernel_rfl)) (by kernel_rfl)
            have e90 := H.is 17 90 rfl rfl rfl (deps_of' hd 17 (by kernel_rfl)) (by kernel_rfl)
            go_simp
            exact hK _ _ (Keeps.refl _ _) rfl (H.glob)
          case o19 =>
            intro L vs A W H hf hd K hK
            have e82 := H.is 9 82 rfl rfl rfl (deps_of' hd 9 (by kernel_rfl)) (by kernel_rfl)
            have e91 := H.is 18 91 rfl rfl rfl (deps_of' hd 18 (by kernel_rfl)) (by kernel_rfl)
            have hgs := H.glob.2.size
            go_simp
            exact hK _ _ (Keeps.of_belowS ((Below.refl _ _).alloc (Nat.le_refl _) _)) (RowB.new (l := [(a1, x1), (a2, x2)]) hgs) ⟨(by rcases H.glob.1 with h | h; (exact .inl h); exact .inr (h.below ((Below.refl _ _).alloc (Nat.le_refl _) _))), H.glob.2.trans (((Below.refl _ _).alloc (Nat.le_refl _) _).mono (Nat.le_trans HwR.out H.glob.2.size))⟩
          case o20 =>
            intro L vs A W H hf hd K hK
            have e73 := H.is 0 73 rfl rfl rfl (deps_of' hd 0 (by kernel_rfl)) (by kernel_rfl)
            obtain ⟨v92, e92, q92⟩ := H.val 19 92 rfl rfl rfl (deps_of' hd 19 (by kernel_rfl)) (by kernel_rfl)
            have hfA : L 20 = false := hf
            have hrow : RowB w4.heap.size l0 v0 W := by rcases H.glob.1 with h | h; (rw [hfA] at h; cases h); exact h
            have hgb := H.glob.2
            obtain ⟨aN, mN, cN, rfl⟩ := own_slice q92
            obtain ⟨rfl, hrN⟩ := q92.reads
            refine step_append_any (w := W) rfl (.tmp 73) (.tmp 92) 28 rfl w4.heap.size 36 i0 _ 2 16 Try.underlying28 hi hz0 hz1 hz2 rfl (by omega) v0 l0.length (ecells l0) (ev_tmp e73) hrow W.heap.size aN _ cN (ecells [(a1, x1), (a2, x2)]) (ev_tmp e92) hrN (ecells_oneP _) (by unfold maxLen; have := HLl.out; omega) (by have := HLl.out; omega) (by have := hgb.size; have := HwR.out; omega) ?_
            intro v' w' hown' hg' _
            exact hK _ _ ((Keeps.refl _ _).grown hg' (fun _ e => .inl ⟨rfl, e⟩)) (row_app hown') ⟨.inl rfl, hgb.grown hg' (Nat.le_trans HwR.out hgb.size) (fun r e => own_base hrow _ e)⟩
          case o21 =>
            intro L vs A W H hf hd K hK
            obtain ⟨v93, e93, q93⟩ := H.val 20 93 rfl rfl rfl (deps_of' hd 20 (by kernel_rfl)) (by kernel_rfl)
            rw [if_pos (show Region.wanted _ _ = true from rfl)]
            go_simp
            exact hK _ _ (Keeps.refl _ _) q93 H.glob
          case he =>
            intro vs W hlen hv
            match vs, hlen, hv with
            | [x0_, x1_, x2_, x3_, x4_, x5_, x6_, x7_, x8_, x9_, x10_, x11_, x12_, x13_, x14_, x15_, x16_, x17_, x18_, x19_, x20_, x21_], _, hv =>
            obtain rfl : v0 = x0_ := by obtain ⟨z, h1, h2⟩ := hv 0 _ rfl; cases h1; exact h2.symm
            obtain rfl : (.int .u64 base) = x1_ := by obtain ⟨z, h1, h2⟩ := hv 1 _ rfl; cases h1; exact h2.symm
            obtain rfl : (.int .i64 ii) = x2_ := by obtain ⟨z, h1, h2⟩ := hv 2 _ rfl; cases h1; exact h2.symm
            obtain rfl : (.int .u64 a1) = x3_ := by obtain ⟨z, h1, h2⟩ := hv 3 _ rfl; cases h1; exact h2.symm
            obtain rfl : (.int .i64 ii) = x4_ := by obtain ⟨z, h1, h2⟩ := hv 4 _ rfl; cases h1; exact h2.symm
            obtain rfl : (.int .i64 (i1 : Int)) = x5_ := by obtain ⟨z, h1, h2⟩ := hv 5 _ rfl; cases h1; exact h2.symm
            obtain rfl : (.pointer (some ⟨b5, 13, none⟩)) = x6_ := by obtain ⟨z, h1, h2⟩ := hv 6 _ rfl; cases h1; exact h2.symm
            obtain rfl : (.pointer (some ⟨b5, 13 + i1, none⟩)) = x7_ := by obtain ⟨z, h1, h2⟩ := hv 7 _ rfl; cases h1; exact h2.symm
            obtain rfl : (.int .u64 x1) = x8_ := by obtain ⟨z, h1, h2⟩ := hv 8 _ rfl; cases h1; exact h2.symm
            obtain rfl : (.agg #[.int .u64 a1, .int .u64 x1]) = x9_ := by obtain ⟨z, h1, h2⟩ := hv 9 _ rfl; cases h1; exact h2.symm
            obtain rfl : (.int .u64 base) = x10_ := by obtain ⟨z, h1, h2⟩ := hv 10 _ rfl; cases h1; exact h2.symm
            obtain rfl : (.int .i64 ii) = x11_ := by obtain ⟨z, h1, h2⟩ := hv 11 _ rfl; cases h1; exact h2.symm
            obtain rfl : (.int .u64 a2) = x12_ := by obtain ⟨z, h1, h2⟩ := hv 12 _ rfl; cases h1; exact h2.symm
            obtain rfl : (.int .i64 ii) = x13_ := by obtain ⟨z, h1, h2⟩ := hv 13 _ rfl; cases h1; exact h2.symm
            obtain rfl : (.int .i64 (i1 : Int)) = x14_ := by obtain ⟨z, h1, h2⟩ := hv 14 _ rfl; cases h1; exact h2.symm
            obtain rfl : (.pointer (some ⟨b5, 5, none⟩)) = x15_ := by obtain ⟨z, h1, h2⟩ := hv 15 _ rfl; cases h1; exact h2.symm
            obtain rfl : (.pointer (some ⟨b5, 5 + i1, none⟩)) = x16_ := by obtain ⟨z, h1, h2⟩ := hv 16 _ rfl; cases h1; exact h2.symm
            obtain rfl : (.int .u64 x2) = x17_ := by obtain ⟨z, h1, h2⟩ := hv 17 _ rfl; cases h1; exact h2.symm
            obtain rfl : (.agg #[.int .u64 a2, .int .u64 x2]) = x18_ := by obtain ⟨z, h1, h2⟩ := hv 18 _ rfl; cases h1; exact h2.symm
            have hx19 : (RowB wr.heap.size [(a1, x1), (a2, x2)]) x19_ W := by obtain ⟨z, h1, h2⟩ := hv 19 _ rfl; cases h1; exact h2
            have hx20 : (RowB w4.heap.size (l0 ++ [(a1, x1), (a2, x2)])) x20_ W := by obtain ⟨z, h1, h2⟩ := hv 20 _ rfl; cases h1; exact h2
            have hx21 : (RowB w4.heap.size (l0 ++ [(a1, x1), (a2, x2)])) x21_ W := by obtain ⟨z, h1, h2⟩ := hv 21 _ rfl; cases h1; exact h2
            intro L hall hG
            clear hv hlen
            have HO2 := Lib.hid hx21
            have HK2 := Lib.hid (HKr.out.below hG.2 HwK.out)
            have HB2 := Lib.hid (HBr.out.trans hG.2)
            clear hG hall hx19 hx20 hx21
            simp only [fill, if_true]
            go_simp
            go_wp2_with (fail)
            go_roundw
            case rel => exact ⟨j + 1, i1, Lib.hid (by have := HIJ.out; have := HI1.out; omega), b6, HIv.out, Lib.hid (by have := HO2.out; rwa [← HL0.out, List.append_assoc, HSh.out] at this), HK2, HB2⟩
            case measure => simp [intOf]; omega
          --END
        · have hia : i = at_ := by omega
          subst hia
          have hj : j = many - i := by have := HIJ.out; omega
          have b3 : ¬ (i : Int) < (i : Int) := by omega
          have HPt := Lib.hid (fun w => pt_b base i h0 s2 hi8 w)
          have HKt := Lib.hid (fun w => kt_a base i h0 s2 hi8 w)
          have HAh := Lib.hid (fun w => rahead_v n i hi8 w)
          obtain ⟨a1, ha1⟩ : ∃ x, base + 64 + 16 * (i : Int) + 8 = x := ⟨_, rfl⟩
          obtain ⟨a2, ha2⟩ : ∃ x, base + 64 + 16 * (i : Int) = x := ⟨_, rfl⟩
          obtain ⟨ax, hax⟩ : ∃ x, n.ahead i = x := ⟨_, rfl⟩
          rw [ha1] at HPt
          rw [ha2] at HKt
          rw [hax] at HAh
          have HP2 := Lib.hid (show insL base n key ptr (n.last key + 1).toNat = [(base + 24, cOne n)] ++ (l0 ++ [(a1, ax), (a2, key), (a1, ptr)]) ++ [(base + 24, cTwo n)] by
            rw [HP.out, ← HL0.out, hj, ha1, ha2, hax])
          have HLl := Lib.hid (show l0.length + [(a1, ax), (a2, key), (a1, ptr)].length ≤ 100 by simp; omega)
          have HLw := Lib.hid (show (l0 ++ [(a1, ax), (a2, key), (a1, ptr)]).length ≤ 1000 by simp; omega)
          clear ha1 ha2 hax hj hai hlt hi8 HP
          go_upto_region 19 with (fail)
          --GEN r_dins19
          refine wp_region_vals [Is v0, Is (.int .u64 base), Is (.int .i64 (i : Int)), Is (.int .u64 a1), Is (.agg (ndCells n)), Is (.int .i64 (i : Int)), Is (.int .u64 ax), Is (.agg #[.int .u64 a1, .int .u64 ax]), Is (.int .u64 base), Is (.int .i64 (i : Int)), Is (.int .u64 a2), Is (.int .u64 key), Is (.agg #[.int .u64 a2, .int .u64 key]), Is (.int .u64 base), Is (.int .i64 (i : Int)), Is (.int .u64 a1), Is (.int .u64 ptr), Is (.agg #[.int .u64 a1, .int .u64 ptr]), RowB wr.heap.size [(a1, ax), (a2, key), (a1, ptr)], RowB w4.heap.size (l0 ++ [(a1, ax), (a2, key), (a1, ptr)]), RowB w4.heap.size (l0 ++ [(a1, ax), (a2, key), (a1, ptr)])]
            (fun i => Keeps (fun g => i = 19 ∧ v0.ownBlock = some g)) (fun L W => (L 19 = true ∨ RowB w4.heap.size l0 v0 W) ∧ Below w4.heap.size wr W) (by kernel_rfl) (by kernel_rfl) (by kernel_rfl) ?hst ?h0 ⟨?o0, ?o1, ?o2, ?o3, ?o4, ?o5, ?o6, ?o7, ?o8, ?o9, ?o10, ?o11, ?o12, ?o13, ?o14, ?o15, ?o16, ?o17, ?o18, ?o19, ?o20, trivial⟩ ?he
          case hst =>
            exact ⟨(fun _ _ _ _ _ _ h _ => h), (fun _ _ _ _ _ _ h _ => h), (fun _ _ _ _ _ _ h _ => h), (fun _ _ _ _ _ _ h _ => h), (fun _ _ _ _ _ _ h _ => h), (fun _ _ _ _ _ _ h _ => h), (fun _ _ _ _ _ _ h _ => h), (fun _ _ _ _ _ _ h _ => h), (fun _ _ _ _ _ _ h _ => h), (fun _ _ _ _ _ _ h _ => h), (fun _ _ _ _ _ _ h _ => h), (fun _ _ _ _ _ _ h _ => h), (fun _ _ _ _ _ _ h _ => h), (fun _ _ _ _ _ _ h _ => h), (fun _ _ _ _ _ _ h _ => h), (fun _ _ _ _ _ _ h _ => h), (fun _ _ _ _ _ _ h _ => h), (fun _ _ _ _ _ _ h _ => h), (fun i2 hij hw _ _ _ h hR => (if hA : i2 = 19 then by (subst hA; exact RowB.keepApp h hR hn0) else RowB.below h (Keeps.below (hR.mono (fun _ _ hx => hA hx.1))))), (fun i2 hij hw _ _ _ h hR => (if hA : i2 = 19 then by (subst hA; exact absurd rfl hij) else RowB.below h (Keeps.below (hR.mono (fun _ _ hx => hA hx.1))))), (fun i2 hij hw _ _ _ h hR => (if hA : i2 = 19 then by (subst hA; exact by (have h3 : false = true := hw.symm.trans (by kernel_rfl); cases h3)) else RowB.below h (Keeps.below (hR.mono (fun _ _ hx => hA hx.1))))), trivial⟩
          case h0 =>
            exact ⟨.inr (HO.out.below (Below.refl _ _).drew), (Below.refl _ _).drew⟩
          case o0 =>
            intro L vs A W H hf hd K hK
            have e12 : A.tmps[12]?.getD undef = v0 := H.later 12 0 hf (by kernel_rfl)
            go_simp
            exact hK _ _ (Keeps.refl _ _) rfl (H.glob)
          case o1 =>
            intro L vs A W H hf hd K hK
            have e0 : A.tmps[0]?.getD undef = .int .u64 base := H.old 0 (by kernel_rfl)
            go_simp
            exact hK _ _ (Keeps.refl _ _) rfl (H.glob)
          case o2 =>
            intro L vs A W H hf hd K hK
            have e13 : A.tmps[13]?.getD undef = .int .i64 (i : Int) := H.old 13 (by kernel_rfl)
            go_simp
            exact hK _ _ (Keeps.refl _ _) rfl (H.glob)
          case o3 =>
            intro L vs A W H hf hd K hK
            have e95 := H.is 1 95 rfl rfl rfl (deps_of' hd 1 (by kernel_rfl)) (by kernel_rfl)
            have e96 := H.is 2 96 rfl rfl rfl (deps_of' hd 2 (by kernel_rfl)) (by kernel_rfl)
            rw [if_pos (show Region.wanted _ _ = true from rfl)]
            go_wp2_with (fail)
            refine (HPt.out _).mono ?_
            rintro e W2 ⟨rfl, rfl⟩
            exact hK _ _ (Keeps.refl _ _) rfl H.glob
          case o4 =>
            intro L vs A W H hf hd K hK
            have e5 : A.tmps[5]?.getD undef = .pointer (some ⟨b5, 0, none⟩) := H.old 5 (by kernel_rfl)
            rw [if_pos (show Region.wanted _ _ = true from rfl)]
            exact wp_load_nd _ rfl b5 n (ev_tmp e5) (HKr.out.below H.glob.2 HwK.out) (hK _ _ (Keeps.refl _ _) rfl H.glob)
          case o5 =>
            intro L vs A W H hf hd K hK
            have e13 : A.tmps[13]?.getD undef = .int .i64 (i : Int) := H.old 13 (by kernel_rfl)
            go_simp
            exact hK _ _ (Keeps.refl _ _) rfl (H.glob)
          case o6 =>
            intro L vs A W H hf hd K hK
            have e98 := H.is 4 98 rfl rfl rfl (deps_of' hd 4 (by kernel_rfl)) (by kernel_rfl)
            have e99 := H.is 5 99 rfl rfl rfl (deps_of' hd 5 (by kernel_rfl)) (by kernel_rfl)
            rw [if_pos (show Region.wanted _ _ = true from rfl)]
            go_wp2_with (fail)
            refine (HAh.out _).mono ?_
            rintro e W2 ⟨rfl, hB⟩
            exact hK _ _ (Keeps.of_belowS hB) rfl ⟨(by rcases H.glob.1 with h | h; (exact .inl h); exact .inr (h.below hB)), H.glob.2.trans (hB.mono (Nat.le_trans HwR.out H.glob.2.size))⟩
          case o7 =>
            intro L vs A W H hf hd K hK
            have e97 := H.is 3 97 rfl rfl rfl (deps_of' hd 3 (by kernel_rfl)) (by kernel_rfl)
            have e100 := H.is 6 100 rfl rfl rfl (deps_of' hd 6 (by kernel_rfl)) (by kernel_rfl)
            go_simp
            exact hK _ _ (Keeps.refl _ _) rfl (H.glob)
          case o8 =>
            intro L vs A W H hf hd K hK
            have e0 : A.tmps[0]?.getD undef = .int .u64 base := H.old 0 (by kernel_rfl)
            go_simp
            exact hK _ _ (Keeps.refl _ _) rfl (H.glob)
          case o9 =>
            intro L vs A W H hf hd K hK
            have e13 : A.tmps[13]?.getD undef = .int .i64 (i : Int) := H.old 13 (by kernel_rfl)
            go_simp
            exact hK _ _ (Keeps.refl _ _) rfl (H.glob)
          case o10 =>
            intro L vs A W H hf hd K hK
            have e102 := H.is 8 102 rfl rfl rfl (deps_of' hd 8 (by kernel_rfl)) (by kernel_rfl)
            have e103 := H.is 9 103 rfl rfl rfl (deps_of' hd 9 (by kernel_rfl)) (by kernel_rfl)
            rw [if_pos (show Region.wanted _ _ = true from rfl)]
            go_wp2_with (fail)
            refine (HKt.out _).mono ?_
            rintro e W2 ⟨rfl, rfl⟩
            exact hK _ _ (Keeps.refl _ _) rfl H.glob
          case o11 =>
            intro L vs A W H hf hd K hK
            have e2 : A.tmps[2]?.getD undef = .int .u64 key := H.old 2 (by kernel_rfl)
            go_simp
            exact hK _ _ (Keeps.refl _ _) rfl (H.glob)
          case o12 =>
            intro L vs A W H hf hd K hK
            have e104 := H.is 10 104 rfl rfl rfl (deps_of' hd 10 (by kernel_rfl)) (by kernel_rfl)
            have e105 := H.is 11 105 rfl rfl rfl (deps_of' hd 11 (by kernel_rfl)) (by kernel_rfl)
            go_simp
            exact hK _ _ (Keeps.refl _ _) rfl (H.glob)
          case o13 =>
            intro L vs A W H hf hd K hK
            have e0 : A.tmps[0]?.getD undef = .int .u64 base := H.old 0 (by kernel_rfl)
            go_simp
            exact hK _ _ (Keeps.refl _ _) rfl (H.glob)
          case o14 =>
            intro L vs A W H hf hd K hK
            have e13 : A.tmps[13]?.getD undef = .int .i64 (i : Int) := H.old 13 (by kernel_rfl)
            go_simp
            exact hK _ _ (Keeps.refl _ _) rfl (H.glob)
          case o15 =>
            intro L vs A W H hf hd K hK
            have e107 := H.is 13 107 rfl rfl rfl (deps_of' hd 13 (by kernel_rfl)) (by kernel_rfl)
            have e108 := H.is 14 108 rfl rfl rfl (deps_of' hd 14 (by kernel_rfl)) (by kernel_rfl)
            rw [if_pos (show Region.wanted _ _ = true from rfl)]
            go_wp2_with (fail)
            refine (HPt.out _).mono ?_
            rintro e W2 ⟨rfl, rfl⟩
            exact hK _ _ (Keeps.refl _ _) rfl H.glob
          case o16 =>
            intro L vs A W H hf hd K hK
            have e3 : A.tmps[3]?.getD undef = .int .u64 ptr := H.old 3 (by kernel_rfl)
            go_simp
            exact hK _ _ (Keeps.refl _ _) rfl (H.glob)
          case o17 =>
            intro L vs A W H hf hd K hK
            have e109 := H.is 15 109 rfl rfl rfl (deps_of' hd 15 (by kernel_rfl)) (by kernel_rfl)
            have e110 := H.is 16 110 rfl rfl rfl (deps_of' hd 16 (by kernel_rfl)) (by kernel_rfl)
            go_simp
            exact hK _ _ (Keeps.refl _ _) rfl (H.glob)
          case o18 =>
            intro L vs A W H hf hd K hK
            have e101 := H.is 7 101 rfl rfl rfl (deps_of' hd 7 (by kernel_rfl)) (by kernel_rfl)
            have e106 := H.is 12 106 rfl rfl rfl (deps_of' hd 12 (by kernel_rfl)) (by kernel_rfl)
            have e111 := H.is 17 111 rfl rfl rfl (deps_of' hd 17 (by kernel_rfl)) (by kernel_rfl)
            have hgs := H.glob.2.size
            go_simp
            exact hK _ _ (Keeps.of_belowS ((Below.refl _ _).alloc (Nat.le_refl _) _)) (RowB.new (l := [(a1, ax), (a2, key), (a1, ptr)]) hgs) ⟨(by rcases H.glob.1 with h | h; (exact .inl h); exact .inr (h.below ((Below.refl _ _).alloc (Nat.le_refl _) _))), H.glob.2.trans (((Below.refl _ _).alloc (Nat.le_refl _) _).mono (Nat.le_trans HwR.out H.glob.2.size))⟩
          case o19 =>
            intro L vs A W H hf hd K hK
            have e94 := H.is 0 94 rfl rfl rfl (deps_of' hd 0 (by kernel_rfl)) (by kernel_rfl)
            obtain ⟨v112, e112, q112⟩ := H.val 18 112 rfl rfl rfl (deps_of' hd 18 (by kernel_rfl)) (by kernel_rfl)
            have hfA : L 19 = false := hf
            have hrow : RowB w4.heap.size l0 v0 W := by rcases H.glob.1 with h | h; (rw [hfA] at h; cases h); exact h
            have hgb := H.glob.2
            obtain ⟨aN, mN, cN, rfl⟩ := own_slice q112
            obtain ⟨rfl, hrN⟩ := q112.reads
            refine step_append_any (w := W) rfl (.tmp 94) (.tmp 112) 28 rfl w4.heap.size 36 i0 _ 2 16 Try.underlying28 hi hz0 hz1 hz2 rfl (by omega) v0 l0.length (ecells l0) (ev_tmp e94) hrow W.heap.size aN _ cN (ecells [(a1, ax), (a2, key), (a1, ptr)]) (ev_tmp e112) hrN (ecells_oneP _) (by unfold maxLen; have := HLl.out; omega) (by have := HLl.out; omega) (by have := hgb.size; have := HwR.out; omega) ?_
            intro v' w' hown' hg' _
            exact hK _ _ ((Keeps.refl _ _).grown hg' (fun _ e => .inl ⟨rfl, e⟩)) (row_app hown') ⟨.inl rfl, hgb.grown hg' (Nat.le_trans HwR.out hgb.size) (fun r e => own_base hrow _ e)⟩
          case o20 =>
            intro L vs A W H hf hd K hK
            obtain ⟨v113, e113, q113⟩ := H.val 19 113 rfl rfl rfl (deps_of' hd 19 (by kernel_rfl)) (by kernel_rfl)
            rw [if_pos (show Region.wanted _ _ = true from rfl)]
            go_simp
            exact hK _ _ (Keeps.refl _ _) q113 H.glob
          case he =>
            intro vs W hlen hv
            match vs, hlen, hv with
            | [x0_, x1_, x2_, x3_, x4_, x5_, x6_, x7_, x8_, x9_, x10_, x11_, x12_, x13_, x14_, x15_, x16_, x17_, x18_, x19_, x20_], _, hv =>
            obtain rfl : v0 = x0_ := by obtain ⟨z, h1, h2⟩ := hv 0 _ rfl; cases h1; exact h2.symm
            obtain rfl : (.int .u64 base) = x1_ := by obtain ⟨z, h1, h2⟩ := hv 1 _ rfl; cases h1; exact h2.symm
            obtain rfl : (.int .i64 (i : Int)) = x2_ := by obtain ⟨z, h1, h2⟩ := hv 2 _ rfl; cases h1; exact h2.symm
            obtain rfl : (.int .u64 a1) = x3_ := by obtain ⟨z, h1, h2⟩ := hv 3 _ rfl; cases h1; exact h2.symm
            obtain rfl : (.agg (ndCells n)) = x4_ := by obtain ⟨z, h1, h2⟩ := hv 4 _ rfl; cases h1; exact h2.symm
            obtain rfl : (.int .i64 (i : Int)) = x5_ := by obtain ⟨z, h1, h2⟩ := hv 5 _ rfl; cases h1; exact h2.symm
            obtain rfl : (.int .u64 ax) = x6_ := by obtain ⟨z, h1, h2⟩ := hv 6 _ rfl; cases h1; exact h2.symm
            obtain rfl : (.agg #[.int .u64 a1, .int .u64 ax]) = x7_ := by obtain ⟨z, h1, h2⟩ := hv 7 _ rfl; cases h1; exact h2.symm
            obtain rfl : (.int .u64 base) = x8_ := by obtain ⟨z, h1, h2⟩ := hv 8 _ rfl; cases h1; exact h2.symm
            obtain rfl : (.int .i64 (i : Int)) = x9_ := by obtain ⟨z, h1, h2⟩ := hv 9 _ rfl; cases h1; exact h2.symm
            obtain rfl : (.int .u64 a2) = x10_ := by obtain ⟨z, h1, h2⟩ := hv 10 _ rfl; cases h1; exact h2.symm
            obtain rfl : (.int .u64 key) = x11_ := by obtain ⟨z, h1, h2⟩ := hv 11 _ rfl; cases h1; exact h2.symm
            obtain rfl : (.agg #[.int .u64 a2, .int .u64 key]) = x12_ := by obtain ⟨z, h1, h2⟩ := hv 12 _ rfl; cases h1; exact h2.symm
            obtain rfl : (.int .u64 base) = x13_ := by obtain ⟨z, h1, h2⟩ := hv 13 _ rfl; cases h1; exact h2.symm
            obtain rfl : (.int .i64 (i : Int)) = x14_ := by obtain ⟨z, h1, h2⟩ := hv 14 _ rfl; cases h1; exact h2.symm
            obtain rfl : (.int .u64 a1) = x15_ := by obtain ⟨z, h1, h2⟩ := hv 15 _ rfl; cases h1; exact h2.symm
            obtain rfl : (.int .u64 ptr) = x16_ := by obtain ⟨z, h1, h2⟩ := hv 16 _ rfl; cases h1; exact h2.symm
            obtain rfl : (.agg #[.int .u64 a1, .int .u64 ptr]) = x17_ := by obtain ⟨z, h1, h2⟩ := hv 17 _ rfl; cases h1; exact h2.symm
            have hx18 : (RowB wr.heap.size [(a1, ax), (a2, key), (a1, ptr)]) x18_ W := by obtain ⟨z, h1, h2⟩ := hv 18 _ rfl; cases h1; exact h2
            have hx19 : (RowB w4.heap.size (l0 ++ [(a1, ax), (a2, key), (a1, ptr)])) x19_ W := by obtain ⟨z, h1, h2⟩ := hv 19 _ rfl; cases h1; exact h2
            have hx20 : (RowB w4.heap.size (l0 ++ [(a1, ax), (a2, key), (a1, ptr)])) x20_ W := by obtain ⟨z, h1, h2⟩ := hv 20 _ rfl; cases h1; exact h2
            intro L hall hG
            clear hv hlen
            have HO2 := Lib.hid hx20
            have HL2 := Lib.hid (ndLoad (HKr.out.below hG.2 HwK.out))
            have HB2 := Lib.hid (HBr.out.trans hG.2)
            clear hG hall hx18 hx19 hx20
            simp only [fill, if_true]
            go_simp
          --END
            have hx1 : Hid (RowB w4.heap.size (l0 ++ [(a1, ax), (a2, key), (a1, ptr)]) x20_ W) := HO2
            go_wp2_with (with_reducible refine wpList_load_part (o := ⟨some 115, _, _, _, _, _⟩) rfl 27 _ rfl b5 0 rfl (ndCells n) _ HL2.out Try.underlying27 rfl HI.out ?_)
            refine (whole_v base n _ _ _ _ h0 s2 HLw.out hx1.out).mono ?_
            rintro e W2 ⟨v, rfl, ho, hB⟩
            obtain ⟨aa, mm, cc, rfl⟩ := own_slice ho
            have HBf := Lib.hid (HB4.out.trans ((HB2.out.trans (hB.mono HB2.out.size)).mono HB4.out.size))
            have HD := Lib.hid (show MadeP (insL base n key ptr (n.last key + 1).toNat) 0 w (.returned (.tuple #[.slice aa mm cc, .int .i64 0])) W2 from MadeP.row ho HBf.out (Nat.le_trans HB4.out.size HB2.out.size) HP2.out.symm)
            clear ho hB
            go_wp2_with (fail)
            go_ret2
            exact HD.out

theorem insert_d (base : Int) (n : Nd) (key ptr : Int) (h0 : 0 ≤ base) (w : World) :
    Calls Try.prog 33 #[.int .u64 base, .agg (ndCells n), .int .u64 key, .int .u64 ptr] w fun e w' => MadeP (insP base n key ptr) (insE base n key ptr) w e w' := by
  have none_ : ∀ c, c ≠ 0 → insE base n key ptr = c → insP base n key ptr = [] := fun c hc h => by unfold insP; rw [h, if_neg hc]
  by_cases h2 : mayE base n = 2
  · have hE : insE base n key ptr = 2 := by unfold insE; rw [if_pos (.inl h2)]
    rw [none_ 2 (by decide) hE, hE]
    exact dins_2 base n key ptr h0 w h2
  by_cases hf : freshB n ptr = false
  · have hE : insE base n key ptr = 2 := by unfold insE; rw [if_pos (.inr hf)]
    rw [none_ 2 (by decide) hE, hE]
    exact dins_old base n key ptr h0 w h2 hf
  have hft : freshB n ptr = true := by simpa using hf
  have h2f : ¬ (mayE base n = 2 ∨ freshB n ptr = false) := fun h => h.elim h2 hf
  by_cases hm0 : mayE base n = 0
  · by_cases hb : badKey n key = true
    · have hE : insE base n key ptr = 2 := by unfold insE; rw [if_neg h2f, if_neg (by omega), if_pos hb]
      rw [none_ 2 (by decide) hE, hE]
      exact dins_bad base n key ptr h0 w hm0 hft hb
    · have hbf : badKey n key = false := by simpa using hb
      by_cases h8 : n.len = 8
      · have hE : insE base n key ptr = 4 := by unfold insE; rw [if_neg h2f, if_neg (by omega), if_neg hb, if_pos h8]
        rw [none_ 4 (by decide) hE, hE]
        exact dins_full base n key ptr h0 w hm0 hft hbf h8
      · have hE : insE base n key ptr = 0 := by unfold insE; rw [if_neg h2f, if_neg (by omega), if_neg hb, if_neg h8]
        have hP : insP base n key ptr = insL base n key ptr (n.last key + 1).toNat := by unfold insP; rw [if_pos hE]
        rw [hP, hE]
        exact dins_ok base n key ptr h0 w hm0 hft hbf (by have := n.len_le; omega)
  · have hE : insE base n key ptr = mayE base n := by unfold insE; rw [if_neg h2f, if_pos hm0]
    rw [none_ (mayE base n) hm0 hE, hE]
    exact dins_state base n key ptr h0 w h2 hm0 hft
end Go.Proofs.Ytbpaefhihdhdeaa
namespace Go.Proofs.Ytbpaefhihdhdeaa
open Go.RowKit
set_option linter.unusedVariables false

/-- how many stores there are -/
theorem made_len (base : Int) (n : Nd) (kd key ptr : Int) : (madeL base n kd key ptr).length ≤ 40 := by
  have h8 := n.len_le
  unfold madeL
  split
  · unfold insP
    split
    · unfold insL
      have : (n.last key + 1).toNat ≤ n.len := by have := last_ge n key; omega
      have h2 := shiftL_len base n n.len (n.len - (n.last key + 1).toNat)
      simp only [List.length_append, h2]
      split <;> simp <;> omega
    · simp
  split
  · unfold delP
    split
    · unfold delL; simp only [List.length_append, gapL_len]; simp; omega
    · simp
  split
  · unfold repP
    split
    · unfold repL; simp only [List.length_append, gapL_len]; simp; omega
    · simp
  split
  · unfold swapP; split <;> simp
  split
  · unfold cutP; split <;> simp
  · unfold linkP; split <;> simp
set_option maxRecDepth 100000 in
set_option maxHeartbeats 6400000 in
theorem want_v (base : Int) (n : Nd) (kind key ptr : Int) (h0 : 0 ≤ base) (w : World) :
    Calls Try.prog 13 #[.int .u64 base, .agg (ndCells n), .agg (askC kind key ptr)] w fun e w' => MadeP (madeL base n (kdOf kind) key ptr) (madeC base n (kdOf kind) key ptr) w e w' := by
  have HI := Lib.hid (info27 n)
  have hk0 : Blk ((w.alloc (.cells (ndCells n) 27)).alloc (.cells (askC kind key ptr) 39)) w.heap.size (ndCells n) 27 := (Blk.new w _ _).alloc _
  have HL0 := Lib.hid (ndLoad hk0)
  have HB0 := Lib.hid (((Below.refl w.heap.size w).alloc (Nat.le_refl _) (.cells (ndCells n) 27)).alloc (by simp) (.cells (askC kind key ptr) 39))
  obtain ⟨u, hu⟩ : ∃ u, IntKind.u64.wrap kind = u := ⟨_, rfl⟩
  have HU := Lib.hid (show kdOf kind = u % 6 by unfold kdOf; rw [hu])
  have hu0 : 0 ≤ u := by rw [← hu, IntKind.wrap_u64]; omega
  clear hk0
  unfold askC at *
  rcases kdOf_lt kind with h | h | h | h | h | h
  · have HP := Lib.hid (show madeL base n (kdOf kind) key ptr = insP base n key ptr ∧ madeC base n (kdOf kind) key ptr = insE base n key ptr by rw [h]; exact ⟨rfl, rfl⟩)
    have hd : u % 6 = 0 := by rw [← HU.out]; exact h
    have HC := Lib.hid (fun w => insert_d base n key ptr h0 w)
    clear h
    go_enter Try.func13, Try.ntmps13
    go_wp2_with (with_reducible refine wpList_load_part (o := ⟨some 15, _, _, _, _, _⟩) rfl 27 _ rfl w.heap.size 0 rfl (ndCells n) _ HL0.out Try.underlying27 rfl HI.out ?_)
    refine (HC.out _).mono ?_
    rintro e w1 ⟨a, m, c, rfl, hml, ho, hB⟩
    have HD := Lib.hid (show MadeP (madeL base n (kdOf kind) key ptr) (madeC base n (kdOf kind) key ptr) w (.returned (.tuple #[.slice a m c, .int .i64 (insE base n key ptr)])) w1 from by rw [HP.out.1, HP.out.2]; exact MadeP.keep ⟨a, m, c, rfl, hml, ho, hB⟩ HB0.out)
    clear hml ho hB
    go_wp2_with (fail)
    go_ret2
    exact HD.out
  · have HP := Lib.hid (show madeL base n (kdOf kind) key ptr = delP base n key ∧ madeC base n (kdOf kind) key ptr = delE base n key by rw [h]; exact ⟨rfl, rfl⟩)
    have hd : u % 6 = 1 := by rw [← HU.out]; exact h
    have HC := Lib.hid (fun w => delete_d base n key h0 w)
    clear h
    go_enter Try.func13, Try.ntmps13
    go_wp2_with (with_reducible refine wpList_load_part (o := ⟨some 26, _, _, _, _, _⟩) rfl 27 _ rfl w.heap.size 0 rfl (ndCells n) _ HL0.out Try.underlying27 rfl HI.out ?_)
    refine (HC.out _).mono ?_
    rintro e w1 ⟨a, m, c, rfl, hml, ho, hB⟩
    have HD := Lib.hid (show MadeP (madeL base n (kdOf kind) key ptr) (madeC base n (kdOf kind) key ptr) w (.returned (.tuple #[.slice a m c, .int .i64 (delE base n key)])) w1 from by rw [HP.out.1, HP.out.2]; exact MadeP.keep ⟨a, m, c, rfl, hml, ho, hB⟩ HB0.out)
    clear hml ho hB
    go_wp2_with (fail)
    go_ret2
    exact HD.out
  · have HP := Lib.hid (show madeL base n (kdOf kind) key ptr = repP base n ∧ madeC base n (kdOf kind) key ptr = repE base n by rw [h]; exact ⟨rfl, rfl⟩)
    have hd : u % 6 = 2 := by rw [← HU.out]; exact h
    have HC := Lib.hid (fun w => repair_d base n h0 w)
    clear h
    go_enter Try.func13, Try.ntmps13
    go_wp2_with (with_reducible refine wpList_load_part (o := ⟨some 35, _, _, _, _, _⟩) rfl 27 _ rfl w.heap.size 0 rfl (ndCells n) _ HL0.out Try.underlying27 rfl HI.out ?_)
    refine (HC.out _).mono ?_
    rintro e w1 ⟨a, m, c, rfl, hml, ho, hB⟩
    have HD := Lib.hid (show MadeP (madeL base n (kdOf kind) key ptr) (madeC base n (kdOf kind) key ptr) w (.returned (.tuple #[.slice a m c, .int .i64 (repE base n)])) w1 from by rw [HP.out.1, HP.out.2]; exact MadeP.keep ⟨a, m, c, rfl, hml, ho, hB⟩ HB0.out)
    clear hml ho hB
    go_wp2_with (fail)
    go_ret2
    exact HD.out
  · have HP := Lib.hid (show madeL base n (kdOf kind) key ptr = swapP base n key ptr ∧ madeC base n (kdOf kind) key ptr = swapE base n key ptr by rw [h]; exact ⟨rfl, rfl⟩)
    have hd : u % 6 = 3 := by rw [← HU.out]; exact h
    have HC := Lib.hid (fun w => swap_d base n key ptr h0 w)
    clear h
    go_enter Try.func13, Try.ntmps13
    go_wp2_with (with_reducible refine wpList_load_part (o := ⟨some 42, _, _, _, _, _⟩) rfl 27 _ rfl w.heap.size 0 rfl (ndCells n) _ HL0.out Try.underlying27 rfl HI.out ?_)
    refine (HC.out _).mono ?_
    rintro e w1 ⟨a, m, c, rfl, hml, ho, hB⟩
    have HD := Lib.hid (show MadeP (madeL base n (kdOf kind) key ptr) (madeC base n (kdOf kind) key ptr) w (.returned (.tuple #[.slice a m c, .int .i64 (swapE base n key ptr)])) w1 from by rw [HP.out.1, HP.out.2]; exact MadeP.keep ⟨a, m, c, rfl, hml, ho, hB⟩ HB0.out)
    clear hml ho hB
    go_wp2_with (fail)
    go_ret2
    exact HD.out
  · have HP := Lib.hid (show madeL base n (kdOf kind) key ptr = cutP base n key ∧ madeC base n (kdOf kind) key ptr = cutE base n key by rw [h]; exact ⟨rfl, rfl⟩)
    have hd : u % 6 = 4 := by rw [← HU.out]; exact h
    have HC := Lib.hid (fun w => cut_d base n key h0 w)
    clear h
    go_enter Try.func13, Try.ntmps13
    go_wp2_with (with_reducible refine wpList_load_part (o := ⟨some 53, _, _, _, _, _⟩) rfl 27 _ rfl w.heap.size 0 rfl (ndCells n) _ HL0.out Try.underlying27 rfl HI.out ?_)
    refine (HC.out _).mono ?_
    rintro e w1 ⟨a, m, c, rfl, hml, ho, hB⟩
    have HD := Lib.hid (show MadeP (madeL base n (kdOf kind) key ptr) (madeC base n (kdOf kind) key ptr) w (.returned (.tuple #[.slice a m c, .int .i64 (cutE base n key)])) w1 from by rw [HP.out.1, HP.out.2]; exact MadeP.keep ⟨a, m, c, rfl, hml, ho, hB⟩ HB0.out)
    clear hml ho hB
    go_wp2_with (fail)
    go_ret2
    exact HD.out
  · have HP := Lib.hid (show madeL base n (kdOf kind) key ptr = linkP base n ptr ∧ madeC base n (kdOf kind) key ptr = mayE base n by rw [h]; exact ⟨rfl, rfl⟩)
    have hd : u % 6 = 5 := by rw [← HU.out]; exact h
    have HC := Lib.hid (fun w => link_d base n ptr h0 w)
    clear h
    go_enter Try.func13, Try.ntmps13
    go_wp2_with (with_reducible refine wpList_load_part (o := ⟨some 60, _, _, _, _, _⟩) rfl 27 _ rfl w.heap.size 0 rfl (ndCells n) _ HL0.out Try.underlying27 rfl HI.out ?_)
    refine (HC.out _).mono ?_
    rintro e w1 ⟨a, m, c, rfl, hml, ho, hB⟩
    have HD := Lib.hid (show MadeP (madeL base n (kdOf kind) key ptr) (madeC base n (kdOf kind) key ptr) w (.returned (.tuple #[.slice a m c, .int .i64 (mayE base n)])) w1 from by rw [HP.out.1, HP.out.2]; exact MadeP.keep ⟨a, m, c, rfl, hml, ho, hB⟩ HB0.out)
    clear hml ho hB
    go_wp2_with (fail)
    go_ret2
    exact HD.out

/-! ### FastStores -/
set_option maxRecDepth 100000 in
set_option maxHeartbeats 3200000 in
theorem stores_law (base : Int) (n : Nd) (kind key ptr : Int) (h0 : 0 ≤ base) (w : World) :
    Calls Try.prog 4 #[.int .u64 base, .agg (ndCells n), .agg (askC kind key ptr)] w fun e w' => e = .returned (.bool true) ∧ Below w.heap.size w w' := by
  have HI := Lib.hid (info27 n)
  have hk0 : Blk ((w.alloc (.cells (ndCells n) 27)).alloc (.cells (askC kind key ptr) 39)) w.heap.size (ndCells n) 27 := (Blk.new w _ _).alloc _
  have hg0 : Blk ((w.alloc (.cells (ndCells n) 27)).alloc (.cells (askC kind key ptr) 39)) (w.heap.size + 1) (askC kind key ptr) 39 := by
    have := Blk.new (w.alloc (.cells (ndCells n) 27)) (askC kind key ptr) 39
    simpa using this
  have HK0 := Lib.hid hk0
  have HG0 := Lib.hid hg0
  have HL0 := Lib.hid (ndLoad hk0)
  have HB0 := Lib.hid (((Below.refl w.heap.size w).alloc (Nat.le_refl _) (.cells (ndCells n) 27)).alloc (by simp) (.cells (askC kind key ptr) 39))
  have HMd := Lib.hid (fun w => made_v base n kind key ptr w)
  have HWt := Lib.hid (fun w => want_v base n kind key ptr h0 w)
  have HLn := Lib.hid (made_len base n (kdOf kind) key ptr)
  obtain ⟨L, hL⟩ : ∃ l, madeL base n (kdOf kind) key ptr = l := ⟨_, rfl⟩
  obtain ⟨C, hC⟩ : ∃ l, madeC base n (kdOf kind) key ptr = l := ⟨_, rfl⟩
  rw [hL, hC] at HMd HWt
  rw [hL] at HLn
  clear hk0 hg0 hL hC
  unfold askC at *
  go_enter Try.func4, Try.ntmps4
  go_wp2_with (with_reducible refine wpList_load_part (o := ⟨some 13, _, _, _, _, _⟩) rfl 27 _ rfl w.heap.size 0 rfl (ndCells n) _ HL0.out Try.underlying27 rfl HI.out ?_)
  refine (HMd.out _).mono ?_
  rintro e w1 ⟨a1, m1, c1, rfl, hm1, ho1, hB⟩
  have HB1 := Lib.hid (HB0.out.trans (hB.mono HB0.out.size))
  have HK1 := Lib.hid (HK0.out.below hB HK0.out.lt)
  have HG1 := Lib.hid (HG0.out.below hB HG0.out.lt)
  have HL1 := Lib.hid (ndLoad HK1.out)
  have HO1 := Lib.hid ho1
  have g0 : w1.cell? ⟨w.heap.size + 1, 0, none⟩ = some (.int .i64 kind) := by rw [HG1.out.cell]; rfl
  have g1 : w1.cell? ⟨w.heap.size + 1, 1, none⟩ = some (.int .u64 key) := by rw [HG1.out.cell]; rfl
  have g2 : w1.cell? ⟨w.heap.size + 1, 2, none⟩ = some (.int .u64 ptr) := by rw [HG1.out.cell]; rfl
  clear hB hm1 ho1
  go_wp2_with (with_reducible refine wpList_load_part (o := ⟨some 20, _, _, _, _, _⟩) rfl 27 _ rfl w.heap.size 0 rfl (ndCells n) _ HL1.out Try.underlying27 rfl HI.out ?_)
  refine (HWt.out _).mono ?_
  rintro e w2 ⟨a2, m2, c2, rfl, hm2, ho2, hB⟩
  have HB2 := Lib.hid (HB1.out.trans (hB.mono HB1.out.size))
  have HS := Lib.hid (psame_calls L L _ _ _ _ w2 (by have := HLn.out; omega) (own_below HO1.out hB) ho2)
  have q1 : (L == L) = true := beq_self_eq_true L
  have q2 : (C == C) = true := beq_self_eq_true C
  rw [q1] at HS
  clear hB hm2 ho2 q1 g0 g1 g2
  go_wp2_with (fail)
  refine HS.out.mono ?_
  rintro e w3 ⟨rfl, hB⟩
  have HB3 := Lib.hid (HB2.out.trans (hB.mono HB2.out.size))
  clear hB
  go_wp2_with (fail)
  refine (known_v _).mono ?_
  rintro e w4 ⟨rfl, hB⟩
  have HB4 := Lib.hid (HB3.out.trans (hB.mono HB3.out.size))
  clear hB
  go_wp2_with (fail)
  go_ret
  exact ⟨rfl, HB4.out⟩
end Go.Proofs.Ytbpaefhihdhdeaa
