/-
  node.rise of any row, node.May: contracts.
-/
import Derived.Test.YtgmbnoimlffgcaaRwN
namespace Go.Proofs.Ytgmbnoimlffgcaa
open Go.RowKit

theorem nrise_nil (lv lo fi : Int) (a : Option Addr) (c : Nat) (w : World) :
    Calls Try.prog 102 #[.int .i64 lv, .int .u64 lo, .int .u64 fi, .slice a 0 c] w fun e W' => e = .returned (.bool (riseB lv lo fi [])) ∧ Below w.heap.size w W' := by
  go_enter Try.func102, Try.ntmps102
  go_wp2_with (fail)
  refine wp_loop_rounds 1 ?_
  rw [rounds_succ]
  go_wp2_with (fail)
  go_ret
  exact ⟨rfl, Below.refl _ _⟩

theorem nrise_calls (lv lo fi : Int) (l : List (Int × Int)) (v : Value) (base : Nat) (w : World) (hn : l.length ≤ 1000000) (hv : w.ownsRow base 113 2 v l.length (ecells l)) :
    Calls Try.prog 102 #[.int .i64 lv, .int .u64 lo, .int .u64 fi, v] w fun e W' => e = .returned (.bool (riseB lv lo fi l)) ∧ Below w.heap.size w W' := by
  by_cases hp : 0 < l.length
  · obtain ⟨g, cap, rfl, _, _, hc, _, hE⟩ := own_ents hv rfl hp
    exact nrise_pos lv lo fi l g cap w hn hp hc hE
  · have h0 : l = [] := List.eq_nil_of_length_eq_zero (by omega)
    subst h0
    obtain ⟨_, ⟨rfl, _⟩ | ⟨g, cap, cur, rfl, _⟩⟩ := hv
    · exact nrise_nil lv lo fi _ _ w
    · exact nrise_nil lv lo fi _ _ w

/-- a load of an aggregate that a guard lets be -/
theorem wpList_load_gd {P : Program} {ops : Array Oper} {rest : List Oper} {o : Oper} {a : Act} {w : World} {Q : Exit → Act → World → Prop} (ty : TypeId) (x : Operand) (ho : o.op = .load ty x)
    (g off : Nat) (hx : a.eval x = .pointer (some ⟨g, off, none⟩)) (cs : Array Value) (d : TypeDesc) (hc : ∀ j v, cs[j]? = some v → w.cell? ⟨g, off + j, none⟩ = some v)
    (hu : P.underlying ty = some d) (hd : (match d with | .struct _ | .array _ _ => true | _ => false) = true) (hi : (P.info? ty).map (·.size) = some cs.size)
    (hwd : Region.wanted o (yielded ops a.tmps) = true)
    (h : wpList P ops Q rest (a.put o.dst (.agg cs)) w) : wpList P ops Q (o :: rest) a w := by
  unfold wpList
  rw [if_pos hwd]
  left
  unfold Oper.wp execOp
  simp only [ho, hx, Instr.loadAt, Instr.sureAddr, Sem.run_bind, Sem.run_pure, Result.andThen_ok, run_loadVar_part w g off ty cs d hc hu hd hi]
  exact h
theorem valid_le_len (n : Nd) : n.valid.length ≤ n.len := by
  have h1 : (plN n).length ≤ (List.range n.len).length := List.length_filter_le _ _
  simpa [Nd.valid] using h1

set_option maxRecDepth 100000 in
set_option maxHeartbeats 3200000 in
theorem nmay_calls (n : Nd) (high : Int) (has : Bool) (w : World) :
    Calls Try.prog 89 #[.agg (ndCells n), .int .u64 high, .bool has] w fun e W' => e = .returned (.bool (n.mayB high has)) ∧ Below w.heap.size w W' := by
  have HI := Lib.hid (info27 n)
  have HB0 := Lib.hid (Blk.new w (ndCells n) 40)
  have HW := Lib.hid ((Below.refl w.heap.size w).alloc (Nat.le_refl _) (.cells (ndCells n) 40))
  have HL := Lib.hid (ndLoad HB0.out)
  have hv8 : n.valid.length ≤ 8 := by have := plN_len n; simpa [Nd.valid] using this
  have hvl := valid_le_len n
  have hl8 := n.len_le
  have FIN := Lib.hid (fun (r : Bool) (hr : n.mayB high has = r) => show Ending.returned (.bool r) = .returned (.bool (n.mayB high has)) by rw [hr])
  go_enter Try.func89, Try.ntmps89
  go_wp2_with (with_reducible refine wpList_load_part (o := ⟨some 8, _, _, _, _, _⟩) rfl 40 _ rfl w.heap.size 0 rfl (ndCells n) _ HL.out Try.underlying40 rfl HI.out ?_)
  refine (valid_calls n _).mono ?_
  rintro e w1 ⟨v, rfl, hv, hB⟩
  obtain ⟨va, vl, vc, rfl⟩ := own_slice hv
  have hvl2 : vl = n.valid.length := own_len hv
  subst hvl2
  have hb1 : Blk w1 w.heap.size (ndCells n) 40 := (hB.block _ (by simp)).trans HB0.out
  have hBw : Below w.heap.size w w1 := HW.out.trans (hB.mono (by simp))
  have e0 : w1.cell? ⟨w.heap.size, 0, none⟩ = some (.int .i64 n.lv) := by rw [hb1.cell, ndCells_0]
  have e1 : w1.cell? ⟨w.heap.size, 1, none⟩ = some (.int .u64 n.lo) := by rw [hb1.cell, ndCells_1]
  have e4 : w1.cell? ⟨w.heap.size, 4, none⟩ = some (.int .u64 n.fi) := by rw [hb1.cell, ndCells_4]
  have HL1 := Lib.hid (ndLoad hb1)
  have HB1 := Lib.hid hb1
  have HV := Lib.hid hv
  have HBw := Lib.hid hBw
  have hs1 : w.heap.size ≤ w1.heap.size := hBw.size
  clear hv hB hb1 hBw
  by_cases hq : 0 ≤ n.lv ∧ n.lv ≤ 15 ∧ (n.fi == 0) = false
  · obtain ⟨q1, q2, q3⟩ := hq
    have q3' : (n.fi != 0) = true := by rw [bne, q3]; rfl
    have Q := Lib.hid (show n.mayB high has = ((decide (n.len ≤ n.valid.length + 1) && riseB n.lv n.lo n.fi n.valid) && (!has || decide (n.lo < high))) by
      unfold Nd.mayB
      rw [decide_eq_false (by omega : ¬ n.lv < 0), decide_eq_false (by omega : ¬ 15 < n.lv), q3, Bool.or_self, Bool.or_self, Bool.false_or, Bool.and_comm]
      congr 1
      cases has
      · rfl
      · simp only [Bool.true_and, Bool.not_true, Bool.false_or]
        rw [← decide_not]; congr 1; simp)
    clear q3 e0 e1 e4
    have e0 : w1.cell? ⟨w.heap.size, 0, none⟩ = some (.int .i64 n.lv) := by rw [HB1.out.cell, ndCells_0]
    have e4 : w1.cell? ⟨w.heap.size, 4, none⟩ = some (.int .u64 n.fi) := by rw [HB1.out.cell, ndCells_4]
    go_wp2_with (refine wpList_load_gd (o := ⟨some 24, .load 40 (.tmp 3), _, _, _, _⟩) 40 (.tmp 3) ?ho w.heap.size 0 ?hx (ndCells n) _ HL1.out Try.underlying40 rfl HI.out ?hw ?_; (case ho => rfl); (case hx => rfl); (case hw => rfl))
    refine (len_calls n _).mono ?_
    rintro e w2 ⟨rfl, hB2⟩
    as_aux_lemma =>
      have hb2 : Blk w2 w.heap.size (ndCells n) 40 := HB1.out.below hB2 HB1.out.lt
      have hBw2 : Below w.heap.size w w2 := HBw.out.trans (hB2.mono hs1)
      have HVr := own_below HV.out (hB2.mono (Nat.le_refl _))
      have HRr := Lib.hid (nrise_calls n.lv n.lo n.fi n.valid _ _ w2 (by omega) HVr)
      have f0 : w2.cell? ⟨w.heap.size, 0, none⟩ = some (.int .i64 n.lv) := by rw [hb2.cell, ndCells_0]
      have f1 : w2.cell? ⟨w.heap.size, 1, none⟩ = some (.int .u64 n.lo) := by rw [hb2.cell, ndCells_1]
      have f4 : w2.cell? ⟨w.heap.size, 4, none⟩ = some (.int .u64 n.fi) := by rw [hb2.cell, ndCells_4]
      have HB2 := Lib.hid hb2
      have HBw2 := Lib.hid hBw2
      clear e0 e4 hb2 hBw2 hB2 HVr
      by_cases d1 : n.len ≤ n.valid.length + 1
      · have i1 : (n.len : Int) - (n.valid.length : Int) ≤ 1 := by omega
        have hd1 : decide (n.len ≤ n.valid.length + 1) = true := by simpa using d1
        rw [hd1] at Q
        clear d1 hd1
        cases hr : riseB n.lv n.lo n.fi n.valid with
        | false =>
          rw [hr] at Q HRr
          have HF := Lib.hid (FIN.out false (by rw [Q.out]; rfl))
          clear hr
          as_aux_lemma =>
            go_wp2_with (go_at_call 102; refine HRr.out.mono ?_; rintro e w3 ⟨rfl, hB3⟩)
            go_ret
            exact ⟨HF.out, HBw2.out.trans (hB3.mono HBw2.out.size)⟩
        | true =>
          rw [hr] at Q HRr
          clear hr
          cases has with
          | false =>
            have HF := Lib.hid (FIN.out true (by rw [Q.out]; rfl))
            go_wp2_with (go_at_call 102; refine HRr.out.mono ?_; rintro e w3 ⟨rfl, hB3⟩)
            go_ret
            exact ⟨HF.out, HBw2.out.trans (hB3.mono HBw2.out.size)⟩
          | true =>
            have HF := Lib.hid (FIN.out (decide (n.lo < high)) (by rw [Q.out]; rfl))
            go_wp2_with (go_at_call 102; refine HRr.out.mono ?_; rintro e w3 ⟨rfl, hB3⟩; have g1 : w3.cell? ⟨w.heap.size, 1, none⟩ = some (.int .u64 n.lo) := (hB3.cell (p := ⟨w.heap.size, 1, none⟩) HB2.out.lt).trans f1)
            go_ret
            exact ⟨HF.out, HBw2.out.trans (hB3.mono HBw2.out.size)⟩
      · have i1 : ¬ (n.len : Int) - (n.valid.length : Int) ≤ 1 := by omega
        have hd1 : decide (n.len ≤ n.valid.length + 1) = false := by simpa using d1
        have HF := Lib.hid (FIN.out false (by rw [Q.out, hd1]; rfl))
        clear d1 hd1
        go_wp2_with (fail)
        go_ret
        exact ⟨HF.out, HBw2.out⟩
  · have HF := Lib.hid (FIN.out false (by
      unfold Nd.mayB
      by_cases q1 : n.lv < 0
      · simp [q1]
      by_cases q2 : 15 < n.lv
      · simp [q2]
      have q3 : (n.fi == 0) = true := by
        cases h : (n.fi == 0)
        · exact absurd ⟨by omega, by omega, h⟩ hq
        · rfl
      simp [q3]))
    by_cases q1 : n.lv < 0
    · clear hq
      as_aux_lemma =>
        go_wp2_with (fail)
        go_ret
        exact ⟨HF.out, HBw.out⟩
    by_cases q2 : 15 < n.lv
    · clear hq
      as_aux_lemma =>
        go_wp2_with (fail)
        go_ret
        exact ⟨HF.out, HBw.out⟩
    · have q3 : (n.fi == 0) = true := by
        cases h : (n.fi == 0)
        · exact absurd ⟨by omega, by omega, h⟩ hq
        · rfl
      have q4 : (n.fi != 0) = false := by rw [bne, q3]; rfl
      clear hq
      as_aux_lemma =>
        go_wp2_with (fail)
        go_ret
        exact ⟨HF.out, HBw.out⟩
end Go.Proofs.Ytgmbnoimlffgcaa
