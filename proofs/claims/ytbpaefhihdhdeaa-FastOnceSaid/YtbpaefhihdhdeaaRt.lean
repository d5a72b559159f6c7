/-
  THE REFERENCE's Rise of any row, May, Same of entries: contracts.
-/
import Derived.Test.YtbpaefhihdhdeaaRs
namespace Go.Proofs.Ytbpaefhihdhdeaa
open Go.RowKit

theorem own_below {B : Nat} {e : TypeId} {k : Nat} {v : Value} {n : Nat} {xs : List Value} {w w' : World} (h : w.ownsRow B e k v n xs) (hb : Below w.heap.size w w') : w'.ownsRow B e k v n xs := by
  obtain ⟨hl, h2⟩ := h
  refine ⟨hl, ?_⟩
  rcases h2 with h2 | ⟨g, cap, cur, hv, hB, hh, r⟩
  · exact .inl h2
  · exact .inr ⟨g, cap, cur, hv, hB, (hb.block g (Array.getElem?_eq_some_iff.1 hh).1).trans hh, r⟩

theorem rrise_nil (lv lo fi : Int) (a : Option Addr) (c : Nat) (w : World) :
    Calls Try.prog 41 #[.int .i64 lv, .int .u64 lo, .int .u64 fi, .slice a 0 c] w fun e W' => e = .returned (.bool (riseB lv lo fi [])) ∧ Below w.heap.size w W' := by
  go_enter Try.func41, Try.ntmps41
  go_wp2_with (fail)
  refine wp_loop_rounds 1 ?_
  rw [rounds_succ]
  go_wp2_with (fail)
  go_ret
  exact ⟨rfl, Below.refl _ _⟩

theorem rrise_calls (lv lo fi : Int) (l : List (Int × Int)) (v : Value) (base : Nat) (w : World) (hn : l.length ≤ 1000000) (hv : w.ownsRow base 60 2 v l.length (ecells l)) :
    Calls Try.prog 41 #[.int .i64 lv, .int .u64 lo, .int .u64 fi, v] w fun e W' => e = .returned (.bool (riseB lv lo fi l)) ∧ Below w.heap.size w W' := by
  by_cases hp : 0 < l.length
  · obtain ⟨g, cap, rfl, _, _, _, _, hE⟩ := own_ents hv rfl hp
    exact rrise_pos lv lo fi l g 0 cap w hn hp hE
  · have h0 : l = [] := List.eq_nil_of_length_eq_zero (by omega)
    subst h0
    obtain ⟨_, ⟨rfl, _⟩ | ⟨g, cap, cur, rfl, _⟩⟩ := hv
    · exact rrise_nil lv lo fi _ _ w
    · exact rrise_nil lv lo fi _ _ w

/-- may a node be? -/
def Nd.mayB (n : Nd) (high : Int) (has : Bool) : Bool :=
  !(decide (n.lv < 0) || decide (15 < n.lv) || (n.fi == 0) || (has && decide (high ≤ n.lo))) && (decide (n.len ≤ n.valid.length + 1) && riseB n.lv n.lo n.fi n.valid)

set_option maxRecDepth 100000 in
set_option maxHeartbeats 1600000 in
theorem rmay_calls (n : Nd) (high : Int) (has : Bool) (w : World) :
    Calls Try.prog 17 #[.agg (ndCells n), .int .u64 high, .bool has] w fun e W' => e = .returned (.bool (n.mayB high has)) ∧ Below w.heap.size w W' := by
  have HI := Lib.hid (info27 n)
  have HB0 := Lib.hid (Blk.new w (ndCells n) 27)
  have HW := Lib.hid ((Below.refl w.heap.size w).alloc (Nat.le_refl _) (.cells (ndCells n) 27))
  have HL := Lib.hid (ndLoad HB0.out)
  have c0 : (w.alloc (.cells (ndCells n) 27)).cell? ⟨w.heap.size, 0, none⟩ = some (.int .i64 n.lv) := by rw [HB0.out.cell, ndCells_0]
  have c1 : (w.alloc (.cells (ndCells n) 27)).cell? ⟨w.heap.size, 1, none⟩ = some (.int .u64 n.lo) := by rw [HB0.out.cell, ndCells_1]
  have c4 : (w.alloc (.cells (ndCells n) 27)).cell? ⟨w.heap.size, 4, none⟩ = some (.int .u64 n.fi) := by rw [HB0.out.cell, ndCells_4]
  have FIN := Lib.hid (fun (r : Bool) (hr : n.mayB high has = r) => show Ending.returned (.bool r) = .returned (.bool (n.mayB high has)) by rw [hr])
  by_cases hb : (decide (n.lv < 0) || decide (15 < n.lv) || (n.fi == 0) || (has && decide (high ≤ n.lo))) = true
  · have hf := Lib.hid (show n.mayB high has = false by unfold Nd.mayB; rw [hb]; rfl)
    cases d1 : decide (n.lv < 0) <;> cases d2 : decide (15 < n.lv) <;> cases d3 : (n.fi == 0) <;> cases has <;> cases d4 : decide (high ≤ n.lo) <;> rw [d1, d2, d3, d4] at hb <;> simp at hb
    all_goals
      clear hb
      go_enter Try.func17, Try.ntmps17
      go_wp2_with (fail)
      go_ret
      exact ⟨FIN.out _ hf.out, HW.out⟩
  · have hb' : (decide (n.lv < 0) || decide (15 < n.lv) || (n.fi == 0) || (has && decide (high ≤ n.lo))) = false := by simpa using hb
    have hf := Lib.hid (show n.mayB high has = (decide (n.len ≤ n.valid.length + 1) && riseB n.lv n.lo n.fi n.valid) by unfold Nd.mayB; rw [hb']; rfl)
    clear hb
    have hv8 : n.valid.length ≤ 8 := by have := plN_len n; simpa [Nd.valid] using this
    cases d1 : decide (n.lv < 0) <;> cases d2 : decide (15 < n.lv) <;> cases d3 : (n.fi == 0) <;> cases has <;> cases d4 : decide (high ≤ n.lo) <;> rw [d1, d2, d3, d4] at hb' <;> simp at hb'
    all_goals
      clear hb'
      go_enter Try.func17, Try.ntmps17
      go_wp2_with (with_reducible refine wpList_load_part (o := ⟨some 30, _, _, _, _, _⟩) rfl 27 _ rfl w.heap.size 0 rfl (ndCells n) _ HL.out Try.underlying27 rfl HI.out ?_)
      refine (rvalid_calls n _).mono ?_
      rintro e w1 ⟨v, rfl, hv, hB⟩
      obtain ⟨va, vl, vc, rfl⟩ := own_slice hv
      have hvl : vl = n.valid.length := own_len hv
      subst hvl
      have hb1 : Blk w1 w.heap.size (ndCells n) 27 := (hB.block _ (by simp)).trans HB0.out
      have hBw : Below w.heap.size w w1 := HW.out.trans (hB.mono (by simp))
      have e0 : w1.cell? ⟨w.heap.size, 0, none⟩ = some (.int .i64 n.lv) := by rw [hb1.cell, ndCells_0]
      have e1 : w1.cell? ⟨w.heap.size, 1, none⟩ = some (.int .u64 n.lo) := by rw [hb1.cell, ndCells_1]
      have e4 : w1.cell? ⟨w.heap.size, 4, none⟩ = some (.int .u64 n.fi) := by rw [hb1.cell, ndCells_4]
      have HL1 := Lib.hid (ndLoad hb1)
      have HB1 := Lib.hid hb1
      have HV := Lib.hid hv
      have HBw := Lib.hid hBw
      have hs1 : w.heap.size ≤ w1.heap.size := hBw.size
      clear hv hB hb1 hBw c0 c1 c4 e0 e1 e4
      go_wp2_with (with_reducible refine wpList_load_part (o := ⟨some 32, _, _, _, _, _⟩) rfl 27 _ rfl w.heap.size 0 rfl (ndCells n) _ HL1.out Try.underlying27 rfl HI.out ?_)
      refine (rlen_calls n _).mono ?_
      rintro e w2 ⟨rfl, hB⟩
      have hb2 : Blk w2 w.heap.size (ndCells n) 27 := (hB.block _ HB1.out.lt).trans HB1.out
      have f0 : w2.cell? ⟨w.heap.size, 0, none⟩ = some (.int .i64 n.lv) := by rw [hb2.cell, ndCells_0]
      have f1 : w2.cell? ⟨w.heap.size, 1, none⟩ = some (.int .u64 n.lo) := by rw [hb2.cell, ndCells_1]
      have f4 : w2.cell? ⟨w.heap.size, 4, none⟩ = some (.int .u64 n.fi) := by rw [hb2.cell, ndCells_4]
      have HV2 := Lib.hid (own_below HV.out hB)
      have HBw2 := Lib.hid (HBw.out.trans (hB.mono hs1))
      clear hB hb2
      cases d5 : decide (n.len ≤ n.valid.length + 1)
      · have d5' : decide ((n.len : Int) ≤ (n.valid.length : Int) + 1) = false := by
          rw [decide_eq_false_iff_not] at d5 ⊢; (try omega)
        have hf2 := Lib.hid (hf.out.trans (by rw [d5]))
        clear d5
        go_wp2_with (fail)
        go_ret
        exact ⟨FIN.out _ hf2.out, HBw2.out⟩
      · have d5' : decide ((n.len : Int) ≤ (n.valid.length : Int) + 1) = true := by
          rw [decide_eq_true_iff] at d5 ⊢; omega
        have hf2 := Lib.hid (hf.out.trans (by rw [d5]))
        clear d5
        go_wp2_with (fail)
        refine (rrise_calls _ _ _ n.valid _ _ _ (by omega) HV2.out).mono ?_
        rintro e w3 ⟨rfl, hB⟩
        have HBw3 := Lib.hid (HBw2.out.trans (hB.mono HBw2.out.size))
        have hf3 := Lib.hid (hf2.out.trans (Bool.true_and _))
        clear hB
        go_wp2_with (fail)
        go_ret
        exact ⟨FIN.out _ hf3.out, HBw3.out⟩
end Go.Proofs.Ytbpaefhihdhdeaa
