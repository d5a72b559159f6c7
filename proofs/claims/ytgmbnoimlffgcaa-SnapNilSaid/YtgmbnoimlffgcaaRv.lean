/-
  node.rise$1, slices.IndexFunc, slices.ContainsFunc at entries: contracts.
-/
import Derived.Test.YtgmbnoimlffgcaaRs
namespace Go.Proofs.Ytgmbnoimlffgcaa
open Go.RowKit

theorem rrise_nil (lv lo fi : Int) (a : Option Addr) (c : Nat) (w : World) :
    Calls Try.prog 54 #[.int .i64 lv, .int .u64 lo, .int .u64 fi, .slice a 0 c] w fun e W' => e = .returned (.bool (riseB lv lo fi [])) ∧ Below w.heap.size w W' := by
  go_enter Try.func54, Try.ntmps54
  go_wp2_with (fail)
  refine wp_loop_rounds 1 ?_
  rw [rounds_succ]
  go_wp2_with (fail)
  go_ret
  exact ⟨rfl, Below.refl _ _⟩

theorem rrise_calls (lv lo fi : Int) (l : List (Int × Int)) (v : Value) (base : Nat) (w : World) (hn : l.length ≤ 1000000) (hv : w.ownsRow base 113 2 v l.length (ecells l)) :
    Calls Try.prog 54 #[.int .i64 lv, .int .u64 lo, .int .u64 fi, v] w fun e W' => e = .returned (.bool (riseB lv lo fi l)) ∧ Below w.heap.size w W' := by
  by_cases hp : 0 < l.length
  · obtain ⟨g, cap, rfl, _, _, _, _, hE⟩ := own_ents hv rfl hp
    exact rrise_pos lv lo fi l g 0 cap w hn hp hE
  · have h0 : l = [] := List.eq_nil_of_length_eq_zero (by omega)
    subst h0
    obtain ⟨_, ⟨rfl, _⟩ | ⟨g, cap, cur, rfl, _⟩⟩ := hv
    · exact rrise_nil lv lo fi _ _ w
    · exact rrise_nil lv lo fi _ _ w

/-- may a node be? -/
def Nd.mayB (n : Nd) (high : Int) (has : Bool) : Bool :=
  !(decide (n.lv < 0) || decide (15 < n.lv) || (n.fi == 0) || (has && decide (high ≤ n.lo))) && (decide (n.len ≤ n.valid.length + 1) && riseB n.lv n.lo n.fi n.valid)

set_option maxRecDepth 100000 in
set_option maxHeartbeats 1600000 in
theorem rmay_calls (n : Nd) (high : Int) (has : Bool) (w : World) :
    Calls Try.prog 38 #[.agg (ndCells n), .int .u64 high, .bool has] w fun e W' => e = .returned (.bool (n.mayB high has)) ∧ Below w.heap.size w W' := by
  have HI := Lib.hid (info27 n)
  have HB0 := Lib.hid (Blk.new w (ndCells n) 40)
  have HW := Lib.hid ((Below.refl w.heap.size w).alloc (Nat.le_refl _) (.cells (ndCells n) 40))
  have HL := Lib.hid (ndLoad HB0.out)
  have c0 : (w.alloc (.cells (ndCells n) 40)).cell? ⟨w.heap.size, 0, none⟩ = some (.int .i64 n.lv) := by rw [HB0.out.cell, ndCells_0]
  have c1 : (w.alloc (.cells (ndCells n) 40)).cell? ⟨w.heap.size, 1, none⟩ = some (.int .u64 n.lo) := by rw [HB0.out.cell, ndCells_1]
  have c4 : (w.alloc (.cells (ndCells n) 40)).cell? ⟨w.heap.size, 4, none⟩ = some (.int .u64 n.fi) := by rw [HB0.out.cell, ndCells_4]
  have FIN := Lib.hid (fun (r : Bool) (hr : n.mayB high has = r) => show Ending.returned (.bool r) = .returned (.bool (n.mayB high has)) by rw [hr])
  by_cases hb : (decide (n.lv < 0) || decide (15 < n.lv) || (n.fi == 0) || (has && decide (high ≤ n.lo))) = true
  · have hf := Lib.hid (show n.mayB high has = false by unfold Nd.mayB; rw [hb]; rfl)
    cases d1 : decide (n.lv < 0) <;> cases d2 : decide (15 < n.lv) <;> cases d3 : (n.fi == 0) <;> cases has <;> cases d4 : decide (high ≤ n.lo) <;> rw [d1, d2, d3, d4] at hb <;> simp at hb
    all_goals
      clear hb
      go_enter Try.func38, Try.ntmps38
      go_wp2_with (fail)
      go_ret
      exact ⟨FIN.out _ hf.out, HW.out⟩
  · have hb' : (decide (n.lv < 0) || decide (15 < n.lv) || (n.fi == 0) || (has && decide (high ≤ n.lo))) = false := by simpa using hb
    have hf := Lib.hid (show n.mayB high has = (decide (n.len ≤ n.valid.length + 1) && riseB n.lv n.lo n.fi n.valid) by unfold Nd.mayB; rw [hb']; rfl)
    clear hb
    have hv8 : n.valid.length ≤ 8 := by have := plN_len n; simpa [Nd.valid] using this
    cases d1 : decide (n.lv < 0) <;> cases d2 : decide (15 < n.lv) <;> cases d3 : (n.fi == 0) <;> cases has <;> cases d4 : decide (high ≤ n.lo) <;> rw [d1, d2, d3, d4] at hb' <;> simp at hb'
    all_goals
      clear hb'
      go_enter Try.func38, Try.ntmps38
      go_wp2_with (with_reducible refine wpList_load_part (o := ⟨some 30, _, _, _, _, _⟩) rfl 40 _ rfl w.heap.size 0 rfl (ndCells n) _ HL.out Try.underlying40 rfl HI.out ?_)
      refine (rvalid_calls n _).mono ?_
      rintro e w1 ⟨v, rfl, hv, hB⟩
      obtain ⟨va, vl, vc, rfl⟩ := own_slice hv
      have hvl : vl = n.valid.length := own_len hv
      subst hvl
      have hb1 : Blk w1 w.heap.size (ndCells n) 40 := (hB.block _ (by simp)).trans HB0.out
      have hBw : Below w.heap.size w w1 := HW.out.trans (hB.mono (by simp))
      have e0 : w1.cell? ⟨w.heap.size, 0, none⟩ = some (.int .i64 n.lv) := by rw [hb1.cell, ndCells_0]
      have e1 : w1.cell? ⟨w.heap.size, 1, none⟩ = some (.int .u64 n.lo) := by rw [hb1.cell, ndCells_1]
      have e4 : w1.cell? ⟨w.heap.size, 4, none⟩ = some (.int .u64 n.fi) := by rw [hb1.cell, ndCells_4]
      have HL1 := Lib.hid (ndLoad hb1)
      have HB1 := Lib.hid hb1
      have HV := Lib.hid hv
      have HBw := Lib.hid hBw
      have hs1 : w.heap.size ≤ w1.heap.size := hBw.size
      clear hv hB hb1 hBw c0 c1 c4 e0 e1 e4
      go_wp2_with (with_reducible refine wpList_load_part (o := ⟨some 32, _, _, _, _, _⟩) rfl 40 _ rfl w.heap.size 0 rfl (ndCells n) _ HL1.out Try.underlying40 rfl HI.out ?_)
      refine (rlen_calls n _).mono ?_
      rintro e w2 ⟨rfl, hB⟩
      have hb2 : Blk w2 w.heap.size (ndCells n) 40 := (hB.block _ HB1.out.lt).trans HB1.out
      have f0 : w2.cell? ⟨w.heap.size, 0, none⟩ = some (.int .i64 n.lv) := by rw [hb2.cell, ndCells_0]
      have f1 : w2.cell? ⟨w.heap.size, 1, none⟩ = some (.int .u64 n.lo) := by rw [hb2.cell, ndCells_1]
      have f4 : w2.cell? ⟨w.heap.size, 4, none⟩ = some (.int .u64 n.fi) := by rw [hb2.cell, ndCells_4]
      have HV2 := Lib.hid (own_below HV.out hB)
      have HBw2 := Lib.hid (HBw.out.trans (hB.mono hs1))
      clear hB hb2
      cases d5 : decide (n.len ≤ n.valid.length + 1)
      · have d5' : decide ((n.len : Int) ≤ (n.valid.length : Int) + 1) = false := by
          rw [decide_eq_false_iff_not] at d5 ⊢; (try omega)
        have hf2 := Lib.hid (hf.out.trans (by rw [d5]))
        clear d5
        go_wp2_with (fail)
        go_ret
        exact ⟨FIN.out _ hf2.out, HBw2.out⟩
      · have d5' : decide ((n.len : Int) ≤ (n.valid.length : Int) + 1) = true := by
          rw [decide_eq_true_iff] at d5 ⊢; omega
        have hf2 := Lib.hid (hf.out.trans (by rw [d5]))
        clear d5
        go_wp2_with (fail)
        refine (rrise_calls _ _ _ n.valid _ _ _ (by omega) HV2.out).mono ?_
        rintro e w3 ⟨rfl, hB⟩
        have HBw3 := Lib.hid (HBw2.out.trans (hB.mono HBw2.out.size))
        have hf3 := Lib.hid (hf2.out.trans (Bool.true_and _))
        clear hB
        go_wp2_with (fail)
        go_ret
        exact ⟨FIN.out _ hf3.out, HBw3.out⟩
end Go.Proofs.Ytgmbnoimlffgcaa
namespace Go.Proofs.Ytgmbnoimlffgcaa
open Go.RowKit

theorem ext_ents {a b : List (Int × Int)} (hl : a.length = b.length) (h : ∀ i, i < a.length → eK a i = eK b i ∧ eP a i = eP b i) : a = b := by
  refine List.ext_getElem hl (fun i h1 h2 => ?_)
  have := h i h1
  simp only [eK, eP, List.getD_eq_getElem?_getD, List.getElem?_eq_getElem h1, List.getElem?_eq_getElem h2, Option.getD_some] at this
  exact Prod.ext this.1 this.2

end Go.Proofs.Ytgmbnoimlffgcaa
namespace Go.Proofs.Ytgmbnoimlffgcaa
open Go.RowKit

theorem firstF_step (t : Nat → Bool) (n k : Nat) (h : k < n) : firstF t (n - k) k = if t k = true then (k : Int) else firstF t (n - (k + 1)) (k + 1) := by
  rw [show n - k = (n - (k + 1)) + 1 by omega]; rfl
theorem firstF_end (t : Nat → Bool) (n k : Nat) (h : n ≤ k) : firstF t (n - k) k = -1 := by
  rw [show n - k = 0 by omega]; rfl
theorem firstF_lb (t : Nat → Bool) : ∀ d i, -1 ≤ firstF t d i ∧ firstF t d i < (i + d : Nat) := by
  intro d
  induction d with
  | zero => intro i; simp [firstF]; omega
  | succ d ih => intro i; unfold firstF; split
                 · omega
                 · have := ih (i + 1); omega
theorem firstF_any (t : Nat → Bool) : ∀ d i, decide (firstF t d i ≥ 0) = (List.range d).any (fun j => t (i + j)) := by
  intro d
  induction d with
  | zero => intro i; simp [firstF]
  | succ d ih =>
    intro i
    unfold firstF
    rw [List.range_succ_eq_map, List.any_cons, List.any_map]
    by_cases h : t i = true
    · rw [if_pos h]; simp [h]
    · rw [if_neg h, ih (i + 1)]
      have : t i = false := by simpa using h
      simp only [Nat.add_zero, this, Bool.false_or]
      congr 1
      funext j
      simp only [Function.comp]
      rw [show i + 1 + j = i + (j + 1) by omega]

def entC (k p : Int) : Array Value := #[.int .u64 k, .int .u64 p]

theorem riseF_calls (k p kx px : Int) (bx : Nat) (w : World) (hx : Blk w bx (entC kx px) 113) :
    Calls Try.prog 105 #[.agg #[.int .u64 k, .int .u64 p], .pointer (some ⟨bx, 0, none⟩)] w fun e w' => e = .returned (.bool (p == px)) ∧ Below w.heap.size w w' := by
  have HW := Lib.hid ((Below.refl w.heap.size w).alloc (Nat.le_refl _) (.cells #[.int .u64 k, .int .u64 p] 113))
  have hlt := hx.lt
  have hx2 := hx.alloc (.cells #[.int .u64 k, .int .u64 p] 113)
  have c1 : (w.alloc (.cells #[.int .u64 k, .int .u64 p] 113)).cell? ⟨bx, 1, none⟩ = some (.int .u64 px) := by rw [hx2.cell]; rfl
  clear hx hx2
  go_enter Try.func105, Try.ntmps105
  go_wp2_with (fail)
  go_ret
  exact ⟨rfl, HW.out⟩

set_option maxRecDepth 100000 in
set_option maxHeartbeats 1600000 in
theorem idxE_calls (l : List (Int × Int)) (n g o cap : Nat) (kx px : Int) (bx : Nat) (w : World) (hn : n ≤ l.length) (hm : n ≤ 1000000) (hE : EntsAt w g o l) (hg : 0 < n → g < w.heap.size) (hx : Blk w bx (entC kx px) 113) :
    Calls Try.prog 107 #[.slice (some ⟨g, o, none⟩) n cap, .func (.func 105) #[] #[.pointer (some ⟨bx, 0, none⟩)]] w
      fun e w' => e = .returned (.int .i64 (firstF (fun j => eP l j == px) n 0)) ∧ Below w.heap.size w w' := by
  have HE := Lib.hid hE
  have HX := Lib.hid hx
  have hxl := hx.lt
  clear hE hx
  have FIN := Lib.hid (fun (r : Int) (hr : firstF (fun j => eP l j == px) n 0 = r) => show Ending.returned (.int .i64 r) = .returned (.int .i64 (firstF (fun j => eP l j == px) n 0)) by rw [hr])
  go_enter Try.func107, Try.ntmps107
  go_wp2_with (fail)
  go_loopw [8] (fun iv wr => ∃ k : Nat, k ≤ n ∧ iv = .int .i64 k ∧ Hid (firstF (fun j => eP l j == px) n 0 = firstF (fun j => eP l j == px) (n - k) k) ∧ Below w.heap.size w wr) (fun iv _ => n - (intOf iv).toNat)
  case atStart => exact ⟨0, Nat.zero_le _, rfl, Lib.hid rfl, Below.refl _ _⟩
  case round =>
    obtain ⟨k, hk, rfl, hR, hB⟩ := hrel
    have HB := Lib.hid hB
    have hsz : w.heap.size ≤ wr.heap.size := hB.size
    by_cases hlt : k < n
    · obtain ⟨c1, c2⟩ := HE.out.below hB (hg (by omega)) k (by omega)
      obtain ⟨ka, hka⟩ : ∃ x, eK l k = x := ⟨_, rfl⟩
      obtain ⟨pa, hpa⟩ : ∃ x, eP l k = x := ⟨_, rfl⟩
      rw [hka] at c1
      rw [hpa] at c2
      have hst := Lib.hid (hR.out.trans (firstF_step (fun j => eP l j == px) n k hlt))
      have HPA := Lib.hid hpa
      clear hB hka hpa
      go_wp2_with (fail)
      refine (riseF_calls ka pa kx px bx _ (HX.out.below HB.out hxl)).mono ?_
      rintro e w2 ⟨rfl, hB2⟩
      have HB2 := Lib.hid (HB.out.trans (hB2.mono hsz))
      clear hB2 c1 c2
      cases hc : (pa == px)
      · have hr2 := Lib.hid (hst.out.trans (if_neg (by simp only [HPA.out, hc]; simp)))
        go_wp2_with (fail)
        go_roundw
        case rel => exact ⟨k + 1, by omega, by go_num, hr2, HB2.out⟩
        case measure => simp [intOf]; omega
      · have hr2 := Lib.hid (hst.out.trans (if_pos (by simp only [HPA.out, hc])))
        go_wp2_with (fail)
        go_ret
        exact ⟨FIN.out _ hr2.out, HB2.out⟩
    · have hf := Lib.hid (hR.out.trans (firstF_end _ n k (by omega)))
      clear hB
      go_wp2_with (fail)
      go_ret
      exact ⟨FIN.out _ hf.out, HB.out⟩

theorem contE_calls (l : List (Int × Int)) (n g o cap : Nat) (kx px : Int) (bx : Nat) (w : World) (hn : n ≤ l.length) (hm : n ≤ 1000000) (hE : EntsAt w g o l) (hg : 0 < n → g < w.heap.size) (hx : Blk w bx (entC kx px) 113) :
    Calls Try.prog 106 #[.slice (some ⟨g, o, none⟩) n cap, .func (.func 105) #[] #[.pointer (some ⟨bx, 0, none⟩)]] w
      fun e w' => e = .returned (.bool ((List.range n).any (fun j => eP l j == px))) ∧ Below w.heap.size w w' := by
  have HE := Lib.hid hE
  have HX := Lib.hid hx
  clear hE hx
  go_enter Try.func106, Try.ntmps106
  go_wp2_with (fail)
  refine (idxE_calls l n g o cap kx px bx _ hn hm HE.out hg HX.out).mono ?_
  rintro e w2 ⟨rfl, hB⟩
  have HB := Lib.hid hB
  have FIN := Lib.hid (show (List.range n).any (fun j => eP l j == px) = decide ((0 : Int) ≤ firstF (fun j => eP l j == px) n 0) by
    have := firstF_any (fun j => eP l j == px) n 0
    simp only [Nat.zero_add] at this
    exact this.symm)
  clear hB
  generalize firstF (fun j => eP l j == px) n 0 = r at *
  go_wp2_with (fail)
  go_ret
  exact ⟨by rw [FIN.out]; rfl, HB.out⟩
end Go.Proofs.Ytgmbnoimlffgcaa
