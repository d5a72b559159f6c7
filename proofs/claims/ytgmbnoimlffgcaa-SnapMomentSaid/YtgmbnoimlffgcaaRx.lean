/-
  node.rise of any row, node.May: contracts.
-/
import Derived.Test.YtgmbnoimlffgcaaRs
import Derived.Test.YtgmbnoimlffgcaaP
namespace Go.Proofs.Ytgmbnoimlffgcaa
open Go.RowKit

theorem rrise_nil (lv lo fi : Int) (a : Option Addr) (c : Nat) (w : World) :
    Calls Try.prog 54 #[.int .i64 lv, .int .u64 lo, .int .u64 fi, .slice a 0 c] w fun e W' => e = .returned (.bool (riseB lv lo fi [])) ∧ Below w.heap.size w W' := by
  go_enter Try.func54, Try.ntmps54
  go_wp2_with (fail)
  refine wp_loop_rounds 1 ?_
  rw [rounds_succ]
  go_wp2_with (fail)
  go_ret
  exact ⟨rfl, Below.refl _ _⟩

theorem rrise_calls (lv lo fi : Int) (l : List (Int × Int)) (v : Value) (base : Nat) (w : World) (hn : l.length ≤ 1000000) (hv : w.ownsRow base 113 2 v l.length (ecells l)) :
    Calls Try.prog 54 #[.int .i64 lv, .int .u64 lo, .int .u64 fi, v] w fun e W' => e = .returned (.bool (riseB lv lo fi l)) ∧ Below w.heap.size w W' := by
  by_cases hp : 0 < l.length
  · obtain ⟨g, cap, rfl, _, _, _, _, hE⟩ := own_ents hv rfl hp
    exact rrise_pos lv lo fi l g 0 cap w hn hp hE
  · have h0 : l = [] := List.eq_nil_of_length_eq_zero (by omega)
    subst h0
    obtain ⟨_, ⟨rfl, _⟩ | ⟨g, cap, cur, rfl, _⟩⟩ := hv
    · exact rrise_nil lv lo fi _ _ w
    · exact rrise_nil lv lo fi _ _ w

/-- may a node be? -/
def Nd.mayB (n : Nd) (high : Int) (has : Bool) : Bool :=
  !(decide (n.lv < 0) || decide (15 < n.lv) || (n.fi == 0) || (has && decide (high ≤ n.lo))) && (decide (n.len ≤ n.valid.length + 1) && riseB n.lv n.lo n.fi n.valid)

set_option maxRecDepth 100000 in
set_option maxHeartbeats 1600000 in
theorem rmay_calls (n : Nd) (high : Int) (has : Bool) (w : World) :
    Calls Try.prog 38 #[.agg (ndCells n), .int .u64 high, .bool has] w fun e W' => e = .returned (.bool (n.mayB high has)) ∧ Below w.heap.size w W' := by
  have HI := Lib.hid (info27 n)
  have HB0 := Lib.hid (Blk.new w (ndCells n) 40)
  have HW := Lib.hid ((Below.refl w.heap.size w).alloc (Nat.le_refl _) (.cells (ndCells n) 40))
  have HL := Lib.hid (ndLoad HB0.out)
  have c0 : (w.alloc (.cells (ndCells n) 40)).cell? ⟨w.heap.size, 0, none⟩ = some (.int .i64 n.lv) := by rw [HB0.out.cell, ndCells_0]
  have c1 : (w.alloc (.cells (ndCells n) 40)).cell? ⟨w.heap.size, 1, none⟩ = some (.int .u64 n.lo) := by rw [HB0.out.cell, ndCells_1]
  have c4 : (w.alloc (.cells (ndCells n) 40)).cell? ⟨w.heap.size, 4, none⟩ = some (.int .u64 n.fi) := by rw [HB0.out.cell, ndCells_4]
  have FIN := Lib.hid (fun (r : Bool) (hr : n.mayB high has = r) => show Ending.returned (.bool r) = .returned (.bool (n.mayB high has)) by rw [hr])
  by_cases hb : (decide (n.lv < 0) || decide (15 < n.lv) || (n.fi == 0) || (has && decide (high ≤ n.lo))) = true
  · have hf := Lib.hid (show n.mayB high has = false by unfold Nd.mayB; rw [hb]; rfl)
    cases d1 : decide (n.lv < 0) <;> cases d2 : decide (15 < n.lv) <;> cases d3 : (n.fi == 0) <;> cases has <;> cases d4 : decide (high ≤ n.lo) <;> rw [d1, d2, d3, d4] at hb <;> simp at hb
    all_goals
      clear hb
      go_enter Try.func38, Try.ntmps38
      go_wp2_with (fail)
      go_ret
      exact ⟨FIN.out _ hf.out, HW.out⟩
  · have hb' : (decide (n.lv < 0) || decide (15 < n.lv) || (n.fi == 0) || (has && decide (high ≤ n.lo))) = false := by simpa using hb
    have hf := Lib.hid (show n.mayB high has = (decide (n.len ≤ n.valid.length + 1) && riseB n.lv n.lo n.fi n.valid) by unfold Nd.mayB; rw [hb']; rfl)
    clear hb
    have hv8 : n.valid.length ≤ 8 := by have := plN_len n; simpa [Nd.valid] using this
    cases d1 : decide (n.lv < 0) <;> cases d2 : decide (15 < n.lv) <;> cases d3 : (n.fi == 0) <;> cases has <;> cases d4 : decide (high ≤ n.lo) <;> rw [d1, d2, d3, d4] at hb' <;> simp at hb'
    all_goals
      clear hb'
      go_enter Try.func38, Try.ntmps38
      go_wp2_with (with_reducible refine wpList_load_part (o := ⟨some 30, _, _, _, _, _⟩) rfl 40 _ rfl w.heap.size 0 rfl (ndCells n) _ HL.out Try.underlying40 rfl HI.out ?_)
      refine (rvalid_calls n _).mono ?_
      rintro e w1 ⟨v, rfl, hv, hB⟩
      obtain ⟨va, vl, vc, rfl⟩ := own_slice hv
      have hvl : vl = n.valid.length := own_len hv
      subst hvl
      have hb1 : Blk w1 w.heap.size (ndCells n) 40 := (hB.block _ (by simp)).trans HB0.out
      have hBw : Below w.heap.size w w1 := HW.out.trans (hB.mono (by simp))
      have e0 : w1.cell? ⟨w.heap.size, 0, none⟩ = some (.int .i64 n.lv) := by rw [hb1.cell, ndCells_0]
      have e1 : w1.cell? ⟨w.heap.size, 1, none⟩ = some (.int .u64 n.lo) := by rw [hb1.cell, ndCells_1]
      have e4 : w1.cell? ⟨w.heap.size, 4, none⟩ = some (.int .u64 n.fi) := by rw [hb1.cell, ndCells_4]
      have HL1 := Lib.hid (ndLoad hb1)
      have HB1 := Lib.hid hb1
      have HV := Lib.hid hv
      have HBw := Lib.hid hBw
      have hs1 : w.heap.size ≤ w1.heap.size := hBw.size
      clear hv hB hb1 hBw c0 c1 c4 e0 e1 e4
      go_wp2_with (with_reducible refine wpList_load_part (o := ⟨some 32, _, _, _, _, _⟩) rfl 40 _ rfl w.heap.size 0 rfl (ndCells n) _ HL1.out Try.underlying40 rfl HI.out ?_)
      refine (rlen_calls n _).mono ?_
      rintro e w2 ⟨rfl, hB⟩
      have hb2 : Blk w2 w.heap.size (ndCells n) 40 := (hB.block _ HB1.out.lt).trans HB1.out
      have f0 : w2.cell? ⟨w.heap.size, 0, none⟩ = some (.int .i64 n.lv) := by rw [hb2.cell, ndCells_0]
      have f1 : w2.cell? ⟨w.heap.size, 1, none⟩ = some (.int .u64 n.lo) := by rw [hb2.cell, ndCells_1]
      have f4 : w2.cell? ⟨w.heap.size, 4, none⟩ = some (.int .u64 n.fi) := by rw [hb2.cell, ndCells_4]
      have HV2 := Lib.hid (own_below HV.out hB)
      have HBw2 := Lib.hid (HBw.out.trans (hB.mono hs1))
      clear hB hb2
      cases d5 : decide (n.len ≤ n.valid.length + 1)
      · have d5' : decide ((n.len : Int) ≤ (n.valid.length : Int) + 1) = false := by
          rw [decide_eq_false_iff_not] at d5 ⊢; (try omega)
        have hf2 := Lib.hid (hf.out.trans (by rw [d5]))
        clear d5
        go_wp2_with (fail)
        go_ret
        exact ⟨FIN.out _ hf2.out, HBw2.out⟩
      · have d5' : decide ((n.len : Int) ≤ (n.valid.length : Int) + 1) = true := by
          rw [decide_eq_true_iff] at d5 ⊢; omega
        have hf2 := Lib.hid (hf.out.trans (by rw [d5]))
        clear d5
        go_wp2_with (fail)
        refine (rrise_calls _ _ _ n.valid _ _ _ (by omega) HV2.out).mono ?_
        rintro e w3 ⟨rfl, hB⟩
        have HBw3 := Lib.hid (HBw2.out.trans (hB.mono HBw2.out.size))
        have hf3 := Lib.hid (hf2.out.trans (Bool.true_and _))
        clear hB
        go_wp2_with (fail)
        go_ret
        exact ⟨FIN.out _ hf3.out, HBw3.out⟩
end Go.Proofs.Ytgmbnoimlffgcaa
namespace Go.Proofs.Ytgmbnoimlffgcaa
open Go.RowKit

theorem ext_ents {a b : List (Int × Int)} (hl : a.length = b.length) (h : ∀ i, i < a.length → eK a i = eK b i ∧ eP a i = eP b i) : a = b := by
  refine List.ext_getElem hl (fun i h1 h2 => ?_)
  have := h i h1
  simp only [eK, eP, List.getD_eq_getElem?_getD, List.getElem?_eq_getElem h1, List.getElem?_eq_getElem h2, Option.getD_some] at this
  exact Prod.ext this.1 this.2

end Go.Proofs.Ytgmbnoimlffgcaa
namespace Go.Proofs.Ytgmbnoimlffgcaa
open Go.RowKit

theorem firstF_step (t : Nat → Bool) (n k : Nat) (h : k < n) : firstF t (n - k) k = if t k = true then (k : Int) else firstF t (n - (k + 1)) (k + 1) := by
  rw [show n - k = (n - (k + 1)) + 1 by omega]; rfl
theorem firstF_end (t : Nat → Bool) (n k : Nat) (h : n ≤ k) : firstF t (n - k) k = -1 := by
  rw [show n - k = 0 by omega]; rfl
theorem firstF_any (t : Nat → Bool) : ∀ d i, decide (firstF t d i ≥ 0) = (List.range d).any (fun j => t (i + j)) := by
  intro d
  induction d with
  | zero => intro i; simp [firstF]
  | succ d ih =>
    intro i
    unfold firstF
    rw [List.range_succ_eq_map, List.any_cons, List.any_map]
    by_cases h : t i = true
    · rw [if_pos h]; simp [h]
    · rw [if_neg h, ih (i + 1)]
      have : t i = false := by simpa using h
      simp only [Nat.add_zero, this, Bool.false_or]
      congr 1
      funext j
      simp only [Function.comp]
      rw [show i + 1 + j = i + (j + 1) by omega]

def entC (k p : Int) : Array Value := #[.int .u64 k, .int .u64 p]

theorem riseF_calls (k p kx px : Int) (bx : Nat) (w : World) (hx : Blk w bx (entC kx px) 113) :
    Calls Try.prog 105 #[.agg #[.int .u64 k, .int .u64 p], .pointer (some ⟨bx, 0, none⟩)] w fun e w' => e = .returned (.bool (p == px)) ∧ Below w.heap.size w w' := by
  have HW := Lib.hid ((Below.refl w.heap.size w).alloc (Nat.le_refl _) (.cells #[.int .u64 k, .int .u64 p] 113))
  have hlt := hx.lt
  have hx2 := hx.alloc (.cells #[.int .u64 k, .int .u64 p] 113)
  have c1 : (w.alloc (.cells #[.int .u64 k, .int .u64 p] 113)).cell? ⟨bx, 1, none⟩ = some (.int .u64 px) := by rw [hx2.cell]; rfl
  clear hx hx2
  go_enter Try.func105, Try.ntmps105
  go_wp2_with (fail)
  go_ret
  exact ⟨rfl, HW.out⟩

set_option maxRecDepth 100000 in
set_option maxHeartbeats 1600000 in
theorem idxE_calls (l : List (Int × Int)) (n g o cap : Nat) (kx px : Int) (bx : Nat) (w : World) (hn : n ≤ l.length) (hm : n ≤ 1000000) (hE : EntsAt w g o l) (hg : 0 < n → g < w.heap.size) (hx : Blk w bx (entC kx px) 113) :
    Calls Try.prog 107 #[.slice (some ⟨g, o, none⟩) n cap, .func (.func 105) #[] #[.pointer (some ⟨bx, 0, none⟩)]] w
      fun e w' => e = .returned (.int .i64 (firstF (fun j => eP l j == px) n 0)) ∧ Below w.heap.size w w' := by
  have HE := Lib.hid hE
  have HX := Lib.hid hx
  have hxl := hx.lt
  clear hE hx
  have FIN := Lib.hid (fun (r : Int) (hr : firstF (fun j => eP l j == px) n 0 = r) => show Ending.returned (.int .i64 r) = .returned (.int .i64 (firstF (fun j => eP l j == px) n 0)) by rw [hr])
  go_enter Try.func107, Try.ntmps107
  go_wp2_with (fail)
  go_loopw [8] (fun iv wr => ∃ k : Nat, k ≤ n ∧ iv = .int .i64 k ∧ Hid (firstF (fun j => eP l j == px) n 0 = firstF (fun j => eP l j == px) (n - k) k) ∧ Below w.heap.size w wr) (fun iv _ => n - (intOf iv).toNat)
  case atStart => exact ⟨0, Nat.zero_le _, rfl, Lib.hid rfl, Below.refl _ _⟩
  case round =>
    obtain ⟨k, hk, rfl, hR, hB⟩ := hrel
    have HB := Lib.hid hB
    have hsz : w.heap.size ≤ wr.heap.size := hB.size
    by_cases hlt : k < n
    · obtain ⟨c1, c2⟩ := HE.out.below hB (hg (by omega)) k (by omega)
      obtain ⟨ka, hka⟩ : ∃ x, eK l k = x := ⟨_, rfl⟩
      obtain ⟨pa, hpa⟩ : ∃ x, eP l k = x := ⟨_, rfl⟩
      rw [hka] at c1
      rw [hpa] at c2
      have hst := Lib.hid (hR.out.trans (firstF_step (fun j => eP l j == px) n k hlt))
      have HPA := Lib.hid hpa
      clear hB hka hpa
      go_wp2_with (fail)
      refine (riseF_calls ka pa kx px bx _ (HX.out.below HB.out hxl)).mono ?_
      rintro e w2 ⟨rfl, hB2⟩
      have HB2 := Lib.hid (HB.out.trans (hB2.mono hsz))
      clear hB2 c1 c2
      cases hc : (pa == px)
      · have hr2 := Lib.hid (hst.out.trans (if_neg (by simp only [HPA.out, hc]; simp)))
        go_wp2_with (fail)
        go_roundw
        case rel => exact ⟨k + 1, by omega, by go_num, hr2, HB2.out⟩
        case measure => simp [intOf]; omega
      · have hr2 := Lib.hid (hst.out.trans (if_pos (by simp only [HPA.out, hc])))
        go_wp2_with (fail)
        go_ret
        exact ⟨FIN.out _ hr2.out, HB2.out⟩
    · have hf := Lib.hid (hR.out.trans (firstF_end _ n k (by omega)))
      clear hB
      go_wp2_with (fail)
      go_ret
      exact ⟨FIN.out _ hf.out, HB.out⟩

theorem contE_calls (l : List (Int × Int)) (n g o cap : Nat) (kx px : Int) (bx : Nat) (w : World) (hn : n ≤ l.length) (hm : n ≤ 1000000) (hE : EntsAt w g o l) (hg : 0 < n → g < w.heap.size) (hx : Blk w bx (entC kx px) 113) :
    Calls Try.prog 106 #[.slice (some ⟨g, o, none⟩) n cap, .func (.func 105) #[] #[.pointer (some ⟨bx, 0, none⟩)]] w
      fun e w' => e = .returned (.bool ((List.range n).any (fun j => eP l j == px))) ∧ Below w.heap.size w w' := by
  have HE := Lib.hid hE
  have HX := Lib.hid hx
  clear hE hx
  go_enter Try.func106, Try.ntmps106
  go_wp2_with (fail)
  refine (idxE_calls l n g o cap kx px bx _ hn hm HE.out hg HX.out).mono ?_
  rintro e w2 ⟨rfl, hB⟩
  have HB := Lib.hid hB
  have FIN := Lib.hid (show (List.range n).any (fun j => eP l j == px) = decide ((0 : Int) ≤ firstF (fun j => eP l j == px) n 0) by
    have := firstF_any (fun j => eP l j == px) n 0
    simp only [Nat.zero_add] at this
    exact this.symm)
  clear hB
  generalize firstF (fun j => eP l j == px) n 0 = r at *
  go_wp2_with (fail)
  go_ret
  exact ⟨by rw [FIN.out]; rfl, HB.out⟩
end Go.Proofs.Ytgmbnoimlffgcaa
namespace Go.Proofs.Ytgmbnoimlffgcaa
open Go.RowKit

set_option maxRecDepth 100000 in
set_option maxHeartbeats 4000000 in
theorem nrise_pos (lv lo fi : Int) (l : List (Int × Int)) (g cap : Nat) (w : World) (hn : l.length ≤ 1000000) (hp : 0 < l.length) (hcap : l.length ≤ cap) (hE : EntsAt w g 0 l) :
    Calls Try.prog 102 #[.int .i64 lv, .int .u64 lo, .int .u64 fi, .slice (some ⟨g, 0, none⟩) l.length cap] w fun e W' => e = .returned (.bool (riseB lv lo fi l)) ∧ Below w.heap.size w W' := by
  have hg := hE.lt hp
  have HE := Lib.hid hE
  clear hE
  have FIN := Lib.hid (fun (r : Bool) (hr : riseB lv lo fi l = r) => show Ending.returned (.bool r) = .returned (.bool (riseB lv lo fi l)) by rw [hr])
  go_enter Try.func102, Try.ntmps102
  go_wp2_with (fail)
  go_loopw [14] (fun iv wr => ∃ k : Nat, k ≤ l.length ∧ iv = .int .i64 k ∧ Hid (∀ j, j < k → badAt lv lo fi l j = false) ∧ Below w.heap.size w wr) (fun iv _ => l.length - (intOf iv).toNat)
  case atStart => exact ⟨0, Nat.zero_le _, rfl, Lib.hid fun j hj => by omega, Below.refl _ _⟩
  case round =>
    obtain ⟨k, hk, rfl, hno, hB⟩ := hrel
    have HB := Lib.hid hB
    have hsz : w.heap.size ≤ wr.heap.size := hB.size
    by_cases hlt : k < l.length
    · obtain ⟨c1, c2⟩ := HE.out.below hB hg k hlt
      obtain ⟨ki, hki⟩ : ∃ ki, eK l k = ki := ⟨_, rfl⟩
      obtain ⟨pi, hpi⟩ : ∃ pi, eP l k = pi := ⟨_, rfl⟩
      rw [hki, Nat.zero_add] at c1
      rw [hpi, Nat.zero_add] at c2
      obtain ⟨kk, hkk⟩ : ∃ kk, k - 1 = kk := ⟨_, rfl⟩
      obtain ⟨kp, hkp⟩ : ∃ kp, eK l (k - 1) = kp := ⟨_, rfl⟩
      have HBAD := Lib.hid (bad_parts (lv := lv) (lo := lo) (fi := fi) hki hkp hpi)
      -- the world behind the copy of the entry
      have HBx := Lib.hid (hB.alloc hsz (.cells #[.int .u64 ki, .int .u64 pi] 113))
      have HX := Lib.hid (Blk.new wr #[.int .u64 ki, .int .u64 pi] 113)
      have hE2 := HE.out.below HBx.out hg
      have c3 := (hE2 (k - 1) (by omega)).1
      rw [hkp, hkk, Nat.zero_add] at c3
      have HE2 := Lib.hid hE2
      have hgw : g < (wr.alloc (.cells #[.int .u64 ki, .int .u64 pi] 113)).heap.size := by simp; omega
      have HGW := Lib.hid hgw
      have HPI := Lib.hid hpi
      clear hB hki hpi hkp hE2 hgw
      go_wp2_with (fail)
      obtain ⟨bx, hbx⟩ : ∃ b, wr.heap.size = b := ⟨_, rfl⟩
      rw [hbx] at HX ⊢
      have hbl : w.heap.size ≤ bx := by omega
      clear hbx
      generalize wr.alloc (.cells #[.int .u64 ki, .int .u64 pi] 113) = w1 at *
      have x0 : w1.cell? ⟨bx, 0, none⟩ = some (.int .u64 ki) := by rw [HX.out.cell]; rfl
      have x1 : w1.cell? ⟨bx, 1, none⟩ = some (.int .u64 pi) := by rw [HX.out.cell]; rfl
      clear c1 c2
      cases d1 : decide (ki < lo)
      case true =>
        have hf := Lib.hid (rise_false hlt (by rw [HBAD.out]; simp only [d1, Bool.true_or]))
        go_quiet (fail)
        go_wp2_with (fail)
        go_ret
        exact ⟨FIN.out _ hf.out, below_drewN HBx.out _⟩
      case false =>
        obtain ⟨lq, hlq⟩ : ∃ q, (decide (0 < lv) && (ki == lo)) = q := ⟨_, rfl⟩
        cases lq
        case true =>
          have hf := Lib.hid (rise_false hlt (by rw [HBAD.out]; simp only [hlq, Bool.true_or, Bool.or_true]))
          obtain ⟨d2, d3⟩ : decide (0 < lv) = true ∧ (ki == lo) = true := by simpa only [Bool.and_eq_true] using hlq
          clear hlq
          go_quiet (fail)
          go_wp2_with (fail)
          go_ret
          exact ⟨FIN.out _ hf.out, below_drewN HBx.out _⟩
        case false =>
          have h2 : (decide (0 < lv) = true ∧ (ki == lo) = false) ∨ decide (0 < lv) = false := by
            cases h : decide (0 < lv)
            · exact .inr rfl
            · rw [h] at hlq; exact .inl ⟨rfl, by simpa using hlq⟩
          have HLQ := Lib.hid hlq
          clear hlq
          rcases h2 with ⟨d2, d3⟩ | d2
          all_goals
            by_cases b1 : 0 < k
            · have b1' : (0 : Int) < (k : Int) := by omega
              have b3 : (k : Int) - 1 = (kk : Int) := by omega
              have b4 : (kk : Int) < (l.length : Int) := by omega
              have b5 : (k : Int) < (l.length : Int) := by omega
              have b6 : (0 : Int) ≤ (kk : Int) := by omega
              have b7 : IntKind.i64.wrap ((k : Int) - 1) = (kk : Int) := by rw [b3]; exact IntWalk.i64_in _ (by omega)
              have b8 : ((kk : Int)).toNat = kk := by omega
              have b9 : ((k : Int)).toNat = k := by omega
              have b10 : decide (0 < k) = true := by simpa using b1
              have HKK := Lib.hid hkk
              clear b1 hkk
              cases d5 : decide (ki ≤ kp)
              case true =>
                have hf := Lib.hid (rise_false hlt (by rw [HBAD.out]; simp only [b10, d5, Bool.true_and, Bool.true_or, Bool.or_true]))
                go_quiet (fail)
                go_wp2_with (fail)
                go_ret
                exact ⟨FIN.out _ hf.out, below_drewN HBx.out _⟩
              case false =>
                have hD := Lib.hid (show (decide (0 < k) && decide (ki ≤ kp)) = false by rw [d5, Bool.and_false])
                cases d6 : (pi == fi)
                case true =>
                  have hf := Lib.hid (rise_false hlt (by rw [HBAD.out]; simp only [d6, Bool.true_or, Bool.or_true]))
                  go_quiet (fail)
                  go_wp2_with (fail)
                  go_ret
                  exact ⟨FIN.out _ hf.out, below_drewN HBx.out _⟩
                case false =>
                  have b12 : (k : Int) ≤ (cap : Int) := by omega
                  have hAf : ∀ w', Below w1.heap.size w1 w' → Calls Try.prog 106 #[.slice (some ⟨g, 0, none⟩) k cap, .func (.func 105) #[] #[.pointer (some ⟨bx, 0, none⟩)]] w'
                      fun e w'' => e = .returned (.bool ((List.range k).any (fun j => eP l j == pi))) ∧ Below w'.heap.size w' w'' := fun w' hb =>
                    contE_calls l k g 0 cap ki pi bx w' (by omega) (by omega) (HE2.out.below hb HGW.out) (fun _ => by have := hb.size; have := HGW.out; omega) (HX.out.below hb HX.out.lt)
                  have HAF := Lib.hid hAf
                  have hbxl : bx < w1.heap.size := HX.out.lt
                  clear hAf
                  obtain ⟨S, f, fne, f0, fB, fI⟩ := cls_of w1
                  have y0 : ∀ x, (f x).cell? ⟨bx, 0, none⟩ = some (.int .u64 ki) := fun x => ((fB x).cell (p := ⟨bx, 0, none⟩) hbxl).trans x0
                  have y1 : ∀ x, (f x).cell? ⟨bx, 1, none⟩ = some (.int .u64 pi) := fun x => ((fB x).cell (p := ⟨bx, 1, none⟩) hbxl).trans x1
                  have y3 : ∀ x, (f x).cell? ⟨g, kk * 2, none⟩ = some (.int .u64 kp) := fun x => ((fB x).cell (p := ⟨g, kk * 2, none⟩) HGW.out).trans c3
                  have FB := Lib.hid fB
                  have FI := Lib.hid fI
                  have F0 := Lib.hid f0
                  clear fB fI f0 x0 x1 c3
                  (refine wp_region_cls f (by kernel_rfl) (by kernel_rfl) F0.out ?_; (repeat (go_big_quiet_step ((go_at_call 106; exact calls_cls FI.out FB.out (HAF.out _ (FB.out _)))))); refine wpQuiet_nil ?_; intro _ hw'; obtain ⟨xq, hw''⟩ := hw'; subst hw'')
                  have HBc := Lib.hid (HBx.out.trans ((FB.out xq).mono HBx.out.size))
                  have hda : dupAt l k = (List.range k).any (fun j => eP l j == pi) := by unfold dupAt; rw [HPI.out]
                  rw [← hda]
                  clear hda y0 y1 y3
                  generalize f xq = w5 at *
                  cases dq : dupAt l k
                  case true =>
                    have hf := Lib.hid (rise_false hlt (by rw [HBAD.out, dq]; simp only [Bool.or_true]))
                    go_wp2_with (fail)
                    go_ret
                    exact ⟨FIN.out _ hf.out, HBc.out⟩
                  case false =>
                    have HDQ := Lib.hid dq
                    go_wp2_with (fail)
                    go_roundw
                    case rel => exact ⟨k + 1, by omega, by go_num, Lib.hid (fun j hj => by
                      rcases Nat.lt_succ_iff_lt_or_eq.1 hj with h | h
                      · exact hno.out j h
                      · rw [h, HBAD.out, d1, HLQ.out, hD.out, d6, HDQ.out]; rfl), HBc.out⟩
                    case measure => simp [intOf]; omega
            · have b10 : decide (0 < k) = false := by simpa using b1
              have b1i : decide ((0 : Int) < (k : Int)) = false := decide_eq_false (by omega)
              have b5 : (k : Int) < (l.length : Int) := by omega
              have b9 : ((k : Int)).toNat = k := by omega
              have hD := Lib.hid (show (decide (0 < k) && decide (ki ≤ kp)) = false by rw [b10]; rfl)
              clear b1 hkk
              cases d6 : (pi == fi)
              case true =>
                have hf := Lib.hid (rise_false hlt (by rw [HBAD.out]; simp only [d6, Bool.true_or, Bool.or_true]))
                go_quiet (fail)
                go_wp2_with (fail)
                go_ret
                exact ⟨FIN.out _ hf.out, below_drewN HBx.out _⟩
              case false =>
                have b12 : (k : Int) ≤ (cap : Int) := by omega
                have hAf : ∀ w', Below w1.heap.size w1 w' → Calls Try.prog 106 #[.slice (some ⟨g, 0, none⟩) k cap, .func (.func 105) #[] #[.pointer (some ⟨bx, 0, none⟩)]] w'
                    fun e w'' => e = .returned (.bool ((List.range k).any (fun j => eP l j == pi))) ∧ Below w'.heap.size w' w'' := fun w' hb =>
                  contE_calls l k g 0 cap ki pi bx w' (by omega) (by omega) (HE2.out.below hb HGW.out) (fun _ => by have := hb.size; have := HGW.out; omega) (HX.out.below hb HX.out.lt)
                have HAF := Lib.hid hAf
                have hbxl : bx < w1.heap.size := HX.out.lt
                clear hAf
                obtain ⟨S, f, fne, f0, fB, fI⟩ := cls_of w1
                have y0 : ∀ x, (f x).cell? ⟨bx, 0, none⟩ = some (.int .u64 ki) := fun x => ((fB x).cell (p := ⟨bx, 0, none⟩) hbxl).trans x0
                have y1 : ∀ x, (f x).cell? ⟨bx, 1, none⟩ = some (.int .u64 pi) := fun x => ((fB x).cell (p := ⟨bx, 1, none⟩) hbxl).trans x1
                have y3 : ∀ x, (f x).cell? ⟨g, kk * 2, none⟩ = some (.int .u64 kp) := fun x => ((fB x).cell (p := ⟨g, kk * 2, none⟩) HGW.out).trans c3
                have FB := Lib.hid fB
                have FI := Lib.hid fI
                have F0 := Lib.hid f0
                clear fB fI f0 x0 x1 c3
                (refine wp_region_cls f (by kernel_rfl) (by kernel_rfl) F0.out ?_; (repeat (go_big_quiet_step ((go_at_call 106; exact calls_cls FI.out FB.out (HAF.out _ (FB.out _)))))); refine wpQuiet_nil ?_; intro _ hw'; obtain ⟨xq, hw''⟩ := hw'; subst hw'')
                have HBc := Lib.hid (HBx.out.trans ((FB.out xq).mono HBx.out.size))
                have hda : dupAt l k = (List.range k).any (fun j => eP l j == pi) := by unfold dupAt; rw [HPI.out]
                rw [← hda]
                clear hda y0 y1 y3
                generalize f xq = w5 at *
                cases dq : dupAt l k
                case true =>
                  have hf := Lib.hid (rise_false hlt (by rw [HBAD.out, dq]; simp only [Bool.or_true]))
                  go_wp2_with (fail)
                  go_ret
                  exact ⟨FIN.out _ hf.out, HBc.out⟩
                case false =>
                  have HDQ := Lib.hid dq
                  go_wp2_with (fail)
                  go_roundw
                  case rel => exact ⟨k + 1, by omega, by go_num, Lib.hid (fun j hj => by
                    rcases Nat.lt_succ_iff_lt_or_eq.1 hj with h | h
                    · exact hno.out j h
                    · rw [h, HBAD.out, d1, HLQ.out, hD.out, d6, HDQ.out]; rfl), HBc.out⟩
                  case measure => simp [intOf]; omega
    · have hf := Lib.hid (rise_true (lv := lv) (lo := lo) (fi := fi) (l := l) (fun j hj => hno.out j (by omega)))
      clear hB
      go_wp2_with (fail)
      go_ret
      exact ⟨FIN.out _ hf.out, HB.out⟩
end Go.Proofs.Ytgmbnoimlffgcaa
namespace Go.Proofs.Ytgmbnoimlffgcaa
open Go.RowKit

theorem nrise_nil (lv lo fi : Int) (a : Option Addr) (c : Nat) (w : World) :
    Calls Try.prog 102 #[.int .i64 lv, .int .u64 lo, .int .u64 fi, .slice a 0 c] w fun e W' => e = .returned (.bool (riseB lv lo fi [])) ∧ Below w.heap.size w W' := by
  go_enter Try.func102, Try.ntmps102
  go_wp2_with (fail)
  refine wp_loop_rounds 1 ?_
  rw [rounds_succ]
  go_wp2_with (fail)
  go_ret
  exact ⟨rfl, Below.refl _ _⟩

theorem nrise_calls (lv lo fi : Int) (l : List (Int × Int)) (v : Value) (base : Nat) (w : World) (hn : l.length ≤ 1000000) (hv : w.ownsRow base 113 2 v l.length (ecells l)) :
    Calls Try.prog 102 #[.int .i64 lv, .int .u64 lo, .int .u64 fi, v] w fun e W' => e = .returned (.bool (riseB lv lo fi l)) ∧ Below w.heap.size w W' := by
  by_cases hp : 0 < l.length
  · obtain ⟨g, cap, rfl, _, _, hc, _, hE⟩ := own_ents hv rfl hp
    exact nrise_pos lv lo fi l g cap w hn hp hc hE
  · have h0 : l = [] := List.eq_nil_of_length_eq_zero (by omega)
    subst h0
    obtain ⟨_, ⟨rfl, _⟩ | ⟨g, cap, cur, rfl, _⟩⟩ := hv
    · exact nrise_nil lv lo fi _ _ w
    · exact nrise_nil lv lo fi _ _ w

/-- a load of an aggregate that a guard lets be -/
theorem wpList_load_gd {P : Program} {ops : Array Oper} {rest : List Oper} {o : Oper} {a : Act} {w : World} {Q : Exit → Act → World → Prop} (ty : TypeId) (x : Operand) (ho : o.op = .load ty x)
    (g off : Nat) (hx : a.eval x = .pointer (some ⟨g, off, none⟩)) (cs : Array Value) (d : TypeDesc) (hc : ∀ j v, cs[j]? = some v → w.cell? ⟨g, off + j, none⟩ = some v)
    (hu : P.underlying ty = some d) (hd : (match d with | .struct _ | .array _ _ => true | _ => false) = true) (hi : (P.info? ty).map (·.size) = some cs.size)
    (hwd : Region.wanted o (yielded ops a.tmps) = true)
    (h : wpList P ops Q rest (a.put o.dst (.agg cs)) w) : wpList P ops Q (o :: rest) a w := by
  unfold wpList
  rw [if_pos hwd]
  left
  unfold Oper.wp execOp
  simp only [ho, hx, Instr.loadAt, Instr.sureAddr, Sem.run_bind, Sem.run_pure, Result.andThen_ok, run_loadVar_part w g off ty cs d hc hu hd hi]
  exact h
theorem valid_le_len (n : Nd) : n.valid.length ≤ n.len := by
  have h1 : (plN n).length ≤ (List.range n.len).length := List.length_filter_le _ _
  simpa [Nd.valid] using h1

set_option maxRecDepth 100000 in
set_option maxHeartbeats 3200000 in
theorem nmay_calls (n : Nd) (high : Int) (has : Bool) (w : World) :
    Calls Try.prog 89 #[.agg (ndCells n), .int .u64 high, .bool has] w fun e W' => e = .returned (.bool (n.mayB high has)) ∧ Below w.heap.size w W' := by
  have HI := Lib.hid (info27 n)
  have HB0 := Lib.hid (Blk.new w (ndCells n) 40)
  have HW := Lib.hid ((Below.refl w.heap.size w).alloc (Nat.le_refl _) (.cells (ndCells n) 40))
  have HL := Lib.hid (ndLoad HB0.out)
  have hv8 : n.valid.length ≤ 8 := by have := plN_len n; simpa [Nd.valid] using this
  have hvl := valid_le_len n
  have hl8 := n.len_le
  have FIN := Lib.hid (fun (r : Bool) (hr : n.mayB high has = r) => show Ending.returned (.bool r) = .returned (.bool (n.mayB high has)) by rw [hr])
  go_enter Try.func89, Try.ntmps89
  go_wp2_with (with_reducible refine wpList_load_part (o := ⟨some 8, _, _, _, _, _⟩) rfl 40 _ rfl w.heap.size 0 rfl (ndCells n) _ HL.out Try.underlying40 rfl HI.out ?_)
  refine (valid_calls n _).mono ?_
  rintro e w1 ⟨v, rfl, hv, hB⟩
  obtain ⟨va, vl, vc, rfl⟩ := own_slice hv
  have hvl2 : vl = n.valid.length := own_len hv
  subst hvl2
  have hb1 : Blk w1 w.heap.size (ndCells n) 40 := (hB.block _ (by simp)).trans HB0.out
  have hBw : Below w.heap.size w w1 := HW.out.trans (hB.mono (by simp))
  have e0 : w1.cell? ⟨w.heap.size, 0, none⟩ = some (.int .i64 n.lv) := by rw [hb1.cell, ndCells_0]
  have e1 : w1.cell? ⟨w.heap.size, 1, none⟩ = some (.int .u64 n.lo) := by rw [hb1.cell, ndCells_1]
  have e4 : w1.cell? ⟨w.heap.size, 4, none⟩ = some (.int .u64 n.fi) := by rw [hb1.cell, ndCells_4]
  have HL1 := Lib.hid (ndLoad hb1)
  have HB1 := Lib.hid hb1
  have HV := Lib.hid hv
  have HBw := Lib.hid hBw
  have hs1 : w.heap.size ≤ w1.heap.size := hBw.size
  clear hv hB hb1 hBw
  by_cases hq : 0 ≤ n.lv ∧ n.lv ≤ 15 ∧ (n.fi == 0) = false
  · obtain ⟨q1, q2, q3⟩ := hq
    have q3' : (n.fi != 0) = true := by rw [bne, q3]; rfl
    have Q := Lib.hid (show n.mayB high has = ((decide (n.len ≤ n.valid.length + 1) && riseB n.lv n.lo n.fi n.valid) && (!has || decide (n.lo < high))) by
      unfold Nd.mayB
      rw [decide_eq_false (by omega : ¬ n.lv < 0), decide_eq_false (by omega : ¬ 15 < n.lv), q3, Bool.or_self, Bool.or_self, Bool.false_or, Bool.and_comm]
      congr 1
      cases has
      · rfl
      · simp only [Bool.true_and, Bool.not_true, Bool.false_or]
        rw [← decide_not]; congr 1; simp)
    clear q3 e0 e1 e4
    have e0 : w1.cell? ⟨w.heap.size, 0, none⟩ = some (.int .i64 n.lv) := by rw [HB1.out.cell, ndCells_0]
    have e4 : w1.cell? ⟨w.heap.size, 4, none⟩ = some (.int .u64 n.fi) := by rw [HB1.out.cell, ndCells_4]
    go_wp2_with (refine wpList_load_gd (o := ⟨some 24, .load 40 (.tmp 3), _, _, _, _⟩) 40 (.tmp 3) ?ho w.heap.size 0 ?hx (ndCells n) _ HL1.out Try.underlying40 rfl HI.out ?hw ?_; (case ho => rfl); (case hx => rfl); (case hw => rfl))
    refine (len_calls n _).mono ?_
    rintro e w2 ⟨rfl, hB2⟩
    as_aux_lemma =>
      have hb2 : Blk w2 w.heap.size (ndCells n) 40 := HB1.out.below hB2 HB1.out.lt
      have hBw2 : Below w.heap.size w w2 := HBw.out.trans (hB2.mono hs1)
      have HVr := own_below HV.out (hB2.mono (Nat.le_refl _))
      have HRr := Lib.hid (nrise_calls n.lv n.lo n.fi n.valid _ _ w2 (by omega) HVr)
      have f0 : w2.cell? ⟨w.heap.size, 0, none⟩ = some (.int .i64 n.lv) := by rw [hb2.cell, ndCells_0]
      have f1 : w2.cell? ⟨w.heap.size, 1, none⟩ = some (.int .u64 n.lo) := by rw [hb2.cell, ndCells_1]
      have f4 : w2.cell? ⟨w.heap.size, 4, none⟩ = some (.int .u64 n.fi) := by rw [hb2.cell, ndCells_4]
      have HB2 := Lib.hid hb2
      have HBw2 := Lib.hid hBw2
      clear e0 e4 hb2 hBw2 hB2 HVr
      by_cases d1 : n.len ≤ n.valid.length + 1
      · have i1 : (n.len : Int) - (n.valid.length : Int) ≤ 1 := by omega
        have hd1 : decide (n.len ≤ n.valid.length + 1) = true := by simpa using d1
        rw [hd1] at Q
        clear d1 hd1
        cases hr : riseB n.lv n.lo n.fi n.valid with
        | false =>
          rw [hr] at Q HRr
          have HF := Lib.hid (FIN.out false (by rw [Q.out]; rfl))
          clear hr
          as_aux_lemma =>
            go_wp2_with (go_at_call 102; refine HRr.out.mono ?_; rintro e w3 ⟨rfl, hB3⟩)
            go_ret
            exact ⟨HF.out, HBw2.out.trans (hB3.mono HBw2.out.size)⟩
        | true =>
          rw [hr] at Q HRr
          clear hr
          cases has with
          | false =>
            have HF := Lib.hid (FIN.out true (by rw [Q.out]; rfl))
            go_wp2_with (go_at_call 102; refine HRr.out.mono ?_; rintro e w3 ⟨rfl, hB3⟩)
            go_ret
            exact ⟨HF.out, HBw2.out.trans (hB3.mono HBw2.out.size)⟩
          | true =>
            have HF := Lib.hid (FIN.out (decide (n.lo < high)) (by rw [Q.out]; rfl))
            go_wp2_with (go_at_call 102; refine HRr.out.mono ?_; rintro e w3 ⟨rfl, hB3⟩; have g1 : w3.cell? ⟨w.heap.size, 1, none⟩ = some (.int .u64 n.lo) := (hB3.cell (p := ⟨w.heap.size, 1, none⟩) HB2.out.lt).trans f1)
            go_ret
            exact ⟨HF.out, HBw2.out.trans (hB3.mono HBw2.out.size)⟩
      · have i1 : ¬ (n.len : Int) - (n.valid.length : Int) ≤ 1 := by omega
        have hd1 : decide (n.len ≤ n.valid.length + 1) = false := by simpa using d1
        have HF := Lib.hid (FIN.out false (by rw [Q.out, hd1]; rfl))
        clear d1 hd1
        go_wp2_with (fail)
        go_ret
        exact ⟨HF.out, HBw2.out⟩
  · have HF := Lib.hid (FIN.out false (by
      unfold Nd.mayB
      by_cases q1 : n.lv < 0
      · simp [q1]
      by_cases q2 : 15 < n.lv
      · simp [q2]
      have q3 : (n.fi == 0) = true := by
        cases h : (n.fi == 0)
        · exact absurd ⟨by omega, by omega, h⟩ hq
        · rfl
      simp [q3]))
    by_cases q1 : n.lv < 0
    · clear hq
      as_aux_lemma =>
        go_wp2_with (fail)
        go_ret
        exact ⟨HF.out, HBw.out⟩
    by_cases q2 : 15 < n.lv
    · clear hq
      as_aux_lemma =>
        go_wp2_with (fail)
        go_ret
        exact ⟨HF.out, HBw.out⟩
    · have q3 : (n.fi == 0) = true := by
        cases h : (n.fi == 0)
        · exact absurd ⟨by omega, by omega, h⟩ hq
        · rfl
      have q4 : (n.fi != 0) = false := by rw [bne, q3]; rfl
      clear hq
      as_aux_lemma =>
        go_wp2_with (fail)
        go_ret
        exact ⟨HF.out, HBw.out⟩
end Go.Proofs.Ytgmbnoimlffgcaa
