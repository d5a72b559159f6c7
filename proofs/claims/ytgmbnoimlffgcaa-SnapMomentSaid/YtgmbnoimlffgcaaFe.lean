/-
  slices.Index and Contains at addresses; fast.may, fresh: contracts.
-/
import Derived.Test.YtgmbnoimlffgcaaFcN
import Derived.Laws.Tables
namespace Go.Proofs.Ytgmbnoimlffgcaa
open Go.RowKit

/-- a node's cells, written out -/
theorem ndCells_lit (n : Nd) : ndCells n = #[.int .i64 n.lv, .int .u64 n.lo, .int .u64 n.nx, .int .u64 n.ct, .int .u64 n.fi, .int .u64 (n.k 0), .int .u64 (n.k 1), .int .u64 (n.k 2), .int .u64 (n.k 3), .int .u64 (n.k 4), .int .u64 (n.k 5), .int .u64 (n.k 6), .int .u64 (n.k 7), .int .u64 (n.p 0), .int .u64 (n.p 1), .int .u64 (n.p 2), .int .u64 (n.p 3), .int .u64 (n.p 4), .int .u64 (n.p 5), .int .u64 (n.p 6), .int .u64 (n.p 7)] := rfl
set_option maxRecDepth 100000 in
set_option maxHeartbeats 800000 in
theorem cbegin (base : Int) (n : Nd) (h0 : 0 ≤ base) (h1 : base ≤ 1099511627776) (c1 : Int) (hc1 : IntKind.u64.wrap (n.ct + 1) = c1) (w : World) :
    Calls Try.prog 74 #[.int .u64 base, .agg (ndCells n)] w fun e w' => ∃ b, e = .returned (.pointer (some ⟨b, 0, none⟩)) ∧ CSet w.heap.size b base n [(base + 24, c1)] w' ∧ Below w.heap.size w w' := by
  have HI := info27 n
  have hk0 : Blk (w.alloc (.cells (ndCells n) 40)) w.heap.size (ndCells n) 40 := Blk.new w _ _
  have HL := ndLoad hk0
  have hk1 : Blk ((w.alloc (.cells (ndCells n) 40)).alloc (.cells (chCells base n (.slice none 0 0)) 141)) (w.heap.size + 1) (chCells base n (.slice none 0 0)) 141 := by
    have := Blk.new (w.alloc (.cells (ndCells n) 40)) (chCells base n (.slice none 0 0)) 141
    simpa using this
  have e3 : ((w.alloc (.cells (ndCells n) 40)).alloc (.cells (chCells base n (.slice none 0 0)) 141)).cell? ⟨w.heap.size, 3, none⟩ = some (.int .u64 n.ct) := by
    rw [(hk0.alloc _).cell, ndCells_3]
  have HW := cword (B := w.heap.size) (b := w.heap.size + 1) (base := base) (n := n) (l := []) (w := ((w.alloc (.cells (ndCells n) 40)).alloc (.cells (chCells base n (.slice none 0 0)) 141))) ⟨_, hk1, World.ownsRow_nil _ _ _ _, fun e => by simp [Value.ownBlock] at e, by omega, by simp; omega⟩ (by simp) (base + 24) c1
  have HB := (((Below.refl w.heap.size w).alloc (Nat.le_refl _) (.cells (ndCells n) 40)).alloc (by simp) (.cells (chCells base n (.slice none 0 0)) 141))
  clear hk0 hk1
  simp only [ndCells_lit, chCells] at HI HL e3 HW HB ⊢
  replace HI := Lib.hid HI
  replace HL := Lib.hid HL
  replace HW := Lib.hid HW
  replace HB := Lib.hid HB
  go_enter Try.func74, Try.ntmps74
  go_wp2_with (first | (with_reducible refine wpList_load_part (o := ⟨some 7, _, _, _, _, _⟩) rfl 40 _ rfl w.heap.size 0 rfl _ _ HL.out Try.underlying40 rfl HI.out ?_) | (go_at_call 83; (with_reducible refine HW.out.mono ?_); rintro e w2 ⟨rfl, hk, hB⟩; have HK := Lib.hid hk; have HB2 := Lib.hid hB; clear hk hB))
  go_ret
  exact ⟨_, rfl, HK.out, HB.out.trans HB2.out⟩

/-- the stores that close a gap -/
def gapL (base : Int) (n : Nd) (p : Nat) : Nat → List (Int × Int)
  | 0 => []
  | j + 1 => gapL base n p j ++ [(base + 64 + 16 * ((p + j : Nat) : Int), n.k (p + j + 1)), (base + 64 + 16 * ((p + j : Nat) : Int) + 8, n.p (p + j + 1))]
theorem gapL_len (base : Int) (n : Nd) (p : Nat) : ∀ j, (gapL base n p j).length = 2 * j
  | 0 => rfl
  | j + 1 => by rw [gapL, List.length_append, gapL_len base n p j]; simp; omega
def Alike (m n : Nd) (i : Nat) : Prop := m.ct = n.ct ∧ ∀ j, i < j → m.k j = n.k j ∧ m.p j = n.p j
set_option maxRecDepth 100000 in
set_option maxHeartbeats 1600000 in
theorem cclose {B b : Nat} {base : Int} {n m : Nd} {l : List (Int × Int)} {w : World} (h : CSet B b base m l w) (p q : Nat) (ha : Alike m n p) (hpq : p ≤ q) (h8 : q + 1 ≤ 8) (hl : l.length ≤ 900) (h0 : 0 ≤ base) (h1 : base ≤ 1099511627776) :
    Calls Try.prog 80 #[.pointer (some ⟨b, 0, none⟩), .int .i64 p, .int .i64 ((q : Int) + 1)] w fun e w' => e = .returned (.tuple #[]) ∧ (∃ m', CSet B b base m' (l ++ gapL base n p (q - p) ++ [(base + 64 + 16 * (q : Int) + 8, 0)]) w' ∧ m'.ct = n.ct) ∧ Below B w w' := by
  have H := Lib.hid h
  have HA := Lib.hid ha
  clear h ha
  go_enter Try.func80, Try.ntmps80
  go_wp2_with (fail)
  go_loopw [6] (fun iv wr => ∃ (k : Nat) (m' : Nd), p ≤ k ∧ k ≤ q ∧ iv = .int .i64 k ∧ Hid (CSet B b base m' (l ++ gapL base n p (k - p)) wr) ∧ Hid (Alike m' n k) ∧ Hid (Below B w wr)) (fun iv _ => q - (intOf iv).toNat)
  case atStart => exact ⟨p, m, Nat.le_refl _, hpq, rfl, Lib.hid (by rw [Nat.sub_self]; simpa [gapL] using H.out), HA, Lib.hid (Below.refl _ _)⟩
  case round =>
    obtain ⟨k, m', hk1, hk2, rfl, HC, HAl, HB⟩ := hrel
    by_cases hlt : k < q
    · have hgl : (l ++ gapL base n p (k - p)).length ≤ 920 := by rw [List.length_append, gapL_len]; omega
      have hgl2 : (l ++ gapL base n p (k - p) ++ [(base + 64 + 16 * (k : Int), n.k (k + 1))]).length ≤ 1000 := by rw [List.length_append]; simp only [List.length_cons, List.length_nil]; omega
      obtain ⟨-, -, -, hat, -⟩ := HC.out.at
      have ck := (hat (k + 1) (by omega)).1
      rw [(HAl.out.2 (k + 1) (by omega)).1] at ck
      have HK := Lib.hid (ckey HC.out (by omega) h0 h1 k (by omega) (n.k (k + 1)))
      have HN : Hid (∀ (m2 : Nd) (w2 : World), m2 = m'.setK k (n.k (k + 1)) → CSet B b base m2 (l ++ gapL base n p (k - p) ++ [(base + 64 + 16 * (k : Int), n.k (k + 1))]) w2 → w2.cell? ⟨b, 14 + (k + 1), none⟩ = some (.int .u64 (n.p (k + 1))) ∧ Calls Try.prog 76 #[.pointer (some ⟨b, 0, none⟩), .int .i64 k, .int .u64 (n.p (k + 1))] w2 fun e w' => e = .returned (.tuple #[]) ∧ CSet B b base (m2.setP k (n.p (k + 1))) (l ++ gapL base n p (k + 1 - p)) w' ∧ Below B w2 w') := Lib.hid (fun m2 w2 e2 hc2 => by
        subst e2
        refine ⟨?_, ?_⟩
        · rw [(hc2.at.2.2.2.1 (k + 1) (by omega)).2]
          exact congrArg (fun z => some (Value.int .u64 z)) (HAl.out.2 (k + 1) (by omega)).2
        · refine (cptr hc2 hgl2 h0 h1 k (by omega) (n.p (k + 1))).mono ?_
          rintro e w' ⟨he, hc, hB⟩
          refine ⟨he, ?_, hB⟩
          have : l ++ gapL base n p (k - p) ++ [(base + 64 + 16 * (k : Int), n.k (k + 1))] ++ [(base + 64 + 16 * (k : Int) + 8, n.p (k + 1))] = l ++ gapL base n p (k + 1 - p) := by
            rw [show k + 1 - p = (k - p) + 1 by omega, gapL, show p + (k - p) = k by omega]
            simp
          rwa [this] at hc)
      have HA2 : Hid (Alike ((m'.setK k (n.k (k + 1))).setP k (n.p (k + 1))) n (k + 1)) := Lib.hid ⟨HAl.out.1, fun j hj => by
        have := HAl.out.2 j (by omega)
        simp only [Nd.setK, Nd.setP, if_neg (show j ≠ k by omega)]
        exact this⟩
      have b1 : (k : Int) < (q : Int) := by omega
      have b2 : (k : Int) + 1 < 8 := by omega
      have b3 : (0 : Int) ≤ (k : Int) := by omega
      have b4 : ((k : Int) + 1).toNat = k + 1 := by omega
      have b5 : 6 + (k + 1) = 6 + k + 1 := by omega
      have hcab := HC.out.above
      clear hat hgl hgl2 b5
      obtain ⟨xk, hxk⟩ : ∃ xk, n.k (k + 1) = xk := ⟨_, rfl⟩
      obtain ⟨xp, hxp⟩ : ∃ xp, n.p (k + 1) = xp := ⟨_, rfl⟩
      rw [hxk] at ck HK HN HA2
      rw [hxp] at HN HA2
      clear hxk hxp
      go_wp2_with (fail)
      refine HK.out.mono ?_
      rintro e w2 ⟨rfl, hc2, hB2⟩
      obtain ⟨cp, hN2⟩ := HN.out _ w2 rfl hc2
      have HN2 := Lib.hid hN2
      have HB2 := Lib.hid (HB.out.trans hB2)
      clear hc2 hB2 hN2 ck
      go_wp2_with (fail)
      refine HN2.out.mono ?_
      rintro e w3 ⟨rfl, hc3, hB3⟩
      have HC3 := Lib.hid hc3
      have HB3 := Lib.hid (HB2.out.trans hB3)
      clear hc3 hB3 cp
      go_wp2_with (fail)
      go_roundw
      case rel =>
        exact ⟨k + 1, _, by omega, by omega, by go_num, HC3, HA2, HB3⟩
      case measure => simp [intOf]; omega
    · have hk3 : k = q := by omega
      subst hk3
      have hgl : (l ++ gapL base n p (k - p)).length ≤ 920 := by rw [List.length_append, gapL_len]; omega
      have HP := Lib.hid (cptr HC.out (by omega) h0 h1 k (by omega) 0)
      have HCT := Lib.hid HAl.out.1
      clear hgl
      go_wp2_with (fail)
      refine HP.out.mono ?_
      rintro e w2 ⟨rfl, hc2, hB2⟩
      have HC2 := Lib.hid hc2
      have HB2 := Lib.hid (HB.out.trans hB2)
      clear hc2 hB2
      go_wp2_with (fail)
      go_end0
      exact ⟨rfl, ⟨m'.setP k 0, by simpa using HC2.out, HCT.out⟩, HB2.out⟩
end Go.Proofs.Ytgmbnoimlffgcaa
namespace Go.Proofs.Ytgmbnoimlffgcaa
open Go.RowKit

set_option maxRecDepth 100000 in
set_option maxHeartbeats 800000 in
theorem idxA_calls (f : Nat → Int) (m c g off : Nat) (x : Int) (w : World) (hm : m ≤ 1000) (hc : ∀ j, j < m → w.cell? ⟨g, off + j, none⟩ = some (.int .u64 (f j))) :
    Calls Try.prog 104 #[.slice (some ⟨g, off, none⟩) m c, .int .u64 x] w fun e w' => e = .returned (.int .i64 (firstF (fun j => x == f j) m 0)) ∧ w = w' := by
  have HC := Lib.hid hc
  clear hc
  have FIN := Lib.hid (fun (r : Int) (hr : firstF (fun j => x == f j) m 0 = r) => show Ending.returned (.int .i64 r) = .returned (.int .i64 (firstF (fun j => x == f j) m 0)) by rw [hr])
  go_enter Try.func104, Try.ntmps104
  go_wp2_with (fail)
  go_loop [8] (fun iv => ∃ k : Nat, k ≤ m ∧ iv = .int .i64 k ∧ Hid (firstF (fun j => x == f j) m 0 = firstF (fun j => x == f j) (m - k) k)) (fun iv => m - (intOf iv).toNat)
  case atStart => exact ⟨0, Nat.zero_le _, rfl, Lib.hid rfl⟩
  case round =>
    obtain ⟨k, hk, rfl, hR⟩ := hrel
    by_cases hlt : k < m
    · have c1 := HC.out k hlt
      obtain ⟨y, hy⟩ : ∃ y, f k = y := ⟨_, rfl⟩
      rw [hy] at c1
      have hst := Lib.hid (hR.out.trans (firstF_step (fun j => x == f j) m k hlt))
      have q1 : (k : Int) < (m : Int) := by omega
      have q2 : (0 : Int) ≤ (k : Int) := by omega
      have q3 : ((k : Int)).toNat = k := by omega
      have HY := Lib.hid hy
      clear hy
      cases hc : (x == y)
      · have hr2 := Lib.hid (hst.out.trans (if_neg (by simp only [HY.out, hc]; simp)))
        go_wp2_with (fail)
        go_round
        case rel => exact ⟨k + 1, by omega, by go_num, hr2⟩
        case measure => simp [intOf]; omega
      · have hr2 := Lib.hid (hst.out.trans (if_pos (by simp only [HY.out, hc])))
        go_wp2_with (fail)
        go_ret
        exact ⟨FIN.out _ hr2.out, rfl⟩
    · have hf := Lib.hid (hR.out.trans (firstF_end _ m k (by omega)))
      go_wp2_with (fail)
      go_ret
      exact ⟨FIN.out _ hf.out, rfl⟩
theorem contA_calls (f : Nat → Int) (m c g off : Nat) (x : Int) (w : World) (hm : m ≤ 1000) (hc : ∀ j, j < m → w.cell? ⟨g, off + j, none⟩ = some (.int .u64 (f j))) :
    Calls Try.prog 95 #[.slice (some ⟨g, off, none⟩) m c, .int .u64 x] w fun e w' => e = .returned (.bool ((List.range m).any (fun j => x == f j))) ∧ w = w' := by
  have HI := Lib.hid (idxA_calls f m c g off x w hm hc)
  have HA := Lib.hid (firstF_any (fun j => x == f j) m 0)
  clear hc
  obtain ⟨r, hr⟩ : ∃ r, firstF (fun j => x == f j) m 0 = r := ⟨_, rfl⟩
  rw [hr] at HI HA
  clear hr
  go_enter Try.func95, Try.ntmps95
  go_wp2_with (go_at_call 104; refine HI.out.mono ?_; rintro e w' ⟨rfl, rfl⟩)
  go_ret
  exact ⟨congrArg (fun b => Ending.returned (.bool b)) (by have := HA.out; simpa using this), rfl⟩

/-! ### may, fresh -/
instance (b : Int) : Decidable (Stands b) := by unfold Stands; infer_instance
def mayE (base : Int) (n : Nd) : Int := if Stands base ∧ n.mayB 0 false = true then (if 0 ≤ n.invalid then 7 else 0) else 2
set_option maxRecDepth 100000 in
set_option maxHeartbeats 800000 in
theorem may_v (base : Int) (n : Nd) (w : World) :
    Calls Try.prog 70 #[.int .u64 base, .agg (ndCells n)] w fun e w' => e = .returned (.int .i64 (mayE base n)) ∧ Below w.heap.size w w' := by
  have HI := Lib.hid (info27 n)
  have hk0 : Blk (w.alloc (.cells (ndCells n) 40)) w.heap.size (ndCells n) 40 := Blk.new w _ _
  have HK0 := Lib.hid hk0
  have HL := Lib.hid (ndLoad hk0)
  have HB0 := Lib.hid ((Below.refl w.heap.size w).alloc (Nat.le_refl _) (.cells (ndCells n) 40))
  clear hk0
  by_cases hs : Stands base
  · have HS := Lib.hid (fun w => stands_yes base hs w)
    have HM := Lib.hid (fun w => nmay_calls n 0 false w)
    cases hm : n.mayB 0 false with
    | false =>
      have HF := Lib.hid (show mayE base n = 2 by unfold mayE; rw [if_neg (by rw [hm]; simp)])
      rw [hm] at HM
      clear hs hm
      go_enter Try.func70, Try.ntmps70
      go_wp2_with (first | (go_at_call 64; refine (HS.out _).mono ?_; rintro e w' ⟨rfl, rfl⟩) | (refine wpList_load_gd (o := ⟨some 10, .load 40 (.tmp 3), _, _, _, _⟩) 40 (.tmp 3) ?ho w.heap.size 0 ?hx (ndCells n) _ HL.out Try.underlying40 rfl HI.out ?hw ?_; (case ho => rfl); (case hx => rfl); (case hw => rfl)) | (go_at_call 89; refine (HM.out _).mono ?_; rintro e w1 ⟨rfl, hB⟩; have HB := Lib.hid hB; clear hB))
      go_ret
      exact ⟨congrArg (fun z => Ending.returned (.int .i64 z)) HF.out.symm, HB0.out.trans (HB.out.mono HB0.out.size)⟩
    | true =>
      rw [hm] at HM
      have HF := Lib.hid (show mayE base n = if 0 ≤ n.invalid then 7 else 0 by unfold mayE; rw [if_pos ⟨hs, hm⟩])
      have HV := Lib.hid (fun w => invalid_calls n w)
      obtain ⟨r, hr⟩ : ∃ r, n.invalid = r := ⟨_, rfl⟩
      rw [hr] at HF HV
      clear hs hm hr
      by_cases h0 : 0 ≤ r
      · rw [if_pos h0] at HF
        go_enter Try.func70, Try.ntmps70
        go_wp2_with (first | (go_at_call 64; refine (HS.out _).mono ?_; rintro e w' ⟨rfl, rfl⟩) | (refine wpList_load_gd (o := ⟨some 10, .load 40 (.tmp 3), _, _, _, _⟩) 40 (.tmp 3) ?ho w.heap.size 0 ?hx (ndCells n) _ HL.out Try.underlying40 rfl HI.out ?hw ?_; (case ho => rfl); (case hx => rfl); (case hw => rfl)) | (go_at_call 89; refine (HM.out _).mono ?_; rintro e w1 ⟨rfl, hB⟩; have HB := Lib.hid (HB0.out.trans (hB.mono HB0.out.size)); have HL1 := Lib.hid (ndLoad (HK0.out.below hB HK0.out.lt)); clear hB) | (with_reducible refine wpList_load_part (o := ⟨some 15, _, _, _, _, _⟩) rfl 40 _ rfl w.heap.size 0 rfl (ndCells n) _ HL1.out Try.underlying40 rfl HI.out ?_) | (go_at_call 90; refine (HV.out _).mono ?_; rintro e w2 ⟨rfl, hB2⟩; have HB2 := Lib.hid (HB.out.trans (hB2.mono HB.out.size)); clear hB2))
        go_ret
        exact ⟨congrArg (fun z => Ending.returned (.int .i64 z)) HF.out.symm, HB2.out⟩
      · rw [if_neg h0] at HF
        go_enter Try.func70, Try.ntmps70
        go_wp2_with (first | (go_at_call 64; refine (HS.out _).mono ?_; rintro e w' ⟨rfl, rfl⟩) | (refine wpList_load_gd (o := ⟨some 10, .load 40 (.tmp 3), _, _, _, _⟩) 40 (.tmp 3) ?ho w.heap.size 0 ?hx (ndCells n) _ HL.out Try.underlying40 rfl HI.out ?hw ?_; (case ho => rfl); (case hx => rfl); (case hw => rfl)) | (go_at_call 89; refine (HM.out _).mono ?_; rintro e w1 ⟨rfl, hB⟩; have HB := Lib.hid (HB0.out.trans (hB.mono HB0.out.size)); have HL1 := Lib.hid (ndLoad (HK0.out.below hB HK0.out.lt)); clear hB) | (with_reducible refine wpList_load_part (o := ⟨some 15, _, _, _, _, _⟩) rfl 40 _ rfl w.heap.size 0 rfl (ndCells n) _ HL1.out Try.underlying40 rfl HI.out ?_) | (go_at_call 90; refine (HV.out _).mono ?_; rintro e w2 ⟨rfl, hB2⟩; have HB2 := Lib.hid (HB.out.trans (hB2.mono HB.out.size)); clear hB2))
        go_ret
        exact ⟨congrArg (fun z => Ending.returned (.int .i64 z)) HF.out.symm, HB2.out⟩
  · have HS := Lib.hid (fun w => stands_no base hs w)
    have HF := Lib.hid (show mayE base n = 2 by unfold mayE; rw [if_neg (fun h => hs h.1)])
    clear hs
    go_enter Try.func70, Try.ntmps70
    go_wp2_with (go_at_call 64; refine (HS.out _).mono ?_; rintro e w' ⟨rfl, rfl⟩)
    go_ret
    exact ⟨congrArg (fun z => Ending.returned (.int .i64 z)) HF.out.symm, HB0.out⟩

def freshB (n : Nd) (p : Int) : Bool := (p != 0) && (p != n.fi) && !((List.range n.len).any fun j => p == n.p j)
set_option maxRecDepth 100000 in
set_option maxHeartbeats 800000 in
theorem fresh_v (n : Nd) (p : Int) (w : World) :
    Calls Try.prog 73 #[.agg (ndCells n), .int .u64 p] w fun e w' => e = .returned (.bool (freshB n p)) ∧ Below w.heap.size w w' := by
  have HI := Lib.hid (info27 n)
  have hk0 : Blk (w.alloc (.cells (ndCells n) 40)) w.heap.size (ndCells n) 40 := Blk.new w _ _
  have HK0 := Lib.hid hk0
  have HL := Lib.hid (ndLoad hk0)
  have HB0 := Lib.hid ((Below.refl w.heap.size w).alloc (Nat.le_refl _) (.cells (ndCells n) 40))
  have e4 : (w.alloc (.cells (ndCells n) 40)).cell? ⟨w.heap.size, 4, none⟩ = some (.int .u64 n.fi) := by rw [hk0.cell, ndCells_4]
  have h8 := n.len_le
  have HN := Lib.hid (fun w => len_calls n w)
  have HCt := Lib.hid (fun (w1 : World) (hb : Below (w.alloc (.cells (ndCells n) 40)).heap.size (w.alloc (.cells (ndCells n) 40)) w1) => contA_calls n.p n.len 8 w.heap.size 13 p w1 (by omega) (fun j hj => by rw [(hk0.below hb hk0.lt).cell, ndCells_p n j (by omega)]))
  clear hk0
  cases h1 : (p != 0)
  · have HF := Lib.hid (show freshB n p = false by unfold freshB; rw [h1]; rfl)
    go_enter Try.func73, Try.ntmps73
    go_wp2_with (fail)
    go_ret
    exact ⟨congrArg (fun z => Ending.returned (.bool z)) HF.out.symm, HB0.out⟩
  · cases h2 : (p != n.fi)
    · have HF := Lib.hid (show freshB n p = false by unfold freshB; rw [h1, h2]; rfl)
      go_enter Try.func73, Try.ntmps73
      go_wp2_with (fail)
      go_ret
      exact ⟨congrArg (fun z => Ending.returned (.bool z)) HF.out.symm, HB0.out⟩
    · have HF := Lib.hid (show freshB n p = !((List.range n.len).any fun j => p == n.p j) by unfold freshB; rw [h1, h2]; rfl)
      obtain ⟨r, hr⟩ : ∃ r, ((List.range n.len).any fun j => p == n.p j) = r := ⟨_, rfl⟩
      rw [hr] at HF HCt
      obtain ⟨m, hm⟩ : ∃ m, n.len = m := ⟨_, rfl⟩
      rw [hm] at h8 HN HCt
      clear hr hm
      have h8' : (m : Int) ≤ 8 := by omega
      go_enter Try.func73, Try.ntmps73
      go_wp2_with (first | (refine wpList_load_gd (o := ⟨some 15, .load 40 (.tmp 2), _, _, _, _⟩) 40 (.tmp 2) ?ho w.heap.size 0 ?hx (ndCells n) _ HL.out Try.underlying40 rfl HI.out ?hw ?_; (case ho => rfl); (case hx => rfl); (case hw => rfl)) | (go_at_call 72; refine (HN.out _).mono ?_; rintro e w1 ⟨rfl, hB⟩; have HB := Lib.hid (HB0.out.trans (hB.mono HB0.out.size)); have HC1 := Lib.hid (HCt.out w1 hB); clear hB) | (go_at_call 95; refine HC1.out.mono ?_; rintro e w2 ⟨rfl, rfl⟩))
      go_ret
      exact ⟨congrArg (fun z => Ending.returned (.bool z)) HF.out.symm, HB.out⟩
end Go.Proofs.Ytgmbnoimlffgcaa
