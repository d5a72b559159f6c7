/-
  fast.begin, (*change).close, slices.Index and Contains at addresses, fast.may, fresh: contracts.
-/
import Derived.Test.YtbpaefhihdhdeaaFc
import Derived.Laws.Tables
namespace Go.Proofs.Ytbpaefhihdhdeaa
open Go.RowKit

theorem wpList_build {P : Program} {ops : Array Oper} {rest : List Oper} {o : Oper} {a : Act} {w : World} {Q : Exit → Act → World → Prop} (hgd : o.guard = none) (t : TypeId) (parts : Array (Nat × Operand)) (ho : o.op = .build t parts)
    (cells : Array Value) (h : P.built t (parts.map fun (i, x) => (i, a.eval x)).toList = some cells) (hK : wpList P ops Q rest (a.put o.dst (.agg cells)) w) : wpList P ops Q (o :: rest) a w :=
  wpList_plain hgd fun _ hK' => by
    unfold Oper.wp execOp
    simp only [ho, Sem.run_bind, run_build w t _ _ h, Result.andThen_ok, Sem.run_pure]
    exact hK' _ _ hK
/-- a node's cells, written out -/
theorem ndCells_lit (n : Nd) : ndCells n = #[.int .i64 n.lv, .int .u64 n.lo, .int .u64 n.nx, .int .u64 n.ct, .int .u64 n.fi, .int .u64 (n.k 0), .int .u64 (n.k 1), .int .u64 (n.k 2), .int .u64 (n.k 3), .int .u64 (n.k 4), .int .u64 (n.k 5), .int .u64 (n.k 6), .int .u64 (n.k 7), .int .u64 (n.p 0), .int .u64 (n.p 1), .int .u64 (n.p 2), .int .u64 (n.p 3), .int .u64 (n.p 4), .int .u64 (n.p 5), .int .u64 (n.p 6), .int .u64 (n.p 7)] := rfl
theorem built_ch (base : Int) (n : Nd) : Try.prog.built 88 [(0, .int .u64 base), (1, .agg (ndCells n))] = some (chCells base n (.slice none 0 0)) := by kernel_rfl
set_option maxRecDepth 100000 in
set_option maxHeartbeats 800000 in
theorem cbegin (base : Int) (n : Nd) (h0 : 0 ≤ base) (h1 : base ≤ 1099511627776) (c1 : Int) (hc1 : IntKind.u64.wrap (n.ct + 1) = c1) (w : World) :
    Calls Try.prog 44 #[.int .u64 base, .agg (ndCells n)] w fun e w' => ∃ b, e = .returned (.pointer (some ⟨b, 0, none⟩)) ∧ CSet w.heap.size b base n [(base + 24, c1)] w' ∧ Below w.heap.size w w' := by
  have HI := info27 n
  have hk0 : Blk (w.alloc (.cells (ndCells n) 27)) w.heap.size (ndCells n) 27 := Blk.new w _ _
  have HL := ndLoad hk0
  have hk1 : Blk ((w.alloc (.cells (ndCells n) 27)).alloc (.cells (chCells base n (.slice none 0 0)) 88)) (w.heap.size + 1) (chCells base n (.slice none 0 0)) 88 := by
    have := Blk.new (w.alloc (.cells (ndCells n) 27)) (chCells base n (.slice none 0 0)) 88
    simpa using this
  have e3 : ((w.alloc (.cells (ndCells n) 27)).alloc (.cells (chCells base n (.slice none 0 0)) 88)).cell? ⟨w.heap.size, 3, none⟩ = some (.int .u64 n.ct) := by
    rw [(hk0.alloc _).cell, ndCells_3]
  have HW := cword (B := w.heap.size) (b := w.heap.size + 1) (base := base) (n := n) (l := []) (w := ((w.alloc (.cells (ndCells n) 27)).alloc (.cells (chCells base n (.slice none 0 0)) 88))) ⟨_, hk1, World.ownsRow_nil _ _ _ _, fun e => by simp [Value.ownBlock] at e, by omega, by simp; omega⟩ (by simp) (base + 24) c1
  have HB := (((Below.refl w.heap.size w).alloc (Nat.le_refl _) (.cells (ndCells n) 27)).alloc (by simp) (.cells (chCells base n (.slice none 0 0)) 88))
  clear hk0 hk1
  simp only [ndCells_lit, chCells] at HI HL e3 HW HB ⊢
  replace HI := Lib.hid HI
  replace HL := Lib.hid HL
  replace HW := Lib.hid HW
  replace HB := Lib.hid HB
  go_enter Try.func44, Try.ntmps44
  go_wp2_with (first | (with_reducible refine wpList_load_part (o := ⟨some 7, _, _, _, _, _⟩) rfl 27 _ rfl w.heap.size 0 rfl _ _ HL.out Try.underlying27 rfl HI.out ?_) | (go_at_call 59; (with_reducible refine HW.out.mono ?_); rintro e w2 ⟨rfl, hk, hB⟩; have HK := Lib.hid hk; have HB2 := Lib.hid hB; clear hk hB))
  go_ret
  exact ⟨_, rfl, HK.out, HB.out.trans HB2.out⟩

/-- the stores that close a gap -/
def gapL (base : Int) (n : Nd) (p : Nat) : Nat → List (Int × Int)
  | 0 => []
  | j + 1 => gapL base n p j ++ [(base + 64 + 16 * ((p + j : Nat) : Int), n.k (p + j + 1)), (base + 64 + 16 * ((p + j : Nat) : Int) + 8, n.p (p + j + 1))]
theorem gapL_len (base : Int) (n : Nd) (p : Nat) : ∀ j, (gapL base n p j).length = 2 * j
  | 0 => rfl
  | j + 1 => by rw [gapL, List.length_append, gapL_len base n p j]; simp; omega
def Alike (m n : Nd) (i : Nat) : Prop := m.ct = n.ct ∧ ∀ j, i < j → m.k j = n.k j ∧ m.p j = n.p j
set_option maxRecDepth 100000 in
set_option maxHeartbeats 1600000 in
theorem cclose {B b : Nat} {base : Int} {n m : Nd} {l : List (Int × Int)} {w : World} (h : CSet B b base m l w) (p q : Nat) (ha : Alike m n p) (hpq : p ≤ q) (h8 : q + 1 ≤ 8) (hl : l.length ≤ 900) (h0 : 0 ≤ base) (h1 : base ≤ 1099511627776) :
    Calls Try.prog 45 #[.pointer (some ⟨b, 0, none⟩), .int .i64 p, .int .i64 ((q : Int) + 1)] w fun e w' => e = .returned (.tuple #[]) ∧ (∃ m', CSet B b base m' (l ++ gapL base n p (q - p) ++ [(base + 64 + 16 * (q : Int) + 8, 0)]) w' ∧ m'.ct = n.ct) ∧ Below B w w' := by
  have H := Lib.hid h
  have HA := Lib.hid ha
  clear h ha
  go_enter Try.func45, Try.ntmps45
  go_wp2_with (fail)
  go_loopw [6] (fun iv wr => ∃ (k : Nat) (m' : Nd), p ≤ k ∧ k ≤ q ∧ iv = .int .i64 k ∧ Hid (CSet B b base m' (l ++ gapL base n p (k - p)) wr) ∧ Hid (Alike m' n k) ∧ Hid (Below B w wr)) (fun iv _ => q - (intOf iv).toNat)
  case atStart => exact ⟨p, m, Nat.le_refl _, hpq, rfl, Lib.hid (by rw [Nat.sub_self]; simpa [gapL] using H.out), HA, Lib.hid (Below.refl _ _)⟩
  case round =>
    obtain ⟨k, m', hk1, hk2, rfl, HC, HAl, HB⟩ := hrel
    by_cases hlt : k < q
    · have hgl : (l ++ gapL base n p (k - p)).length ≤ 920 := by rw [List.length_append, gapL_len]; omega
      have hgl2 : (l ++ gapL base n p (k - p) ++ [(base + 64 + 16 * (k : Int), n.k (k + 1))]).length ≤ 1000 := by rw [List.length_append]; simp only [List.length_cons, List.length_nil]; omega
      obtain ⟨-, -, -, hat, -⟩ := HC.out.at
      have ck := (hat (k + 1) (by omega)).1
      rw [(HAl.out.2 (k + 1) (by omega)).1] at ck
      have HK := Lib.hid (ckey HC.out (by omega) h0 h1 k (by omega) (n.k (k + 1)))
      have HN : Hid (∀ (m2 : Nd) (w2 : World), m2 = m'.setK k (n.k (k + 1)) → CSet B b base m2 (l ++ gapL base n p (k - p) ++ [(base + 64 + 16 * (k : Int), n.k (k + 1))]) w2 → w2.cell? ⟨b, 14 + (k + 1), none⟩ = some (.int .u64 (n.p (k + 1))) ∧ Calls Try.prog 54 #[.pointer (some ⟨b, 0, none⟩), .int .i64 k, .int .u64 (n.p (k + 1))] w2 fun e w' => e = .returned (.tuple #[]) ∧ CSet B b base (m2.setP k (n.p (k + 1))) (l ++ gapL base n p (k + 1 - p)) w' ∧ Below B w2 w') := Lib.hid (fun m2 w2 e2 hc2 => by
        subst e2
        refine ⟨?_, ?_⟩
        · rw [(hc2.at.2.2.2.1 (k + 1) (by omega)).2]
          exact congrArg (fun z => some (Value.int .u64 z)) (HAl.out.2 (k + 1) (by omega)).2
        · refine (cptr hc2 hgl2 h0 h1 k (by omega) (n.p (k + 1))).mono ?_
          rintro e w' ⟨he, hc, hB⟩
          refine ⟨he, ?_, hB⟩
          have : l ++ gapL base n p (k - p) ++ [(base + 64 + 16 * (k : Int), n.k (k + 1))] ++ [(base + 64 + 16 * (k : Int) + 8, n.p (k + 1))] = l ++ gapL base n p (k + 1 - p) := by
            rw [show k + 1 - p = (k - p) + 1 by omega, gapL, show p + (k - p) = k by omega]
            simp
          rwa [this] at hc)
      have HA2 : Hid (Alike ((m'.setK k (n.k (k + 1))).setP k (n.p (k + 1))) n (k + 1)) := Lib.hid ⟨HAl.out.1, fun j hj => by
        have := HAl.out.2 j (by omega)
        simp only [Nd.setK, Nd.setP, if_neg (show j ≠ k by omega)]
        exact this⟩
      have b1 : (k : Int) < (q : Int) := by omega
      have b2 : (k : Int) + 1 < 8 := by omega
      have b3 : (0 : Int) ≤ (k : Int) := by omega
      have b4 : ((k : Int) + 1).toNat = k + 1 := by omega
      have b5 : 6 + (k + 1) = 6 + k + 1 := by omega
      have hcab := HC.out.above
      clear hat hgl hgl2 b5
      obtain ⟨xk, hxk⟩ : ∃ xk, n.k (k + 1) = xk := ⟨_, rfl⟩
      obtain ⟨xp, hxp⟩ : ∃ xp, n.p (k + 1) = xp := ⟨_, rfl⟩
      rw [hxk] at ck HK HN HA2
      rw [hxp] at HN HA2
      clear hxk hxp
      go_wp2_with (fail)
      refine HK.out.mono ?_
      rintro e w2 ⟨rfl, hc2, hB2⟩
      obtain ⟨cp, hN2⟩ := HN.out _ w2 rfl hc2
      have HN2 := Lib.hid hN2
      have HB2 := Lib.hid (HB.out.trans hB2)
      clear hc2 hB2 hN2 ck
      go_wp2_with (fail)
      refine HN2.out.mono ?_
      rintro e w3 ⟨rfl, hc3, hB3⟩
      have HC3 := Lib.hid hc3
      have HB3 := Lib.hid (HB2.out.trans hB3)
      clear hc3 hB3 cp
      go_wp2_with (fail)
      go_roundw
      case rel =>
        exact ⟨k + 1, _, by omega, by omega, by go_num, HC3, HA2, HB3⟩
      case measure => simp [intOf]; omega
    · have hk3 : k = q := by omega
      subst hk3
      have hgl : (l ++ gapL base n p (k - p)).length ≤ 920 := by rw [List.length_append, gapL_len]; omega
      have HP := Lib.hid (cptr HC.out (by omega) h0 h1 k (by omega) 0)
      have HCT := Lib.hid HAl.out.1
      clear hgl
      go_wp2_with (fail)
      refine HP.out.mono ?_
      rintro e w2 ⟨rfl, hc2, hB2⟩
      have HC2 := Lib.hid hc2
      have HB2 := Lib.hid (HB.out.trans hB2)
      clear hc2 hB2
      go_wp2_with (fail)
      go_end0
      exact ⟨rfl, ⟨m'.setP k 0, by simpa using HC2.out, HCT.out⟩, HB2.out⟩
end Go.Proofs.Ytbpaefhihdhdeaa
