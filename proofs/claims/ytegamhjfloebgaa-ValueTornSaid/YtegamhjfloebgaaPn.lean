/-
  A READ ENDS WHERE THE DOCUMENT SAYS (no program in sight).
-/
import Derived.Test.YtegamhjfloebgaaIm
namespace Go.Proofs.Ytegamhjfloebgaa
open Go.RowKit Go.Shelf
attribute [local go_sem] Oper.semAt_some
set_option linter.unusedVariables false

def wordsFrom (L : List UInt8) (i k : Nat) : List Int := (List.range k).map (fun j => chunk L (i + j))
theorem wordsFrom_len (L : List UInt8) (i k : Nat) : (wordsFrom L i k).length = k := by simp [wordsFrom]
theorem wordsFrom_succ (L : List UInt8) (i k : Nat) : wordsFrom L i (k + 1) = wordsFrom L i k ++ [chunk L (i + k)] := by simp [wordsFrom, List.range_succ]
theorem chunk_rng (L : List UInt8) (i : Nat) : 0 ≤ chunk L i ∧ chunk L i ≤ 18446744073709551615 := by
  have h0 := wd_nonneg ((L.drop (8 * i)).take 8)
  have h1 := wd_lt ((L.drop (8 * i)).take 8)
  have h2 : ((256 ^ ((L.drop (8 * i)).take 8).length : Nat) : Int) ≤ 18446744073709551616 := by
    have : (256 : Nat) ^ ((L.drop (8 * i)).take 8).length ≤ 256 ^ 8 := Nat.pow_le_pow_right (by decide) (by simp; omega)
    have e : (256 : Nat) ^ 8 = 18446744073709551616 := by decide
    omega
  unfold chunk
  omega
theorem wordsFrom_u64 (L : List UInt8) (i k : Nat) : U64s (wordsFrom L i k) := fun x hx => by
  obtain ⟨j, _, rfl⟩ := List.mem_map.1 hx
  exact chunk_rng L _
def standP (L : List UInt8) (a : Int) : List UInt8 × Int :=
  if a % 8 ≠ 0 ∨ (L.length : Int) ≤ a then ([], 3) else
    if 120 < chunk L (a / 8).toNat then ([], 11) else
      if (L.length : Int) < a + 8 * wordsN (chunk L (a / 8).toNat) then ([], 3) else UP (wordsFrom L (a / 8).toNat (wordsN (chunk L (a / 8).toNat)).toNat)
theorem rup_v (l : List Int) (v : Value) (w : World) (hl : l.length ≤ 90000) (hu : U64s l) (hr : RowAt w v l) : Calls Try.prog 43 #[v] w (TextPost w (UP l)) := by
  unfold UP
  by_cases h : unpackOk l = true
  · rw [if_pos h]
    exact (runpack_yes l v w hl hu hr _ h rfl).mono fun e w' ⟨h1, h2⟩ => ⟨h1, h2⟩
  · rw [if_neg h]
    exact (runpack_no l v w hl hu hr (by simpa using h)).mono fun e w' ⟨h1, h2⟩ => ⟨h1, h2⟩
theorem rtake_b (L : List UInt8) (p : Option Addr) (c at_ : Nat) (w : World) (hb : BAt w p L) (hn : L.length ≤ 1000000) (h : at_ + 8 ≤ L.length) :
    Calls Try.prog 28 #[.slice p L.length c, .int .i64 at_] w fun e w' => e = .returned (.int .u64 (wd ((L.drop at_).take 8))) ∧ w = w' := by
  obtain ⟨g, o, rfl, _⟩ := hb 0 (by omega)
  exact rtake_s L g o L.length c at_ h (Nat.le_refl _) (by unfold maxLen; omega) w hb.bytes
set_option maxRecDepth 100000 in
set_option maxHeartbeats 40000000 in
theorem rstands_v (L : List UInt8) (p : Option Addr) (c : Nat) (a : Int) (w : World) (hl : L.length ≤ 100000) (h8 : L.length % 8 = 0) (hb : BAt w p L) (h0 : 0 ≤ a) (h1 : a ≤ 18446744073709551615) :
    Calls Try.prog 21 #[.slice p L.length c, .int .u64 a] w (TextPost w (standP L a)) := by
  obtain ⟨i0, hi, hz0, hz1, hz2⟩ := info_parts Try.info22
  have HBt := Lib.hid hb
  have hlw : IntKind.u64.wrap (L.length : Int) = (L.length : Int) := IntWalk.u64_in _ (by omega)
  by_cases hm : a % 8 = 0
  · by_cases hla : (L.length : Int) ≤ a
    · have HR := Lib.hid (show standP L a = ([], 3) by unfold standP; rw [if_pos (.inr hla)])
      have e1 : (a % 8 != 0) = false := by rw [hm]; rfl
      have e2 : decide ((L.length : Int) ≤ a) = true := decide_eq_true hla
      clear hm hla hb
      go_enter Try.func21, Try.ntmps21
      go_wp2_with (fail)
      go_ret2
      rw [HR.out]
      exact ⟨rfl, Below.refl _ _⟩
    · obtain ⟨i, rfl⟩ : ∃ i : Nat, a = 8 * (i : Int) := ⟨(a / 8).toNat, by omega⟩
      have hil : 8 * i < L.length := by omega
      have e1 : ((8 * (i : Int)) % 8 != 0) = false := by rw [hm]; rfl
      have e2 : decide ((L.length : Int) ≤ 8 * (i : Int)) = false := decide_eq_false hla
      have e3 : IntKind.i64.wrap (8 * (i : Int)) = 8 * (i : Int) := IntWalk.i64_in _ (by omega)
      have HT := Lib.hid (show ∀ k : Nat, 8 * (i + k) < L.length → ∀ W, BAt W p L → Calls Try.prog 28 #[.slice p L.length c, .int .i64 (8 * (i : Int) + 8 * (k : Int))] W fun e w' => e = .returned (.int .u64 (chunk L (i + k))) ∧ W = w' from fun k hk W hW => by
        have := rtake_b L p c (8 * (i + k)) W hW (by omega) (by omega)
        rw [show (((8 * (i + k) : Nat) : Int)) = 8 * (i : Int) + 8 * (k : Int) by omega] at this
        exact this)
      have HT0 := Lib.hid (show Calls Try.prog 28 #[.slice p L.length c, .int .i64 (8 * (i : Int))] w fun e w' => e = .returned (.int .u64 (chunk L i)) ∧ w = w' by
        have := HT.out 0 (by omega) w hb
        rw [show (8 * (i : Int) + 8 * ((0 : Nat) : Int)) = 8 * (i : Int) by omega] at this
        exact this)
      have hdv : (8 * (i : Int) / 8).toNat = i := by omega
      have HR := Lib.hid (show standP L (8 * (i : Int)) = if 120 < chunk L i then ([], 11) else if (L.length : Int) < 8 * (i : Int) + 8 * wordsN (chunk L i) then ([], 3) else UP (wordsFrom L i (wordsN (chunk L i)).toNat) by
        unfold standP; rw [if_neg (by omega), hdv])
      have hrg := chunk_rng L i
      obtain ⟨h, hh⟩ : ∃ h, chunk L i = h := ⟨_, rfl⟩
      rw [hh] at HT0 HR hrg
      clear hm hla hb hh h0 h1
      by_cases h120 : 120 < h
      · have e4 : decide (120 < h) = true := decide_eq_true h120
        have HR2 := Lib.hid (HR.out.trans (if_pos h120))
        clear h120
        go_enter Try.func21, Try.ntmps21
        go_wp2_with (fail)
        refine HT0.out.mono ?_
        rintro e w' ⟨rfl, rfl⟩
        go_wp2_with (fail)
        go_ret2
        rw [HR2.out]
        exact ⟨rfl, Below.refl _ _⟩
      · have e4 : decide (120 < h) = false := decide_eq_false h120
        have e5 : IntKind.i64.wrap h = h := IntWalk.i64_in _ (by omega)
        have HR2 := Lib.hid (HR.out.trans (if_neg h120))
        have HWd := Lib.hid (rwords_n h w)
        obtain ⟨k, hk⟩ : ∃ k : Nat, wordsN h = (k : Int) := ⟨(wordsN h).toNat, by have : 0 ≤ wordsN h := (by unfold wordsN; split <;> omega); omega⟩
        have hk17 : k ≤ 17 := by unfold wordsN at hk; split at hk <;> omega
        rw [hk] at HWd HR2
        have e6 : IntKind.i64.wrap (8 * (k : Int)) = 8 * (k : Int) := IntWalk.i64_in _ (by omega)
        have e7 : IntKind.i64.wrap (8 * (i : Int) + 8 * (k : Int)) = 8 * (i : Int) + 8 * (k : Int) := IntWalk.i64_in _ (by omega)
        clear h120 hk HR
        by_cases hbig : (L.length : Int) < 8 * (i : Int) + 8 * (k : Int)
        · have e8 : decide ((L.length : Int) < 8 * (i : Int) + 8 * (k : Int)) = true := decide_eq_true hbig
          have HR3 := Lib.hid (HR2.out.trans (if_pos hbig))
          clear hbig
          go_enter Try.func21, Try.ntmps21
          go_wp2_with (fail)
          refine HT0.out.mono ?_
          rintro e w' ⟨rfl, rfl⟩
          go_wp2_with (fail)
          refine HWd.out.mono ?_
          rintro e w' ⟨rfl, rfl⟩
          go_wp2_with (fail)
          go_ret2
          rw [HR3.out]
          exact ⟨rfl, Below.refl _ _⟩
        · have e8 : decide ((L.length : Int) < 8 * (i : Int) + 8 * (k : Int)) = false := decide_eq_false hbig
          have HR3 := Lib.hid (HR2.out.trans (if_neg hbig))
          have hbig2 : 8 * (i + k) ≤ L.length := by omega
          clear hbig
          go_enter Try.func21, Try.ntmps21
          go_wp2_with (fail)
          refine HT0.out.mono ?_
          rintro e w' ⟨rfl, rfl⟩
          go_wp2_with (fail)
          refine HWd.out.mono ?_
          rintro e w' ⟨rfl, rfl⟩
          go_wp2_with (fail)
          go_loopw [8, 9] (fun ov iv wr => ∃ j : Nat, j ≤ k ∧ iv = .int .i64 j ∧ wr.ownsRow w.heap.size 22 1 ov (wordsFrom L i j).length ((wordsFrom L i j).map (Value.int .u64)) ∧ Below w.heap.size w wr) (fun _ iv _ => k - (intOf iv).toNat)
          case atStart => exact ⟨0, by omega, rfl, World.ownsRow_nil _ _ _ _, Below.refl _ _⟩
          case round =>
            obtain ⟨j, hj, rfl, hown, hB⟩ := hrel
            have HOw := Lib.hid hown
            have HB := Lib.hid hB
            have hsz := hB.size
            by_cases hlt : j < k
            · have hjb : (j : Int) < (k : Int) := by omega
              have q1 : IntKind.i64.wrap (8 * (j : Int)) = 8 * (j : Int) := IntWalk.i64_in _ (by omega)
              have q2 : IntKind.i64.wrap (8 * (i : Int) + 8 * (j : Int)) = 8 * (i : Int) + 8 * (j : Int) := IntWalk.i64_in _ (by omega)
              have HTj := Lib.hid (HT.out j (by omega) wr (HBt.out.below hB))
              have HLT := Lib.hid hlt
              have hln := wordsFrom_len L i j
              have HLN := Lib.hid hln
              obtain ⟨x, hx⟩ : ∃ x, chunk L (i + j) = x := ⟨_, rfl⟩
              rw [hx] at HTj
              have HX := Lib.hid hx
              clear hown hB hlt hln hx
              go_wp2_with (fail)
              refine HTj.out.mono ?_
              rintro e w' ⟨rfl, rfl⟩
              go_wp2_with (at_builtin; refine wpList_append_own _ rfl _ _ 40 rfl w.heap.size 22 i0 (.int .u64 0) 1 8 Try.underlying40 hi hz0 hz1 hz2 rfl (by decide) _ _ _ rfl (HOw.out.alloc _) ⟨wr.heap.size, 0, none⟩ 1 1 [.int .u64 x] rfl rfl (cell_one_new _ _ _) (ints_oneCell .u64 [x]) (by rw [HLN.out]; have := HLT.out; unfold maxLen; omega) (by rw [HLN.out]; have := HLT.out; omega) (by simp; omega) ?_)
              intro v' w6 hown' hgrow hnil
              have HO6 := Lib.hid hown'
              have HB6 := Lib.hid ((HB.out.alloc hsz (.cells #[.int .u64 x] 22)).grown hgrow (by simp; omega) (fun r e => own_base HOw.out _ e))
              clear hown' hgrow hnil
              go_wp2_with (fail)
              go_roundw
              case rel => exact ⟨j + 1, HLT.out, by go_num, by
                have := HO6.out
                rw [wordsFrom_succ, HX.out, List.map_append, List.length_append]
                exact this, HB6.out⟩
              case measure => have := HLT.out; simp [intOf]; omega
            · obtain rfl : j = k := by omega
              have HU := Lib.hid (rup_v (wordsFrom L i j) _ wr (by rw [wordsFrom_len]; omega) (wordsFrom_u64 L i j) (RowAt.of_own hown))
              clear hown hB
              go_wp2_with (fail)
              refine HU.out.mono ?_
              rintro e w4 ⟨rfl, hB4⟩
              have HB4 := Lib.hid (HB.out.trans (hB4.mono hsz))
              clear hB4
              go_wp2_with (fail)
              go_ret2
              rw [HR3.out]
              exact ⟨rfl, HB4.out⟩
  · have HR := Lib.hid (show standP L a = ([], 3) by unfold standP; rw [if_pos (.inl hm)])
    have e1 : (a % 8 != 0) = true := bne_iff_ne.2 hm
    clear hm hb
    go_enter Try.func21, Try.ntmps21
    go_wp2_with (fail)
    go_ret2
    rw [HR.out]
    exact ⟨rfl, Below.refl _ _⟩
end Go.Proofs.Ytegamhjfloebgaa
namespace Go.Proofs.Ytegamhjfloebgaa
open Go.RowKit
set_option linter.unusedVariables false

theorem wordsB_len (L : List UInt8) (N : Nat) : (wordsB L N).length = N := by simp [wordsB]
theorem wordsB_getD (L : List UInt8) (N k : Nat) (h : k < N) : (wordsB L N).getD k 0 = chunk L k := by
  unfold wordsB
  rw [List.getD_eq_getElem?_getD, List.getElem?_eq_getElem (by simpa using h)]
  simp [wordAt]
theorem wordsB_u64 (L : List UInt8) (N : Nat) : U64s (wordsB L N) := fun x hx => by
  obtain ⟨j, _, rfl⟩ := List.mem_map.1 hx
  exact chunk_rng L _
theorem wordsFrom_head (L : List UInt8) (i k : Nat) : (wordsFrom L i (k + 1)).headD 0 = chunk L i := by
  unfold wordsFrom
  rw [List.range_succ_eq_map]
  simp
theorem ad_at (i j : Nat) (h : i + j ≤ 1000000) (l : List Int) (hl : l.length = j) : adP (8 * (i : Int)) l = 8 * ((i + j : Nat) : Int) := by
  unfold adP
  rw [hl, IntWalk.u64_in _ (by omega)]
  omega
theorem atE_in (N k : Nat) (h : k < N) : atE N (8 * (k : Int)) = 0 := by unfold atE; rw [if_neg (by omega)]
theorem atE_out (N k : Nat) (h : N ≤ k) : atE N (8 * (k : Int)) = 3 := by unfold atE; rw [if_pos (by omega)]
theorem it_load (L : List UInt8) (N i j : Nat) (hN : N ≤ 100000) (h : i + j < N) (hj : itP (wordsB L N) (8 * (i : Int)) j = (false, 0, wordsFrom L i j, ⟨#[]⟩)) :
    itP (wordsB L N) (8 * (i : Int)) (j + 1) = nextP (wordsFrom L i (j + 1)) ⟨#[]⟩ := by
  show stepP _ _ _ _ _ _ = _
  rw [hj]
  show loadP _ _ _ _ = _
  unfold loadP
  rw [ad_at i j (by omega) _ (wordsFrom_len _ _ _), wordsB_len, atE_in N (i + j) h, if_pos rfl]
  have : ldW (wordsB L N) (8 * ((i + j : Nat) : Int)) = chunk L (i + j) := by
    unfold ldW
    rw [wordsB_len, atE_in N (i + j) h, if_pos rfl, show (8 * ((i + j : Nat) : Int) / 8).toNat = i + j by omega, wordsB_getD _ _ _ h]
  rw [this, wordsFrom_succ]
theorem it_out (L : List UInt8) (N i j : Nat) (hN : N ≤ 100000) (hi : i < N ∨ j = 0) (hi2 : i ≤ 100000) (h : N ≤ i + j) (hj1 : j ≤ 100) (hj : itP (wordsB L N) (8 * (i : Int)) j = (false, 0, wordsFrom L i j, ⟨#[]⟩)) :
    itP (wordsB L N) (8 * (i : Int)) (j + 1) = (true, 3, wordsFrom L i j, ⟨#[]⟩) := by
  show stepP _ _ _ _ _ _ = _
  rw [hj]
  show loadP _ _ _ _ = _
  unfold loadP
  rw [ad_at i j (by omega) _ (wordsFrom_len _ _ _), wordsB_len, atE_out N (i + j) h, if_neg (by decide)]
theorem wordsN_rng {h : Int} (h0 : 0 ≤ h) (h1 : ¬ 120 < h) : 1 ≤ wordsN h ∧ wordsN h ≤ 16 := by
  unfold wordsN; rw [if_neg (by omega)]; omega
theorem it_mid (L : List UInt8) (N i : Nat) (hN : N ≤ 100000) (hi : i < N) (h120 : ¬ 120 < chunk L i) :
    ∀ j : Nat, i + j ≤ N → (j : Int) < wordsN (chunk L i) → itP (wordsB L N) (8 * (i : Int)) j = (false, 0, wordsFrom L i j, ⟨#[]⟩)
  | 0, _, _ => rfl
  | j + 1, h1, h2 => by
    rw [it_load L N i j hN (by omega) (it_mid L N i hN hi h120 j (by omega) (by omega))]
    unfold nextP
    rw [wordsFrom_head, if_neg h120, wordsFrom_len, if_pos h2]
theorem unpackT_len {l : List Int} (h : unpackOk l = true) : ((unpackT l).length : Int) = l.headD 0 := by
  unfold unpackOk at h
  simp only [Bool.and_eq_true, decide_eq_true_eq] at h
  have h2 := h.2
  have : (packW (unpackT l)).headD 0 = ((unpackT l).length : Int) := rfl
  rw [h2] at this
  exact this.symm
/-- a read's end -/
structure Ends (L : List UInt8) (N : Nat) (a : Int) (n : Nat) : Prop where
  p : 1 ≤ n
  b : n ≤ 17
  lt : ∀ j, j < n → (itP (wordsB L N) a j).1 = false ∧ (itP (wordsB L N) a j).2.1 = 0
  d : (itP (wordsB L N) a n).1 = true
  v : valP (itP (wordsB L N) a n).1 (itP (wordsB L N) a n).2.1 (itP (wordsB L N) a n).2.2.2 = (⟨(standP L a).1.toArray⟩, (standP L a).2)
  w : (standP L a).2 = 0 → (n : Int) ≤ wordsN ((standP L a).1.length : Int) + 1
theorem ends (L : List UInt8) (N : Nat) (a : Int) (hL : L.length = 8 * N) (hN : N ≤ 100000) (h0 : 0 ≤ a) (h1 : a ≤ 18446744073709551615) : ∃ n, Ends L N a n := by
  by_cases hbad : a % 8 ≠ 0 ∨ (L.length : Int) ≤ a
  · have hs : standP L a = ([], 3) := by unfold standP; rw [if_pos hbad]
    have hat : atE N a = 3 := by unfold atE; rw [if_pos (by omega)]
    have e1 : itP (wordsB L N) a 1 = (true, 3, [], ⟨#[]⟩) := by
      show loadP _ a [] ⟨#[]⟩ = _
      unfold loadP
      rw [show adP a [] = a from by unfold adP; simp only [List.length_nil]; rw [IntWalk.u64_in _ (by omega)]; omega, wordsB_len, hat, if_neg (by decide)]
    refine ⟨1, Nat.le_refl _, by omega, fun j hj => ?_, by rw [e1], by rw [e1, hs]; rfl, by rw [hs]; intro h; cases h⟩
    obtain rfl : j = 0 := by omega
    exact ⟨rfl, rfl⟩
  · obtain ⟨i, rfl⟩ : ∃ i : Nat, a = 8 * (i : Int) := ⟨(a / 8).toNat, by omega⟩
    have hi : i < N := by omega
    have hdv : (8 * (i : Int) / 8).toNat = i := by omega
    have hs : standP L (8 * (i : Int)) = if 120 < chunk L i then ([], 11) else if (L.length : Int) < 8 * (i : Int) + 8 * wordsN (chunk L i) then ([], 3) else UP (wordsFrom L i (wordsN (chunk L i)).toNat) := by
      unfold standP; rw [if_neg hbad, hdv]
    have hr := chunk_rng L i
    by_cases h120 : 120 < chunk L i
    · rw [if_pos h120] at hs
      have e1 : itP (wordsB L N) (8 * (i : Int)) 1 = (true, 11, wordsFrom L i 1, ⟨#[]⟩) := by
        rw [it_load L N i 0 hN hi rfl]
        unfold nextP
        rw [wordsFrom_head, if_pos h120]
      refine ⟨1, Nat.le_refl _, by omega, fun j hj => ?_, by rw [e1], by rw [e1, hs]; rfl, by rw [hs]; intro h; cases h⟩
      obtain rfl : j = 0 := by omega
      exact ⟨rfl, rfl⟩
    · rw [if_neg h120] at hs
      have hk := wordsN_rng hr.1 h120
      obtain ⟨k, hk2⟩ : ∃ k : Nat, wordsN (chunk L i) = ((k + 1 : Nat) : Int) := ⟨(wordsN (chunk L i)).toNat - 1, by omega⟩
      have hmid := it_mid L N i hN hi h120
      rw [hk2] at hmid hs
      by_cases hbig : (L.length : Int) < 8 * (i : Int) + 8 * ((k + 1 : Nat) : Int)
      · rw [if_pos hbig] at hs
        obtain ⟨j, hj⟩ : ∃ j, N = i + j := ⟨N - i, by omega⟩
        have e1 := it_out L N i j hN (.inl hi) (by omega) (by omega) (by omega) (hmid j (by omega) (by omega))
        refine ⟨j + 1, by omega, by omega, fun m hm => ?_, by rw [e1], by rw [e1, hs]; rfl, by rw [hs]; intro h; cases h⟩
        rw [hmid m (by omega) (by omega)]
        exact ⟨rfl, rfl⟩
      · rw [if_neg hbig, show (((k + 1 : Nat) : Int)).toNat = k + 1 by omega] at hs
        have e1 : itP (wordsB L N) (8 * (i : Int)) (k + 1) = (true, (UP (wordsFrom L i (k + 1))).2, wordsFrom L i (k + 1), ⟨(UP (wordsFrom L i (k + 1))).1.toArray⟩) := by
          rw [it_load L N i k hN (by omega) (hmid k (by omega) (by omega))]
          unfold nextP
          rw [wordsFrom_head, if_neg h120, wordsFrom_len, hk2, if_neg (by omega)]
        refine ⟨k + 1, by omega, by omega, fun m hm => ?_, by rw [e1], ?_, ?_⟩
        · rw [hmid m (by omega) (by omega)]
          exact ⟨rfl, rfl⟩
        · rw [e1, hs]
          unfold UP valP
          by_cases hu : unpackOk (wordsFrom L i (k + 1)) = true
          · rw [if_pos hu]; rfl
          · rw [if_neg hu]; rfl
        · rw [hs]
          unfold UP
          by_cases hu : unpackOk (wordsFrom L i (k + 1)) = true
          · rw [if_pos hu]
            intro _
            rw [show (((unpackT (wordsFrom L i (k + 1))), (0 : Int)).1.length : Int) = chunk L i from (unpackT_len hu).trans (wordsFrom_head L i k), hk2]
            omega
          · rw [if_neg hu]; intro h; cases h
end Go.Proofs.Ytegamhjfloebgaa
