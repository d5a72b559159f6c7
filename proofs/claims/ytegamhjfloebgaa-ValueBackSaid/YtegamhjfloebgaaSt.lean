/-
  The document's Stands: a contract.
-/
import Derived.Test.YtegamhjfloebgaaIm
namespace Go.Proofs.Ytegamhjfloebgaa
open Go.RowKit Go.Shelf
attribute [local go_sem] Oper.semAt_some
set_option linter.unusedVariables false

def wordsFrom (L : List UInt8) (i k : Nat) : List Int := (List.range k).map (fun j => chunk L (i + j))
theorem wordsFrom_len (L : List UInt8) (i k : Nat) : (wordsFrom L i k).length = k := by simp [wordsFrom]
theorem wordsFrom_succ (L : List UInt8) (i k : Nat) : wordsFrom L i (k + 1) = wordsFrom L i k ++ [chunk L (i + k)] := by simp [wordsFrom, List.range_succ]
theorem chunk_rng (L : List UInt8) (i : Nat) : 0 ≤ chunk L i ∧ chunk L i ≤ 18446744073709551615 := by
  have h0 := wd_nonneg ((L.drop (8 * i)).take 8)
  have h1 := wd_lt ((L.drop (8 * i)).take 8)
  have h2 : ((256 ^ ((L.drop (8 * i)).take 8).length : Nat) : Int) ≤ 18446744073709551616 := by
    have : (256 : Nat) ^ ((L.drop (8 * i)).take 8).length ≤ 256 ^ 8 := Nat.pow_le_pow_right (by decide) (by simp; omega)
    have e : (256 : Nat) ^ 8 = 18446744073709551616 := by decide
    omega
  unfold chunk
  omega
theorem wordsFrom_u64 (L : List UInt8) (i k : Nat) : U64s (wordsFrom L i k) := fun x hx => by
  obtain ⟨j, _, rfl⟩ := List.mem_map.1 hx
  exact chunk_rng L _
def standP (L : List UInt8) (a : Int) : List UInt8 × Int :=
  if a % 8 ≠ 0 ∨ (L.length : Int) ≤ a then ([], 3) else
    if 120 < chunk L (a / 8).toNat then ([], 11) else
      if (L.length : Int) < a + 8 * wordsN (chunk L (a / 8).toNat) then ([], 3) else UP (wordsFrom L (a / 8).toNat (wordsN (chunk L (a / 8).toNat)).toNat)
theorem rup_v (l : List Int) (v : Value) (w : World) (hl : l.length ≤ 90000) (hu : U64s l) (hr : RowAt w v l) : Calls Try.prog 43 #[v] w (TextPost w (UP l)) := by
  unfold UP
  by_cases h : unpackOk l = true
  · rw [if_pos h]
    exact (runpack_yes l v w hl hu hr _ h rfl).mono fun e w' ⟨h1, h2⟩ => ⟨h1, h2⟩
  · rw [if_neg h]
    exact (runpack_no l v w hl hu hr (by simpa using h)).mono fun e w' ⟨h1, h2⟩ => ⟨h1, h2⟩
theorem rtake_b (L : List UInt8) (p : Option Addr) (c at_ : Nat) (w : World) (hb : BAt w p L) (hn : L.length ≤ 1000000) (h : at_ + 8 ≤ L.length) :
    Calls Try.prog 28 #[.slice p L.length c, .int .i64 at_] w fun e w' => e = .returned (.int .u64 (wd ((L.drop at_).take 8))) ∧ w = w' := by
  obtain ⟨g, o, rfl, _⟩ := hb 0 (by omega)
  exact rtake_s L g o L.length c at_ h (Nat.le_refl _) (by unfold maxLen; omega) w hb.bytes
set_option maxRecDepth 100000 in
set_option maxHeartbeats 40000000 in
theorem rstands_v (L : List UInt8) (p : Option Addr) (c : Nat) (a : Int) (w : World) (hl : L.length ≤ 100000) (h8 : L.length % 8 = 0) (hb : BAt w p L) (h0 : 0 ≤ a) (h1 : a ≤ 18446744073709551615) :
    Calls Try.prog 21 #[.slice p L.length c, .int .u64 a] w (TextPost w (standP L a)) := by
  obtain ⟨i0, hi, hz0, hz1, hz2⟩ := info_parts Try.info22
  have HBt := Lib.hid hb
  have hlw : IntKind.u64.wrap (L.length : Int) = (L.length : Int) := IntWalk.u64_in _ (by omega)
  by_cases hm : a % 8 = 0
  · by_cases hla : (L.length : Int) ≤ a
    · have HR := Lib.hid (show standP L a = ([], 3) by unfold standP; rw [if_pos (.inr hla)])
      have e1 : (a % 8 != 0) = false := by rw [hm]; rfl
      have e2 : decide ((L.length : Int) ≤ a) = true := decide_eq_true hla
      clear hm hla hb
      go_enter Try.func21, Try.ntmps21
      go_wp2_with (fail)
      go_ret2
      rw [HR.out]
      exact ⟨rfl, Below.refl _ _⟩
    · obtain ⟨i, rfl⟩ : ∃ i : Nat, a = 8 * (i : Int) := ⟨(a / 8).toNat, by omega⟩
      have hil : 8 * i < L.length := by omega
      have e1 : ((8 * (i : Int)) % 8 != 0) = false := by rw [hm]; rfl
      have e2 : decide ((L.length : Int) ≤ 8 * (i : Int)) = false := decide_eq_false hla
      have e3 : IntKind.i64.wrap (8 * (i : Int)) = 8 * (i : Int) := IntWalk.i64_in _ (by omega)
      have HT := Lib.hid (show ∀ k : Nat, 8 * (i + k) < L.length → ∀ W, BAt W p L → Calls Try.prog 28 #[.slice p L.length c, .int .i64 (8 * (i : Int) + 8 * (k : Int))] W fun e w' => e = .returned (.int .u64 (chunk L (i + k))) ∧ W = w' from fun k hk W hW => by
        have := rtake_b L p c (8 * (i + k)) W hW (by omega) (by omega)
        rw [show (((8 * (i + k) : Nat) : Int)) = 8 * (i : Int) + 8 * (k : Int) by omega] at this
        exact this)
      have HT0 := Lib.hid (show Calls Try.prog 28 #[.slice p L.length c, .int .i64 (8 * (i : Int))] w fun e w' => e = .returned (.int .u64 (chunk L i)) ∧ w = w' by
        have := HT.out 0 (by omega) w hb
        rw [show (8 * (i : Int) + 8 * ((0 : Nat) : Int)) = 8 * (i : Int) by omega] at this
        exact this)
      have hdv : (8 * (i : Int) / 8).toNat = i := by omega
      have HR := Lib.hid (show standP L (8 * (i : Int)) = if 120 < chunk L i then ([], 11) else if (L.length : Int) < 8 * (i : Int) + 8 * wordsN (chunk L i) then ([], 3) else UP (wordsFrom L i (wordsN (chunk L i)).toNat) by
        unfold standP; rw [if_neg (by omega), hdv])
      have hrg := chunk_rng L i
      obtain ⟨h, hh⟩ : ∃ h, chunk L i = h := ⟨_, rfl⟩
      rw [hh] at HT0 HR hrg
      clear hm hla hb hh h0 h1
      by_cases h120 : 120 < h
      · have e4 : decide (120 < h) = true := decide_eq_true h120
        have HR2 := Lib.hid (HR.out.trans (if_pos h120))
        clear h120
        go_enter Try.func21, Try.ntmps21
        go_wp2_with (fail)
        refine HT0.out.mono ?_
        rintro e w' ⟨rfl, rfl⟩
        go_wp2_with (fail)
        go_ret2
        rw [HR2.out]
        exact ⟨rfl, Below.refl _ _⟩
      · have e4 : decide (120 < h) = false := decide_eq_false h120
        have e5 : IntKind.i64.wrap h = h := IntWalk.i64_in _ (by omega)
        have HR2 := Lib.hid (HR.out.trans (if_neg h120))
        have HWd := Lib.hid (rwords_n h w)
        obtain ⟨k, hk⟩ : ∃ k : Nat, wordsN h = (k : Int) := ⟨(wordsN h).toNat, by have : 0 ≤ wordsN h := (by unfold wordsN; split <;> omega); omega⟩
        have hk17 : k ≤ 17 := by unfold wordsN at hk; split at hk <;> omega
        rw [hk] at HWd HR2
        have e6 : IntKind.i64.wrap (8 * (k : Int)) = 8 * (k : Int) := IntWalk.i64_in _ (by omega)
        have e7 : IntKind.i64.wrap (8 * (i : Int) + 8 * (k : Int)) = 8 * (i : Int) + 8 * (k : Int) := IntWalk.i64_in _ (by omega)
        clear h120 hk HR
        by_cases hbig : (L.length : Int) < 8 * (i : Int) + 8 * (k : Int)
        · have e8 : decide ((L.length : Int) < 8 * (i : Int) + 8 * (k : Int)) = true := decide_eq_true hbig
          have HR3 := Lib.hid (HR2.out.trans (if_pos hbig))
          clear hbig
          go_enter Try.func21, Try.ntmps21
          go_wp2_with (fail)
          refine HT0.out.mono ?_
          rintro e w' ⟨rfl, rfl⟩
          go_wp2_with (fail)
          refine HWd.out.mono ?_
          rintro e w' ⟨rfl, rfl⟩
          go_wp2_with (fail)
          go_ret2
          rw [HR3.out]
          exact ⟨rfl, Below.refl _ _⟩
        · have e8 : decide ((L.length : Int) < 8 * (i : Int) + 8 * (k : Int)) = false := decide_eq_false hbig
          have HR3 := Lib.hid (HR2.out.trans (if_neg hbig))
          have hbig2 : 8 * (i + k) ≤ L.length := by omega
          clear hbig
          go_enter Try.func21, Try.ntmps21
          go_wp2_with (fail)
          refine HT0.out.mono ?_
          rintro e w' ⟨rfl, rfl⟩
          go_wp2_with (fail)
          refine HWd.out.mono ?_
          rintro e w' ⟨rfl, rfl⟩
          go_wp2_with (fail)
          go_loopw [8, 9] (fun ov iv wr => ∃ j : Nat, j ≤ k ∧ iv = .int .i64 j ∧ wr.ownsRow w.heap.size 22 1 ov (wordsFrom L i j).length ((wordsFrom L i j).map (Value.int .u64)) ∧ Below w.heap.size w wr) (fun _ iv _ => k - (intOf iv).toNat)
          case atStart => exact ⟨0, by omega, rfl, World.ownsRow_nil _ _ _ _, Below.refl _ _⟩
          case round =>
            obtain ⟨j, hj, rfl, hown, hB⟩ := hrel
            have HOw := Lib.hid hown
            have HB := Lib.hid hB
            have hsz := hB.size
            by_cases hlt : j < k
            · have hjb : (j : Int) < (k : Int) := by omega
              have q1 : IntKind.i64.wrap (8 * (j : Int)) = 8 * (j : Int) := IntWalk.i64_in _ (by omega)
              have q2 : IntKind.i64.wrap (8 * (i : Int) + 8 * (j : Int)) = 8 * (i : Int) + 8 * (j : Int) := IntWalk.i64_in _ (by omega)
              have HTj := Lib.hid (HT.out j (by omega) wr (HBt.out.below hB))
              have HLT := Lib.hid hlt
              have hln := wordsFrom_len L i j
              have HLN := Lib.hid hln
              obtain ⟨x, hx⟩ : ∃ x, chunk L (i + j) = x := ⟨_, rfl⟩
              rw [hx] at HTj
              have HX := Lib.hid hx
              clear hown hB hlt hln hx
              go_wp2_with (fail)
              refine HTj.out.mono ?_
              rintro e w' ⟨rfl, rfl⟩
              go_wp2_with (at_builtin; refine wpList_append_own _ rfl _ _ 40 rfl w.heap.size 22 i0 (.int .u64 0) 1 8 Try.underlying40 hi hz0 hz1 hz2 rfl (by decide) _ _ _ rfl (HOw.out.alloc _) ⟨wr.heap.size, 0, none⟩ 1 1 [.int .u64 x] rfl rfl (cell_one_new _ _ _) (ints_oneCell .u64 [x]) (by rw [HLN.out]; have := HLT.out; unfold maxLen; omega) (by rw [HLN.out]; have := HLT.out; omega) (by simp; omega) ?_)
              intro v' w6 hown' hgrow hnil
              have HO6 := Lib.hid hown'
              have HB6 := Lib.hid ((HB.out.alloc hsz (.cells #[.int .u64 x] 22)).grown hgrow (by simp; omega) (fun r e => own_base HOw.out _ e))
              clear hown' hgrow hnil
              go_wp2_with (fail)
              go_roundw
              case rel => exact ⟨j + 1, HLT.out, by go_num, by
                have := HO6.out
                rw [wordsFrom_succ, HX.out, List.map_append, List.length_append]
                exact this, HB6.out⟩
              case measure => have := HLT.out; simp [intOf]; omega
            · obtain rfl : j = k := by omega
              have HU := Lib.hid (rup_v (wordsFrom L i j) _ wr (by rw [wordsFrom_len]; omega) (wordsFrom_u64 L i j) (RowAt.of_own hown))
              clear hown hB
              go_wp2_with (fail)
              refine HU.out.mono ?_
              rintro e w4 ⟨rfl, hB4⟩
              have HB4 := Lib.hid (HB.out.trans (hB4.mono hsz))
              clear hB4
              go_wp2_with (fail)
              go_ret2
              rw [HR3.out]
              exact ⟨rfl, HB4.out⟩
  · have HR := Lib.hid (show standP L a = ([], 3) by unfold standP; rw [if_pos (.inl hm)])
    have e1 : (a % 8 != 0) = true := bne_iff_ne.2 hm
    clear hm hb
    go_enter Try.func21, Try.ntmps21
    go_wp2_with (fail)
    go_ret2
    rw [HR.out]
    exact ⟨rfl, Below.refl _ _⟩
end Go.Proofs.Ytegamhjfloebgaa
