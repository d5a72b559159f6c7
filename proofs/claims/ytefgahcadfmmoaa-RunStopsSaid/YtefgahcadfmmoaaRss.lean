/-
  The law RunStops.
-/
import Derived.Test.YtefgahcadfmmoaaRww
namespace Go.Proofs.Ytefgahcadfmmoaa
open Go.RowKit
attribute [local go_sem] Oper.semAt_some
set_option linter.unusedVariables false

def StR (S0 : Nat → Prop) (W : World) (rb mb N : Nat) (l : List (Int × Int)) (c K i : Nat) (w : World) : Prop :=
  ∃ (k ph : Nat) (fl fe : Int), OneK S0 W w rb mb N l c k ph false 0 k fl fe ∧ fl ≤ i ∧ fe ≤ i ∧ i + mu l.length k ph ≤ 3 * l.length ∧ k ≤ K
theorem vsOf_u64K {P : Int → Prop} {N K : Nat} {l : List (Int × Int)} (h : LOkK P N l K) : ∀ k, k ≤ K → k ≤ l.length → U64s (vsOf N l k)
  | 0, _, _ => fun x hx => by
    unfold vsOf lastIm at hx
    simp at hx
    omega
  | k + 1, hk, hkl => fun x hx => by
    rw [vsOf_succ N (show k < l.length by omega)] at hx
    rcases List.mem_or_eq_of_mem_set hx with h1 | h1
    · exact vsOf_u64K h k (by omega) (by omega) x h1
    · obtain ⟨_, _, _, _, h4, h5⟩ := h k (by omega)
      omega
theorem eK_set {l : List (Int × Int)} {k : Nat} (p : Int × Int) (i : Nat) : eK (l.set k p) i = if k = i ∧ k < l.length then p.1 else eK l i := by
  unfold eK
  rw [List.getD_eq_getElem?_getD, List.getElem?_set, List.getD_eq_getElem?_getD]
  by_cases h : k = i
  · by_cases h2 : k < l.length
    · subst h; simp [h2]
    · subst h; simp [h2]
  · simp [h]
theorem eP_set {l : List (Int × Int)} {k : Nat} (p : Int × Int) (i : Nat) : eP (l.set k p) i = if k = i ∧ k < l.length then p.2 else eP l i := by
  unfold eP
  rw [List.getD_eq_getElem?_getD, List.getElem?_set, List.getD_eq_getElem?_getD]
  by_cases h : k = i
  · by_cases h2 : k < l.length
    · subst h; simp [h2]
    · subst h; simp [h2]
  · simp [h]
theorem ecells_setK : ∀ (l : List (Int × Int)) (k : Nat) (at_ : Int), k < l.length → (ecells l).set (k * 2) (.int .u64 at_) = ecells (l.set k (at_, eP l k))
  | [], k, at_, h => absurd h (by simp)
  | p :: r, 0, at_, h => by simp [ecells, eP]
  | p :: r, k + 1, at_, h => by
    have := ecells_setK r k at_ (by simpa using h)
    rw [show (k + 1) * 2 = k * 2 + 1 + 1 by omega]
    have e1 : ecells (p :: r) = .int .u64 p.1 :: .int .u64 p.2 :: ecells r := by simp [ecells]
    have e2 : eP (p :: r) (k + 1) = eP r k := by simp [eP]
    rw [e1, e2, List.set_cons_succ, List.set_cons_succ, this]
    simp [ecells]
set_option maxRecDepth 100000 in
set_option maxHeartbeats 40000000 in
theorem rstops_v (n wh at_ : Int) (a : Option Addr) (l : List (Int × Int)) (cap : Nat) (w : World) (hr : -9223372036854775808 ≤ n ∧ n ≤ 9223372036854775807) (hwh : -9223372036854775808 ≤ wh ∧ wh ≤ 9223372036854775807) (hat : 0 ≤ at_ ∧ at_ ≤ 18446744073709551615) (hll : l.length ≤ 9223372036854775807)
    (hp : PutsAt w a l) (hb : ∀ i, i < l.length → (0 ≤ eK l i ∧ eK l i ≤ 18446744073709551615) ∧ 0 ≤ eP l i ∧ eP l i ≤ 18446744073709551615) :
    Calls Try.prog 5 #[.int .i64 n, .slice a l.length cap, .int .i64 wh, .int .u64 at_] w (TrueQ w) := by
  obtain ⟨i0, hi, hz0, hz1, hz2⟩ := info_parts Try.infoPut
  have HM := Lib.hid (memory_v n w hr)
  have HPu := Lib.hid hp
  have HBd := Lib.hid hb
  obtain ⟨ln, hln⟩ : ∃ ln, l.length = ln := ⟨_, rfl⟩
  have HLn := Lib.hid hln
  rw [hln] at hll ⊢
  clear hp hb hln
  go_enter Try.func5, Try.ntmps5
  go_wp2_with (fail)
  refine HM.out.mono ?_
  rintro e w1 (⟨hn, rfl, rfl⟩ | ⟨N, mb, S, h1, h2, hNn, rfl, hm, hS, hB1⟩)
  · have HK := Lib.hid (known_v w)
    have HB0 := Lib.hid (Below.refl w.heap.size w)
    go_wp2_with (fail)
    refine HK.out.mono ?_
    rintro e w9 ⟨rfl, hB9⟩
    have HB9 := Lib.hid (HB0.out.trans (hB9.mono HB0.out.size))
    clear hB9
    go_wp2_with (fail)
    go_ret
    exact ⟨rfl, HB9.out⟩
  · have HMm := Lib.hid hm
    have HS := Lib.hid hS
    have HB1 := Lib.hid hB1
    have HNn := Lib.hid (And.intro hNn (And.intro h1 h2))
    have HK := Lib.hid (known_v w1)
    clear hm hS hB1 hNn
    by_cases h0 : ln = 0
    · have hlb : (ln : Int) = 0 := by omega
      subst h0
      go_wp2_with (fail)
      refine HK.out.mono ?_
      rintro e w9 ⟨rfl, hB9⟩
      have HB9 := Lib.hid (HB1.out.trans (hB9.mono HB1.out.size))
      clear hB9
      go_wp2_with (fail)
      go_ret
      exact ⟨rfl, HB9.out⟩
    by_cases h60 : 60 < ln
    · have hlb : (60 : Int) < (ln : Int) := by omega
      have hl0 : ((ln : Int) == 0) = false := beq_eq_false_iff_ne.2 (by omega)
      clear h60 h0
      go_wp2_with (fail)
      refine HK.out.mono ?_
      rintro e w9 ⟨rfl, hB9⟩
      have HB9 := Lib.hid (HB1.out.trans (hB9.mono HB1.out.size))
      clear hB9
      go_wp2_with (fail)
      go_ret
      exact ⟨rfl, HB9.out⟩
    · have hlb : (ln : Int) ≤ 60 := by omega
      have hl0 : ((ln : Int) == 0) = false := beq_eq_false_iff_ne.2 (by omega)
      have hNe0 : 64 * n = ((8 * N : Nat) : Int) := by have := HNn.out; omega
      have hNb : 0 < N ∧ N ≤ 128 := by have := HNn.out; omega
      by_cases hq : at_ < 64 * n ∧ at_ % 8 = 0
      · obtain ⟨hq1, hq2⟩ := hq
        have hm8 : at_.tmod 8 = 0 := by rw [Int.tmod_eq_emod_of_nonneg hat.1]; exact hq2
        have hw64 : IntKind.u64.wrap (64 * n) = 64 * n := IntWalk.u64_in _ (by omega)
        clear h60 h0 hll
        go_wp2_with (fail)
        refine HK.out.mono ?_
        rintro e w9 ⟨rfl, hB9⟩
        have HB9 := Lib.hid (HB1.out.trans (hB9.mono HB1.out.size))
        clear hB9
        go_wp2_with (fail)
        go_ret
        exact ⟨rfl, HB9.out⟩
      · have HAt := Lib.hid (show atE N at_ = 3 from by unfold atE; rw [if_pos (by omega)])
        have HNN := Lib.hid (And.intro hNe0 hNb)
        have HLm := Lib.hid (show 0 < ln ∧ ln ≤ 60 from by omega)
        have HWi := Lib.hid (within_v N (by omega) a l cap w1 (HPu.out.below HB1.out) (by have := HLn.out; omega) (fun i hi => (HBd.out i hi).1))
        rw [HLn.out] at HWi
        have HLo := Lib.hid (withinL_ok N hNb.1 l (fun i hi => ⟨(HBd.out i hi).1.1, (HBd.out i hi).2⟩))
        have hw64 : IntKind.u64.wrap (64 * n) = 64 * n := IntWalk.u64_in _ (by omega)
        obtain ⟨u, hu⟩ : ∃ u, IntKind.u64.wrap wh = u := ⟨_, rfl⟩
        have hub : 0 ≤ u ∧ u ≤ 18446744073709551615 := by rw [← hu]; exact u64_rng wh
        obtain ⟨K, hKe⟩ : ∃ K : Nat, u % (ln : Int) = (K : Int) := ⟨(u % (ln : Int)).toNat, by have := Int.emod_nonneg u (show (ln : Int) ≠ 0 by omega); omega⟩
        have hK1 : (K : Int) < (ln : Int) := by have := Int.emod_lt_of_pos u (show (0 : Int) < (ln : Int) by omega); omega
        have HUK := Lib.hid (show IntKind.u64.wrap wh = u ∧ IntKind.u64.wrap (ln : Int) = (ln : Int) ∧ u.tmod (ln : Int) = (K : Int) ∧ IntKind.i64.wrap (K : Int) = (K : Int) ∧ K < ln from ⟨hu, IntWalk.u64_in _ (by omega), by rw [Int.tmod_eq_emod_of_nonneg hub.1]; exact hKe, IntWalk.i64_in _ (by omega), by omega⟩)
        by_cases hq1 : at_ < 64 * n
        · have hq2 : (at_ % 8 == 0) = false := beq_eq_false_iff_ne.2 (fun e => hq ⟨hq1, e⟩)
          have hq3 : decide (60 < (ln : Int)) = false := decide_eq_false (by omega)
          clear h60 h0 hll hq hu hub hKe hNe0 hNb hr hwh
          go_wp2_with (fail)
          rw [HNN.out.1]
          refine HWi.out.mono ?_
          rintro e w2 ⟨v, rfl, hrow, hB2⟩
          obtain ⟨l1, hl1⟩ : ∃ l1, withinL N l = l1 := ⟨_, rfl⟩
          rw [hl1] at hrow HLo
          have hl1n : l1.length = ln := by rw [← hl1, withinL_len]; exact HLn.out
          obtain ⟨a1, n1, c1, rfl⟩ := own_slice hrow
          obtain rfl : n1 = ln := by have : n1 = l1.length := own_len hrow; omega
          obtain ⟨g1, cp1, e1, hg10, hg1⟩ := World.ownsRow.form hrow (by have := HLm.out; omega)
          have e1' : a1 = some ⟨g1, 0, none⟩ := by injection e1
          subst e1'
          unfold RowB at hrow
          rw [hl1n] at hrow
          obtain ⟨hq1u, hq2u, hq3u, hq4u, hKl⟩ := HUK.out
          have hel : (ecells l1).length = n1 * 2 := by rw [ecells_len2, hl1n]
          obtain ⟨x0, hx0⟩ : ∃ x, (ecells l1)[K * 2]? = some x := ⟨_, List.getElem?_eq_getElem (by rw [hel]; omega)⟩
          have d0 : w2.cell? ⟨g1, K * 2, none⟩ = some x0 := (hrow.cellAt _ (by omega)).trans hx0
          have f0 : w2.frozen? ⟨g1, K * 2, none⟩ = false := hrow.frozenAt _
          have hrow3 := (hrow.stored (K * 2) (.int .u64 at_)).1
          rw [ecells_setK l1 K at_ (by omega)] at hrow3
          have HRow3 := Lib.hid hrow3
          have HL1 := Lib.hid hl1n
          have HB2 := Lib.hid hB2
          have HG1 := Lib.hid (And.intro hg10 hg1)
          have HKl := Lib.hid hKl
          clear hrow hB2 hl1 hx0 hrow3 hel hg10 hg1 e1 hl1n
          obtain ⟨w3, hw3⟩ : ∃ w3, w2.setCell ⟨g1, K * 2, none⟩ (.int .u64 at_) = w3 := ⟨_, rfl⟩
          rw [hw3] at HRow3
          have hk23 : Keeps (fun i => i = g1) w2 w3 := by rw [← hw3]; exact (Keeps.refl (fun i => i = g1) w2).setCell (p := ⟨g1, K * 2, none⟩) (.inl rfl) _
          have HW3 := Lib.hid hw3
          have hSl : ∀ i, S i → i < w1.heap.size := fun i hi => HMm.out.lt hi
          have hm3 := (HMm.out.below HB2.out).kept hk23 (fun i hi e => by have := hSl i hi; have := HG1.out.1; omega)
          obtain ⟨l2, hl2⟩ : ∃ l2, l1.set K (at_, eP l1 K) = l2 := ⟨_, rfl⟩
          have hl2n : l2.length = n1 := by rw [← hl2, List.length_set]; exact HL1.out
          have hek : ∀ i, eK l2 i = if K = i ∧ K < l1.length then at_ else eK l1 i := fun i => by rw [← hl2, eK_set]
          have hep : ∀ i, eP l2 i = if K = i ∧ K < l1.length then eP l1 K else eP l1 i := fun i => by rw [← hl2, eP_set]
          have hbd2 : ∀ i, i < l2.length → 0 ≤ eK l2 i ∧ eK l2 i ≤ 18446744073709551615 := fun i hi => by
            rw [hek]
            split
            · exact hat
            · have hNN := HNN.out
              exact HLo.out.bd (by omega) i (by have := HL1.out; omega)
          have hlo2 : LOkK AllL N l2 K := fun i hi => by
            rw [hek, hep, if_neg (by omega), if_neg (by omega)]
            exact HLo.out i (by have := HL1.out; have := HKl.out; omega)
          have hat2 : atE N (eK l2 K) = 3 := by
            rw [hek, if_pos ⟨rfl, by have := HL1.out; have := HKl.out; omega⟩]
            exact HAt.out
          rw [hl2] at HRow3
          have HL2 := Lib.hid hl2n
          have HBd2 := Lib.hid hbd2
          have HLo2 := Lib.hid hlo2
          have HAt2 := Lib.hid hat2
          have HNw := Lib.hid (OneK.new (l := l2) (w1 := w3) (by have := HNN.out; omega) hm3 0 (by have := HLm.out; omega) (by rw [hl2n]; exact own_mono HRow3.out (Nat.zero_le _)))
          have HSl := Lib.hid hSl
          have HKs := Lib.hid hk23
          clear hw3 hSl hm3 hl2 hl2n hek hep hbd2 hlo2 hat2 hk23
          go_wp2_with (fail)
          rw [HW3.out]
          refine HNw.out.mono ?_
          rintro e w4 ⟨rb, rfl, hrb, hB4, hnew⟩
          have HOn := Lib.hid (hnew NoB w4 (Keeps.refl _ _) (fun i h => h.elim))
          have hpt : PutsAt w4 (some ⟨g1, 0, none⟩) l2 := fun hp => by
            have h4 := own_keeps HRow3.out (Keeps.of_below' hB4) (fun _ _ h => h)
            obtain ⟨g, cap9, e1, _, hg, _, _, hE⟩ := own_ents h4 (by rw [HL2.out]) (by rw [← HL2.out]; exact hp)
            cases e1
            exact ⟨_, 0, rfl, hg, hE⟩
          have HPt := Lib.hid hpt
          have HPn := Lib.hid (show ∀ g o, (some ⟨g1, 0, none⟩ : Option Addr) = some ⟨g, o, none⟩ → ¬ (g = rb ∨ S g) from fun g o e h => by
            cases e
            rcases h with h | h
            · have := HKs.out.size; have := HG1.out.2; omega
            · have := HSl.out _ h; have := HG1.out.1; omega)
          have HBr := Lib.hid (((HB1.out.trans (HB2.out.mono HB1.out.size)).keeps (Nat.le_refl _) HKs.out (fun i hi => by have := HG1.out.1; have := HB1.out.size; omega)).trans (hB4.mono (by have := HKs.out.size; have := HB2.out.size; have := HB1.out.size; omega)))
          have HSb := Lib.hid (show ∀ i, (i = rb ∨ S i) → w.heap.size ≤ i from fun i hi => by
            rcases hi with h | h
            · have := HKs.out.size; have := HB2.out.size; have := HB1.out.size; omega
            · exact HS.out i h)
          clear hrb hB4 hnew hpt
          go_wp2_with (fail)
          go_loopw [12] (fun iv wr => ∃ i : Nat, iv = .int .i64 i ∧ StR S w4 rb mb N l2 0 K i wr) (fun iv _ => 3 * n1 + 1 - (intOf iv).toNat)
          case atStart => exact ⟨0, rfl, 0, 0, 0, 0, HOn.out, by omega, by omega, by rw [HL2.out]; unfold mu; simp, by omega⟩
          case round =>
            obtain ⟨i, rfl, k, ph, fl, fe, hO, hfl, hfe, hmu, hkK⟩ := hrel
            have hl2 := HL2.out
            have hmu0 : mu l2.length k ph = 3 * (l2.length - k) + (if ph = 1 then 2 else if ph = 2 then 1 else 0) := rfl
            have hi3 : i ≤ 3 * n1 := by rw [← hl2]; omega
            have hic : (i : Int) ≤ 3 * (n1 : Int) := by omega
            have HI3 := Lib.hid hi3
            by_cases hstop : ph = 0 ∧ k = K
            · obtain ⟨rfl, rfl⟩ := hstop
              have HStp := Lib.hid (hO.stop (by rw [hl2]; exact HKl.out) HBd2.out HAt2.out (by omega) (by rw [hl2]; have := HLm.out; omega))
              have hn60 : (n1 : Int) ≤ 60 := by have := HLm.out; omega
              clear hO hfl hfe hmu hkK hl2 hmu0 hi3
              go_wp2_with (fail)
              refine HStp.out.mono ?_
              rintro e w7 ⟨rfl, r, S7, M7, hb7, hn7, ho7, he7, ha7, ⟨ga7, cp7, hs7⟩, hS7, hm7, hv7, hk7⟩
              have hso := rstep_over w7 rb r 30 hb7 hn7 ho7
              rw [he7] at hso
              have HSo := Lib.hid hso
              have H7 := Lib.hid (And.intro ha7 (And.intro hs7 (And.intro hS7 hv7)))
              have HM7 := Lib.hid hm7
              have HK7 := Lib.hid hk7
              clear hb7 hn7 ho7 he7 ha7 hs7 hS7 hm7 hv7 hk7 hso
              go_wp2_with (fail)
              refine HSo.out.mono ?_
              rintro e w8 ⟨rfl, hk8, hb8⟩
              have hm8 := MemP.kept (show MemP w7 mb S7 M7.vs M7.is M7.mk M7.F M7.lo M7.st M7.fl M7.fe from HM7.out) hk8 (fun i hi e => H7.out.2.2.1 (e ▸ hi))
              have hk48 : Keeps (fun i => i = rb ∨ S i) w4 w8 := HK7.out.trans (hk8.mono (fun i _ e => .inl e))
              have HBr8 := Lib.hid (HBr.out.keeps (Nat.le_refl _) hk48 (fun i hi => HSb.out i hi))
              have hpt8 : PutsAt w8 (some ⟨g1, 0, none⟩) l2 := HPt.out.keptS hk48 (fun g o e => HPn.out g o e)
              have hl2n := HL2.out
              have HLf := Lib.hid (show ∀ W, Below w8.heap.size w8 W → Calls Try.prog 15 #[.pointer (some ⟨rb, 0, none⟩)] W fun e w' => e = .returned (.int .i64 ((n1 : Int) - (k : Int))) ∧ Below W.heap.size W w' from fun W hB => by
                refine (rleft_v W rb cp7 n1 k ga7 { r with over := true, e := 3 } (hb8.kept (Keeps.of_below' hB) (fun h => h)) (by rw [← hl2n]; exact H7.out.2.1) H7.out.1 (Nat.le_of_lt HKl.out) (by have := HLm.out; omega)).mono ?_
                rintro e w' ⟨rfl, rfl⟩
                exact ⟨rfl, (Below.refl _ _).drew⟩)
              obtain ⟨M0, hM0⟩ : ∃ M0, bytesW (vsOf N l2 k) = M0 := ⟨_, rfl⟩
              have huu : U64s (vsOf N l2 k) := vsOf_u64K HLo2.out k (Nat.le_refl _) (by rw [hl2n]; exact Nat.le_of_lt HKl.out)
              have HVw := Lib.hid (show ∀ W, Below w8.heap.size w8 W → Calls Try.prog 16 #[.pointer (some ⟨mb, 0, none⟩)] W fun e w' => ∃ v, e = .returned v ∧ w'.ownsRow W.heap.size 5 1 v M0.length (bvals M0) ∧ Below W.heap.size W w' from fun W hB => by
                have := view_m (hm8.below hB) (by rw [H7.out.2.2.2]; exact huu)
                rw [H7.out.2.2.2, hM0] at this
                exact this)
              have HIm := Lib.hid (show ∀ W, Below w8.heap.size w8 W → Calls Try.prog 17 #[.int .i64 ((8 * N : Nat) : Int), .slice (some ⟨g1, 0, none⟩) n1 c1, .int .i64 (k : Int)] W fun e w' => ∃ v, e = .returned v ∧ w'.ownsRow W.heap.size 5 1 v M0.length (bvals M0) ∧ Below W.heap.size W w' from fun W hB => by
                have hNN := HNN.out
                have := rimage_v N k (by omega) (some ⟨g1, 0, none⟩) l2 c1 W (hpt8.below hB) (by rw [hl2n]; have := HLm.out; omega) (fun i hi => (HLo2.out i hi).2) (by rw [hl2n]; exact Nat.le_of_lt HKl.out)
                rw [hM0, hl2n] at this
                exact this)
              obtain ⟨Bt, hBt⟩ : ∃ Bt : ByteArray, (⟨M0.toArray⟩ : ByteArray) = Bt := ⟨_, rfl⟩
              have HBt := Lib.hid hBt
              have HWs := Lib.hid (show IntKind.i64.wrap ((n1 : Int) - (k : Int)) = (n1 : Int) - (k : Int) ∧ IntKind.i64.wrap (64 * n) = ((8 * N : Nat) : Int) from ⟨IntWalk.i64_in _ (by have := HLm.out; have := HKl.out; omega), by have hNN := HNN.out; rw [IntWalk.i64_in _ (by omega)]; omega⟩)
              clear hk8 hb8 hm8 hk48 hpt8 hM0 huu hBt hl2n
              go_wp2_with (fail)
              --GEN r_ss14
              refine wp_region_vals [Is (.bool true), Is (.bool true), Is (.int .i64 3), Is (.bool true), Is (.bool true), Is (.bool true), Is (.bool true), Is (.bool true), Is (.bool true), Is (.int .i64 3), Is (.int .i64 3), Is (.bool true), Is (.bool true), Is (.bool true), Is (.pointer (some ⟨rb, 0, none⟩)), Is (.int .i64 ((n1 : Int) - (k : Int))), Is (.slice (some ⟨g1, 0, none⟩) n1 c1), Is (.int .i64 (n1 : Int)), Is (.int .i64 (k : Int)), Is (.int .i64 ((n1 : Int) - (k : Int))), Is (.bool true), Is (.bool true), Is (.bool true), Is (.pointer (some ⟨mb, 0, none⟩)), fun v W => W.ownsRow w8.heap.size 5 1 v M0.length (bvals M0), Is (.string Bt), Is (.int .i64 n), Is (.int .i64 ((8 * N : Nat) : Int)), Is (.slice (some ⟨g1, 0, none⟩) n1 c1), Is (.int .i64 (k : Int)), fun v W => W.ownsRow w8.heap.size 5 1 v M0.length (bvals M0), Is (.string Bt), Is (.bool true), Is (.bool true), Is (.bool true), Is (.bool true), Is (.bool true), Is (.bool true)]
                (fun _ W W' => Below W.heap.size W W') (fun _ W => Below w8.heap.size w8 W) (by kernel_rfl) (by kernel_rfl) (by kernel_rfl) ?hst ?h0 ⟨?o0, ?o1, ?o2, ?o3, ?o4, ?o5, ?o6, ?o7, ?o8, ?o9, ?o10, ?o11, ?o12, ?o13, ?o14, ?o15, ?o16, ?o17, ?o18, ?o19, ?o20, ?o21, ?o22, ?o23, ?o24, ?o25, ?o26, ?o27, ?o28, ?o29, ?o30, ?o31, ?o32, ?o33, ?o34, ?o35, ?o36, ?o37, trivial⟩ ?he
              case hst =>
                exact ⟨(fun _ _ _ _ _ _ h _ => h), (fun _ _ _ _ _ _ h _ => h), (fun _ _ _ _ _ _ h _ => h), (fun _ _ _ _ _ _ h _ => h), (fun _ _ _ _ _ _ h _ => h), (fun _ _ _ _ _ _ h _ => h), (fun _ _ _ _ _ _ h _ => h), (fun _ _ _ _ _ _ h _ => h), (fun _ _ _ _ _ _ h _ => h), (fun _ _ _ _ _ _ h _ => h), (fun _ _ _ _ _ _ h _ => h), (fun _ _ _ _ _ _ h _ => h), (fun _ _ _ _ _ _ h _ => h), (fun _ _ _ _ _ _ h _ => h), (fun _ _ _ _ _ _ h _ => h), (fun _ _ _ _ _ _ h _ => h), (fun _ _ _ _ _ _ h _ => h), (fun _ _ _ _ _ _ h _ => h), (fun _ _ _ _ _ _ h _ => h), (fun _ _ _ _ _ _ h _ => h), (fun _ _ _ _ _ _ h _ => h), (fun _ _ _ _ _ _ h _ => h), (fun _ _ _ _ _ _ h _ => h), (fun _ _ _ _ _ _ h _ => h), (fun _ _ _ _ _ _ h hR => own_keeps h (Keeps.of_below' hR) (fun _ _ h => h)), (fun _ _ _ _ _ _ h _ => h), (fun _ _ _ _ _ _ h _ => h), (fun _ _ _ _ _ _ h _ => h), (fun _ _ _ _ _ _ h _ => h), (fun _ _ _ _ _ _ h _ => h), (fun _ _ _ _ _ _ h hR => own_keeps h (Keeps.of_below' hR) (fun _ _ h => h)), (fun _ _ _ _ _ _ h _ => h), (fun _ _ _ _ _ _ h _ => h), (fun _ _ _ _ _ _ h _ => h), (fun _ _ _ _ _ _ h _ => h), (fun _ _ _ _ _ _ h _ => h), (fun _ _ _ _ _ _ h _ => h), (fun _ _ _ _ _ _ h _ => h), trivial⟩
              case h0 =>
                exact (Below.refl _ _).drew
              case o0 =>
                intro L vs A W H hf hd K hK
                have e13 : A.tmps[13]?.getD undef = .bool true := H.old 13 (by kernel_rfl)
                go_simp
                exact hK _ _ (Below.refl _ _) rfl (H.glob)
              case o1 =>
                intro L vs A W H hf hd K hK
                have e82 := H.is 0 82 rfl rfl rfl (deps_of' hd 0 (by kernel_rfl)) (by kernel_rfl)
                go_simp
                exact hK _ _ (Below.refl _ _) rfl (H.glob)
              case o2 =>
                intro L vs A W H hf hd K hK
                have e83 := H.is 1 83 rfl rfl rfl (deps_of' hd 1 (by kernel_rfl)) (by kernel_rfl)
                refine if_wanted (j := 1) (s := 83) rfl rfl rfl e83 rfl ?_
                have e14 : A.tmps[14]?.getD undef = .int .i64 3 := H.old 14 (by kernel_rfl)
                go_simp
                exact hK _ _ (Below.refl _ _) rfl (H.glob)
              case o3 =>
                intro L vs A W H hf hd K hK
                have e83 := H.is 1 83 rfl rfl rfl (deps_of' hd 1 (by kernel_rfl)) (by kernel_rfl)
                refine if_wanted (j := 1) (s := 83) rfl rfl rfl e83 rfl ?_
                have e84 := H.is 2 84 rfl rfl rfl (deps_of' hd 2 (by kernel_rfl)) (by kernel_rfl)
                go_simp
                exact hK _ _ (Below.refl _ _) rfl (H.glob)
              case o4 =>
                intro L vs A W H hf hd K hK
                have e83 := H.is 1 83 rfl rfl rfl (deps_of' hd 1 (by kernel_rfl)) (by kernel_rfl)
                have e85 := H.is 3 85 rfl rfl rfl (deps_of' hd 3 (by kernel_rfl)) (by kernel_rfl)
                go_simp
                exact hK _ _ (Below.refl _ _) rfl (H.glob)
              case o5 =>
                intro L vs A W H hf hd K hK
                have e86 := H.is 4 86 rfl rfl rfl (deps_of' hd 4 (by kernel_rfl)) (by kernel_rfl)
                go_simp
                exact hK _ _ (Below.refl _ _) rfl (H.glob)
              case o6 =>
                intro L vs A W H hf hd K hK
                have e87 := H.is 5 87 rfl rfl rfl (deps_of' hd 5 (by kernel_rfl)) (by kernel_rfl)
                refine if_wanted (j := 5) (s := 87) rfl rfl rfl e87 rfl ?_
                have e15 : A.tmps[15]?.getD undef = .bool true := H.old 15 (by kernel_rfl)
                go_simp
                exact hK _ _ (Below.refl _ _) rfl (H.glob)
              case o7 =>
                intro L vs A W H hf hd K hK
                have e87 := H.is 5 87 rfl rfl rfl (deps_of' hd 5 (by kernel_rfl)) (by kernel_rfl)
                have e88 := H.is 6 88 rfl rfl rfl (deps_of' hd 6 (by kernel_rfl)) (by kernel_rfl)
                go_simp
                exact hK _ _ (Below.refl _ _) rfl (H.glob)
              case o8 =>
                intro L vs A W H hf hd K hK
                have e89 := H.is 7 89 rfl rfl rfl (deps_of' hd 7 (by kernel_rfl)) (by kernel_rfl)
                go_simp
                exact hK _ _ (Below.refl _ _) rfl (H.glob)
              case o9 =>
                intro L vs A W H hf hd K hK
                have e90 := H.is 8 90 rfl rfl rfl (deps_of' hd 8 (by kernel_rfl)) (by kernel_rfl)
                refine if_wanted (j := 8) (s := 90) rfl rfl rfl e90 rfl ?_
                have e16 : A.tmps[16]?.getD undef = .int .i64 3 := H.old 16 (by kernel_rfl)
                go_simp
                exact hK _ _ (Below.refl _ _) rfl (H.glob)
              case o10 =>
                intro L vs A W H hf hd K hK
                have e90 := H.is 8 90 rfl rfl rfl (deps_of' hd 8 (by kernel_rfl)) (by kernel_rfl)
                refine if_wanted (j := 8) (s := 90) rfl rfl rfl e90 rfl ?_
                have e14 : A.tmps[14]?.getD undef = .int .i64 3 := H.old 14 (by kernel_rfl)
                go_simp
                exact hK _ _ (Below.refl _ _) rfl (H.glob)
              case o11 =>
                intro L vs A W H hf hd K hK
                have e90 := H.is 8 90 rfl rfl rfl (deps_of' hd 8 (by kernel_rfl)) (by kernel_rfl)
                refine if_wanted (j := 8) (s := 90) rfl rfl rfl e90 rfl ?_
                have e91 := H.is 9 91 rfl rfl rfl (deps_of' hd 9 (by kernel_rfl)) (by kernel_rfl)
                have e92 := H.is 10 92 rfl rfl rfl (deps_of' hd 10 (by kernel_rfl)) (by kernel_rfl)
                go_simp
                exact hK _ _ (Below.refl _ _) rfl (H.glob)
              case o12 =>
                intro L vs A W H hf hd K hK
                have e90 := H.is 8 90 rfl rfl rfl (deps_of' hd 8 (by kernel_rfl)) (by kernel_rfl)
                have e93 := H.is 11 93 rfl rfl rfl (deps_of' hd 11 (by kernel_rfl)) (by kernel_rfl)
                go_simp
                exact hK _ _ (Below.refl _ _) rfl (H.glob)
              case o13 =>
                intro L vs A W H hf hd K hK
                have e94 := H.is 12 94 rfl rfl rfl (deps_of' hd 12 (by kernel_rfl)) (by kernel_rfl)
                go_simp
                exact hK _ _ (Below.refl _ _) rfl (H.glob)
              case o14 =>
                intro L vs A W H hf hd K hK
                have e95 := H.is 13 95 rfl rfl rfl (deps_of' hd 13 (by kernel_rfl)) (by kernel_rfl)
                refine if_wanted (j := 13) (s := 95) rfl rfl rfl e95 rfl ?_
                have e11 : A.tmps[11]?.getD undef = .pointer (some ⟨rb, 0, none⟩) := H.old 11 (by kernel_rfl)
                go_simp
                exact hK _ _ (Below.refl _ _) rfl (H.glob)
              case o15 =>
                intro L vs A W H hf hd K hK
                have e95 := H.is 13 95 rfl rfl rfl (deps_of' hd 13 (by kernel_rfl)) (by kernel_rfl)
                refine if_wanted (j := 13) (s := 95) rfl rfl rfl e95 rfl ?_
                have e96 := H.is 14 96 rfl rfl rfl (deps_of' hd 14 (by kernel_rfl)) (by kernel_rfl)
                go_simp
                refine (HLf.out _ H.glob).mono ?_
                rintro e W2 ⟨rfl, hB⟩
                go_simp
                exact hK _ _ hB rfl (H.glob.trans (hB.mono H.glob.size))
              case o16 =>
                intro L vs A W H hf hd K hK
                have e95 := H.is 13 95 rfl rfl rfl (deps_of' hd 13 (by kernel_rfl)) (by kernel_rfl)
                refine if_wanted (j := 13) (s := 95) rfl rfl rfl e95 rfl ?_
                have e1 : A.tmps[1]?.getD undef = .slice (some ⟨g1, 0, none⟩) n1 c1 := H.old 1 (by kernel_rfl)
                go_simp
                exact hK _ _ (Below.refl _ _) rfl (H.glob)
              case o17 =>
                intro L vs A W H hf hd K hK
                have e95 := H.is 13 95 rfl rfl rfl (deps_of' hd 13 (by kernel_rfl)) (by kernel_rfl)
                refine if_wanted (j := 13) (s := 95) rfl rfl rfl e95 rfl ?_
                have e98 := H.is 16 98 rfl rfl rfl (deps_of' hd 16 (by kernel_rfl)) (by kernel_rfl)
                go_simp
                exact hK _ _ (Below.refl _ _) rfl (H.glob)
              case o18 =>
                intro L vs A W H hf hd K hK
                have e95 := H.is 13 95 rfl rfl rfl (deps_of' hd 13 (by kernel_rfl)) (by kernel_rfl)
                refine if_wanted (j := 13) (s := 95) rfl rfl rfl e95 rfl ?_
                have e10 : A.tmps[10]?.getD undef = .int .i64 (k : Int) := H.old 10 (by kernel_rfl)
                go_simp
                exact hK _ _ (Below.refl _ _) rfl (H.glob)
              case o19 =>
                intro L vs A W H hf hd K hK
                have e95 := H.is 13 95 rfl rfl rfl (deps_of' hd 13 (by kernel_rfl)) (by kernel_rfl)
                refine if_wanted (j := 13) (s := 95) rfl rfl rfl e95 rfl ?_
                have e99 := H.is 17 99 rfl rfl rfl (deps_of' hd 17 (by kernel_rfl)) (by kernel_rfl)
                have e100 := H.is 18 100 rfl rfl rfl (deps_of' hd 18 (by kernel_rfl)) (by kernel_rfl)
                have hw := HWs.out.1
                go_simp
                exact hK _ _ (Below.refl _ _) rfl (H.glob)
              case o20 =>
                intro L vs A W H hf hd K hK
                have e95 := H.is 13 95 rfl rfl rfl (deps_of' hd 13 (by kernel_rfl)) (by kernel_rfl)
                refine if_wanted (j := 13) (s := 95) rfl rfl rfl e95 rfl ?_
                have e97 := H.is 15 97 rfl rfl rfl (deps_of' hd 15 (by kernel_rfl)) (by kernel_rfl)
                have e101 := H.is 19 101 rfl rfl rfl (deps_of' hd 19 (by kernel_rfl)) (by kernel_rfl)
                go_simp
                exact hK _ _ (Below.refl _ _) rfl (H.glob)
              case o21 =>
                intro L vs A W H hf hd K hK
                have e95 := H.is 13 95 rfl rfl rfl (deps_of' hd 13 (by kernel_rfl)) (by kernel_rfl)
                have e102 := H.is 20 102 rfl rfl rfl (deps_of' hd 20 (by kernel_rfl)) (by kernel_rfl)
                go_simp
                exact hK _ _ (Below.refl _ _) rfl (H.glob)
              case o22 =>
                intro L vs A W H hf hd K hK
                have e103 := H.is 21 103 rfl rfl rfl (deps_of' hd 21 (by kernel_rfl)) (by kernel_rfl)
                go_simp
                exact hK _ _ (Below.refl _ _) rfl (H.glob)
              case o23 =>
                intro L vs A W H hf hd K hK
                have e104 := H.is 22 104 rfl rfl rfl (deps_of' hd 22 (by kernel_rfl)) (by kernel_rfl)
                refine if_wanted (j := 22) (s := 104) rfl rfl rfl e104 rfl ?_
                have e9 : A.tmps[9]?.getD undef = .pointer (some ⟨mb, 0, none⟩) := H.old 9 (by kernel_rfl)
                go_simp
                exact hK _ _ (Below.refl _ _) rfl (H.glob)
              case o24 =>
                intro L vs A W H hf hd K hK
                have e104 := H.is 22 104 rfl rfl rfl (deps_of' hd 22 (by kernel_rfl)) (by kernel_rfl)
                refine if_wanted (j := 22) (s := 104) rfl rfl rfl e104 rfl ?_
                have e105 := H.is 23 105 rfl rfl rfl (deps_of' hd 23 (by kernel_rfl)) (by kernel_rfl)
                go_simp
                refine (HVw.out _ H.glob).mono ?_
                rintro e W2 ⟨v, rfl, ho, hB⟩
                go_simp
                exact hK _ _ hB (own_mono ho H.glob.size) (H.glob.trans (hB.mono H.glob.size))
              case o25 =>
                intro L vs A W H hf hd K hK
                have e104 := H.is 22 104 rfl rfl rfl (deps_of' hd 22 (by kernel_rfl)) (by kernel_rfl)
                refine if_wanted (j := 22) (s := 104) rfl rfl rfl e104 rfl ?_
                obtain ⟨v106, e106, q106⟩ := H.val 24 106 rfl rfl rfl (deps_of' hd 24 (by kernel_rfl)) (by kernel_rfl)
                have hcv := conv_rowM q106
                rw [HBt.out] at hcv
                obtain ⟨p9, n9, c9, rfl⟩ := own_slice q106
                go_simp
                exact hK _ _ (Below.refl _ _) rfl H.glob
              case o26 =>
                intro L vs A W H hf hd K hK
                have e104 := H.is 22 104 rfl rfl rfl (deps_of' hd 22 (by kernel_rfl)) (by kernel_rfl)
                refine if_wanted (j := 22) (s := 104) rfl rfl rfl e104 rfl ?_
                have e0 : A.tmps[0]?.getD undef = .int .i64 n := H.old 0 (by kernel_rfl)
                go_simp
                exact hK _ _ (Below.refl _ _) rfl (H.glob)
              case o27 =>
                intro L vs A W H hf hd K hK
                have e104 := H.is 22 104 rfl rfl rfl (deps_of' hd 22 (by kernel_rfl)) (by kernel_rfl)
                refine if_wanted (j := 22) (s := 104) rfl rfl rfl e104 rfl ?_
                have e108 := H.is 26 108 rfl rfl rfl (deps_of' hd 26 (by kernel_rfl)) (by kernel_rfl)
                have hw := HWs.out.2
                go_simp
                exact hK _ _ (Below.refl _ _) rfl (H.glob)
              case o28 =>
                intro L vs A W H hf hd K hK
                have e104 := H.is 22 104 rfl rfl rfl (deps_of' hd 22 (by kernel_rfl)) (by kernel_rfl)
                refine if_wanted (j := 22) (s := 104) rfl rfl rfl e104 rfl ?_
                have e1 : A.tmps[1]?.getD undef = .slice (some ⟨g1, 0, none⟩) n1 c1 := H.old 1 (by kernel_rfl)
                go_simp
                exact hK _ _ (Below.refl _ _) rfl (H.glob)
              case o29 =>
                intro L vs A W H hf hd K hK
                have e104 := H.is 22 104 rfl rfl rfl (deps_of' hd 22 (by kernel_rfl)) (by kernel_rfl)
                refine if_wanted (j := 22) (s := 104) rfl rfl rfl e104 rfl ?_
                have e10 : A.tmps[10]?.getD undef = .int .i64 (k : Int) := H.old 10 (by kernel_rfl)
                go_simp
                exact hK _ _ (Below.refl _ _) rfl (H.glob)
              case o30 =>
                intro L vs A W H hf hd K hK
                have e104 := H.is 22 104 rfl rfl rfl (deps_of' hd 22 (by kernel_rfl)) (by kernel_rfl)
                refine if_wanted (j := 22) (s := 104) rfl rfl rfl e104 rfl ?_
                have e109 := H.is 27 109 rfl rfl rfl (deps_of' hd 27 (by kernel_rfl)) (by kernel_rfl)
                have e110 := H.is 28 110 rfl rfl rfl (deps_of' hd 28 (by kernel_rfl)) (by kernel_rfl)
                have e111 := H.is 29 111 rfl rfl rfl (deps_of' hd 29 (by kernel_rfl)) (by kernel_rfl)
                go_simp
                refine (HIm.out _ H.glob).mono ?_
                rintro e W2 ⟨v, rfl, ho, hB⟩
                go_simp
                exact hK _ _ hB (own_mono ho H.glob.size) (H.glob.trans (hB.mono H.glob.size))
              case o31 =>
                intro L vs A W H hf hd K hK
                have e104 := H.is 22 104 rfl rfl rfl (deps_of' hd 22 (by kernel_rfl)) (by kernel_rfl)
                refine if_wanted (j := 22) (s := 104) rfl rfl rfl e104 rfl ?_
                obtain ⟨v112, e112, q112⟩ := H.val 30 112 rfl rfl rfl (deps_of' hd 30 (by kernel_rfl)) (by kernel_rfl)
                have hcv := conv_rowM q112
                rw [HBt.out] at hcv
                obtain ⟨p9, n9, c9, rfl⟩ := own_slice q112
                go_simp
                exact hK _ _ (Below.refl _ _) rfl H.glob
              case o32 =>
                intro L vs A W H hf hd K hK
                have e104 := H.is 22 104 rfl rfl rfl (deps_of' hd 22 (by kernel_rfl)) (by kernel_rfl)
                refine if_wanted (j := 22) (s := 104) rfl rfl rfl e104 rfl ?_
                have e107 := H.is 25 107 rfl rfl rfl (deps_of' hd 25 (by kernel_rfl)) (by kernel_rfl)
                have e113 := H.is 31 113 rfl rfl rfl (deps_of' hd 31 (by kernel_rfl)) (by kernel_rfl)
                go_simp
                exact hK _ _ (Below.refl _ _) rfl (H.glob)
              case o33 =>
                intro L vs A W H hf hd K hK
                have e104 := H.is 22 104 rfl rfl rfl (deps_of' hd 22 (by kernel_rfl)) (by kernel_rfl)
                have e114 := H.is 32 114 rfl rfl rfl (deps_of' hd 32 (by kernel_rfl)) (by kernel_rfl)
                go_simp
                exact hK _ _ (Below.refl _ _) rfl (H.glob)
              case o34 =>
                intro L vs A W H hf hd K hK
                have e115 := H.is 33 115 rfl rfl rfl (deps_of' hd 33 (by kernel_rfl)) (by kernel_rfl)
                go_simp
                exact hK _ _ (Below.refl _ _) rfl (H.glob)
              case o35 =>
                intro L vs A W H hf hd K hK
                have e116 := H.is 34 116 rfl rfl rfl (deps_of' hd 34 (by kernel_rfl)) (by kernel_rfl)
                refine if_wanted (j := 34) (s := 116) rfl rfl rfl e116 rfl ?_
                go_simp
                refine (known_v _).mono ?_
                rintro e W2 ⟨rfl, hB⟩
                go_simp
                exact hK _ _ hB rfl (H.glob.trans (hB.mono H.glob.size))
              case o36 =>
                intro L vs A W H hf hd K hK
                have e116 := H.is 34 116 rfl rfl rfl (deps_of' hd 34 (by kernel_rfl)) (by kernel_rfl)
                have e117 := H.is 35 117 rfl rfl rfl (deps_of' hd 35 (by kernel_rfl)) (by kernel_rfl)
                go_simp
                exact hK _ _ (Below.refl _ _) rfl (H.glob)
              case o37 =>
                intro L vs A W H hf hd K hK
                have e118 := H.is 36 118 rfl rfl rfl (deps_of' hd 36 (by kernel_rfl)) (by kernel_rfl)
                go_simp
                exact hK _ _ (Below.refl _ _) rfl (H.glob)
              case he =>
                intro vs W hlen hv
                match vs, hlen, hv with
                | x0_ :: x1_ :: x2_ :: x3_ :: x4_ :: x5_ :: x6_ :: x7_ :: x8_ :: x9_ :: x10_ :: x11_ :: x12_ :: x13_ :: x14_ :: x15_ :: x16_ :: x17_ :: x18_ :: x19_ :: x20_ :: x21_ :: x22_ :: x23_ :: x24_ :: x25_ :: x26_ :: x27_ :: x28_ :: x29_ :: x30_ :: x31_ :: x32_ :: x33_ :: x34_ :: x35_ :: x36_ :: x37_ :: [], _, hv =>
                obtain rfl : (.bool true) = x0_ := by obtain ⟨z, h1, h2⟩ := hv 0 _ rfl; cases h1; exact h2.symm
                obtain rfl : (.bool true) = x1_ := by obtain ⟨z, h1, h2⟩ := hv 1 _ rfl; cases h1; exact h2.symm
                obtain rfl : (.int .i64 3) = x2_ := by obtain ⟨z, h1, h2⟩ := hv 2 _ rfl; cases h1; exact h2.symm
                obtain rfl : (.bool true) = x3_ := by obtain ⟨z, h1, h2⟩ := hv 3 _ rfl; cases h1; exact h2.symm
                obtain rfl : (.bool true) = x4_ := by obtain ⟨z, h1, h2⟩ := hv 4 _ rfl; cases h1; exact h2.symm
                obtain rfl : (.bool true) = x5_ := by obtain ⟨z, h1, h2⟩ := hv 5 _ rfl; cases h1; exact h2.symm
                obtain rfl : (.bool true) = x6_ := by obtain ⟨z, h1, h2⟩ := hv 6 _ rfl; cases h1; exact h2.symm
                obtain rfl : (.bool true) = x7_ := by obtain ⟨z, h1, h2⟩ := hv 7 _ rfl; cases h1; exact h2.symm
                obtain rfl : (.bool true) = x8_ := by obtain ⟨z, h1, h2⟩ := hv 8 _ rfl; cases h1; exact h2.symm
                obtain rfl : (.int .i64 3) = x9_ := by obtain ⟨z, h1, h2⟩ := hv 9 _ rfl; cases h1; exact h2.symm
                obtain rfl : (.int .i64 3) = x10_ := by obtain ⟨z, h1, h2⟩ := hv 10 _ rfl; cases h1; exact h2.symm
                obtain rfl : (.bool true) = x11_ := by obtain ⟨z, h1, h2⟩ := hv 11 _ rfl; cases h1; exact h2.symm
                obtain rfl : (.bool true) = x12_ := by obtain ⟨z, h1, h2⟩ := hv 12 _ rfl; cases h1; exact h2.symm
                obtain rfl : (.bool true) = x13_ := by obtain ⟨z, h1, h2⟩ := hv 13 _ rfl; cases h1; exact h2.symm
                obtain rfl : (.pointer (some ⟨rb, 0, none⟩)) = x14_ := by obtain ⟨z, h1, h2⟩ := hv 14 _ rfl; cases h1; exact h2.symm
                obtain rfl : (.int .i64 ((n1 : Int) - (k : Int))) = x15_ := by obtain ⟨z, h1, h2⟩ := hv 15 _ rfl; cases h1; exact h2.symm
                obtain rfl : (.slice (some ⟨g1, 0, none⟩) n1 c1) = x16_ := by obtain ⟨z, h1, h2⟩ := hv 16 _ rfl; cases h1; exact h2.symm
                obtain rfl : (.int .i64 (n1 : Int)) = x17_ := by obtain ⟨z, h1, h2⟩ := hv 17 _ rfl; cases h1; exact h2.symm
                obtain rfl : (.int .i64 (k : Int)) = x18_ := by obtain ⟨z, h1, h2⟩ := hv 18 _ rfl; cases h1; exact h2.symm
                obtain rfl : (.int .i64 ((n1 : Int) - (k : Int))) = x19_ := by obtain ⟨z, h1, h2⟩ := hv 19 _ rfl; cases h1; exact h2.symm
                obtain rfl : (.bool true) = x20_ := by obtain ⟨z, h1, h2⟩ := hv 20 _ rfl; cases h1; exact h2.symm
                obtain rfl : (.bool true) = x21_ := by obtain ⟨z, h1, h2⟩ := hv 21 _ rfl; cases h1; exact h2.symm
                obtain rfl : (.bool true) = x22_ := by obtain ⟨z, h1, h2⟩ := hv 22 _ rfl; cases h1; exact h2.symm
                obtain rfl : (.pointer (some ⟨mb, 0, none⟩)) = x23_ := by obtain ⟨z, h1, h2⟩ := hv 23 _ rfl; cases h1; exact h2.symm
                have hx24 : (fun v W => W.ownsRow w8.heap.size 5 1 v M0.length (bvals M0)) x24_ W := by obtain ⟨z, h1, h2⟩ := hv 24 _ rfl; cases h1; exact h2
                obtain rfl : (.string Bt) = x25_ := by obtain ⟨z, h1, h2⟩ := hv 25 _ rfl; cases h1; exact h2.symm
                obtain rfl : (.int .i64 n) = x26_ := by obtain ⟨z, h1, h2⟩ := hv 26 _ rfl; cases h1; exact h2.symm
                obtain rfl : (.int .i64 ((8 * N : Nat) : Int)) = x27_ := by obtain ⟨z, h1, h2⟩ := hv 27 _ rfl; cases h1; exact h2.symm
                obtain rfl : (.slice (some ⟨g1, 0, none⟩) n1 c1) = x28_ := by obtain ⟨z, h1, h2⟩ := hv 28 _ rfl; cases h1; exact h2.symm
                obtain rfl : (.int .i64 (k : Int)) = x29_ := by obtain ⟨z, h1, h2⟩ := hv 29 _ rfl; cases h1; exact h2.symm
                have hx30 : (fun v W => W.ownsRow w8.heap.size 5 1 v M0.length (bvals M0)) x30_ W := by obtain ⟨z, h1, h2⟩ := hv 30 _ rfl; cases h1; exact h2
                obtain rfl : (.string Bt) = x31_ := by obtain ⟨z, h1, h2⟩ := hv 31 _ rfl; cases h1; exact h2.symm
                obtain rfl : (.bool true) = x32_ := by obtain ⟨z, h1, h2⟩ := hv 32 _ rfl; cases h1; exact h2.symm
                obtain rfl : (.bool true) = x33_ := by obtain ⟨z, h1, h2⟩ := hv 33 _ rfl; cases h1; exact h2.symm
                obtain rfl : (.bool true) = x34_ := by obtain ⟨z, h1, h2⟩ := hv 34 _ rfl; cases h1; exact h2.symm
                obtain rfl : (.bool true) = x35_ := by obtain ⟨z, h1, h2⟩ := hv 35 _ rfl; cases h1; exact h2.symm
                obtain rfl : (.bool true) = x36_ := by obtain ⟨z, h1, h2⟩ := hv 36 _ rfl; cases h1; exact h2.symm
                obtain rfl : (.bool true) = x37_ := by obtain ⟨z, h1, h2⟩ := hv 37 _ rfl; cases h1; exact h2.symm
                intro L hall hG
                clear hv hlen
                have HG := Lib.hid hG
                clear hG hall hx24 hx30
                simp only [fill, if_true]
                simp [Act.put]
                go_wp2_with (fail)
                go_ret
                exact ⟨rfl, HBr8.out.trans (HG.out.mono HBr8.out.size)⟩
              --END
            · obtain ⟨S6, _, _, hst⟩ := hO.stepK HLo2.out hkK (by rw [hl2]; exact Nat.le_of_lt HKl.out) (fun h => hstop ⟨h.2.1, h.2.2.1⟩) HBd2.out (by omega) (by rw [hl2]; have := HLm.out; omega) (by have := HKl.out; have := HLm.out; omega) (by have := HLm.out; omega) (by have := HLm.out; omega)
              have HSt := Lib.hid (hst wr (Below.refl _ _))
              have HSp := Lib.hid (fun k' ph' ov' st' fl' fe' (h : StepT l2 k ph false k fl fe k' ph' ov' st' fl' fe') => And.intro (whr_step (l := l2) hfl hfe hmu (fun _ => .inl (by have := HKl.out; omega)) (by have := HKl.out; omega) h) (show k' ≤ K from by
                rcases h.inv with ⟨h, _⟩ | ⟨_, _, _, rfl, _⟩ | ⟨_, hp, hk, rfl, _⟩ | ⟨_, _, _, rfl, _⟩ | ⟨_, _, rfl, _⟩
                · cases h
                · exact hkK
                · have : k ≠ K := fun e => hstop ⟨hp, e⟩
                  omega
                · exact hkK
                · exact hkK))
              clear hO hfl hfe hmu hkK hl2 hmu0 hi3 hstop hst
              have hn60 : (n1 : Int) ≤ 60 := by have := HLm.out; omega
              go_wp2_with (fail)
              refine HSt.out.mono ?_
              rintro e w6 ⟨⟨k', ph', ov', st', fl', fe', rfl, ht, hO⟩, _⟩
              obtain ⟨⟨rfl, hk', hff, hcase⟩, hkK⟩ := HSp.out _ _ _ _ _ _ ht
              rcases hcase with ⟨rfl, q1, q2, q3, q4, q5⟩ | ⟨rfl, rfl, rfl⟩
              · have HQ := Lib.hid (And.intro hO (And.intro q1 (And.intro q2 (And.intro q3 hkK))))
                clear ht hO hk' q1 q2 q3 q4 q5 hff hkK
                go_wp2_with (fail)
                refine ⟨⟨i + 1, by go_num, _, _, _, _, HQ.out.1, HQ.out.2.1, HQ.out.2.2.1, HQ.out.2.2.2.1, HQ.out.2.2.2.2⟩, ?_⟩
                have := HI3.out
                simp [intOf]
                omega
              · exact absurd hkK (by have := HL2.out; have := HKl.out; omega)
        · have hqb : decide (at_ < 64 * n) = false := decide_eq_false hq1
          have hq3 : decide (60 < (ln : Int)) = false := decide_eq_false (by omega)
          clear h60 h0 hll hq hu hub hKe hNe0 hNb hr hwh hq1
          go_wp2_with (fail)
          rw [HNN.out.1]
          refine HWi.out.mono ?_
          rintro e w2 ⟨v, rfl, hrow, hB2⟩
          obtain ⟨l1, hl1⟩ : ∃ l1, withinL N l = l1 := ⟨_, rfl⟩
          rw [hl1] at hrow HLo
          have hl1n : l1.length = ln := by rw [← hl1, withinL_len]; exact HLn.out
          obtain ⟨a1, n1, c1, rfl⟩ := own_slice hrow
          obtain rfl : n1 = ln := by have : n1 = l1.length := own_len hrow; omega
          obtain ⟨g1, cp1, e1, hg10, hg1⟩ := World.ownsRow.form hrow (by have := HLm.out; omega)
          have e1' : a1 = some ⟨g1, 0, none⟩ := by injection e1
          subst e1'
          unfold RowB at hrow
          rw [hl1n] at hrow
          obtain ⟨hq1u, hq2u, hq3u, hq4u, hKl⟩ := HUK.out
          have hel : (ecells l1).length = n1 * 2 := by rw [ecells_len2, hl1n]
          obtain ⟨x0, hx0⟩ : ∃ x, (ecells l1)[K * 2]? = some x := ⟨_, List.getElem?_eq_getElem (by rw [hel]; omega)⟩
          have d0 : w2.cell? ⟨g1, K * 2, none⟩ = some x0 := (hrow.cellAt _ (by omega)).trans hx0
          have f0 : w2.frozen? ⟨g1, K * 2, none⟩ = false := hrow.frozenAt _
          have hrow3 := (hrow.stored (K * 2) (.int .u64 at_)).1
          rw [ecells_setK l1 K at_ (by omega)] at hrow3
          have HRow3 := Lib.hid hrow3
          have HL1 := Lib.hid hl1n
          have HB2 := Lib.hid hB2
          have HG1 := Lib.hid (And.intro hg10 hg1)
          have HKl := Lib.hid hKl
          clear hrow hB2 hl1 hx0 hrow3 hel hg10 hg1 e1 hl1n
          obtain ⟨w3, hw3⟩ : ∃ w3, w2.setCell ⟨g1, K * 2, none⟩ (.int .u64 at_) = w3 := ⟨_, rfl⟩
          rw [hw3] at HRow3
          have hk23 : Keeps (fun i => i = g1) w2 w3 := by rw [← hw3]; exact (Keeps.refl (fun i => i = g1) w2).setCell (p := ⟨g1, K * 2, none⟩) (.inl rfl) _
          have HW3 := Lib.hid hw3
          have hSl : ∀ i, S i → i < w1.heap.size := fun i hi => HMm.out.lt hi
          have hm3 := (HMm.out.below HB2.out).kept hk23 (fun i hi e => by have := hSl i hi; have := HG1.out.1; omega)
          obtain ⟨l2, hl2⟩ : ∃ l2, l1.set K (at_, eP l1 K) = l2 := ⟨_, rfl⟩
          have hl2n : l2.length = n1 := by rw [← hl2, List.length_set]; exact HL1.out
          have hek : ∀ i, eK l2 i = if K = i ∧ K < l1.length then at_ else eK l1 i := fun i => by rw [← hl2, eK_set]
          have hep : ∀ i, eP l2 i = if K = i ∧ K < l1.length then eP l1 K else eP l1 i := fun i => by rw [← hl2, eP_set]
          have hbd2 : ∀ i, i < l2.length → 0 ≤ eK l2 i ∧ eK l2 i ≤ 18446744073709551615 := fun i hi => by
            rw [hek]
            split
            · exact hat
            · have hNN := HNN.out
              exact HLo.out.bd (by omega) i (by have := HL1.out; omega)
          have hlo2 : LOkK AllL N l2 K := fun i hi => by
            rw [hek, hep, if_neg (by omega), if_neg (by omega)]
            exact HLo.out i (by have := HL1.out; have := HKl.out; omega)
          have hat2 : atE N (eK l2 K) = 3 := by
            rw [hek, if_pos ⟨rfl, by have := HL1.out; have := HKl.out; omega⟩]
            exact HAt.out
          rw [hl2] at HRow3
          have HL2 := Lib.hid hl2n
          have HBd2 := Lib.hid hbd2
          have HLo2 := Lib.hid hlo2
          have HAt2 := Lib.hid hat2
          have HNw := Lib.hid (OneK.new (l := l2) (w1 := w3) (by have := HNN.out; omega) hm3 0 (by have := HLm.out; omega) (by rw [hl2n]; exact own_mono HRow3.out (Nat.zero_le _)))
          have HSl := Lib.hid hSl
          have HKs := Lib.hid hk23
          clear hw3 hSl hm3 hl2 hl2n hek hep hbd2 hlo2 hat2 hk23
          go_wp2_with (fail)
          rw [HW3.out]
          refine HNw.out.mono ?_
          rintro e w4 ⟨rb, rfl, hrb, hB4, hnew⟩
          have HOn := Lib.hid (hnew NoB w4 (Keeps.refl _ _) (fun i h => h.elim))
          have hpt : PutsAt w4 (some ⟨g1, 0, none⟩) l2 := fun hp => by
            have h4 := own_keeps HRow3.out (Keeps.of_below' hB4) (fun _ _ h => h)
            obtain ⟨g, cap9, e1, _, hg, _, _, hE⟩ := own_ents h4 (by rw [HL2.out]) (by rw [← HL2.out]; exact hp)
            cases e1
            exact ⟨_, 0, rfl, hg, hE⟩
          have HPt := Lib.hid hpt
          have HPn := Lib.hid (show ∀ g o, (some ⟨g1, 0, none⟩ : Option Addr) = some ⟨g, o, none⟩ → ¬ (g = rb ∨ S g) from fun g o e h => by
            cases e
            rcases h with h | h
            · have := HKs.out.size; have := HG1.out.2; omega
            · have := HSl.out _ h; have := HG1.out.1; omega)
          have HBr := Lib.hid (((HB1.out.trans (HB2.out.mono HB1.out.size)).keeps (Nat.le_refl _) HKs.out (fun i hi => by have := HG1.out.1; have := HB1.out.size; omega)).trans (hB4.mono (by have := HKs.out.size; have := HB2.out.size; have := HB1.out.size; omega)))
          have HSb := Lib.hid (show ∀ i, (i = rb ∨ S i) → w.heap.size ≤ i from fun i hi => by
            rcases hi with h | h
            · have := HKs.out.size; have := HB2.out.size; have := HB1.out.size; omega
            · exact HS.out i h)
          clear hrb hB4 hnew hpt
          go_wp2_with (fail)
          go_loopw [12] (fun iv wr => ∃ i : Nat, iv = .int .i64 i ∧ StR S w4 rb mb N l2 0 K i wr) (fun iv _ => 3 * n1 + 1 - (intOf iv).toNat)
          case atStart => exact ⟨0, rfl, 0, 0, 0, 0, HOn.out, by omega, by omega, by rw [HL2.out]; unfold mu; simp, by omega⟩
          case round =>
            obtain ⟨i, rfl, k, ph, fl, fe, hO, hfl, hfe, hmu, hkK⟩ := hrel
            have hl2 := HL2.out
            have hmu0 : mu l2.length k ph = 3 * (l2.length - k) + (if ph = 1 then 2 else if ph = 2 then 1 else 0) := rfl
            have hi3 : i ≤ 3 * n1 := by rw [← hl2]; omega
            have hic : (i : Int) ≤ 3 * (n1 : Int) := by omega
            have HI3 := Lib.hid hi3
            by_cases hstop : ph = 0 ∧ k = K
            · obtain ⟨rfl, rfl⟩ := hstop
              have HStp := Lib.hid (hO.stop (by rw [hl2]; exact HKl.out) HBd2.out HAt2.out (by omega) (by rw [hl2]; have := HLm.out; omega))
              have hn60 : (n1 : Int) ≤ 60 := by have := HLm.out; omega
              clear hO hfl hfe hmu hkK hl2 hmu0 hi3
              go_wp2_with (fail)
              refine HStp.out.mono ?_
              rintro e w7 ⟨rfl, r, S7, M7, hb7, hn7, ho7, he7, ha7, ⟨ga7, cp7, hs7⟩, hS7, hm7, hv7, hk7⟩
              have hso := rstep_over w7 rb r 30 hb7 hn7 ho7
              rw [he7] at hso
              have HSo := Lib.hid hso
              have H7 := Lib.hid (And.intro ha7 (And.intro hs7 (And.intro hS7 hv7)))
              have HM7 := Lib.hid hm7
              have HK7 := Lib.hid hk7
              clear hb7 hn7 ho7 he7 ha7 hs7 hS7 hm7 hv7 hk7 hso
              go_wp2_with (fail)
              refine HSo.out.mono ?_
              rintro e w8 ⟨rfl, hk8, hb8⟩
              have hm8 := MemP.kept (show MemP w7 mb S7 M7.vs M7.is M7.mk M7.F M7.lo M7.st M7.fl M7.fe from HM7.out) hk8 (fun i hi e => H7.out.2.2.1 (e ▸ hi))
              have hk48 : Keeps (fun i => i = rb ∨ S i) w4 w8 := HK7.out.trans (hk8.mono (fun i _ e => .inl e))
              have HBr8 := Lib.hid (HBr.out.keeps (Nat.le_refl _) hk48 (fun i hi => HSb.out i hi))
              have hpt8 : PutsAt w8 (some ⟨g1, 0, none⟩) l2 := HPt.out.keptS hk48 (fun g o e => HPn.out g o e)
              have hl2n := HL2.out
              have HLf := Lib.hid (show ∀ W, Below w8.heap.size w8 W → Calls Try.prog 15 #[.pointer (some ⟨rb, 0, none⟩)] W fun e w' => e = .returned (.int .i64 ((n1 : Int) - (k : Int))) ∧ Below W.heap.size W w' from fun W hB => by
                refine (rleft_v W rb cp7 n1 k ga7 { r with over := true, e := 3 } (hb8.kept (Keeps.of_below' hB) (fun h => h)) (by rw [← hl2n]; exact H7.out.2.1) H7.out.1 (Nat.le_of_lt HKl.out) (by have := HLm.out; omega)).mono ?_
                rintro e w' ⟨rfl, rfl⟩
                exact ⟨rfl, (Below.refl _ _).drew⟩)
              obtain ⟨M0, hM0⟩ : ∃ M0, bytesW (vsOf N l2 k) = M0 := ⟨_, rfl⟩
              have huu : U64s (vsOf N l2 k) := vsOf_u64K HLo2.out k (Nat.le_refl _) (by rw [hl2n]; exact Nat.le_of_lt HKl.out)
              have HVw := Lib.hid (show ∀ W, Below w8.heap.size w8 W → Calls Try.prog 16 #[.pointer (some ⟨mb, 0, none⟩)] W fun e w' => ∃ v, e = .returned v ∧ w'.ownsRow W.heap.size 5 1 v M0.length (bvals M0) ∧ Below W.heap.size W w' from fun W hB => by
                have := view_m (hm8.below hB) (by rw [H7.out.2.2.2]; exact huu)
                rw [H7.out.2.2.2, hM0] at this
                exact this)
              have HIm := Lib.hid (show ∀ W, Below w8.heap.size w8 W → Calls Try.prog 17 #[.int .i64 ((8 * N : Nat) : Int), .slice (some ⟨g1, 0, none⟩) n1 c1, .int .i64 (k : Int)] W fun e w' => ∃ v, e = .returned v ∧ w'.ownsRow W.heap.size 5 1 v M0.length (bvals M0) ∧ Below W.heap.size W w' from fun W hB => by
                have hNN := HNN.out
                have := rimage_v N k (by omega) (some ⟨g1, 0, none⟩) l2 c1 W (hpt8.below hB) (by rw [hl2n]; have := HLm.out; omega) (fun i hi => (HLo2.out i hi).2) (by rw [hl2n]; exact Nat.le_of_lt HKl.out)
                rw [hM0, hl2n] at this
                exact this)
              obtain ⟨Bt, hBt⟩ : ∃ Bt : ByteArray, (⟨M0.toArray⟩ : ByteArray) = Bt := ⟨_, rfl⟩
              have HBt := Lib.hid hBt
              have HWs := Lib.hid (show IntKind.i64.wrap ((n1 : Int) - (k : Int)) = (n1 : Int) - (k : Int) ∧ IntKind.i64.wrap (64 * n) = ((8 * N : Nat) : Int) from ⟨IntWalk.i64_in _ (by have := HLm.out; have := HKl.out; omega), by have hNN := HNN.out; rw [IntWalk.i64_in _ (by omega)]; omega⟩)
              clear hk8 hb8 hm8 hk48 hpt8 hM0 huu hBt hl2n
              go_wp2_with (fail)
              --GEN r_ss14
              refine wp_region_vals [Is (.bool true), Is (.bool true), Is (.int .i64 3), Is (.bool true), Is (.bool true), Is (.bool true), Is (.bool true), Is (.bool true), Is (.bool true), Is (.int .i64 3), Is (.int .i64 3), Is (.bool true), Is (.bool true), Is (.bool true), Is (.pointer (some ⟨rb, 0, none⟩)), Is (.int .i64 ((n1 : Int) - (k : Int))), Is (.slice (some ⟨g1, 0, none⟩) n1 c1), Is (.int .i64 (n1 : Int)), Is (.int .i64 (k : Int)), Is (.int .i64 ((n1 : Int) - (k : Int))), Is (.bool true), Is (.bool true), Is (.bool true), Is (.pointer (some ⟨mb, 0, none⟩)), fun v W => W.ownsRow w8.heap.size 5 1 v M0.length (bvals M0), Is (.string Bt), Is (.int .i64 n), Is (.int .i64 ((8 * N : Nat) : Int)), Is (.slice (some ⟨g1, 0, none⟩) n1 c1), Is (.int .i64 (k : Int)), fun v W => W.ownsRow w8.heap.size 5 1 v M0.length (bvals M0), Is (.string Bt), Is (.bool true), Is (.bool true), Is (.bool true), Is (.bool true), Is (.bool true), Is (.bool true)]
                (fun _ W W' => Below W.heap.size W W') (fun _ W => Below w8.heap.size w8 W) (by kernel_rfl) (by kernel_rfl) (by kernel_rfl) ?hst ?h0 ⟨?o0, ?o1, ?o2, ?o3, ?o4, ?o5, ?o6, ?o7, ?o8, ?o9, ?o10, ?o11, ?o12, ?o13, ?o14, ?o15, ?o16, ?o17, ?o18, ?o19, ?o20, ?o21, ?o22, ?o23, ?o24, ?o25, ?o26, ?o27, ?o28, ?o29, ?o30, ?o31, ?o32, ?o33, ?o34, ?o35, ?o36, ?o37, trivial⟩ ?he
              case hst =>
                exact ⟨(fun _ _ _ _ _ _ h _ => h), (fun _ _ _ _ _ _ h _ => h), (fun _ _ _ _ _ _ h _ => h), (fun _ _ _ _ _ _ h _ => h), (fun _ _ _ _ _ _ h _ => h), (fun _ _ _ _ _ _ h _ => h), (fun _ _ _ _ _ _ h _ => h), (fun _ _ _ _ _ _ h _ => h), (fun _ _ _ _ _ _ h _ => h), (fun _ _ _ _ _ _ h _ => h), (fun _ _ _ _ _ _ h _ => h), (fun _ _ _ _ _ _ h _ => h), (fun _ _ _ _ _ _ h _ => h), (fun _ _ _ _ _ _ h _ => h), (fun _ _ _ _ _ _ h _ => h), (fun _ _ _ _ _ _ h _ => h), (fun _ _ _ _ _ _ h _ => h), (fun _ _ _ _ _ _ h _ => h), (fun _ _ _ _ _ _ h _ => h), (fun _ _ _ _ _ _ h _ => h), (fun _ _ _ _ _ _ h _ => h), (fun _ _ _ _ _ _ h _ => h), (fun _ _ _ _ _ _ h _ => h), (fun _ _ _ _ _ _ h _ => h), (fun _ _ _ _ _ _ h hR => own_keeps h (Keeps.of_below' hR) (fun _ _ h => h)), (fun _ _ _ _ _ _ h _ => h), (fun _ _ _ _ _ _ h _ => h), (fun _ _ _ _ _ _ h _ => h), (fun _ _ _ _ _ _ h _ => h), (fun _ _ _ _ _ _ h _ => h), (fun _ _ _ _ _ _ h hR => own_keeps h (Keeps.of_below' hR) (fun _ _ h => h)), (fun _ _ _ _ _ _ h _ => h), (fun _ _ _ _ _ _ h _ => h), (fun _ _ _ _ _ _ h _ => h), (fun _ _ _ _ _ _ h _ => h), (fun _ _ _ _ _ _ h _ => h), (fun _ _ _ _ _ _ h _ => h), (fun _ _ _ _ _ _ h _ => h), trivial⟩
              case h0 =>
                exact (Below.refl _ _).drew
              case o0 =>
                intro L vs A W H hf hd K hK
                have e13 : A.tmps[13]?.getD undef = .bool true := H.old 13 (by kernel_rfl)
                go_simp
                exact hK _ _ (Below.refl _ _) rfl (H.glob)
              case o1 =>
                intro L vs A W H hf hd K hK
                have e82 := H.is 0 82 rfl rfl rfl (deps_of' hd 0 (by kernel_rfl)) (by kernel_rfl)
                go_simp
                exact hK _ _ (Below.refl _ _) rfl (H.glob)
              case o2 =>
                intro L vs A W H hf hd K hK
                have e83 := H.is 1 83 rfl rfl rfl (deps_of' hd 1 (by kernel_rfl)) (by kernel_rfl)
                refine if_wanted (j := 1) (s := 83) rfl rfl rfl e83 rfl ?_
                have e14 : A.tmps[14]?.getD undef = .int .i64 3 := H.old 14 (by kernel_rfl)
                go_simp
                exact hK _ _ (Below.refl _ _) rfl (H.glob)
              case o3 =>
                intro L vs A W H hf hd K hK
                have e83 := H.is 1 83 rfl rfl rfl (deps_of' hd 1 (by kernel_rfl)) (by kernel_rfl)
                refine if_wanted (j := 1) (s := 83) rfl rfl rfl e83 rfl ?_
                have e84 := H.is 2 84 rfl rfl rfl (deps_of' hd 2 (by kernel_rfl)) (by kernel_rfl)
                go_simp
                exact hK _ _ (Below.refl _ _) rfl (H.glob)
              case o4 =>
                intro L vs A W H hf hd K hK
                have e83 := H.is 1 83 rfl rfl rfl (deps_of' hd 1 (by kernel_rfl)) (by kernel_rfl)
                have e85 := H.is 3 85 rfl rfl rfl (deps_of' hd 3 (by kernel_rfl)) (by kernel_rfl)
                go_simp
                exact hK _ _ (Below.refl _ _) rfl (H.glob)
              case o5 =>
                intro L vs A W H hf hd K hK
                have e86 := H.is 4 86 rfl rfl rfl (deps_of' hd 4 (by kernel_rfl)) (by kernel_rfl)
                go_simp
                exact hK _ _ (Below.refl _ _) rfl (H.glob)
              case o6 =>
                intro L vs A W H hf hd K hK
                have e87 := H.is 5 87 rfl rfl rfl (deps_of' hd 5 (by kernel_rfl)) (by kernel_rfl)
                refine if_wanted (j := 5) (s := 87) rfl rfl rfl e87 rfl ?_
                have e15 : A.tmps[15]?.getD undef = .bool true := H.old 15 (by kernel_rfl)
                go_simp
                exact hK _ _ (Below.refl _ _) rfl (H.glob)
              case o7 =>
                intro L vs A W H hf hd K hK
                have e87 := H.is 5 87 rfl rfl rfl (deps_of' hd 5 (by kernel_rfl)) (by kernel_rfl)
                have e88 := H.is 6 88 rfl rfl rfl (deps_of' hd 6 (by kernel_rfl)) (by kernel_rfl)
                go_simp
                exact hK _ _ (Below.refl _ _) rfl (H.glob)
              case o8 =>
                intro L vs A W H hf hd K hK
                have e89 := H.is 7 89 rfl rfl rfl (deps_of' hd 7 (by kernel_rfl)) (by kernel_rfl)
                go_simp
                exact hK _ _ (Below.refl _ _) rfl (H.glob)
              case o9 =>
                intro L vs A W H hf hd K hK
                have e90 := H.is 8 90 rfl rfl rfl (deps_of' hd 8 (by kernel_rfl)) (by kernel_rfl)
                refine if_wanted (j := 8) (s := 90) rfl rfl rfl e90 rfl ?_
                have e16 : A.tmps[16]?.getD undef = .int .i64 3 := H.old 16 (by kernel_rfl)
                go_simp
                exact hK _ _ (Below.refl _ _) rfl (H.glob)
              case o10 =>
                intro L vs A W H hf hd K hK
                have e90 := H.is 8 90 rfl rfl rfl (deps_of' hd 8 (by kernel_rfl)) (by kernel_rfl)
                refine if_wanted (j := 8) (s := 90) rfl rfl rfl e90 rfl ?_
                have e14 : A.tmps[14]?.getD undef = .int .i64 3 := H.old 14 (by kernel_rfl)
                go_simp
                exact hK _ _ (Below.refl _ _) rfl (H.glob)
              case o11 =>
                intro L vs A W H hf hd K hK
                have e90 := H.is 8 90 rfl rfl rfl (deps_of' hd 8 (by kernel_rfl)) (by kernel_rfl)
                refine if_wanted (j := 8) (s := 90) rfl rfl rfl e90 rfl ?_
                have e91 := H.is 9 91 rfl rfl rfl (deps_of' hd 9 (by kernel_rfl)) (by kernel_rfl)
                have e92 := H.is 10 92 rfl rfl rfl (deps_of' hd 10 (by kernel_rfl)) (by kernel_rfl)
                go_simp
                exact hK _ _ (Below.refl _ _) rfl (H.glob)
              case o12 =>
                intro L vs A W H hf hd K hK
                have e90 := H.is 8 90 rfl rfl rfl (deps_of' hd 8 (by kernel_rfl)) (by kernel_rfl)
                have e93 := H.is 11 93 rfl rfl rfl (deps_of' hd 11 (by kernel_rfl)) (by kernel_rfl)
                go_simp
                exact hK _ _ (Below.refl _ _) rfl (H.glob)
              case o13 =>
                intro L vs A W H hf hd K hK
                have e94 := H.is 12 94 rfl rfl rfl (deps_of' hd 12 (by kernel_rfl)) (by kernel_rfl)
                go_simp
                exact hK _ _ (Below.refl _ _) rfl (H.glob)
              case o14 =>
                intro L vs A W H hf hd K hK
                have e95 := H.is 13 95 rfl rfl rfl (deps_of' hd 13 (by kernel_rfl)) (by kernel_rfl)
                refine if_wanted (j := 13) (s := 95) rfl rfl rfl e95 rfl ?_
                have e11 : A.tmps[11]?.getD undef = .pointer (some ⟨rb, 0, none⟩) := H.old 11 (by kernel_rfl)
                go_simp
                exact hK _ _ (Below.refl _ _) rfl (H.glob)
              case o15 =>
                intro L vs A W H hf hd K hK
                have e95 := H.is 13 95 rfl rfl rfl (deps_of' hd 13 (by kernel_rfl)) (by kernel_rfl)
                refine if_wanted (j := 13) (s := 95) rfl rfl rfl e95 rfl ?_
                have e96 := H.is 14 96 rfl rfl rfl (deps_of' hd 14 (by kernel_rfl)) (by kernel_rfl)
                go_simp
                refine (HLf.out _ H.glob).mono ?_
                rintro e W2 ⟨rfl, hB⟩
                go_simp
                exact hK _ _ hB rfl (H.glob.trans (hB.mono H.glob.size))
              case o16 =>
                intro L vs A W H hf hd K hK
                have e95 := H.is 13 95 rfl rfl rfl (deps_of' hd 13 (by kernel_rfl)) (by kernel_rfl)
                refine if_wanted (j := 13) (s := 95) rfl rfl rfl e95 rfl ?_
                have e1 : A.tmps[1]?.getD undef = .slice (some ⟨g1, 0, none⟩) n1 c1 := H.old 1 (by kernel_rfl)
                go_simp
                exact hK _ _ (Below.refl _ _) rfl (H.glob)
              case o17 =>
                intro L vs A W H hf hd K hK
                have e95 := H.is 13 95 rfl rfl rfl (deps_of' hd 13 (by kernel_rfl)) (by kernel_rfl)
                refine if_wanted (j := 13) (s := 95) rfl rfl rfl e95 rfl ?_
                have e98 := H.is 16 98 rfl rfl rfl (deps_of' hd 16 (by kernel_rfl)) (by kernel_rfl)
                go_simp
                exact hK _ _ (Below.refl _ _) rfl (H.glob)
              case o18 =>
                intro L vs A W H hf hd K hK
                have e95 := H.is 13 95 rfl rfl rfl (deps_of' hd 13 (by kernel_rfl)) (by kernel_rfl)
                refine if_wanted (j := 13) (s := 95) rfl rfl rfl e95 rfl ?_
                have e10 : A.tmps[10]?.getD undef = .int .i64 (k : Int) := H.old 10 (by kernel_rfl)
                go_simp
                exact hK _ _ (Below.refl _ _) rfl (H.glob)
              case o19 =>
                intro L vs A W H hf hd K hK
                have e95 := H.is 13 95 rfl rfl rfl (deps_of' hd 13 (by kernel_rfl)) (by kernel_rfl)
                refine if_wanted (j := 13) (s := 95) rfl rfl rfl e95 rfl ?_
                have e99 := H.is 17 99 rfl rfl rfl (deps_of' hd 17 (by kernel_rfl)) (by kernel_rfl)
                have e100 := H.is 18 100 rfl rfl rfl (deps_of' hd 18 (by kernel_rfl)) (by kernel_rfl)
                have hw := HWs.out.1
                go_simp
                exact hK _ _ (Below.refl _ _) rfl (H.glob)
              case o20 =>
                intro L vs A W H hf hd K hK
                have e95 := H.is 13 95 rfl rfl rfl (deps_of' hd 13 (by kernel_rfl)) (by kernel_rfl)
                refine if_wanted (j := 13) (s := 95) rfl rfl rfl e95 rfl ?_
                have e97 := H.is 15 97 rfl rfl rfl (deps_of' hd 15 (by kernel_rfl)) (by kernel_rfl)
                have e101 := H.is 19 101 rfl rfl rfl (deps_of' hd 19 (by kernel_rfl)) (by kernel_rfl)
                go_simp
                exact hK _ _ (Below.refl _ _) rfl (H.glob)
              case o21 =>
                intro L vs A W H hf hd K hK
                have e95 := H.is 13 95 rfl rfl rfl (deps_of' hd 13 (by kernel_rfl)) (by kernel_rfl)
                have e102 := H.is 20 102 rfl rfl rfl (deps_of' hd 20 (by kernel_rfl)) (by kernel_rfl)
                go_simp
                exact hK _ _ (Below.refl _ _) rfl (H.glob)
              case o22 =>
                intro L vs A W H hf hd K hK
                have e103 := H.is 21 103 rfl rfl rfl (deps_of' hd 21 (by kernel_rfl)) (by kernel_rfl)
                go_simp
                exact hK _ _ (Below.refl _ _) rfl (H.glob)
              case o23 =>
                intro L vs A W H hf hd K hK
                have e104 := H.is 22 104 rfl rfl rfl (deps_of' hd 22 (by kernel_rfl)) (by kernel_rfl)
                refine if_wanted (j := 22) (s := 104) rfl rfl rfl e104 rfl ?_
                have e9 : A.tmps[9]?.getD undef = .pointer (some ⟨mb, 0, none⟩) := H.old 9 (by kernel_rfl)
                go_simp
                exact hK _ _ (Below.refl _ _) rfl (H.glob)
              case o24 =>
                intro L vs A W H hf hd K hK
                have e104 := H.is 22 104 rfl rfl rfl (deps_of' hd 22 (by kernel_rfl)) (by kernel_rfl)
                refine if_wanted (j := 22) (s := 104) rfl rfl rfl e104 rfl ?_
                have e105 := H.is 23 105 rfl rfl rfl (deps_of' hd 23 (by kernel_rfl)) (by kernel_rfl)
                go_simp
                refine (HVw.out _ H.glob).mono ?_
                rintro e W2 ⟨v, rfl, ho, hB⟩
                go_simp
                exact hK _ _ hB (own_mono ho H.glob.size) (H.glob.trans (hB.mono H.glob.size))
              case o25 =>
                intro L vs A W H hf hd K hK
                have e104 := H.is 22 104 rfl rfl rfl (deps_of' hd 22 (by kernel_rfl)) (by kernel_rfl)
                refine if_wanted (j := 22) (s := 104) rfl rfl rfl e104 rfl ?_
                obtain ⟨v106, e106, q106⟩ := H.val 24 106 rfl rfl rfl (deps_of' hd 24 (by kernel_rfl)) (by kernel_rfl)
                have hcv := conv_rowM q106
                rw [HBt.out] at hcv
                obtain ⟨p9, n9, c9, rfl⟩ := own_slice q106
                go_simp
                exact hK _ _ (Below.refl _ _) rfl H.glob
              case o26 =>
                intro L vs A W H hf hd K hK
                have e104 := H.is 22 104 rfl rfl rfl (deps_of' hd 22 (by kernel_rfl)) (by kernel_rfl)
                refine if_wanted (j := 22) (s := 104) rfl rfl rfl e104 rfl ?_
                have e0 : A.tmps[0]?.getD undef = .int .i64 n := H.old 0 (by kernel_rfl)
                go_simp
                exact hK _ _ (Below.refl _ _) rfl (H.glob)
              case o27 =>
                intro L vs A W H hf hd K hK
                have e104 := H.is 22 104 rfl rfl rfl (deps_of' hd 22 (by kernel_rfl)) (by kernel_rfl)
                refine if_wanted (j := 22) (s := 104) rfl rfl rfl e104 rfl ?_
                have e108 := H.is 26 108 rfl rfl rfl (deps_of' hd 26 (by kernel_rfl)) (by kernel_rfl)
                have hw := HWs.out.2
                go_simp
                exact hK _ _ (Below.refl _ _) rfl (H.glob)
              case o28 =>
                intro L vs A W H hf hd K hK
                have e104 := H.is 22 104 rfl rfl rfl (deps_of' hd 22 (by kernel_rfl)) (by kernel_rfl)
                refine if_wanted (j := 22) (s := 104) rfl rfl rfl e104 rfl ?_
                have e1 : A.tmps[1]?.getD undef = .slice (some ⟨g1, 0, none⟩) n1 c1 := H.old 1 (by kernel_rfl)
                go_simp
                exact hK _ _ (Below.refl _ _) rfl (H.glob)
              case o29 =>
                intro L vs A W H hf hd K hK
                have e104 := H.is 22 104 rfl rfl rfl (deps_of' hd 22 (by kernel_rfl)) (by kernel_rfl)
                refine if_wanted (j := 22) (s := 104) rfl rfl rfl e104 rfl ?_
                have e10 : A.tmps[10]?.getD undef = .int .i64 (k : Int) := H.old 10 (by kernel_rfl)
                go_simp
                exact hK _ _ (Below.refl _ _) rfl (H.glob)
              case o30 =>
                intro L vs A W H hf hd K hK
                have e104 := H.is 22 104 rfl rfl rfl (deps_of' hd 22 (by kernel_rfl)) (by kernel_rfl)
                refine if_wanted (j := 22) (s := 104) rfl rfl rfl e104 rfl ?_
                have e109 := H.is 27 109 rfl rfl rfl (deps_of' hd 27 (by kernel_rfl)) (by kernel_rfl)
                have e110 := H.is 28 110 rfl rfl rfl (deps_of' hd 28 (by kernel_rfl)) (by kernel_rfl)
                have e111 := H.is 29 111 rfl rfl rfl (deps_of' hd 29 (by kernel_rfl)) (by kernel_rfl)
                go_simp
                refine (HIm.out _ H.glob).mono ?_
                rintro e W2 ⟨v, rfl, ho, hB⟩
                go_simp
                exact hK _ _ hB (own_mono ho H.glob.size) (H.glob.trans (hB.mono H.glob.size))
              case o31 =>
                intro L vs A W H hf hd K hK
                have e104 := H.is 22 104 rfl rfl rfl (deps_of' hd 22 (by kernel_rfl)) (by kernel_rfl)
                refine if_wanted (j := 22) (s := 104) rfl rfl rfl e104 rfl ?_
                obtain ⟨v112, e112, q112⟩ := H.val 30 112 rfl rfl rfl (deps_of' hd 30 (by kernel_rfl)) (by kernel_rfl)
                have hcv := conv_rowM q112
                rw [HBt.out] at hcv
                obtain ⟨p9, n9, c9, rfl⟩ := own_slice q112
                go_simp
                exact hK _ _ (Below.refl _ _) rfl H.glob
              case o32 =>
                intro L vs A W H hf hd K hK
                have e104 := H.is 22 104 rfl rfl rfl (deps_of' hd 22 (by kernel_rfl)) (by kernel_rfl)
                refine if_wanted (j := 22) (s := 104) rfl rfl rfl e104 rfl ?_
                have e107 := H.is 25 107 rfl rfl rfl (deps_of' hd 25 (by kernel_rfl)) (by kernel_rfl)
                have e113 := H.is 31 113 rfl rfl rfl (deps_of' hd 31 (by kernel_rfl)) (by kernel_rfl)
                go_simp
                exact hK _ _ (Below.refl _ _) rfl (H.glob)
              case o33 =>
                intro L vs A W H hf hd K hK
                have e104 := H.is 22 104 rfl rfl rfl (deps_of' hd 22 (by kernel_rfl)) (by kernel_rfl)
                have e114 := H.is 32 114 rfl rfl rfl (deps_of' hd 32 (by kernel_rfl)) (by kernel_rfl)
                go_simp
                exact hK _ _ (Below.refl _ _) rfl (H.glob)
              case o34 =>
                intro L vs A W H hf hd K hK
                have e115 := H.is 33 115 rfl rfl rfl (deps_of' hd 33 (by kernel_rfl)) (by kernel_rfl)
                go_simp
                exact hK _ _ (Below.refl _ _) rfl (H.glob)
              case o35 =>
                intro L vs A W H hf hd K hK
                have e116 := H.is 34 116 rfl rfl rfl (deps_of' hd 34 (by kernel_rfl)) (by kernel_rfl)
                refine if_wanted (j := 34) (s := 116) rfl rfl rfl e116 rfl ?_
                go_simp
                refine (known_v _).mono ?_
                rintro e W2 ⟨rfl, hB⟩
                go_simp
                exact hK _ _ hB rfl (H.glob.trans (hB.mono H.glob.size))
              case o36 =>
                intro L vs A W H hf hd K hK
                have e116 := H.is 34 116 rfl rfl rfl (deps_of' hd 34 (by kernel_rfl)) (by kernel_rfl)
                have e117 := H.is 35 117 rfl rfl rfl (deps_of' hd 35 (by kernel_rfl)) (by kernel_rfl)
                go_simp
                exact hK _ _ (Below.refl _ _) rfl (H.glob)
              case o37 =>
                intro L vs A W H hf hd K hK
                have e118 := H.is 36 118 rfl rfl rfl (deps_of' hd 36 (by kernel_rfl)) (by kernel_rfl)
                go_simp
                exact hK _ _ (Below.refl _ _) rfl (H.glob)
              case he =>
                intro vs W hlen hv
                match vs, hlen, hv with
                | x0_ :: x1_ :: x2_ :: x3_ :: x4_ :: x5_ :: x6_ :: x7_ :: x8_ :: x9_ :: x10_ :: x11_ :: x12_ :: x13_ :: x14_ :: x15_ :: x16_ :: x17_ :: x18_ :: x19_ :: x20_ :: x21_ :: x22_ :: x23_ :: x24_ :: x25_ :: x26_ :: x27_ :: x28_ :: x29_ :: x30_ :: x31_ :: x32_ :: x33_ :: x34_ :: x35_ :: x36_ :: x37_ :: [], _, hv =>
                obtain rfl : (.bool true) = x0_ := by obtain ⟨z, h1, h2⟩ := hv 0 _ rfl; cases h1; exact h2.symm
                obtain rfl : (.bool true) = x1_ := by obtain ⟨z, h1, h2⟩ := hv 1 _ rfl; cases h1; exact h2.symm
                obtain rfl : (.int .i64 3) = x2_ := by obtain ⟨z, h1, h2⟩ := hv 2 _ rfl; cases h1; exact h2.symm
                obtain rfl : (.bool true) = x3_ := by obtain ⟨z, h1, h2⟩ := hv 3 _ rfl; cases h1; exact h2.symm
                obtain rfl : (.bool true) = x4_ := by obtain ⟨z, h1, h2⟩ := hv 4 _ rfl; cases h1; exact h2.symm
                obtain rfl : (.bool true) = x5_ := by obtain ⟨z, h1, h2⟩ := hv 5 _ rfl; cases h1; exact h2.symm
                obtain rfl : (.bool true) = x6_ := by obtain ⟨z, h1, h2⟩ := hv 6 _ rfl; cases h1; exact h2.symm
                obtain rfl : (.bool true) = x7_ := by obtain ⟨z, h1, h2⟩ := hv 7 _ rfl; cases h1; exact h2.symm
                obtain rfl : (.bool true) = x8_ := by obtain ⟨z, h1, h2⟩ := hv 8 _ rfl; cases h1; exact h2.symm
                obtain rfl : (.int .i64 3) = x9_ := by obtain ⟨z, h1, h2⟩ := hv 9 _ rfl; cases h1; exact h2.symm
                obtain rfl : (.int .i64 3) = x10_ := by obtain ⟨z, h1, h2⟩ := hv 10 _ rfl; cases h1; exact h2.symm
                obtain rfl : (.bool true) = x11_ := by obtain ⟨z, h1, h2⟩ := hv 11 _ rfl; cases h1; exact h2.symm
                obtain rfl : (.bool true) = x12_ := by obtain ⟨z, h1, h2⟩ := hv 12 _ rfl; cases h1; exact h2.symm
                obtain rfl : (.bool true) = x13_ := by obtain ⟨z, h1, h2⟩ := hv 13 _ rfl; cases h1; exact h2.symm
                obtain rfl : (.pointer (some ⟨rb, 0, none⟩)) = x14_ := by obtain ⟨z, h1, h2⟩ := hv 14 _ rfl; cases h1; exact h2.symm
                obtain rfl : (.int .i64 ((n1 : Int) - (k : Int))) = x15_ := by obtain ⟨z, h1, h2⟩ := hv 15 _ rfl; cases h1; exact h2.symm
                obtain rfl : (.slice (some ⟨g1, 0, none⟩) n1 c1) = x16_ := by obtain ⟨z, h1, h2⟩ := hv 16 _ rfl; cases h1; exact h2.symm
                obtain rfl : (.int .i64 (n1 : Int)) = x17_ := by obtain ⟨z, h1, h2⟩ := hv 17 _ rfl; cases h1; exact h2.symm
                obtain rfl : (.int .i64 (k : Int)) = x18_ := by obtain ⟨z, h1, h2⟩ := hv 18 _ rfl; cases h1; exact h2.symm
                obtain rfl : (.int .i64 ((n1 : Int) - (k : Int))) = x19_ := by obtain ⟨z, h1, h2⟩ := hv 19 _ rfl; cases h1; exact h2.symm
                obtain rfl : (.bool true) = x20_ := by obtain ⟨z, h1, h2⟩ := hv 20 _ rfl; cases h1; exact h2.symm
                obtain rfl : (.bool true) = x21_ := by obtain ⟨z, h1, h2⟩ := hv 21 _ rfl; cases h1; exact h2.symm
                obtain rfl : (.bool true) = x22_ := by obtain ⟨z, h1, h2⟩ := hv 22 _ rfl; cases h1; exact h2.symm
                obtain rfl : (.pointer (some ⟨mb, 0, none⟩)) = x23_ := by obtain ⟨z, h1, h2⟩ := hv 23 _ rfl; cases h1; exact h2.symm
                have hx24 : (fun v W => W.ownsRow w8.heap.size 5 1 v M0.length (bvals M0)) x24_ W := by obtain ⟨z, h1, h2⟩ := hv 24 _ rfl; cases h1; exact h2
                obtain rfl : (.string Bt) = x25_ := by obtain ⟨z, h1, h2⟩ := hv 25 _ rfl; cases h1; exact h2.symm
                obtain rfl : (.int .i64 n) = x26_ := by obtain ⟨z, h1, h2⟩ := hv 26 _ rfl; cases h1; exact h2.symm
                obtain rfl : (.int .i64 ((8 * N : Nat) : Int)) = x27_ := by obtain ⟨z, h1, h2⟩ := hv 27 _ rfl; cases h1; exact h2.symm
                obtain rfl : (.slice (some ⟨g1, 0, none⟩) n1 c1) = x28_ := by obtain ⟨z, h1, h2⟩ := hv 28 _ rfl; cases h1; exact h2.symm
                obtain rfl : (.int .i64 (k : Int)) = x29_ := by obtain ⟨z, h1, h2⟩ := hv 29 _ rfl; cases h1; exact h2.symm
                have hx30 : (fun v W => W.ownsRow w8.heap.size 5 1 v M0.length (bvals M0)) x30_ W := by obtain ⟨z, h1, h2⟩ := hv 30 _ rfl; cases h1; exact h2
                obtain rfl : (.string Bt) = x31_ := by obtain ⟨z, h1, h2⟩ := hv 31 _ rfl; cases h1; exact h2.symm
                obtain rfl : (.bool true) = x32_ := by obtain ⟨z, h1, h2⟩ := hv 32 _ rfl; cases h1; exact h2.symm
                obtain rfl : (.bool true) = x33_ := by obtain ⟨z, h1, h2⟩ := hv 33 _ rfl; cases h1; exact h2.symm
                obtain rfl : (.bool true) = x34_ := by obtain ⟨z, h1, h2⟩ := hv 34 _ rfl; cases h1; exact h2.symm
                obtain rfl : (.bool true) = x35_ := by obtain ⟨z, h1, h2⟩ := hv 35 _ rfl; cases h1; exact h2.symm
                obtain rfl : (.bool true) = x36_ := by obtain ⟨z, h1, h2⟩ := hv 36 _ rfl; cases h1; exact h2.symm
                obtain rfl : (.bool true) = x37_ := by obtain ⟨z, h1, h2⟩ := hv 37 _ rfl; cases h1; exact h2.symm
                intro L hall hG
                clear hv hlen
                have HG := Lib.hid hG
                clear hG hall hx24 hx30
                simp only [fill, if_true]
                simp [Act.put]
                go_wp2_with (fail)
                go_ret
                exact ⟨rfl, HBr8.out.trans (HG.out.mono HBr8.out.size)⟩
              --END
            · obtain ⟨S6, _, _, hst⟩ := hO.stepK HLo2.out hkK (by rw [hl2]; exact Nat.le_of_lt HKl.out) (fun h => hstop ⟨h.2.1, h.2.2.1⟩) HBd2.out (by omega) (by rw [hl2]; have := HLm.out; omega) (by have := HKl.out; have := HLm.out; omega) (by have := HLm.out; omega) (by have := HLm.out; omega)
              have HSt := Lib.hid (hst wr (Below.refl _ _))
              have HSp := Lib.hid (fun k' ph' ov' st' fl' fe' (h : StepT l2 k ph false k fl fe k' ph' ov' st' fl' fe') => And.intro (whr_step (l := l2) hfl hfe hmu (fun _ => .inl (by have := HKl.out; omega)) (by have := HKl.out; omega) h) (show k' ≤ K from by
                rcases h.inv with ⟨h, _⟩ | ⟨_, _, _, rfl, _⟩ | ⟨_, hp, hk, rfl, _⟩ | ⟨_, _, _, rfl, _⟩ | ⟨_, _, rfl, _⟩
                · cases h
                · exact hkK
                · have : k ≠ K := fun e => hstop ⟨hp, e⟩
                  omega
                · exact hkK
                · exact hkK))
              clear hO hfl hfe hmu hkK hl2 hmu0 hi3 hstop hst
              have hn60 : (n1 : Int) ≤ 60 := by have := HLm.out; omega
              go_wp2_with (fail)
              refine HSt.out.mono ?_
              rintro e w6 ⟨⟨k', ph', ov', st', fl', fe', rfl, ht, hO⟩, _⟩
              obtain ⟨⟨rfl, hk', hff, hcase⟩, hkK⟩ := HSp.out _ _ _ _ _ _ ht
              rcases hcase with ⟨rfl, q1, q2, q3, q4, q5⟩ | ⟨rfl, rfl, rfl⟩
              · have HQ := Lib.hid (And.intro hO (And.intro q1 (And.intro q2 (And.intro q3 hkK))))
                clear ht hO hk' q1 q2 q3 q4 q5 hff hkK
                go_wp2_with (fail)
                refine ⟨⟨i + 1, by go_num, _, _, _, _, HQ.out.1, HQ.out.2.1, HQ.out.2.2.1, HQ.out.2.2.2.1, HQ.out.2.2.2.2⟩, ?_⟩
                have := HI3.out
                simp [intOf]
                omega
              · exact absurd hkK (by have := HL2.out; have := HKl.out; omega)
end Go.Proofs.Ytefgahcadfmmoaa
