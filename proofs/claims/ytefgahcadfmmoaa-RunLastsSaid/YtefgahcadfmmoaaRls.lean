/-
  The law RunLasts.
-/
import Derived.Test.YtefgahcadfmmoaaRtw
import Derived.Test.YtefgahcadfmmoaaRcy
namespace Go.Proofs.Ytefgahcadfmmoaa
open Go.RowKit
attribute [local go_sem] Oper.semAt_some
set_option linter.unusedVariables false

section
variable {S0 : Nat → Prop} {W w : World} {rb mb N : Nat} {l : List (Int × Int)} {c k ph : Nat} {ov : Bool} {lo st fl fe : Int}
theorem OneK.evict (h : OneK S0 W w rb mb N l c k ph ov lo st fl fe) (hl : LOk AllL N l) (hN8 : N % 8 = 0) (hst : st ≤ 1000000) (x nn : Int) (hx : -9223372036854775808 ≤ x ∧ x ≤ 9223372036854775807) (hnn : nn ≤ 9223372036854775807) :
    Calls Try.prog 22 #[.pointer (some ⟨mb, 0, none⟩), .agg #[.int .i64 x, .int .i64 nn]] w fun e w' => e = .returned (.tuple #[]) ∧ OneK S0 W w' rb mb N l c k ph ov lo st fl fe := by
  obtain ⟨⟨S, j, M, hR, hM, hI, e1, e2, e3, e4, hS⟩, hB⟩ := h
  have hok : LnOk M.F N := by
    obtain ⟨N0, vv, vi, ml, D, sl, hm, hN, hS, hp, hl, hi, hok, r⟩ := id hM
    rw [hI.lv] at hok
    exact hok
  refine (levict_v hM (by rw [hI.lv]; exact hN8) x nn hx hnn (by omega)).mono ?_
  rintro e w' ⟨rfl, S', M', hor, hM', hsub, hk⟩
  have hR' : RnO w' rb mb S' l c k ph ov := hR.kept2 hk (fun g hp he hg hs2 ht => hs2 ht) hR.rb_lt.2 (fun i hi h => by
    rcases hsub i h with h | h
    · exact h
    · omega)
  have hcn : (∃ j, RI AllL N l c k ph j M') ∧ M'.lo = lo ∧ M'.st = st ∧ M'.fl = fl ∧ M'.fe = fe := by
    rcases hor with rfl | ⟨a, q, hE⟩
    · exact ⟨⟨j, hI⟩, e1, e2, e3, e4⟩
    · obtain ⟨j', h1, _⟩ := hI.evict hl hok hE
      obtain ⟨mk', hmk⟩ := hE
      exact ⟨⟨j', h1⟩, e1, e2, e3, e4⟩
  obtain ⟨⟨j', h1⟩, d1, d2, d3, d4⟩ := hcn
  refine ⟨rfl, ⟨⟨S', j', M', hR', hM', h1, d1, d2, d3, d4, fun i hi => ?_⟩, hB.trans' hk (fun i hi h => ?_)⟩⟩
  · rcases hsub i hi with h | h
    · exact hS i h
    · exact .inr (Nat.le_trans hB.size h)
  · rcases hS i h with h | h
    · exact .inr h
    · omega
/-- what a copy of it, crashed, shows -/
theorem OneK.copy (h : OneK S0 W w rb mb N l c k ph ov lo st fl fe) (hst : st ≤ 1000000) (hov : ov = true → ph = 0 ∧ k = l.length) :
    Calls Try.prog 26 #[.pointer (some ⟨mb, 0, none⟩)] w fun e w' => ∃ (cb : Nat) (mk' : Int → Nat → Int) (M : MSt) (j : Nat), e = .returned (.pointer (some ⟨cb, 0, none⟩)) ∧ MemK w' w.heap.size cb { M with mk := mk' } ∧ RI AllL N l c k ph j M ∧ M.st = st ∧ (ov = true → j = k) ∧ Below w.heap.size w w' := by
  obtain ⟨⟨S, j, M, hR, hM, hI, e1, e2, e3, e4, hS⟩, hB⟩ := h
  refine (copy_m hM (by omega)).mono ?_
  rintro e w' ⟨cb, mk', rfl, hK, hB'⟩
  exact ⟨cb, mk', M, j, rfl, hK, hI, e2, fun h => by
    obtain ⟨q1, q2⟩ := hov h
    exact hI.p0 q1 (.inl (.inl q2)), hB'⟩
end
theorem lasts_step {l : List (Int × Int)} {i k ph : Nat} {ov : Bool} {fl fe : Int} (hfl : fl ≤ i) (hfe : fe ≤ i) (hov : ov = false) (hkl : k ≤ l.length) {k' ph' : Nat} {ov' : Bool} {st' fl' fe' : Int} (h : StepT l k ph ov k fl fe k' ph' ov' st' fl' fe') :
    st' = k' ∧ k' ≤ l.length ∧ fl' ≤ ((i + 1 : Nat) : Int) ∧ fe' ≤ ((i + 1 : Nat) : Int) ∧ (ov' = true → ph' = 0 ∧ k' = l.length) := by
  rcases h.inv with ⟨h, _⟩ | ⟨_, _, rfl, rfl, rfl, rfl, rfl, rfl, rfl⟩ | ⟨_, _, hk, rfl, _, rfl, rfl, rfl, rfl⟩ | ⟨_, _, _, rfl, rfl, rfl, rfl, rfl, rfl⟩ | ⟨_, _, rfl, rfl, h4, rfl, rfl, rfl⟩
  · rw [hov] at h; cases h
  · exact ⟨rfl, hkl, by omega, by omega, fun _ => ⟨rfl, rfl⟩⟩
  · exact ⟨by omega, hk, by omega, by omega, fun h => by cases h⟩
  · exact ⟨rfl, hkl, by omega, by omega, fun h => by cases h⟩
  · exact ⟨rfl, hkl, by omega, by omega, fun h => ⟨rfl, by rw [h] at h4; simpa using h4.symm⟩⟩
set_option maxRecDepth 100000 in
set_option maxHeartbeats 40000000 in
theorem rlasts_v (n sp : Int) (a ea ke : Option Addr) (l : List (Int × Int)) (ne : Nat) (fe : Nat → Int × Int) (ks : List Int) (ca ce ck : Nat) (w : World) (hr : -9223372036854775808 ≤ n ∧ n ≤ 9223372036854775807) (hsp : -9223372036854775808 ≤ sp ∧ sp ≤ 9223372036854775807)
    (hla : l.length ≤ 9223372036854775807) (hle : ne ≤ 9223372036854775807) (hlk : ks.length ≤ 9223372036854775807)
    (hpa : PutsAt w a l) (hba : ∀ i, i < l.length → (0 ≤ eK l i ∧ eK l i ≤ 18446744073709551615) ∧ 0 ≤ eP l i ∧ eP l i ≤ 18446744073709551615)
    (he : EarlyAt w ea ne fe) (heb : ∀ i, i < ne → (-9223372036854775808 ≤ (fe i).1 ∧ (fe i).1 ≤ 9223372036854775807) ∧ (fe i).2 ≤ 9223372036854775807)
    (hkeep : 0 < ks.length → ∃ g o, ke = some ⟨g, o, none⟩ ∧ g < w.heap.size ∧ ∀ i, i < ks.length → w.cell? ⟨g, o + i, none⟩ = some (.int .i64 (ks.getD i 0))) (hk64 : ∀ x ∈ ks, -9223372036854775808 ≤ x ∧ x ≤ 9223372036854775807) :
    Calls Try.prog 8 #[.int .i64 n, .slice a l.length ca, .int .i64 sp, .slice ea ne ce, .slice ke ks.length ck] w (TrueQ w) := by
  have HM := Lib.hid (memory_v n w hr)
  have HPa := Lib.hid (And.intro hpa hba)
  have HEa := Lib.hid (And.intro he heb)
  have HKe := Lib.hid (And.intro hkeep hk64)
  obtain ⟨na, hna⟩ : ∃ na, l.length = na := ⟨_, rfl⟩
  obtain ⟨nk, hnk⟩ : ∃ nk, ks.length = nk := ⟨_, rfl⟩
  have HLn := Lib.hid (And.intro hna hnk)
  rw [hna] at hla
  rw [hnk] at hlk
  rw [hna, hnk]
  clear hpa hba he heb hkeep hk64 hna hnk
  go_enter Try.func8, Try.ntmps8
  go_wp2_with (fail)
  refine HM.out.mono ?_
  rintro e w1 (⟨hn, rfl, rfl⟩ | ⟨N, mb, S, h1, h2, hNn, rfl, hm, hS, hB1⟩)
  · have HK := Lib.hid (known_v w)
    have HB0 := Lib.hid (Below.refl w.heap.size w)
    go_wp2_with (fail)
    refine HK.out.mono ?_
    rintro e w9 ⟨rfl, hB9⟩
    have HB9 := Lib.hid (HB0.out.trans (hB9.mono HB0.out.size))
    clear hB9
    go_wp2_with (fail)
    go_ret
    exact ⟨rfl, HB9.out⟩
  · have HMm := Lib.hid hm
    have HS := Lib.hid hS
    have HB1 := Lib.hid hB1
    have HNn := Lib.hid (And.intro hNn (And.intro h1 h2))
    have HK := Lib.hid (known_v w1)
    clear hm hS hB1 hNn
    by_cases hq1 : 60 < na
    · have hb : (60 : Int) < (na : Int) := by omega
      clear hq1
      go_wp2_with (fail)
      refine HK.out.mono ?_
      rintro e w9 ⟨rfl, hB9⟩
      have HB9 := Lib.hid (HB1.out.trans (hB9.mono HB1.out.size))
      clear hB9
      go_wp2_with (fail)
      go_ret
      exact ⟨rfl, HB9.out⟩
    have hd1 : (na : Int) ≤ 60 := by omega
    by_cases hq4 : 20 < nk
    · have hb : (20 : Int) < (nk : Int) := by omega
      clear hq4 hq1
      go_wp2_with (fail)
      refine HK.out.mono ?_
      rintro e w9 ⟨rfl, hB9⟩
      have HB9 := Lib.hid (HB1.out.trans (hB9.mono HB1.out.size))
      clear hB9
      go_wp2_with (fail)
      go_ret
      exact ⟨rfl, HB9.out⟩
    have hd4 : (nk : Int) ≤ 20 := by omega
    have HLm := Lib.hid (show na ≤ 60 ∧ nk ≤ 20 ∧ 0 < N ∧ N ≤ 128 ∧ N % 8 = 0 from by have := HNn.out; omega)
    obtain ⟨sz, hsz⟩ : ∃ sz : Int, ((8 * N : Nat) : Int) = sz := ⟨_, rfl⟩
    have HSzE := Lib.hid hsz
    have HNe := Lib.hid (show 64 * n = sz from by have := HNn.out; omega)
    have HWs := Lib.hid (show IntKind.i64.wrap (64 * n) = sz from by have := HNn.out; rw [IntWalk.i64_in _ (by omega)]; omega)
    clear hsz
    have HWa := Lib.hid (within_v N (by have := HLm.out; omega) a l ca w1 (HPa.out.1.below HB1.out) (by have := HLn.out; omega) (fun i hi => (HPa.out.2 i hi).1))
    rw [HLn.out.1, HSzE.out] at HWa
    obtain ⟨l1, hl1⟩ : ∃ l', withinL N l = l' := ⟨_, rfl⟩
    have HL1 := Lib.hid (show LOk AllL N l1 ∧ l1.length = na from ⟨by rw [← hl1]; exact withinL_ok N (by have := HLm.out; omega) l (fun i hi => ⟨(HPa.out.2 i hi).1.1, (HPa.out.2 i hi).2⟩), by rw [← hl1, withinL_len]; exact HLn.out.1⟩)
    rw [hl1] at HWa
    obtain ⟨u, hu⟩ : ∃ u, IntKind.u64.wrap sp = u := ⟨_, rfl⟩
    have hub : 0 ≤ u ∧ u ≤ 18446744073709551615 := by rw [← hu]; exact u64_rng sp
    obtain ⟨T, hTe⟩ : ∃ T : Nat, u % (3 * (na : Int) + 2) = (T : Int) := ⟨(u % (3 * (na : Int) + 2)).toNat, by have := Int.emod_nonneg u (show 3 * (na : Int) + 2 ≠ 0 by omega); omega⟩
    have hT1 : (T : Int) < 3 * (na : Int) + 2 := by have := Int.emod_lt_of_pos u (show (0 : Int) < 3 * (na : Int) + 2 by omega); omega
    have HUK := Lib.hid (show IntKind.u64.wrap sp = u ∧ IntKind.u64.wrap (3 * (na : Int) + 2) = 3 * (na : Int) + 2 ∧ u.tmod (3 * (na : Int) + 2) = (T : Int) ∧ IntKind.i64.wrap (T : Int) = (T : Int) from ⟨hu, IntWalk.u64_in _ (by omega), by rw [Int.tmod_eq_emod_of_nonneg hub.1]; exact hTe, IntWalk.i64_in _ (by omega)⟩)
    have HTb := Lib.hid (show T ≤ 181 from by omega)
    clear hq1 hq4 hla hlk hr hsp HK hl1 hu hub hTe
    go_wp2_with (fail)
    rw [HNe.out]
    refine HWa.out.mono ?_
    rintro e w2 ⟨va, rfl, hra, hB2⟩
    obtain ⟨a1, ma, c1, rfl⟩ := own_slice hra
    obtain rfl : na = ma := by have : ma = l1.length := own_len hra; have := HL1.out.2; omega
    have HB2 := Lib.hid (HB1.out.trans (hB2.mono HB1.out.size))
    have HPt2 := Lib.hid (putsAt_row hra)
    have HA1 := Lib.hid (show ∀ g o, a1 = some ⟨g, o, none⟩ → w1.heap.size ≤ g ∧ g < w2.heap.size from fun g o e => by
      have h := hra
      unfold RowB at h
      subst e
      exact ⟨own_base h g rfl, own_ltS h rfl⟩)
    have HNw := Lib.hid (OneK.new (l := l1) (w1 := w2) (by have := HLm.out; omega) (HMm.out.below hB2) 3 (by have := HL1.out; have := HLm.out; omega) (by have := own_mono hra (Nat.zero_le _); exact this))
    clear hra hB2
    go_wp2_with (fail)
    refine HNw.out.mono ?_
    rintro e w3 ⟨rb, rfl, hrb, hB3, hnew⟩
    have HO3 := Lib.hid (hnew NoB w3 (Keeps.refl _ _) (fun i h => h.elim))
    have HBw3 := Lib.hid (HB2.out.trans (hB3.mono HB2.out.size))
    have HPt3 := Lib.hid (HPt2.out.below hB3)
    have HPn := Lib.hid (show ∀ g o, a1 = some ⟨g, o, none⟩ → ¬ (g = rb ∨ S g) from fun g o e h => by
      have h1 := HA1.out g o e
      rcases h with h | h
      · omega
      · have := HMm.out.lt h; omega)
    have HSb := Lib.hid (show ∀ i, (i = rb ∨ S i) → w.heap.size ≤ i from fun i h => by
      rcases h with h | h
      · have := HB2.out.size; omega
      · exact HS.out i h)
    have HKw := Lib.hid (show ∀ wr, Keeps (fun i => i = rb ∨ S i) w3 wr → ∀ p : Addr, p.block < w.heap.size → wr.cell? p = w.cell? p from fun wr hk p hp => by
      rw [hk.cell (p := p) (Nat.lt_of_lt_of_le hp HBw3.out.size) (fun h => by have := HSb.out _ h; omega)]
      exact HBw3.out.cell hp)
    clear hrb hB3 hnew HNw HPt2
    go_wp2_with (fail)
    obtain ⟨hq1u, hq2u, hq3u, hq4u⟩ := HUK.out
    go_loopw [13, 14] (fun ovv iv wr => ∃ (i k ph : Nat) (ov : Bool) (fl fz : Int), i ≤ T ∧ iv = .int .i64 i ∧ ovv = .bool ov ∧ OneK S w3 wr rb mb N l1 3 k ph ov 0 k fl fz ∧ fl ≤ i ∧ fz ≤ i ∧ k ≤ na ∧ (ov = true → ph = 0 ∧ k = na)) (fun _ iv _ => T - (intOf iv).toNat)
    case atStart => exact ⟨0, 0, 0, false, 0, 0, by omega, rfl, rfl, HO3.out, by omega, by omega, by omega, fun h => by cases h⟩
    case round =>
      obtain ⟨i, k, ph, ov, fl, fz, hi, rfl, rfl, hO, hfl, hfz, hkn, hov⟩ := hrel
      have HFl := Lib.hid (And.intro hfl (And.intro hfz (And.intro hkn hov)))
      clear hfl hfz hkn hov
      by_cases hgo : i < T ∧ ov = false
      · obtain ⟨hlt, rfl⟩ := hgo
        have hib : (i : Int) < (T : Int) := by omega
        have HLt := Lib.hid hlt
        clear hlt hi
        by_cases hne : ne = 0
        · have hnb0 : ¬ (0 : Int) < (ne : Int) := by omega
          clear hne
          obtain ⟨S9, _, _, hst9⟩ := hO.step HL1.out.1 (by omega) (by have := HL1.out.2; have := HLm.out; omega) (by have := HLm.out; have := HFl.out; omega) (by have := HTb.out; have := HLt.out; have := HFl.out; omega) (by have := HTb.out; have := HLt.out; have := HFl.out; omega)
          have HSp := Lib.hid (hst9 wr (Below.refl _ _))
          have HLs := Lib.hid (fun k' ph' ov' st' fl' fe' (h : StepT l1 k ph false k fl fz k' ph' ov' st' fl' fe') => lasts_step HFl.out.1 HFl.out.2.1 rfl (by have := HL1.out.2; have := HFl.out; omega) h)
          clear hO hst9
          go_wp2_with (fail)
          refine HSp.out.mono ?_
          rintro e w9 ⟨⟨k', ph', ov', st', fl', fe', rfl, ht, hO9⟩, _⟩
          obtain ⟨rfl, q1, q2, q3, q4⟩ := HLs.out _ _ _ _ _ _ ht
          rw [HL1.out.2] at q1 q4
          have HQ := Lib.hid (And.intro hO9 (And.intro q1 (And.intro q2 (And.intro q3 q4))))
          clear ht hO9 q1 q2 q3 q4
          go_wp2_with (fail)
          go_roundw
          case rel => exact ⟨i + 1, _, _, _, _, _, HLt.out, by go_num, rfl, HQ.out.1, HQ.out.2.2.1, HQ.out.2.2.2.1, HQ.out.2.1, HQ.out.2.2.2.2⟩
          case measure => have := HLt.out; simp [intOf]; omega
        · have hnb0 : (0 : Int) < (ne : Int) := by omega
          obtain ⟨ge, oe, rfl, hge, hec⟩ := HEa.out.1 (by omega)
          obtain ⟨q, hq⟩ : ∃ q : Nat, (i : Int).tmod (ne : Int) = (q : Int) := ⟨((i : Int).tmod (ne : Int)).toNat, by have := Int.tmod_nonneg (ne : Int) (show (0 : Int) ≤ (i : Int) by omega); omega⟩
          have hqn : q < ne := by have := Int.tmod_lt_of_pos (i : Int) hnb0; omega
          obtain ⟨ex, hex⟩ : ∃ ex, (fe q).1 = ex := ⟨_, rfl⟩
          obtain ⟨en, hen⟩ : ∃ en, (fe q).2 = en := ⟨_, rfl⟩
          have hc := hec q hqn
          have heb := HEa.out.2 q hqn
          rw [hex, hen] at hc heb
          have e0 : wr.cell? ⟨ge, oe + q * 2, none⟩ = some (.int .i64 ex) := (HKw.out wr hO.b _ hge).trans hc.1
          have e1 : wr.cell? ⟨ge, oe + q * 2 + 1, none⟩ = some (.int .i64 en) := (HKw.out wr hO.b _ hge).trans hc.2
          have hnz : ¬ (ne : Int) = 0 := by omega
          have hqb : (q : Int) < (ne : Int) := by omega
          have HEv := Lib.hid (hO.evict HL1.out.1 HLm.out.2.2.2.2 (by have := HLm.out; have := HFl.out; omega) ex en heb.1 heb.2)
          clear hne hec hqn hex hen hc heb hge hO
          go_wp2_with (fail)
          refine HEv.out.mono ?_
          rintro e w8 ⟨rfl, hO⟩
          clear e0 e1 hq hnz hqb
          obtain ⟨S9, _, _, hst9⟩ := hO.step HL1.out.1 (by omega) (by have := HL1.out.2; have := HLm.out; omega) (by have := HLm.out; have := HFl.out; omega) (by have := HTb.out; have := HLt.out; have := HFl.out; omega) (by have := HTb.out; have := HLt.out; have := HFl.out; omega)
          have HSp := Lib.hid (hst9 w8 (Below.refl _ _))
          have HLs := Lib.hid (fun k' ph' ov' st' fl' fe' (h : StepT l1 k ph false k fl fz k' ph' ov' st' fl' fe') => lasts_step HFl.out.1 HFl.out.2.1 rfl (by have := HL1.out.2; have := HFl.out; omega) h)
          clear hO hst9
          go_wp2_with (fail)
          refine HSp.out.mono ?_
          rintro e w9 ⟨⟨k', ph', ov', st', fl', fe', rfl, ht, hO9⟩, _⟩
          obtain ⟨rfl, q1, q2, q3, q4⟩ := HLs.out _ _ _ _ _ _ ht
          rw [HL1.out.2] at q1 q4
          have HQ := Lib.hid (And.intro hO9 (And.intro q1 (And.intro q2 (And.intro q3 q4))))
          clear ht hO9 q1 q2 q3 q4
          go_wp2_with (fail)
          go_roundw
          case rel => exact ⟨i + 1, _, _, _, _, _, HLt.out, by go_num, rfl, HQ.out.1, HQ.out.2.2.1, HQ.out.2.2.2.1, HQ.out.2.1, HQ.out.2.2.2.2⟩
          case measure => have := HLt.out; simp [intOf]; omega
      · have hcond : (decide ((i : Int) < (T : Int)) && !ov) = false := by
          cases ov with
          | true => simp
          | false => simp; have : ¬ i < T := fun h => hgo ⟨h, rfl⟩; omega
        have hov := HFl.out.2.2.2
        have hkn := HFl.out.2.2.1
        have HSt := Lib.hid hO.stats.2
        obtain ⟨ovb, hovb⟩ : ∃ b, ov = b := ⟨_, rfl⟩
        have hkb : (k : Int) ≤ (na : Int) := by omega
        have hf1 : ∀ a b c d : Int, ∀ w : World, (Instr.field 37 (.agg #[.int .u64 a, .int .u64 b, .int .u64 c, .int .u64 d]) 1).run Try.prog w = .ok (.int .u64 b) w := fun a b c d _ => by kernel_rfl
        have HO := Lib.hid hO
        have HOv := Lib.hid hov
        clear hO hov hkn hi hovb
        by_cases hiT : (i : Int) < (T : Int)
        · have hovt : ov = true := by cases ov with | true => rfl | false => exact absurd ⟨by omega, rfl⟩ hgo
          subst hovt
          clear hgo hcond
          go_wp2_with (fail)
          refine HSt.out.mono ?_
          rintro e w5 ⟨rfl, hB5⟩
          unfold statCells
          have HCp := Lib.hid ((HO.out.mono hB5).copy (by have := HLm.out; have := HFl.out; omega) (fun h => by rw [HL1.out.2]; exact HOv.out (by first | trivial | exact h)))
          have HB5 := Lib.hid hB5
          clear hB5
          go_wp2_with (fail)
          refine HCp.out.mono ?_
          rintro e w6 ⟨cb, mk', M, j0, rfl, hMK, hRI, hMst, hjk, hB6⟩
          have hB36 := HB5.out.trans (hB6.mono HB5.out.size)
          have HBr5 := Lib.hid ((HBw3.out.keeps (Nat.le_refl _) HO.out.b (fun i hi => HSb.out i hi)).trans (HB5.out.mono (by have := HBw3.out.size; have := HO.out.b.size; omega)))
          have HPt5 := Lib.hid ((HPt3.out.keptS HO.out.b (fun g o e => HPn.out g o e)).below HB5.out)
          have hMvl : M.vs.length = N := hRI.lv
          have hcr := copy_crash hMK hB6.size (by show M.vs.length ≤ 1000; have := HLm.out; omega) (by show M.st ≤ 1000000; have := HLm.out; have := HFl.out; omega) ke ck ks (by have := HLn.out; have := HLm.out; omega) HKe.out.2 (fun hp => by
            obtain ⟨g, o, e, hg, hc⟩ := HKe.out.1 hp
            refine ⟨g, o, e, Nat.lt_of_lt_of_le hg HBr5.out.size, fun j hj => ?_⟩
            rw [hB6.cell (p := ⟨g, o + j, none⟩) (Nat.lt_of_lt_of_le hg HBr5.out.size), HBr5.out.cell (p := ⟨g, o + j, none⟩) hg]
            exact hc j hj)
          rw [HLn.out.2] at hcr
          have HCr := Lib.hid hcr
          have HRI := Lib.hid (And.intro hRI hjk)
          have HB6 := Lib.hid hB6
          clear hMK hRI hjk hMst hB6 hB36 hMvl hcr
          go_wp2_with (fail)
          refine HCr.out.mono ?_
          rintro e w7 ⟨rfl, isF, Q, hlen, himg, hB7, hIm⟩
          obtain ⟨jp, hj1, hj2, hjm⟩ := HRI.out.1.crash HL1.out.1 isF Q himg
          have hkl := HRI.out.1.kl
          have hIs : isF = vsOf N l1 jp := by
            have hiN : isF.length = N := hlen.trans HRI.out.1.li
            refine List.ext_getElem (by rw [hiN, vsOf_len]) (fun i a b => ?_)
            have := hjm i (by omega) trivial
            rw [List.getD_eq_getElem?_getD, List.getD_eq_getElem?_getD, List.getElem?_eq_getElem a, List.getElem?_eq_getElem b] at this
            exact this
          have HJp := Lib.hid (show j0 ≤ jp ∧ jp ≤ k ∧ k ≤ l1.length from ⟨hj1, hj2, hkl⟩)
          have hIm2 := hIm (by rw [hIs]; exact vsOf_u64 HL1.out.1 jp (by omega))
          rw [hIs] at hIm2
          have HIm := Lib.hid hIm2
          have HB57 := Lib.hid (HB6.out.trans hB7)
          have HFr := Lib.hid (from_v a1 l1 c1 k w7 (HPt5.out.below HB57.out) (by have := HL1.out.2; have := HLm.out; omega) (HL1.out.1.bd (by have := HLm.out; omega)) (by have := HFl.out; have := HLm.out; omega))
          rw [HL1.out.2] at HFr
          clear hlen himg hB7 hIm hj1 hj2 hjm hkl hIs hIm2
          go_wp2_with (fail)
          refine HFr.out.mono ?_
          rintro e w9 ⟨r9, rfl, hfr, hrk, hB9⟩
          have HB59 := Lib.hid (HB57.out.trans (hB9.mono HB57.out.size))
          have HB79 := Lib.hid hB9
          have HLe := Lib.hid (show r9 ≤ jp from Nat.le_trans (hfr.least HRI.out.1.jk HRI.out.1.g) HJp.out.1)
          clear hfr hrk hB9
          obtain ⟨MI, hMI⟩ : ∃ MI, bytesW (vsOf N l1 jp) = MI := ⟨_, rfl⟩
          rw [hMI] at HIm
          obtain ⟨BI, hBI⟩ : ∃ BI : ByteArray, (⟨MI.toArray⟩ : ByteArray) = BI := ⟨_, rfl⟩
          have HBI := Lib.hid hBI
          have HMI := Lib.hid hMI
          have HImg := Lib.hid (fun W (hB : Below w9.heap.size w9 W) => HIm.out W (HB79.out.trans (hB.mono HB79.out.size)))
          have HLst := Lib.hid (show na ≤ jp from by
            have h1 := HRI.out.2 (by first | trivial | rfl); have h2 := (HOv.out (by first | trivial | rfl)).2; have := HJp.out; omega)
          clear hMI hBI
          go_wp2_with (fail)
          go_loopw [20] (fun iv wr => ∃ j : Nat, j ≤ jp ∧ iv = .int .i64 j ∧ Below w9.heap.size w9 wr) (fun iv _ => k + 1 - (intOf iv).toNat)
          case atStart => exact ⟨na, HLst.out, rfl, Below.refl _ _⟩
          case round =>
            obtain ⟨j, hj, rfl, hB⟩ := hrel
            have HB27 := Lib.hid hB
            have HJ := Lib.hid hj
            have hjb : (j : Int) ≤ (k : Int) := by have := HJp.out; omega
            have HRef := Lib.hid (fun W (hB : Below w9.heap.size w9 W) => rimage_v N j (by have := HLm.out; omega) a1 l1 c1 W (HPt5.out.below (HB59.out.trans (hB.mono HB59.out.size))) (by have := HL1.out.2; have := HLm.out; omega) (fun i hi => (HL1.out.1 i (by have := HJp.out; omega)).2) (by have := HJp.out; omega))
            rw [HL1.out.2, HSzE.out] at HRef
            unfold ByB at HRef
            obtain ⟨MJ, hMJ⟩ : ∃ MJ, bytesW (vsOf N l1 j) = MJ := ⟨_, rfl⟩
            rw [hMJ] at HRef
            obtain ⟨BJ, hBJ⟩ : ∃ BJ : ByteArray, (⟨MJ.toArray⟩ : ByteArray) = BJ := ⟨_, rfl⟩
            have HBJ := Lib.hid hBJ
            obtain ⟨bb, hbb⟩ : ∃ bb, (BI.toList == BJ.toList) = bb := ⟨_, rfl⟩
            have HBb := Lib.hid hbb
            have HNe2 := Lib.hid (show bb = false → j + 1 ≤ jp from fun e => by
              have : j ≠ jp := fun e2 => by
                subst e2
                have e3 : MI = MJ := HMI.out.symm.trans hMJ
                have e4 : BI = BJ := by rw [← HBI.out, ← hBJ, e3]
                rw [e, e4, beq_self_eq_true] at hbb
                cases hbb
              omega)
            clear hj hB hMJ hBJ hbb
            go_wp2_with (fail)
            --GEN r_ls27
            refine wp_region_vals [Is (.pointer (some ⟨cb, 0, none⟩)), fun v W => W.ownsRow w9.heap.size 5 1 v MI.length (bvals MI), Is (.string BI), Is (.int .i64 n), Is (.int .i64 sz), Is (.slice a1 na c1), Is (.int .i64 (j : Int)), fun v W => W.ownsRow w9.heap.size 5 1 v MJ.length (bvals MJ), Is (.string BJ), Is (.bool bb)]
              (fun _ W W' => Below W.heap.size W W') (fun _ W => Below w9.heap.size w9 W) (by kernel_rfl) (by kernel_rfl) (by kernel_rfl) ?hst ?h0 ⟨?o0, ?o1, ?o2, ?o3, ?o4, ?o5, ?o6, ?o7, ?o8, ?o9, trivial⟩ ?he
            case hst =>
              exact ⟨(fun _ _ _ _ _ _ h _ => h), (fun _ _ _ _ _ _ h hR => own_keeps h (Keeps.of_below' hR) (fun _ _ h => h)), (fun _ _ _ _ _ _ h _ => h), (fun _ _ _ _ _ _ h _ => h), (fun _ _ _ _ _ _ h _ => h), (fun _ _ _ _ _ _ h _ => h), (fun _ _ _ _ _ _ h _ => h), (fun _ _ _ _ _ _ h hR => own_keeps h (Keeps.of_below' hR) (fun _ _ h => h)), (fun _ _ _ _ _ _ h _ => h), (fun _ _ _ _ _ _ h _ => h), trivial⟩
            case h0 =>
              exact HB27.out.drew
            case o0 =>
              intro L vs A W H hf hd K hK
              have e18 : A.tmps[18]?.getD undef = .pointer (some ⟨cb, 0, none⟩) := H.old 18 (by kernel_rfl)
              go_simp
              exact hK _ _ (Below.refl _ _) rfl (H.glob)
            case o1 =>
              intro L vs A W H hf hd K hK
              have e103 := H.is 0 103 rfl rfl rfl (deps_of' hd 0 (by kernel_rfl)) (by kernel_rfl)
              rw [if_pos (show Region.wanted _ _ = true from rfl)]
              go_wp2_with (fail)
              refine (HImg.out _ H.glob).mono ?_
              rintro e W2 ⟨v, rfl, ho, hB⟩
              exact hK _ _ hB (own_mono ho H.glob.size) (H.glob.trans (hB.mono H.glob.size))
            case o2 =>
              intro L vs A W H hf hd K hK
              obtain ⟨v104, e104, q104⟩ := H.val 1 104 rfl rfl rfl (deps_of' hd 1 (by kernel_rfl)) (by kernel_rfl)
              have hcv := conv_rowM q104
              rw [HBI.out] at hcv
              obtain ⟨p9, n9, c9, rfl⟩ := own_slice q104
              go_simp
              exact hK _ _ (Below.refl _ _) rfl H.glob
            case o3 =>
              intro L vs A W H hf hd K hK
              have e0 : A.tmps[0]?.getD undef = .int .i64 n := H.old 0 (by kernel_rfl)
              go_simp
              exact hK _ _ (Below.refl _ _) rfl (H.glob)
            case o4 =>
              intro L vs A W H hf hd K hK
              have e106 := H.is 3 106 rfl rfl rfl (deps_of' hd 3 (by kernel_rfl)) (by kernel_rfl)
              have hw := HWs.out
              go_simp
              exact hK _ _ (Below.refl _ _) rfl (H.glob)
            case o5 =>
              intro L vs A W H hf hd K hK
              have e1 : A.tmps[1]?.getD undef = .slice a1 na c1 := H.old 1 (by kernel_rfl)
              go_simp
              exact hK _ _ (Below.refl _ _) rfl (H.glob)
            case o6 =>
              intro L vs A W H hf hd K hK
              have e20 : A.tmps[20]?.getD undef = .int .i64 (j : Int) := H.old 20 (by kernel_rfl)
              go_simp
              exact hK _ _ (Below.refl _ _) rfl (H.glob)
            case o7 =>
              intro L vs A W H hf hd K hK
              have e107 := H.is 4 107 rfl rfl rfl (deps_of' hd 4 (by kernel_rfl)) (by kernel_rfl)
              have e108 := H.is 5 108 rfl rfl rfl (deps_of' hd 5 (by kernel_rfl)) (by kernel_rfl)
              have e109 := H.is 6 109 rfl rfl rfl (deps_of' hd 6 (by kernel_rfl)) (by kernel_rfl)
              rw [if_pos (show Region.wanted _ _ = true from rfl)]
              go_wp2_with (fail)
              refine (HRef.out _ H.glob).mono ?_
              rintro e W2 ⟨v, rfl, ho, hB⟩
              exact hK _ _ hB (own_mono ho H.glob.size) (H.glob.trans (hB.mono H.glob.size))
            case o8 =>
              intro L vs A W H hf hd K hK
              obtain ⟨v110, e110, q110⟩ := H.val 7 110 rfl rfl rfl (deps_of' hd 7 (by kernel_rfl)) (by kernel_rfl)
              have hcv := conv_rowM q110
              rw [HBJ.out] at hcv
              obtain ⟨p9, n9, c9, rfl⟩ := own_slice q110
              go_simp
              exact hK _ _ (Below.refl _ _) rfl H.glob
            case o9 =>
              intro L vs A W H hf hd K hK
              have e105 := H.is 2 105 rfl rfl rfl (deps_of' hd 2 (by kernel_rfl)) (by kernel_rfl)
              have e111 := H.is 8 111 rfl rfl rfl (deps_of' hd 8 (by kernel_rfl)) (by kernel_rfl)
              have hw := HBb.out
              go_simp
              exact hK _ _ (Below.refl _ _) rfl (H.glob)
            case he =>
              intro vs W hlen hv
              match vs, hlen, hv with
              | [x0_, x1_, x2_, x3_, x4_, x5_, x6_, x7_, x8_, x9_], _, hv =>
              obtain rfl : (.pointer (some ⟨cb, 0, none⟩)) = x0_ := by obtain ⟨z, h1, h2⟩ := hv 0 _ rfl; cases h1; exact h2.symm
              have hx1 : (fun v W => W.ownsRow w9.heap.size 5 1 v MI.length (bvals MI)) x1_ W := by obtain ⟨z, h1, h2⟩ := hv 1 _ rfl; cases h1; exact h2
              obtain rfl : (.string BI) = x2_ := by obtain ⟨z, h1, h2⟩ := hv 2 _ rfl; cases h1; exact h2.symm
              obtain rfl : (.int .i64 n) = x3_ := by obtain ⟨z, h1, h2⟩ := hv 3 _ rfl; cases h1; exact h2.symm
              obtain rfl : (.int .i64 sz) = x4_ := by obtain ⟨z, h1, h2⟩ := hv 4 _ rfl; cases h1; exact h2.symm
              obtain rfl : (.slice a1 na c1) = x5_ := by obtain ⟨z, h1, h2⟩ := hv 5 _ rfl; cases h1; exact h2.symm
              obtain rfl : (.int .i64 (j : Int)) = x6_ := by obtain ⟨z, h1, h2⟩ := hv 6 _ rfl; cases h1; exact h2.symm
              have hx7 : (fun v W => W.ownsRow w9.heap.size 5 1 v MJ.length (bvals MJ)) x7_ W := by obtain ⟨z, h1, h2⟩ := hv 7 _ rfl; cases h1; exact h2
              obtain rfl : (.string BJ) = x8_ := by obtain ⟨z, h1, h2⟩ := hv 8 _ rfl; cases h1; exact h2.symm
              obtain rfl : (.bool bb) = x9_ := by obtain ⟨z, h1, h2⟩ := hv 9 _ rfl; cases h1; exact h2.symm
              intro L hall hG
              clear hv hlen
              have HB28 := Lib.hid hG
              clear hG hall hx1 hx7
              simp only [fill, if_true]
              simp [Act.put]
            --END
              cases bb with
              | true =>
                have HK := Lib.hid (known_v W)
                have HBx := Lib.hid (HBr5.out.trans ((HB59.out.trans (HB28.out.mono HB59.out.size)).mono HBr5.out.size))
                go_wp2_with (fail)
                refine HK.out.mono ?_
                rintro e w10 ⟨rfl, hB10⟩
                have HB10 := Lib.hid (HBx.out.trans (hB10.mono HBx.out.size))
                clear hB10
                go_wp2_with (fail)
                go_ret
                exact ⟨rfl, HB10.out⟩
              | false =>
                have hnx := HNe2.out rfl
                have HNx := Lib.hid hnx
                clear hnx
                have hk60 : (k : Int) ≤ 60 := by have := HFl.out; have := HLm.out; omega
                go_wp2_with (fail)
                go_roundw
                case rel => exact ⟨j + 1, HNx.out, by go_num, HB28.out⟩
                case measure => have := HNx.out; have := HJp.out; simp [intOf]; omega
        · clear hgo hcond
          cases ov with
          | true =>
            go_wp2_with (fail)
            refine HSt.out.mono ?_
            rintro e w5 ⟨rfl, hB5⟩
            unfold statCells
            have HCp := Lib.hid ((HO.out.mono hB5).copy (by have := HLm.out; have := HFl.out; omega) (fun h => by rw [HL1.out.2]; exact HOv.out (by first | trivial | exact h)))
            have HB5 := Lib.hid hB5
            clear hB5
            go_wp2_with (fail)
            refine HCp.out.mono ?_
            rintro e w6 ⟨cb, mk', M, j0, rfl, hMK, hRI, hMst, hjk, hB6⟩
            have hB36 := HB5.out.trans (hB6.mono HB5.out.size)
            have HBr5 := Lib.hid ((HBw3.out.keeps (Nat.le_refl _) HO.out.b (fun i hi => HSb.out i hi)).trans (HB5.out.mono (by have := HBw3.out.size; have := HO.out.b.size; omega)))
            have HPt5 := Lib.hid ((HPt3.out.keptS HO.out.b (fun g o e => HPn.out g o e)).below HB5.out)
            have hMvl : M.vs.length = N := hRI.lv
            have hcr := copy_crash hMK hB6.size (by show M.vs.length ≤ 1000; have := HLm.out; omega) (by show M.st ≤ 1000000; have := HLm.out; have := HFl.out; omega) ke ck ks (by have := HLn.out; have := HLm.out; omega) HKe.out.2 (fun hp => by
              obtain ⟨g, o, e, hg, hc⟩ := HKe.out.1 hp
              refine ⟨g, o, e, Nat.lt_of_lt_of_le hg HBr5.out.size, fun j hj => ?_⟩
              rw [hB6.cell (p := ⟨g, o + j, none⟩) (Nat.lt_of_lt_of_le hg HBr5.out.size), HBr5.out.cell (p := ⟨g, o + j, none⟩) hg]
              exact hc j hj)
            rw [HLn.out.2] at hcr
            have HCr := Lib.hid hcr
            have HRI := Lib.hid (And.intro hRI hjk)
            have HB6 := Lib.hid hB6
            clear hMK hRI hjk hMst hB6 hB36 hMvl hcr
            go_wp2_with (fail)
            refine HCr.out.mono ?_
            rintro e w7 ⟨rfl, isF, Q, hlen, himg, hB7, hIm⟩
            obtain ⟨jp, hj1, hj2, hjm⟩ := HRI.out.1.crash HL1.out.1 isF Q himg
            have hkl := HRI.out.1.kl
            have hIs : isF = vsOf N l1 jp := by
              have hiN : isF.length = N := hlen.trans HRI.out.1.li
              refine List.ext_getElem (by rw [hiN, vsOf_len]) (fun i a b => ?_)
              have := hjm i (by omega) trivial
              rw [List.getD_eq_getElem?_getD, List.getD_eq_getElem?_getD, List.getElem?_eq_getElem a, List.getElem?_eq_getElem b] at this
              exact this
            have HJp := Lib.hid (show j0 ≤ jp ∧ jp ≤ k ∧ k ≤ l1.length from ⟨hj1, hj2, hkl⟩)
            have hIm2 := hIm (by rw [hIs]; exact vsOf_u64 HL1.out.1 jp (by omega))
            rw [hIs] at hIm2
            have HIm := Lib.hid hIm2
            have HB57 := Lib.hid (HB6.out.trans hB7)
            have HFr := Lib.hid (from_v a1 l1 c1 k w7 (HPt5.out.below HB57.out) (by have := HL1.out.2; have := HLm.out; omega) (HL1.out.1.bd (by have := HLm.out; omega)) (by have := HFl.out; have := HLm.out; omega))
            rw [HL1.out.2] at HFr
            clear hlen himg hB7 hIm hj1 hj2 hjm hkl hIs hIm2
            go_wp2_with (fail)
            refine HFr.out.mono ?_
            rintro e w9 ⟨r9, rfl, hfr, hrk, hB9⟩
            have HB59 := Lib.hid (HB57.out.trans (hB9.mono HB57.out.size))
            have HB79 := Lib.hid hB9
            have HLe := Lib.hid (show r9 ≤ jp from Nat.le_trans (hfr.least HRI.out.1.jk HRI.out.1.g) HJp.out.1)
            clear hfr hrk hB9
            obtain ⟨MI, hMI⟩ : ∃ MI, bytesW (vsOf N l1 jp) = MI := ⟨_, rfl⟩
            rw [hMI] at HIm
            obtain ⟨BI, hBI⟩ : ∃ BI : ByteArray, (⟨MI.toArray⟩ : ByteArray) = BI := ⟨_, rfl⟩
            have HBI := Lib.hid hBI
            have HMI := Lib.hid hMI
            have HImg := Lib.hid (fun W (hB : Below w9.heap.size w9 W) => HIm.out W (HB79.out.trans (hB.mono HB79.out.size)))
            have HLst := Lib.hid (show na ≤ jp from by
              have h1 := HRI.out.2 (by first | trivial | rfl); have h2 := (HOv.out (by first | trivial | rfl)).2; have := HJp.out; omega)
            clear hMI hBI
            go_wp2_with (fail)
            go_loopw [20] (fun iv wr => ∃ j : Nat, j ≤ jp ∧ iv = .int .i64 j ∧ Below w9.heap.size w9 wr) (fun iv _ => k + 1 - (intOf iv).toNat)
            case atStart => exact ⟨na, HLst.out, rfl, Below.refl _ _⟩
            case round =>
              obtain ⟨j, hj, rfl, hB⟩ := hrel
              have HB27 := Lib.hid hB
              have HJ := Lib.hid hj
              have hjb : (j : Int) ≤ (k : Int) := by have := HJp.out; omega
              have HRef := Lib.hid (fun W (hB : Below w9.heap.size w9 W) => rimage_v N j (by have := HLm.out; omega) a1 l1 c1 W (HPt5.out.below (HB59.out.trans (hB.mono HB59.out.size))) (by have := HL1.out.2; have := HLm.out; omega) (fun i hi => (HL1.out.1 i (by have := HJp.out; omega)).2) (by have := HJp.out; omega))
              rw [HL1.out.2, HSzE.out] at HRef
              unfold ByB at HRef
              obtain ⟨MJ, hMJ⟩ : ∃ MJ, bytesW (vsOf N l1 j) = MJ := ⟨_, rfl⟩
              rw [hMJ] at HRef
              obtain ⟨BJ, hBJ⟩ : ∃ BJ : ByteArray, (⟨MJ.toArray⟩ : ByteArray) = BJ := ⟨_, rfl⟩
              have HBJ := Lib.hid hBJ
              obtain ⟨bb, hbb⟩ : ∃ bb, (BI.toList == BJ.toList) = bb := ⟨_, rfl⟩
              have HBb := Lib.hid hbb
              have HNe2 := Lib.hid (show bb = false → j + 1 ≤ jp from fun e => by
                have : j ≠ jp := fun e2 => by
                  subst e2
                  have e3 : MI = MJ := HMI.out.symm.trans hMJ
                  have e4 : BI = BJ := by rw [← HBI.out, ← hBJ, e3]
                  rw [e, e4, beq_self_eq_true] at hbb
                  cases hbb
                omega)
              clear hj hB hMJ hBJ hbb
              go_wp2_with (fail)
              --GEN r_ls27
              refine wp_region_vals [Is (.pointer (some ⟨cb, 0, none⟩)), fun v W => W.ownsRow w9.heap.size 5 1 v MI.length (bvals MI), Is (.string BI), Is (.int .i64 n), Is (.int .i64 sz), Is (.slice a1 na c1), Is (.int .i64 (j : Int)), fun v W => W.ownsRow w9.heap.size 5 1 v MJ.length (bvals MJ), Is (.string BJ), Is (.bool bb)]
                (fun _ W W' => Below W.heap.size W W') (fun _ W => Below w9.heap.size w9 W) (by kernel_rfl) (by kernel_rfl) (by kernel_rfl) ?hst ?h0 ⟨?o0, ?o1, ?o2, ?o3, ?o4, ?o5, ?o6, ?o7, ?o8, ?o9, trivial⟩ ?he
              case hst =>
                exact ⟨(fun _ _ _ _ _ _ h _ => h), (fun _ _ _ _ _ _ h hR => own_keeps h (Keeps.of_below' hR) (fun _ _ h => h)), (fun _ _ _ _ _ _ h _ => h), (fun _ _ _ _ _ _ h _ => h), (fun _ _ _ _ _ _ h _ => h), (fun _ _ _ _ _ _ h _ => h), (fun _ _ _ _ _ _ h _ => h), (fun _ _ _ _ _ _ h hR => own_keeps h (Keeps.of_below' hR) (fun _ _ h => h)), (fun _ _ _ _ _ _ h _ => h), (fun _ _ _ _ _ _ h _ => h), trivial⟩
              case h0 =>
                exact HB27.out.drew
              case o0 =>
                intro L vs A W H hf hd K hK
                have e18 : A.tmps[18]?.getD undef = .pointer (some ⟨cb, 0, none⟩) := H.old 18 (by kernel_rfl)
                go_simp
                exact hK _ _ (Below.refl _ _) rfl (H.glob)
              case o1 =>
                intro L vs A W H hf hd K hK
                have e103 := H.is 0 103 rfl rfl rfl (deps_of' hd 0 (by kernel_rfl)) (by kernel_rfl)
                rw [if_pos (show Region.wanted _ _ = true from rfl)]
                go_wp2_with (fail)
                refine (HImg.out _ H.glob).mono ?_
                rintro e W2 ⟨v, rfl, ho, hB⟩
                exact hK _ _ hB (own_mono ho H.glob.size) (H.glob.trans (hB.mono H.glob.size))
              case o2 =>
                intro L vs A W H hf hd K hK
                obtain ⟨v104, e104, q104⟩ := H.val 1 104 rfl rfl rfl (deps_of' hd 1 (by kernel_rfl)) (by kernel_rfl)
                have hcv := conv_rowM q104
                rw [HBI.out] at hcv
                obtain ⟨p9, n9, c9, rfl⟩ := own_slice q104
                go_simp
                exact hK _ _ (Below.refl _ _) rfl H.glob
              case o3 =>
                intro L vs A W H hf hd K hK
                have e0 : A.tmps[0]?.getD undef = .int .i64 n := H.old 0 (by kernel_rfl)
                go_simp
                exact hK _ _ (Below.refl _ _) rfl (H.glob)
              case o4 =>
                intro L vs A W H hf hd K hK
                have e106 := H.is 3 106 rfl rfl rfl (deps_of' hd 3 (by kernel_rfl)) (by kernel_rfl)
                have hw := HWs.out
                go_simp
                exact hK _ _ (Below.refl _ _) rfl (H.glob)
              case o5 =>
                intro L vs A W H hf hd K hK
                have e1 : A.tmps[1]?.getD undef = .slice a1 na c1 := H.old 1 (by kernel_rfl)
                go_simp
                exact hK _ _ (Below.refl _ _) rfl (H.glob)
              case o6 =>
                intro L vs A W H hf hd K hK
                have e20 : A.tmps[20]?.getD undef = .int .i64 (j : Int) := H.old 20 (by kernel_rfl)
                go_simp
                exact hK _ _ (Below.refl _ _) rfl (H.glob)
              case o7 =>
                intro L vs A W H hf hd K hK
                have e107 := H.is 4 107 rfl rfl rfl (deps_of' hd 4 (by kernel_rfl)) (by kernel_rfl)
                have e108 := H.is 5 108 rfl rfl rfl (deps_of' hd 5 (by kernel_rfl)) (by kernel_rfl)
                have e109 := H.is 6 109 rfl rfl rfl (deps_of' hd 6 (by kernel_rfl)) (by kernel_rfl)
                rw [if_pos (show Region.wanted _ _ = true from rfl)]
                go_wp2_with (fail)
                refine (HRef.out _ H.glob).mono ?_
                rintro e W2 ⟨v, rfl, ho, hB⟩
                exact hK _ _ hB (own_mono ho H.glob.size) (H.glob.trans (hB.mono H.glob.size))
              case o8 =>
                intro L vs A W H hf hd K hK
                obtain ⟨v110, e110, q110⟩ := H.val 7 110 rfl rfl rfl (deps_of' hd 7 (by kernel_rfl)) (by kernel_rfl)
                have hcv := conv_rowM q110
                rw [HBJ.out] at hcv
                obtain ⟨p9, n9, c9, rfl⟩ := own_slice q110
                go_simp
                exact hK _ _ (Below.refl _ _) rfl H.glob
              case o9 =>
                intro L vs A W H hf hd K hK
                have e105 := H.is 2 105 rfl rfl rfl (deps_of' hd 2 (by kernel_rfl)) (by kernel_rfl)
                have e111 := H.is 8 111 rfl rfl rfl (deps_of' hd 8 (by kernel_rfl)) (by kernel_rfl)
                have hw := HBb.out
                go_simp
                exact hK _ _ (Below.refl _ _) rfl (H.glob)
              case he =>
                intro vs W hlen hv
                match vs, hlen, hv with
                | [x0_, x1_, x2_, x3_, x4_, x5_, x6_, x7_, x8_, x9_], _, hv =>
                obtain rfl : (.pointer (some ⟨cb, 0, none⟩)) = x0_ := by obtain ⟨z, h1, h2⟩ := hv 0 _ rfl; cases h1; exact h2.symm
                have hx1 : (fun v W => W.ownsRow w9.heap.size 5 1 v MI.length (bvals MI)) x1_ W := by obtain ⟨z, h1, h2⟩ := hv 1 _ rfl; cases h1; exact h2
                obtain rfl : (.string BI) = x2_ := by obtain ⟨z, h1, h2⟩ := hv 2 _ rfl; cases h1; exact h2.symm
                obtain rfl : (.int .i64 n) = x3_ := by obtain ⟨z, h1, h2⟩ := hv 3 _ rfl; cases h1; exact h2.symm
                obtain rfl : (.int .i64 sz) = x4_ := by obtain ⟨z, h1, h2⟩ := hv 4 _ rfl; cases h1; exact h2.symm
                obtain rfl : (.slice a1 na c1) = x5_ := by obtain ⟨z, h1, h2⟩ := hv 5 _ rfl; cases h1; exact h2.symm
                obtain rfl : (.int .i64 (j : Int)) = x6_ := by obtain ⟨z, h1, h2⟩ := hv 6 _ rfl; cases h1; exact h2.symm
                have hx7 : (fun v W => W.ownsRow w9.heap.size 5 1 v MJ.length (bvals MJ)) x7_ W := by obtain ⟨z, h1, h2⟩ := hv 7 _ rfl; cases h1; exact h2
                obtain rfl : (.string BJ) = x8_ := by obtain ⟨z, h1, h2⟩ := hv 8 _ rfl; cases h1; exact h2.symm
                obtain rfl : (.bool bb) = x9_ := by obtain ⟨z, h1, h2⟩ := hv 9 _ rfl; cases h1; exact h2.symm
                intro L hall hG
                clear hv hlen
                have HB28 := Lib.hid hG
                clear hG hall hx1 hx7
                simp only [fill, if_true]
                simp [Act.put]
              --END
                cases bb with
                | true =>
                  have HK := Lib.hid (known_v W)
                  have HBx := Lib.hid (HBr5.out.trans ((HB59.out.trans (HB28.out.mono HB59.out.size)).mono HBr5.out.size))
                  go_wp2_with (fail)
                  refine HK.out.mono ?_
                  rintro e w10 ⟨rfl, hB10⟩
                  have HB10 := Lib.hid (HBx.out.trans (hB10.mono HBx.out.size))
                  clear hB10
                  go_wp2_with (fail)
                  go_ret
                  exact ⟨rfl, HB10.out⟩
                | false =>
                  have hnx := HNe2.out rfl
                  have HNx := Lib.hid hnx
                  clear hnx
                  have hk60 : (k : Int) ≤ 60 := by have := HFl.out; have := HLm.out; omega
                  go_wp2_with (fail)
                  go_roundw
                  case rel => exact ⟨j + 1, HNx.out, by go_num, HB28.out⟩
                  case measure => have := HNx.out; have := HJp.out; simp [intOf]; omega
          | false =>
            go_wp2_with (fail)
            refine HSt.out.mono ?_
            rintro e w5 ⟨rfl, hB5⟩
            unfold statCells
            have HCp := Lib.hid ((HO.out.mono hB5).copy (by have := HLm.out; have := HFl.out; omega) (fun h => by rw [HL1.out.2]; exact HOv.out (by first | trivial | exact h)))
            have HB5 := Lib.hid hB5
            clear hB5
            go_wp2_with (fail)
            refine HCp.out.mono ?_
            rintro e w6 ⟨cb, mk', M, j0, rfl, hMK, hRI, hMst, hjk, hB6⟩
            have hB36 := HB5.out.trans (hB6.mono HB5.out.size)
            have HBr5 := Lib.hid ((HBw3.out.keeps (Nat.le_refl _) HO.out.b (fun i hi => HSb.out i hi)).trans (HB5.out.mono (by have := HBw3.out.size; have := HO.out.b.size; omega)))
            have HPt5 := Lib.hid ((HPt3.out.keptS HO.out.b (fun g o e => HPn.out g o e)).below HB5.out)
            have hMvl : M.vs.length = N := hRI.lv
            have hcr := copy_crash hMK hB6.size (by show M.vs.length ≤ 1000; have := HLm.out; omega) (by show M.st ≤ 1000000; have := HLm.out; have := HFl.out; omega) ke ck ks (by have := HLn.out; have := HLm.out; omega) HKe.out.2 (fun hp => by
              obtain ⟨g, o, e, hg, hc⟩ := HKe.out.1 hp
              refine ⟨g, o, e, Nat.lt_of_lt_of_le hg HBr5.out.size, fun j hj => ?_⟩
              rw [hB6.cell (p := ⟨g, o + j, none⟩) (Nat.lt_of_lt_of_le hg HBr5.out.size), HBr5.out.cell (p := ⟨g, o + j, none⟩) hg]
              exact hc j hj)
            rw [HLn.out.2] at hcr
            have HCr := Lib.hid hcr
            have HRI := Lib.hid (And.intro hRI hjk)
            have HB6 := Lib.hid hB6
            clear hMK hRI hjk hMst hB6 hB36 hMvl hcr
            go_wp2_with (fail)
            refine HCr.out.mono ?_
            rintro e w7 ⟨rfl, isF, Q, hlen, himg, hB7, hIm⟩
            obtain ⟨jp, hj1, hj2, hjm⟩ := HRI.out.1.crash HL1.out.1 isF Q himg
            have hkl := HRI.out.1.kl
            have hIs : isF = vsOf N l1 jp := by
              have hiN : isF.length = N := hlen.trans HRI.out.1.li
              refine List.ext_getElem (by rw [hiN, vsOf_len]) (fun i a b => ?_)
              have := hjm i (by omega) trivial
              rw [List.getD_eq_getElem?_getD, List.getD_eq_getElem?_getD, List.getElem?_eq_getElem a, List.getElem?_eq_getElem b] at this
              exact this
            have HJp := Lib.hid (show j0 ≤ jp ∧ jp ≤ k ∧ k ≤ l1.length from ⟨hj1, hj2, hkl⟩)
            have hIm2 := hIm (by rw [hIs]; exact vsOf_u64 HL1.out.1 jp (by omega))
            rw [hIs] at hIm2
            have HIm := Lib.hid hIm2
            have HB57 := Lib.hid (HB6.out.trans hB7)
            have HFr := Lib.hid (from_v a1 l1 c1 k w7 (HPt5.out.below HB57.out) (by have := HL1.out.2; have := HLm.out; omega) (HL1.out.1.bd (by have := HLm.out; omega)) (by have := HFl.out; have := HLm.out; omega))
            rw [HL1.out.2] at HFr
            clear hlen himg hB7 hIm hj1 hj2 hjm hkl hIs hIm2
            go_wp2_with (fail)
            refine HFr.out.mono ?_
            rintro e w9 ⟨r9, rfl, hfr, hrk, hB9⟩
            have HB59 := Lib.hid (HB57.out.trans (hB9.mono HB57.out.size))
            have HB79 := Lib.hid hB9
            have HLe := Lib.hid (show r9 ≤ jp from Nat.le_trans (hfr.least HRI.out.1.jk HRI.out.1.g) HJp.out.1)
            clear hfr hrk hB9
            obtain ⟨MI, hMI⟩ : ∃ MI, bytesW (vsOf N l1 jp) = MI := ⟨_, rfl⟩
            rw [hMI] at HIm
            obtain ⟨BI, hBI⟩ : ∃ BI : ByteArray, (⟨MI.toArray⟩ : ByteArray) = BI := ⟨_, rfl⟩
            have HBI := Lib.hid hBI
            have HMI := Lib.hid hMI
            have HImg := Lib.hid (fun W (hB : Below w9.heap.size w9 W) => HIm.out W (HB79.out.trans (hB.mono HB79.out.size)))
            have HLst := Lib.hid (show r9 ≤ jp from by
              exact HLe.out)
            clear hMI hBI
            go_wp2_with (fail)
            go_loopw [20] (fun iv wr => ∃ j : Nat, j ≤ jp ∧ iv = .int .i64 j ∧ Below w9.heap.size w9 wr) (fun iv _ => k + 1 - (intOf iv).toNat)
            case atStart => exact ⟨r9, HLst.out, rfl, Below.refl _ _⟩
            case round =>
              obtain ⟨j, hj, rfl, hB⟩ := hrel
              have HB27 := Lib.hid hB
              have HJ := Lib.hid hj
              have hjb : (j : Int) ≤ (k : Int) := by have := HJp.out; omega
              have HRef := Lib.hid (fun W (hB : Below w9.heap.size w9 W) => rimage_v N j (by have := HLm.out; omega) a1 l1 c1 W (HPt5.out.below (HB59.out.trans (hB.mono HB59.out.size))) (by have := HL1.out.2; have := HLm.out; omega) (fun i hi => (HL1.out.1 i (by have := HJp.out; omega)).2) (by have := HJp.out; omega))
              rw [HL1.out.2, HSzE.out] at HRef
              unfold ByB at HRef
              obtain ⟨MJ, hMJ⟩ : ∃ MJ, bytesW (vsOf N l1 j) = MJ := ⟨_, rfl⟩
              rw [hMJ] at HRef
              obtain ⟨BJ, hBJ⟩ : ∃ BJ : ByteArray, (⟨MJ.toArray⟩ : ByteArray) = BJ := ⟨_, rfl⟩
              have HBJ := Lib.hid hBJ
              obtain ⟨bb, hbb⟩ : ∃ bb, (BI.toList == BJ.toList) = bb := ⟨_, rfl⟩
              have HBb := Lib.hid hbb
              have HNe2 := Lib.hid (show bb = false → j + 1 ≤ jp from fun e => by
                have : j ≠ jp := fun e2 => by
                  subst e2
                  have e3 : MI = MJ := HMI.out.symm.trans hMJ
                  have e4 : BI = BJ := by rw [← HBI.out, ← hBJ, e3]
                  rw [e, e4, beq_self_eq_true] at hbb
                  cases hbb
                omega)
              clear hj hB hMJ hBJ hbb
              go_wp2_with (fail)
              --GEN r_ls27
              refine wp_region_vals [Is (.pointer (some ⟨cb, 0, none⟩)), fun v W => W.ownsRow w9.heap.size 5 1 v MI.length (bvals MI), Is (.string BI), Is (.int .i64 n), Is (.int .i64 sz), Is (.slice a1 na c1), Is (.int .i64 (j : Int)), fun v W => W.ownsRow w9.heap.size 5 1 v MJ.length (bvals MJ), Is (.string BJ), Is (.bool bb)]
                (fun _ W W' => Below W.heap.size W W') (fun _ W => Below w9.heap.size w9 W) (by kernel_rfl) (by kernel_rfl) (by kernel_rfl) ?hst ?h0 ⟨?o0, ?o1, ?o2, ?o3, ?o4, ?o5, ?o6, ?o7, ?o8, ?o9, trivial⟩ ?he
              case hst =>
                exact ⟨(fun _ _ _ _ _ _ h _ => h), (fun _ _ _ _ _ _ h hR => own_keeps h (Keeps.of_below' hR) (fun _ _ h => h)), (fun _ _ _ _ _ _ h _ => h), (fun _ _ _ _ _ _ h _ => h), (fun _ _ _ _ _ _ h _ => h), (fun _ _ _ _ _ _ h _ => h), (fun _ _ _ _ _ _ h _ => h), (fun _ _ _ _ _ _ h hR => own_keeps h (Keeps.of_below' hR) (fun _ _ h => h)), (fun _ _ _ _ _ _ h _ => h), (fun _ _ _ _ _ _ h _ => h), trivial⟩
              case h0 =>
                exact HB27.out.drew
              case o0 =>
                intro L vs A W H hf hd K hK
                have e18 : A.tmps[18]?.getD undef = .pointer (some ⟨cb, 0, none⟩) := H.old 18 (by kernel_rfl)
                go_simp
                exact hK _ _ (Below.refl _ _) rfl (H.glob)
              case o1 =>
                intro L vs A W H hf hd K hK
                have e103 := H.is 0 103 rfl rfl rfl (deps_of' hd 0 (by kernel_rfl)) (by kernel_rfl)
                rw [if_pos (show Region.wanted _ _ = true from rfl)]
                go_wp2_with (fail)
                refine (HImg.out _ H.glob).mono ?_
                rintro e W2 ⟨v, rfl, ho, hB⟩
                exact hK _ _ hB (own_mono ho H.glob.size) (H.glob.trans (hB.mono H.glob.size))
              case o2 =>
                intro L vs A W H hf hd K hK
                obtain ⟨v104, e104, q104⟩ := H.val 1 104 rfl rfl rfl (deps_of' hd 1 (by kernel_rfl)) (by kernel_rfl)
                have hcv := conv_rowM q104
                rw [HBI.out] at hcv
                obtain ⟨p9, n9, c9, rfl⟩ := own_slice q104
                go_simp
                exact hK _ _ (Below.refl _ _) rfl H.glob
              case o3 =>
                intro L vs A W H hf hd K hK
                have e0 : A.tmps[0]?.getD undef = .int .i64 n := H.old 0 (by kernel_rfl)
                go_simp
                exact hK _ _ (Below.refl _ _) rfl (H.glob)
              case o4 =>
                intro L vs A W H hf hd K hK
                have e106 := H.is 3 106 rfl rfl rfl (deps_of' hd 3 (by kernel_rfl)) (by kernel_rfl)
                have hw := HWs.out
                go_simp
                exact hK _ _ (Below.refl _ _) rfl (H.glob)
              case o5 =>
                intro L vs A W H hf hd K hK
                have e1 : A.tmps[1]?.getD undef = .slice a1 na c1 := H.old 1 (by kernel_rfl)
                go_simp
                exact hK _ _ (Below.refl _ _) rfl (H.glob)
              case o6 =>
                intro L vs A W H hf hd K hK
                have e20 : A.tmps[20]?.getD undef = .int .i64 (j : Int) := H.old 20 (by kernel_rfl)
                go_simp
                exact hK _ _ (Below.refl _ _) rfl (H.glob)
              case o7 =>
                intro L vs A W H hf hd K hK
                have e107 := H.is 4 107 rfl rfl rfl (deps_of' hd 4 (by kernel_rfl)) (by kernel_rfl)
                have e108 := H.is 5 108 rfl rfl rfl (deps_of' hd 5 (by kernel_rfl)) (by kernel_rfl)
                have e109 := H.is 6 109 rfl rfl rfl (deps_of' hd 6 (by kernel_rfl)) (by kernel_rfl)
                rw [if_pos (show Region.wanted _ _ = true from rfl)]
                go_wp2_with (fail)
                refine (HRef.out _ H.glob).mono ?_
                rintro e W2 ⟨v, rfl, ho, hB⟩
                exact hK _ _ hB (own_mono ho H.glob.size) (H.glob.trans (hB.mono H.glob.size))
              case o8 =>
                intro L vs A W H hf hd K hK
                obtain ⟨v110, e110, q110⟩ := H.val 7 110 rfl rfl rfl (deps_of' hd 7 (by kernel_rfl)) (by kernel_rfl)
                have hcv := conv_rowM q110
                rw [HBJ.out] at hcv
                obtain ⟨p9, n9, c9, rfl⟩ := own_slice q110
                go_simp
                exact hK _ _ (Below.refl _ _) rfl H.glob
              case o9 =>
                intro L vs A W H hf hd K hK
                have e105 := H.is 2 105 rfl rfl rfl (deps_of' hd 2 (by kernel_rfl)) (by kernel_rfl)
                have e111 := H.is 8 111 rfl rfl rfl (deps_of' hd 8 (by kernel_rfl)) (by kernel_rfl)
                have hw := HBb.out
                go_simp
                exact hK _ _ (Below.refl _ _) rfl (H.glob)
              case he =>
                intro vs W hlen hv
                match vs, hlen, hv with
                | [x0_, x1_, x2_, x3_, x4_, x5_, x6_, x7_, x8_, x9_], _, hv =>
                obtain rfl : (.pointer (some ⟨cb, 0, none⟩)) = x0_ := by obtain ⟨z, h1, h2⟩ := hv 0 _ rfl; cases h1; exact h2.symm
                have hx1 : (fun v W => W.ownsRow w9.heap.size 5 1 v MI.length (bvals MI)) x1_ W := by obtain ⟨z, h1, h2⟩ := hv 1 _ rfl; cases h1; exact h2
                obtain rfl : (.string BI) = x2_ := by obtain ⟨z, h1, h2⟩ := hv 2 _ rfl; cases h1; exact h2.symm
                obtain rfl : (.int .i64 n) = x3_ := by obtain ⟨z, h1, h2⟩ := hv 3 _ rfl; cases h1; exact h2.symm
                obtain rfl : (.int .i64 sz) = x4_ := by obtain ⟨z, h1, h2⟩ := hv 4 _ rfl; cases h1; exact h2.symm
                obtain rfl : (.slice a1 na c1) = x5_ := by obtain ⟨z, h1, h2⟩ := hv 5 _ rfl; cases h1; exact h2.symm
                obtain rfl : (.int .i64 (j : Int)) = x6_ := by obtain ⟨z, h1, h2⟩ := hv 6 _ rfl; cases h1; exact h2.symm
                have hx7 : (fun v W => W.ownsRow w9.heap.size 5 1 v MJ.length (bvals MJ)) x7_ W := by obtain ⟨z, h1, h2⟩ := hv 7 _ rfl; cases h1; exact h2
                obtain rfl : (.string BJ) = x8_ := by obtain ⟨z, h1, h2⟩ := hv 8 _ rfl; cases h1; exact h2.symm
                obtain rfl : (.bool bb) = x9_ := by obtain ⟨z, h1, h2⟩ := hv 9 _ rfl; cases h1; exact h2.symm
                intro L hall hG
                clear hv hlen
                have HB28 := Lib.hid hG
                clear hG hall hx1 hx7
                simp only [fill, if_true]
                simp [Act.put]
              --END
                cases bb with
                | true =>
                  have HK := Lib.hid (known_v W)
                  have HBx := Lib.hid (HBr5.out.trans ((HB59.out.trans (HB28.out.mono HB59.out.size)).mono HBr5.out.size))
                  go_wp2_with (fail)
                  refine HK.out.mono ?_
                  rintro e w10 ⟨rfl, hB10⟩
                  have HB10 := Lib.hid (HBx.out.trans (hB10.mono HBx.out.size))
                  clear hB10
                  go_wp2_with (fail)
                  go_ret
                  exact ⟨rfl, HB10.out⟩
                | false =>
                  have hnx := HNe2.out rfl
                  have HNx := Lib.hid hnx
                  clear hnx
                  have hk60 : (k : Int) ≤ 60 := by have := HFl.out; have := HLm.out; omega
                  go_wp2_with (fail)
                  go_roundw
                  case rel => exact ⟨j + 1, HNx.out, by go_num, HB28.out⟩
                  case measure => have := HNx.out; have := HJp.out; simp [intOf]; omega
end Go.Proofs.Ytefgahcadfmmoaa
