/-
  The document's search (leveeref28.fits): the walk, by induction on what is left.
-/
import Derived.Test.YtdmcakoaakinnaaLrd
namespace Go.Proofs.Ytdmcakoaakinnaa
open Go.RowKit
attribute [local go_sem] Oper.semAt_some
set_option linter.unusedVariables false
set_option linter.unusedSimpArgs false

def DoneAt (w : World) (a : Option Addr) (m n : Nat) (s : St) : Prop := (m = 0 ∧ s.dn = 0) ∨ (0 < m ∧ m = n ∧ BsRow w a n (fun i => s.dn.testBit i))
def FitsQ (key : Int) (l : List Er) (k : Nat) (s : St) (w : World) (e : Ending) (w' : World) : Prop :=
  ∃ b : Bool, e = .returned (.bool b) ∧ (b = true ↔ FitsL key (l.drop k) s) ∧ Below w.heap.size w w'
def FitsQ' (key : Int) (r : List Er) (s : St) (w : World) (e : Ending) (w' : World) : Prop :=
  ∃ b : Bool, e = .returned (.bool b) ∧ (b = true ↔ FitsL key r s) ∧ Below w.heap.size w w'
structure FitB (l : List Er) : Prop where
  n : l.length ≤ 1000000
  e : ∀ e ∈ l, ErL e ∧ e.cs.length ≤ 1000000
theorem DnsAt.cell {w : World} {a : Option Addr} {l : List Dn} (h : DnsAt w a l) {k : Nat} (hk : k < l.length) : ∃ g o, a = some ⟨g, o, none⟩ ∧ g < w.heap.size ∧ ∀ j v, (dnCells (l.getD k dnZ))[j]? = some v → w.cell? ⟨g, o + k * 11 + j, none⟩ = some v := by
  obtain ⟨g, o, e, hg, hc⟩ := h.at_ hk
  exact ⟨g, o, e, hg, hc⟩
def whB (c : List Dn) (s : St) (j : Nat) : Bool := (List.range j).all fun i => s.dn.testBit i || decide ((c.getD i dnZ).en < 0)
theorem whB_succ (c : List Dn) (s : St) (j : Nat) : whB c s (j + 1) = (whB c s j && (s.dn.testBit j || decide ((c.getD j dnZ).en < 0))) := by
  unfold whB; rw [List.range_succ, List.all_append]; simp
theorem whB_whole (c : List Dn) (s : St) : whB c s c.length = true ↔ WholeS c s := wholeB_iff c s
def nxB (c : List Dn) (s : St) (i q : Nat) : Bool := !s.dn.testBit i && ((List.range q).all fun k => s.dn.testBit k || !aheadP (c.getD k dnZ) (c.getD i dnZ))
theorem nxB_zero (c : List Dn) (s : St) (i : Nat) : nxB c s i 0 = !s.dn.testBit i := by unfold nxB; simp
theorem nxB_succ (c : List Dn) (s : St) (i q : Nat) : nxB c s i (q + 1) = (nxB c s i q && (s.dn.testBit q || !aheadP (c.getD q dnZ) (c.getD i dnZ))) := by
  unfold nxB; rw [List.range_succ, List.all_append, Bool.and_assoc]; simp
theorem nxB_next (c : List Dn) (s : St) (i : Nat) : nextB c s i = (nxB c s i c.length && rightS s (c.getD i dnZ)) := rfl
theorem code_f (s : St) (d : Dn) : codeS s d = if (!s.is && (d.op != 1)) = true then 5 else 0 := by
  unfold codeS
  cases s.is <;> by_cases h : d.op = 1 <;> simp [h]
theorem str_emptyD (a : ByteArray) : a.toList.isEmpty = decide (a = ⟨#[]⟩) := by
  rw [← str_eqD a ⟨#[]⟩, show (⟨#[]⟩ : ByteArray).toList = [] from by kernel_rfl]
  cases h : a.toList with
  | nil => rfl
  | cons x r => rfl
theorem right_f (s : St) (d : Dn) : (!rightS s d) = (decide (0 ≤ d.en) && ((d.code != codeS s d) || ((d.op == 2) && (if s.is = true then !(d.rv.toList == s.v.toList) else !d.rv.toList.isEmpty)))) := by
  have h0 : decide (0 ≤ d.en) = !decide (d.en < 0) := by
    by_cases h : d.en < 0
    · simp [h]
    · simp [h, show 0 ≤ d.en by omega]
  have h1 : (d.code != codeS s d) = !decide (codeS s d = d.code) := by
    by_cases h : codeS s d = d.code
    · simp [h]
    · have h2 : ¬ d.code = codeS s d := fun e => h e.symm
      simp [h, h2]
  rw [h0, h1, str_eqD, str_emptyD]
  unfold rightS valS
  by_cases h2 : d.op = 2
  · have e1 : ¬ d.op = 1 := by omega
    have e3 : ¬ d.op = 3 := by omega
    have e2 : (d.op == 2) = true := beq_iff_eq.2 h2
    rw [if_neg e1, if_neg e3, e2]
    cases s.is with
    | true =>
      rw [if_pos rfl, if_pos rfl, show decide (s.v = d.rv) = decide (d.rv = s.v) from by rw [Bool.eq_iff_iff]; simp; exact eq_comm]
      simp [h2, Bool.not_or, Bool.not_and]
    | false =>
      rw [if_neg (by simp), if_neg (by simp), show decide (⟨#[]⟩ = d.rv) = decide (d.rv = ⟨#[]⟩) from by rw [Bool.eq_iff_iff]; simp; exact eq_comm]
      simp [h2, Bool.not_or, Bool.not_and]
  · have e2 : (d.op == 2) = false := beq_eq_false_iff_ne.2 h2
    rw [e2]
    simp [h2]
/-- a search of the eras behind, and of this one with more done -/
def FitH (key : Int) (l : List Er) (la : Option Addr) (lc : Nat) (m : Nat) : Prop :=
  ∀ (k : Nat) (s : St) (a : Option Addr) (n c : Nat) (w : World), k ≤ l.length → leftN key (l.drop k) s < m → DoneAt w a n (ofP key (l.getD k erZ).cs).length s → ErsAt w la l →
    Calls Try.prog 29 #[.int .u64 key, .slice la l.length lc, .int .i64 k, .slice a n c, .string s.v, .bool s.is] w (FitsQ key l k s w)
set_option maxRecDepth 100000 in
set_option maxHeartbeats 16000000 in
theorem fits_step_v (key : Int) (l : List Er) (la : Option Addr) (lc : Nat) (hb : FitB l) (m : Nat) (ih : FitH key l la lc m) : FitH key l la lc (m + 1) := by
  intro k s a n c0 w hk hm hdone herr
  by_cases hlt : k < l.length
  · obtain ⟨g, o, rfl, hg, hc⟩ := herr.at_ hlt
    obtain ⟨e, he⟩ : ∃ x, l.getD k erZ = x := ⟨_, rfl⟩
    rw [he] at hc hdone
    have HCl := Lib.hid hc
    have HLt := Lib.hid hlt
    have HD := Lib.hid he
    have HErs := Lib.hid herr
    have HIh := Lib.hid ih
    have HDr := Lib.hid (show l.drop k = e :: l.drop (k + 1) from by rw [drop_er l k hlt, he])
    have HLn := Lib.hid (show leftN key (l.drop (k + 1)) (ensS s) < m from by
      have h1 := left_next key e (l.drop (k + 1)) s (ensS s)
      rw [drop_er l k hlt, he] at hm
      omega)
    have HMm := Lib.hid (show leftN key (e :: l.drop (k + 1)) s < m + 1 from by rw [drop_er l k hlt, he] at hm; exact hm)
    have HMem := Lib.hid (show e ∈ l from by rw [← he]; exact getD_memL l k erZ hlt)
    have HEb := Lib.hid (hb.e e HMem.out)
    have HEa := Lib.hid (herr.2 e HMem.out)
    have HDone := Lib.hid hdone
    have HOf := Lib.hid (rof_v key e w HEb.out.1 HEb.out.2 HEa.out.1)
    have hkn : ((k : Int) == (l.length : Int)) = false := by rw [beq_eq_false_iff_ne]; omega
    have hkb : (k : Int) < (l.length : Int) := by omega
    have hk6 : (k : Int) ≤ 1000000 := by have := hb.n; omega
    clear hc he herr ih hm hdone hlt hk hb
    go_enter Try.func29, Try.ntmps29
    go_upto_region 3 with (fail)
    go_step
    refine wpList_plain rfl (fun K hK => ?_)
    go_simp
    refine hK _ _ ?_
    clear hK K
    refine wpList_plain rfl (fun K hK => ?_)
    go_simp
    refine hK _ _ ?_
    clear hK K
    refine wpList_plain rfl (fun K hK => ?_)
    go_simp
    refine hK _ _ ?_
    clear hK K
    refine wpList_idx_er rfl rfl (.tmp 30) (.tmp 31) 32 rfl rfl rfl g o l.length lc k e rfl rfl HLt.out (by first | (simp [Act.put]; done) | rfl) HCl.out ?_
    go_wp2_with (fail)
    refine HOf.out.mono ?_
    rintro e1 w1 ⟨v1, rfl, ho1, hB1⟩
    obtain ⟨ca, cc, rfl, hdn, _⟩ := own_dnsAt ho1 (ofP_prs (HEa.out.1.below hB1))
    obtain ⟨c, hc⟩ : ∃ c, ofP key e.cs = c := ⟨_, rfl⟩
    rw [hc] at hdn HDone ⊢
    have HC := Lib.hid hc
    have HCn := Lib.hid (show c.length ≤ 1000000 from by rw [← hc]; exact Nat.le_trans (ofP_len key e.cs) HEb.out.2)
    have HDn := Lib.hid hdn
    have HB1 := Lib.hid hB1
    obtain ⟨cn, hcn⟩ : ∃ cn, c.length = cn := ⟨_, rfl⟩
    rw [hcn] at HDone ⊢
    have HCN := Lib.hid hcn
    have hcn6 : (cn : Int) ≤ 1000000 := by have := HCn.out; omega
    clear ho1 hc hdn hB1 hcn
    go_upto_if 37 with (fail)
    go_cut [3] (fun s3 wx => ∃ a2 c2, s3 = .slice a2 cn c2 ∧ Hid (BsRow wx a2 cn (fun i => s.dn.testBit i)) ∧ Hid (Below w1.heap.size w1 wx))
    case first =>
      as_aux_lemma =>
        rcases HDone.out with ⟨rfl, hz⟩ | ⟨hp, rfl, hbs⟩
        · obtain ⟨M, hM1, hM2⟩ := make_bs cn (by omega)
          have HM2 := Lib.hid (hM2 w1)
          have HZ := Lib.hid hz
          have hn0 : (((0 : Nat) : Int) == 0) = true := rfl
          clear hM2 hz
          go_wp2_with (fail)
          go_meet
          refine ⟨_, _, rfl, Lib.hid (fun hn => ?_), Lib.hid ((Below.refl _ w1).alloc (Nat.le_refl _) _)⟩
          obtain ⟨g9, o9, h1, h2, h3⟩ := HM2.out hn
          exact ⟨g9, o9, h1, h2, fun i hi => by rw [h3 i hi, HZ.out]; simp⟩
        · have HBs := Lib.hid (hbs.below HB1.out)
          have hn0 : ((n : Int) == 0) = false := by rw [beq_eq_false_iff_ne]; omega
          clear hbs hp
          go_wp2_with (fail)
          go_meet
          exact ⟨_, _, rfl, HBs, Lib.hid (Below.refl _ _)⟩
    case rest =>
      as_aux_lemma =>
        obtain ⟨da, dc, rfl, HBs, hBc⟩ := hcut
        obtain ⟨wa, rfl⟩ : ∃ wa : World, wa = wc := ⟨_, rfl⟩
        have HBw := Lib.hid (HB1.out.trans (hBc.out.mono HB1.out.size))
        have HDc := Lib.hid (HDn.out.below hBc.out)
        clear hBc
        go_upto_region 6 with (fail)
        go_wp2_with (fail)
        go_loop [14, 15] (fun wv iv => ∃ (j : Nat) (b : Bool), j ≤ cn ∧ iv = .int .i64 j ∧ wv = .bool b ∧ Hid (b = whB c s j)) (fun _ iv => cn - (intOf iv).toNat)
        case atStart => exact ⟨0, true, Nat.zero_le _, rfl, rfl, Lib.hid rfl⟩
        case round =>
          as_aux_lemma =>
            obtain ⟨j, b, hj, rfl, rfl, hR⟩ := hrel
            by_cases hjt : j < cn
            · obtain ⟨g1, o1, rfl, hg1, hc1⟩ := HBs.out (by omega)
              obtain ⟨g2, o2, rfl, hg2, hc2⟩ := HDc.out.at_ (k := j) (by have := HCN.out; omega)
              obtain ⟨d, hd⟩ : ∃ x, c.getD j dnZ = x := ⟨_, rfl⟩
              rw [hd] at hc2
              have d1 : wa.cell? ⟨g1, o1 + j, none⟩ = some (.bool (s.dn.testBit j)) := hc1 j hjt
              have d2 : wa.cell? ⟨g2, o2 + j * 11 + 7, none⟩ = some (.int .i64 d.en) := hc2 7 _ rfl
              obtain ⟨tb, htb⟩ : ∃ tb, s.dn.testBit j = tb := ⟨_, rfl⟩
              rw [htb] at d1
              have HS := Lib.hid (show whB c s (j + 1) = (b && (tb || decide (d.en < 0))) from by rw [whB_succ, ← hR.out, htb, hd])
              have HJt := Lib.hid hjt
              have hjb : (j : Int) < (cn : Int) := by omega
              clear hc1 hc2 hd htb hjt hj
              cases b <;> cases tb <;> cases hen : decide (d.en < 0)
              all_goals
                rw [hen] at HS
                go_wp2_with (fail)
                go_round
                case rel => exact ⟨j + 1, _, HJt.out, by go_num, rfl, Lib.hid HS.out.symm⟩
                case measure => have := HJt.out; simp [intOf]; omega
            · obtain rfl : cn = j := by omega
              have HWb := Lib.hid (show b = true ↔ WholeS c s from by rw [hR.out, ← HCN.out]; exact whB_whole c s)
              clear hjt hj hR
              go_upto_if 62 with (fail)
              obtain ⟨g', o', he', _, hce⟩ := (HErs.out.below HBw.out).at_ HLt.out
              cases he'
              rw [HD.out] at hce
              have d1 : wa.cell? ⟨g, o + k * 3 + 1, none⟩ = some (.slice e.aa e.af.length e.ac) := hce 1 _ rfl
              have d2 : wa.cell? ⟨g, o + k * 3 + 2, none⟩ = some (.bool e.kn) := hce 2 _ rfl
              have HD12 := Lib.hid (And.intro d1 d2)
              clear hce
              go_cut [] (fun wx => Hid (¬ EndOk key e (l.drop (k + 1)) s) ∧ Hid (Below wa.heap.size wa wx))
              case first =>
                as_aux_lemma =>
                  cases b with
                  | false =>
                    as_aux_lemma =>
                      have HEn := Lib.hid (show ¬ EndOk key e (l.drop (k + 1)) s from fun h => absurd h.1 (fun h9 => absurd (HWb.out.2 (by rw [← HC.out]; exact h9)) (by simp)))
                      go_wp2_with (fail)
                      go_meet
                      exact ⟨HEn, Lib.hid (Below.refl _ _)⟩
                  | true =>
                    have HWh := Lib.hid (show WholeS (ofP key e.cs) s from by rw [HC.out]; exact HWb.out.1 rfl)
                    obtain ⟨vv, hvv⟩ : ∃ vv, (valueP e.af key).1 = vv := ⟨_, rfl⟩
                    obtain ⟨vb, hvb⟩ : ∃ vb, (valueP e.af key).2 = vb := ⟨_, rfl⟩
                    have HVl := Lib.hid (rvalue_v e.af key e.aa e.ac wa HEb.out.1.2.1 (HEa.out.2.below HBw.out))
                    rw [hvv, hvb] at HVl
                    have HVv := Lib.hid (show valueP e.af key = (vv, vb) from by rw [← hvv, ← hvb])
                    obtain ⟨kn, hkn'⟩ : ∃ kn, e.kn = kn := ⟨_, rfl⟩
                    have HKn := Lib.hid hkn'
                    rw [hkn'] at d2
                    clear hvv hvb hkn'
                    go_wp2_with (fail)
                    refine HVl.out.mono ?_
                    rintro e2 w2 ⟨rfl, rfl⟩
                    cases kn with
                    | false =>
                      go_wp2_with (fail)
                      as_aux_lemma =>
                        refine (HIh.out (k + 1) (ensS s) none 0 0 wa HLt.out HLn.out (.inl ⟨rfl, rfl⟩) (HErs.out.below HBw.out)).mono ?_
                        rintro e9 w9 ⟨b9, rfl, hb9, hB9⟩
                        cases b9 with
                        | true =>
                          have HEn := Lib.hid (show EndOk key e (l.drop (k + 1)) s from ⟨HWh.out, (fun h9 => absurd (HKn.out.symm.trans h9) (by simp)), hb9.1 rfl⟩)
                          have HB9 := Lib.hid (HBw.out.trans (hB9.mono HBw.out.size))
                          clear hb9 hB9
                          go_wp2_with (fail)
                          go_ret
                          exact ⟨true, rfl, ⟨fun _ => by rw [HDr.out]; exact fits_end HEn.out, fun _ => rfl⟩, HB9.out⟩
                        | false =>
                          have HEn := Lib.hid (show ¬ EndOk key e (l.drop (k + 1)) s from fun h => absurd (hb9.2 h.2.2) (by simp))
                          have HB9 := Lib.hid hB9
                          clear hb9 hB9
                          go_wp2_with (fail)
                          go_meet
                          exact ⟨HEn, HB9⟩
                    | true =>
                      have HSv : Hid ((vv.toList == s.v.toList) = decide (vv = s.v)) := Lib.hid (str_eqD vv s.v)
                      have HEs := Lib.hid (show ensS s = startS (valueP e.af key) ↔ (vv = s.v ∧ vb = s.is) from by
                        rw [HVv.out]
                        unfold ensS startS
                        simp only [St.mkSt.injEq, true_and]
                        exact ⟨fun h => ⟨h.2.symm, h.1.symm⟩, fun h => ⟨h.2.symm, h.1.symm⟩⟩)
                      cases hs : (vv.toList == s.v.toList) with
                      | false =>
                        have HNs := Lib.hid (show ¬ vv = s.v from by rw [hs] at HSv; exact of_decide_eq_false HSv.out.symm)
                        as_aux_lemma =>
                          have HEn := Lib.hid (show ¬ EndOk key e (l.drop (k + 1)) s from fun h => absurd (HEs.out.1 (h.2.1 HKn.out)).1 HNs.out)
                          go_wp2_with (fail)
                          go_meet
                          exact ⟨HEn, Lib.hid (Below.refl _ _)⟩
                      | true =>
                        have HYs := Lib.hid (show vv = s.v from by rw [hs] at HSv; exact of_decide_eq_true HSv.out.symm)
                        cases hb2 : (vb == s.is) with
                        | false =>
                          have HNs := Lib.hid (show ¬ vb = s.is from by intro e; rw [e] at hb2; simp at hb2)
                          as_aux_lemma =>
                            have HEn := Lib.hid (show ¬ EndOk key e (l.drop (k + 1)) s from fun h => absurd (HEs.out.1 (h.2.1 HKn.out)).2 HNs.out)
                            go_wp2_with (fail)
                            go_meet
                            exact ⟨HEn, Lib.hid (Below.refl _ _)⟩
                        | true =>
                          have HYb := Lib.hid (show vb = s.is from by simpa using hb2)
                          go_wp2_with (fail)
                          as_aux_lemma =>
                            refine (HIh.out (k + 1) (ensS s) none 0 0 wa HLt.out HLn.out (.inl ⟨rfl, rfl⟩) (HErs.out.below HBw.out)).mono ?_
                            rintro e9 w9 ⟨b9, rfl, hb9, hB9⟩
                            cases b9 with
                            | true =>
                              have HEn := Lib.hid (show EndOk key e (l.drop (k + 1)) s from ⟨HWh.out, (fun _ => HEs.out.2 ⟨HYs.out, HYb.out⟩), hb9.1 rfl⟩)
                              have HB9 := Lib.hid (HBw.out.trans (hB9.mono HBw.out.size))
                              clear hb9 hB9
                              go_wp2_with (fail)
                              go_ret
                              exact ⟨true, rfl, ⟨fun _ => by rw [HDr.out]; exact fits_end HEn.out, fun _ => rfl⟩, HB9.out⟩
                            | false =>
                              have HEn := Lib.hid (show ¬ EndOk key e (l.drop (k + 1)) s from fun h => absurd (hb9.2 h.2.2) (by simp))
                              have HB9 := Lib.hid hB9
                              clear hb9 hB9
                              go_wp2_with (fail)
                              go_meet
                              exact ⟨HEn, HB9⟩
              case rest =>
                as_aux_lemma =>
                  obtain ⟨HNe, hBb⟩ := hcut
                  obtain ⟨wb, rfl⟩ : ∃ wb : World, wb = wc := ⟨_, rfl⟩
                  have HBb := Lib.hid (HBw.out.trans (hBb.out.mono HBw.out.size))
                  have HBs2 := Lib.hid (HBs.out.below hBb.out)
                  have HDc2 := Lib.hid (HDc.out.below hBb.out)
                  have HErb := Lib.hid (HErs.out.below HBb.out)
                  clear hBb d1 d2
                  go_upto_region 15 with (fail)
                  go_wp2_with (fail)
                  go_loopw [18] (fun iv wr => ∃ i : Nat, i ≤ cn ∧ iv = .int .i64 i ∧ Hid (∀ x, x < i → nextB c s x = true → ¬ FitsL key (e :: l.drop (k + 1)) (afterS s x (c.getD x dnZ))) ∧ Below wb.heap.size wb wr) (fun iv _ => cn - (intOf iv).toNat)
                  case atStart => exact ⟨0, Nat.zero_le _, rfl, Lib.hid (fun x h => absurd h (by omega)), Below.refl _ _⟩
                  case round =>
                    as_aux_lemma =>
                      obtain ⟨i, hi, rfl, hR, hB⟩ := hrel
                      have HBr := Lib.hid hB
                      by_cases hit : i < cn
                      · obtain ⟨g1, o1, rfl, hg1, hc1⟩ := HBs2.out (by omega)
                        obtain ⟨g2, o2, rfl, hg2, hc2⟩ := HDc2.out.at_ (k := i) (by have := HCN.out; omega)
                        obtain ⟨d, hd⟩ : ∃ x, c.getD i dnZ = x := ⟨_, rfl⟩
                        rw [hd] at hc2
                        have HDd := Lib.hid hd
                        have HIt := Lib.hid hit
                        have HBsW := Lib.hid (show ∀ W, Below wb.heap.size wb W → ∀ x, x < cn → W.cell? ⟨g1, o1 + x, none⟩ = some (.bool (s.dn.testBit x)) from fun W hW x hx => (hW.cell (p := ⟨g1, o1 + x, none⟩) hg1).trans (hc1 x hx))
                        have HDcW := Lib.hid (show ∀ W, Below wb.heap.size wb W → ∀ x, x < cn → cellsAt W g2 (o2 + x * 11) (dnCells (c.getD x dnZ)) from fun W hW x hx => by
                          obtain ⟨g', o', e', _, h'⟩ := HDc2.out.at_ (k := x) (by have := HCN.out; omega)
                          cases e'
                          exact h'.below hg2 hW)
                        obtain ⟨ti, hti⟩ : ∃ ti, s.dn.testBit i = ti := ⟨_, rfl⟩
                        have d1 : wr.cell? ⟨g1, o1 + i, none⟩ = some (.bool ti) := by rw [← hti]; exact HBsW.out wr hB i hit
                        have HTi := Lib.hid hti
                        have hib : (i : Int) < (cn : Int) := by omega
                        have HIb := Lib.hid hib
                        have HCp := Lib.hid (show 0 < cn by omega)
                        clear hc1 hc2 hd hti hit hi hB hg1 hg2
                        go_upto_region 19 with (fail)
                        clear d1
                        obtain ⟨wo, rfl⟩ : ∃ wo : World, wo = wr := ⟨_, rfl⟩
                        go_wp2_with (fail)
                        go_loopw [19, 20] (fun nv qv wz => ∃ (q : Nat) (b : Bool), q ≤ cn ∧ qv = .int .i64 q ∧ nv = .bool b ∧ Hid (b = nxB c s i q) ∧ Below wo.heap.size wo wz) (fun _ qv _ => cn - (intOf qv).toNat)
                        case atStart => exact ⟨0, !ti, Nat.zero_le _, rfl, rfl, Lib.hid (by rw [nxB_zero, HTi.out]), Below.refl _ _⟩
                        case round =>
                          as_aux_lemma =>
                            obtain ⟨q, b, hq, rfl, rfl, hN, hB⟩ := hrel
                            have HBz := Lib.hid hB
                            have HBy := Lib.hid (HBr.out.trans (hB.mono HBr.out.size))
                            by_cases hqt : q < cn
                            · obtain ⟨dq, hdq⟩ : ∃ x, c.getD q dnZ = x := ⟨_, rfl⟩
                              obtain ⟨tq, htq⟩ : ∃ tq, s.dn.testBit q = tq := ⟨_, rfl⟩
                              have d1 : wr.cell? ⟨g1, o1 + q, none⟩ = some (.bool tq) := by rw [← htq]; exact HBsW.out wr HBy.out q hqt
                              have HCz := Lib.hid (show ∀ W, Below wo.heap.size wo W → W.cell? ⟨g1, o1 + q, none⟩ = some (.bool tq) from fun W hW => by rw [← htq]; exact HBsW.out W (HBr.out.trans (hW.mono HBr.out.size)) q hqt)
                              have HQd := Lib.hid (show ∀ W, Below wo.heap.size wo W → cellsAt W g2 (o2 + q * 11) (dnCells dq) from fun W hW => by rw [← hdq]; exact HDcW.out W (HBr.out.trans (hW.mono HBr.out.size)) q hqt)
                              have HId := Lib.hid (show ∀ W, Below wo.heap.size wo W → cellsAt W g2 (o2 + i * 11) (dnCells d) from fun W hW => by rw [← HDd.out]; exact HDcW.out W (HBr.out.trans (hW.mono HBr.out.size)) i HIt.out)
                              have HS := Lib.hid (show nxB c s i (q + 1) = (b && (tq || !aheadP dq d)) from by rw [nxB_succ, ← hN.out, htq, hdq, HDd.out])
                              have HQt := Lib.hid hqt
                              have hqb : (q : Int) < (cn : Int) := by omega
                              have HQb := Lib.hid hqb
                              clear htq hdq hqt hq hB
                              cases b with
                              | false =>
                                go_wp2_with (fail)
                                go_quiet (fail)
                                go_wp2_with (fail)
                                go_roundw
                                case rel => exact ⟨q + 1, false, HQt.out, by go_num, rfl, Lib.hid HS.out.symm, below_drewNL HBz.out _⟩
                                case measure => have := HQt.out; simp [intOf]; omega
                              | true =>
                                cases tq with
                                | true =>
                                  go_wp2_with (fail)
                                  go_quiet (fail)
                                  go_wp2_with (fail)
                                  go_roundw
                                  case rel => exact ⟨q + 1, true, HQt.out, by go_num, rfl, Lib.hid HS.out.symm, below_drewNL HBz.out _⟩
                                  case measure => have := HQt.out; simp [intOf]; omega
                                | false =>
                                  clear d1
                                  go_wp2_with (fail)
                                  --GEN r_fit22
                                  refine wp_region_vals [Is (.bool true), Is (.bool true), Is (.slice (some ⟨g1, o1, none⟩) cn dc), Is (.int .i64 (q : Int)), Is (.pointer (some ⟨g1, o1 + q, none⟩)), Is (.bool false), Is (.bool false), Is (.slice (some ⟨g2, o2, none⟩) cn cc), Is (.int .i64 (q : Int)), Is (.pointer (some ⟨g2, o2 + q * 11, none⟩)), Is (.agg (dnCells dq)), Is (.slice (some ⟨g2, o2, none⟩) cn cc), Is (.int .i64 (i : Int)), Is (.pointer (some ⟨g2, o2 + i * 11, none⟩)), Is (.agg (dnCells d)), Is (.bool (aheadP dq d)), Is (.bool (!aheadP dq d)), Is (.bool (!aheadP dq d)), Is (.bool (!aheadP dq d)), Is (.bool (!aheadP dq d))]
                                    (fun _ W W' => Below wo.heap.size wo W → Below wo.heap.size wo W') (fun _ W => Below wo.heap.size wo W) (by kernel_rfl) (by kernel_rfl) (by kernel_rfl) ?hst ?h0 ⟨?o0, ?o1, ?o2, ?o3, ?o4, ?o5, ?o6, ?o7, ?o8, ?o9, ?o10, ?o11, ?o12, ?o13, ?o14, ?o15, ?o16, ?o17, ?o18, ?o19, trivial⟩ ?he
                                  case hst =>
                                    exact ⟨(fun _ _ _ _ _ _ h _ => h), (fun _ _ _ _ _ _ h _ => h), (fun _ _ _ _ _ _ h _ => h), (fun _ _ _ _ _ _ h _ => h), (fun _ _ _ _ _ _ h _ => h), (fun _ _ _ _ _ _ h _ => h), (fun _ _ _ _ _ _ h _ => h), (fun _ _ _ _ _ _ h _ => h), (fun _ _ _ _ _ _ h _ => h), (fun _ _ _ _ _ _ h _ => h), (fun _ _ _ _ _ _ h _ => h), (fun _ _ _ _ _ _ h _ => h), (fun _ _ _ _ _ _ h _ => h), (fun _ _ _ _ _ _ h _ => h), (fun _ _ _ _ _ _ h _ => h), (fun _ _ _ _ _ _ h _ => h), (fun _ _ _ _ _ _ h _ => h), (fun _ _ _ _ _ _ h _ => h), (fun _ _ _ _ _ _ h _ => h), (fun _ _ _ _ _ _ h _ => h), trivial⟩
                                  case h0 =>
                                    exact HBz.out.drew
                                  case o0 =>
                                    intro L vs A W H hf hd K hK
                                    have e19 : A.tmps[19]?.getD undef = .bool true := H.later 19 0 hf (by kernel_rfl)
                                    go_simp
                                    exact hK _ _ (fun h => h) rfl (H.glob)
                                  case o1 =>
                                    intro L vs A W H hf hd K hK
                                    have e115 := H.is 0 115 rfl rfl rfl (deps_of' hd 0 (by kernel_rfl)) (by kernel_rfl)
                                    go_simp
                                    exact hK _ _ (fun h => h) rfl (H.glob)
                                  case o2 =>
                                    intro L vs A W H hf hd K hK
                                    have e116 := H.is 1 116 rfl rfl rfl (deps_of' hd 1 (by kernel_rfl)) (by kernel_rfl)
                                    refine if_wanted (j := 1) (s := 116) rfl rfl rfl e116 rfl ?_
                                    have e3 : A.tmps[3]?.getD undef = .slice (some ⟨g1, o1, none⟩) cn dc := H.old 3 (by kernel_rfl)
                                    go_simp
                                    exact hK _ _ (fun h => h) rfl (H.glob)
                                  case o3 =>
                                    intro L vs A W H hf hd K hK
                                    have e116 := H.is 1 116 rfl rfl rfl (deps_of' hd 1 (by kernel_rfl)) (by kernel_rfl)
                                    refine if_wanted (j := 1) (s := 116) rfl rfl rfl e116 rfl ?_
                                    have e20 : A.tmps[20]?.getD undef = .int .i64 (q : Int) := H.old 20 (by kernel_rfl)
                                    go_simp
                                    exact hK _ _ (fun h => h) rfl (H.glob)
                                  case o4 =>
                                    intro L vs A W H hf hd K hK
                                    have e116 := H.is 1 116 rfl rfl rfl (deps_of' hd 1 (by kernel_rfl)) (by kernel_rfl)
                                    refine if_wanted (j := 1) (s := 116) rfl rfl rfl e116 rfl ?_
                                    have e117 := H.is 2 117 rfl rfl rfl (deps_of' hd 2 (by kernel_rfl)) (by kernel_rfl)
                                    have e118 := H.is 3 118 rfl rfl rfl (deps_of' hd 3 (by kernel_rfl)) (by kernel_rfl)
                                    have hjb := HQb.out
                                    go_simp
                                    exact hK _ _ (fun h => h) rfl (H.glob)
                                  case o5 =>
                                    intro L vs A W H hf hd K hK
                                    have e116 := H.is 1 116 rfl rfl rfl (deps_of' hd 1 (by kernel_rfl)) (by kernel_rfl)
                                    refine if_wanted (j := 1) (s := 116) rfl rfl rfl e116 rfl ?_
                                    have e119 := H.is 4 119 rfl rfl rfl (deps_of' hd 4 (by kernel_rfl)) (by kernel_rfl)
                                    have d1 : W.cell? ⟨g1, o1 + q, none⟩ = some (.bool false) := HCz.out W H.glob
                                    go_simp
                                    exact hK _ _ (fun h => h) rfl (H.glob)
                                  case o6 =>
                                    intro L vs A W H hf hd K hK
                                    have e116 := H.is 1 116 rfl rfl rfl (deps_of' hd 1 (by kernel_rfl)) (by kernel_rfl)
                                    refine if_wanted (j := 1) (s := 116) rfl rfl rfl e116 rfl ?_
                                    have e120 := H.is 5 120 rfl rfl rfl (deps_of' hd 5 (by kernel_rfl)) (by kernel_rfl)
                                    go_simp
                                    exact hK _ _ (fun h => h) rfl (H.glob)
                                  case o7 =>
                                    intro L vs A W H hf hd K hK
                                    have e121 := H.is 6 121 rfl rfl rfl (deps_of' hd 6 (by kernel_rfl)) (by kernel_rfl)
                                    refine if_wanted (j := 6) (s := 121) rfl rfl rfl e121 rfl ?_
                                    have e13 : A.tmps[13]?.getD undef = .slice (some ⟨g2, o2, none⟩) cn cc := H.old 13 (by kernel_rfl)
                                    go_simp
                                    exact hK _ _ (fun h => h) rfl (H.glob)
                                  case o8 =>
                                    intro L vs A W H hf hd K hK
                                    have e121 := H.is 6 121 rfl rfl rfl (deps_of' hd 6 (by kernel_rfl)) (by kernel_rfl)
                                    refine if_wanted (j := 6) (s := 121) rfl rfl rfl e121 rfl ?_
                                    have e20 : A.tmps[20]?.getD undef = .int .i64 (q : Int) := H.old 20 (by kernel_rfl)
                                    go_simp
                                    exact hK _ _ (fun h => h) rfl (H.glob)
                                  case o9 =>
                                    intro L vs A W H hf hd K hK
                                    have e121 := H.is 6 121 rfl rfl rfl (deps_of' hd 6 (by kernel_rfl)) (by kernel_rfl)
                                    refine if_wanted (j := 6) (s := 121) rfl rfl rfl e121 rfl ?_
                                    have e122 := H.is 7 122 rfl rfl rfl (deps_of' hd 7 (by kernel_rfl)) (by kernel_rfl)
                                    have e123 := H.is 8 123 rfl rfl rfl (deps_of' hd 8 (by kernel_rfl)) (by kernel_rfl)
                                    have hjb := HQb.out
                                    go_simp
                                    exact hK _ _ (fun h => h) rfl (H.glob)
                                  case o10 =>
                                    intro L vs A W H hf hd K hK
                                    have e121 := H.is 6 121 rfl rfl rfl (deps_of' hd 6 (by kernel_rfl)) (by kernel_rfl)
                                    refine if_wanted (j := 6) (s := 121) rfl rfl rfl e121 rfl ?_
                                    have e124 := H.is 9 124 rfl rfl rfl (deps_of' hd 9 (by kernel_rfl)) (by kernel_rfl)
                                    refine wp_load_dn (.tmp 124) rfl g2 (o2 + q * 11) dq (ev_tmp e124) (HQd.out W H.glob) ?_
                                    exact hK _ _ (fun h => h) rfl H.glob
                                  case o11 =>
                                    intro L vs A W H hf hd K hK
                                    have e121 := H.is 6 121 rfl rfl rfl (deps_of' hd 6 (by kernel_rfl)) (by kernel_rfl)
                                    refine if_wanted (j := 6) (s := 121) rfl rfl rfl e121 rfl ?_
                                    have e13 : A.tmps[13]?.getD undef = .slice (some ⟨g2, o2, none⟩) cn cc := H.old 13 (by kernel_rfl)
                                    go_simp
                                    exact hK _ _ (fun h => h) rfl (H.glob)
                                  case o12 =>
                                    intro L vs A W H hf hd K hK
                                    have e121 := H.is 6 121 rfl rfl rfl (deps_of' hd 6 (by kernel_rfl)) (by kernel_rfl)
                                    refine if_wanted (j := 6) (s := 121) rfl rfl rfl e121 rfl ?_
                                    have e18 : A.tmps[18]?.getD undef = .int .i64 (i : Int) := H.old 18 (by kernel_rfl)
                                    go_simp
                                    exact hK _ _ (fun h => h) rfl (H.glob)
                                  case o13 =>
                                    intro L vs A W H hf hd K hK
                                    have e121 := H.is 6 121 rfl rfl rfl (deps_of' hd 6 (by kernel_rfl)) (by kernel_rfl)
                                    refine if_wanted (j := 6) (s := 121) rfl rfl rfl e121 rfl ?_
                                    have e126 := H.is 11 126 rfl rfl rfl (deps_of' hd 11 (by kernel_rfl)) (by kernel_rfl)
                                    have e127 := H.is 12 127 rfl rfl rfl (deps_of' hd 12 (by kernel_rfl)) (by kernel_rfl)
                                    have hjb := HIb.out
                                    go_simp
                                    exact hK _ _ (fun h => h) rfl (H.glob)
                                  case o14 =>
                                    intro L vs A W H hf hd K hK
                                    have e121 := H.is 6 121 rfl rfl rfl (deps_of' hd 6 (by kernel_rfl)) (by kernel_rfl)
                                    refine if_wanted (j := 6) (s := 121) rfl rfl rfl e121 rfl ?_
                                    have e128 := H.is 13 128 rfl rfl rfl (deps_of' hd 13 (by kernel_rfl)) (by kernel_rfl)
                                    refine wp_load_dn (.tmp 128) rfl g2 (o2 + i * 11) d (ev_tmp e128) (HId.out W H.glob) ?_
                                    exact hK _ _ (fun h => h) rfl H.glob
                                  case o15 =>
                                    intro L vs A W H hf hd K hK
                                    have e121 := H.is 6 121 rfl rfl rfl (deps_of' hd 6 (by kernel_rfl)) (by kernel_rfl)
                                    refine if_wanted (j := 6) (s := 121) rfl rfl rfl e121 rfl ?_
                                    have e125 := H.is 10 125 rfl rfl rfl (deps_of' hd 10 (by kernel_rfl)) (by kernel_rfl)
                                    have e129 := H.is 14 129 rfl rfl rfl (deps_of' hd 14 (by kernel_rfl)) (by kernel_rfl)
                                    go_simp
                                    refine (rahead_v dq d W).mono ?_
                                    rintro e8 W8 ⟨rfl, hb8⟩
                                    go_simp
                                    exact hK _ _ (fun h => h.trans (hb8.mono h.size)) rfl (H.glob.trans (hb8.mono H.glob.size))
                                  case o16 =>
                                    intro L vs A W H hf hd K hK
                                    have e121 := H.is 6 121 rfl rfl rfl (deps_of' hd 6 (by kernel_rfl)) (by kernel_rfl)
                                    refine if_wanted (j := 6) (s := 121) rfl rfl rfl e121 rfl ?_
                                    have e130 := H.is 15 130 rfl rfl rfl (deps_of' hd 15 (by kernel_rfl)) (by kernel_rfl)
                                    go_simp
                                    exact hK _ _ (fun h => h) rfl (H.glob)
                                  case o17 =>
                                    intro L vs A W H hf hd K hK
                                    have e116 := H.is 1 116 rfl rfl rfl (deps_of' hd 1 (by kernel_rfl)) (by kernel_rfl)
                                    refine if_wanted (j := 1) (s := 116) rfl rfl rfl e116 rfl ?_
                                    have e121 := H.is 6 121 rfl rfl rfl (deps_of' hd 6 (by kernel_rfl)) (by kernel_rfl)
                                    have e131 := H.is 16 131 rfl rfl rfl (deps_of' hd 16 (by kernel_rfl)) (by kernel_rfl)
                                    go_simp
                                    exact hK _ _ (fun h => h) rfl (H.glob)
                                  case o18 =>
                                    intro L vs A W H hf hd K hK
                                    have e116 := H.is 1 116 rfl rfl rfl (deps_of' hd 1 (by kernel_rfl)) (by kernel_rfl)
                                    have e132 := H.is 17 132 rfl rfl rfl (deps_of' hd 17 (by kernel_rfl)) (by kernel_rfl)
                                    go_simp
                                    exact hK _ _ (fun h => h) rfl (H.glob)
                                  case o19 =>
                                    intro L vs A W H hf hd K hK
                                    have e133 := H.is 18 133 rfl rfl rfl (deps_of' hd 18 (by kernel_rfl)) (by kernel_rfl)
                                    go_simp
                                    exact hK _ _ (fun h => h) rfl (H.glob)
                                  case he =>
                                    intro vs W hlen hv
                                    match vs, hlen, hv with
                                    | [x0_, x1_, x2_, x3_, x4_, x5_, x6_, x7_, x8_, x9_, x10_, x11_, x12_, x13_, x14_, x15_, x16_, x17_, x18_, x19_], _, hv =>
                                    obtain rfl : (.bool true) = x0_ := by obtain ⟨z, h1, h2⟩ := hv 0 _ rfl; cases h1; exact h2.symm
                                    obtain rfl : (.bool true) = x1_ := by obtain ⟨z, h1, h2⟩ := hv 1 _ rfl; cases h1; exact h2.symm
                                    obtain rfl : (.slice (some ⟨g1, o1, none⟩) cn dc) = x2_ := by obtain ⟨z, h1, h2⟩ := hv 2 _ rfl; cases h1; exact h2.symm
                                    obtain rfl : (.int .i64 (q : Int)) = x3_ := by obtain ⟨z, h1, h2⟩ := hv 3 _ rfl; cases h1; exact h2.symm
                                    obtain rfl : (.pointer (some ⟨g1, o1 + q, none⟩)) = x4_ := by obtain ⟨z, h1, h2⟩ := hv 4 _ rfl; cases h1; exact h2.symm
                                    obtain rfl : (.bool false) = x5_ := by obtain ⟨z, h1, h2⟩ := hv 5 _ rfl; cases h1; exact h2.symm
                                    obtain rfl : (.bool false) = x6_ := by obtain ⟨z, h1, h2⟩ := hv 6 _ rfl; cases h1; exact h2.symm
                                    obtain rfl : (.slice (some ⟨g2, o2, none⟩) cn cc) = x7_ := by obtain ⟨z, h1, h2⟩ := hv 7 _ rfl; cases h1; exact h2.symm
                                    obtain rfl : (.int .i64 (q : Int)) = x8_ := by obtain ⟨z, h1, h2⟩ := hv 8 _ rfl; cases h1; exact h2.symm
                                    obtain rfl : (.pointer (some ⟨g2, o2 + q * 11, none⟩)) = x9_ := by obtain ⟨z, h1, h2⟩ := hv 9 _ rfl; cases h1; exact h2.symm
                                    obtain rfl : (.agg (dnCells dq)) = x10_ := by obtain ⟨z, h1, h2⟩ := hv 10 _ rfl; cases h1; exact h2.symm
                                    obtain rfl : (.slice (some ⟨g2, o2, none⟩) cn cc) = x11_ := by obtain ⟨z, h1, h2⟩ := hv 11 _ rfl; cases h1; exact h2.symm
                                    obtain rfl : (.int .i64 (i : Int)) = x12_ := by obtain ⟨z, h1, h2⟩ := hv 12 _ rfl; cases h1; exact h2.symm
                                    obtain rfl : (.pointer (some ⟨g2, o2 + i * 11, none⟩)) = x13_ := by obtain ⟨z, h1, h2⟩ := hv 13 _ rfl; cases h1; exact h2.symm
                                    obtain rfl : (.agg (dnCells d)) = x14_ := by obtain ⟨z, h1, h2⟩ := hv 14 _ rfl; cases h1; exact h2.symm
                                    obtain rfl : (.bool (aheadP dq d)) = x15_ := by obtain ⟨z, h1, h2⟩ := hv 15 _ rfl; cases h1; exact h2.symm
                                    obtain rfl : (.bool (!aheadP dq d)) = x16_ := by obtain ⟨z, h1, h2⟩ := hv 16 _ rfl; cases h1; exact h2.symm
                                    obtain rfl : (.bool (!aheadP dq d)) = x17_ := by obtain ⟨z, h1, h2⟩ := hv 17 _ rfl; cases h1; exact h2.symm
                                    obtain rfl : (.bool (!aheadP dq d)) = x18_ := by obtain ⟨z, h1, h2⟩ := hv 18 _ rfl; cases h1; exact h2.symm
                                    obtain rfl : (.bool (!aheadP dq d)) = x19_ := by obtain ⟨z, h1, h2⟩ := hv 19 _ rfl; cases h1; exact h2.symm
                                    intro L hall hG
                                    clear hv hlen
                                    have HG := Lib.hid hG
                                    clear hG hall
                                    simp only [fill, if_true]
                                    simp [Act.put]
                                  --END
                                    go_wp2_with (fail)
                                    go_roundw
                                    case rel => exact ⟨q + 1, !aheadP dq d, HQt.out, by go_num, rfl, Lib.hid (by rw [HS.out]; rfl), HG.out⟩
                                    case measure => have := HQt.out; simp [intOf]; omega
                            · obtain rfl : cn = q := by omega
                              have HNx := Lib.hid (show nextB c s i = (b && rightS s d) from by rw [nxB_next, HCN.out, ← hN.out, HDd.out])
                              clear hqt hq hB
                              cases b with
                              | false =>
                                have HNn := Lib.hid (show nextB c s i = false from HNx.out)
                                go_wp2_with (fail)
                                go_roundw
                                case rel => exact ⟨i + 1, HIt.out, by go_num, Lib.hid (fun x hx hn => by
                                  by_cases e9 : x = i
                                  · subst e9; rw [HNn.out] at hn; cases hn
                                  · exact hR.out x (by omega) hn), HBy.out⟩
                                case measure => have := HIt.out; simp [intOf]; omega
                              | true =>
                                have HNn := Lib.hid (show nextB c s i = rightS s d from HNx.out)
                                have hcd := HDcW.out wr HBy.out i HIt.out
                                rw [HDd.out] at hcd
                                have x1 : wr.cell? ⟨g2, o2 + i * 11 + 1, none⟩ = some (.int .i64 d.op) := hcd 1 _ rfl
                                have x5 : wr.cell? ⟨g2, o2 + i * 11 + 5, none⟩ = some (.string d.val) := hcd 5 _ rfl
                                have x7 : wr.cell? ⟨g2, o2 + i * 11 + 7, none⟩ = some (.int .i64 d.en) := hcd 7 _ rfl
                                have x8 : wr.cell? ⟨g2, o2 + i * 11 + 8, none⟩ = some (.int .i64 d.code) := hcd 8 _ rfl
                                have x9 : wr.cell? ⟨g2, o2 + i * 11 + 9, none⟩ = some (.string d.rv) := hcd 9 _ rfl
                                clear hcd
                                obtain ⟨si, hsi⟩ : ∃ si, s.is = si := ⟨_, rfl⟩
                                rw [hsi]
                                have HSi := Lib.hid hsi
                                clear hsi
                                go_upto_region 25 with (fail)
                                go_cut [146] (fun v146 wx => v146 = .bool (!si && (d.op != 1)) ∧ wr = wx)
                                case first =>
                                  as_aux_lemma =>
                                    cases si <;> cases h1 : (d.op != 1)
                                    all_goals
                                      go_wp2_with (fail)
                                      go_meet
                                      exact ⟨by first | rfl | (rw [h1]; rfl), rfl⟩
                                case rest =>
                                  as_aux_lemma =>
                                    obtain ⟨rfl, rfl⟩ := hcut
                                    obtain ⟨cd, hcd⟩ : ∃ cd, codeS s d = cd := ⟨_, rfl⟩
                                    have HCo := Lib.hid (show cd = if (!si && (d.op != 1)) = true then 5 else 0 from by rw [← hcd, code_f, HSi.out])
                                    have HCd := Lib.hid hcd
                                    clear hcd
                                    go_upto_if 146 with (fail)
                                    go_cut [21] (fun v21 wx => v21 = .int .i64 cd ∧ wr = wx)
                                    case first =>
                                      as_aux_lemma =>
                                        cases h1 : (!si && (d.op != 1)) with
                                        | true =>
                                          rw [h1, if_pos rfl] at HCo
                                          go_wp2_with (fail)
                                          go_meet
                                          exact ⟨by rw [HCo.out], rfl⟩
                                        | false =>
                                          rw [h1, if_neg (by simp)] at HCo
                                          go_wp2_with (fail)
                                          go_meet
                                          exact ⟨by rw [HCo.out], rfl⟩
                                    case rest =>
                                      as_aux_lemma =>
                                        obtain ⟨rfl, rfl⟩ := hcut
                                        have HRf := Lib.hid (right_f s d)
                                        rw [HCd.out, HSi.out] at HRf
                                        go_upto_region 27 with (fail)
                                        go_cut [206] (fun v206 wx => v206 = .bool (!rightS s d) ∧ wr = wx)
                                        case first =>
                                          as_aux_lemma =>
                                            cases h7 : decide (0 ≤ d.en) with
                                            | false =>
                                              rw [h7] at HRf
                                              as_aux_lemma =>
                                                have HL := Lib.hid (show (!rightS s d) = false from by rw [HRf.out]; first | rfl | (simp only [h7]; rfl))
                                                go_wp2_with (fail)
                                                go_meet
                                                exact ⟨by rw [HL.out], rfl⟩
                                            | true =>
                                              cases h8 : (d.code != cd) with
                                              | true =>
                                                rw [h7, h8] at HRf
                                                as_aux_lemma =>
                                                  have HL := Lib.hid (show (!rightS s d) = true from by rw [HRf.out]; first | rfl | (simp only [h7]; rfl))
                                                  go_wp2_with (fail)
                                                  go_meet
                                                  exact ⟨by rw [HL.out], rfl⟩
                                              | false =>
                                                cases h2 : (d.op == 2) with
                                                | false =>
                                                  rw [h7, h8, h2] at HRf
                                                  as_aux_lemma =>
                                                    have HL := Lib.hid (show (!rightS s d) = false from by rw [HRf.out]; first | rfl | (simp only [h7]; rfl))
                                                    go_wp2_with (fail)
                                                    go_meet
                                                    exact ⟨by rw [HL.out], rfl⟩
                                                | true =>
                                                  cases si with
                                                  | true =>
                                                    cases hv : (d.rv.toList == s.v.toList) with
                                                    | true =>
                                                      have hvn : (d.rv.toList != s.v.toList) = false := by unfold bne; rw [hv]; rfl
                                                      rw [h7, h8, h2, if_pos rfl, hv] at HRf
                                                      as_aux_lemma =>
                                                        have HL := Lib.hid (show (!rightS s d) = false from by rw [HRf.out]; first | rfl | (simp only [h7]; rfl))
                                                        go_wp2_with (fail)
                                                        go_meet
                                                        exact ⟨by rw [HL.out], rfl⟩
                                                    | false =>
                                                      have hvn : (d.rv.toList != s.v.toList) = true := by unfold bne; rw [hv]; rfl
                                                      rw [h7, h8, h2, if_pos rfl, hv] at HRf
                                                      as_aux_lemma =>
                                                        have HL := Lib.hid (show (!rightS s d) = true from by rw [HRf.out]; first | rfl | (simp only [h7]; rfl))
                                                        go_wp2_with (fail)
                                                        go_meet
                                                        exact ⟨by rw [HL.out], rfl⟩
                                                  | false =>
                                                    cases hv : d.rv.toList.isEmpty with
                                                    | true =>
                                                      have hvn : (!d.rv.toList.isEmpty) = false := by rw [hv]; rfl
                                                      rw [h7, h8, h2, if_neg (by simp), hv] at HRf
                                                      as_aux_lemma =>
                                                        have HL := Lib.hid (show (!rightS s d) = false from by rw [HRf.out]; first | rfl | (simp only [h7]; rfl))
                                                        go_wp2_with (fail)
                                                        go_meet
                                                        exact ⟨by rw [HL.out], rfl⟩
                                                    | false =>
                                                      have hvn : (!d.rv.toList.isEmpty) = true := by rw [hv]; rfl
                                                      rw [h7, h8, h2, if_neg (by simp), hv] at HRf
                                                      as_aux_lemma =>
                                                        have HL := Lib.hid (show (!rightS s d) = true from by rw [HRf.out]; first | rfl | (simp only [h7]; rfl))
                                                        go_wp2_with (fail)
                                                        go_meet
                                                        exact ⟨by rw [HL.out], rfl⟩
                                        case rest =>
                                          as_aux_lemma =>
                                            obtain ⟨rfl, rfl⟩ := hcut
                                            clear x7 x8 x9
                                            obtain rfl := HSi.out
                                            go_upto_if 206 with (fail)
                                            cases hr : rightS s d with
                                            | false =>
                                              as_aux_lemma =>
                                                have HNf := Lib.hid (HNn.out.trans hr)
                                                clear hr
                                                go_wp2_with (fail)
                                                go_roundw
                                                case rel => exact ⟨i + 1, HIt.out, by go_num, Lib.hid (fun x hx hn => by
                                                  by_cases e9 : x = i
                                                  · subst e9; rw [HNf.out] at hn; cases hn
                                                  · exact hR.out x (by omega) hn), HBy.out⟩
                                                case measure => have := HIt.out; simp [intOf]; omega
                                            | true =>
                                              as_aux_lemma =>
                                                have HSt := Lib.hid (show StepA c s i (afterS s i d) from by
                                                  have h9 := (nextB_iff c s i (by rw [HCN.out]; exact HIt.out)).1 (HNn.out.trans hr)
                                                  rw [HDd.out] at h9; exact h9)
                                                have HOp := Lib.hid (show d.op = 1 ∨ d.op = 2 ∨ d.op = 3 from ofP_op (key := key) (cs := e.cs) (by rw [HC.out, ← HDd.out]; exact getD_memL c i dnZ (by rw [HCN.out]; exact HIt.out)))
                                                have HBsR := Lib.hid (HBs2.out.below HBy.out)
                                                clear hr x1 x5
                                                go_upto_region 28 with (fail)
                                                go_step
                                                refine wpList_plain rfl (fun K hK => ?_)
                                                go_simp
                                                refine hK _ _ ?_
                                                clear hK K
                                                obtain ⟨i0, hi0, hz0, hz1, hz2⟩ := infoBool
                                                refine wpList_append_any wr rfl (.const (.slice none 0 0)) (.tmp 207) 93 rfl wr.heap.size 4 i0 _ 1 1 Try.underlying93 hi0 hz0 hz1 hz2 rfl (by decide) (.slice none 0 0) 0 [] rfl (World.ownsRow_nil _ _ _ _) wr.heap.size (some ⟨g1, o1, none⟩) cn dc (bsV cn (fun x => s.dn.testBit x)) (ev_tmp (by first | (simp [Act.put]; done) | rfl)) HBsR.out.reads (bsV_one _ _) (by unfold maxLen; omega) (by omega) (Nat.le_refl _) ?_
                                                intro v4 w4 ho4 hg4 _
                                                rw [Nat.zero_add, List.nil_append] at ho4
                                                have hk4 : Keeps (fun _ => False) wr w4 := (Keeps.refl _ wr).grown hg4 (fun k hk => by cases hk)
                                                have hB4 : Below wr.heap.size wr w4 := below_keeps (Below.refl _ wr) (Nat.le_refl _) hk4 (fun _ h => h.elim)
                                                obtain ⟨g9, c9, rfl, hg9, hlt9, _, _, _, hc9, hf9⟩ := own_shape ho4 HCp.out
                                                have y1 : w4.cell? ⟨g9, i, none⟩ = some (.bool ti) := by rw [hc9 i HIt.out, bsV_get _ _ i HIt.out, HTi.out]
                                                have y2 := hf9 i
                                                have ho5 := own_setB ho4 i (.bool true)
                                                rw [bsV_set] at ho5
                                                have hB5 : Below wr.heap.size wr (w4.setCell ⟨g9, i, none⟩ (.bool true)) := below_keeps hB4 (Nat.le_refl _) ((Keeps.refl (fun k => k = g9) w4).setCell (p := ⟨g9, i, none⟩) (.inl rfl) _) (fun x hx => by rw [hx]; exact hg9)
                                                have HO5 := Lib.hid ho5
                                                have HB5 := Lib.hid hB5
                                                clear hi0 hz0 hz1 hz2 ho4 hg4 hk4 hB4 hg9 hlt9 hc9 hf9 ho5 hB5
                                                go_upto_region 31 with (fail)
                                                clear y1 y2
                                                generalize w4.setCell ⟨g9, i, none⟩ (.bool true) = w5 at HO5 HB5 ⊢
                                                have HB6 := Lib.hid (HBy.out.trans (HB5.out.mono HBy.out.size))
                                                have HB7 := Lib.hid (HBb.out.trans (HB6.out.mono HBb.out.size))
                                                have hcd := HDcW.out w5 HB6.out i HIt.out
                                                rw [HDd.out] at hcd
                                                have x1 : w5.cell? ⟨g2, o2 + i * 11 + 1, none⟩ = some (.int .i64 d.op) := hcd 1 _ rfl
                                                have x5 : w5.cell? ⟨g2, o2 + i * 11 + 5, none⟩ = some (.string d.val) := hcd 5 _ rfl
                                                have HRow := Lib.hid (show BsRow w5 (some ⟨g9, 0, none⟩) cn (fun x => (afterS s i d).dn.testBit x) from by
                                                  obtain ⟨a9, c9', h1, h2⟩ := own_bs HO5.out
                                                  cases h1
                                                  intro hn
                                                  obtain ⟨g', o', h3, h4, h5⟩ := h2 hn
                                                  exact ⟨g', o', h3, h4, fun x hx => by rw [h5 x hx]; simp only [testBit_after]⟩)
                                                have HIn := Lib.hid (show Calls Try.prog 29 #[.int .u64 key, .slice (some ⟨g, o, none⟩) l.length lc, .int .i64 k, .slice (some ⟨g9, 0, none⟩) cn c9, .string (afterS s i d).v, .bool (afterS s i d).is] w5 (FitsQ key l k (afterS s i d) w5) from
                                                  HIh.out k (afterS s i d) (some ⟨g9, 0, none⟩) cn c9 w5 (Nat.le_of_lt HLt.out) (by
                                                    rw [HDr.out]
                                                    have h1 := left_step (key := key) (e := e) (r := l.drop (k + 1)) (s := s) (n := afterS s i d) (i := i) (by rw [HC.out]; exact HSt.out)
                                                    have h2 := HMm.out
                                                    omega) (.inr ⟨HCp.out, by rw [HD.out, HC.out, HCN.out], by rw [HD.out, HC.out, HCN.out]; exact HRow.out⟩) (HErs.out.below HB7.out))
                                                have HNo := Lib.hid (show ¬ FitsL key (e :: l.drop (k + 1)) (afterS s i d) → ∀ x, x < i + 1 → nextB c s x = true → ¬ FitsL key (e :: l.drop (k + 1)) (afterS s x (c.getD x dnZ)) from fun h x hx hn => by
                                                  by_cases e9 : x = i
                                                  · subst e9; rw [HDd.out]; exact h
                                                  · exact hR.out x (by omega) hn)
                                                have HYe := Lib.hid (show FitsL key (e :: l.drop (k + 1)) (afterS s i d) → FitsL key (l.drop k) s from fun h => by
                                                  rw [HDr.out]; exact fits_step (by rw [HC.out]; exact HSt.out) h)
                                                rw [show FitsQ key l k (afterS s i d) w5 = FitsQ' key (e :: l.drop (k + 1)) (afterS s i d) w5 from by unfold FitsQ FitsQ'; rw [HDr.out]] at HIn
                                                clear hcd HRow
                                                rcases HOp.out with h1 | h1 | h1
                                                · have hv : (afterS s i d).v = d.val := by unfold afterS; rw [if_pos h1]
                                                  have hs : (afterS s i d).is = true := by unfold afterS; rw [if_pos h1]
                                                  have e1 : (d.op == 1) = true := by rw [h1]; rfl
                                                  have e3 : (d.op == 3) = false := by rw [h1]; rfl
                                                  rw [hv, hs] at HIn
                                                  generalize afterS s i d = nn at HIn HNo HYe HSt
                                                  clear hv hs h1
                                                  as_aux_lemma =>
                                                    go_wp2_with (fail)
                                                    refine HIn.out.mono ?_
                                                    rintro e9 w9 ⟨b9, rfl, hb9, hB9⟩
                                                    cases b9 with
                                                    | true =>
                                                      have HY9 := Lib.hid (HYe.out (hb9.1 rfl))
                                                      have HB9 := Lib.hid (HB7.out.trans (hB9.mono HB7.out.size))
                                                      clear hb9 hB9
                                                      go_wp2_with (fail)
                                                      go_ret
                                                      exact ⟨true, rfl, ⟨fun _ => HY9.out, fun _ => rfl⟩, HB9.out⟩
                                                    | false =>
                                                      have HN9 := Lib.hid (HNo.out (fun h => absurd (hb9.2 h) (by simp)))
                                                      have HB9 := Lib.hid (HB6.out.trans (hB9.mono HB6.out.size))
                                                      clear hb9 hB9
                                                      go_wp2_with (fail)
                                                      go_roundw
                                                      case rel => exact ⟨i + 1, HIt.out, by go_num, HN9, HB9.out⟩
                                                      case measure => have := HIt.out; simp [intOf]; omega
                                                · have hv : (afterS s i d).v = s.v := by unfold afterS; rw [if_neg (by omega), if_neg (by omega)]
                                                  have hs : (afterS s i d).is = s.is := by unfold afterS; rw [if_neg (by omega), if_neg (by omega)]
                                                  have e1 : (d.op == 1) = false := by rw [h1]; rfl
                                                  have e3 : (d.op == 3) = false := by rw [h1]; rfl
                                                  rw [hv, hs] at HIn
                                                  generalize afterS s i d = nn at HIn HNo HYe HSt
                                                  clear hv hs h1
                                                  as_aux_lemma =>
                                                    go_wp2_with (fail)
                                                    refine HIn.out.mono ?_
                                                    rintro e9 w9 ⟨b9, rfl, hb9, hB9⟩
                                                    cases b9 with
                                                    | true =>
                                                      have HY9 := Lib.hid (HYe.out (hb9.1 rfl))
                                                      have HB9 := Lib.hid (HB7.out.trans (hB9.mono HB7.out.size))
                                                      clear hb9 hB9
                                                      go_wp2_with (fail)
                                                      go_ret
                                                      exact ⟨true, rfl, ⟨fun _ => HY9.out, fun _ => rfl⟩, HB9.out⟩
                                                    | false =>
                                                      have HN9 := Lib.hid (HNo.out (fun h => absurd (hb9.2 h) (by simp)))
                                                      have HB9 := Lib.hid (HB6.out.trans (hB9.mono HB6.out.size))
                                                      clear hb9 hB9
                                                      go_wp2_with (fail)
                                                      go_roundw
                                                      case rel => exact ⟨i + 1, HIt.out, by go_num, HN9, HB9.out⟩
                                                      case measure => have := HIt.out; simp [intOf]; omega
                                                · have hv : (afterS s i d).v = ⟨#[]⟩ := by unfold afterS; rw [if_neg (by omega), if_pos h1]
                                                  have hs : (afterS s i d).is = false := by unfold afterS; rw [if_neg (by omega), if_pos h1]
                                                  have e1 : (d.op == 1) = false := by rw [h1]; rfl
                                                  have e3 : (d.op == 3) = true := by rw [h1]; rfl
                                                  rw [hv, hs] at HIn
                                                  generalize afterS s i d = nn at HIn HNo HYe HSt
                                                  clear hv hs h1
                                                  as_aux_lemma =>
                                                    go_wp2_with (fail)
                                                    refine HIn.out.mono ?_
                                                    rintro e9 w9 ⟨b9, rfl, hb9, hB9⟩
                                                    cases b9 with
                                                    | true =>
                                                      have HY9 := Lib.hid (HYe.out (hb9.1 rfl))
                                                      have HB9 := Lib.hid (HB7.out.trans (hB9.mono HB7.out.size))
                                                      clear hb9 hB9
                                                      go_wp2_with (fail)
                                                      go_ret
                                                      exact ⟨true, rfl, ⟨fun _ => HY9.out, fun _ => rfl⟩, HB9.out⟩
                                                    | false =>
                                                      have HN9 := Lib.hid (HNo.out (fun h => absurd (hb9.2 h) (by simp)))
                                                      have HB9 := Lib.hid (HB6.out.trans (hB9.mono HB6.out.size))
                                                      clear hb9 hB9
                                                      go_wp2_with (fail)
                                                      go_roundw
                                                      case rel => exact ⟨i + 1, HIt.out, by go_num, HN9, HB9.out⟩
                                                      case measure => have := HIt.out; simp [intOf]; omega
                      · have hib : ¬ (i : Int) < (cn : Int) := by omega
                        have HF := Lib.hid (show ¬ FitsL key (e :: l.drop (k + 1)) s from fits_no HNe.out (fun x hx hn => by
                          rw [HC.out] at hx hn ⊢
                          exact hR.out x (by have := HCN.out; omega) hn))
                        have HBf := Lib.hid (HBb.out.trans (hB.mono HBb.out.size))
                        clear hB hit hi
                        go_wp2_with (fail)
                        go_ret
                        exact ⟨false, rfl, ⟨fun h => absurd h (by simp), fun h => absurd (by rw [HDr.out] at h; exact h) HF.out⟩, HBf.out⟩
  · obtain rfl : k = l.length := by omega
    clear ih hm hdone herr hlt hk hb
    go_enter Try.func29, Try.ntmps29
    go_wp2_with (fail)
    go_ret
    exact ⟨true, rfl, ⟨fun _ => by rw [List.drop_length]; trivial, fun _ => rfl⟩, Below.refl _ _⟩
theorem fits_v (key : Int) (l : List Er) (la : Option Addr) (lc : Nat) (hb : FitB l) : ∀ m, FitH key l la lc m
  | 0 => fun _ _ _ _ _ _ _ h _ _ => absurd h (Nat.not_lt_zero _)
  | m + 1 => fits_step_v key l la lc hb m (fits_v key l la lc hb m)
end Go.Proofs.Ytdmcakoaakinnaa
