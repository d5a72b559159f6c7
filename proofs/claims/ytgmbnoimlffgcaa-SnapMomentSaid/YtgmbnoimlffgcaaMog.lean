/-
  The law SnapMoment: the walk.
-/
import Derived.Test.YtgmbnoimlffgcaaMof
import Derived.Deep.DeepCutAuto
namespace Go.Proofs.Ytgmbnoimlffgcaa
open Go.RowKit
attribute [local go_sem] Oper.semAt_some
set_option linter.unusedVariables false

def BoolsAt (w : World) (a : Option Addr) (n : Nat) (f : Nat → Bool) : Prop := 0 < n → ∃ g o, a = some ⟨g, o, none⟩ ∧ g < w.heap.size ∧ ∀ i, i < n → w.cell? ⟨g, o + i, none⟩ = some (.bool (f i))
theorem BoolsAt.below {w w' : World} {a : Option Addr} {n : Nat} {f : Nat → Bool} (h : BoolsAt w a n f) (hB : Below w.heap.size w w') {g o : Nat} {i : Nat} (e : a = some ⟨g, o, none⟩) (hi : i < n) : w'.cell? ⟨g, o + i, none⟩ = some (.bool (f i)) := by
  obtain ⟨g', o', e', hg, hc⟩ := h (by omega)
  rw [e] at e'
  injection e' with e'
  injection e' with e1 e2
  subst e1 e2
  rw [hB.cell (p := ⟨g, o + i, none⟩) hg]
  exact hc i hi
theorem built_wr (mb : Nat) (m : Nd) (a : Option Addr) (n c : Nat) : Try.prog.built 76 [(0, .pointer (some ⟨mb, 0, none⟩)), (1, .agg (ndCells m)), (2, .slice a n c)] = some (wrCells mb m (.slice a n c) none) := by kernel_rfl
theorem wpList_bld_wr {ops : Array Oper} {rest : List Oper} {o : Oper} {a : Act} {w : World} {Q : Exit → Act → World → Prop} (hgd : o.guard = none) (x y z : Operand) (ho : o.op = .build 76 #[(0, x), (1, y), (2, z)])
    (mb : Nat) (m : Nd) (pa : Option Addr) (n c : Nat) (hx : a.eval x = .pointer (some ⟨mb, 0, none⟩)) (hy : a.eval y = .agg (ndCells m)) (hz : a.eval z = .slice pa n c)
    (h : wpList Try.prog ops Q rest (a.put o.dst (.agg (wrCells mb m (.slice pa n c) none))) w) : wpList Try.prog ops Q (o :: rest) a w := by
  refine wpList_bld hgd 76 #[(0, x), (1, y), (2, z)] ho (wrCells mb m (.slice pa n c) none) ?_ h
  simp only [List.map_toArray, List.map_cons, List.map_nil, hx, hy, hz]
  exact built_wr mb m pa n c
set_option maxRecDepth 100000 in
set_option maxHeartbeats 100000000 in
theorem moment_v (n : Nd) (hw : n.Wf) (low : Int) (hl0 : 0 ≤ low) (hl1 : low ≤ 18446744073709551615) (pa pt : Option Addr) (l : List Rq) (ca nt ct : Nat) (ft : Nat → Bool) (ahead : Int) (w : World)
    (ha : AskAt w w.heap.size (.slice pa l.length ca) l) (hlu : ∀ x ∈ l, U64 x.2.1 ∧ U64 x.2.2) (hln : l.length ≤ 9223372036854775807) (hnt : nt ≤ 9223372036854775807) (hbt : BoolsAt w pt nt ft) :
    Calls Try.prog 6 #[.agg (ndCells n), .int .u64 low, .slice pa l.length ca, .int .i64 ahead, .slice pt nt ct] w fun e w' => e = .returned (.bool true) ∧ Below w.heap.size w w' := by
  have hwm := rightN_wf hw
  have hnx := rightN_nx n
  have HRt := Lib.hid (fun W => right_v n W)
  obtain ⟨m, hm⟩ : ∃ m, rightN n = m := ⟨_, rfl⟩
  rw [hm] at hwm hnx HRt
  obtain ⟨ib, hib⟩ : ∃ ib, rightB m = ib := ⟨_, rfl⟩
  rw [hib] at HRt
  have HLa := Lib.hid (fun W => laid_v m hwm.lv (fun i => wordsF_rng hwm i) low hl0 hl1 W)
  have HIb := Lib.hid hib
  have HNx := Lib.hid hnx
  have HWm := Lib.hid hwm
  have HAk := Lib.hid ha
  have HLu := Lib.hid hlu
  have HLn := Lib.hid hln
  have HNt := Lib.hid hnt
  have HBt := Lib.hid hbt
  have HW0 := Lib.hid (show w = w from rfl)
  have hb0 : Blk (w.alloc (.cells (ndCells n) 40)) w.heap.size (ndCells n) 40 := Blk.new w _ _
  have hB0 : Below w.heap.size w (w.alloc (.cells (ndCells n) 40)) := (Below.refl _ w).alloc (Nat.le_refl _) _
  obtain ⟨b, hb⟩ : ∃ b, w.heap.size = b := ⟨_, rfl⟩
  rw [hb] at hb0 hB0 HAk
  have HBE := Lib.hid hb
  have HB0 := Lib.hid hb0
  have HK0 := Lib.hid hB0
  have HL0 := Lib.hid (ndLoad hb0)
  clear hm hib hwm hnx hw hl0 hl1 hb0 hB0 ha hlu hln hnt hbt HW0
  go_enter Try.func6, Try.ntmps6
  rw [hb]
  clear hb
  go_upto_region 1 with (fail)
  rw [HBE.out]
  generalize w.alloc (.cells (ndCells n) 40) = w0 at *
  go_wp2_with ((with_reducible refine wpList_load_part (o := ⟨some 26, .load 40 (.tmp 5), _, _, _, _⟩) ?hg 40 (.tmp 5) ?ho b 0 ?hx (ndCells n) ?dd ?hc ?hu ?hd ?hi ?_); (case hg => rfl); (case ho => rfl); (case hx => rfl); (case hc => exact HL0.out); (case hu => exact Try.underlying40); (case hd => rfl); (case hi => exact info27 n))
  refine (HRt.out w0).mono ?_
  rintro e w1 ⟨rfl, hB1⟩
  have hb1 := HB0.out.kept (Keeps.of_below' hB1) (fun h => h)
  have hbr := hb1.row (ndCells m)
  have HB1 := Lib.hid hb1
  have hK1 : Below b w (w1.setRow b (ndCells m)) := below_setRow (HK0.out.trans (hB1.mono (by rw [← HBE.out]; exact HK0.out.size))) (Nat.le_refl _) _
  obtain ⟨w2, hw2⟩ : ∃ w2, w1.setRow b (ndCells m) = w2 := ⟨_, rfl⟩
  rw [hw2] at hbr hK1
  have HW2 := Lib.hid hw2
  have HM2 := Lib.hid hbr
  have HK2 := Lib.hid hK1
  have HL2 := Lib.hid (ndLoad hbr)
  clear hb1 hbr hK1 hw2 hB1 HL0 HB0 HK0 HRt
  go_upto_region 2 with ((with_reducible refine wpList_store_ndc (o := ⟨none, .store 40 (.tmp 5) (.tmp 28), _, _, _, _⟩) ?hgc (.tmp 5) (.tmp 28) ?hoc b (ndCells m) m n ?hxc ?hyc ?hbc ?hmc ?_); (case hgc => rfl); (case hoc => rfl); (case hxc => exact ev_tmp (by simp)); (case hyc => exact ev_tmp (by simp)); (case hmc => rfl); (case hbc => exact HB1.out); rw [HW2.out]; simp [Act.put])
  go_wp2_with ((with_reducible refine wpList_load_part (o := ⟨some 30, .load 40 (.tmp 5), _, _, _, _⟩) ?hg 40 (.tmp 5) ?ho b 0 ?hx (ndCells m) ?dd ?hc ?hu ?hd ?hi ?_); (case hg => rfl); (case ho => rfl); (case hx => rfl); (case hc => exact HL2.out); (case hu => exact Try.underlying40); (case hd => rfl); (case hi => exact info27 m))
  refine (HLa.out w2).mono ?_
  rintro e w5 ⟨mb, S, vw, rfl, hm5, hu5, hl5, hv5, hs5, hS5, hB5⟩
  have HM5 := Lib.hid hm5
  have HU5 := Lib.hid hu5
  have HL5 := Lib.hid hl5
  have HV5 := Lib.hid hv5
  have HSd := Lib.hid hs5
  have HS5 := Lib.hid (show ∀ i, S i → w2.heap.size ≤ i ∧ i < w5.heap.size from fun i hi => ⟨hS5 i hi, by obtain ⟨is, mk, F, hm⟩ := hm5; exact hm.lt hi⟩)
  have HBm := Lib.hid (HM2.out.kept (Keeps.of_below' hB5) (fun h => h))
  have HB5 := Lib.hid (HK2.out.trans (hB5.mono (by rw [← HBE.out]; exact HK2.out.size)))
  have HN4 := Lib.hid HM2.out.lt
  clear hm5 hu5 hl5 hv5 hs5 hS5 hB5 HLa HL2 HK2 HM2 HB1 HW2
  cases ib with
  | false =>
    have HKn := Lib.hid (known_v w5)
    go_wp2_with (fail)
    refine HKn.out.mono ?_
    rintro e wK ⟨rfl, hBK⟩
    have HBK := Lib.hid (HB5.out.trans (hBK.mono (by rw [← HBE.out]; exact HB5.out.size)))
    clear hBK
    go_wp2_with (fail)
    go_ret
    exact ⟨rfl, HBK.out⟩
  | true =>
    have HFw := Lib.hid (few_v pa l.length ca w5)
    go_wp2_with (fail)
    refine HFw.out.mono ?_
    rintro e w6 ⟨rfl, rfl⟩
    by_cases hfw : (l.length : Int) ≤ 20
    · by_cases hn3 : (300 : Int) < (nt : Int)
      · have hq1 : decide ((l.length : Int) ≤ 20) = true := decide_eq_true hfw
        have hq2 : decide ((300 : Int) < (nt : Int)) = true := decide_eq_true hn3
        have HKn := Lib.hid (known_v w6)
        go_wp2_with (fail)
        refine HKn.out.mono ?_
        rintro e wK ⟨rfl, hBK⟩
        have HBK := Lib.hid (HB5.out.trans (hBK.mono (by rw [← HBE.out]; exact HB5.out.size)))
        clear hBK
        go_wp2_with (fail)
        go_ret
        exact ⟨rfl, HBK.out⟩
      · have hq1 : decide ((l.length : Int) ≤ 20) = true := decide_eq_true hfw
        have hq2 : decide ((300 : Int) < (nt : Int)) = false := decide_eq_false hn3
        have HQf := Lib.hid hfw
        have HQn := Lib.hid hn3
        clear hfw hn3
        have HLm := Lib.hid (ndLoad HBm.out)
        go_upto_region 8 with (first
          | ((with_reducible refine wpList_load_part (o := ⟨some 49, .load 40 (.tmp 5), _, _, _, _⟩) ?hg 40 (.tmp 5) ?ho b 0 ?hx (ndCells m) ?dd ?hc ?hu ?hd ?hi ?_); (case hg => rfl); (case ho => rfl); (case hx => rfl); (case hc => exact HLm.out); (case hu => exact Try.underlying40); (case hd => rfl); (case hi => exact info27 m))
          | ((with_reducible refine wpList_bld_wr (o := ⟨some 51, _, _, _, _, _⟩) ?hgB (.tmp 48) (.tmp 49) (.tmp 50) ?hoB mb m pa l.length ca ?hxB ?hyB ?hzB ?_); (case hgB => rfl); (case hoB => rfl); (case hxB => rfl); (case hyB => rfl); (case hzB => rfl)))
        have hn0 : NdOk 1280 m := ⟨HWm.out, rightB_may HIb.out, HNx.out⟩
        have hll : l.length ≤ 1000 := by have := HQf.out; omega
        have HC := Lib.hid (course_all (base := 1088) (l.map akOf) m hn0 (ask_all HLu.out) (by rw [List.length_map]; exact hll))
        have HL7 := Lib.hid (lw_start (low := low) HM5.out HU5.out HL5.out HV5.out HSd.out (fun i hi => ⟨by have := (HS5.out i hi).1; have := HN4.out; omega, (HS5.out i hi).2⟩) HB5.out (Nat.le_of_eq HBE.out.symm) HAk.out hn0 HLu.out hll)
        obtain ⟨wb, hwb⟩ : ∃ wb, w6.heap.size = wb := ⟨_, rfl⟩
        obtain ⟨C, hC⟩ : ∃ C, comeL 1088 m (l.map akOf) = C := ⟨_, rfl⟩
        obtain ⟨dC, hdC⟩ : ∃ dC, 2 * (l.map akOf).length = dC := ⟨_, rfl⟩
        rw [hC, hdC] at HC
        rw [hwb, hC] at HL7
        rw [hwb]
        obtain ⟨w7, hw7⟩ : ∃ w7, w6.alloc (.cells (wrCells mb m (.slice pa l.length ca) none) 76) = w7 := ⟨_, rfl⟩
        rw [hw7] at HL7 ⊢
        clear hn0 hll hwb hC hdC hw7 HM5 HU5 HL5 HV5 HSd HS5 HBm HLm HB5 HN4 HIb HWm HNx HAk HLu HQf HLn
        go_wp2_with (fail)
        go_loopw [14] (fun iv wr => ∃ (k T : Nat) (S A : Nat → Prop) (vs : List Int), iv = .int .i64 k ∧ k ≤ 40 ∧ Hid (LwW m low C wb mb b T (48 + k) S A vs w wr)) (fun iv _ => 41 - (intOf iv).toNat)
        case atStart => exact ⟨0, 0, _, _, _, rfl, by omega, HL7⟩
        case round =>
          obtain ⟨k, T, S1, A1, vs1, rfl, hk40, HI⟩ := hrel
          clear HL7
          have hK : wrap64 ((IntKind.u64.wrap ahead).tmod 40) ≤ 39 := by
            have h1 : 0 ≤ IntKind.u64.wrap ahead := by rw [IntKind.wrap_u64]; omega
            have h2 : (IntKind.u64.wrap ahead).tmod 40 = IntKind.u64.wrap ahead % 40 := Int.tmod_eq_emod_of_nonneg h1
            rw [h2]
            unfold wrap64
            omega
          by_cases hlt : (k : Int) < wrap64 ((IntKind.u64.wrap ahead).tmod 40)
          · have HSt := Lib.hid (lstep_v HI.out HC.out (by omega))
            have HKk := Lib.hid (show k ≤ 39 by omega)
            clear hK HI
            go_wp2_with (fail)
            refine HSt.out.mono ?_
            rintro e wq ⟨bb, T', vs', S', A', rfl, hT, hL, hA, hKA⟩
            have HLq := Lib.hid (show LwW m low C wb mb b T' (48 + ((k + 1 : Nat) : Int)) S' A' vs' w wq by
              have e : (48 : Int) + (k : Int) + 1 = 48 + ((k + 1 : Nat) : Int) := by omega
              rw [← e]; exact hL)
            clear hT hL hA hKA HSt
            go_wp2_with (fail)
            go_roundw
            case rel => exact ⟨k + 1, T', S', A', vs', by go_num, by have := HKk.out; omega, HLq⟩
            case measure => have := HKk.out; simp [intOf]; omega
          · clear hK
            have HKk := Lib.hid hk40
            clear hk40
            go_wp2_with (fail)
            refine (new_v (some ⟨mb, 0, none⟩) 1088 wr).mono ?_
            rintro e w8 ⟨rfl, hb8, hB8⟩
            have hwr : b ≤ wr.heap.size := HI.out.w.sz
            obtain ⟨sb, hsb⟩ : ∃ sb, wr.heap.size = sb := ⟨_, rfl⟩
            have hsA : ¬ A1 sb := fun e => by have := (HI.out.w.own _ e).2; omega
            rw [hsb] at hb8 ⊢
            have HL8 := Lib.hid (HI.out.below hB8)
            have HS8 := Lib.hid hb8
            have HA8 := Lib.hid (show b ≤ sb ∧ ¬ A1 sb from ⟨by omega, hsA⟩)
            clear hb8 hB8 hwr hsb hsA
            have HNo := Lib.hid (lnow_v HL8.out)
            go_wp2_with (fail)
            refine HNo.out.mono ?_
            rintro e w9 ⟨rfl, hL9, hK9⟩
            have hs9 := HS8.out.kept hK9 (fun e => HA8.out.2 (HL8.out.w.sub _ e))
            have HL9 := Lib.hid hL9
            have HS9 := Lib.hid hs9
            clear hL9 hK9 hs9 HNo HL8 HS8
            go_wp2_with (fail)
            refine (trim_v _ w9).mono ?_
            rintro e w10 ⟨rfl, hB10⟩
            have HL10 := Lib.hid (HL9.out.below hB10)
            have HS10 := Lib.hid (HS9.out.kept (Keeps.of_below' hB10) (fun h => h))
            have HEq := Lib.hid (now_same HC.out HL9.out.h)
            obtain ⟨tn, htn⟩ : ∃ tn, trimN (rtrim (ofV (nowF vs1)).1) = tn := ⟨_, rfl⟩
            rw [htn] at HEq ⊢
            clear htn hB10 HL9 HS9
            go_upto_region 14 with (fail)
            case inl => exact size_not tn (by assumption)
            rw [fold_nd]
            have HM0 := Lib.hid ((MnW.start (nt := nt) HL10.out HS10.out HA8.out HEq.out).mono (show (48 : Int) + (k : Int) ≤ 100 + ((0 : Nat) : Int) by have := HKk.out; omega))
            obtain ⟨w11, hw11⟩ : ∃ w11, w10.alloc (.cells (ndCells tn) 40) = w11 := ⟨_, rfl⟩
            obtain ⟨mv0, hmv0⟩ : ∃ mv0, Value.slice (some ⟨w10.heap.size, 0, none⟩) 1 1 = mv0 := ⟨_, rfl⟩
            rw [hw11, hmv0] at HM0 ⊢
            obtain ⟨s0, hs0⟩ : ∃ s0, snNew sb (some ⟨mb, 0, none⟩) 1088 = s0 := ⟨_, rfl⟩
            rw [hs0] at HM0
            clear hw11 hmv0 hs0 HL10 HS10 HA8 HEq HKk HI hlt
            go_wp2_with (fail)
            go_loopw [16, 17] (fun mv iv wr => ∃ (j T' : Nat) (S A : Nat → Prop) (vs : List Int) (s : Sn) (ms : List Nd), iv = .int .i64 j ∧ j ≤ nt + 64 ∧ Hid (MnW m low C wb mb b T nt sb j T' T' (100 + (j : Int)) S A vs s ms mv w wr)) (fun _ iv _ => nt + 65 - (intOf iv).toNat)
            case atStart => exact ⟨0, T, _, _, _, _, _, rfl, by omega, HM0⟩
            case round =>
              obtain ⟨j, T', S2, A2, vs2, s, ms, rfl, hj64, HI⟩ := hrel
              clear HM0
              have hj0 := HI.out.i
              have hwr : wrap64 ((nt : Int) + 64) = (nt : Int) + 64 := by have := HQn.out; unfold wrap64; omega
              by_cases hlt : (j : Int) < wrap64 ((nt : Int) + 64)
              · have HJl := Lib.hid (show (j : Int) < (nt : Int) + 64 by rw [← hwr]; exact hlt)
                clear hwr
                have hjb : j ≤ 400 := by have := HQn.out; have := HJl.out; omega
                have HLe := Lib.hid HI.out.len
                clear hj0 hj64
                go_upto_region 17 with (fail)
                go_cut [85] (fun s85 wx => s85 = .bool (decide (j < nt) && ft j) ∧ wx = wr)
                case first =>
                  as_aux_lemma =>
                  by_cases hjn : j < nt
                  · have b1 : (j : Int) < (nt : Int) := by omega
                    obtain ⟨gt, ot, rfl, hgt, hct⟩ := HBt.out (by omega)
                    have c1 : wr.cell? ⟨gt, ot + j, none⟩ = some (.bool (ft j)) := by
                      rw [HI.out.l.b.cell (p := ⟨gt, ot + j, none⟩) (by rw [← HBE.out]; exact hgt)]
                      exact hct j hjn
                    have e1 : decide (j < nt) = true := decide_eq_true hjn
                    clear hgt hct
                    go_wp2_with (fail)
                    go_meet
                    exact ⟨by rw [e1]; rfl, rfl⟩
                  · have b1 : ¬ (j : Int) < (nt : Int) := by omega
                    have e1 : decide (j < nt) = false := decide_eq_false hjn
                    go_wp2_with (fail)
                    go_meet
                    exact ⟨by rw [e1]; rfl, rfl⟩
                case rest =>
                  obtain ⟨rfl, rfl⟩ := hcut
                  cases htr : (decide (j < nt) && ft j) with
                  | true =>
                    rw [Bool.and_eq_true, decide_eq_true_eq] at htr
                    have hjn := htr.1
                    have HStp := Lib.hid (lstep_v HI.out.l HC.out (by have := HQn.out; omega))
                    have hnt : nt ≠ 0 := by omega
                    clear hjn htr
                    go_wp2_with (fail)
                    refine HStp.out.mono ?_
                    rintro e wq ⟨bb, T3, vs3, S3, A3, rfl, hT, hL, hA, hKA⟩
                    have HM1 := Lib.hid (HI.out.step hT hL hA hKA hnt)
                    have HTT := Lib.hid hT
                    clear hT hL hA hKA HStp HI
                    have HNo := Lib.hid (lnow_v HM1.out.l)
                    go_wp2_with (fail)
                    refine HNo.out.mono ?_
                    rintro e wp ⟨rfl, hL9, hK9⟩
                    have HM2 := Lib.hid (HM1.out.move hL9 hK9 (fun i hi => hL9.w.sub i hi))
                    clear hL9 hK9 HM1 HNo
                    go_wp2_with (fail)
                    refine (trim_v _ wp).mono ?_
                    rintro e wo ⟨rfl, hBo⟩
                    have HM3 := Lib.hid (HM2.out.below hBo)
                    have HEq := Lib.hid (now_same HC.out HM2.out.l.h)
                    obtain ⟨tq, htq⟩ : ∃ tq, trimN (rtrim (ofV (nowF vs3)).1) = tq := ⟨_, rfl⟩
                    rw [htq] at HEq ⊢
                    have HBn := Lib.hid (Blk.new wo (ndCells tq) 40)
                    have HM4 := Lib.hid (HM3.out.below (show Below wo.heap.size wo (wo.alloc (.cells (ndCells tq) 40)) from (Below.refl _ wo).alloc (Nat.le_refl _) _))
                    clear htq hBo HM2
                    go_wp2_with ((with_reducible refine wpList_append_ndl (o := ⟨some 93, _, _, _, _, _⟩) ?k1 (.tmp 88) (.tmp 92) ?k2 b u16 ms tq ?k3 ?k4 wo.heap.size ?k5 ?k8 ?k6 ?k7 ?_); (case k1 => rfl); (case k2 => rfl); (case k3 => exact ev_tmp (by simp)); (case k5 => exact ev_tmp (by simp)))
                    case k4 => rw [fold_nd]; exact HM4.out.o
                    case k8 => rw [fold_nd]; exact HBn.out
                    case k7 => rw [fold_nd]; exact HM4.out.l.w.sz
                    case k6 => have := HLe.out; omega
                    case inr =>
                      intro mv3 w12 hown hgrow hob
                      rw [fold_nd] at hgrow
                      have hsz : (wo.alloc (.cells (ndCells tq) 40)).heap.size = wo.heap.size + 1 := by simp
                      rw [← hsz] at hob
                      have HMn := Lib.hid (show MnW m low C wb mb b T nt sb (j + 1) T3 T3 (100 + ((j + 1 : Nat) : Int)) S3 A3 vs3 s (ms ++ [tq]) mv3 w w12 from (HM4.out.app HTT.out (HLe.out.1) HEq.out (by rw [List.length_append]; exact hown) hgrow hob).mono (by omega))
                      clear hown hgrow hob hsz HM3 HM4 HBn HEq HTT
                      go_wp2_with (fail)
                      go_roundw
                      case rel => exact ⟨j + 1, T3, S3, A3, vs3, s, ms ++ [tq], by go_num, by have := HJl.out; omega, HMn⟩
                      case measure => have := HJl.out; simp [intOf]; omega
                  | false =>
                    have HSp := Lib.hid (lsnap_v HI.out.l HC.out HI.out.t.1 HI.out.t.2 HI.out.bs HI.out.sn.2 HI.out.sn.1 HI.out.i)
                    go_wp2_with (fail)
                    refine HSp.out.mono ?_
                    rintro e wq ⟨dn, er, s', rfl, hS, hb9, hL9, hK9⟩
                    rcases hS with ⟨rfl, rfl, hI'⟩ | ⟨rfl, hD⟩
                    · have HMn := Lib.hid (show MnW m low C wb mb b T nt sb (j + 1) T' T' (100 + ((j + 1 : Nat) : Int)) S2 A2 vs2 s' ms u16 w wq from (HI.out.snap hL9 hK9 hb9 hI').mono (by omega))
                      clear hI' hb9 hL9 hK9 HI HSp
                      go_wp2_with (fail)
                      go_roundw
                      case rel => exact ⟨j + 1, T', S2, A2, vs2, s', ms, by go_num, by have := HJl.out; omega, HMn⟩
                      case measure => have := HJl.out; simp [intOf]; omega
                    · obtain ⟨hz, hhas, hhigh, hinv, T5, h50, h51, he5⟩ := msd_ok HC.out hD
                      subst hz
                      obtain ⟨f, hf⟩ := hD.step
                      have hnp : nodeP s' = (s'.found, 0) := by unfold nodeP; rw [hD.over, if_neg (by decide), hD.e, if_neg (fun h => h rfl)]
                      obtain ⟨x1, hx1⟩ : ∃ x1, s'.found = x1 := ⟨_, rfl⟩
                      have HNo := Lib.hid (show Calls Try.prog 12 #[.pointer (some ⟨sb, 0, none⟩)] wq fun e w' => e = .returned (.tuple #[.agg (ndCells x1), .int .i64 0]) ∧ Below wq.heap.size wq w' from by
                        have := node_v s' sb f wq hb9 hf
                        rw [hnp, hx1] at this
                        exact this)
                      have HHi := Lib.hid (show ∀ W, Below wq.heap.size wq W → Calls Try.prog 13 #[.pointer (some ⟨sb, 0, none⟩)] W fun e w' => e = .returned (.tuple #[.int .u64 (highP s').1, .bool (highP s').2]) ∧ Below W.heap.size W w' from fun W hB => high_v s' sb f W (hb9.kept (Keeps.of_below' hB) (fun h => h)) hf)
                      have HHP := Lib.hid (show highP s' = if s'.has = true then (s'.high, true) else (0, false) from by unfold highP; rw [hnp, if_pos rfl])
                      rw [hx1] at hhas hhigh hinv he5
                      obtain ⟨nd5, hnd5, hee⟩ := HI.out.c T5 h50 h51
                      obtain ⟨tx, htx⟩ : ∃ tx, trimN x1 = tx := ⟨_, rfl⟩
                      rw [htx] at he5
                      have HTx := Lib.hid (show ∀ W, Calls Try.prog 16 #[.agg (ndCells x1)] W fun e w' => e = .returned (.agg (ndCells tx)) ∧ Below W.heap.size W w' from fun W => by rw [← htx]; exact trim_v x1 W)
                      obtain ⟨j5, hj5, hjn5⟩ := List.mem_iff_getElem.1 hnd5
                      have HJ5 := Lib.hid (show j5 < ms.length ∧ ∀ nd, ms[j5]? = some nd → ndCells nd = ndCells tx from ⟨hj5, fun nd e => by
                        rw [List.getElem?_eq_getElem hj5] at e
                        injection e with e
                        rw [← e, hjn5, hee, he5]⟩)
                      have hown := own_keeps HI.out.o hK9 (fun i hi e => e.elim (HI.out.ob i hi).2 (fun e => (HI.out.ob i hi).1 (HI.out.l.w.sub i e)))
                      obtain ⟨g, cap, hu16, hgb, hgs, htc, hcm, hnodes⟩ := own_nodes hown rfl HI.out.len.2
                      have HTc := Lib.hid (show ms.length ≤ cap ∧ ms.length ≤ 1000 from ⟨htc, by have := HLe.out; omega⟩)
                      obtain ⟨tl, htl⟩ : ∃ tl, ms.length = tl := ⟨_, rfl⟩
                      rw [htl] at hu16 HTc HJ5
                      have HTl := Lib.hid htl
                      subst hu16
                      have HGs := Lib.hid hgs
                      have HNs := Lib.hid hnodes
                      have HHa := Lib.hid hhas
                      have HHh := Lib.hid hhigh
                      have HIn := Lib.hid hinv
                      have HB13 := Lib.hid hL9.b
                      have HI1 := Lib.hid (show ∀ W, Calls Try.prog 28 #[.agg (ndCells x1)] W fun e w' => e = .returned (.int .i64 x1.inval) ∧ Below W.heap.size W w' from fun W => rinvalid_calls x1 W)
                      have HI2 := Lib.hid (show ∀ W, Calls Try.prog 29 #[.agg (ndCells x1)] W fun e w' => e = .returned (.int .i64 (x1.len : Int)) ∧ Below W.heap.size W w' from fun W => rlen_calls x1 W)
                      have HI3 := Lib.hid (show ∀ W, Calls Try.prog 30 #[.agg (ndCells x1)] W fun e w' => (∃ a c, e = .returned (.slice a x1.valid.length c)) ∧ Below W.heap.size W w' from fun W => (rvalid_calls x1 W).mono (by
                        rintro e w' ⟨v, rfl, ho, hB⟩
                        obtain ⟨a, c, rfl⟩ := own_form ho
                        exact ⟨⟨a, c, rfl⟩, hB⟩))
                      clear hD hf hnp hx1 hhas hhigh hinv he5 hnd5 hee htx hj5 hjn5 hown hgb hgs htc hcm hnodes htl hb9 hL9 hK9 h50 h51 HI HSp HLe
                      go_wp2_with (fail)
                      refine HNo.out.mono ?_
                      rintro e w14 ⟨rfl, hB14⟩
                      have hz := Blk.new w14 (ndCells nd0) 40
                      have hzr := hz.row (ndCells x1)
                      have k15 : Below wq.heap.size wq ((w14.alloc (.cells (ndCells nd0) 40)).setRow w14.heap.size (ndCells x1)) := below_setRow (hB14.alloc hB14.size _) hB14.size _
                      obtain ⟨xb, hxb⟩ : ∃ xb, w14.heap.size = xb := ⟨_, rfl⟩
                      rw [hxb] at hz hzr k15
                      have HXb := Lib.hid hxb
                      have HZb := Lib.hid hz
                      obtain ⟨w15, hw15⟩ : ∃ w15, (w14.alloc (.cells (ndCells nd0) 40)).setRow xb (ndCells x1) = w15 := ⟨_, rfl⟩
                      have HW15 := Lib.hid hw15
                      rw [hw15] at hzr k15
                      have HX15 := Lib.hid hzr
                      have HK15 := Lib.hid k15
                      clear hz hzr hxb hw15 k15 hB14 HNo
                      go_upto_region 25 with (first
                        | ((with_reducible refine wpList_alloc_ndAt (o := ⟨some 20, _, _, _, _, _⟩) rfl rfl xb ?hz ?_); (case hz => exact HXb.out))
                        | ((with_reducible refine wpList_store_ndc (o := ⟨none, .store 40 (.tmp 20) (.tmp 106), _, _, _, _⟩) ?hgd (.tmp 20) (.tmp 106) ?hod xb (ndCells x1) x1 nd0 ?hxd ?hyd ?hbd ?hmd ?_); (case hgd => rfl); (case hod => rfl); (case hxd => exact ev_tmp (by simp [Act.put])); (case hyd => exact ev_tmp (by simp [Act.put])); (case hmd => rfl); (case hbd => exact HZb.out); rw [HW15.out]; simp [Act.put]))
                      obtain ⟨nx, hnx⟩ : ∃ nx, x1.nx = nx := ⟨_, rfl⟩
                      obtain ⟨iv, hiv⟩ : ∃ iv, x1.inval = iv := ⟨_, rfl⟩
                      obtain ⟨nl, hnl⟩ : ∃ nl, x1.len = nl := ⟨_, rfl⟩
                      obtain ⟨vl, hvl⟩ : ∃ vl, x1.valid.length = vl := ⟨_, rfl⟩
                      have HIv := Lib.hid (show ∀ W, Calls Try.prog 28 #[.agg (ndCells x1)] W fun e w' => e = .returned (.int .i64 iv) ∧ Below W.heap.size W w' from by rw [← hiv]; exact HI1.out)
                      have HLn := Lib.hid (show ∀ W, Calls Try.prog 29 #[.agg (ndCells x1)] W fun e w' => e = .returned (.int .i64 (nl : Int)) ∧ Below W.heap.size W w' from by rw [← hnl]; exact HI2.out)
                      have HVl := Lib.hid (show ∀ W, Calls Try.prog 30 #[.agg (ndCells x1)] W fun e w' => (∃ a c, e = .returned (.slice a vl c)) ∧ Below W.heap.size W w' from by rw [← hvl]; exact HI3.out)
                      have HIn' := Lib.hid (show 0 ≤ iv → nl = vl + 1 from by rw [← hiv, ← hnl, ← hvl]; exact HIn.out)
                      have Hnx := Lib.hid hnx
                      obtain ⟨hw, hs, hhp, hvt, hsd⟩ : ∃ hw hs, highP s' = (hw, hs) ∧ (hs = true → hw = low) ∧ hs = decide (nx ≠ 0) := by
                        rw [HHP.out, HHa.out, hnx]
                        have h2 := HHh.out
                        rw [hnx] at h2
                        by_cases hz : nx = 0
                        · refine ⟨0, false, ?_, fun e => (by cases e), (decide_eq_false (fun e => e hz)).symm⟩
                          rw [decide_eq_false (fun e => e hz), if_neg (by decide)]
                        · refine ⟨s'.high, true, ?_, fun _ => h2 hz, (decide_eq_true hz).symm⟩
                          rw [decide_eq_true hz, if_pos rfl]
                      have hh := HHi.out w15 HK15.out
                      rw [hhp] at hh
                      have HH := Lib.hid hh
                      have HHs := Lib.hid (And.intro hvt hsd)
                      clear hh hhp hvt hsd hnx hiv hnl hvl HHi HHP HHa HHh HIn HI1 HI2 HI3
                      go_wp2_with (fail)
                      refine HH.out.mono ?_
                      rintro e W8 ⟨rfl, hB16⟩
                      have HX8 := Lib.hid (HX15.out.kept (Keeps.of_below' hB16) (fun h => h))
                      have HK8 := Lib.hid (HK15.out.trans (hB16.mono HK15.out.size))
                      have HG8 := Lib.hid (show g < W8.heap.size from Nat.lt_of_lt_of_le HGs.out HK8.out.size)
                      have HN8 := Lib.hid (HNs.out.below HK8.out HGs.out)
                      have HB8 := Lib.hid (HB13.out.trans (HK8.out.mono (by rw [← HBE.out]; exact HB13.out.size)))
                      clear hB16 HX15 HK15 HK8 HNs HGs HB13 HW15 HXb HZb HH
                      go_upto_region 26 with (fail)
                      go_cut [143] (fun s143 wx => s143 = .bool false ∧ Hid (Below W8.heap.size W8 wx))
                      case first =>
                        as_aux_lemma =>
                        have Hnb := Lib.hid (show (nx != 0) = hs from by rw [HHs.out.2]; by_cases h : nx = 0 <;> simp [h])
                        obtain ⟨ge, hge⟩ : ∃ ge, decide ((0 : Int) ≤ iv) = ge := ⟨_, rfl⟩
                        have HDf := Lib.hid (show ge = true → (nl : Int) - (vl : Int) = 1 from fun e => by
                          rw [← hge, decide_eq_true_eq] at e
                          have := HIn'.out e; omega)
                        have HGe := Lib.hid hge
                        clear hge
                        replace HHs := Lib.hid HHs.out.1
                        --GEN r_mo26
                        refine wp_region_vals [Is (.int .i64 0), Is (.bool false), Is (.bool false), Is (.bool hs), Is (.pointer (some ⟨xb, 2, none⟩)), Is (.int .u64 nx), Is (.bool hs), Is (.bool false), Is (.bool false), Is (.bool false), Is (.bool hs), Is (.bool hs), (fun v _ => hs = true → v = .int .u64 hw), (fun v _ => hs = true → v = .int .u64 low), (fun v _ => hs = true → v = .bool false), Is (.bool false), Is (.bool false), Is (.bool false), Is (.agg (ndCells x1)), Is (.int .i64 iv), Is (.bool ge), Is (.bool ge), (fun v _ => ge = true → v = .agg (ndCells x1)), (fun v _ => ge = true → v = .int .i64 (nl : Int)), (fun v _ => ge = true → v = .agg (ndCells x1)), (fun v _ => ge = true → ∃ a c, v = .slice a vl c), (fun v _ => ge = true → v = .int .i64 (vl : Int)), (fun v _ => ge = true → v = .int .i64 1), (fun v _ => ge = true → v = .bool false), Is (.bool false), Is (.bool false)]
                          (fun _ _ _ => True) (fun _ W => Below W8.heap.size W8 W) (by kernel_rfl) (by kernel_rfl) (by kernel_rfl) ?hst ?h0 ⟨?o0, ?o1, ?o2, ?o3, ?o4, ?o5, ?o6, ?o7, ?o8, ?o9, ?o10, ?o11, ?o12, ?o13, ?o14, ?o15, ?o16, ?o17, ?o18, ?o19, ?o20, ?o21, ?o22, ?o23, ?o24, ?o25, ?o26, ?o27, ?o28, ?o29, ?o30, trivial⟩ ?he
                        case hst =>
                          exact ⟨(fun _ _ _ _ _ _ h _ => h), (fun _ _ _ _ _ _ h _ => h), (fun _ _ _ _ _ _ h _ => h), (fun _ _ _ _ _ _ h _ => h), (fun _ _ _ _ _ _ h _ => h), (fun _ _ _ _ _ _ h _ => h), (fun _ _ _ _ _ _ h _ => h), (fun _ _ _ _ _ _ h _ => h), (fun _ _ _ _ _ _ h _ => h), (fun _ _ _ _ _ _ h _ => h), (fun _ _ _ _ _ _ h _ => h), (fun _ _ _ _ _ _ h _ => h), (fun _ _ _ _ _ _ h _ => h), (fun _ _ _ _ _ _ h _ => h), (fun _ _ _ _ _ _ h _ => h), (fun _ _ _ _ _ _ h _ => h), (fun _ _ _ _ _ _ h _ => h), (fun _ _ _ _ _ _ h _ => h), (fun _ _ _ _ _ _ h _ => h), (fun _ _ _ _ _ _ h _ => h), (fun _ _ _ _ _ _ h _ => h), (fun _ _ _ _ _ _ h _ => h), (fun _ _ _ _ _ _ h _ => h), (fun _ _ _ _ _ _ h _ => h), (fun _ _ _ _ _ _ h _ => h), (fun _ _ _ _ _ _ h _ => h), (fun _ _ _ _ _ _ h _ => h), (fun _ _ _ _ _ _ h _ => h), (fun _ _ _ _ _ _ h _ => h), (fun _ _ _ _ _ _ h _ => h), (fun _ _ _ _ _ _ h _ => h), trivial⟩
                        case h0 =>
                          exact (Below.refl _ W8).drew
                        case o0 =>
                          intro L vs A W H hf hd K hK
                          have e21 : A.tmps[21]?.getD undef = .int .i64 0 := H.old 21 (by kernel_rfl)
                          go_simp
                          exact hK _ _ (trivial) rfl (H.glob)
                        case o1 =>
                          intro L vs A W H hf hd K hK
                          have e113 := H.is 0 113 rfl rfl rfl (deps_of' hd 0 (by kernel_rfl)) (by kernel_rfl)
                          go_simp
                          exact hK _ _ (trivial) rfl (H.glob)
                        case o2 =>
                          intro L vs A W H hf hd K hK
                          have e114 := H.is 1 114 rfl rfl rfl (deps_of' hd 1 (by kernel_rfl)) (by kernel_rfl)
                          go_simp
                          exact hK _ _ (trivial) rfl (H.glob)
                        case o3 =>
                          intro L vs A W H hf hd K hK
                          have e115 := H.is 2 115 rfl rfl rfl (deps_of' hd 2 (by kernel_rfl)) (by kernel_rfl)
                          refine if_wanted (j := 2) (s := 115) rfl rfl rfl e115 rfl ?_
                          have e23 : A.tmps[23]?.getD undef = .bool hs := H.old 23 (by kernel_rfl)
                          go_simp
                          exact hK _ _ (trivial) rfl (H.glob)
                        case o4 =>
                          intro L vs A W H hf hd K hK
                          have e115 := H.is 2 115 rfl rfl rfl (deps_of' hd 2 (by kernel_rfl)) (by kernel_rfl)
                          refine if_wanted (j := 2) (s := 115) rfl rfl rfl e115 rfl ?_
                          have e20 : A.tmps[20]?.getD undef = .pointer (some ⟨xb, 0, none⟩) := H.old 20 (by kernel_rfl)
                          go_simp
                          exact hK _ _ (trivial) rfl (H.glob)
                        case o5 =>
                          intro L vs A W H hf hd K hK
                          have e115 := H.is 2 115 rfl rfl rfl (deps_of' hd 2 (by kernel_rfl)) (by kernel_rfl)
                          refine if_wanted (j := 2) (s := 115) rfl rfl rfl e115 rfl ?_
                          have e117 := H.is 4 117 rfl rfl rfl (deps_of' hd 4 (by kernel_rfl)) (by kernel_rfl)
                          have d : W.cell? ⟨xb, 2, none⟩ = some (.int .u64 nx) := ((HX8.out.kept (Keeps.of_below' H.glob) (fun h => h)).cell 2).trans ((ndCells_2 x1).trans (by rw [Hnx.out]))
                          go_simp
                          exact hK _ _ (trivial) rfl (H.glob)
                        case o6 =>
                          intro L vs A W H hf hd K hK
                          have e115 := H.is 2 115 rfl rfl rfl (deps_of' hd 2 (by kernel_rfl)) (by kernel_rfl)
                          refine if_wanted (j := 2) (s := 115) rfl rfl rfl e115 rfl ?_
                          have e118 := H.is 5 118 rfl rfl rfl (deps_of' hd 5 (by kernel_rfl)) (by kernel_rfl)
                          have hq := Hnb.out
                          go_simp
                          exact hK _ _ (trivial) rfl (H.glob)
                        case o7 =>
                          intro L vs A W H hf hd K hK
                          have e115 := H.is 2 115 rfl rfl rfl (deps_of' hd 2 (by kernel_rfl)) (by kernel_rfl)
                          refine if_wanted (j := 2) (s := 115) rfl rfl rfl e115 rfl ?_
                          have e116 := H.is 3 116 rfl rfl rfl (deps_of' hd 3 (by kernel_rfl)) (by kernel_rfl)
                          have e119 := H.is 6 119 rfl rfl rfl (deps_of' hd 6 (by kernel_rfl)) (by kernel_rfl)
                          go_simp
                          exact hK _ _ (trivial) rfl (H.glob)
                        case o8 =>
                          intro L vs A W H hf hd K hK
                          have e115 := H.is 2 115 rfl rfl rfl (deps_of' hd 2 (by kernel_rfl)) (by kernel_rfl)
                          have e120 := H.is 7 120 rfl rfl rfl (deps_of' hd 7 (by kernel_rfl)) (by kernel_rfl)
                          go_simp
                          exact hK _ _ (trivial) rfl (H.glob)
                        case o9 =>
                          intro L vs A W H hf hd K hK
                          have e121 := H.is 8 121 rfl rfl rfl (deps_of' hd 8 (by kernel_rfl)) (by kernel_rfl)
                          go_simp
                          exact hK _ _ (trivial) rfl (H.glob)
                        case o10 =>
                          intro L vs A W H hf hd K hK
                          have e122 := H.is 9 122 rfl rfl rfl (deps_of' hd 9 (by kernel_rfl)) (by kernel_rfl)
                          refine if_wanted (j := 9) (s := 122) rfl rfl rfl e122 rfl ?_
                          have e23 : A.tmps[23]?.getD undef = .bool hs := H.old 23 (by kernel_rfl)
                          go_simp
                          exact hK _ _ (trivial) rfl (H.glob)
                        case o11 =>
                          intro L vs A W H hf hd K hK
                          have e122 := H.is 9 122 rfl rfl rfl (deps_of' hd 9 (by kernel_rfl)) (by kernel_rfl)
                          refine if_wanted (j := 9) (s := 122) rfl rfl rfl e122 rfl ?_
                          have e123 := H.is 10 123 rfl rfl rfl (deps_of' hd 10 (by kernel_rfl)) (by kernel_rfl)
                          go_simp
                          exact hK _ _ (trivial) rfl (H.glob)
                        case o12 =>
                          intro L vs A W H hf hd K hK
                          have e124 := H.is 11 124 rfl rfl rfl (deps_of' hd 11 (by kernel_rfl)) (by kernel_rfl)
                          cases hs with
                          | false =>
                            refine if_unwanted (j := 11) (s := 124) rfl rfl rfl e124 rfl ?_
                            exact hK _ _ trivial (fun h => by cases h) H.glob
                          | true =>
                            refine if_wanted (j := 11) (s := 124) rfl rfl rfl e124 rfl ?_
                            have e22 : A.tmps[22]?.getD undef = .int .u64 hw := H.old 22 (by kernel_rfl)
                            go_simp
                            exact hK _ _ trivial (fun _ => rfl) H.glob
                        case o13 =>
                          intro L vs A W H hf hd K hK
                          have e124 := H.is 11 124 rfl rfl rfl (deps_of' hd 11 (by kernel_rfl)) (by kernel_rfl)
                          cases hs with
                          | false =>
                            refine if_unwanted (j := 11) (s := 124) rfl rfl rfl e124 rfl ?_
                            exact hK _ _ trivial (fun h => by cases h) H.glob
                          | true =>
                            refine if_wanted (j := 11) (s := 124) rfl rfl rfl e124 rfl ?_
                            have e1 : A.tmps[1]?.getD undef = .int .u64 low := H.old 1 (by kernel_rfl)
                            go_simp
                            exact hK _ _ trivial (fun _ => rfl) H.glob
                        case o14 =>
                          intro L vs A W H hf hd K hK
                          have e124 := H.is 11 124 rfl rfl rfl (deps_of' hd 11 (by kernel_rfl)) (by kernel_rfl)
                          cases hs with
                          | false =>
                            refine if_unwanted (j := 11) (s := 124) rfl rfl rfl e124 rfl ?_
                            exact hK _ _ trivial (fun h => by cases h) H.glob
                          | true =>
                            refine if_wanted (j := 11) (s := 124) rfl rfl rfl e124 rfl ?_
                            obtain ⟨v125, e125, q125⟩ := H.val 12 125 rfl rfl rfl (deps_of' hd 12 (by kernel_rfl)) (by kernel_rfl)
                            obtain ⟨v126, e126, q126⟩ := H.val 13 126 rfl rfl rfl (deps_of' hd 13 (by kernel_rfl)) (by kernel_rfl)
                            obtain rfl := q125 rfl
                            obtain rfl := q126 rfl
                            have hq := HHs.out rfl
                            go_simp
                            exact hK _ _ trivial (fun _ => rfl) H.glob
                        case o15 =>
                          intro L vs A W H hf hd K hK
                          have e122 := H.is 9 122 rfl rfl rfl (deps_of' hd 9 (by kernel_rfl)) (by kernel_rfl)
                          refine if_wanted (j := 9) (s := 122) rfl rfl rfl e122 rfl ?_
                          have e124 := H.is 11 124 rfl rfl rfl (deps_of' hd 11 (by kernel_rfl)) (by kernel_rfl)
                          obtain ⟨v127, e127, q127⟩ := H.val 14 127 rfl rfl rfl (deps_of' hd 14 (by kernel_rfl)) (by kernel_rfl)
                          cases hs with
                          | false =>
                            go_simp
                            exact hK _ _ trivial rfl H.glob
                          | true =>
                            obtain rfl := q127 rfl
                            go_simp
                            exact hK _ _ trivial rfl H.glob
                        case o16 =>
                          intro L vs A W H hf hd K hK
                          have e122 := H.is 9 122 rfl rfl rfl (deps_of' hd 9 (by kernel_rfl)) (by kernel_rfl)
                          have e128 := H.is 15 128 rfl rfl rfl (deps_of' hd 15 (by kernel_rfl)) (by kernel_rfl)
                          go_simp
                          exact hK _ _ (trivial) rfl (H.glob)
                        case o17 =>
                          intro L vs A W H hf hd K hK
                          have e129 := H.is 16 129 rfl rfl rfl (deps_of' hd 16 (by kernel_rfl)) (by kernel_rfl)
                          go_simp
                          exact hK _ _ (trivial) rfl (H.glob)
                        case o18 =>
                          intro L vs A W H hf hd K hK
                          have e130 := H.is 17 130 rfl rfl rfl (deps_of' hd 17 (by kernel_rfl)) (by kernel_rfl)
                          refine if_wanted (j := 17) (s := 130) rfl rfl rfl e130 rfl ?_
                          have e20 : A.tmps[20]?.getD undef = .pointer (some ⟨xb, 0, none⟩) := H.old 20 (by kernel_rfl)
                          exact wp_load_nd (.tmp 20) rfl xb x1 (ev_tmp e20) (HX8.out.kept (Keeps.of_below' H.glob) (fun h => h)) (hK _ _ trivial rfl H.glob)
                        case o19 =>
                          intro L vs A W H hf hd K hK
                          have e130 := H.is 17 130 rfl rfl rfl (deps_of' hd 17 (by kernel_rfl)) (by kernel_rfl)
                          refine if_wanted (j := 17) (s := 130) rfl rfl rfl e130 rfl ?_
                          have e131 := H.is 18 131 rfl rfl rfl (deps_of' hd 18 (by kernel_rfl)) (by kernel_rfl)
                          have HL := Lib.hid (HIv.out W)
                          go_simp
                          refine HL.out.mono ?_
                          rintro e w' ⟨rfl, hB⟩
                          go_simp
                          exact hK _ _ trivial rfl (H.glob.trans (hB.mono H.glob.size))
                        case o20 =>
                          intro L vs A W H hf hd K hK
                          have e130 := H.is 17 130 rfl rfl rfl (deps_of' hd 17 (by kernel_rfl)) (by kernel_rfl)
                          refine if_wanted (j := 17) (s := 130) rfl rfl rfl e130 rfl ?_
                          have e132 := H.is 19 132 rfl rfl rfl (deps_of' hd 19 (by kernel_rfl)) (by kernel_rfl)
                          have hq := HGe.out
                          go_simp
                          exact hK _ _ (trivial) rfl (H.glob)
                        case o21 =>
                          intro L vs A W H hf hd K hK
                          have e130 := H.is 17 130 rfl rfl rfl (deps_of' hd 17 (by kernel_rfl)) (by kernel_rfl)
                          refine if_wanted (j := 17) (s := 130) rfl rfl rfl e130 rfl ?_
                          have e133 := H.is 20 133 rfl rfl rfl (deps_of' hd 20 (by kernel_rfl)) (by kernel_rfl)
                          go_simp
                          exact hK _ _ (trivial) rfl (H.glob)
                        case o22 =>
                          intro L vs A W H hf hd K hK
                          have e134 := H.is 21 134 rfl rfl rfl (deps_of' hd 21 (by kernel_rfl)) (by kernel_rfl)
                          cases ge with
                          | false =>
                            refine if_unwanted (j := 21) (s := 134) rfl rfl rfl e134 rfl ?_
                            exact hK _ _ trivial (fun h => by cases h) H.glob
                          | true =>
                            refine if_wanted (j := 21) (s := 134) rfl rfl rfl e134 rfl ?_
                            have e20 : A.tmps[20]?.getD undef = .pointer (some ⟨xb, 0, none⟩) := H.old 20 (by kernel_rfl)
                            exact wp_load_nd (.tmp 20) rfl xb x1 (ev_tmp e20) (HX8.out.kept (Keeps.of_below' H.glob) (fun h => h)) (hK _ _ trivial (fun _ => rfl) H.glob)
                        case o23 =>
                          intro L vs A W H hf hd K hK
                          have e134 := H.is 21 134 rfl rfl rfl (deps_of' hd 21 (by kernel_rfl)) (by kernel_rfl)
                          cases ge with
                          | false =>
                            refine if_unwanted (j := 21) (s := 134) rfl rfl rfl e134 rfl ?_
                            exact hK _ _ trivial (fun h => by cases h) H.glob
                          | true =>
                            refine if_wanted (j := 21) (s := 134) rfl rfl rfl e134 rfl ?_
                            obtain ⟨v135, e135, q135⟩ := H.val 22 135 rfl rfl rfl (deps_of' hd 22 (by kernel_rfl)) (by kernel_rfl)
                            obtain rfl := q135 rfl
                            have HL := Lib.hid (HLn.out W)
                            go_simp
                            refine HL.out.mono ?_
                            rintro e w' ⟨rfl, hB⟩
                            go_simp
                            exact hK _ _ trivial (fun _ => rfl) (H.glob.trans (hB.mono H.glob.size))
                        case o24 =>
                          intro L vs A W H hf hd K hK
                          have e134 := H.is 21 134 rfl rfl rfl (deps_of' hd 21 (by kernel_rfl)) (by kernel_rfl)
                          cases ge with
                          | false =>
                            refine if_unwanted (j := 21) (s := 134) rfl rfl rfl e134 rfl ?_
                            exact hK _ _ trivial (fun h => by cases h) H.glob
                          | true =>
                            refine if_wanted (j := 21) (s := 134) rfl rfl rfl e134 rfl ?_
                            have e20 : A.tmps[20]?.getD undef = .pointer (some ⟨xb, 0, none⟩) := H.old 20 (by kernel_rfl)
                            exact wp_load_nd (.tmp 20) rfl xb x1 (ev_tmp e20) (HX8.out.kept (Keeps.of_below' H.glob) (fun h => h)) (hK _ _ trivial (fun _ => rfl) H.glob)
                        case o25 =>
                          intro L vs A W H hf hd K hK
                          have e134 := H.is 21 134 rfl rfl rfl (deps_of' hd 21 (by kernel_rfl)) (by kernel_rfl)
                          cases ge with
                          | false =>
                            refine if_unwanted (j := 21) (s := 134) rfl rfl rfl e134 rfl ?_
                            exact hK _ _ trivial (fun h => by cases h) H.glob
                          | true =>
                            refine if_wanted (j := 21) (s := 134) rfl rfl rfl e134 rfl ?_
                            obtain ⟨v137, e137, q137⟩ := H.val 24 137 rfl rfl rfl (deps_of' hd 24 (by kernel_rfl)) (by kernel_rfl)
                            obtain rfl := q137 rfl
                            have HL := Lib.hid (HVl.out W)
                            go_simp
                            refine HL.out.mono ?_
                            rintro e w' ⟨⟨a, c, rfl⟩, hB⟩
                            go_simp
                            exact hK _ _ trivial (fun _ => ⟨a, c, rfl⟩) (H.glob.trans (hB.mono H.glob.size))
                        case o26 =>
                          intro L vs A W H hf hd K hK
                          have e134 := H.is 21 134 rfl rfl rfl (deps_of' hd 21 (by kernel_rfl)) (by kernel_rfl)
                          cases ge with
                          | false =>
                            refine if_unwanted (j := 21) (s := 134) rfl rfl rfl e134 rfl ?_
                            exact hK _ _ trivial (fun h => by cases h) H.glob
                          | true =>
                            refine if_wanted (j := 21) (s := 134) rfl rfl rfl e134 rfl ?_
                            obtain ⟨v138, e138, q138⟩ := H.val 25 138 rfl rfl rfl (deps_of' hd 25 (by kernel_rfl)) (by kernel_rfl)
                            obtain ⟨a, c, rfl⟩ := q138 rfl
                            go_simp
                            exact hK _ _ trivial (fun _ => rfl) H.glob
                        case o27 =>
                          intro L vs A W H hf hd K hK
                          have e134 := H.is 21 134 rfl rfl rfl (deps_of' hd 21 (by kernel_rfl)) (by kernel_rfl)
                          cases ge with
                          | false =>
                            refine if_unwanted (j := 21) (s := 134) rfl rfl rfl e134 rfl ?_
                            exact hK _ _ trivial (fun h => by cases h) H.glob
                          | true =>
                            refine if_wanted (j := 21) (s := 134) rfl rfl rfl e134 rfl ?_
                            obtain ⟨v136, e136, q136⟩ := H.val 23 136 rfl rfl rfl (deps_of' hd 23 (by kernel_rfl)) (by kernel_rfl)
                            obtain ⟨v139, e139, q139⟩ := H.val 26 139 rfl rfl rfl (deps_of' hd 26 (by kernel_rfl)) (by kernel_rfl)
                            obtain rfl := q136 rfl
                            obtain rfl := q139 rfl
                            have hq := HDf.out rfl
                            go_simp
                            exact hK _ _ trivial (fun _ => rfl) H.glob
                        case o28 =>
                          intro L vs A W H hf hd K hK
                          have e134 := H.is 21 134 rfl rfl rfl (deps_of' hd 21 (by kernel_rfl)) (by kernel_rfl)
                          cases ge with
                          | false =>
                            refine if_unwanted (j := 21) (s := 134) rfl rfl rfl e134 rfl ?_
                            exact hK _ _ trivial (fun h => by cases h) H.glob
                          | true =>
                            refine if_wanted (j := 21) (s := 134) rfl rfl rfl e134 rfl ?_
                            obtain ⟨v140, e140, q140⟩ := H.val 27 140 rfl rfl rfl (deps_of' hd 27 (by kernel_rfl)) (by kernel_rfl)
                            obtain rfl := q140 rfl
                            go_simp
                            exact hK _ _ trivial (fun _ => rfl) H.glob
                        case o29 =>
                          intro L vs A W H hf hd K hK
                          have e130 := H.is 17 130 rfl rfl rfl (deps_of' hd 17 (by kernel_rfl)) (by kernel_rfl)
                          refine if_wanted (j := 17) (s := 130) rfl rfl rfl e130 rfl ?_
                          have e134 := H.is 21 134 rfl rfl rfl (deps_of' hd 21 (by kernel_rfl)) (by kernel_rfl)
                          obtain ⟨v141, e141, q141⟩ := H.val 28 141 rfl rfl rfl (deps_of' hd 28 (by kernel_rfl)) (by kernel_rfl)
                          cases ge with
                          | false =>
                            go_simp
                            exact hK _ _ trivial rfl H.glob
                          | true =>
                            obtain rfl := q141 rfl
                            go_simp
                            exact hK _ _ trivial rfl H.glob
                        case o30 =>
                          intro L vs A W H hf hd K hK
                          have e130 := H.is 17 130 rfl rfl rfl (deps_of' hd 17 (by kernel_rfl)) (by kernel_rfl)
                          have e142 := H.is 29 142 rfl rfl rfl (deps_of' hd 29 (by kernel_rfl)) (by kernel_rfl)
                          go_simp
                          exact hK _ _ (trivial) rfl (H.glob)
                        case he =>
                          intro vs W hlen hv
                          match vs, hlen, hv with
                          | [x0_, x1_, x2_, x3_, x4_, x5_, x6_, x7_, x8_, x9_, x10_, x11_, x12_, x13_, x14_, x15_, x16_, x17_, x18_, x19_, x20_, x21_, x22_, x23_, x24_, x25_, x26_, x27_, x28_, x29_, x30_], _, hv =>
                          obtain rfl : (.int .i64 0) = x0_ := by obtain ⟨z, h1, h2⟩ := hv 0 _ rfl; cases h1; exact h2.symm
                          obtain rfl : (.bool false) = x1_ := by obtain ⟨z, h1, h2⟩ := hv 1 _ rfl; cases h1; exact h2.symm
                          obtain rfl : (.bool false) = x2_ := by obtain ⟨z, h1, h2⟩ := hv 2 _ rfl; cases h1; exact h2.symm
                          obtain rfl : (.bool hs) = x3_ := by obtain ⟨z, h1, h2⟩ := hv 3 _ rfl; cases h1; exact h2.symm
                          obtain rfl : (.pointer (some ⟨xb, 2, none⟩)) = x4_ := by obtain ⟨z, h1, h2⟩ := hv 4 _ rfl; cases h1; exact h2.symm
                          obtain rfl : (.int .u64 nx) = x5_ := by obtain ⟨z, h1, h2⟩ := hv 5 _ rfl; cases h1; exact h2.symm
                          obtain rfl : (.bool hs) = x6_ := by obtain ⟨z, h1, h2⟩ := hv 6 _ rfl; cases h1; exact h2.symm
                          obtain rfl : (.bool false) = x7_ := by obtain ⟨z, h1, h2⟩ := hv 7 _ rfl; cases h1; exact h2.symm
                          obtain rfl : (.bool false) = x8_ := by obtain ⟨z, h1, h2⟩ := hv 8 _ rfl; cases h1; exact h2.symm
                          obtain rfl : (.bool false) = x9_ := by obtain ⟨z, h1, h2⟩ := hv 9 _ rfl; cases h1; exact h2.symm
                          obtain rfl : (.bool hs) = x10_ := by obtain ⟨z, h1, h2⟩ := hv 10 _ rfl; cases h1; exact h2.symm
                          obtain rfl : (.bool hs) = x11_ := by obtain ⟨z, h1, h2⟩ := hv 11 _ rfl; cases h1; exact h2.symm
                          have hx12 : ((fun v _ => hs = true → v = .int .u64 hw)) x12_ W := by obtain ⟨z, h1, h2⟩ := hv 12 _ rfl; cases h1; exact h2
                          have hx13 : ((fun v _ => hs = true → v = .int .u64 low)) x13_ W := by obtain ⟨z, h1, h2⟩ := hv 13 _ rfl; cases h1; exact h2
                          have hx14 : ((fun v _ => hs = true → v = .bool false)) x14_ W := by obtain ⟨z, h1, h2⟩ := hv 14 _ rfl; cases h1; exact h2
                          obtain rfl : (.bool false) = x15_ := by obtain ⟨z, h1, h2⟩ := hv 15 _ rfl; cases h1; exact h2.symm
                          obtain rfl : (.bool false) = x16_ := by obtain ⟨z, h1, h2⟩ := hv 16 _ rfl; cases h1; exact h2.symm
                          obtain rfl : (.bool false) = x17_ := by obtain ⟨z, h1, h2⟩ := hv 17 _ rfl; cases h1; exact h2.symm
                          obtain rfl : (.agg (ndCells x1)) = x18_ := by obtain ⟨z, h1, h2⟩ := hv 18 _ rfl; cases h1; exact h2.symm
                          obtain rfl : (.int .i64 iv) = x19_ := by obtain ⟨z, h1, h2⟩ := hv 19 _ rfl; cases h1; exact h2.symm
                          obtain rfl : (.bool ge) = x20_ := by obtain ⟨z, h1, h2⟩ := hv 20 _ rfl; cases h1; exact h2.symm
                          obtain rfl : (.bool ge) = x21_ := by obtain ⟨z, h1, h2⟩ := hv 21 _ rfl; cases h1; exact h2.symm
                          have hx22 : ((fun v _ => ge = true → v = .agg (ndCells x1))) x22_ W := by obtain ⟨z, h1, h2⟩ := hv 22 _ rfl; cases h1; exact h2
                          have hx23 : ((fun v _ => ge = true → v = .int .i64 (nl : Int))) x23_ W := by obtain ⟨z, h1, h2⟩ := hv 23 _ rfl; cases h1; exact h2
                          have hx24 : ((fun v _ => ge = true → v = .agg (ndCells x1))) x24_ W := by obtain ⟨z, h1, h2⟩ := hv 24 _ rfl; cases h1; exact h2
                          have hx25 : ((fun v _ => ge = true → ∃ a c, v = .slice a vl c)) x25_ W := by obtain ⟨z, h1, h2⟩ := hv 25 _ rfl; cases h1; exact h2
                          have hx26 : ((fun v _ => ge = true → v = .int .i64 (vl : Int))) x26_ W := by obtain ⟨z, h1, h2⟩ := hv 26 _ rfl; cases h1; exact h2
                          have hx27 : ((fun v _ => ge = true → v = .int .i64 1)) x27_ W := by obtain ⟨z, h1, h2⟩ := hv 27 _ rfl; cases h1; exact h2
                          have hx28 : ((fun v _ => ge = true → v = .bool false)) x28_ W := by obtain ⟨z, h1, h2⟩ := hv 28 _ rfl; cases h1; exact h2
                          obtain rfl : (.bool false) = x29_ := by obtain ⟨z, h1, h2⟩ := hv 29 _ rfl; cases h1; exact h2.symm
                          obtain rfl : (.bool false) = x30_ := by obtain ⟨z, h1, h2⟩ := hv 30 _ rfl; cases h1; exact h2.symm
                          intro L hall hG
                          clear hv hlen
                          have HB9 := Lib.hid hG
                          clear hG hall
                          simp only [fill, if_true]
                        --END
                          simp [Act.put]
                          go_wp2_with (fail)
                          go_meet
                          exact ⟨rfl, HB9⟩
                      case rest =>
                        obtain ⟨rfl, HBc⟩ := hcut
                        have HXc := Lib.hid (HX8.out.kept (Keeps.of_below' HBc.out) (fun h => h))
                        have HGc := Lib.hid (show g < wc.heap.size from Nat.lt_of_lt_of_le HG8.out HBc.out.size)
                        have HNc := Lib.hid (HN8.out.below HBc.out HG8.out)
                        have HBd := Lib.hid (HB8.out.trans (HBc.out.mono (by rw [← HBE.out]; exact HB8.out.size)))
                        clear HX8 HG8 HN8 HB8 HBc HIv HLn HVl HIn' Hnx HHs
                        go_wp2_with (fail)
                        go_loopw [24] (fun kv wz => ∃ q : Nat, kv = .int .i64 q ∧ q ≤ tl ∧ Hid (Below wc.heap.size wc wz) ∧ Hid (∀ i nd, i < q → ms[i]? = some nd → ndCells nd ≠ ndCells tx)) (fun kv _ => tl - (intOf kv).toNat)
                        case atStart => exact ⟨0, rfl, by omega, Lib.hid (Below.refl _ _), Lib.hid (fun i nd h => by omega)⟩
                        case round =>
                          obtain ⟨q, rfl, hql, HBq, HNq⟩ := hrel
                          by_cases hlq : q < tl
                          · have b1 : (q : Int) < (tl : Int) := by omega
                            have b2 : tl ≤ 1000 := HTc.out.2
                            have HQl := Lib.hid (And.intro hlq hql)
                            obtain ⟨nd, hnd⟩ : ∃ nd, ms[q]? = some nd := ⟨_, List.getElem?_eq_getElem (by rw [HTl.out]; exact hlq)⟩
                            have HQn2 := Lib.hid hnd
                            have HNd := Lib.hid (HNc.out.below HBq.out HGc.out q nd hnd)
                            have HG9 := Lib.hid (show g < wr.heap.size from Nat.lt_of_lt_of_le HGc.out HBq.out.size)
                            have HX9 := Lib.hid (HXc.out.kept (Keeps.of_below' HBq.out) (fun h => h))
                            clear hnd
                            go_wp2_with (fail)
                            --GEN r_mo31
                            refine wp_region_vals [Is (.slice (some ⟨g, 0, none⟩) tl cap), Is (.int .i64 (q : Int)), Is (.pointer (some ⟨g, q * 21, none⟩)), Is (.agg (ndCells nd)), Is (.agg (ndCells x1)), Is (.agg (ndCells tx)), (fun v _ => ∃ r, v = .bool r ∧ (ndCells nd = ndCells tx → r = true))]
                              (fun _ _ _ => True) (fun _ W => Below wr.heap.size wr W) (by kernel_rfl) (by kernel_rfl) (by kernel_rfl) ?hst ?h0 ⟨?o0, ?o1, ?o2, ?o3, ?o4, ?o5, ?o6, trivial⟩ ?he
                            case hst =>
                              exact ⟨(fun _ _ _ _ _ _ h _ => h), (fun _ _ _ _ _ _ h _ => h), (fun _ _ _ _ _ _ h _ => h), (fun _ _ _ _ _ _ h _ => h), (fun _ _ _ _ _ _ h _ => h), (fun _ _ _ _ _ _ h _ => h), (fun _ _ _ _ _ _ h _ => h), trivial⟩
                            case h0 =>
                              exact (Below.refl _ wr).drew
                            case o0 =>
                              intro L vs A W H hf hd K hK
                              have e16 : A.tmps[16]?.getD undef = .slice (some ⟨g, 0, none⟩) tl cap := H.old 16 (by kernel_rfl)
                              go_simp
                              exact hK _ _ (trivial) rfl (H.glob)
                            case o1 =>
                              intro L vs A W H hf hd K hK
                              have e24 : A.tmps[24]?.getD undef = .int .i64 (q : Int) := H.old 24 (by kernel_rfl)
                              go_simp
                              exact hK _ _ (trivial) rfl (H.glob)
                            case o2 =>
                              intro L vs A W H hf hd K hK
                              have e150 := H.is 0 150 rfl rfl rfl (deps_of' hd 0 (by kernel_rfl)) (by kernel_rfl)
                              have e151 := H.is 1 151 rfl rfl rfl (deps_of' hd 1 (by kernel_rfl)) (by kernel_rfl)
                              have hq := HQl.out
                              go_simp
                              exact hK _ _ (trivial) rfl (H.glob)
                            case o3 =>
                              intro L vs A W H hf hd K hK
                              have e152 := H.is 2 152 rfl rfl rfl (deps_of' hd 2 (by kernel_rfl)) (by kernel_rfl)
                              refine wp_load_part 40 (.tmp 152) rfl g (q * 21) (ev_tmp e152) (ndCells nd) _ (fun j u hj => ?_) Try.underlying40 rfl (info27 nd) (hK _ _ trivial rfl H.glob)
                              rw [H.glob.cell (p := ⟨g, q * 21 + j, none⟩) HG9.out]
                              exact HNd.out j u hj
                            case o4 =>
                              intro L vs A W H hf hd K hK
                              have e20 : A.tmps[20]?.getD undef = .pointer (some ⟨xb, 0, none⟩) := H.old 20 (by kernel_rfl)
                              exact wp_load_nd (.tmp 20) rfl xb x1 (ev_tmp e20) (HX9.out.kept (Keeps.of_below' H.glob) (fun h => h)) (hK _ _ trivial rfl H.glob)
                            case o5 =>
                              intro L vs A W H hf hd K hK
                              have e154 := H.is 4 154 rfl rfl rfl (deps_of' hd 4 (by kernel_rfl)) (by kernel_rfl)
                              have HL := Lib.hid (HTx.out W)
                              go_simp
                              refine HL.out.mono ?_
                              rintro e w' ⟨rfl, hB⟩
                              go_simp
                              exact hK _ _ trivial rfl (H.glob.trans (hB.mono H.glob.size))
                            case o6 =>
                              intro L vs A W H hf hd K hK
                              have e153 := H.is 3 153 rfl rfl rfl (deps_of' hd 3 (by kernel_rfl)) (by kernel_rfl)
                              have e155 := H.is 5 155 rfl rfl rfl (deps_of' hd 5 (by kernel_rfl)) (by kernel_rfl)
                              exact wp_eq_any _ 153 155 _ _ _ _ nd tx e153 e155 (fun r hr => hK _ _ trivial ⟨r, rfl, hr⟩ H.glob)
                            case he =>
                              intro vs W hlen hv
                              match vs, hlen, hv with
                              | [x0_, x1_, x2_, x3_, x4_, x5_, x6_], _, hv =>
                              obtain rfl : (.slice (some ⟨g, 0, none⟩) tl cap) = x0_ := by obtain ⟨z, h1, h2⟩ := hv 0 _ rfl; cases h1; exact h2.symm
                              obtain rfl : (.int .i64 (q : Int)) = x1_ := by obtain ⟨z, h1, h2⟩ := hv 1 _ rfl; cases h1; exact h2.symm
                              obtain rfl : (.pointer (some ⟨g, q * 21, none⟩)) = x2_ := by obtain ⟨z, h1, h2⟩ := hv 2 _ rfl; cases h1; exact h2.symm
                              obtain rfl : (.agg (ndCells nd)) = x3_ := by obtain ⟨z, h1, h2⟩ := hv 3 _ rfl; cases h1; exact h2.symm
                              obtain rfl : (.agg (ndCells x1)) = x4_ := by obtain ⟨z, h1, h2⟩ := hv 4 _ rfl; cases h1; exact h2.symm
                              obtain rfl : (.agg (ndCells tx)) = x5_ := by obtain ⟨z, h1, h2⟩ := hv 5 _ rfl; cases h1; exact h2.symm
                              have hx6 : ((fun v _ => ∃ r, v = .bool r ∧ (ndCells nd = ndCells tx → r = true))) x6_ W := by obtain ⟨z, h1, h2⟩ := hv 6 _ rfl; cases h1; exact h2
                              intro L hall hG
                              clear hv hlen
                              have HB9 := Lib.hid hG
                              obtain ⟨r, rfl, hr⟩ := hx6
                              clear hG hall
                              simp only [fill, if_true]
                            --END
                              simp [Act.put]
                              have HBe := Lib.hid (HBq.out.trans (HB9.out.mono HBq.out.size))
                              have HBf := Lib.hid (HBd.out.trans (HBe.out.mono (by rw [← HBE.out]; exact HBd.out.size)))
                              cases r with
                              | true =>
                                have HKn := Lib.hid (known_v W)
                                go_wp2_with (fail)
                                refine HKn.out.mono ?_
                                rintro e wK ⟨rfl, hBK⟩
                                have HBK := Lib.hid (HBf.out.trans (hBK.mono (by rw [← HBE.out]; exact HBf.out.size)))
                                clear hBK
                                go_wp2_with (fail)
                                go_ret
                                exact ⟨rfl, HBK.out⟩
                              | false =>
                                have HN5 := Lib.hid (show ∀ i nd, i < q + 1 → ms[i]? = some nd → ndCells nd ≠ ndCells tx from fun i nd' hi he e => by
                                  by_cases h5 : i = q
                                  · subst h5
                                    rw [HQn2.out] at he
                                    injection he with he
                                    subst he
                                    exact absurd (hr e) (by decide)
                                  · exact HNq.out i nd' (by omega) he e)
                                clear hr
                                go_wp2_with (fail)
                                go_roundw
                                case rel => exact ⟨q + 1, by go_num, by have := HQl.out.1; omega, HBe, HN5⟩
                                case measure => have := HQl.out.1; simp [intOf]; omega
                          · exfalso
                            have hj := HJ5.out.1
                            have hm5 := List.getElem?_eq_getElem (show j5 < ms.length by rw [HTl.out]; exact hj)
                            exact HNq.out j5 _ (by omega) hm5 (HJ5.out.2 _ hm5)
              · have hnt0 : nt ≠ 0 := fun e => by have := hj0.le e; rw [hwr] at hlt; omega
                clear hwr
                have hq : decide ((0 : Int) < (nt : Int)) = true := decide_eq_true (by omega)
                have HBr := Lib.hid HI.out.l.b
                clear hj0 hj64
                have HKn := Lib.hid (known_v wr)
                go_wp2_with (fail)
                refine HKn.out.mono ?_
                rintro e wK ⟨rfl, hBK⟩
                have HBK := Lib.hid (HBr.out.trans (hBK.mono (by rw [← HBE.out]; exact HBr.out.size)))
                clear hBK
                go_wp2_with (fail)
                go_ret
                exact ⟨rfl, HBK.out⟩
    · have hq1 : decide ((l.length : Int) ≤ 20) = false := decide_eq_false hfw
      have HKn := Lib.hid (known_v w6)
      go_wp2_with (fail)
      refine HKn.out.mono ?_
      rintro e wK ⟨rfl, hBK⟩
      have HBK := Lib.hid (HB5.out.trans (hBK.mono (by rw [← HBE.out]; exact HB5.out.size)))
      clear hBK
      go_wp2_with (fail)
      go_ret
      exact ⟨rfl, HBK.out⟩
end Go.Proofs.Ytgmbnoimlffgcaa
