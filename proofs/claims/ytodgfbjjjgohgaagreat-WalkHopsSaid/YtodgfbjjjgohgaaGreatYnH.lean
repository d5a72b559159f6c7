/-
 THE LAW WalkHops: a contract.
-/
import Derived.Test.YtodgfbjjjgohgaaGreatYmH
namespace Go.Proofs.YtodgfbjjjgohgaaGreat
open Go.RowKit
attribute [local go_sem] Oper.semAt_some
set_option linter.unusedVariables false

set_option maxRecDepth 100000 in
set_option maxHeartbeats 16000000 in
theorem walkhops_v (w : World) (slabs per lag : Int) (A : Option Addr) (c : Nat) (l : List Int) (key level : Int) (hr : Reads w w.heap.size 1 A l.length (l.map (Value.int .u64))) (hu : ∀ x ∈ l, 0 <= x /\ x <= 18446744073709551615) (hk : 0 <= key) :
  Calls Tryz.prog 3 #[.agg (laidC slabs A l.length c per lag), .int .u64 key, .int .i64 level] w fun e w' => e = .returned (.bool true) /\ Below w.heap.size w w' := by
 have hb0 := Blk.new w (laidC slabs A l.length c per lag) 24
 have hB0 : Below w.heap.size w (w.alloc (.cells (laidC slabs A l.length c per lag) 24)) := (Below.refl _ w).alloc (Nat.le_refl _) _
 obtain ⟨bx, hbx⟩ : ∃ bx, w.heap.size = bx := ⟨_, rfl⟩
 rw [hbx] at hb0
 obtain ⟨w1, hw1⟩ : ∃ w1, w.alloc (.cells (laidC slabs A l.length c per lag) 24) = w1 := ⟨_, rfl⟩
 rw [hw1] at hb0 hB0
 have HW1 := Lib.hid hw1
 have HB1 := Lib.hid hB0
 have HLd := Lib.hid (show ∀ j v, (laidC slabs A l.length c per lag)[j]? = some v -> w1.cell? ⟨bx, 0 + j, none⟩ = some v from fun j v hj => by rw [Nat.zero_add, hb0.cell]; exact hj)
 have HInf := Lib.hid (show (Tryz.prog.info? 24).map (·.size) = some (laidC slabs A l.length c per lag).size from (show (Tryz.prog.info? 24).map (·.size) = some 4 by kernel_rfl))
 have HLay := Lib.hid (show Calls Tryz.prog 7 #[.agg (laidC slabs A l.length c per lag)] w1 fun e w' => LayQ w1 w' e l from
  (lay_v w1 A c slabs per lag l ((hr.below hB0).more hB0.size) hu).mono (fun e w' h => LayP.q hu h))
 have HKey := Lib.hid hk
 clear hb0 hB0 hw1 hr hu hk
 go_enter Tryz.func3, Tryz.ntmps3
 go_upto_region 1 with (fail)
 try rw [hbx]
 rw [HW1.out]
 clear HW1
 go_wp2_with ((with_reducible refine wpList_load_part (o := ⟨some 20, _, _, _, _, _⟩) ?hg 24 (.tmp 3) ?ho bx 0 ?hx (laidC slabs A l.length c per lag) ?dd ?hc ?hu ?hd ?hi ?_); (case hg => rfl); (case ho => rfl); (case hx => rfl); (case hc => exact HLd.out); (case hu => exact Tryz.underlying24); (case hd => rfl); (case hi => exact HInf.out))
 refine HLay.out.mono ?_
 rintro e w2 ⟨hB2, rfl | ⟨d, sl, pr, lg, l0, kd, cn, ab, gb, cb, g, cap, rfl, h1, h2, h8, hBt, hA⟩⟩
 ·have HB2 := Lib.hid (HB1.out.trans (hB2.mono HB1.out.size))
  have HKn := Lib.hid (known_v w2)
  clear hB2 HLay HB1 HLd HInf
  go_wp2_with (fail)
  refine HKn.out.mono ?_
  rintro e w3 ⟨rfl, hB3⟩
  have HBf := Lib.hid (HB2.out.trans (hB3.mono HB2.out.size))
  clear hB3
  go_wp2_with (fail)
  go_ret
  exact ⟨rfl, HBf.out⟩
 ·have HB2 := Lib.hid (HB1.out.trans (hB2.mono HB1.out.size))
  have HBt := Lib.hid hBt
  have HAr := Lib.hid hA
  have HP := Lib.hid (And.intro h1 (And.intro h2 h8))
  obtain ⟨nl, hnl⟩ : ∃ nl, d.lv.length = nl := ⟨_, rfl⟩
  have Hnl := Lib.hid hnl
  have c7 := hA.c7
  rw [hnl] at c7
  clear hB2 HLay HB1 HLd HInf hBt hA h1 h2 h8 hnl
  by_cases hlv : 0 <= level /\ level < (nl : Int)
  ·obtain ⟨lvn, rfl⟩ : ∃ lvn : Nat, level = lvn := ⟨level.toNat, by omega⟩
   have hL : lvn < nl := by omega
   have q0 : decide ((lvn : Int) < 0) = false := decide_eq_false (by omega)
   have q1 : decide (nl <= lvn) = false := decide_eq_false (by omega)
   have HL := Lib.hid hL
   clear hlv hL
   obtain ⟨ln, hln⟩ : ∃ ln, d.L.length = ln := ⟨_, rfl⟩
   have c0 := HAr.out.b0
   have HOn := Lib.hid (show Calls Tryz.prog 9 #[.slice (some ⟨gb, 0, none⟩) ln cb, .int .i64 1] w2 fun e w' => OnP w2 w' e d.L sl from by
    rw [<- hln]
    refine on_v w2 gb cb d.L sl 1 ?_ HAr.out.cl HAr.out.gl HAr.out.by_ (by decide)
    have := HBt.out.i.n.i.img (by rw [HBt.out.sl]; exact HP.out.1)
    rw [HBt.out.sl] at this
    exact this)
   rw [hln] at c0
   clear hln
   go_upto_region 4 with (fail)
   go_wp2_with (fail)
   refine HOn.out.mono ?_
   rintro e w3 ⟨xb, mb, S, rfl, hO⟩
   have HO := Lib.hid hO
   have HS2 := Lib.hid (show ∀ i, S i -> w2.heap.size <= i from hO.lo)
   have HB3 := Lib.hid hO.b
   clear hO HOn c0 q0 q1
   go_wp2_with (fail)
   refine (wnew_v (some ⟨xb, 0, none⟩) 0 key (lvn : Int) w3).mono ?_
   rintro e w4 ⟨rfl, hb4, hB4⟩
   obtain ⟨kb, hkb⟩ : ∃ kb, w3.heap.size = kb := ⟨_, rfl⟩
   rw [hkb] at hb4 ⊢
   have h40 : (risR 40 [] l).length <= 40 := by have := risR_len (most := 40) l [] (by decide); omega
   have hLd : lvn < d.lv.length := by rw [Hnl.out]; exact HL.out
   have HDo := Lib.hid (gdone_v (JJ := fun _ _ _ _ => True) (Q0 := False) (HBt.out.tr HP.out.2.1 HP.out.2.2 key HKey.out) hLd (by decide) (by decide) (HBt.out.rem_le HP.out.2.1 HP.out.2.2 h40 key HKey.out) (Nat.le_refl _) (fun _ _ _ h => trivial) (fun _ _ _ _ _ _ _ _ _ _ _ _ _ _ _ => trivial) w4 w4.heap.size
    (start_g (level := lvn) (N0 := 200) (JJ := fun _ _ _ _ => True) (Q0 := False) HBt.out HO.out hkb hb4 hB4 trivial (ofA d key) (stA d pr key)))
   have HB4 := Lib.hid (HB3.out.trans (hB4.mono HB3.out.size))
   have Hkb := Lib.hid (show w2.heap.size <= kb from by rw [<- hkb]; exact HB3.out.size)
   have H40 := Lib.hid h40
   clear hb4 hB4 hkb HB3 h40 hLd HO
   go_wp2_with (fail)
   refine HDo.out.mono ?_
   rintro e w5 ⟨⟨cc, sm, rfl⟩, ⟨U, jj, hF5, R, x, lt, tt, sb, hw, hs, T, S5, is, mk, F, lo, fl, fe, hR, hx, hlt, hT5, hb5, hM5, _⟩, hk5⟩
   have HB5 := Lib.hid (show Below w2.heap.size w2 w5 from ⟨hk5.os.trans HB4.out.os, hk5.tape.trans HB4.out.tape, hk5.output.trans HB4.out.output, Nat.le_trans HB4.out.size hk5.size, fun i hi => (hk5.block i (Nat.lt_of_lt_of_le hi HB4.out.size) (fun h => by
    have h1 := HB4.out.size
    have h2 := Hkb.out
    rcases h with h | h | h
    ·omega
    ·have := HS2.out i h; omega
    ·omega)).trans (HB4.out.block i hi)⟩)
   have HHp := Lib.hid (show Calls Tryz.prog 12 #[.pointer (some ⟨kb, 0, none⟩)] w5 fun e w' => e = .returned (if tt = 0 then .tuple #[.int .u64 0, .int .u64 0, .bool false] else .tuple #[.int .u64 lt, .int .u64 tt, .bool true]) /\ Below w5.heap.size w5 w' from whop_v w5 kb _ hb5)
   have HXR := Lib.hid (And.intro hR hx)
   obtain ⟨hi, hHi⟩ : ∃ hi : Bool, decide (stA d pr key lvn < ofA d key lvn) = hi := ⟨_, rfl⟩
   have hx1 : (x.1 : Int) ≠ 0 := by
    obtain ⟨l9, g9⟩ := HBt.out.i.rw lvn R hR
    have := (g9.w x (List.mem_of_getElem? hx)).2.1
    omega
   have HHop := Lib.hid (show (hi = false -> lt = 0 /\ tt = 0) /\ (hi = true -> lt = x.2.lo /\ tt = (x.1 : Int)) /\ Calls Tryz.prog 12 #[.pointer (some ⟨kb, 0, none⟩)] w5 fun e w' => e = .returned (.tuple #[.int .u64 lt, .int .u64 tt, .bool hi]) /\ Below w5.heap.size w5 w' from by
    unfold hopLT at hlt
    have hb := HHp.out
    by_cases h : stA d pr key lvn < ofA d key lvn
    ·rw [if_pos ⟨rfl, h⟩] at hlt
     injection hlt with g1 g2
     rw [decide_eq_true h] at hHi
     subst hHi g1 g2
     refine ⟨(fun h => by cases h), fun _ => ⟨rfl, rfl⟩, hb.mono ?_⟩
     rintro e w' ⟨rfl, hB⟩
     exact ⟨by rw [if_neg hx1], hB⟩
    ·rw [if_neg (fun e => h e.2)] at hlt
     injection hlt with g1 g2
     rw [decide_eq_false h] at hHi
     subst hHi g1 g2
     refine ⟨fun _ => ⟨rfl, rfl⟩, (fun h => by cases h), hb.mono ?_⟩
     rintro e w' ⟨rfl, hB⟩
     exact ⟨by rw [if_pos rfl], hB⟩)
   have HHi := Lib.hid hHi
   have HX1 := Lib.hid hx1
   clear hF5 hlt hT5 hb5 hM5 hk5 HHp HDo HB4 hR hx hHi hx1
   go_wp2_with (fail)
   refine HHop.out.2.2.mono ?_
   rintro e w6 ⟨rfl, hB6⟩
   have HB6 := Lib.hid (HB5.out.trans (hB6.mono HB5.out.size))
   clear hB6 HB5
   have HRl := Lib.hid (HBt.out.rowLe HP.out.2.1 H40.out lvn R HXR.out.1)
   have hrl : R.length <= 20 := by have := HRl.out; split at this <;> omega
   have HOf := Lib.hid (aof_v w6 ab gb cb g cap d (HAr.out.below HB6.out) lvn R HXR.out.1 key HBt.out.le (by omega))
   obtain ⟨q, hq⟩ : ∃ q, ofA d key lvn = q := ⟨_, rfl⟩
   rw [hq] at HOf HXR HHi
   have Hq := Lib.hid hq
   clear hrl hq
   go_wp2_with (fail)
   refine HOf.out.mono ?_
   rintro e w7 ⟨rfl, rfl⟩
   have hA6 := HAr.out.below HB6.out
   obtain ⟨rb, cr, hrc, hrow⟩ := hA6.row lvn R HXR.out.1
   have hql := (List.getElem?_eq_some_iff.1 HXR.out.2).1
   obtain ⟨rn, hrn⟩ : ∃ rn, R.length = rn := ⟨_, rfl⟩
   have d7 := hA6.c7
   rw [Hnl.out] at d7
   rw [hrn] at hrc hql HRl
   have HLx := Lib.hid (show ∀ j v, (atC x.1 x.2)[j]? = some v -> w6.cell? ⟨rb, q * 22 + j, none⟩ = some v from fun j v hj => by
    have hj22 : j < 22 := by have := (Array.getElem?_eq_some_iff.1 hj).1; rwa [atC_size] at this
    exact (hrow.cell HXR.out.2 hj22).trans hj)
   have hz := Blk.new w6 (atC 0 nd0) 48
   have hzr := hz.row (atC x.1 x.2)
   have kx : Below w6.heap.size w6 ((w6.alloc (.cells (atC 0 nd0) 48)).setRow w6.heap.size (atC x.1 x.2)) := below_setRow ((Below.refl _ w6).alloc (Nat.le_refl _) _) (Nat.le_refl _) _
   obtain ⟨vb, hvb⟩ : ∃ vb, w6.heap.size = vb := ⟨_, rfl⟩
   rw [hvb] at hz hzr
   have HVb := Lib.hid hvb
   have HZ := Lib.hid hz
   obtain ⟨w8, hw8⟩ : ∃ w8, (w6.alloc (.cells (atC 0 nd0) 48)).setRow vb (atC x.1 x.2) = w8 := ⟨_, rfl⟩
   have HW8 := Lib.hid hw8
   rw [hvb, hw8] at kx
   rw [hw8] at hzr
   have HV8 := Lib.hid hzr
   have HB8 := Lib.hid (show Below w2.heap.size w2 w8 from HB6.out.trans (kx.mono (by have := HB6.out.size; omega)))
   have e1 : (0 : Int) <= (lvn : Int) := by omega
   have e2 : (lvn : Int) < (nl : Int) := by have := HL.out; omega
   have e3 : ((lvn : Int)).toNat = lvn := by omega
   have e4 : (0 : Int) <= (q : Int) := by omega
   have e5 : (q : Int) < (rn : Int) := by omega
   have e6 : ((q : Int)).toNat = q := by omega
   have hL15 : lvn <= 15 := by have := HL.out; have := HBt.out.le; have := Hnl.out; omega
   have HRn := Lib.hid hrn
   have HRow := Lib.hid hrow
   clear hA6 hrow hql hrn hz hzr kx hvb hw8 HOf c7
   have hqn : q < rn := by omega
   go_upto_region 11 with (fail)
   go_step
   refine wpList_plain rfl (fun K hK => ?_)
   go_simp
   refine hK _ _ ?_
   clear hK K
   refine wpList_plain rfl (fun K hK => ?_)
   go_simp
   refine hK _ _ ?_
   clear hK K
   refine wpList_plain rfl (fun K hK => ?_)
   go_simp
   refine hK _ _ ?_
   clear hK K
   refine wpList_plain rfl (fun K hK => ?_)
   go_simp
   refine hK _ _ ?_
   clear hK K
   refine wpList_plain rfl (fun K hK => ?_)
   go_simp
   refine hK _ _ ?_
   clear hK K
   refine wpList_plain rfl (fun K hK => ?_)
   go_simp
   refine hK _ _ ?_
   clear hK K
   refine wpList_plain rfl (fun K hK => ?_)
   go_simp
   refine hK _ _ ?_
   clear hK K
   refine wpList_plain rfl (fun K hK => ?_)
   go_simp
   refine hK _ _ ?_
   clear hK K
   refine wpList_idx_at rfl rfl (.tmp 68) (.tmp 69) 70 rfl rfl rfl rb rn cr q x.1 x.2 (ev_tmp (by simp)) (ev_tmp (by simp)) hqn (by simp) HLx.out ?_
   go_upto_region 12 with (first
    | ((with_reducible refine wpList_alloc_at (o := ⟨some 14, _, _, _, _, _⟩) ?hga ?hoa vb ?hza ?_); (case hga => rfl); (case hoa => rfl); (case hza => exact HVb.out))
    | ((with_reducible refine wpList_store_at (o := ⟨none, .store 48 (.tmp 14) (.tmp 71), _, _, _, _⟩) ?hgc (.tmp 14) (.tmp 71) ?hoc vb (atC x.1 x.2) x.1 x.2 0 nd0 ?hxc ?hyc ?hbc ?hmc ?_); (case hgc => rfl); (case hoc => rfl); (case hxc => exact ev_tmp (by simp [Act.put])); (case hyc => exact ev_tmp (by simp [Act.put])); (case hmc => rfl); (case hbc => exact HZ.out)))
   rw [HW8.out]
   clear HW8 HZ HVb HLx d7 hrc
   simp [Act.put]
   go_upto_region 13 with (fail)
   obtain ⟨s, hs⟩ : ∃ s, stA d pr key lvn = s := ⟨_, rfl⟩
   rw [hs] at HHi
   have Hs := Lib.hid hs
   have HA8 := Lib.hid (HAr.out.below HB8.out)
   have c7 := HA8.out.c7
   rw [Hnl.out] at c7
   clear hs
   obtain ⟨u, hup⟩ : ∃ u : Bool, decide ((lvn : Int) + 1 < (nl : Int)) = u := ⟨_, rfl⟩
   have Hup := Lib.hid hup
   go_upto_if 79 with (fail)
   go_cut [15] (fun v wx => v = .int .i64 (s : Nat) /\ Hid (Below w8.heap.size w8 wx))
   case first =>
    cases u with
    | false =>
     have hs0 : s = 0 := by
      rw [<- Hs.out]
      unfold stA
      have h1 := of_decide_eq_false Hup.out
      have h2 := Hnl.out
      rw [if_neg (by omega)]
     subst hs0
     go_wp2_with (fail)
     go_meet
     exact ⟨rfl, Lib.hid (Below.refl _ _)⟩
    | true =>
     have hup1 : lvn + 1 < nl := by have := of_decide_eq_true Hup.out; omega
     obtain ⟨m1, hm1⟩ : ∃ m1, lvn + 1 = m1 := ⟨_, rfl⟩
     obtain ⟨R2, hR2⟩ : ∃ R2, d.lv[lvn + 1]? = some R2 := ⟨_, List.getElem?_eq_getElem (by have := Hnl.out; omega)⟩
     have HM1 := Lib.hid hm1
     have hq2l := (ofA_lt HBt.out.i key hR2).1
     obtain ⟨y, hy⟩ : ∃ y, R2[ofA d key (lvn + 1)]? = some y := ⟨_, List.getElem?_eq_getElem hq2l⟩
     obtain ⟨fr, hU⟩ := up_q HBt.out HP.out.2.1 HP.out.2.2 key HXR.out.1 hR2 hy
     rw [Hs.out] at hU
     rw [hm1] at hR2 hq2l hy hup1
     obtain ⟨q2, hq2⟩ : ∃ q2, ofA d key m1 = q2 := ⟨_, rfl⟩
     have hOf2 : ∀ W, Below w8.heap.size w8 W -> Calls Tryz.prog 13 #[.pointer (some ⟨ab, 0, none⟩), .int .i64 (m1 : Int), .int .u64 key] W fun e w' => e = .returned (.int .i64 (q2 : Int)) /\ W = w' := fun W hB => by
      rw [<- hq2]
      exact aof_v W ab gb cb g cap d (HA8.out.below hB) m1 R2 hR2 key HBt.out.le (by have := HBt.out.rowLe HP.out.2.1 H40.out m1 R2 hR2; split at this <;> omega)
     rw [hq2] at hq2l hy
     obtain ⟨rb2, cr2, hrc2, hrow2⟩ := HA8.out.row m1 R2 hR2
     obtain ⟨rbL, crL, hrcL, hrowL⟩ := HA8.out.row lvn R HXR.out.1
     obtain ⟨rn2, hrn2⟩ : ∃ rn2, R2.length = rn2 := ⟨_, rfl⟩
     rw [hrn2] at hrc2 hq2l
     rw [HRn.out] at hrcL
     have hc7 := HA8.out.c7
     rw [Hnl.out] at hc7
     obtain ⟨ub, hub⟩ : ∃ ub, w8.heap.size = ub := ⟨_, rfl⟩
     have HUb := Lib.hid hub
     have HOf2 := Lib.hid hOf2
     have HLt := Lib.hid (And.intro HA8.out.lt.1 (And.intro HA8.out.lt.2 hrow2.lt))
     have HCl := Lib.hid (And.intro hc7 (And.intro hrc2 (show ∀ j v, (atC y.1 y.2)[j]? = some v -> w8.cell? ⟨rb2, q2 * 22 + j, none⟩ = some v from fun j v hj => by
      have hj22 : j < 22 := by have := (Array.getElem?_eq_some_iff.1 hj).1; rwa [atC_size] at this
      exact (hrow2.cell hy hj22).trans hj)))
     have HL1 := Lib.hid (show IntKind.i64.wrap ((lvn : Int) + 1) = (m1 : Int) /\ ((m1 : Int) < (nl : Int)) /\ m1 < nl from ⟨by rw [IntWalk.i64_in _ (by omega)]; omega, by omega, hup1⟩)
     have HQ2 := Lib.hid (show (q2 : Int) < (rn2 : Int) /\ q2 < rn2 from ⟨by omega, hq2l⟩)
     have HU := Lib.hid hU
     have HRL := Lib.hid (And.intro hrcL hrowL)
     clear hR2 hy hU hq2 hOf2 hrc2 hrow2 hrcL hrowL hrn2 hc7 hub hq2l hup1 hm1
     go_upto_region 14 with (fail)
     refine wp_region_vals [Is (.pointer (some ⟨ab, 0, none⟩)), Is (.pointer (some ⟨ab, 0, none⟩)), Is (.pointer (some ⟨ab, 7, none⟩)), Is (.slice (some ⟨g, 0, none⟩) nl cap), Is (.int .i64 (lvn : Int)), Is (.int .i64 (m1 : Int)), Is (.pointer (some ⟨g, m1, none⟩)), Is (.slice (some ⟨rb2, 0, none⟩) rn2 cr2), Is (.pointer (some ⟨ab, 0, none⟩)), Is (.int .i64 (lvn : Int)), Is (.int .i64 (m1 : Int)), Is (.int .u64 key), Is (.int .i64 (q2 : Int)), Is (.pointer (some ⟨rb2, q2 * 22, none⟩)), Is (.agg (atC y.1 y.2)), Is (.pointer (some ⟨ub, 0, none⟩)), Any]
      (fun _ _ _ => True) (fun L2 W => UpG w8 ub y.1 y.2 L2 W) (by kernel_rfl) (by kernel_rfl) (by kernel_rfl) ?hst ?h0 ⟨?o0, ?o1, ?o2, ?o3, ?o4, ?o5, ?o6, ?o7, ?o8, ?o9, ?o10, ?o11, ?o12, ?o13, ?o14, ?o15, ?o16, trivial⟩ ?he
     any_goals (intro L vs A W H hf hd K hK)
     case hst => repeat' (first | exact trivial | refine ⟨fun _ _ _ _ _ _ h _ => h, ?_⟩)
     case h0 =>
      exact UpG.start HUb.out
     case o0 => have e7 : A.tmps[7]?.getD undef = .pointer (some ⟨ab, 0, none⟩) := H.old 7 (by kernel_rfl); go_simp; exact hK _ _ (trivial) rfl (H.glob.keep rfl rfl)
     case o1 => have e80 := H.iz hd 0 80 rfl rfl rfl (by kernel_rfl); go_simp; exact hK _ _ (trivial) rfl (H.glob.keep rfl rfl)
     case o2 => have e81 := H.iz hd 1 81 rfl rfl rfl (by kernel_rfl); go_simp; exact hK _ _ (trivial) rfl (H.glob.keep rfl rfl)
     case o3 => have e82 := H.iz hd 2 82 rfl rfl rfl (by kernel_rfl); have d : W.cell? ⟨ab, 7, none⟩ = some (.slice (some ⟨g, 0, none⟩) nl cap) := (H.glob.k.cell (p := ⟨ab, 7, none⟩) HLt.out.1).trans HCl.out.1; go_simp; exact hK _ _ (trivial) rfl (H.glob.keep rfl rfl)
     case o4 => have e2 : A.tmps[2]?.getD undef = .int .i64 (lvn : Int) := H.old 2 (by kernel_rfl); go_simp; exact hK _ _ (trivial) rfl (H.glob.keep rfl rfl)
     case o5 => have e84 := H.iz hd 4 84 rfl rfl rfl (by kernel_rfl); have hw := HL1.out.1; go_simp; exact hK _ _ (trivial) rfl (H.glob.keep rfl rfl)
     case o6 => have e83 := H.iz hd 3 83 rfl rfl rfl (by kernel_rfl); have e85 := H.iz hd 5 85 rfl rfl rfl (by kernel_rfl); have hw := HL1.out.2.1; have hw2 := HL1.out.2.2; go_simp; exact hK _ _ (trivial) rfl (H.glob.keep rfl rfl)
     case o7 => have e86 := H.iz hd 6 86 rfl rfl rfl (by kernel_rfl); have d : W.cell? ⟨g, m1, none⟩ = some (.slice (some ⟨rb2, 0, none⟩) rn2 cr2) := (H.glob.k.cell (p := ⟨g, m1, none⟩) HLt.out.2.1).trans HCl.out.2.1; go_simp; exact hK _ _ (trivial) rfl (H.glob.keep rfl rfl)
     case o8 => have e7 : A.tmps[7]?.getD undef = .pointer (some ⟨ab, 0, none⟩) := H.old 7 (by kernel_rfl); go_simp; exact hK _ _ (trivial) rfl (H.glob.keep rfl rfl)
     case o9 => have e2 : A.tmps[2]?.getD undef = .int .i64 (lvn : Int) := H.old 2 (by kernel_rfl); go_simp; exact hK _ _ (trivial) rfl (H.glob.keep rfl rfl)
     case o10 => have e89 := H.iz hd 9 89 rfl rfl rfl (by kernel_rfl); have hw := HL1.out.1; go_simp; exact hK _ _ (trivial) rfl (H.glob.keep rfl rfl)
     case o11 => have e1 : A.tmps[1]?.getD undef = .int .u64 key := H.old 1 (by kernel_rfl); go_simp; exact hK _ _ (trivial) rfl (H.glob.keep rfl rfl)
     case o12 => have e88 := H.iz hd 8 88 rfl rfl rfl (by kernel_rfl); have e90 := H.iz hd 10 90 rfl rfl rfl (by kernel_rfl); have e91 := H.iz hd 11 91 rfl rfl rfl (by kernel_rfl); have hC := HOf2.out W H.glob.k; go_simp; refine hC.mono ?_; rintro e w' ⟨rfl, rfl⟩; go_simp; exact hK _ _ trivial rfl (H.glob.keep rfl rfl)
     case o13 => have e87 := H.iz hd 7 87 rfl rfl rfl (by kernel_rfl); have e92 := H.iz hd 12 92 rfl rfl rfl (by kernel_rfl); have hw := HQ2.out.1; have hw2 := HQ2.out.2; go_simp; exact hK _ _ (trivial) rfl (H.glob.keep rfl rfl)
     case o14 => have e93 := H.iz hd 13 93 rfl rfl rfl (by kernel_rfl); refine wp_ld_part 48 (.tmp 93) rfl rb2 (q2 * 22) (ev_tmp e93) (atC y.1 y.2) _ (fun j u hj => ?_) Tryz.underlying48 rfl (infoAt y.1 y.2) (hK _ _ trivial rfl (H.glob.keep rfl rfl)); rw [H.glob.k.cell (p := ⟨rb2, q2 * 22 + j, none⟩) HLt.out.2.2]; exact HCl.out.2.2 j u hj
     case o15 => have hz := H.glob.n hf; refine wp_alloc_at rfl ub hz ?_; exact hK _ _ trivial rfl (H.glob.alloc hf (H.notYet 16 15 rfl hf (by kernel_rfl)))
     case o16 => have e16 := H.iz hd 15 16 rfl rfl rfl (by kernel_rfl); have e94 := H.iz hd 14 94 rfl rfl rfl (by kernel_rfl); have n15 := deps_of' hd 15 (by kernel_rfl); exact wp_store_at (.tmp 16) (.tmp 94) rfl ub _ _ _ _ (ev_tmp e16) (ev_tmp e94) (H.glob.b0 n15 hf) (hK _ _ trivial trivial (H.glob.store n15 hf HUb.out))
     case he =>
      intro vs W hlen hv
      match vs, hlen, hv with
      | [x0_, x1_, x2_, x3_, x4_, x5_, x6_, x7_, x8_, x9_, x10_, x11_, x12_, x13_, x14_, x15_, x16_], _, hv =>
      obtain rfl := isv hv 0 rfl rfl; obtain rfl := isv hv 1 rfl rfl; obtain rfl := isv hv 2 rfl rfl; obtain rfl := isv hv 3 rfl rfl; obtain rfl := isv hv 4 rfl rfl; obtain rfl := isv hv 5 rfl rfl; obtain rfl := isv hv 6 rfl rfl; obtain rfl := isv hv 7 rfl rfl; obtain rfl := isv hv 8 rfl rfl; obtain rfl := isv hv 9 rfl rfl; obtain rfl := isv hv 10 rfl rfl; obtain rfl := isv hv 11 rfl rfl; obtain rfl := isv hv 12 rfl rfl; obtain rfl := isv hv 13 rfl rfl; obtain rfl := isv hv 14 rfl rfl; obtain rfl := isv hv 15 rfl rfl
      intro L hall hG
      clear hv hlen
      have HG := Lib.hid (And.intro hG.k (hG.b1 (hall 16 (by decide))))
      clear hG hall
      simp only [fill, if_true]
      simp [Act.put]
      obtain ⟨wB, rfl⟩ : ∃ wB, wB = W := ⟨_, rfl⟩
      have HBB := Lib.hid HG.out.1
      have HUp := Lib.hid HG.out.2
      have HRA := Lib.hid (show ∀ W, Below wB.heap.size wB W -> W.cell? ⟨ab, 7, none⟩ = some (.slice (some ⟨g, 0, none⟩) nl cap) /\ W.cell? ⟨g, lvn, none⟩ = some (.slice (some ⟨rbL, 0, none⟩) rn crL) /\ (∀ (i : Nat) (z : Nat × Nd), R[i]? = some z -> W.cell? ⟨rbL, i * 22, none⟩ = some (.int .u64 (z.1 : Int))) /\ Blk W ub (atC y.1 y.2) 48 /\ ab < W.heap.size /\ g < W.heap.size /\ rbL < W.heap.size /\ ub < W.heap.size from fun W hB => by
       have h8 := HG.out.1.trans (hB.mono HG.out.1.size)
       have hl1 := HA8.out.lt
       have hl2 := HRL.out.2.lt
       have hs := h8.size
       have hub := HG.out.2.kept (Keeps.of_below' hB) (fun e => e)
       refine ⟨(h8.cell (p := ⟨ab, 7, none⟩) hl1.1).trans HCl.out.1, (h8.cell (p := ⟨g, lvn, none⟩) hl1.2).trans HRL.out.1, fun i z hz => ?_, hub, by omega, by omega, by omega, hub.lt⟩
       have := (HRL.out.2.cell (k := 0) hz (by decide))
       rw [Nat.add_zero] at this
       exact (h8.cell (p := ⟨rbL, i * 22, none⟩) hl2).trans (this.trans rfl))
      have HEq := Lib.hid (show ∀ (i : Nat) (z : Nat × Nd) (j : Nat) (zj : Nat × Nd), R[i]? = some z -> R[j]? = some zj -> ((z.1 : Int) == (zj.1 : Int)) = decide (i = j) from fun i z j zj hz hj => by
       obtain ⟨l9, g9⟩ := HBt.out.i.rw lvn R HXR.out.1
       by_cases e : i = j
       ·subst e
        obtain rfl : z = zj := Option.some.inj (hz.symm.trans hj)
        simp
       ·rw [decide_eq_false e, beq_eq_false_iff_ne]
        intro h
        have h' : z.1 = zj.1 := by omega
        have n1 : (R.map (·.1))[i]? = some z.1 := by rw [List.getElem?_map, hz]; rfl
        have n2 : (R.map (·.1))[j]? = some zj.1 := by rw [List.getElem?_map, hj]; rfl
        have l1 := (List.getElem?_eq_some_iff.1 n1).1
        have l2 := (List.getElem?_eq_some_iff.1 n2).1
        have hnd := List.pairwise_iff_getElem.1 g9.nd
        rcases Nat.lt_or_ge i j with h1 | h1
        ·have := hnd i j l1 l2 h1
         rw [(List.getElem?_eq_some_iff.1 n1).2, (List.getElem?_eq_some_iff.1 n2).2] at this
         exact this h'
        ·have := hnd j i l2 l1 (by omega)
         rw [(List.getElem?_eq_some_iff.1 n1).2, (List.getElem?_eq_some_iff.1 n2).2] at this
         exact this h'.symm)
      have HLl := Lib.hid (show (lvn : Int) < (nl : Int) /\ lvn < nl from ⟨e2, HL.out⟩)
      have HGt := Lib.hid (show ∀ i : Nat, i < rn -> ∃ z, R[i]? = some z from fun i hi => ⟨_, List.getElem?_eq_getElem (by rw [HRn.out]; exact hi)⟩)
      have hfrl : fr < rn := by rw [<- HRn.out]; exact HU.out.lt
      obtain ⟨z0, hz0, hz1⟩ := HU.out.fi
      have HZ0 := Lib.hid hz0
      obtain ⟨zf, hzf⟩ : ∃ zf, (z0.1 : Int) = zf := ⟨_, rfl⟩
      have HZf := Lib.hid hzf
      have HFi := Lib.hid (show y.2.fi = zf from hz1.trans hzf)
      obtain ⟨f1, hf1⟩ : ∃ f1 : Nat -> Nat, (fun i => if fr < i then fr else 0) = f1 := ⟨_, rfl⟩
      have HF1 := Lib.hid (show f1 0 = 0 /\ f1 (fr + 1) = fr /\ (∀ i, i ≠ fr -> f1 (i + 1) = f1 i) /\ f1 rn = fr from by
       rw [<- hf1]
       refine ⟨rfl, ?_, fun i hi => ?_, ?_⟩
       ·show (if fr < fr + 1 then fr else 0) = fr
        rw [if_pos (by omega)]
       ·show (if fr < i + 1 then fr else 0) = (if fr < i then fr else 0)
        by_cases h : fr < i
        ·rw [if_pos h, if_pos (by omega)]
        ·rw [if_neg h, if_neg (by omega)]
       ·show (if fr < rn then fr else 0) = fr
        rw [if_pos hfrl])
      have hrn20 : rn <= 20 := by have := HRl.out; split at this <;> omega
      have HR20 := Lib.hid hrn20
      have HFr := Lib.hid hfrl
      clear HG hz0 hz1 hzf hf1 hrn20 hfrl HCl
      go_wp2_with (fail)
      go_loopw [15, 17] (fun fv iv wr => ∃ i : Nat, i <= rn /\ iv = .int .i64 i /\ fv = .int .i64 (f1 i : Nat) /\ Hid (Below wB.heap.size wB wr)) (fun _ iv _ => rn - (intOf iv).toNat)
      case atStart => exact ⟨0, Nat.zero_le _, rfl, by rw [HF1.out.1]; rfl, Lib.hid (Below.refl _ _)⟩
      case round =>
       obtain ⟨i, hi, rfl, rfl, HB⟩ := hrel
       obtain ⟨k7, kg, kr, kb9, l1, l2, l3, l4⟩ := HRA.out wr HB.out
       by_cases hlt : i < rn
       ·obtain ⟨z, hz⟩ := HGt.out i hlt
        have hzi := kr i z hz
        have hbq := HEq.out i z fr z0 hz HZ0.out
        rw [HZf.out] at hbq
        obtain ⟨zi, hzie⟩ : ∃ zi, (z.1 : Int) = zi := ⟨_, rfl⟩
        rw [hzie] at hzi hbq
        obtain ⟨bq, hbqe⟩ : ∃ bq, decide (i = fr) = bq := ⟨_, rfl⟩
        rw [hbqe] at hbq
        have HBq := Lib.hid hbq
        have HBe := Lib.hid hbqe
        have HLt := Lib.hid (And.intro l1 (And.intro l2 (And.intro l3 l4)))
        have HCl := Lib.hid (And.intro k7 (And.intro kg (And.intro hzi (show wr.cell? ⟨ub, 5, none⟩ = some (.int .u64 zf) from (kb9.cell 5).trans ((atC_succ _ _ 4).trans (by rw [<- HFi.out]; rfl))))))
        have HIl := Lib.hid (show (i : Int) < (rn : Int) /\ i < rn from ⟨by omega, hlt⟩)
        have b1 : (i : Int) < (rn : Int) := by omega
        have b4 : (i : Int) <= 20 := by have := HR20.out; omega
        obtain ⟨fi, hfi⟩ : ∃ fi, f1 i = fi := ⟨_, rfl⟩
        have HFI := Lib.hid hfi
        rw [hfi]
        clear hz hzi hbq hzie hbqe k7 kr kb9 l1 l2 l3 l4 hfi hi
        have k7 := HCl.out.1
        clear hlt
        go_upto_region 18 with (fail)
        refine wp_region_vals [Is (.pointer (some ⟨ab, 0, none⟩)), Is (.pointer (some ⟨ab, 0, none⟩)), Is (.pointer (some ⟨ab, 7, none⟩)), Is (.slice (some ⟨g, 0, none⟩) nl cap), Is (.int .i64 (lvn : Int)), Is (.pointer (some ⟨g, lvn, none⟩)), Is (.slice (some ⟨rbL, 0, none⟩) rn crL), Is (.int .i64 (i : Int)), Is (.pointer (some ⟨rbL, i * 22, none⟩)), Is (.pointer (some ⟨rbL, i * 22, none⟩)), Is (.int .u64 zi), Is (.pointer (some ⟨ub, 1, none⟩)), Is (.pointer (some ⟨ub, 5, none⟩)), Is (.int .u64 zf), Is (.bool bq)]
         (fun _ _ _ => True) (fun _ W => Below wr.heap.size wr W) (by kernel_rfl) (by kernel_rfl) (by kernel_rfl) ?hst ?h0 ⟨?o0, ?o1, ?o2, ?o3, ?o4, ?o5, ?o6, ?o7, ?o8, ?o9, ?o10, ?o11, ?o12, ?o13, ?o14, trivial⟩ ?he
        any_goals (intro L vs A W H hf hd K hK)
        case hst => repeat' (first | exact trivial | refine ⟨fun _ _ _ _ _ _ h _ => h, ?_⟩)
        case h0 =>
         exact (Below.refl _ wr).drew
        case o0 => have e7 : A.tmps[7]?.getD undef = .pointer (some ⟨ab, 0, none⟩) := H.old 7 (by kernel_rfl); go_simp; exact hK _ _ (trivial) rfl (H.glob)
        case o1 => have e107 := H.iz hd 0 107 rfl rfl rfl (by kernel_rfl); go_simp; exact hK _ _ (trivial) rfl (H.glob)
        case o2 => have e108 := H.iz hd 1 108 rfl rfl rfl (by kernel_rfl); go_simp; exact hK _ _ (trivial) rfl (H.glob)
        case o3 => have e109 := H.iz hd 2 109 rfl rfl rfl (by kernel_rfl); have d : W.cell? ⟨ab, 7, none⟩ = some (.slice (some ⟨g, 0, none⟩) nl cap) := (H.glob.cell (p := ⟨ab, 7, none⟩) HLt.out.1).trans HCl.out.1; go_simp; exact hK _ _ (trivial) rfl (H.glob)
        case o4 => have e2 : A.tmps[2]?.getD undef = .int .i64 (lvn : Int) := H.old 2 (by kernel_rfl); go_simp; exact hK _ _ (trivial) rfl (H.glob)
        case o5 => have e110 := H.iz hd 3 110 rfl rfl rfl (by kernel_rfl); have e111 := H.iz hd 4 111 rfl rfl rfl (by kernel_rfl); have hw := HLl.out.1; have hw2 := HLl.out.2; go_simp; exact hK _ _ (trivial) rfl (H.glob)
        case o6 => have e112 := H.iz hd 5 112 rfl rfl rfl (by kernel_rfl); have d : W.cell? ⟨g, lvn, none⟩ = some (.slice (some ⟨rbL, 0, none⟩) rn crL) := (H.glob.cell (p := ⟨g, lvn, none⟩) HLt.out.2.1).trans HCl.out.2.1; go_simp; exact hK _ _ (trivial) rfl (H.glob)
        case o7 => have e17 : A.tmps[17]?.getD undef = .int .i64 (i : Int) := H.old 17 (by kernel_rfl); go_simp; exact hK _ _ (trivial) rfl (H.glob)
        case o8 => have e113 := H.iz hd 6 113 rfl rfl rfl (by kernel_rfl); have e114 := H.iz hd 7 114 rfl rfl rfl (by kernel_rfl); have hw := HIl.out.1; have hw2 := HIl.out.2; go_simp; exact hK _ _ (trivial) rfl (H.glob)
        case o9 => have e115 := H.iz hd 8 115 rfl rfl rfl (by kernel_rfl); go_simp; exact hK _ _ (trivial) rfl (H.glob)
        case o10 => have e116 := H.iz hd 9 116 rfl rfl rfl (by kernel_rfl); have d : W.cell? ⟨rbL, i * 22, none⟩ = some (.int .u64 zi) := (H.glob.cell (p := ⟨rbL, i * 22, none⟩) HLt.out.2.2.1).trans HCl.out.2.2.1; go_simp; exact hK _ _ (trivial) rfl (H.glob)
        case o11 => have e16 : A.tmps[16]?.getD undef = .pointer (some ⟨ub, 0, none⟩) := H.old 16 (by kernel_rfl); go_simp; exact hK _ _ (trivial) rfl (H.glob)
        case o12 => have e118 := H.iz hd 11 118 rfl rfl rfl (by kernel_rfl); go_simp; exact hK _ _ (trivial) rfl (H.glob)
        case o13 => have e119 := H.iz hd 12 119 rfl rfl rfl (by kernel_rfl); have d : W.cell? ⟨ub, 5, none⟩ = some (.int .u64 zf) := (H.glob.cell (p := ⟨ub, 5, none⟩) HLt.out.2.2.2).trans HCl.out.2.2.2; go_simp; exact hK _ _ (trivial) rfl (H.glob)
        case o14 => have e117 := H.iz hd 10 117 rfl rfl rfl (by kernel_rfl); have e120 := H.iz hd 13 120 rfl rfl rfl (by kernel_rfl); have hq := HBq.out; go_simp; exact hK _ _ (trivial) rfl (H.glob)
        case he =>
         intro vs W hlen hv
         match vs, hlen, hv with
         | [x0_, x1_, x2_, x3_, x4_, x5_, x6_, x7_, x8_, x9_, x10_, x11_, x12_, x13_, x14_], _, hv =>
         obtain rfl := isv hv 0 rfl rfl; obtain rfl := isv hv 1 rfl rfl; obtain rfl := isv hv 2 rfl rfl; obtain rfl := isv hv 3 rfl rfl; obtain rfl := isv hv 4 rfl rfl; obtain rfl := isv hv 5 rfl rfl; obtain rfl := isv hv 6 rfl rfl; obtain rfl := isv hv 7 rfl rfl; obtain rfl := isv hv 8 rfl rfl; obtain rfl := isv hv 9 rfl rfl; obtain rfl := isv hv 10 rfl rfl; obtain rfl := isv hv 11 rfl rfl; obtain rfl := isv hv 12 rfl rfl; obtain rfl := isv hv 13 rfl rfl; obtain rfl := isv hv 14 rfl rfl
         intro L hall hG
         clear hv hlen
         have HB9 := Lib.hid hG
         clear hG hall
         simp only [fill, if_true]
         simp [Act.put]
         have HB2w := Lib.hid (HB.out.trans (HB9.out.mono HB.out.size))
         clear HB9
         cases bq with
         | true =>
          have hif : i = fr := of_decide_eq_true HBe.out
          have HN := Lib.hid (show f1 (i + 1) = i from by rw [hif]; exact HF1.out.2.1)
          clear hif
          go_wp2_with (fail)
          go_roundw
          case rel => exact ⟨i + 1, HIl.out.2, by go_num, by rw [HN.out], HB2w⟩
          case measure => have := HIl.out; simp [intOf]; omega
         | false =>
          have hif : i ≠ fr := of_decide_eq_false HBe.out
          have HN := Lib.hid (show f1 (i + 1) = fi from by rw [HF1.out.2.2.1 i hif]; exact HFI.out)
          clear hif
          go_wp2_with (fail)
          go_roundw
          case rel => exact ⟨i + 1, HIl.out.2, by go_num, by rw [HN.out], HB2w⟩
          case measure => have := HIl.out; simp [intOf]; omega
       ·obtain rfl : rn = i := by omega
        rw [HF1.out.2.2.2]
        obtain ⟨f2, hf2⟩ : ∃ f2 : Nat -> Nat, fromJ y.2.k y.2.len fr key = f2 := ⟨_, rfl⟩
        have HF2 := Lib.hid (show f2 0 = fr /\ (∀ J, f2 (J + 1) = if J < y.2.len /\ y.2.k J <= key then fr + J + 1 else f2 J) /\ f2 8 = s from by
         have h := HU.out.fin
         rw [hf2] at h
         rw [<- hf2] at h ⊢
         exact ⟨rfl, fun J => rfl, h⟩)
        have k7 := k7
        clear hf2 hi hlt kr kb9 l1 l2 l3 l4
        go_wp2_with (fail)
        clear k7 kg
        go_loopw [15, 18] (fun fv jv wq => ∃ J : Nat, J <= 8 /\ jv = .int .i64 J /\ fv = .int .i64 (f2 J : Nat) /\ Hid (Below wB.heap.size wB wq)) (fun _ jv _ => 8 - (intOf jv).toNat)
        case atStart => exact ⟨0, by decide, rfl, by rw [HF2.out.1], HB⟩
        case round =>
         rename_i wrOld
         clear HB
         obtain ⟨J, hJ8, rfl, rfl, HB⟩ := hrel
         obtain ⟨wq, hwq⟩ : ∃ wq, wr = wq := ⟨_, rfl⟩
         rw [hwq] at HB ⊢
         clear hwq
         by_cases hJ : J < 8
         ·have c8 : (J : Int) < 8 := by omega
          have c8n : (0 : Int) <= (J : Int) := by omega
          have c8t : ((J : Int)).toNat = J := by omega
          have HJl := Lib.hid (show (J : Int) < 8 /\ J < 8 from ⟨c8, hJ⟩)
          obtain ⟨kj, hkj⟩ : ∃ kj, y.2.k J = kj := ⟨_, rfl⟩
          obtain ⟨zp, hzp⟩ : ∃ zp, y.2.p J = zp := ⟨_, rfl⟩
          have HUc := Lib.hid (show ∀ W, Below wB.heap.size wB W -> W.cell? ⟨ub, 14 + J, none⟩ = some (.int .u64 zp) /\ W.cell? ⟨ub, 6 + J, none⟩ = some (.int .u64 kj) from fun W hB => by
           obtain ⟨_, _, _, hb, _⟩ := HRA.out W hB
           refine ⟨(hb.cell (14 + J)).trans ?_, (hb.cell (6 + J)).trans ?_⟩
           ·rw [show 14 + J = 1 + (13 + J) by omega, atC_succ, ndCells_p _ _ hJ, hzp]
           ·rw [show 6 + J = 1 + (5 + J) by omega, atC_succ, ndCells_k _ _ hJ, hkj])
          obtain ⟨fj, hfj⟩ : ∃ fj, f2 J = fj := ⟨_, rfl⟩
          by_cases hact : J < y.2.len /\ y.2.k J <= key
          ·obtain ⟨z3, hz3, hp3, hp0⟩ := HU.out.en J hact.1
           obtain ⟨q3, hq3⟩ : ∃ q3, fr + J + 1 = q3 := ⟨_, rfl⟩
           rw [hq3] at hz3
           have hq3l : q3 < rn := by rw [<- HRn.out]; exact (List.getElem?_eq_some_iff.1 hz3).1
           have HNx := Lib.hid (show f2 (J + 1) = q3 from by rw [HF2.out.2.1 J, if_pos hact]; exact hq3)
           rw [hzp] at hp3 hp0
           have hp0b : (zp != 0) = true := by simpa using hp0
           have hkb : decide (kj <= key) = true := decide_eq_true (by rw [<- hkj]; exact hact.2)
           have HZ3 := Lib.hid (And.intro hz3 hp3)
           obtain ⟨f3, hf3⟩ : ∃ f3 : Nat -> Nat, (fun i => if q3 < i then q3 else fj) = f3 := ⟨_, rfl⟩
           have HF3 := Lib.hid (show f3 0 = fj /\ f3 (q3 + 1) = q3 /\ (∀ i, i ≠ q3 -> f3 (i + 1) = f3 i) /\ f3 rn = q3 from by
            rw [<- hf3]
            refine ⟨rfl, ?_, fun i hi => ?_, ?_⟩
            ·show (if q3 < q3 + 1 then q3 else fj) = q3
             rw [if_pos (by omega)]
            ·show (if q3 < i + 1 then q3 else fj) = (if q3 < i then q3 else fj)
             by_cases h : q3 < i
             ·rw [if_pos h, if_pos (by omega)]
             ·rw [if_neg h, if_neg (by omega)]
            ·show (if q3 < rn then q3 else fj) = q3
             rw [if_pos hq3l])
           rw [hfj]
           clear hkj hzp hfj hact hz3 hp3 hp0 hq3 hq3l hf3 hJ8 hJ
           go_wp2_with (fail)
           go_loopw [15, 19] (fun fv iv wr => ∃ i : Nat, i <= rn /\ iv = .int .i64 i /\ fv = .int .i64 (f3 i : Nat) /\ Hid (Below wB.heap.size wB wr)) (fun _ iv _ => rn - (intOf iv).toNat)
           case atStart => exact ⟨0, Nat.zero_le _, rfl, by rw [HF3.out.1], HB⟩
           case round =>
            clear HB
            obtain ⟨i, hi, rfl, rfl, HB⟩ := hrel
            obtain ⟨k7, kg, kr, _, l1, l2, l3, l4⟩ := HRA.out wr HB.out
            obtain ⟨kp, kk⟩ := HUc.out wr HB.out
            by_cases hlt : i < rn
            ·obtain ⟨z, hz⟩ := HGt.out i hlt
             have hzi := kr i z hz
             have hbq := HEq.out i z q3 z3 hz HZ3.out.1
             rw [<- HZ3.out.2] at hbq
             obtain ⟨zi, hzie⟩ : ∃ zi, (z.1 : Int) = zi := ⟨_, rfl⟩
             rw [hzie] at hzi hbq
             obtain ⟨bq, hbqe⟩ : ∃ bq, decide (i = q3) = bq := ⟨_, rfl⟩
             rw [hbqe] at hbq
             have HBq := Lib.hid hbq
             have HBe := Lib.hid hbqe
             have HLt := Lib.hid (And.intro l1 (And.intro l2 (And.intro l3 l4)))
             have HCl := Lib.hid (And.intro k7 (And.intro kg (And.intro hzi kp)))
             have HIl := Lib.hid (show (i : Int) < (rn : Int) /\ i < rn from ⟨by omega, hlt⟩)
             have b1 : (i : Int) < (rn : Int) := by omega
             have b4 : (i : Int) <= 20 := by have := HR20.out; omega
             obtain ⟨fi, hfi⟩ : ∃ fi, f3 i = fi := ⟨_, rfl⟩
             have HFI := Lib.hid hfi
             rw [hfi]
             clear hz hzi hbq hzie hbqe kr l1 l2 l3 l4 hfi hi hlt
             go_upto_region 26 with (fail)
             clear kp kk
             refine wp_region_vals [Is (.pointer (some ⟨ab, 0, none⟩)), Is (.pointer (some ⟨ab, 0, none⟩)), Is (.pointer (some ⟨ab, 7, none⟩)), Is (.slice (some ⟨g, 0, none⟩) nl cap), Is (.int .i64 (lvn : Int)), Is (.pointer (some ⟨g, lvn, none⟩)), Is (.slice (some ⟨rbL, 0, none⟩) rn crL), Is (.int .i64 (i : Int)), Is (.pointer (some ⟨rbL, i * 22, none⟩)), Is (.pointer (some ⟨rbL, i * 22, none⟩)), Is (.int .u64 zi), Is (.int .i64 (J : Int)), Is (.pointer (some ⟨ub, 1, none⟩)), Is (.pointer (some ⟨ub, 14, none⟩)), Is (.pointer (some ⟨ub, 14 + J, none⟩)), Is (.int .u64 zp), Is (.bool bq)]
              (fun _ _ _ => True) (fun _ W => Below wr.heap.size wr W) (by kernel_rfl) (by kernel_rfl) (by kernel_rfl) ?hst ?h0 ⟨?o0, ?o1, ?o2, ?o3, ?o4, ?o5, ?o6, ?o7, ?o8, ?o9, ?o10, ?o11, ?o12, ?o13, ?o14, ?o15, ?o16, trivial⟩ ?he
             any_goals (intro L vs A W H hf hd K hK)
             case hst => repeat' (first | exact trivial | refine ⟨fun _ _ _ _ _ _ h _ => h, ?_⟩)
             case h0 =>
              exact (Below.refl _ wr).drew
             case o0 => have e7 : A.tmps[7]?.getD undef = .pointer (some ⟨ab, 0, none⟩) := H.old 7 (by kernel_rfl); go_simp; exact hK _ _ (trivial) rfl (H.glob)
             case o1 => have e156 := H.iz hd 0 156 rfl rfl rfl (by kernel_rfl); go_simp; exact hK _ _ (trivial) rfl (H.glob)
             case o2 => have e157 := H.iz hd 1 157 rfl rfl rfl (by kernel_rfl); go_simp; exact hK _ _ (trivial) rfl (H.glob)
             case o3 => have e158 := H.iz hd 2 158 rfl rfl rfl (by kernel_rfl); have d : W.cell? ⟨ab, 7, none⟩ = some (.slice (some ⟨g, 0, none⟩) nl cap) := (H.glob.cell (p := ⟨ab, 7, none⟩) HLt.out.1).trans HCl.out.1; go_simp; exact hK _ _ (trivial) rfl (H.glob)
             case o4 => have e2 : A.tmps[2]?.getD undef = .int .i64 (lvn : Int) := H.old 2 (by kernel_rfl); go_simp; exact hK _ _ (trivial) rfl (H.glob)
             case o5 => have e159 := H.iz hd 3 159 rfl rfl rfl (by kernel_rfl); have e160 := H.iz hd 4 160 rfl rfl rfl (by kernel_rfl); have hw := HLl.out.1; have hw2 := HLl.out.2; go_simp; exact hK _ _ (trivial) rfl (H.glob)
             case o6 => have e161 := H.iz hd 5 161 rfl rfl rfl (by kernel_rfl); have d : W.cell? ⟨g, lvn, none⟩ = some (.slice (some ⟨rbL, 0, none⟩) rn crL) := (H.glob.cell (p := ⟨g, lvn, none⟩) HLt.out.2.1).trans HCl.out.2.1; go_simp; exact hK _ _ (trivial) rfl (H.glob)
             case o7 => have e19 : A.tmps[19]?.getD undef = .int .i64 (i : Int) := H.old 19 (by kernel_rfl); go_simp; exact hK _ _ (trivial) rfl (H.glob)
             case o8 => have e162 := H.iz hd 6 162 rfl rfl rfl (by kernel_rfl); have e163 := H.iz hd 7 163 rfl rfl rfl (by kernel_rfl); have hw := HIl.out.1; have hw2 := HIl.out.2; go_simp; exact hK _ _ (trivial) rfl (H.glob)
             case o9 => have e164 := H.iz hd 8 164 rfl rfl rfl (by kernel_rfl); go_simp; exact hK _ _ (trivial) rfl (H.glob)
             case o10 => have e165 := H.iz hd 9 165 rfl rfl rfl (by kernel_rfl); have d : W.cell? ⟨rbL, i * 22, none⟩ = some (.int .u64 zi) := (H.glob.cell (p := ⟨rbL, i * 22, none⟩) HLt.out.2.2.1).trans HCl.out.2.2.1; go_simp; exact hK _ _ (trivial) rfl (H.glob)
             case o11 => have e18 : A.tmps[18]?.getD undef = .int .i64 (J : Int) := H.old 18 (by kernel_rfl); go_simp; exact hK _ _ (trivial) rfl (H.glob)
             case o12 => have e16 : A.tmps[16]?.getD undef = .pointer (some ⟨ub, 0, none⟩) := H.old 16 (by kernel_rfl); go_simp; exact hK _ _ (trivial) rfl (H.glob)
             case o13 => have e168 := H.iz hd 12 168 rfl rfl rfl (by kernel_rfl); go_simp; exact hK _ _ (trivial) rfl (H.glob)
             case o14 => have e169 := H.iz hd 13 169 rfl rfl rfl (by kernel_rfl); have e167 := H.iz hd 11 167 rfl rfl rfl (by kernel_rfl); have hw := HJl.out.1; have hw2 := HJl.out.2; go_simp; exact hK _ _ (trivial) rfl (H.glob)
             case o15 => have e170 := H.iz hd 14 170 rfl rfl rfl (by kernel_rfl); have d : W.cell? ⟨ub, 14 + J, none⟩ = some (.int .u64 zp) := (H.glob.cell (p := ⟨ub, 14 + J, none⟩) HLt.out.2.2.2).trans HCl.out.2.2.2; go_simp; exact hK _ _ (trivial) rfl (H.glob)
             case o16 => have e166 := H.iz hd 10 166 rfl rfl rfl (by kernel_rfl); have e171 := H.iz hd 15 171 rfl rfl rfl (by kernel_rfl); have hq := HBq.out; go_simp; exact hK _ _ (trivial) rfl (H.glob)
             case he =>
              intro vs W hlen hv
              match vs, hlen, hv with
              | [x0_, x1_, x2_, x3_, x4_, x5_, x6_, x7_, x8_, x9_, x10_, x11_, x12_, x13_, x14_, x15_, x16_], _, hv =>
              obtain rfl := isv hv 0 rfl rfl; obtain rfl := isv hv 1 rfl rfl; obtain rfl := isv hv 2 rfl rfl; obtain rfl := isv hv 3 rfl rfl; obtain rfl := isv hv 4 rfl rfl; obtain rfl := isv hv 5 rfl rfl; obtain rfl := isv hv 6 rfl rfl; obtain rfl := isv hv 7 rfl rfl; obtain rfl := isv hv 8 rfl rfl; obtain rfl := isv hv 9 rfl rfl; obtain rfl := isv hv 10 rfl rfl; obtain rfl := isv hv 11 rfl rfl; obtain rfl := isv hv 12 rfl rfl; obtain rfl := isv hv 13 rfl rfl; obtain rfl := isv hv 14 rfl rfl; obtain rfl := isv hv 15 rfl rfl; obtain rfl := isv hv 16 rfl rfl
              intro L hall hG
              clear hv hlen
              have HB9 := Lib.hid hG
              clear hG hall
              simp only [fill, if_true]
              simp [Act.put]
              have HB2w := Lib.hid (HB.out.trans (HB9.out.mono HB.out.size))
              clear HB9 k7 kg
              cases bq with
              | true =>
               have hif : i = q3 := of_decide_eq_true HBe.out
               have HN := Lib.hid (show f3 (i + 1) = i from by rw [hif]; exact HF3.out.2.1)
               clear hif
               go_wp2_with (fail)
               go_roundw
               case rel => exact ⟨i + 1, HIl.out.2, by go_num, by rw [HN.out], HB2w⟩
               case measure => have := HIl.out; simp [intOf]; omega
              | false =>
               have hif : i ≠ q3 := of_decide_eq_false HBe.out
               have HN := Lib.hid (show f3 (i + 1) = fi from by rw [HF3.out.2.2.1 i hif]; exact HFI.out)
               clear hif
               go_wp2_with (fail)
               go_roundw
               case rel => exact ⟨i + 1, HIl.out.2, by go_num, by rw [HN.out], HB2w⟩
               case measure => have := HIl.out; simp [intOf]; omega
            ·obtain rfl : rn = i := by omega
             rw [HF3.out.2.2.2]
             clear hi hlt kr l1 l2 l3 l4
             go_wp2_with (fail)
             go_roundw
             case rel => exact ⟨J + 1, HJl.out.2, by go_num, by rw [HNx.out], HB⟩
             case measure => have := HJl.out; simp [intOf]; omega
          ·have HNx := Lib.hid (show f2 (J + 1) = fj from by rw [HF2.out.2.1 J, if_neg hact]; exact hfj)
           rw [hfj]
           have hor : (zp != 0) = false ∨ ((zp != 0) = true /\ decide (kj <= key) = false) := by
            by_cases hl : J < y.2.len
            ·obtain ⟨_, _, _, hp0⟩ := HU.out.en J hl
             rw [hzp] at hp0
             refine .inr ⟨by simpa using hp0, decide_eq_false (fun h => hact ⟨hl, by rw [hkj]; exact h⟩)⟩
            ·refine .inl ?_
             rw [<- hzp, HU.out.nz J hJ (by omega)]; rfl
           have hrn0 : (0 : Int) < (rn : Int) := by have := HFr.out; omega
           have hrn0n : 0 < rn := by have := HFr.out; omega
           clear hkj hzp hfj hact hJ8 hJ
           go_wp2_with (fail)
           go_loopw [15, 19] (fun fv iv wr => iv = .int .i64 0 /\ fv = .int .i64 (fj : Nat) /\ Hid (Below wB.heap.size wB wr)) (fun _ _ _ => 0)
           case atStart => exact ⟨rfl, rfl, HB⟩
           case round =>
            clear HB
            obtain ⟨rfl, rfl, HB⟩ := hrel
            obtain ⟨k7, kg, _, _, _⟩ := HRA.out wr HB.out
            obtain ⟨kp, kk⟩ := HUc.out wr HB.out
            rcases hor with h0 | ⟨h0, h1⟩
            ·go_wp2_with (fail)
             go_roundw
             case rel => exact ⟨J + 1, HJl.out.2, by go_num, by rw [HNx.out], HB⟩
             case measure => have := HJl.out; simp [intOf]; omega
            ·go_wp2_with (fail)
             go_roundw
             case rel => exact ⟨J + 1, HJl.out.2, by go_num, by rw [HNx.out], HB⟩
             case measure => have := HJl.out; simp [intOf]; omega
         ·obtain rfl : J = 8 := by omega
          rw [HF2.out.2.2]
          go_wp2_with (fail)
          go_meet
          exact ⟨rfl, Lib.hid (HBB.out.trans (HB.out.mono HBB.out.size))⟩
   case rest =>
    obtain ⟨rfl, HBc⟩ := hcut
    have hV := HV8.out.kept (Keeps.of_below' HBc.out) (fun e => e)
    have v0 : wc.cell? ⟨vb, 0, none⟩ = some (.int .u64 (x.1 : Int)) := (hV.cell 0).trans rfl
    have v2 : wc.cell? ⟨vb, 2, none⟩ = some (.int .u64 x.2.lo) := (hV.cell 2).trans ((atC_succ _ _ 1).trans rfl)
    have HKn := Lib.hid (known_v wc)
    have HBF := Lib.hid (HB2.out.trans ((HB8.out.trans (HBc.out.mono HB8.out.size)).mono HB2.out.size))
    have hsq : s <= q := by
     have h := ((path_st HBt.out.i HP.out.2.1 HP.out.2.2 HBt.out.ne key HKey.out).lt lvn R HXR.out.1).2
     have h1 := Hs.out
     have h2 := Hq.out
     omega
    obtain ⟨xl, hxl⟩ : ∃ xl, x.2.lo = xl := ⟨_, rfl⟩
    obtain ⟨xa, hxa⟩ : ∃ xa, (x.1 : Int) = xa := ⟨_, rfl⟩
    rw [hxl] at v2 HHop
    rw [hxa] at v0 HHop
    clear hV HBc hxl hxa
    cases hi with
    | false =>
     obtain ⟨rfl, rfl⟩ := HHop.out.1 rfl
     obtain rfl : s = q := by have := of_decide_eq_false HHi.out; omega
     clear hsq
     go_wp2_with (fail)
     refine HKn.out.mono ?_
     rintro e w9 ⟨rfl, hB9⟩
     have HBG := Lib.hid (HBF.out.trans (hB9.mono HBF.out.size))
     clear hB9
     go_wp2_with (fail)
     go_ret
     exact ⟨rfl, HBG.out⟩
    | true =>
     obtain ⟨rfl, rfl⟩ := HHop.out.2.1 rfl
     have hlt : s < q := of_decide_eq_true HHi.out
     have f1 : (q == s) = false := beq_eq_false_iff_ne.2 (by omega)
     have f2 : ((q : Int) == (s : Int)) = false := beq_eq_false_iff_ne.2 (by omega)
     clear hsq hlt
     go_wp2_with (fail)
     refine HKn.out.mono ?_
     rintro e w9 ⟨rfl, hB9⟩
     have HBG := Lib.hid (HBF.out.trans (hB9.mono HBF.out.size))
     clear hB9
     go_wp2_with (fail)
     go_ret
     exact ⟨rfl, HBG.out⟩
  ·have HKn := Lib.hid (known_v w2)
   by_cases h0 : level < 0
   ·have q0 : decide (level < 0) = true := decide_eq_true h0
    clear hlv h0
    go_wp2_with (fail)
    refine HKn.out.mono ?_
    rintro e w3 ⟨rfl, hB3⟩
    have HBf := Lib.hid (HB2.out.trans (hB3.mono HB2.out.size))
    clear hB3
    go_wp2_with (fail)
    go_ret
    exact ⟨rfl, HBf.out⟩
   ·have q0 : decide (level < 0) = false := decide_eq_false h0
    have q1 : decide ((nl : Int) <= level) = true := decide_eq_true (by omega)
    clear hlv h0
    go_wp2_with (fail)
    refine HKn.out.mono ?_
    rintro e w3 ⟨rfl, hB3⟩
    have HBf := Lib.hid (HB2.out.trans (hB3.mono HB2.out.size))
    clear hB3
    go_wp2_with (fail)
    go_ret
    exact ⟨rfl, HBf.out⟩
end Go.Proofs.YtodgfbjjjgohgaaGreat
