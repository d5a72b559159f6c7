/-
  THE DOCUMENT's LOCKS: Release.
-/
import Derived.Test.YtajccnmeijgagaaRg
namespace Go.Proofs.Ytajccnmeijgagaa
open Go.RowKit Go.Maps
set_option linter.unusedVariables false

def rrB (n : Nat) (l : List (Int × Int)) (c id : Int) : Bool := decide (0 ≤ c ∧ c < n ∧ hldI l id = c)
def rrL (n : Nat) (l : List (Int × Int)) (c id : Int) : List (Int × Int) := if rrB n l c id = true then l.filter (fun x => x.1 != id) else l
def rrW (n : Nat) (W : Nat → Int) (c id : Int) : Nat → Int := if 0 ≤ c ∧ c < n ∧ W c.toNat = id then updN W c.toNat 0 else W
def fl (l : List (Int × Int)) (id : Int) (k : Nat) : List (Int × Int) := (l.take k).filter (fun x => x.1 != id)
theorem fl_zero (l : List (Int × Int)) (id : Int) : fl l id 0 = [] := rfl
theorem fl_yes {l : List (Int × Int)} {id : Int} {k : Nat} (hk : k < l.length) (h : hI l k ≠ id) : fl l id (k + 1) = fl l id k ++ [(hI l k, hC l k)] := by
  unfold fl
  rw [List.take_succ_eq_append_getElem hk, List.filter_append, has_get l hk, List.filter_cons, if_pos (bne_iff_ne.2 h)]
  rfl
theorem fl_no {l : List (Int × Int)} {id : Int} {k : Nat} (hk : k < l.length) (h : hI l k = id) : fl l id (k + 1) = fl l id k := by
  unfold fl
  rw [List.take_succ_eq_append_getElem hk, List.filter_append, has_get l hk, List.filter_cons, if_neg (by simp [h])]
  simp
theorem fl_all (l : List (Int × Int)) (id : Int) {k : Nat} (hk : l.length ≤ k) : fl l id k = l.filter (fun x => x.1 != id) := by
  unfold fl; rw [List.take_of_length_le hk]
theorem fl_len (l : List (Int × Int)) (id : Int) (k : Nat) : (fl l id k).length ≤ l.length := by
  unfold fl
  exact Nat.le_trans (List.length_filter_le _ _) (by rw [List.length_take]; omega)
/-- the loop -/
def RelW (w1 : World) (l : List (Int × Int)) (id : Int) (ov iv : Value) (wr : World) : Prop :=
  ∃ k : Nat, k ≤ l.length ∧ iv = .int .i64 (k : Int) ∧ wr.ownsRow w1.heap.size 76 2 ov (fl l id k).length (hcells (fl l id k)) ∧ Keeps NoB w1 wr
set_option maxRecDepth 100000 in
set_option maxHeartbeats 1000000 in
theorem rrel_v (w : World) (r n : Nat) (l : List (Int × Int)) (W : Nat → Int) (vL vW : Value) (t : RT w r n l W vL vW) (hl : l.length ≤ 1000) (c id : Int) :
    Calls Try.prog 30 #[.pointer (some ⟨r, 0, none⟩), .int .i64 c, .int .u64 id] w fun e w' => e = .returned (.bool (rrB n l c id)) ∧ RPost w r n (rrL n l c id) (rrW n W c id) vL vW w' (RS r vL vW) := by
  have HIs := Lib.hid (is_v w r n l W vL vW t c)
  obtain ⟨R, hR⟩ : ∃ R, rrB n l c id = R := ⟨_, rfl⟩
  have hR2 := hR
  rw [hR]
  unfold rrB at hR2
  by_cases hc : 0 ≤ c ∧ c < (n : Int)
  · have eis : isB n c = true := decide_eq_true hc
    rw [eis] at HIs
    obtain ⟨q, rfl⟩ : ∃ q : Nat, (q : Int) = c := ⟨c.toNat, by omega⟩
    have hq : q < n := by omega
    obtain ⟨who, hwho⟩ : ∃ x, hldI l id = x := ⟨_, rfl⟩
    obtain ⟨aw, cw, rfl⟩ := own_form t.wts
    obtain ⟨gw, rfl, hgl, hm, d1, df⟩ := t.wAt hq
    have c1 := t.c1
    unfold maxLen at hm
    obtain ⟨x, hx⟩ : ∃ x, W q = x := ⟨_, rfl⟩
    rw [hx] at d1
    by_cases hxi : x = id
    · have hx2 : (x == id) = true := beq_iff_eq.2 hxi
      have HEW := Lib.hid (show rrW n W q id = updN W q 0 by unfold rrW; rw [if_pos ⟨hc.1, hc.2, by rw [Int.toNat_natCast, hx]; exact hxi⟩]; rfl)
      obtain ⟨t1, k1⟩ := t.setW q 0
      have HT1 := Lib.hid t1
      have HK1 := Lib.hid k1
      obtain ⟨w1, hw1⟩ : ∃ x, w.setCell ⟨gw, q, none⟩ (.int .u64 0) = x := ⟨_, rfl⟩
      have HW1 := Lib.hid hw1
      rw [hw1] at HT1 HK1
      have HH := Lib.hid (rholder_v w1 r n l _ vL _ HT1.out id)
      rw [hwho] at HH
      clear hx hxi t1 k1 hw1
      go_enter Try.func30, Try.ntmps30
      go_wp2_with (fail)
      refine HIs.out.mono ?_
      rintro e w' ⟨rfl, rfl⟩
      go_upto_region 5 with (fail)
      rw [HW1.out]
      by_cases hwc : who = (q : Int)
      · have e1 : R = true := by rw [← hR2, hwho]; exact decide_eq_true ⟨hc.1, hc.2, hwc⟩
        subst e1
        have HEL := Lib.hid (show rrL n l q id = l.filter (fun x => x.1 != id) by unfold rrL; rw [if_pos hR])
        have HLl := Lib.hid hl
        have c0 := HT1.out.c0
        clear hR hR2 t hwho hl
        subst hwc
        have hw2 : ((q : Int) != (q : Int)) = false := bne_self_eq_false _
        go_wp2_with (fail)
        refine HH.out.mono ?_
        rintro e w' ⟨rfl, rfl⟩
        go_wp2_with (fail)
        go_loopw [7, 8] (fun ov iv wr => RelW w1 l id ov iv wr) (fun _ iv _ => l.length - (intOf iv).toNat)
        case atStart => exact ⟨0, Nat.zero_le _, rfl, World.ownsRow_nil _ _ _ _, Keeps.refl _ _⟩
        case round =>
          obtain ⟨k, hk, rfl, ho, hkp⟩ := hrel
          obtain ⟨vo, co, rfl⟩ := own_form ho
          have HO := Lib.hid ho
          have HK := Lib.hid hkp
          have HT3 := Lib.hid (HT1.out.keptN hkp)
          have c3 := HT3.out.c0
          have f3 := HT3.out.blk.frozen 0
          clear c0 ho hkp
          obtain ⟨al, cl, rfl⟩ := own_form HT1.out.own
          by_cases hlt : k < l.length
          · obtain ⟨g, rfl, hg, hm, a1, a2⟩ := HT3.out.hasAt hlt
            unfold maxLen at hm
            have b1 : (k : Int) < (l.length : Int) := by omega
            have HL := Lib.hid hlt
            by_cases he : hI l k = id
            · have he2 : (hI l k != id) = false := by rw [he]; exact bne_self_eq_false _
              have HF := Lib.hid (fl_no hlt he)
              clear he
              go_wp2_with (fail)
              go_roundw
              case rel => exact ⟨k + 1, by have := HL.out; omega, by go_num, by rw [HF.out]; exact HO.out, HK.out⟩
              case measure => simp [intOf]; have := HL.out; omega
            · have he2 : (hI l k != id) = true := bne_iff_ne.2 he
              have HF := Lib.hid (fl_yes hlt he)
              have hfl := fl_len l id k
              have hb := HK.out.size
              have HBn := Lib.hid (Blk.new wr #[.int .u64 (hI l k), .int .i64 (hC l k)] 76)
              have HOw := Lib.hid (HO.out.alloc (.cells #[.int .u64 (hI l k), .int .i64 (hC l k)] 76))
              clear he
              go_upto_region 10 with ((with_reducible refine wpList_append_has (o := ⟨some 61, _, _, _, _, _⟩) ?k1 (.tmp 52) (.tmp 60) ?k2 w1.heap.size _ (fl l id k) ?k3 HOw.out wr.heap.size ?k5 (hI l k, hC l k) HBn.out ?k6 ?k7 ?_); (case k1 => rfl); (case k2 => rfl); (case k3 => exact ev_tmp (by simp)); (case k5 => exact ev_tmp (by simp)); (case k6 => have := HLl.out; omega); (case k7 => simp; omega); intro v2 w3 hown hgrow hnew; have hK := (HK.out.alloc (.cells #[.int .u64 (hI l k), .int .i64 (hC l k)] 76)).grown hgrow (fun k2 h => .inr (own_base HO.out k2 h)))
              have HO3 := Lib.hid hown
              have HK3 := Lib.hid hK
              clear hown hgrow hnew hK
              go_wp2_with (fail)
              go_roundw
              case rel => exact ⟨k + 1, by have := HL.out; omega, by go_num, by rw [HF.out]; exact HO3.out, HK3.out⟩
              case measure => simp [intOf]; have := HL.out; omega
          · have b1 : ¬ (k : Int) < (l.length : Int) := by omega
            have HF := Lib.hid (fl_all l id (k := k) (by omega))
            go_wp2_with (fail)
            go_ret
            refine ⟨rfl, ?_⟩
            rw [HEL.out, HEW.out]
            obtain ⟨t2, k2⟩ := HT1.out.put (l1 := l.filter (fun x => x.1 != id)) (HK.out.mono (fun _ _ h => h.elim)) (own_mono (by rw [← HF.out]; exact HO.out) (Nat.zero_le _))
            refine ⟨_, t2, HK1.out.trans k2, fun i h => ?_⟩
            right
            have := own_base HO.out i h
            have := HK1.out.size
            omega
      · have e1 : R = false := by rw [← hR2, hwho]; exact decide_eq_false (fun e => hwc e.2.2)
        subst e1
        have HEL := Lib.hid (show rrL n l q id = l by unfold rrL; rw [if_neg (by rw [hR]; decide)])
        have hw2 : (who != (q : Int)) = true := bne_iff_ne.2 hwc
        clear hR hR2 t hwho hwc
        go_wp2_with (fail)
        refine HH.out.mono ?_
        rintro e w' ⟨rfl, rfl⟩
        go_wp2_with (fail)
        go_ret
        refine ⟨rfl, ?_⟩
        rw [HEL.out, HEW.out]
        exact ⟨_, HT1.out, HK1.out, fun i h => .inl (.inr (.inl h))⟩
    · have hx2 : (x == id) = false := beq_eq_false_iff_ne.2 hxi
      have HEW := Lib.hid (show rrW n W q id = W by unfold rrW; rw [if_neg (fun e => hxi (by rw [← hx]; exact e.2.2))])
      have HT1 := Lib.hid t
      have HK1 := Lib.hid (Keeps.refl (RS r vL (.slice (some ⟨gw, 0, none⟩) n cw)) w)
      have HH := Lib.hid (rholder_v w r n l _ vL _ HT1.out id)
      rw [hwho] at HH
      clear hx hxi
      go_enter Try.func30, Try.ntmps30
      go_wp2_with (fail)
      refine HIs.out.mono ?_
      rintro e w' ⟨rfl, rfl⟩
      go_upto_region 5 with (fail)
      by_cases hwc : who = (q : Int)
      · have e1 : R = true := by rw [← hR2, hwho]; exact decide_eq_true ⟨hc.1, hc.2, hwc⟩
        subst e1
        have HEL := Lib.hid (show rrL n l q id = l.filter (fun x => x.1 != id) by unfold rrL; rw [if_pos hR])
        have HLl := Lib.hid hl
        have c0 := HT1.out.c0
        clear hR hR2 t hwho hl
        subst hwc
        have hw2 : ((q : Int) != (q : Int)) = false := bne_self_eq_false _
        go_wp2_with (fail)
        refine HH.out.mono ?_
        rintro e w' ⟨rfl, rfl⟩
        go_wp2_with (fail)
        go_loopw [7, 8] (fun ov iv wr => RelW w l id ov iv wr) (fun _ iv _ => l.length - (intOf iv).toNat)
        case atStart => exact ⟨0, Nat.zero_le _, rfl, World.ownsRow_nil _ _ _ _, Keeps.refl _ _⟩
        case round =>
          obtain ⟨k, hk, rfl, ho, hkp⟩ := hrel
          obtain ⟨vo, co, rfl⟩ := own_form ho
          have HO := Lib.hid ho
          have HK := Lib.hid hkp
          have HT3 := Lib.hid (HT1.out.keptN hkp)
          have c3 := HT3.out.c0
          have f3 := HT3.out.blk.frozen 0
          clear c0 ho hkp
          obtain ⟨al, cl, rfl⟩ := own_form HT1.out.own
          by_cases hlt : k < l.length
          · obtain ⟨g, rfl, hg, hm, a1, a2⟩ := HT3.out.hasAt hlt
            unfold maxLen at hm
            have b1 : (k : Int) < (l.length : Int) := by omega
            have HL := Lib.hid hlt
            by_cases he : hI l k = id
            · have he2 : (hI l k != id) = false := by rw [he]; exact bne_self_eq_false _
              have HF := Lib.hid (fl_no hlt he)
              clear he
              go_wp2_with (fail)
              go_roundw
              case rel => exact ⟨k + 1, by have := HL.out; omega, by go_num, by rw [HF.out]; exact HO.out, HK.out⟩
              case measure => simp [intOf]; have := HL.out; omega
            · have he2 : (hI l k != id) = true := bne_iff_ne.2 he
              have HF := Lib.hid (fl_yes hlt he)
              have hfl := fl_len l id k
              have hb := HK.out.size
              have HBn := Lib.hid (Blk.new wr #[.int .u64 (hI l k), .int .i64 (hC l k)] 76)
              have HOw := Lib.hid (HO.out.alloc (.cells #[.int .u64 (hI l k), .int .i64 (hC l k)] 76))
              clear he
              go_upto_region 10 with ((with_reducible refine wpList_append_has (o := ⟨some 61, _, _, _, _, _⟩) ?k1 (.tmp 52) (.tmp 60) ?k2 w.heap.size _ (fl l id k) ?k3 HOw.out wr.heap.size ?k5 (hI l k, hC l k) HBn.out ?k6 ?k7 ?_); (case k1 => rfl); (case k2 => rfl); (case k3 => exact ev_tmp (by simp)); (case k5 => exact ev_tmp (by simp)); (case k6 => have := HLl.out; omega); (case k7 => simp; omega); intro v2 w3 hown hgrow hnew; have hK := (HK.out.alloc (.cells #[.int .u64 (hI l k), .int .i64 (hC l k)] 76)).grown hgrow (fun k2 h => .inr (own_base HO.out k2 h)))
              have HO3 := Lib.hid hown
              have HK3 := Lib.hid hK
              clear hown hgrow hnew hK
              go_wp2_with (fail)
              go_roundw
              case rel => exact ⟨k + 1, by have := HL.out; omega, by go_num, by rw [HF.out]; exact HO3.out, HK3.out⟩
              case measure => simp [intOf]; have := HL.out; omega
          · have b1 : ¬ (k : Int) < (l.length : Int) := by omega
            have HF := Lib.hid (fl_all l id (k := k) (by omega))
            go_wp2_with (fail)
            go_ret
            refine ⟨rfl, ?_⟩
            rw [HEL.out, HEW.out]
            obtain ⟨t2, k2⟩ := HT1.out.put (l1 := l.filter (fun x => x.1 != id)) (HK.out.mono (fun _ _ h => h.elim)) (own_mono (by rw [← HF.out]; exact HO.out) (Nat.zero_le _))
            refine ⟨_, t2, HK1.out.trans k2, fun i h => ?_⟩
            right
            have := own_base HO.out i h
            have := HK1.out.size
            omega
      · have e1 : R = false := by rw [← hR2, hwho]; exact decide_eq_false (fun e => hwc e.2.2)
        subst e1
        have HEL := Lib.hid (show rrL n l q id = l by unfold rrL; rw [if_neg (by rw [hR]; decide)])
        have hw2 : (who != (q : Int)) = true := bne_iff_ne.2 hwc
        clear hR hR2 t hwho hwc
        go_wp2_with (fail)
        refine HH.out.mono ?_
        rintro e w' ⟨rfl, rfl⟩
        go_wp2_with (fail)
        go_ret
        refine ⟨rfl, ?_⟩
        rw [HEL.out, HEW.out]
        exact ⟨_, HT1.out, HK1.out, fun i h => .inl (.inr (.inl h))⟩
  · have eis : isB n c = false := decide_eq_false hc
    rw [eis] at HIs
    have e1 : R = false := by rw [← hR2]; exact decide_eq_false (fun e => hc ⟨e.1, e.2.1⟩)
    subst e1
    have eL : rrL n l c id = l := by unfold rrL; rw [if_neg (fun e => by rw [hR] at e; cases e)]
    have eW : rrW n W c id = W := by unfold rrW; rw [if_neg (fun e => hc ⟨e.1, e.2.1⟩)]
    have HP := Lib.hid (show RPost w r n (rrL n l c id) (rrW n W c id) vL vW w (RS r vL vW) from by
      rw [eL, eW]; exact ⟨vL, t, Keeps.refl _ _, fun i h => .inl (.inr (.inl h))⟩)
    clear eL eW hR2 hR t
    go_enter Try.func30, Try.ntmps30
    go_wp2_with (fail)
    refine HIs.out.mono ?_
    rintro e w' ⟨rfl, rfl⟩
    go_wp2_with (fail)
    go_ret
    exact ⟨rfl, HP.out⟩
end Go.Proofs.Ytajccnmeijgagaa
