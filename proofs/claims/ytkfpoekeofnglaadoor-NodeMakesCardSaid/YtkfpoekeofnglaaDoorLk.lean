/-
  The law NodeMakes.
-/
import Derived.Test.YtkfpoekeofnglaaDoorKn
import Derived.Test.YtkfpoekeofnglaaDoorMr
import Derived.Test.YtkfpoekeofnglaaDoorRd
import Derived.Test.YtkfpoekeofnglaaDoorEq
namespace Go.Proofs.YtkfpoekeofnglaaDoor
open Go.RowKit
set_option linter.unusedVariables false

/-- entries that came in -/
def EntsIn (w : World) (a : Option Addr) (l : List (Int × Int)) : Prop := 0 < l.length → ∃ g o, a = some ⟨g, o, none⟩ ∧ g < w.heap.size ∧ EntsAt w g o l
theorem ecells_one (l : List (Int × Int)) : ∀ u ∈ ecells l, u.oneCell' = true := by
  intro u hu
  unfold ecells at hu
  obtain ⟨p, _, h⟩ := List.mem_flatMap.1 hu
  simp only [List.mem_cons, List.not_mem_nil, or_false] at h
  rcases h with rfl | rfl <;> rfl
theorem EntsIn.reads {w : World} {a : Option Addr} {l : List (Int × Int)} (h : EntsIn w a l) : Reads w w.heap.size 2 a l.length (ecells l) := by
  refine ⟨ecells_len l, fun hn => ?_⟩
  obtain ⟨g, o, rfl, hg, hE⟩ := h hn
  refine ⟨_, rfl, hg, fun j u hu => ?_⟩
  have hj : j < (ecells l).length := (List.getElem?_eq_some_iff.1 hu).1
  rw [ecells_len] at hj
  obtain ⟨h1, h2⟩ := hE (j / 2) (by omega)
  obtain ⟨g1, g2⟩ := ecells_get l (j / 2) (by omega)
  have ha : (⟨g, o, none⟩ : Addr).add j = ⟨g, o + j, none⟩ := by unfold Addr.add; split <;> simp_all
  rw [ha]
  by_cases hp : j % 2 = 0
  · rw [show j / 2 * 2 = j by omega] at h1 g1
    rw [g1] at hu; cases hu
    exact h1
  · rw [show o + j / 2 * 2 + 1 = o + j by omega] at h2
    rw [show j / 2 * 2 + 1 = j by omega] at g2
    rw [g2] at hu; cases hu
    exact h2
theorem EntsIn.below {w w' : World} {a : Option Addr} {l : List (Int × Int)} (h : EntsIn w a l) (hb : Below w.heap.size w w') : EntsIn w' a l := fun hp => by
  obtain ⟨g, o, e, hg, hE⟩ := h hp
  exact ⟨g, o, e, Nat.lt_of_lt_of_le hg hb.size, hE.below hb hg⟩

set_option maxRecDepth 100000 in
set_option maxHeartbeats 1600000 in
/-- the document's Same: a row and itself, that lies anywhere -/
theorem esame_two (a : List (Int × Int)) (ga gb oa ob ca cb : Nat) (w : World) (hn : a.length ≤ 1000000) (hp : 0 < a.length) (hA : EntsAt w ga oa a) (hB : EntsAt w gb ob a) :
    Calls Tryd.prog 19 #[.slice (some ⟨ga, oa, none⟩) a.length ca, .slice (some ⟨gb, ob, none⟩) a.length cb] w fun e W' => e = .returned (.bool true) ∧ Below w.heap.size w W' := by
  have hga := hA.lt hp
  have hgb := hB.lt (by omega)
  have HA := Lib.hid hA
  have HB := Lib.hid hB
  clear hA hB
  go_enter Tryd.func19, Tryd.ntmps19
  go_wp2_with (fail)
  go_loopw [5] (fun iv wr => ∃ k : Nat, k ≤ a.length ∧ iv = .int .i64 k ∧ Below w.heap.size w wr) (fun iv _ => a.length - (intOf iv).toNat)
  case atStart => exact ⟨0, Nat.zero_le _, rfl, Below.refl _ _⟩
  case round =>
    obtain ⟨k, hk, rfl, hBw⟩ := hrel
    have HW := Lib.hid hBw
    by_cases hlt : k < a.length
    · obtain ⟨c1, c2⟩ := HA.out.below hBw hga k hlt
      obtain ⟨d1, d2⟩ := HB.out.below hBw hgb k hlt
      clear hBw
      obtain ⟨ka, hka⟩ : ∃ x, eK a k = x := ⟨_, rfl⟩
      obtain ⟨pa, hpa⟩ : ∃ x, eP a k = x := ⟨_, rfl⟩
      rw [hka] at c1 d1
      rw [hpa] at c2 d2
      clear hka hpa
      have b5 : (k : Int) < (a.length : Int) := by omega
      have b9 : ((k : Int)).toNat = k := by omega
      have q1 : (ka == ka) = true := beq_self_eq_true _
      have q2 : (pa == pa) = true := beq_self_eq_true _
      go_wp2_with (fail)
      go_quiet (fail)
      have HW2 := Lib.hid (below_drewN HW.out nq)
      go_wp2_with (fail)
      go_roundw
      case rel => exact ⟨k + 1, by omega, by go_num, HW2.out⟩
      case measure => simp [intOf]; omega
    · clear hBw
      go_wp2_with (fail)
      go_ret
      exact ⟨rfl, HW.out⟩
/-- an own row, and the same that came in -/
theorem esame_in (a : List (Int × Int)) (v : Value) (b : Nat) (ad : Option Addr) (c : Nat) (w : World) (hn : a.length ≤ 1000000) (hA : w.ownsRow b 57 2 v a.length (ecells a)) (hB : EntsIn w ad a) :
    Calls Tryd.prog 19 #[v, .slice ad a.length c] w fun e W' => e = .returned (.bool true) ∧ Below w.heap.size w W' := by
  by_cases hp : 0 < a.length
  · obtain ⟨g, cap, rfl, _, _, _, _, hE⟩ := own_ents hA rfl hp
    obtain ⟨g2, o2, rfl, _, hE2⟩ := hB hp
    exact esame_two a g g2 0 o2 cap c w hn hp hE hE2
  · have h0 : a = [] := List.eq_nil_of_length_eq_zero (by omega)
    subst h0
    obtain ⟨a1, l1, c1, rfl⟩ := own_slice hA
    have e1 : l1 = 0 := own_len hA
    subst e1
    clear hA hB
    go_enter Tryd.func19, Tryd.ntmps19
    go_wp2_with (fail)
    refine wp_loop_rounds 1 ?_
    rw [rounds_succ]
    go_wp2_with (fail)
    go_ret
    exact ⟨rfl, Below.refl _ _⟩

theorem nmake_own (base lv lo nx first : Int) (l : List (Int × Int)) (a : Option Addr) (c b : Nat) (w : World) (hn : l.length ≤ 1000000) (ho : w.ownsRow b 57 2 (.slice a l.length c) l.length (ecells l)) :
    Calls Tryd.prog 17 #[.int .u64 base, .int .i64 lv, .int .u64 lo, .int .u64 nx, .int .u64 first, .slice a l.length c] w fun e w' => MkP (mkV lv lo nx (fiOf base lv first) l).1 (mkV lv lo nx (fiOf base lv first) l).2 w e w' := by
  by_cases hp : 0 < l.length
  · obtain ⟨g, cap, e, _, _, hc, _, hE⟩ := own_ents ho rfl hp
    cases e
    exact nmake_v base lv lo nx first _ l _ g c w rfl hn hc (fun _ => rfl) hE
  · have h0 : l = [] := List.eq_nil_of_length_eq_zero (by omega)
    subst h0
    exact nmake_v base lv lo nx first _ [] a 0 c w rfl hn (Nat.zero_le _) (fun h => absurd h hp) (fun i hi => absurd hi (by simp))
theorem rmake_in (base lv lo nx first : Int) (l : List (Int × Int)) (a : Option Addr) (c : Nat) (w : World) (hn : l.length ≤ 1000000) (hl : EntsIn w a l) :
    Calls Tryd.prog 18 #[.int .u64 base, .int .i64 lv, .int .u64 lo, .int .u64 nx, .int .u64 first, .slice a l.length c] w fun e w' => MkP (mkV lv lo nx (fiOf base lv first) l).1 (mkV lv lo nx (fiOf base lv first) l).2 w e w' := by
  by_cases hp : 0 < l.length
  · obtain ⟨g, o, rfl, _, hE⟩ := hl hp
    exact rmake_v base lv lo nx first _ l _ g o c w rfl hn (fun _ => rfl) hE
  · have h0 : l = [] := List.eq_nil_of_length_eq_zero (by omega)
    subst h0
    exact rmake_v base lv lo nx first _ [] a 0 0 c w rfl hn (fun h => absurd h hp) (fun i hi => absurd hi (by simp))
theorem mkV_code (lv lo nx fi : Int) (l : List (Int × Int)) : (mkV lv lo nx fi l).2 = 0 ∨ (mkV lv lo nx fi l).2 = 2 := by
  unfold mkV
  split
  · exact .inr rfl
  · split
    · exact .inl rfl
    · exact .inr rfl

theorem makes_out (base lv lo nx first : Int) (a : Option Addr) (k c : Nat) (w : World) (hk : 20 < k) (ht : Tens w) :
    Calls Tryd.prog 5 #[.int .u64 base, .int .i64 lv, .int .u64 lo, .int .u64 nx, .int .u64 first, .slice a k c] w fun e w' => e = .returned (.bool true) ∧ Below w.heap.size w w' := by
  have hk' : (20 : Int) < (k : Int) := by omega
  have HK := Lib.hid (known_v w ht)
  clear ht
  go_enter Tryd.func5, Tryd.ntmps5
  go_wp2_with (go_at_call 11; refine HK.out.mono ?_; rintro e w1 ⟨rfl, hB⟩; have HB1 := Lib.hid hB; clear hB)
  go_ret
  exact ⟨rfl, HB1.out⟩

set_option maxRecDepth 100000 in
set_option maxHeartbeats 6400000 in
theorem makes_in (base lv lo nx first : Int) (l : List (Int × Int)) (a : Option Addr) (c : Nat) (w : World) (hk : l.length ≤ 20) (hl : EntsIn w a l) (ht : Tens w) :
    Calls Tryd.prog 5 #[.int .u64 base, .int .i64 lv, .int .u64 lo, .int .u64 nx, .int .u64 first, .slice a l.length c] w fun e w' => e = .returned (.bool true) ∧ Below w.heap.size w w' := by
  obtain ⟨i0, hi, hz0, hz1, hz2⟩ := info_parts Tryd.info60
  have hk' : ¬ (20 : Int) < (l.length : Int) := by omega
  have HRd := Lib.hid hl.reads
  have HIn := Lib.hid hl
  have HT := Lib.hid ht
  obtain ⟨m, hm⟩ : ∃ x, (mkV lv lo nx (fiOf base lv first) l).1 = x := ⟨_, rfl⟩
  obtain ⟨f, hf⟩ : ∃ x, (mkV lv lo nx (fiOf base lv first) l).2 = x := ⟨_, rfl⟩
  have HV := Lib.hid (show mkV lv lo nx (fiOf base lv first) l = (m, f) by rw [← hm, ← hf])
  have HF := Lib.hid (show f = 0 ∨ f = 2 by rw [← hf]; exact mkV_code _ _ _ _ _)
  have HMn := Lib.hid (show ∀ a c b w, w.ownsRow b 57 2 (.slice a l.length c) l.length (ecells l) → Calls Tryd.prog 17 #[.int .u64 base, .int .i64 lv, .int .u64 lo, .int .u64 nx, .int .u64 first, .slice a l.length c] w fun e w' => MkP m f w e w' from fun a c b w h => by rw [← hm, ← hf]; exact nmake_own base lv lo nx first l a c b w (by omega) h)
  have HMr := Lib.hid (show ∀ w, EntsIn w a l → Calls Tryd.prog 18 #[.int .u64 base, .int .i64 lv, .int .u64 lo, .int .u64 nx, .int .u64 first, .slice a l.length c] w fun e w' => MkP m f w e w' from fun w h => by rw [← hm, ← hf]; exact rmake_in base lv lo nx first l a c w (by omega) h)
  have HEq := Lib.hid (fun w => eq_nd m w)
  have HI := Lib.hid (info27 m)
  clear hl ht hm hf
  go_enter Tryd.func5, Tryd.ntmps5
  go_upto_region 3 with (fail)
  go_upto_region 4 with (at_builtin; refine wpList_append_any _ rfl (.const (.slice none 0 0)) (.tmp 22) _ rfl w.heap.size 57 i0 _ 2 16 Tryd.underlying38 hi hz0 hz1 hz2 rfl (by omega) (.slice none 0 0) 0 [] rfl (World.ownsRow_nil _ _ _ _) w.heap.size _ l.length c _ rfl HRd.out (ecells_one l) (by unfold maxLen; omega) (by omega) (Nat.le_refl _) ?_; intro v1 w1 hown1 hg1 hat1; have hB1 := (Below.refl w.heap.size w).grown hg1 (Nat.le_refl _) (fun r e => by simp [Value.ownBlock] at e); obtain ⟨a1, n1, c1, rfl⟩ := own_slice hown1; have hn1 := own_len hown1; simp [lenOf] at hn1; subst hn1; have HO := Lib.hid hown1; have HB := Lib.hid hB1; clear hown1 hg1 hat1 hB1)
  have HO1 := Lib.hid (show w1.ownsRow w.heap.size 57 2 (.slice a1 l.length c1) l.length (ecells l) by simpa using HO.out)
  have HM1 := Lib.hid (HMn.out a1 c1 _ _ HO1.out)
  clear HRd HO HMn hi hz0 hz1 hz2
  go_wp2_with (fail)
  refine HM1.out.mono ?_
  rintro e w2 ⟨rfl, hB2⟩
  have HB2 := Lib.hid (HB.out.trans (hB2.mono HB.out.size))
  have HO2 := Lib.hid (own_below HO1.out hB2)
  have HNa := Lib.hid (Blk.new w2 (ndCells nd0) 27)
  clear hB2 HM1 HO1 HB
  go_upto_region 5 with (first | (with_reducible refine wpList_alloc_nd (o := ⟨some 14, _, _, _, _, _⟩) rfl rfl ?_) | ((with_reducible refine wpList_store_ndc (o := ⟨none, .store 27 (.tmp 14) (.tmp 32), _, _, _, _⟩) ?hga (.tmp 14) (.tmp 32) ?hoa w2.heap.size ?csa m nd0 ?hxa ?hya HNa.out ?hma ?_); (case hga => rfl); (case hoa => rfl); (case hxa => rfl); (case hya => rfl); (case hma => rfl)))
  go_simp
  have hk3 := newN_blk w2 m
  have hB3 := HB2.out.trans ((newN_below w2 m).mono HB2.out.size)
  have hO3 := own_below HO2.out (newN_below w2 m)
  unfold newN at hk3 hB3 hO3
  obtain ⟨b14, hb14⟩ : ∃ x, w2.heap.size = x := ⟨_, rfl⟩
  rw [hb14] at hk3 hB3 hO3 ⊢
  clear hb14 HNa HB2 HO2
  generalize (w2.alloc (.cells (ndCells nd0) 27)).setRow b14 (ndCells m) = w3 at *
  have HK3 := Lib.hid hk3
  have HB3 := Lib.hid hB3
  have HO3 := Lib.hid hO3
  have HM2 := Lib.hid (HMr.out w3 (HIn.out.below hB3))
  clear hk3 hB3 hO3 HMr
  go_wp2_with (fail)
  refine HM2.out.mono ?_
  rintro e w4 ⟨rfl, hB4⟩
  have HB4 := Lib.hid (HB3.out.trans (hB4.mono HB3.out.size))
  have HO4 := Lib.hid (own_below HO3.out hB4)
  have HK4 := Lib.hid (HK3.out.below hB4 HK3.out.lt)
  have HNb := Lib.hid (Blk.new w4 (ndCells nd0) 27)
  clear hB4 HM2 HO3 HB3 HK3
  go_upto_region 6 with (first | (with_reducible refine wpList_alloc_nd (o := ⟨some 16, _, _, _, _, _⟩) rfl rfl ?_) | ((with_reducible refine wpList_store_ndc (o := ⟨none, .store 27 (.tmp 16) (.tmp 42), _, _, _, _⟩) ?hgb (.tmp 16) (.tmp 42) ?hob w4.heap.size ?csb m nd0 ?hxb ?hyb HNb.out ?hmb ?_); (case hgb => rfl); (case hob => rfl); (case hxb => rfl); (case hyb => rfl); (case hmb => rfl)))
  go_simp
  have h165 := newN_blk w4 m
  have hB5 := HB4.out.trans ((newN_below w4 m).mono HB4.out.size)
  have hO5 := own_below HO4.out (newN_below w4 m)
  have hk5 := HK4.out.below (newN_below w4 m) HK4.out.lt
  unfold newN at h165 hB5 hO5 hk5
  obtain ⟨b16, hb16⟩ : ∃ x, w4.heap.size = x := ⟨_, rfl⟩
  rw [hb16] at h165 hB5 hO5 hk5 ⊢
  clear hb16 HNb HB4 HO4 HK4
  generalize (w4.alloc (.cells (ndCells nd0) 27)).setRow b16 (ndCells m) = w5 at *
  have HL14 := Lib.hid (ndLoad hk5)
  have HL16 := Lib.hid (ndLoad h165)
  have HK5 := Lib.hid hk5
  have HB5 := Lib.hid hB5
  have HO5 := Lib.hid hO5
  have HS5 := Lib.hid (esame_in l _ _ a c w5 (by omega) hO5 (HIn.out.below hB5))
  have q1 : (f != f) = false := by simp
  clear hk5 h165 hB5 hO5
  have hEq := HEq.out
  go_wp2_with (first | (with_reducible refine wpList_load_part (o := ⟨some 44, _, _, _, _, _⟩) rfl 27 _ rfl b14 0 rfl (ndCells m) _ HL14.out Tryd.underlying27 rfl HI.out ?_) | (with_reducible refine wpList_load_part (o := ⟨some 45, _, _, _, _, _⟩) rfl 27 _ rfl b16 0 rfl (ndCells m) _ HL16.out Tryd.underlying27 rfl HI.out ?_))
  refine HS5.out.mono ?_
  rintro e w6 ⟨rfl, hB6⟩
  have HB6 := Lib.hid (HB5.out.trans (hB6.mono HB5.out.size))
  have HK6 := Lib.hid (HK5.out.below hB6 HK5.out.lt)
  clear hB6 HS5 HO5 HB5 HK5 hEq HL14 HL16
  rcases HF.out with h0 | h2
  · have HMade := Lib.hid (mkV_made (show mkV lv lo nx (fiOf base lv first) l = (m, 0) by rw [HV.out, h0]))
    subst h0
    have HMy := Lib.hid (show ∀ w, Calls Tryd.prog 20 #[.agg (ndCells m), .int .u64 0, .bool false] w fun e W' => e = .returned (.bool true) ∧ Below w.heap.size w W' from fun w => by have := nmay_calls m 0 false w; rwa [HMade.out.2.2.2.1] at this)
    have HVl := Lib.hid (show ∀ w, Calls Tryd.prog 21 #[.agg (ndCells m)] w fun e W' => ∃ v, e = .returned v ∧ W'.ownsRow w.heap.size 57 2 v l.length (ecells l) ∧ Below w.heap.size w W' from fun w => by have := valid_calls m w; rwa [HMade.out.1] at this)
    have HIv := Lib.hid (show ∀ w, Calls Tryd.prog 22 #[.agg (ndCells m)] w fun e W' => e = .returned (.int .i64 (-1)) ∧ Below w.heap.size w W' from fun w => by have := invalid_calls m w; rwa [HMade.out.2.1] at this)
    have HLn := Lib.hid (show ∀ w, Calls Tryd.prog 23 #[.agg (ndCells m)] w fun e W' => e = .returned (.int .i64 l.length) ∧ Below w.heap.size w W' from fun w => by have := len_calls m w; rwa [HMade.out.2.2.1] at this)
    have HL6 := Lib.hid (ndLoad HK6.out)
    go_upto_region 8 with (fail)
    go_wp2_with ((with_reducible refine wpList_load_gd (o := ⟨some 61, .load 27 (.tmp 14), _, _, _, _⟩) 27 (.tmp 14) ?hoc b14 0 ?hxc (ndCells m) _ HL6.out Tryd.underlying27 rfl HI.out ?hwc ?_); (case hoc => rfl); (case hxc => rfl); (case hwc => rfl))
    refine (HMy.out _).mono ?_
    rintro e w7 ⟨rfl, hB⟩
    have HB7 := Lib.hid (HB6.out.trans (hB.mono HB6.out.size))
    have HK7 := Lib.hid (HK6.out.below hB HK6.out.lt)
    have HL7 := Lib.hid (ndLoad HK7.out)
    clear hB
    go_wp2_with ((with_reducible refine wpList_load_gd (o := ⟨some 64, .load 27 (.tmp 14), _, _, _, _⟩) 27 (.tmp 14) ?hod b14 0 ?hxd (ndCells m) _ HL7.out Tryd.underlying27 rfl HI.out ?hwd ?_); (case hod => rfl); (case hxd => rfl); (case hwd => rfl))
    refine (HVl.out _).mono ?_
    rintro e w8 ⟨v8, rfl, hv8, hB⟩
    have HB8 := Lib.hid (HB7.out.trans (hB.mono HB7.out.size))
    have HK8 := Lib.hid (HK7.out.below hB HK7.out.lt)
    have HS8 := Lib.hid (esame_in l v8 _ a c w8 (by omega) hv8 (HIn.out.below HB8.out))
    clear hB hv8
    go_wp2_with (fail)
    refine HS8.out.mono ?_
    rintro e w9 ⟨rfl, hB⟩
    have HB9 := Lib.hid (HB8.out.trans (hB.mono HB8.out.size))
    have HK9 := Lib.hid (HK8.out.below hB HK8.out.lt)
    have HL9 := Lib.hid (ndLoad HK9.out)
    clear hB
    go_wp2_with ((with_reducible refine wpList_load_gd (o := ⟨some 70, .load 27 (.tmp 14), _, _, _, _⟩) 27 (.tmp 14) ?hoe b14 0 ?hxe (ndCells m) _ HL9.out Tryd.underlying27 rfl HI.out ?hwe ?_); (case hoe => rfl); (case hxe => rfl); (case hwe => rfl))
    refine (HIv.out _).mono ?_
    rintro e w10 ⟨rfl, hB⟩
    have HB10 := Lib.hid (HB9.out.trans (hB.mono HB9.out.size))
    have HK10 := Lib.hid (HK9.out.below hB HK9.out.lt)
    have HL10 := Lib.hid (ndLoad HK10.out)
    clear hB
    go_wp2_with ((with_reducible refine wpList_load_gd (o := ⟨some 75, .load 27 (.tmp 14), _, _, _, _⟩) 27 (.tmp 14) ?hof b14 0 ?hxf (ndCells m) _ HL10.out Tryd.underlying27 rfl HI.out ?hwf ?_); (case hof => rfl); (case hxf => rfl); (case hwf => rfl))
    refine (HLn.out _).mono ?_
    rintro e w11 ⟨rfl, hB⟩
    have HB11 := Lib.hid (HB10.out.trans (hB.mono HB10.out.size))
    have q2 : ((l.length : Int) == (l.length : Int)) = true := beq_self_eq_true _
    clear hB
    go_wp2_with (fail)
    refine (known_v _ (HT.out.below HB11.out)).mono ?_
    rintro e w12 ⟨rfl, hB⟩
    have HB12 := Lib.hid (HB11.out.trans (hB.mono HB11.out.size))
    clear hB
    go_wp2_with (fail)
    go_ret
    exact ⟨rfl, HB12.out⟩
  · subst h2
    go_upto_region 8 with (fail)
    go_wp2_with (fail)
    refine (known_v _ (HT.out.below HB6.out)).mono ?_
    rintro e w7 ⟨rfl, hB⟩
    have HB7 := Lib.hid (HB6.out.trans (hB.mono HB6.out.size))
    clear hB
    go_wp2_with (fail)
    go_ret
    exact ⟨rfl, HB7.out⟩
end Go.Proofs.YtkfpoekeofnglaaDoor
