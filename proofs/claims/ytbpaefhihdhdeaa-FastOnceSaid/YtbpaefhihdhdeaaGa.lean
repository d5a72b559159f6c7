/-
  fast.Link, Swap, Cut: contracts.
-/
import Derived.Test.YtbpaefhihdhdeaaFg
import Derived.Test.YtbpaefhihdhdeaaFh
namespace Go.Proofs.Ytbpaefhihdhdeaa
open Go.RowKit


/-! ### Link -/
def linkP (base : Int) (n : Nd) (to : Int) : List (Int × Int) := if mayE base n = 0 then [(base + 24, cOne n), (base + 16, to), (base + 24, cTwo n)] else []
set_option maxRecDepth 100000 in
set_option maxHeartbeats 1600000 in
theorem link_v (base : Int) (n : Nd) (to : Int) (w : World) :
    Calls Try.prog 32 #[.int .u64 base, .agg (ndCells n), .int .u64 to] w fun e w' => MadeP (linkP base n to) (mayE base n) w e w' := by
  have HI := Lib.hid (info27 n)
  have hk0 : Blk (w.alloc (.cells (ndCells n) 27)) w.heap.size (ndCells n) 27 := Blk.new w _ _
  have HK0 := Lib.hid hk0
  have HL0 := Lib.hid (ndLoad hk0)
  have HB0 := Lib.hid ((Below.refl w.heap.size w).alloc (Nat.le_refl _) (.cells (ndCells n) 27))
  have HM := Lib.hid (fun w => may_v base n w)
  clear hk0
  by_cases hm : mayE base n = 0
  · obtain ⟨⟨s1, s2, s3⟩, _, _⟩ := mayE_stands hm
    have HP := Lib.hid (show linkP base n to = [(base + 24, cOne n)] ++ [(base + 16, to)] ++ [(base + 24, cTwo n)] by unfold linkP; rw [if_pos hm]; rfl)
    have HE := Lib.hid hm
    rw [hm] at HM
    clear hm s3
    go_enter Try.func32, Try.ntmps32
    go_wp2_with (with_reducible refine wpList_load_part (o := ⟨some 11, _, _, _, _, _⟩) rfl 27 _ rfl w.heap.size 0 rfl (ndCells n) _ HL0.out Try.underlying27 rfl HI.out ?_)
    refine (HM.out _).mono ?_
    rintro e w1 ⟨rfl, hB⟩
    have HK1 := Lib.hid (HK0.out.below hB HK0.out.lt)
    have HL1 := Lib.hid (ndLoad HK1.out)
    have HB1 := Lib.hid (HB0.out.trans (hB.mono HB0.out.size))
    clear hB
    go_wp2_with (with_reducible refine wpList_load_part (o := ⟨some 17, _, _, _, _, _⟩) rfl 27 _ rfl w.heap.size 0 rfl (ndCells n) _ HL1.out Try.underlying27 rfl HI.out ?_)
    refine (cbegin base n (by omega) (by omega) (cOne n) rfl _).mono ?_
    rintro e w2 ⟨b, rfl, hc, hB⟩
    have HC := Lib.hid hc
    have HW := Lib.hid (cword hc (by simp) (base + 16) to)
    have HB2 := Lib.hid (HB1.out.trans (hB.mono HB1.out.size))
    have HBc := Lib.hid hB
    clear hc hB
    go_wp2_with (fail)
    refine HW.out.mono ?_
    rintro e w3 ⟨rfl, hc3, hB3⟩
    have HEn := Lib.hid (cend hc3 (by simp) (by omega) (by omega) (cTwo n) rfl)
    have HB3 := Lib.hid (HBc.out.trans hB3)
    clear hc3 hB3
    go_wp2_with (fail)
    refine HEn.out.mono ?_
    rintro e w4 ⟨a, m, c, rfl, hml, ho, hB4⟩
    have HD := Lib.hid (show MadeP (linkP base n to) 0 w (.returned (.tuple #[.slice a m c, .int .i64 0])) w4 from MadeP.done ⟨a, m, c, rfl, hml, ho, hB4⟩ (HB1.out.trans (HB3.out.mono HB1.out.size)) HB1.out.size HP.out.symm)
    clear hml ho hB4
    go_wp2_with (fail)
    go_ret2
    rw [HE.out]
    exact HD.out
  · have HP := Lib.hid (show linkP base n to = [] by unfold linkP; rw [if_neg hm])
    obtain ⟨M, hM⟩ : ∃ M, mayE base n = M := ⟨_, rfl⟩
    rw [hM] at HM
    have HE := Lib.hid hM
    have q1 : (M != 0) = true := by rw [bne_iff_ne, ← hM]; exact hm
    clear hm hM
    go_enter Try.func32, Try.ntmps32
    go_wp2_with (with_reducible refine wpList_load_part (o := ⟨some 11, _, _, _, _, _⟩) rfl 27 _ rfl w.heap.size 0 rfl (ndCells n) _ HL0.out Try.underlying27 rfl HI.out ?_)
    refine (HM.out _).mono ?_
    rintro e w1 ⟨rfl, hB⟩
    have HK1 := Lib.hid (HK0.out.below hB HK0.out.lt)
    have HL1 := Lib.hid (ndLoad HK1.out)
    have HB1 := Lib.hid (HB0.out.trans (hB.mono HB0.out.size))
    clear hB
    go_wp2_with (fail)
    go_ret2
    rw [HE.out, HP.out]
    exact MadeP.err HB1.out

/-! ### Swap -/
def swapE (base : Int) (n : Nd) (key p : Int) : Int := if mayE base n = 2 ∨ freshB n p = false then 2 else if mayE base n ≠ 0 then mayE base n else if n.find key < 0 then 5 else 0
def swapP (base : Int) (n : Nd) (key p : Int) : List (Int × Int) := if swapE base n key p = 0 then [(base + 24, cOne n), (base + 64 + 16 * n.find key + 8, p), (base + 24, cTwo n)] else []
set_option maxRecDepth 100000 in
set_option maxHeartbeats 3200000 in
theorem swap_v (base : Int) (n : Nd) (key p : Int) (w : World) :
    Calls Try.prog 30 #[.int .u64 base, .agg (ndCells n), .int .u64 key, .int .u64 p] w fun e w' => MadeP (swapP base n key p) (swapE base n key p) w e w' := by
  have HI := Lib.hid (info27 n)
  have hk0 : Blk (w.alloc (.cells (ndCells n) 27)) w.heap.size (ndCells n) 27 := Blk.new w _ _
  have HK0 := Lib.hid hk0
  have HL0 := Lib.hid (ndLoad hk0)
  have HB0 := Lib.hid ((Below.refl w.heap.size w).alloc (Nat.le_refl _) (.cells (ndCells n) 27))
  have HM := Lib.hid (fun w => may_v base n w)
  clear hk0
  have HFd := Lib.hid (fun w => nfind_calls n key w)
  have HFr := Lib.hid (fun w => fresh_v n p w)
  obtain ⟨fi, fb, hfv, hfb⟩ := findV_parts n key
  rw [hfv] at HFd
  by_cases hm : mayE base n = 2
  · have HE := Lib.hid (show swapE base n key p = 2 ∧ swapP base n key p = [] by
      have : swapE base n key p = 2 := by unfold swapE; rw [if_pos (.inl hm)]
      exact ⟨this, by unfold swapP; rw [this]; rfl⟩)
    rw [hm] at HM
    clear hm hfv hfb
    go_enter Try.func30, Try.ntmps30
    go_wp2_with (with_reducible refine wpList_load_part (o := ⟨some 15, _, _, _, _, _⟩) rfl 27 _ rfl w.heap.size 0 rfl (ndCells n) _ HL0.out Try.underlying27 rfl HI.out ?_)
    refine (HM.out _).mono ?_
    rintro e w1 ⟨rfl, hB⟩
    have HK1 := Lib.hid (HK0.out.below hB HK0.out.lt)
    have HL1 := Lib.hid (ndLoad HK1.out)
    have HB1 := Lib.hid (HB0.out.trans (hB.mono HB0.out.size))
    clear hB
    go_wp2_with (with_reducible refine wpList_load_part (o := ⟨some 18, _, _, _, _, _⟩) rfl 27 _ rfl w.heap.size 0 rfl (ndCells n) _ HL1.out Try.underlying27 rfl HI.out ?_)
    refine (HFd.out _).mono ?_
    rintro e w2 ⟨rfl, hB⟩
    have HK2 := Lib.hid (HK1.out.below hB HK1.out.lt)
    have HL2 := Lib.hid (ndLoad HK2.out)
    have HB2 := Lib.hid (HB1.out.trans (hB.mono HB1.out.size))
    clear hB
    go_wp2_with (fail)
    go_ret2
    rw [HE.out.1, HE.out.2]
    exact MadeP.err HB2.out
  · have q0 : (mayE base n == 2) = false := beq_eq_false_iff_ne.2 hm
    cases hf : freshB n p with
    | false =>
      have HE := Lib.hid (show swapE base n key p = 2 ∧ swapP base n key p = [] by
        have : swapE base n key p = 2 := by unfold swapE; rw [if_pos (.inr hf)]
        exact ⟨this, by unfold swapP; rw [this]; rfl⟩)
      rw [hf] at HFr
      obtain ⟨M, hM⟩ : ∃ M, mayE base n = M := ⟨_, rfl⟩
      rw [hM] at HM q0
      clear hm hfv hfb hf hM
      go_enter Try.func30, Try.ntmps30
      go_wp2_with (with_reducible refine wpList_load_part (o := ⟨some 15, _, _, _, _, _⟩) rfl 27 _ rfl w.heap.size 0 rfl (ndCells n) _ HL0.out Try.underlying27 rfl HI.out ?_)
      refine (HM.out _).mono ?_
      rintro e w1 ⟨rfl, hB⟩
      have HK1 := Lib.hid (HK0.out.below hB HK0.out.lt)
      have HL1 := Lib.hid (ndLoad HK1.out)
      have HB1 := Lib.hid (HB0.out.trans (hB.mono HB0.out.size))
      clear hB
      go_wp2_with (with_reducible refine wpList_load_part (o := ⟨some 18, _, _, _, _, _⟩) rfl 27 _ rfl w.heap.size 0 rfl (ndCells n) _ HL1.out Try.underlying27 rfl HI.out ?_)
      refine (HFd.out _).mono ?_
      rintro e w2 ⟨rfl, hB⟩
      have HK2 := Lib.hid (HK1.out.below hB HK1.out.lt)
      have HL2 := Lib.hid (ndLoad HK2.out)
      have HB2 := Lib.hid (HB1.out.trans (hB.mono HB1.out.size))
      clear hB
      go_wp2_with (refine wpList_load_gd (o := ⟨some 27, .load 27 (.tmp 5), _, _, _, _⟩) 27 (.tmp 5) ?hoa w.heap.size 0 ?hxa (ndCells n) _ HL2.out Try.underlying27 rfl HI.out ?hwa ?_; (case hoa => rfl); (case hxa => rfl); (case hwa => rfl))
      refine (HFr.out _).mono ?_
      rintro e w3 ⟨rfl, hB⟩
      have HK3 := Lib.hid (HK2.out.below hB HK2.out.lt)
      have HL3 := Lib.hid (ndLoad HK3.out)
      have HB3 := Lib.hid (HB2.out.trans (hB.mono HB2.out.size))
      clear hB
      go_wp2_with (fail)
      go_ret2
      rw [HE.out.1, HE.out.2]
      exact MadeP.err HB3.out
    | true =>
      rw [hf] at HFr
      by_cases hm0 : mayE base n = 0
      · obtain ⟨⟨s1, s2, s3⟩, _, _⟩ := mayE_stands hm0
        by_cases hfn : n.find key < 0
        · have HE := Lib.hid (show swapE base n key p = 5 ∧ swapP base n key p = [] by
            have : swapE base n key p = 5 := by unfold swapE; rw [if_neg (by rw [hf]; simp [hm]), if_neg (by simp [hm0]), if_pos hfn]
            exact ⟨this, by unfold swapP; rw [this]; rfl⟩)
          rw [show fb = false by rw [hfb]; exact decide_eq_false (by omega)] at HFd
          rw [hm0] at HM
          clear hm hm0 hfv hfb hf hfn q0 s3
          go_enter Try.func30, Try.ntmps30
          go_wp2_with (with_reducible refine wpList_load_part (o := ⟨some 15, _, _, _, _, _⟩) rfl 27 _ rfl w.heap.size 0 rfl (ndCells n) _ HL0.out Try.underlying27 rfl HI.out ?_)
          refine (HM.out _).mono ?_
          rintro e w1 ⟨rfl, hB⟩
          have HK1 := Lib.hid (HK0.out.below hB HK0.out.lt)
          have HL1 := Lib.hid (ndLoad HK1.out)
          have HB1 := Lib.hid (HB0.out.trans (hB.mono HB0.out.size))
          clear hB
          go_wp2_with (with_reducible refine wpList_load_part (o := ⟨some 18, _, _, _, _, _⟩) rfl 27 _ rfl w.heap.size 0 rfl (ndCells n) _ HL1.out Try.underlying27 rfl HI.out ?_)
          refine (HFd.out _).mono ?_
          rintro e w2 ⟨rfl, hB⟩
          have HK2 := Lib.hid (HK1.out.below hB HK1.out.lt)
          have HL2 := Lib.hid (ndLoad HK2.out)
          have HB2 := Lib.hid (HB1.out.trans (hB.mono HB1.out.size))
          clear hB
          go_wp2_with (refine wpList_load_gd (o := ⟨some 27, .load 27 (.tmp 5), _, _, _, _⟩) 27 (.tmp 5) ?hob w.heap.size 0 ?hxb (ndCells n) _ HL2.out Try.underlying27 rfl HI.out ?hwb ?_; (case hob => rfl); (case hxb => rfl); (case hwb => rfl))
          refine (HFr.out _).mono ?_
          rintro e w3 ⟨rfl, hB⟩
          have HK3 := Lib.hid (HK2.out.below hB HK2.out.lt)
          have HL3 := Lib.hid (ndLoad HK3.out)
          have HB3 := Lib.hid (HB2.out.trans (hB.mono HB2.out.size))
          clear hB
          go_wp2_with (fail)
          go_ret2
          rw [HE.out.1, HE.out.2]
          exact MadeP.err HB3.out
        · obtain ⟨at_, hat, hlt⟩ := find_lt n key (by omega)
          have h8 := n.len_le
          have HE := Lib.hid (show swapE base n key p = 0 ∧ swapP base n key p = [(base + 24, cOne n)] ++ [(base + 64 + 16 * (at_ : Int) + 8, p)] ++ [(base + 24, cTwo n)] by
            have : swapE base n key p = 0 := by unfold swapE; rw [if_neg (by rw [hf]; simp [hm]), if_neg (by simp [hm0]), if_neg hfn]
            exact ⟨this, by unfold swapP; rw [if_pos this, hat]; rfl⟩)
          have hfv2 : FindV n key = .tuple #[.int .i64 (at_ : Int), .bool true] := by unfold FindV; rw [if_neg hfn, hat]
          rw [hfv] at hfv2
          have ha8 : at_ < 8 := by omega
          rw [hfv2] at HFd
          rw [hm0] at HM
          clear hm hm0 hfv hfb hf hfn q0 s3 hat hfv2 hlt h8
          go_enter Try.func30, Try.ntmps30
          go_wp2_with (with_reducible refine wpList_load_part (o := ⟨some 15, _, _, _, _, _⟩) rfl 27 _ rfl w.heap.size 0 rfl (ndCells n) _ HL0.out Try.underlying27 rfl HI.out ?_)
          refine (HM.out _).mono ?_
          rintro e w1 ⟨rfl, hB⟩
          have HK1 := Lib.hid (HK0.out.below hB HK0.out.lt)
          have HL1 := Lib.hid (ndLoad HK1.out)
          have HB1 := Lib.hid (HB0.out.trans (hB.mono HB0.out.size))
          clear hB
          go_wp2_with (with_reducible refine wpList_load_part (o := ⟨some 18, _, _, _, _, _⟩) rfl 27 _ rfl w.heap.size 0 rfl (ndCells n) _ HL1.out Try.underlying27 rfl HI.out ?_)
          refine (HFd.out _).mono ?_
          rintro e w2 ⟨rfl, hB⟩
          have HK2 := Lib.hid (HK1.out.below hB HK1.out.lt)
          have HL2 := Lib.hid (ndLoad HK2.out)
          have HB2 := Lib.hid (HB1.out.trans (hB.mono HB1.out.size))
          clear hB
          go_wp2_with (refine wpList_load_gd (o := ⟨some 27, .load 27 (.tmp 5), _, _, _, _⟩) 27 (.tmp 5) ?hoc w.heap.size 0 ?hxc (ndCells n) _ HL2.out Try.underlying27 rfl HI.out ?hwc ?_; (case hoc => rfl); (case hxc => rfl); (case hwc => rfl))
          refine (HFr.out _).mono ?_
          rintro e w3 ⟨rfl, hB⟩
          have HK3 := Lib.hid (HK2.out.below hB HK2.out.lt)
          have HL3 := Lib.hid (ndLoad HK3.out)
          have HB3 := Lib.hid (HB2.out.trans (hB.mono HB2.out.size))
          clear hB
          go_wp2_with (with_reducible refine wpList_load_part (o := ⟨some 40, _, _, _, _, _⟩) rfl 27 _ rfl w.heap.size 0 rfl (ndCells n) _ HL3.out Try.underlying27 rfl HI.out ?_)
          refine (cbegin base n (by omega) (by omega) (cOne n) rfl _).mono ?_
          rintro e w4 ⟨b, rfl, hc, hB⟩
          have HP := Lib.hid (cptr hc (by simp) (by omega) (by omega) at_ ha8 p)
          have HB4 := Lib.hid hB
          clear hc hB
          go_wp2_with (fail)
          refine HP.out.mono ?_
          rintro e w5 ⟨rfl, hc5, hB5⟩
          have HEn := Lib.hid (cend hc5 (by simp) (by omega) (by omega) (cTwo n) rfl)
          have HB5 := Lib.hid (HB4.out.trans hB5)
          clear hc5 hB5
          go_wp2_with (fail)
          refine HEn.out.mono ?_
          rintro e w6 ⟨a, m, c, rfl, hml, ho, hB6⟩
          have HD := Lib.hid (show MadeP (swapP base n key p) 0 w (.returned (.tuple #[.slice a m c, .int .i64 0])) w6 from MadeP.done ⟨a, m, c, rfl, hml, ho, hB6⟩ (HB3.out.trans (HB5.out.mono HB3.out.size)) HB3.out.size HE.out.2.symm)
          clear hml ho hB6
          go_wp2_with (fail)
          go_ret2
          rw [HE.out.1]
          exact HD.out
      · have HE := Lib.hid (show swapE base n key p = mayE base n ∧ swapP base n key p = [] by
          have : swapE base n key p = mayE base n := by unfold swapE; rw [if_neg (by rw [hf]; simp [hm]), if_pos hm0]
          exact ⟨this, by unfold swapP; rw [this, if_neg hm0]⟩)
        have q1 : (mayE base n != 0) = true := bne_iff_ne.2 hm0
        obtain ⟨M, hM⟩ : ∃ M, mayE base n = M := ⟨_, rfl⟩
        rw [hM] at HM q0 q1 HE
        clear hm hfv hfb hf hM hm0
        go_enter Try.func30, Try.ntmps30
        go_wp2_with (with_reducible refine wpList_load_part (o := ⟨some 15, _, _, _, _, _⟩) rfl 27 _ rfl w.heap.size 0 rfl (ndCells n) _ HL0.out Try.underlying27 rfl HI.out ?_)
        refine (HM.out _).mono ?_
        rintro e w1 ⟨rfl, hB⟩
        have HK1 := Lib.hid (HK0.out.below hB HK0.out.lt)
        have HL1 := Lib.hid (ndLoad HK1.out)
        have HB1 := Lib.hid (HB0.out.trans (hB.mono HB0.out.size))
        clear hB
        go_wp2_with (with_reducible refine wpList_load_part (o := ⟨some 18, _, _, _, _, _⟩) rfl 27 _ rfl w.heap.size 0 rfl (ndCells n) _ HL1.out Try.underlying27 rfl HI.out ?_)
        refine (HFd.out _).mono ?_
        rintro e w2 ⟨rfl, hB⟩
        have HK2 := Lib.hid (HK1.out.below hB HK1.out.lt)
        have HL2 := Lib.hid (ndLoad HK2.out)
        have HB2 := Lib.hid (HB1.out.trans (hB.mono HB1.out.size))
        clear hB
        go_wp2_with (refine wpList_load_gd (o := ⟨some 27, .load 27 (.tmp 5), _, _, _, _⟩) 27 (.tmp 5) ?hod w.heap.size 0 ?hxd (ndCells n) _ HL2.out Try.underlying27 rfl HI.out ?hwd ?_; (case hod => rfl); (case hxd => rfl); (case hwd => rfl))
        refine (HFr.out _).mono ?_
        rintro e w3 ⟨rfl, hB⟩
        have HK3 := Lib.hid (HK2.out.below hB HK2.out.lt)
        have HL3 := Lib.hid (ndLoad HK3.out)
        have HB3 := Lib.hid (HB2.out.trans (hB.mono HB2.out.size))
        clear hB
        go_wp2_with (fail)
        go_ret2
        rw [HE.out.1, HE.out.2]
        exact MadeP.err HB3.out
end Go.Proofs.Ytbpaefhihdhdeaa
