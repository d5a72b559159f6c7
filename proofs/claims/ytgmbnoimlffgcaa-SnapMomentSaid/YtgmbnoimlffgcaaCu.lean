/-
  fast.Cut: a contract.
-/
import Derived.Test.YtgmbnoimlffgcaaFiN
import Derived.Test.YtgmbnoimlffgcaaRs
namespace Go.Proofs.Ytgmbnoimlffgcaa
open Go.RowKit


/-! ### Link -/
def linkP (base : Int) (n : Nd) (to : Int) : List (Int × Int) := if mayE base n = 0 then [(base + 24, cOne n), (base + 16, to), (base + 24, cTwo n)] else []
set_option maxRecDepth 100000 in
set_option maxHeartbeats 1600000 in
theorem link_v (base : Int) (n : Nd) (to : Int) (w : World) :
    Calls Try.prog 63 #[.int .u64 base, .agg (ndCells n), .int .u64 to] w fun e w' => MadeP (linkP base n to) (mayE base n) w e w' := by
  have HI := Lib.hid (info27 n)
  have hk0 : Blk (w.alloc (.cells (ndCells n) 40)) w.heap.size (ndCells n) 40 := Blk.new w _ _
  have HK0 := Lib.hid hk0
  have HL0 := Lib.hid (ndLoad hk0)
  have HB0 := Lib.hid ((Below.refl w.heap.size w).alloc (Nat.le_refl _) (.cells (ndCells n) 40))
  have HM := Lib.hid (fun w => may_v base n w)
  clear hk0
  by_cases hm : mayE base n = 0
  · obtain ⟨⟨s1, s2, s3⟩, _, _⟩ := mayE_stands hm
    have HP := Lib.hid (show linkP base n to = [(base + 24, cOne n)] ++ [(base + 16, to)] ++ [(base + 24, cTwo n)] by unfold linkP; rw [if_pos hm]; rfl)
    have HE := Lib.hid hm
    rw [hm] at HM
    clear hm s3
    go_enter Try.func63, Try.ntmps63
    go_wp2_with (with_reducible refine wpList_load_part (o := ⟨some 11, _, _, _, _, _⟩) rfl 40 _ rfl w.heap.size 0 rfl (ndCells n) _ HL0.out Try.underlying40 rfl HI.out ?_)
    refine (HM.out _).mono ?_
    rintro e w1 ⟨rfl, hB⟩
    have HK1 := Lib.hid (HK0.out.below hB HK0.out.lt)
    have HL1 := Lib.hid (ndLoad HK1.out)
    have HB1 := Lib.hid (HB0.out.trans (hB.mono HB0.out.size))
    clear hB
    go_wp2_with (with_reducible refine wpList_load_part (o := ⟨some 17, _, _, _, _, _⟩) rfl 40 _ rfl w.heap.size 0 rfl (ndCells n) _ HL1.out Try.underlying40 rfl HI.out ?_)
    refine (cbegin base n (by omega) (by omega) (cOne n) rfl _).mono ?_
    rintro e w2 ⟨b, rfl, hc, hB⟩
    have HC := Lib.hid hc
    have HW := Lib.hid (cword hc (by simp) (base + 16) to)
    have HB2 := Lib.hid (HB1.out.trans (hB.mono HB1.out.size))
    have HBc := Lib.hid hB
    clear hc hB
    go_wp2_with (fail)
    refine HW.out.mono ?_
    rintro e w3 ⟨rfl, hc3, hB3⟩
    have HEn := Lib.hid (cend hc3 (by simp) (by omega) (by omega) (cTwo n) rfl)
    have HB3 := Lib.hid (HBc.out.trans hB3)
    clear hc3 hB3
    go_wp2_with (fail)
    refine HEn.out.mono ?_
    rintro e w4 ⟨a, m, c, rfl, hml, ho, hB4⟩
    have HD := Lib.hid (show MadeP (linkP base n to) 0 w (.returned (.tuple #[.slice a m c, .int .i64 0])) w4 from MadeP.done ⟨a, m, c, rfl, hml, ho, hB4⟩ (HB1.out.trans (HB3.out.mono HB1.out.size)) HB1.out.size HP.out.symm)
    clear hml ho hB4
    go_wp2_with (fail)
    go_ret2
    rw [HE.out]
    exact HD.out
  · have HP := Lib.hid (show linkP base n to = [] by unfold linkP; rw [if_neg hm])
    obtain ⟨M, hM⟩ : ∃ M, mayE base n = M := ⟨_, rfl⟩
    rw [hM] at HM
    have HE := Lib.hid hM
    have q1 : (M != 0) = true := by rw [bne_iff_ne, ← hM]; exact hm
    clear hm hM
    go_enter Try.func63, Try.ntmps63
    go_wp2_with (with_reducible refine wpList_load_part (o := ⟨some 11, _, _, _, _, _⟩) rfl 40 _ rfl w.heap.size 0 rfl (ndCells n) _ HL0.out Try.underlying40 rfl HI.out ?_)
    refine (HM.out _).mono ?_
    rintro e w1 ⟨rfl, hB⟩
    have HK1 := Lib.hid (HK0.out.below hB HK0.out.lt)
    have HL1 := Lib.hid (ndLoad HK1.out)
    have HB1 := Lib.hid (HB0.out.trans (hB.mono HB0.out.size))
    clear hB
    go_wp2_with (fail)
    go_ret2
    rw [HE.out, HP.out]
    exact MadeP.err HB1.out

/-! ### Swap -/
def swapE (base : Int) (n : Nd) (key p : Int) : Int := if mayE base n = 2 ∨ freshB n p = false then 2 else if mayE base n ≠ 0 then mayE base n else if n.find key < 0 then 5 else 0
def swapP (base : Int) (n : Nd) (key p : Int) : List (Int × Int) := if swapE base n key p = 0 then [(base + 24, cOne n), (base + 64 + 16 * n.find key + 8, p), (base + 24, cTwo n)] else []
set_option maxRecDepth 100000 in
set_option maxHeartbeats 3200000 in
theorem swap_v (base : Int) (n : Nd) (key p : Int) (w : World) :
    Calls Try.prog 61 #[.int .u64 base, .agg (ndCells n), .int .u64 key, .int .u64 p] w fun e w' => MadeP (swapP base n key p) (swapE base n key p) w e w' := by
  have HI := Lib.hid (info27 n)
  have hk0 : Blk (w.alloc (.cells (ndCells n) 40)) w.heap.size (ndCells n) 40 := Blk.new w _ _
  have HK0 := Lib.hid hk0
  have HL0 := Lib.hid (ndLoad hk0)
  have HB0 := Lib.hid ((Below.refl w.heap.size w).alloc (Nat.le_refl _) (.cells (ndCells n) 40))
  have HM := Lib.hid (fun w => may_v base n w)
  clear hk0
  have HFd := Lib.hid (fun w => nfind_calls n key w)
  have HFr := Lib.hid (fun w => fresh_v n p w)
  obtain ⟨fi, fb, hfv, hfb⟩ := findV_parts n key
  rw [hfv] at HFd
  by_cases hm : mayE base n = 2
  · have HE := Lib.hid (show swapE base n key p = 2 ∧ swapP base n key p = [] by
      have : swapE base n key p = 2 := by unfold swapE; rw [if_pos (.inl hm)]
      exact ⟨this, by unfold swapP; rw [this]; rfl⟩)
    rw [hm] at HM
    clear hm hfv hfb
    go_enter Try.func61, Try.ntmps61
    go_wp2_with (with_reducible refine wpList_load_part (o := ⟨some 15, _, _, _, _, _⟩) rfl 40 _ rfl w.heap.size 0 rfl (ndCells n) _ HL0.out Try.underlying40 rfl HI.out ?_)
    refine (HM.out _).mono ?_
    rintro e w1 ⟨rfl, hB⟩
    have HK1 := Lib.hid (HK0.out.below hB HK0.out.lt)
    have HL1 := Lib.hid (ndLoad HK1.out)
    have HB1 := Lib.hid (HB0.out.trans (hB.mono HB0.out.size))
    clear hB
    go_wp2_with (with_reducible refine wpList_load_part (o := ⟨some 18, _, _, _, _, _⟩) rfl 40 _ rfl w.heap.size 0 rfl (ndCells n) _ HL1.out Try.underlying40 rfl HI.out ?_)
    refine (HFd.out _).mono ?_
    rintro e w2 ⟨rfl, hB⟩
    have HK2 := Lib.hid (HK1.out.below hB HK1.out.lt)
    have HL2 := Lib.hid (ndLoad HK2.out)
    have HB2 := Lib.hid (HB1.out.trans (hB.mono HB1.out.size))
    clear hB
    go_wp2_with (fail)
    go_ret2
    rw [HE.out.1, HE.out.2]
    exact MadeP.err HB2.out
  · have q0 : (mayE base n == 2) = false := beq_eq_false_iff_ne.2 hm
    cases hf : freshB n p with
    | false =>
      have HE := Lib.hid (show swapE base n key p = 2 ∧ swapP base n key p = [] by
        have : swapE base n key p = 2 := by unfold swapE; rw [if_pos (.inr hf)]
        exact ⟨this, by unfold swapP; rw [this]; rfl⟩)
      rw [hf] at HFr
      obtain ⟨M, hM⟩ : ∃ M, mayE base n = M := ⟨_, rfl⟩
      rw [hM] at HM q0
      clear hm hfv hfb hf hM
      go_enter Try.func61, Try.ntmps61
      go_wp2_with (with_reducible refine wpList_load_part (o := ⟨some 15, _, _, _, _, _⟩) rfl 40 _ rfl w.heap.size 0 rfl (ndCells n) _ HL0.out Try.underlying40 rfl HI.out ?_)
      refine (HM.out _).mono ?_
      rintro e w1 ⟨rfl, hB⟩
      have HK1 := Lib.hid (HK0.out.below hB HK0.out.lt)
      have HL1 := Lib.hid (ndLoad HK1.out)
      have HB1 := Lib.hid (HB0.out.trans (hB.mono HB0.out.size))
      clear hB
      go_wp2_with (with_reducible refine wpList_load_part (o := ⟨some 18, _, _, _, _, _⟩) rfl 40 _ rfl w.heap.size 0 rfl (ndCells n) _ HL1.out Try.underlying40 rfl HI.out ?_)
      refine (HFd.out _).mono ?_
      rintro e w2 ⟨rfl, hB⟩
      have HK2 := Lib.hid (HK1.out.below hB HK1.out.lt)
      have HL2 := Lib.hid (ndLoad HK2.out)
      have HB2 := Lib.hid (HB1.out.trans (hB.mono HB1.out.size))
      clear hB
      go_wp2_with (refine wpList_load_gd (o := ⟨some 27, .load 40 (.tmp 5), _, _, _, _⟩) 40 (.tmp 5) ?hoa w.heap.size 0 ?hxa (ndCells n) _ HL2.out Try.underlying40 rfl HI.out ?hwa ?_; (case hoa => rfl); (case hxa => rfl); (case hwa => rfl))
      refine (HFr.out _).mono ?_
      rintro e w3 ⟨rfl, hB⟩
      have HK3 := Lib.hid (HK2.out.below hB HK2.out.lt)
      have HL3 := Lib.hid (ndLoad HK3.out)
      have HB3 := Lib.hid (HB2.out.trans (hB.mono HB2.out.size))
      clear hB
      go_wp2_with (fail)
      go_ret2
      rw [HE.out.1, HE.out.2]
      exact MadeP.err HB3.out
    | true =>
      rw [hf] at HFr
      by_cases hm0 : mayE base n = 0
      · obtain ⟨⟨s1, s2, s3⟩, _, _⟩ := mayE_stands hm0
        by_cases hfn : n.find key < 0
        · have HE := Lib.hid (show swapE base n key p = 5 ∧ swapP base n key p = [] by
            have : swapE base n key p = 5 := by unfold swapE; rw [if_neg (by rw [hf]; simp [hm]), if_neg (by simp [hm0]), if_pos hfn]
            exact ⟨this, by unfold swapP; rw [this]; rfl⟩)
          rw [show fb = false by rw [hfb]; exact decide_eq_false (by omega)] at HFd
          rw [hm0] at HM
          clear hm hm0 hfv hfb hf hfn q0 s3
          go_enter Try.func61, Try.ntmps61
          go_wp2_with (with_reducible refine wpList_load_part (o := ⟨some 15, _, _, _, _, _⟩) rfl 40 _ rfl w.heap.size 0 rfl (ndCells n) _ HL0.out Try.underlying40 rfl HI.out ?_)
          refine (HM.out _).mono ?_
          rintro e w1 ⟨rfl, hB⟩
          have HK1 := Lib.hid (HK0.out.below hB HK0.out.lt)
          have HL1 := Lib.hid (ndLoad HK1.out)
          have HB1 := Lib.hid (HB0.out.trans (hB.mono HB0.out.size))
          clear hB
          go_wp2_with (with_reducible refine wpList_load_part (o := ⟨some 18, _, _, _, _, _⟩) rfl 40 _ rfl w.heap.size 0 rfl (ndCells n) _ HL1.out Try.underlying40 rfl HI.out ?_)
          refine (HFd.out _).mono ?_
          rintro e w2 ⟨rfl, hB⟩
          have HK2 := Lib.hid (HK1.out.below hB HK1.out.lt)
          have HL2 := Lib.hid (ndLoad HK2.out)
          have HB2 := Lib.hid (HB1.out.trans (hB.mono HB1.out.size))
          clear hB
          go_wp2_with (refine wpList_load_gd (o := ⟨some 27, .load 40 (.tmp 5), _, _, _, _⟩) 40 (.tmp 5) ?hob w.heap.size 0 ?hxb (ndCells n) _ HL2.out Try.underlying40 rfl HI.out ?hwb ?_; (case hob => rfl); (case hxb => rfl); (case hwb => rfl))
          refine (HFr.out _).mono ?_
          rintro e w3 ⟨rfl, hB⟩
          have HK3 := Lib.hid (HK2.out.below hB HK2.out.lt)
          have HL3 := Lib.hid (ndLoad HK3.out)
          have HB3 := Lib.hid (HB2.out.trans (hB.mono HB2.out.size))
          clear hB
          go_wp2_with (fail)
          go_ret2
          rw [HE.out.1, HE.out.2]
          exact MadeP.err HB3.out
        · obtain ⟨at_, hat, hlt⟩ := find_lt n key (by omega)
          have h8 := n.len_le
          have HE := Lib.hid (show swapE base n key p = 0 ∧ swapP base n key p = [(base + 24, cOne n)] ++ [(base + 64 + 16 * (at_ : Int) + 8, p)] ++ [(base + 24, cTwo n)] by
            have : swapE base n key p = 0 := by unfold swapE; rw [if_neg (by rw [hf]; simp [hm]), if_neg (by simp [hm0]), if_neg hfn]
            exact ⟨this, by unfold swapP; rw [if_pos this, hat]; rfl⟩)
          have hfv2 : FindV n key = .tuple #[.int .i64 (at_ : Int), .bool true] := by unfold FindV; rw [if_neg hfn, hat]
          rw [hfv] at hfv2
          have ha8 : at_ < 8 := by omega
          rw [hfv2] at HFd
          rw [hm0] at HM
          clear hm hm0 hfv hfb hf hfn q0 s3 hat hfv2 hlt h8
          go_enter Try.func61, Try.ntmps61
          go_wp2_with (with_reducible refine wpList_load_part (o := ⟨some 15, _, _, _, _, _⟩) rfl 40 _ rfl w.heap.size 0 rfl (ndCells n) _ HL0.out Try.underlying40 rfl HI.out ?_)
          refine (HM.out _).mono ?_
          rintro e w1 ⟨rfl, hB⟩
          have HK1 := Lib.hid (HK0.out.below hB HK0.out.lt)
          have HL1 := Lib.hid (ndLoad HK1.out)
          have HB1 := Lib.hid (HB0.out.trans (hB.mono HB0.out.size))
          clear hB
          go_wp2_with (with_reducible refine wpList_load_part (o := ⟨some 18, _, _, _, _, _⟩) rfl 40 _ rfl w.heap.size 0 rfl (ndCells n) _ HL1.out Try.underlying40 rfl HI.out ?_)
          refine (HFd.out _).mono ?_
          rintro e w2 ⟨rfl, hB⟩
          have HK2 := Lib.hid (HK1.out.below hB HK1.out.lt)
          have HL2 := Lib.hid (ndLoad HK2.out)
          have HB2 := Lib.hid (HB1.out.trans (hB.mono HB1.out.size))
          clear hB
          go_wp2_with (refine wpList_load_gd (o := ⟨some 27, .load 40 (.tmp 5), _, _, _, _⟩) 40 (.tmp 5) ?hoc w.heap.size 0 ?hxc (ndCells n) _ HL2.out Try.underlying40 rfl HI.out ?hwc ?_; (case hoc => rfl); (case hxc => rfl); (case hwc => rfl))
          refine (HFr.out _).mono ?_
          rintro e w3 ⟨rfl, hB⟩
          have HK3 := Lib.hid (HK2.out.below hB HK2.out.lt)
          have HL3 := Lib.hid (ndLoad HK3.out)
          have HB3 := Lib.hid (HB2.out.trans (hB.mono HB2.out.size))
          clear hB
          go_wp2_with (with_reducible refine wpList_load_part (o := ⟨some 40, _, _, _, _, _⟩) rfl 40 _ rfl w.heap.size 0 rfl (ndCells n) _ HL3.out Try.underlying40 rfl HI.out ?_)
          refine (cbegin base n (by omega) (by omega) (cOne n) rfl _).mono ?_
          rintro e w4 ⟨b, rfl, hc, hB⟩
          have HP := Lib.hid (cptr hc (by simp) (by omega) (by omega) at_ ha8 p)
          have HB4 := Lib.hid hB
          clear hc hB
          go_wp2_with (fail)
          refine HP.out.mono ?_
          rintro e w5 ⟨rfl, hc5, hB5⟩
          have HEn := Lib.hid (cend hc5 (by simp) (by omega) (by omega) (cTwo n) rfl)
          have HB5 := Lib.hid (HB4.out.trans hB5)
          clear hc5 hB5
          go_wp2_with (fail)
          refine HEn.out.mono ?_
          rintro e w6 ⟨a, m, c, rfl, hml, ho, hB6⟩
          have HD := Lib.hid (show MadeP (swapP base n key p) 0 w (.returned (.tuple #[.slice a m c, .int .i64 0])) w6 from MadeP.done ⟨a, m, c, rfl, hml, ho, hB6⟩ (HB3.out.trans (HB5.out.mono HB3.out.size)) HB3.out.size HE.out.2.symm)
          clear hml ho hB6
          go_wp2_with (fail)
          go_ret2
          rw [HE.out.1]
          exact HD.out
      · have HE := Lib.hid (show swapE base n key p = mayE base n ∧ swapP base n key p = [] by
          have : swapE base n key p = mayE base n := by unfold swapE; rw [if_neg (by rw [hf]; simp [hm]), if_pos hm0]
          exact ⟨this, by unfold swapP; rw [this, if_neg hm0]⟩)
        have q1 : (mayE base n != 0) = true := bne_iff_ne.2 hm0
        obtain ⟨M, hM⟩ : ∃ M, mayE base n = M := ⟨_, rfl⟩
        rw [hM] at HM q0 q1 HE
        clear hm hfv hfb hf hM hm0
        go_enter Try.func61, Try.ntmps61
        go_wp2_with (with_reducible refine wpList_load_part (o := ⟨some 15, _, _, _, _, _⟩) rfl 40 _ rfl w.heap.size 0 rfl (ndCells n) _ HL0.out Try.underlying40 rfl HI.out ?_)
        refine (HM.out _).mono ?_
        rintro e w1 ⟨rfl, hB⟩
        have HK1 := Lib.hid (HK0.out.below hB HK0.out.lt)
        have HL1 := Lib.hid (ndLoad HK1.out)
        have HB1 := Lib.hid (HB0.out.trans (hB.mono HB0.out.size))
        clear hB
        go_wp2_with (with_reducible refine wpList_load_part (o := ⟨some 18, _, _, _, _, _⟩) rfl 40 _ rfl w.heap.size 0 rfl (ndCells n) _ HL1.out Try.underlying40 rfl HI.out ?_)
        refine (HFd.out _).mono ?_
        rintro e w2 ⟨rfl, hB⟩
        have HK2 := Lib.hid (HK1.out.below hB HK1.out.lt)
        have HL2 := Lib.hid (ndLoad HK2.out)
        have HB2 := Lib.hid (HB1.out.trans (hB.mono HB1.out.size))
        clear hB
        go_wp2_with (refine wpList_load_gd (o := ⟨some 27, .load 40 (.tmp 5), _, _, _, _⟩) 40 (.tmp 5) ?hod w.heap.size 0 ?hxd (ndCells n) _ HL2.out Try.underlying40 rfl HI.out ?hwd ?_; (case hod => rfl); (case hxd => rfl); (case hwd => rfl))
        refine (HFr.out _).mono ?_
        rintro e w3 ⟨rfl, hB⟩
        have HK3 := Lib.hid (HK2.out.below hB HK2.out.lt)
        have HL3 := Lib.hid (ndLoad HK3.out)
        have HB3 := Lib.hid (HB2.out.trans (hB.mono HB2.out.size))
        clear hB
        go_wp2_with (fail)
        go_ret2
        rw [HE.out.1, HE.out.2]
        exact MadeP.err HB3.out
end Go.Proofs.Ytgmbnoimlffgcaa
namespace Go.Proofs.Ytgmbnoimlffgcaa
open Go.RowKit
set_option linter.unusedVariables false

theorem inval_eq (n : Nd) : n.invalid = n.inval := by
  refine firstP_eq (t := fun i => !n.ok i) (i := 0) (d := n.len) ?_ (firstF_spec _ _ _)
  unfold Nd.invalid inv
  cases h : n.ents.find? (fun x => !x.2) with
  | none =>
    refine .inl ⟨rfl, fun j _ hj => ?_⟩
    have := List.find?_eq_none.1 h ((j : Int), n.p j != n.ahead j) (by unfold Nd.ents; exact List.mem_map.2 ⟨j, List.mem_range.2 (by omega), rfl⟩)
    unfold Nd.ok
    simpa using this
  | some x =>
    obtain ⟨h1, i, hi, he, hb⟩ := List.find?_eq_some_iff_getElem.1 h
    rw [ents_len] at hi
    have hx : x = ((i : Int), n.p i != n.ahead i) := by rw [← he]; simp [Nd.ents]
    refine .inr ⟨i, by rw [hx]; rfl, Nat.zero_le _, by omega, ?_, fun k _ hk => ?_⟩
    · rw [hx] at h1; unfold Nd.ok; exact h1
    · have := hb k hk
      unfold Nd.ok
      simp [Nd.ents] at this
      simp [this]
theorem inval_lt (n : Nd) (h : 0 ≤ n.invalid) : ∃ p : Nat, n.invalid = p ∧ p < n.len := by
  rw [inval_eq] at *
  rcases firstF_spec (fun i => !n.ok i) n.len 0 with ⟨e, _⟩ | ⟨j, e, _, h2, _⟩
  · unfold Nd.inval at h; omega
  · exact ⟨j, e, by omega⟩

theorem cutF_calls (k high : Int) (bg : Nat) (w : World) (hg : Blk w bg #[.int .u64 high] 23) :
    Calls Try.prog 82 #[.int .u64 k, .pointer (some ⟨bg, 0, none⟩)] w fun e w' => e = .returned (.bool (decide (high ≤ k))) ∧ w = w' := by
  have c2 : w.cell? ⟨bg, 0, none⟩ = some (.int .u64 high) := by rw [hg.cell]; rfl
  clear hg
  go_enter Try.func82, Try.ntmps82
  go_wp2_with (fail)
  go_ret
  exact ⟨rfl, rfl⟩
set_option maxRecDepth 100000 in
set_option maxHeartbeats 800000 in
theorem idxC_calls (f : Nat → Int) (m c g off : Nat) (high : Int) (bg : Nat) (w : World) (hm : m ≤ 1000) (hc : ∀ j, j < m → w.cell? ⟨g, off + j, none⟩ = some (.int .u64 (f j))) (hg : Blk w bg #[.int .u64 high] 23) :
    Calls Try.prog 81 #[.slice (some ⟨g, off, none⟩) m c, .func (.func 82) #[] #[.pointer (some ⟨bg, 0, none⟩)]] w fun e w' => e = .returned (.int .i64 (firstF (fun j => decide (high ≤ f j)) m 0)) ∧ w = w' := by
  have HC := Lib.hid hc
  have HG := Lib.hid hg
  clear hc hg
  have FIN := Lib.hid (fun (r : Int) (hr : firstF (fun j => decide (high ≤ f j)) m 0 = r) => show Ending.returned (.int .i64 r) = .returned (.int .i64 (firstF (fun j => decide (high ≤ f j)) m 0)) by rw [hr])
  go_enter Try.func81, Try.ntmps81
  go_wp2_with (fail)
  go_loop [8] (fun iv => ∃ k : Nat, k ≤ m ∧ iv = .int .i64 k ∧ Hid (firstF (fun j => decide (high ≤ f j)) m 0 = firstF (fun j => decide (high ≤ f j)) (m - k) k)) (fun iv => m - (intOf iv).toNat)
  case atStart => exact ⟨0, Nat.zero_le _, rfl, Lib.hid rfl⟩
  case round =>
    obtain ⟨k, hk, rfl, hR⟩ := hrel
    by_cases hlt : k < m
    · have c1 := HC.out k hlt
      obtain ⟨y, hy⟩ : ∃ y, f k = y := ⟨_, rfl⟩
      rw [hy] at c1
      have hst := Lib.hid (hR.out.trans (firstF_step (fun j => decide (high ≤ f j)) m k hlt))
      have q1 : (k : Int) < (m : Int) := by omega
      have q2 : (0 : Int) ≤ (k : Int) := by omega
      have q3 : ((k : Int)).toNat = k := by omega
      have HY := Lib.hid hy
      have HQ := Lib.hid (cutF_calls y high bg w HG.out)
      clear hy
      cases hc : decide (high ≤ y)
      · rw [hc] at HQ
        have hr2 := Lib.hid (hst.out.trans (if_neg (by simp only [HY.out, hc]; simp)))
        clear hc
        go_wp2_with (go_at_call 82; refine HQ.out.mono ?_; rintro e w' ⟨rfl, rfl⟩)
        go_round
        case rel => exact ⟨k + 1, by omega, by go_num, hr2⟩
        case measure => simp [intOf]; omega
      · rw [hc] at HQ
        have hr2 := Lib.hid (hst.out.trans (if_pos (by simp only [HY.out, hc])))
        clear hc
        go_wp2_with (go_at_call 82; refine HQ.out.mono ?_; rintro e w' ⟨rfl, rfl⟩)
        go_ret
        exact ⟨FIN.out _ hr2.out, rfl⟩
    · have hf := Lib.hid (hR.out.trans (firstF_end _ m k (by omega)))
      go_wp2_with (fail)
      go_ret
      exact ⟨FIN.out _ hf.out, rfl⟩

/-! ### Cut -/
def Nd.cutAt (n : Nd) (high : Int) : Int := firstF (fun j => decide (high ≤ n.k j)) n.len 0
theorem cutAt_lt (n : Nd) (high : Int) (h : 0 ≤ n.cutAt high) : ∃ p : Nat, n.cutAt high = p ∧ p < n.len := by
  rcases firstF_spec (fun j => decide (high ≤ n.k j)) n.len 0 with ⟨e, _⟩ | ⟨j, e, _, h2, _⟩
  · unfold Nd.cutAt at h; omega
  · exact ⟨j, e, by omega⟩
def cutE (base : Int) (n : Nd) (high : Int) : Int := if mayE base n ≠ 0 then mayE base n else if n.cutAt high < 0 then 5 else 0
def cutP (base : Int) (n : Nd) (high : Int) : List (Int × Int) := if cutE base n high = 0 then [(base + 24, cOne n), (base + 64 + 16 * n.cutAt high + 8, 0), (base + 24, cTwo n)] else []
set_option maxRecDepth 100000 in
set_option maxHeartbeats 3200000 in
theorem cut_v (base : Int) (n : Nd) (high : Int) (w : World) :
    Calls Try.prog 62 #[.int .u64 base, .agg (ndCells n), .int .u64 high] w fun e w' => MadeP (cutP base n high) (cutE base n high) w e w' := by
  have HI := Lib.hid (info27 n)
  have hk0 : Blk ((w.alloc (.cells (ndCells n) 40)).alloc (.cells #[.int .u64 high] 23)) w.heap.size (ndCells n) 40 := (Blk.new w _ _).alloc _
  have hg0 : Blk ((w.alloc (.cells (ndCells n) 40)).alloc (.cells #[.int .u64 high] 23)) (w.heap.size + 1) #[.int .u64 high] 23 := by
    have := Blk.new (w.alloc (.cells (ndCells n) 40)) #[.int .u64 high] 23
    simpa using this
  have HK0 := Lib.hid hk0
  have HG0 := Lib.hid hg0
  have HL0 := Lib.hid (ndLoad hk0)
  have HB0 := Lib.hid (((Below.refl w.heap.size w).alloc (Nat.le_refl _) (.cells (ndCells n) 40)).alloc (by simp) (.cells #[.int .u64 high] 23))
  have HM := Lib.hid (fun w => may_v base n w)
  clear hk0 hg0
  by_cases hm : mayE base n = 0
  · obtain ⟨⟨s1, s2, s3⟩, _, _⟩ := mayE_stands hm
    have h8 := n.len_le
    have HLn := Lib.hid (fun w => len_calls n w)
    have HX := Lib.hid (fun (w1 : World) (hk : Blk w1 w.heap.size (ndCells n) 40) (hg : Blk w1 (w.heap.size + 1) #[.int .u64 high] 23) => idxC_calls n.k n.len 8 w.heap.size 5 high (w.heap.size + 1) w1 (by omega) (fun j hj => by rw [hk.cell, ndCells_k n j (by omega)]) hg)
    have HM0 := Lib.hid hm
    rw [hm] at HM
    have hcE : cutE base n high = if n.cutAt high < 0 then 5 else 0 := by unfold cutE; rw [if_neg (by omega)]
    by_cases hc : n.cutAt high < 0
    · have HE := Lib.hid (show cutE base n high = 5 ∧ cutP base n high = [] by
        rw [if_pos hc] at hcE
        exact ⟨hcE, by unfold cutP; rw [hcE]; rfl⟩)
      obtain ⟨ca, hca⟩ : ∃ z, n.cutAt high = z := ⟨_, rfl⟩
      rw [hca] at hc
      rw [show firstF (fun j => decide (high ≤ n.k j)) n.len 0 = ca from hca] at HX
      obtain ⟨m, hm'⟩ : ∃ m, n.len = m := ⟨_, rfl⟩
      rw [hm'] at h8 HLn HX
      have h8' : (m : Int) ≤ 8 := by omega
      clear hm s3 hcE hca hm'
      go_enter Try.func62, Try.ntmps62
      go_wp2_with (with_reducible refine wpList_load_part (o := ⟨some 12, _, _, _, _, _⟩) rfl 40 _ rfl w.heap.size 0 rfl (ndCells n) _ HL0.out Try.underlying40 rfl HI.out ?_)
      refine (HM.out _).mono ?_
      rintro e w1 ⟨rfl, hB⟩
      have HK1 := Lib.hid (HK0.out.below hB HK0.out.lt)
      have HG1 := Lib.hid (HG0.out.below hB HG0.out.lt)
      have HL1 := Lib.hid (ndLoad HK1.out)
      have HB1 := Lib.hid (HB0.out.trans (hB.mono HB0.out.size))
      clear hB
      go_wp2_with (with_reducible refine wpList_load_part (o := ⟨some 18, _, _, _, _, _⟩) rfl 40 _ rfl w.heap.size 0 rfl (ndCells n) _ HL1.out Try.underlying40 rfl HI.out ?_)
      refine (HLn.out _).mono ?_
      rintro e w2 ⟨rfl, hB⟩
      have HK2 := Lib.hid (HK1.out.below hB HK1.out.lt)
      have HG2 := Lib.hid (HG1.out.below hB HG1.out.lt)
      have HL2 := Lib.hid (ndLoad HK2.out)
      have HB2 := Lib.hid (HB1.out.trans (hB.mono HB1.out.size))
      clear hB
      have HX2 := Lib.hid (HX.out w2 HK2.out HG2.out)
      clear HX
      go_wp2_with (go_at_call 81; refine HX2.out.mono ?_; rintro e w3 ⟨rfl, rfl⟩)
      go_ret2
      rw [HE.out.1, HE.out.2]
      exact MadeP.err HB2.out
    · obtain ⟨at_, hat, hlt⟩ := cutAt_lt n high (by omega)
      have HE := Lib.hid (show cutE base n high = 0 ∧ cutP base n high = [(base + 24, cOne n)] ++ [(base + 64 + 16 * (at_ : Int) + 8, 0)] ++ [(base + 24, cTwo n)] by
        rw [if_neg hc] at hcE
        exact ⟨hcE, by unfold cutP; rw [if_pos hcE, hat]; rfl⟩)
      rw [show firstF (fun j => decide (high ≤ n.k j)) n.len 0 = (at_ : Int) from hat] at HX
      obtain ⟨m, hm'⟩ : ∃ m, n.len = m := ⟨_, rfl⟩
      rw [hm'] at h8 HLn HX hlt
      have ha8 : at_ < 8 := by omega
      have h8' : (m : Int) ≤ 8 := by omega
      have q1 : ¬ (at_ : Int) < 0 := by omega
      clear hm s3 hcE hm' hc hat
      go_enter Try.func62, Try.ntmps62
      go_wp2_with (with_reducible refine wpList_load_part (o := ⟨some 12, _, _, _, _, _⟩) rfl 40 _ rfl w.heap.size 0 rfl (ndCells n) _ HL0.out Try.underlying40 rfl HI.out ?_)
      refine (HM.out _).mono ?_
      rintro e w1 ⟨rfl, hB⟩
      have HK1 := Lib.hid (HK0.out.below hB HK0.out.lt)
      have HG1 := Lib.hid (HG0.out.below hB HG0.out.lt)
      have HL1 := Lib.hid (ndLoad HK1.out)
      have HB1 := Lib.hid (HB0.out.trans (hB.mono HB0.out.size))
      clear hB
      go_wp2_with (with_reducible refine wpList_load_part (o := ⟨some 18, _, _, _, _, _⟩) rfl 40 _ rfl w.heap.size 0 rfl (ndCells n) _ HL1.out Try.underlying40 rfl HI.out ?_)
      refine (HLn.out _).mono ?_
      rintro e w2 ⟨rfl, hB⟩
      have HK2 := Lib.hid (HK1.out.below hB HK1.out.lt)
      have HG2 := Lib.hid (HG1.out.below hB HG1.out.lt)
      have HL2 := Lib.hid (ndLoad HK2.out)
      have HB2 := Lib.hid (HB1.out.trans (hB.mono HB1.out.size))
      clear hB
      have HX2 := Lib.hid (HX.out w2 HK2.out HG2.out)
      clear HX
      go_wp2_with (first | (go_at_call 81; refine HX2.out.mono ?_; rintro e w3 ⟨rfl, rfl⟩) | (with_reducible refine wpList_load_part (o := ⟨some 26, _, _, _, _, _⟩) rfl 40 _ rfl w.heap.size 0 rfl (ndCells n) _ HL2.out Try.underlying40 rfl HI.out ?_))
      refine (cbegin base n (by omega) (by omega) (cOne n) rfl _).mono ?_
      rintro e w4 ⟨b, rfl, hc, hB⟩
      have HP := Lib.hid (cptr hc (by simp) (by omega) (by omega) at_ ha8 0)
      have HB4 := Lib.hid hB
      clear hc hB
      go_wp2_with (fail)
      refine HP.out.mono ?_
      rintro e w5 ⟨rfl, hc5, hB5⟩
      have HEn := Lib.hid (cend hc5 (by simp) (by omega) (by omega) (cTwo n) rfl)
      have HB5 := Lib.hid (HB4.out.trans hB5)
      clear hc5 hB5
      go_wp2_with (fail)
      refine HEn.out.mono ?_
      rintro e w6 ⟨a, m6, c, rfl, hml, ho, hB6⟩
      have HD := Lib.hid (show MadeP (cutP base n high) 0 w (.returned (.tuple #[.slice a m6 c, .int .i64 0])) w6 from MadeP.done ⟨a, m6, c, rfl, hml, ho, hB6⟩ (HB2.out.trans (HB5.out.mono HB2.out.size)) HB2.out.size HE.out.2.symm)
      clear hml ho hB6
      go_wp2_with (fail)
      go_ret2
      rw [HE.out.1]
      exact HD.out
  · have HP := Lib.hid (show cutE base n high = mayE base n ∧ cutP base n high = [] by
      have : cutE base n high = mayE base n := by unfold cutE; rw [if_pos hm]
      exact ⟨this, by unfold cutP; rw [this, if_neg hm]⟩)
    obtain ⟨M, hM⟩ : ∃ M, mayE base n = M := ⟨_, rfl⟩
    rw [hM] at HM HP
    have q1 : (M != 0) = true := by rw [bne_iff_ne, ← hM]; exact hm
    clear hm hM
    go_enter Try.func62, Try.ntmps62
    go_wp2_with (with_reducible refine wpList_load_part (o := ⟨some 12, _, _, _, _, _⟩) rfl 40 _ rfl w.heap.size 0 rfl (ndCells n) _ HL0.out Try.underlying40 rfl HI.out ?_)
    refine (HM.out _).mono ?_
    rintro e w1 ⟨rfl, hB⟩
    have HK1 := Lib.hid (HK0.out.below hB HK0.out.lt)
    have HG1 := Lib.hid (HG0.out.below hB HG0.out.lt)
    have HL1 := Lib.hid (ndLoad HK1.out)
    have HB1 := Lib.hid (HB0.out.trans (hB.mono HB0.out.size))
    clear hB
    go_wp2_with (fail)
    go_ret2
    rw [HP.out.1, HP.out.2]
    exact MadeP.err HB1.out
end Go.Proofs.Ytgmbnoimlffgcaa
