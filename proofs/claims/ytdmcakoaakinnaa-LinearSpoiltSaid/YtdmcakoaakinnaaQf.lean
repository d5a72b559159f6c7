/-
  linear.Whole, Tells: contracts.
-/
import Derived.Test.YtdmcakoaakinnaaQe
namespace Go.Proofs.Ytdmcakoaakinnaa
open Go.RowKit
attribute [local go_sem] Oper.semAt_some
set_option linter.unusedVariables false
set_option linter.unusedSimpArgs false

def StW (w1 : World) (d : Dn) (L : Nat → Bool) : World :=
  if L 7 then w1.drew.alloc (.cells (caCells d) 41) else if L 5 then w1.drew.alloc (.cells (caCells dnZ) 41) else w1.drew
theorem StW.below (w1 : World) (d : Dn) (L : Nat → Bool) : Below w1.heap.size w1 (StW w1 d L) := by
  have h := (Below.refl w1.heap.size w1).drew
  unfold StW
  split
  · exact h.alloc (Nat.le_refl _) _
  · split
    · exact h.alloc (Nat.le_refl _) _
    · exact h
theorem outP_any (d : Dn) (l : List Pr) : (l.any fun p => decide (p.key < d.key) || decide (d.hi < p.key)) = l.any (outP d) := rfl
set_option maxRecDepth 100000 in
set_option maxHeartbeats 4000000 in
theorem whole_v (d : Dn) (w : World) (hm : DnL d) (hE : PrsAt w d.pa d.ps) : Calls Try.prog 35 #[.agg (dnCells d)] w fun e w' => e = .returned (.bool (wholeP d)) ∧ Below w.heap.size w w' := by
  have FIN := Lib.hid (fun (r : Bool) (hr : wholeP d = r) => show Ending.returned (.bool r) = .returned (.bool (wholeP d)) by rw [hr])
  have HE := Lib.hid hE
  have HM := Lib.hid hm
  have hm' : d.ps.length ≤ 9223372036854775807 := hm
  clear hE hm
  go_enter Try.func35, Try.ntmps35
  go_upto_region 1 with (fail)
  have hb := Blk.new w (dnCells d) 53
  have hB1 := (Below.refl w.heap.size w).alloc (Nat.le_refl _) (.cells (dnCells d) 53)
  have HNb := Lib.hid (show w.heap.size < (w.alloc (.cells (dnCells d) 53)).heap.size by simp)
  generalize w.alloc (.cells (dnCells d) 53) = w1 at hb hB1 HNb ⊢
  obtain ⟨nb, hnb⟩ : ∃ nb, w.heap.size = nb := ⟨_, rfl⟩
  rw [hnb] at hb HNb
  simp only [hnb]
  have HNE := Lib.hid hnb
  have HB1 := Lib.hid hB1
  have HBk := Lib.hid hb
  have HC := Lib.hid (fun L => show (StW w1 d L).cell? ⟨nb, 10, none⟩ = some (.slice d.pa d.ps.length d.pc) ∧ (∀ j v, (caCells d)[j]? = some v → (StW w1 d L).cell? ⟨nb, 1 + j, none⟩ = some v) from by
    have h := hb.kept (Keeps.of_below' (StW.below w1 d L)) (fun h => h)
    refine ⟨by rw [h.cell]; rfl, fun j v hj => ?_⟩
    rw [h.cell]
    have hj5 : j < 5 := by have := (Array.getElem?_eq_some_iff.1 hj).1; exact this
    rw [← hj]
    match j, hj5 with
    | 0, _ | 1, _ | 2, _ | 3, _ | 4, _ => rfl)
  clear hb hB1 hnb
  --GEN r_wh1
  refine wp_region_vals [Is (.pointer (some ⟨nb, 8, none⟩)), Is (.pointer (some ⟨nb, 10, none⟩)), Is (.slice d.pa d.ps.length d.pc), Is (.pointer (some ⟨nb, 1, none⟩)), Is (.agg (caCells d)), Is (.pointer (some ⟨w1.heap.size, 0, none⟩)), Is (.slice d.pa d.ps.length d.pc), Any]
    (fun _ _ _ => True) (fun L W => W = StW w1 d L) (by kernel_rfl) (by kernel_rfl) (by kernel_rfl) ?hst ?h0 ⟨?o0, ?o1, ?o2, ?o3, ?o4, ?o5, ?o6, ?o7, trivial⟩ ?he
  case hst =>
    exact ⟨(fun _ _ _ _ _ _ h _ => h), (fun _ _ _ _ _ _ h _ => h), (fun _ _ _ _ _ _ h _ => h), (fun _ _ _ _ _ _ h _ => h), (fun _ _ _ _ _ _ h _ => h), (fun _ _ _ _ _ _ h _ => h), (fun _ _ _ _ _ _ h _ => h), (fun _ _ _ _ _ _ h _ => h), trivial⟩
  case h0 =>
    exact rfl
  case o0 =>
    intro L vs A W H hf hd K hK
    have e1 : A.tmps[1]?.getD undef = .pointer (some ⟨nb, 0, none⟩) := H.old 1 (by kernel_rfl)
    go_simp
    exact hK _ _ (trivial) rfl (H.glob)
  case o1 =>
    intro L vs A W H hf hd K hK
    have e6 := H.is 0 6 rfl rfl rfl (deps_of' hd 0 (by kernel_rfl)) (by kernel_rfl)
    go_simp
    exact hK _ _ (trivial) rfl (H.glob)
  case o2 =>
    intro L vs A W H hf hd K hK
    have e7 := H.is 1 7 rfl rfl rfl (deps_of' hd 1 (by kernel_rfl)) (by kernel_rfl)
    have d1 : W.cell? ⟨nb, 10, none⟩ = some (.slice d.pa d.ps.length d.pc) := (by rw [H.glob]; exact (HC.out L).1)
    go_simp
    exact hK _ _ (trivial) rfl (H.glob)
  case o3 =>
    intro L vs A W H hf hd K hK
    have e1 : A.tmps[1]?.getD undef = .pointer (some ⟨nb, 0, none⟩) := H.old 1 (by kernel_rfl)
    go_simp
    exact hK _ _ (trivial) rfl (H.glob)
  case o4 =>
    intro L vs A W H hf hd K hK
    have e9 := H.is 3 9 rfl rfl rfl (deps_of' hd 3 (by kernel_rfl)) (by kernel_rfl)
    rw [if_pos (show Region.wanted _ _ = true from rfl)]
    refine wp_load_part 41 (.tmp 9) rfl nb 1 (ev_tmp e9) (caCells d) _ (by rw [H.glob]; exact (HC.out L).2) Try.underlying41 rfl (by kernel_rfl) ?_
    exact hK _ _ trivial rfl H.glob
  case o5 =>
    intro L vs A W H hf hd K hK
    have n7 := H.notYet 7 5 rfl hf (by kernel_rfl)
    have hW : W = w1.drew := (by have h9 := H.glob; unfold StW at h9; rw [n7, hf] at h9; exact h9)
    rw [if_pos (show Region.wanted _ _ = true from rfl)]
    refine wp_alloc_ca rfl ?_
    subst hW
    exact hK _ _ trivial rfl (by show _ = StW w1 d (lset L 5); unfold StW; rw [show lset L 5 7 = L 7 from rfl, n7]; rfl)
  case o6 =>
    intro L vs A W H hf hd K hK
    have e8 := H.is 2 8 rfl rfl rfl (deps_of' hd 2 (by kernel_rfl)) (by kernel_rfl)
    go_simp
    exact hK _ _ (trivial) rfl (H.glob)
  case o7 =>
    intro L vs A W H hf hd K hK
    have e4 := H.is 5 4 rfl rfl rfl (deps_of' hd 5 (by kernel_rfl)) (by kernel_rfl)
    have e10 := H.is 4 10 rfl rfl rfl (deps_of' hd 4 (by kernel_rfl)) (by kernel_rfl)
    have h5 : L 5 = true := deps_of' hd 5 (by kernel_rfl)
    have hW : W = w1.drew.alloc (.cells (caCells dnZ) 41) := (by have h9 := H.glob; unfold StW at h9; rw [hf, h5] at h9; exact h9)
    rw [if_pos (show Region.wanted _ _ = true from rfl)]
    subst hW
    refine wp_store_row 41 _ _ rfl w1.heap.size (caCells d) (ev_tmp e4) (ev_tmp e10) 41 _ (Blk.new w1.drew _ _) (by kernel_rfl) rfl (caCells_one d) ?_
    rw [show w1.heap.size = w1.drew.heap.size from rfl, alloc_setRow]
    exact hK _ _ trivial trivial rfl
  case he =>
    intro vs W hlen hv
    match vs, hlen, hv with
    | [x0_, x1_, x2_, x3_, x4_, x5_, x6_, x7_], _, hv =>
    obtain rfl : (.pointer (some ⟨nb, 8, none⟩)) = x0_ := by obtain ⟨z, h1, h2⟩ := hv 0 _ rfl; cases h1; exact h2.symm
    obtain rfl : (.pointer (some ⟨nb, 10, none⟩)) = x1_ := by obtain ⟨z, h1, h2⟩ := hv 1 _ rfl; cases h1; exact h2.symm
    obtain rfl : (.slice d.pa d.ps.length d.pc) = x2_ := by obtain ⟨z, h1, h2⟩ := hv 2 _ rfl; cases h1; exact h2.symm
    obtain rfl : (.pointer (some ⟨nb, 1, none⟩)) = x3_ := by obtain ⟨z, h1, h2⟩ := hv 3 _ rfl; cases h1; exact h2.symm
    obtain rfl : (.agg (caCells d)) = x4_ := by obtain ⟨z, h1, h2⟩ := hv 4 _ rfl; cases h1; exact h2.symm
    obtain rfl : (.pointer (some ⟨w1.heap.size, 0, none⟩)) = x5_ := by obtain ⟨z, h1, h2⟩ := hv 5 _ rfl; cases h1; exact h2.symm
    obtain rfl : (.slice d.pa d.ps.length d.pc) = x6_ := by obtain ⟨z, h1, h2⟩ := hv 6 _ rfl; cases h1; exact h2.symm
    intro L hall hG
    clear hv hlen
    have h7 := hall 7 (by decide)
    have HW := hG
    unfold StW at HW
    rw [h7] at HW
    clear hG hall h7
    simp only [fill, if_true]
    simp [Act.put]
  --END
    obtain ⟨nc, hnc⟩ : ∃ nc, w1.heap.size = nc := ⟨_, rfl⟩
    have hk1 : Blk w1.drew nb (dnCells d) 53 := HBk.out.drew
    have hk2 : Blk W nb (dnCells d) 53 := by rw [HW]; exact hk1.alloc _
    have hk3 : Blk W nc (caCells d) 41 := by rw [HW, ← hnc]; exact Blk.new w1.drew _ _
    have hB2 : Below w.heap.size w W := by rw [HW]; exact HB1.out.drew.alloc (by simpa using HB1.out.size) _
    simp only [hnc]
    have HB2 := Lib.hid hB2
    have HKa := Lib.hid hk2
    have HKc := Lib.hid hk3
    have c0 : W.cell? ⟨nc, 0, none⟩ = some (.int .i64 d.op) := by rw [hk3.cell]; rfl
    have HOk := Lib.hid (fun W => ok_v d W)
    have HRi := Lib.hid (fun W (hW : Below w.heap.size w W) => rise_v d.ps d.pa d.pc W hm' (HE.out.below hW))
    have HCt := Lib.hid (fun W (hW : Below w.heap.size w W) (hb : Blk W nc (caCells d) 41) => idxWC nc d.ps d.pa d.pc W hm' (HE.out.below hW) (outP d) (fun x W2 _ hW2 => out_v x d nc W2 (hb.kept (Keeps.of_below' hW2) (fun h => h))))
    clear hk1 hk2 hk3 hB2 HW hnc HC HBk HB1
    by_cases h4 : d.op = 4
    · have e4 : (d.op == 4) = true := beq_iff_eq.2 h4
      have H4 := Lib.hid h4
      clear h4
      go_upto_region 3 with (fail)
      go_step
      refine wpList_plain rfl (fun K hK => ?_)
      go_simp
      refine hK _ _ ?_
      clear hK K
      refine wpList_plain rfl (fun K hK => ?_)
      go_simp
      refine hK _ _ ?_
      clear hK K
      refine wpList_plain rfl (fun K hK => ?_)
      go_simp
      refine hK _ _ ?_
      clear hK K
      refine wpList_plain rfl (fun K hK => ?_)
      go_simp
      refine hK _ _ ?_
      clear hK K
      refine wpList_load_dn rfl (.tmp 1) rfl nb 0 d (ev_tmp (by simp)) HKa.out.cellsAt ?_
      go_wp2_with (fail)
      refine (HOk.out W).mono ?_
      rintro e W2 ⟨rfl, hB3⟩
      have HKc3 := Lib.hid (HKc.out.kept (Keeps.of_below' hB3) (fun h => h))
      have HB3 := Lib.hid (HB2.out.trans (hB3.mono HB2.out.size))
      clear hB3 c0
      cases ho : okP d with
      | false =>
        have HF := Lib.hid (FIN.out false (by unfold wholeP; simp [ho]))
        clear ho
        go_wp2_with (fail)
        go_ret
        exact ⟨HF.out, HB3.out⟩
      | true =>
        have HO := Lib.hid ho
        clear ho
        go_wp2_with (fail)
        refine (HRi.out W2 HB3.out).mono ?_
        rintro e W3 ⟨rfl, hB4⟩
        have HKc4 := Lib.hid (HKc3.out.kept (Keeps.of_below' hB4) (fun h => h))
        have HB4 := Lib.hid (HB3.out.trans (hB4.mono HB3.out.size))
        clear hB4
        cases hr : riseP d.ps with
        | false =>
          have HF := Lib.hid (FIN.out false (by unfold wholeP; simp [hr]))
          clear hr
          go_wp2_with (fail)
          go_ret
          exact ⟨HF.out, HB4.out⟩
        | true =>
          have HR := Lib.hid hr
          have c3 : W3.cell? ⟨nc, 3, none⟩ = some (.int .i64 d.lim) := by rw [HKc4.out.cell]; rfl
          clear hr
          by_cases hl : (d.ps.length : Int) ≤ d.lim
          · go_wp2_with (fail)
            refine (HCt.out W3 HB4.out HKc4.out).mono ?_
            rintro e W4 ⟨rfl, hB5⟩
            have HB5 := Lib.hid (HB4.out.trans (hB5.mono HB4.out.size))
            have HF := Lib.hid (FIN.out (!(d.ps.any (outP d))) (by unfold wholeP; rw [outP_any]; simp [H4.out, HO.out, HR.out, hl]))
            clear hB5 c3 hl
            cases hc : d.ps.any (outP d)
            · rw [hc] at HF
              go_wp2_with (fail)
              go_ret
              exact ⟨HF.out, HB5.out⟩
            · rw [hc] at HF
              go_wp2_with (fail)
              go_ret
              exact ⟨HF.out, HB5.out⟩
          · have HF := Lib.hid (FIN.out false (by unfold wholeP; simp [hl]))
            go_wp2_with (fail)
            go_ret
            exact ⟨HF.out, HB4.out⟩
    · have HF := Lib.hid (FIN.out false (by unfold wholeP; simp [h4]))
      have e4 : (d.op == 4) = false := beq_eq_false_iff_ne.2 h4
      clear h4
      go_wp2_with (fail)
      go_ret
      exact ⟨HF.out, HB2.out⟩
set_option maxRecDepth 100000 in
set_option maxHeartbeats 4000000 in
theorem tells_v (d : Dn) (key : Int) (w : World) (hm : DnL d) (hE : PrsAt w d.pa d.ps) : Calls Try.prog 39 #[.agg (dnCells d), .int .u64 key] w fun e w' => e = .returned (.bool (tellsP d key)) ∧ Below w.heap.size w w' := by
  have FIN := Lib.hid (fun (r : Bool) (hr : tellsP d key = r) => show Ending.returned (.bool r) = .returned (.bool (tellsP d key)) by rw [hr])
  have HE := Lib.hid hE
  have hm' : d.ps.length ≤ 9223372036854775807 := hm
  have HWh := Lib.hid (fun W (hW : Below w.heap.size w W) => whole_v d W hm (hE.below hW))
  clear hE hm
  go_enter Try.func39, Try.ntmps39
  go_upto_region 1 with (fail)
  have hb := Blk.new w (dnCells d) 53
  have hB1 := (Below.refl w.heap.size w).alloc (Nat.le_refl _) (.cells (dnCells d) 53)
  generalize w.alloc (.cells (dnCells d) 53) = w1 at hb hB1 ⊢
  obtain ⟨nb, hnb⟩ : ∃ nb, w.heap.size = nb := ⟨_, rfl⟩
  rw [hnb] at hb
  simp only [hnb]
  have HNE := Lib.hid hnb
  have HB1 := Lib.hid hB1
  have HBk := Lib.hid hb
  clear hb hB1 hnb
  go_step
  refine wpList_load_dn rfl (.tmp 2) rfl nb 0 d (ev_tmp (by simp)) HBk.out.cellsAt ?_
  go_wp2_with (fail)
  refine (HWh.out w1 HB1.out).mono ?_
  rintro e W2 ⟨rfl, hB2⟩
  have hb2 := HBk.out.kept (Keeps.of_below' hB2) (fun h => h)
  have HB2 := Lib.hid (HB1.out.trans (hB2.mono HB1.out.size))
  have c2 : W2.cell? ⟨nb, 2, none⟩ = some (.int .u64 d.key) := by rw [hb2.cell]; rfl
  have c3 : W2.cell? ⟨nb, 3, none⟩ = some (.int .u64 d.hi) := by rw [hb2.cell]; rfl
  have c4 : W2.cell? ⟨nb, 4, none⟩ = some (.int .i64 d.lim) := by rw [hb2.cell]; rfl
  have c10 : W2.cell? ⟨nb, 10, none⟩ = some (.slice d.pa d.ps.length d.pc) := by rw [hb2.cell]; rfl
  clear hB2 hb2
  cases hw : wholeP d with
  | false =>
    have HF := Lib.hid (FIN.out false (by unfold tellsP; simp [hw]))
    clear hw
    go_wp2_with (fail)
    go_ret
    exact ⟨HF.out, HB2.out⟩
  | true =>
    have HWt := Lib.hid hw
    clear hw
    by_cases h1 : key < d.key
    · have HF := Lib.hid (FIN.out false (by unfold tellsP; simp [show ¬ d.key ≤ key by omega]))
      go_wp2_with (fail)
      go_ret
      exact ⟨HF.out, HB2.out⟩
    by_cases h2 : d.hi < key
    · have HF := Lib.hid (FIN.out false (by unfold tellsP; simp [show ¬ key ≤ d.hi by omega]))
      go_wp2_with (fail)
      go_ret
      exact ⟨HF.out, HB2.out⟩
    have h1b : decide (key < d.key) = false := decide_eq_false h1
    have h2b : decide (d.hi < key) = false := decide_eq_false h2
    by_cases h3 : (d.ps.length : Int) < d.lim
    · have HF := Lib.hid (FIN.out true (by unfold tellsP; simp [HWt.out, h3, show d.key ≤ key by omega, show key ≤ d.hi by omega]))
      go_wp2_with (fail)
      go_ret
      exact ⟨HF.out, HB2.out⟩
    by_cases h4 : 0 < d.ps.length
    · obtain ⟨g, o, hpa, hg, hc⟩ := (HE.out.below HB2.out) h4
      have hc := hc (d.ps.length - 1) (by omega) 0 (by decide)
      obtain ⟨p, hp⟩ : ∃ p, d.ps.getD (d.ps.length - 1) prZ = p := ⟨_, rfl⟩
      simp only [hp] at hc
      obtain ⟨q, hq⟩ : ∃ q, d.ps.length = q + 1 := ⟨d.ps.length - 1, by omega⟩
      rw [hq, Nat.add_sub_cancel] at hc
      have HF := Lib.hid (FIN.out (decide (key ≤ p.key)) (by unfold tellsP; rw [hp]; simp [HWt.out, h3, show d.key ≤ key by omega, show key ≤ d.hi by omega]; intro h; omega))
      have c : W2.cell? ⟨g, o + q * 2, none⟩ = some (.int .u64 p.key) := hc
      rw [hpa, hq] at c10
      rw [hq] at h3
      have hq0 : ((q + 1 : Nat) : Int) = (q : Int) + 1 := by omega
      have HQ := Lib.hid hq
      have hqw : IntKind.i64.wrap (q : Int) = (q : Int) := IntWalk.i64_in _ (by omega)
      have hqm : (q : Int) ≤ 9223372036854775806 := by omega
      clear hc hq hm' h4 hpa
      obtain ⟨n1, hn1⟩ : ∃ n1 : Nat, q + 1 = n1 := ⟨_, rfl⟩
      rw [hn1] at c10 h3 hq0
      have hq1 : (n1 : Int) - 1 = (q : Int) := by omega
      have hn1p : (0 : Int) < (n1 : Int) := by omega
      have hn1l : (q : Int) < (n1 : Int) := by omega
      clear hn1
      have h3b : decide ((n1 : Int) < d.lim) = false := decide_eq_false h3
      have h4b : decide ((0 : Int) < (n1 : Int)) = true := decide_eq_true hn1p
      go_upto_region 4 with (fail)
      clear hq0
      by_cases h5 : key ≤ p.key
      · rw [decide_eq_true h5] at HF
        go_wp2_with (fail)
        go_ret
        exact ⟨HF.out, HB2.out⟩
      · rw [decide_eq_false h5] at HF
        have h5b : decide (key ≤ p.key) = false := decide_eq_false h5
        clear h5
        go_wp2_with (fail)
        go_ret
        exact ⟨HF.out, HB2.out⟩
    · have HF := Lib.hid (FIN.out false (by unfold tellsP; simp [h3, h4]))
      obtain ⟨q, hq⟩ : ∃ q, d.ps.length = q := ⟨_, rfl⟩
      rw [hq] at h3 c10 h4
      obtain rfl : q = 0 := by omega
      have HQ := Lib.hid hq
      clear hq hm' h4
      have h3b : decide ((0 : Int) < d.lim) = false := decide_eq_false (by omega)
      clear h3
      go_wp2_with (fail)
      go_ret
      exact ⟨HF.out, HB2.out⟩
end Go.Proofs.Ytdmcakoaakinnaa
