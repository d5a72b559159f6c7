/-
  snap.Snap.High: a contract.
-/
import Derived.Test.YtodgfbjjjgohgaaGreatSnfQ
namespace Go.Proofs.YtodgfbjjjgohgaaGreat
open Go.RowKit
attribute [local go_sem] Oper.semAt_some
set_option linter.unusedVariables false

def sn0 (mv : Option Addr) (at_ : Int) : Sn := { mv := mv, at_ := at_, k := 0, last := false, a := fun _ => 0, b := fun _ => 0, high := 0, has := false, step := .nilFunc, over := false, e := 0, found := nd0 }
/-- a snapshot of which nothing is done -/
def snNew (sb : Nat) (mv : Option Addr) (at_ : Int) : Sn := snAnew sb (sn0 mv at_)
set_option maxRecDepth 100000 in
theorem new_v (mv : Option Addr) (a : Int) (w : World) : Calls Tryz.prog 71 #[.pointer mv, .int .u64 a] w fun e w' => e = .returned (.pointer (some ⟨w.heap.size, 0, none⟩)) ∧ Blk w' w.heap.size (snCells (snNew w.heap.size mv a)) 164 ∧ Below w.heap.size w w' := by
  have HB := Lib.hid (Blk.new w (snCells (sn0 mv a)) 164)
  have HW := Lib.hid ((Below.refl w.heap.size w).alloc (Nat.le_refl _) (.cells (snCells (sn0 mv a)) 164))
  go_enter Tryz.func71, Tryz.ntmps71
  have HZ := Lib.hid (show (Tryz.zeroCells164.setIfInBounds 0 (.pointer mv)).setIfInBounds 1 (.int .u64 a) = snCells (sn0 mv a) by kernel_rfl)
  go_wp2_with (fail)
  rw [HZ.out]
  have HAn := Lib.hid (anew_v (sn0 mv a) w.heap.size _ HB.out)
  generalize w.alloc (.cells (snCells (sn0 mv a)) 164) = w1 at *
  generalize (Value.agg (snCells (sn0 mv a))) = zz
  refine HAn.out.mono ?_
  rintro e w' ⟨rfl, hb, hk⟩
  have HB' := Lib.hid hb
  have HW' := Lib.hid (HW.out.trans (show Below w.heap.size w1 w' from ⟨hk.os, hk.tape, hk.output, hk.size, fun k hlt => hk.block k (Nat.lt_of_lt_of_le hlt HW.out.size) (by omega)⟩))
  clear hb hk
  go_wp2_with (fail)
  go_ret
  exact ⟨rfl, HB'.out, HW'.out⟩

def nodeP (s : Sn) : Nd × Int := if s.over = false then (nd0, 7) else if s.e ≠ 0 then (nd0, s.e) else (s.found, 0)
theorem sn_rowN {w : World} {sb : Nat} {s : Sn} {t : TypeId} (h : Blk w sb (snCells s) t) : ∀ j v, (ndCells s.found)[j]? = some v → w.cell? ⟨sb, 57 + j, none⟩ = some v := fun j v hv => by
  have e : snCells s = ((snHd s ++ wdList s.a ++ wdList s.b ++ snMd s) ++ (ndCells s.found).toList).toArray := by simp [snCells, snList]
  rw [h.cell, e]
  have hl : (snHd s ++ wdList s.a ++ wdList s.b ++ snMd s).length = 57 := by simp [snHd, snMd, wdList_len]
  rw [List.getElem?_toArray, List.getElem?_append_right (by omega), hl, Nat.add_sub_cancel_left]
  simpa using hv
set_option maxRecDepth 100000 in
set_option maxHeartbeats 4000000 in
theorem node_v (s : Sn) (sb f : Nat) (w : World) (hb : Blk w sb (snCells s) 164) (hst : s.step = phV sb f) :
    Calls Tryz.prog 83 #[.pointer (some ⟨sb, 0, none⟩)] w fun e w' => e = .returned (.tuple #[.agg (ndCells (nodeP s).1), .int .i64 (nodeP s).2]) ∧ Below w.heap.size w w' := by
  have hq1 := nil_eq
  have hq2 := fn_eq f
  obtain ⟨nb, hnb⟩ : ∃ nb, w.heap.size = nb := ⟨_, rfl⟩
  have hlt := hb.lt
  have hne : sb ≠ nb := by omega
  have HB0 := Lib.hid (hb.alloc (.cells (ndCells nd0) 46))
  have HN0 := Lib.hid (show Blk (w.alloc (.cells (ndCells nd0) 46)) nb (ndCells nd0) 46 by rw [← hnb]; exact Blk.new w _ _)
  have HK0 := Lib.hid (show Below nb w (w.alloc (.cells (ndCells nd0) 46)) from (Below.refl nb w).alloc (by omega) _)
  have HNb := Lib.hid hnb
  obtain ⟨w0, hw0⟩ : ∃ w0, w.alloc (.cells (ndCells nd0) 46) = w0 := ⟨_, rfl⟩
  have HW0 := Lib.hid hw0
  rw [hw0] at HB0 HN0 HK0
  have c2 : w0.cell? ⟨sb, 54, none⟩ = some (.func (.func f) #[.pointer (some ⟨sb, 0, none⟩)] #[]) := (HB0.out.cell 54).trans ((sn_54 s).trans (by rw [hst]; rfl))
  have c5 : w0.cell? ⟨sb, 55, none⟩ = some (.bool s.over) := (HB0.out.cell 55).trans (sn_55 s)
  have c6 : w0.cell? ⟨sb, 56, none⟩ = some (.int .i64 s.e) := (HB0.out.cell 56).trans (sn_56 s)
  rw [hnb]
  obtain ⟨r, hr⟩ : ∃ r, nodeP s = r := ⟨_, rfl⟩
  rw [hr]
  unfold nodeP at hr
  obtain ⟨ov, hov⟩ : ∃ ov, s.over = ov := ⟨_, rfl⟩
  obtain ⟨b5, hb5⟩ : ∃ b5, s.e = b5 := ⟨_, rfl⟩
  rw [hov, hb5] at hr
  rw [hov] at c5
  rw [hb5] at c6
  clear hb hst hnb hw0 hov hb5
  have Hne := Lib.hid (And.intro hne hlt)
  clear hne hlt
  have HR := Lib.hid hr
  clear hr
  go_enter Tryz.func83, Tryz.ntmps83
  go_upto_region 1 with ((with_reducible refine wpList_alloc_ndAt (o := ⟨some 2, _, _, _, _, _⟩) rfl rfl nb ?hz ?_; (case hz => exact HNb.out)); rw [HW0.out])
  cases ov with
  | false =>
    rw [if_pos rfl] at HR
    obtain rfl := HR.out
    clear HR
    go_wp2_with ((with_reducible refine wpList_store_ndc (o := ⟨none, .store 46 (.tmp 2) (.tmp 21), _, _, _, _⟩) ?hgc (.tmp 2) (.tmp 21) ?hoc nb ?csc nd0 nd0 ?hxc ?hyc ?hbc ?hmc ?_); (case hgc => rfl); (case hoc => rfl); (case hxc => rfl); (case hyc => rfl); (case hmc => rfl); (case hbc => exact HN0.out))
    (try simp only [Exit.inBlock, Exit.then])
    refine bodyPost_ret (results_nd (fn := Tryz.f83) rfl _ nb nd0 rfl (HN0.out.row _)) rfl ?_
    exact ⟨rfl, below_setRow HK0.out (Nat.le_refl _) _⟩
  | true =>
    rw [if_neg (by decide)] at HR
    by_cases he : b5 = 0
    · rw [if_neg (fun h => h he)] at HR
      obtain rfl := HR.out
      subst he
      clear HR
      go_wp2_with (first
        | ((with_reducible refine wpList_load_part (o := ⟨some 36, .load 46 (.tmp 35), _, _, _, _⟩) ?hg 46 (.tmp 35) ?ho sb 57 ?hx (ndCells s.found) ?dd ?hc ?hu ?hd ?hi ?_); (case hg => rfl); (case ho => rfl); (case hx => rfl); (case hc => exact sn_rowN HB0.out); (case hu => exact Tryz.underlying46); (case hd => rfl); (case hi => exact info27 s.found))
        | ((with_reducible refine wpList_store_ndc (o := ⟨none, .store 46 (.tmp 2) (.tmp 36), _, _, _, _⟩) ?hgc (.tmp 2) (.tmp 36) ?hoc nb (ndCells s.found) s.found nd0 ?hxc ?hyc ?hbc ?hmc ?_); (case hgc => rfl); (case hoc => rfl); (case hxc => exact ev_tmp (by simp [Act.put])); (case hyc => exact ev_tmp (by simp [Act.put])); (case hmc => rfl); (case hbc => exact HN0.out)))
      (try simp only [Exit.inBlock, Exit.then])
      refine bodyPost_ret (results_nd (fn := Tryz.f83) rfl _ nb s.found rfl (HN0.out.row _)) rfl ?_
      exact ⟨rfl, below_setRow HK0.out (Nat.le_refl _) _⟩
    · rw [if_pos he] at HR
      obtain rfl := HR.out
      have hbn : (b5 != 0) = true := bne_iff_ne.2 he
      clear HR he
      go_wp2_with (fail)
      obtain ⟨W6, hW6⟩ : ∃ W6, W6 = w0 := ⟨_, rfl⟩
      have HN6 := Lib.hid (show Blk W6 nb (ndCells nd0) 46 by rw [hW6]; exact HN0.out)
      have HC6 := Lib.hid (show sb < W6.heap.size ∧ ¬ sb = nb ∧ W6.cell? ⟨sb, 56, none⟩ = some (.int .i64 b5) by rw [hW6]; exact ⟨HB0.out.lt, Hne.out.1, c6⟩)
      have HK6 := Lib.hid (show Below nb w W6 by rw [hW6]; exact HK0.out)
      rw [← hW6]
      clear hW6 c6 c5 c2 hbn
      --GEN r_nd6
      refine wp_region_vals [Is (.agg (ndCells nd0)), Is (.pointer (some ⟨sb, 0, none⟩)), Is (.pointer (some ⟨sb, 0, none⟩)), Is (.pointer (some ⟨sb, 56, none⟩)), Is (.int .i64 b5), Any, Is (.int .i64 b5)]
        (fun _ _ _ => True) (fun _ W => Keeps (fun i => i = nb) W6 W ∧ Blk W nb (ndCells nd0) 46) (by kernel_rfl) (by kernel_rfl) (by kernel_rfl) ?hst ?h0 ⟨?o0, ?o1, ?o2, ?o3, ?o4, ?o5, ?o6, trivial⟩ ?he
      case hst =>
        exact ⟨(fun _ _ _ _ _ _ h _ => h), (fun _ _ _ _ _ _ h _ => h), (fun _ _ _ _ _ _ h _ => h), (fun _ _ _ _ _ _ h _ => h), (fun _ _ _ _ _ _ h _ => h), (fun _ _ _ _ _ _ h _ => h), (fun _ _ _ _ _ _ h _ => h), trivial⟩
      case h0 =>
        exact ⟨(Keeps.refl _ _).drew, HN6.out.drew⟩
      case o0 =>
        intro L vs A W H hf hd K hK
        go_simp
        exact hK _ _ (trivial) rfl (H.glob)
      case o1 =>
        intro L vs A W H hf hd K hK
        have e0 : A.tmps[0]?.getD undef = .pointer (some ⟨sb, 0, none⟩) := H.old 0 (by kernel_rfl)
        go_simp
        exact hK _ _ (trivial) rfl (H.glob)
      case o2 =>
        intro L vs A W H hf hd K hK
        have e29 := H.is 1 29 rfl rfl rfl (deps_of' hd 1 (by kernel_rfl)) (by kernel_rfl)
        go_simp
        exact hK _ _ (trivial) rfl (H.glob)
      case o3 =>
        intro L vs A W H hf hd K hK
        have e30 := H.is 2 30 rfl rfl rfl (deps_of' hd 2 (by kernel_rfl)) (by kernel_rfl)
        go_simp
        exact hK _ _ (trivial) rfl (H.glob)
      case o4 =>
        intro L vs A W H hf hd K hK
        have e31 := H.is 3 31 rfl rfl rfl (deps_of' hd 3 (by kernel_rfl)) (by kernel_rfl)
        have d : W.cell? ⟨sb, 56, none⟩ = some (.int .i64 b5) := (H.glob.1.cell (p := ⟨sb, 56, none⟩) HC6.out.1 HC6.out.2.1).trans HC6.out.2.2
        go_simp
        exact hK _ _ (trivial) rfl (H.glob)
      case o5 =>
        intro L vs A W H hf hd K hK
        have e2 : A.tmps[2]?.getD undef = .pointer (some ⟨nb, 0, none⟩) := H.old 2 (by kernel_rfl)
        have e28 := H.is 0 28 rfl rfl rfl (deps_of' hd 0 (by kernel_rfl)) (by kernel_rfl)
        exact wp_store_nd (.tmp 2) (.tmp 28) rfl nb nd0 nd0 (ev_tmp e2) (ev_tmp e28) H.glob.2 (hK undef _ trivial trivial ⟨keeps_setRow H.glob.1 (.inl rfl) _, H.glob.2.row _⟩)
      case o6 =>
        intro L vs A W H hf hd K hK
        have e32 := H.is 4 32 rfl rfl rfl (deps_of' hd 4 (by kernel_rfl)) (by kernel_rfl)
        go_simp
        exact hK _ _ (trivial) rfl (H.glob)
      case he =>
        intro vs W hlen hv
        match vs, hlen, hv with
        | [x0_, x1_, x2_, x3_, x4_, x5_, x6_], _, hv =>
        obtain rfl : (.agg (ndCells nd0)) = x0_ := by obtain ⟨z, h1, h2⟩ := hv 0 _ rfl; cases h1; exact h2.symm
        obtain rfl : (.pointer (some ⟨sb, 0, none⟩)) = x1_ := by obtain ⟨z, h1, h2⟩ := hv 1 _ rfl; cases h1; exact h2.symm
        obtain rfl : (.pointer (some ⟨sb, 0, none⟩)) = x2_ := by obtain ⟨z, h1, h2⟩ := hv 2 _ rfl; cases h1; exact h2.symm
        obtain rfl : (.pointer (some ⟨sb, 56, none⟩)) = x3_ := by obtain ⟨z, h1, h2⟩ := hv 3 _ rfl; cases h1; exact h2.symm
        obtain rfl : (.int .i64 b5) = x4_ := by obtain ⟨z, h1, h2⟩ := hv 4 _ rfl; cases h1; exact h2.symm
        obtain rfl : (.int .i64 b5) = x6_ := by obtain ⟨z, h1, h2⟩ := hv 6 _ rfl; cases h1; exact h2.symm
        intro L hall hG
        clear hv hlen
        have HG := Lib.hid hG
        clear hG hall
        simp only [fill, if_true]
      --END
        simp [Act.put]
        go_wp2_with (fail)
        (try simp only [Exit.inBlock, Exit.then])
        refine bodyPost_ret (results_nd (fn := Tryz.f83) rfl _ nb nd0 rfl HG.out.2) rfl ?_
        exact ⟨rfl, HK6.out.trans (show Below nb W6 W from ⟨HG.out.1.os, HG.out.1.tape, HG.out.1.output, HG.out.1.size, fun k hk => HG.out.1.block k (Nat.lt_of_lt_of_le hk (by have := HN6.out.lt; omega)) (by omega)⟩)⟩
end Go.Proofs.YtodgfbjjjgohgaaGreat
namespace Go.Proofs.YtodgfbjjjgohgaaGreat
open Go.RowKit
attribute [local go_sem] Oper.semAt_some
set_option linter.unusedVariables false

def highP (s : Sn) : Int × Bool := if (nodeP s).2 = 0 then (if s.has = true then (s.high, true) else (0, false)) else (0, false)
set_option maxRecDepth 100000 in
set_option maxHeartbeats 4000000 in
theorem high_v (s : Sn) (sb f : Nat) (w : World) (hb : Blk w sb (snCells s) 164) (hst : s.step = phV sb f) :
    Calls Tryz.prog 84 #[.pointer (some ⟨sb, 0, none⟩)] w fun e w' => e = .returned (.tuple #[.int .u64 (highP s).1, .bool (highP s).2]) ∧ Below w.heap.size w w' := by
  have HNo := Lib.hid (node_v s sb f w hb hst)
  have HB := Lib.hid hb
  obtain ⟨r, hr⟩ : ∃ r, highP s = r := ⟨_, rfl⟩
  rw [hr]
  unfold highP at hr
  obtain ⟨nn, hnn⟩ : ∃ nn, nodeP s = nn := ⟨_, rfl⟩
  rw [hnn] at hr HNo
  obtain ⟨n1, n2⟩ := nn
  have HR := Lib.hid hr
  clear hb hst hnn hr
  go_enter Tryz.func84, Tryz.ntmps84
  go_wp2_with (fail)
  refine HNo.out.mono ?_
  rintro e w1 ⟨rfl, hB⟩
  have hb1 := HB.out.kept (Keeps.of_below' hB) (fun h => h)
  have hlt := hb1.lt
  have HNw := Lib.hid (Blk.new w1 (ndCells nd0) 46)
  have hne : sb ≠ w1.heap.size := by omega
  have hb2 : Blk ((w1.alloc (.cells (ndCells nd0) 46)).setRow w1.heap.size (ndCells n1)) sb (snCells s) 164 := (hb1.alloc _).rowOther _ hne
  have HK2 := Lib.hid (below_setRow (hB.alloc hB.size (.cells (ndCells nd0) 46)) hB.size (ndCells n1))
  obtain ⟨W2, hW2⟩ : ∃ W2, (w1.alloc (.cells (ndCells nd0) 46)).setRow w1.heap.size (ndCells n1) = W2 := ⟨_, rfl⟩
  have HW2 := Lib.hid hW2
  rw [hW2] at hb2 HK2
  have d53 := (hb2.cell 53).trans (sn_53 s)
  have d52 := (hb2.cell 52).trans (sn_52 s)
  obtain ⟨hs, hhs⟩ : ∃ hs, s.has = hs := ⟨_, rfl⟩
  rw [hhs] at HR d53
  clear hb1 hlt hne hb2 hW2 hhs hB
  go_upto_region 2 with (first
    | (with_reducible refine wpList_alloc_nd (o := ⟨some 4, _, _, _, _, _⟩) rfl rfl ?_)
    | ((with_reducible refine wpList_store_ndc (o := ⟨none, .store 46 (.tmp 4) (.tmp 9), _, _, _, _⟩) ?hgc (.tmp 4) (.tmp 9) ?hoc w1.heap.size (ndCells n1) n1 nd0 ?hxc ?hyc ?hbc ?hmc ?_); (case hgc => rfl); (case hoc => rfl); (case hxc => exact ev_tmp (by simp [Act.put])); (case hyc => exact ev_tmp (by simp [Act.put])); (case hmc => rfl); (case hbc => exact HNw.out); rw [HW2.out]; simp [Act.put]))
  by_cases h0 : n2 = 0
  · subst h0
    rw [if_pos rfl] at HR
    cases hs with
    | true =>
      rw [if_pos rfl] at HR
      obtain rfl := HR.out
      clear HR
      go_wp2_with (fail)
      go_ret2
      exact ⟨rfl, HK2.out⟩
    | false =>
      rw [if_neg (by decide)] at HR
      obtain rfl := HR.out
      clear HR
      go_wp2_with (fail)
      go_ret2
      exact ⟨rfl, HK2.out⟩
  · have hbn : (n2 != 0) = true := bne_iff_ne.2 h0
    rw [if_neg h0] at HR
    obtain rfl := HR.out
    clear HR h0
    go_wp2_with (fail)
    go_ret2
    exact ⟨rfl, HK2.out⟩
end Go.Proofs.YtodgfbjjjgohgaaGreat
