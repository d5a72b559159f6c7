/-
  linear.after: contract.
-/
import Derived.Test.YtdmcakoaakinnaaQh
import Derived.Laws.BitsAllLaws
import Derived.Laws.ShiftsVarLaws
namespace Go.Proofs.Ytdmcakoaakinnaa
open Go.RowKit
attribute [local go_sem] Oper.semAt_some
set_option linter.unusedVariables false
set_option linter.unusedSimpArgs false

theorem str_eqD (A B : ByteArray) : (A.toList == B.toList) = decide (A = B) := by
  rw [Bool.eq_iff_iff, beq_iff_eq, ByteArray.toList_eq, ByteArray.toList_eq, decide_eq_true_iff]
  exact ⟨fun h => ByteArray.ext (Array.toList_inj.mp h), fun h => by rw [h]⟩
theorem Blk.newAt {w : World} {n : Nat} (h : w.heap.size = n) (C : Array Value) (t : TypeId) : Blk (w.alloc (.cells C t)) n C t := by subst h; exact Blk.new w C t
set_option maxRecDepth 100000 in
set_option maxHeartbeats 8000000 in
theorem after_v (s : St) (i : Nat) (d : Dn) (w : World) (hi : i < 64) (hdn : s.dn < 18446744073709551616) :
    Calls Try.prog 46 #[.agg (stCells s), .int .i64 i, .agg (dnCells d)] w fun e w' => e = .returned (.tuple #[.agg (stCells (afterS s i d)), .bool (rightS s d)]) ∧ Below w.heap.size w w' := by
  have HB0 := Lib.hid (Below.refl w.heap.size w)
  have HLt := Lib.hid (And.intro hi hdn)
  unfold stCells dnCells
  go_enter Try.func46, Try.ntmps46
  go_upto_region 2 with (fail)
  generalize hw1 : ((((w.alloc (.cells #[.int .u64 (s.dn : Int), .bool s.is, .string s.v] 71)).alloc (.cells #[.int .i64 d.cl, .int .i64 d.op, .int .u64 d.key, .int .u64 d.hi, .int .i64 d.lim, .string d.val, .int .i64 d.bg, .int .i64 d.en, .int .i64 d.code, .string d.rv, .slice d.pa d.ps.length d.pc] 53)).alloc (.cells #[.int .u64 0, .bool false, .string ⟨#[]⟩] 71)).alloc (.cells #[.int .u64 (s.dn : Int), .bool s.is, .string s.v] 71)) = w1
  have k3 : Blk w1 w.heap.size (stCells s) 71 := by rw [← hw1]; exact (((Blk.new w (stCells s) 71).alloc _).alloc _).alloc _
  have k5 : Blk w1 (w.heap.size + 1) (dnCells d) 53 := by rw [← hw1]; exact ((Blk.newAt (by simp) (dnCells d) 53).alloc _).alloc _
  have k6 : Blk w1 (w.heap.size + 1 + 1) (stCells stZ) 71 := by rw [← hw1]; exact (Blk.newAt (by simp) (stCells stZ) 71).alloc _
  have k8 : Blk w1 (w.heap.size + 1 + 1 + 1) (stCells s) 71 := by rw [← hw1]; exact Blk.newAt (by simp) (stCells s) 71
  have HB1 := Lib.hid (show Below w.heap.size w w1 from by rw [← hw1]; exact (((HB0.out.alloc (Nat.le_refl _) _).alloc (by simp) _).alloc (by simp; omega) _).alloc (by simp; omega) _)
  clear hw1
  obtain ⟨n3, hn3⟩ : ∃ n, w.heap.size = n := ⟨_, rfl⟩
  obtain ⟨n5, hn5⟩ : ∃ n, n3 + 1 = n := ⟨_, rfl⟩
  obtain ⟨n6, hn6⟩ : ∃ n, n5 + 1 = n := ⟨_, rfl⟩
  obtain ⟨n8, hn8⟩ : ∃ n, n6 + 1 = n := ⟨_, rfl⟩
  rw [hn3] at k3 k5 k6 k8
  rw [hn5] at k5 k6 k8
  rw [hn6] at k6 k8
  rw [hn8] at k8
  simp only [hn3, hn5, hn6, hn8]
  have HN := Lib.hid (And.intro hn3 (And.intro hn5 (And.intro hn6 hn8)))
  have HC8 := Lib.hid (show w1.drew.cell? ⟨n8, 0, none⟩ = some (.int .u64 (s.dn : Int)) from by rw [k8.drew.cell]; rfl)
  have HF8 := Lib.hid (k8.drew.frozen 0)
  have hp : (2 : Nat) ^ i < 2 ^ 64 := Nat.pow_lt_pow_right (by omega) (by omega)
  have hsh : (1 <<< i : Nat) = 2 ^ i := by rw [Nat.one_shiftLeft]
  have hwr : IntKind.u64.wrap ((2 : Int) ^ i) = ((1 <<< i : Nat) : Int) := by
    have : IntKind.u64.wrap ((2 : Int) ^ i) = (2 : Int) ^ i % 18446744073709551616 := by simp [IntKind.wrap, IntKind.bits, IntKind.signed]
    rw [this, hsh]
    have e : ((2 ^ i : Nat) : Int) = (2 : Int) ^ i := by simp
    rw [e]
    exact Int.emod_eq_of_lt (Int.le_of_lt (Int.pow_pos (by decide))) (by rw [← e]; omega)
  have HI := Lib.hid (show ¬ ((i : Int) < 0) ∧ ¬ ((i : Int) ≥ 64) ∧ ¬ ((64 : Int) ≤ (i : Int)) ∧ IntKind.u64.wrap ((2 : Int) ^ i) = ((1 <<< i : Nat) : Int) from ⟨by omega, by omega, by omega, hwr⟩)
  have HOr := Lib.hid (u64_or_nat s.dn (1 <<< i) hdn (by rw [hsh]; exact hp))
  have HKs := Lib.hid (And.intro k3 (And.intro k5 (And.intro k6 k8)))
  obtain ⟨bt, hbt⟩ : ∃ bt, 1 <<< i = bt := ⟨_, rfl⟩
  rw [hbt] at HI HOr
  obtain ⟨dv, hdv⟩ : ∃ dv, s.dn ||| bt = dv := ⟨_, rfl⟩
  rw [hdv] at HOr
  have HDv := Lib.hid (show s.dn ||| 1 <<< i = dv from by rw [hbt, hdv])
  clear k3 k5 k6 k8 hn3 hn5 hn6 hn8 hp hsh hwr hi hdn hbt hdv
  --GEN r_af2
  refine wp_region_vals [Is (.pointer (some ⟨n8, 0, none⟩)), Is (.int .u64 (s.dn : Int)), Is (.int .i64 (i : Int)), Is (.int .u64 (bt : Int)), Is (.int .u64 (dv : Int)), Is (.pointer (some ⟨n8, 0, none⟩)), Any]
    (fun _ _ _ => True) (fun L W => W = if L 6 = true then w1.drew.setCell ⟨n8, 0, none⟩ (.int .u64 (dv : Int)) else w1.drew) (by kernel_rfl) (by kernel_rfl) (by kernel_rfl) ?hst ?h0 ⟨?o0, ?o1, ?o2, ?o3, ?o4, ?o5, ?o6, trivial⟩ ?he
  case hst =>
    exact ⟨(fun _ _ _ _ _ _ h _ => h), (fun _ _ _ _ _ _ h _ => h), (fun _ _ _ _ _ _ h _ => h), (fun _ _ _ _ _ _ h _ => h), (fun _ _ _ _ _ _ h _ => h), (fun _ _ _ _ _ _ h _ => h), (fun _ _ _ _ _ _ h _ => h), trivial⟩
  case h0 =>
    exact rfl
  case o0 =>
    intro L vs A W H hf hd K hK
    have e8 : A.tmps[8]?.getD undef = .pointer (some ⟨n8, 0, none⟩) := H.old 8 (by kernel_rfl)
    go_simp
    exact hK _ _ (trivial) rfl (H.glob)
  case o1 =>
    intro L vs A W H hf hd K hK
    have e12 := H.is 0 12 rfl rfl rfl (deps_of' hd 0 (by kernel_rfl)) (by kernel_rfl)
    have n6 := H.notYet 6 1 rfl hf (by kernel_rfl)
    have hW := H.glob
    rw [n6, if_neg (by simp)] at hW
    subst hW
    have d1 : w1.drew.cell? ⟨n8, 0, none⟩ = some (.int .u64 (s.dn : Int)) := HC8.out
    go_simp
    exact hK _ _ trivial rfl (by show _ = if lset L 1 6 = true then _ else _; rw [show lset L 1 6 = L 6 from rfl, n6]; rfl)
  case o2 =>
    intro L vs A W H hf hd K hK
    have e1 : A.tmps[1]?.getD undef = .int .i64 (i : Int) := H.old 1 (by kernel_rfl)
    go_simp
    exact hK _ _ (trivial) rfl (H.glob)
  case o3 =>
    intro L vs A W H hf hd K hK
    have e14 := H.is 2 14 rfl rfl rfl (deps_of' hd 2 (by kernel_rfl)) (by kernel_rfl)
    have q1 := HI.out.1
    have q2 := HI.out.2.1
    have q3 := HI.out.2.2.1
    have q4 := HI.out.2.2.2
    go_simp
    exact hK _ _ (trivial) rfl (H.glob)
  case o4 =>
    intro L vs A W H hf hd K hK
    have e13 := H.is 1 13 rfl rfl rfl (deps_of' hd 1 (by kernel_rfl)) (by kernel_rfl)
    have e15 := H.is 3 15 rfl rfl rfl (deps_of' hd 3 (by kernel_rfl)) (by kernel_rfl)
    have q1 := HOr.out
    go_simp
    exact hK _ _ (trivial) rfl (H.glob)
  case o5 =>
    intro L vs A W H hf hd K hK
    have e8 : A.tmps[8]?.getD undef = .pointer (some ⟨n8, 0, none⟩) := H.old 8 (by kernel_rfl)
    go_simp
    exact hK _ _ (trivial) rfl (H.glob)
  case o6 =>
    intro L vs A W H hf hd K hK
    have e17 := H.is 5 17 rfl rfl rfl (deps_of' hd 5 (by kernel_rfl)) (by kernel_rfl)
    have e16 := H.is 4 16 rfl rfl rfl (deps_of' hd 4 (by kernel_rfl)) (by kernel_rfl)
    have hW := H.glob
    rw [hf, if_neg (by simp)] at hW
    subst hW
    have d1 : w1.drew.frozen? ⟨n8, 0, none⟩ = false := HF8.out
    have d2 : w1.drew.cell? ⟨n8, 0, none⟩ = some (.int .u64 (s.dn : Int)) := HC8.out
    go_simp
    exact hK undef _ trivial trivial (by show _ = if lset L 6 6 = true then _ else _; rw [show lset L 6 6 = true from rfl, if_pos rfl]; rfl)
  case he =>
    intro vs W hlen hv
    match vs, hlen, hv with
    | [x0_, x1_, x2_, x3_, x4_, x5_, x6_], _, hv =>
    obtain rfl : (.pointer (some ⟨n8, 0, none⟩)) = x0_ := by obtain ⟨z, h1, h2⟩ := hv 0 _ rfl; cases h1; exact h2.symm
    obtain rfl : (.int .u64 (s.dn : Int)) = x1_ := by obtain ⟨z, h1, h2⟩ := hv 1 _ rfl; cases h1; exact h2.symm
    obtain rfl : (.int .i64 (i : Int)) = x2_ := by obtain ⟨z, h1, h2⟩ := hv 2 _ rfl; cases h1; exact h2.symm
    obtain rfl : (.int .u64 (bt : Int)) = x3_ := by obtain ⟨z, h1, h2⟩ := hv 3 _ rfl; cases h1; exact h2.symm
    obtain rfl : (.int .u64 (dv : Int)) = x4_ := by obtain ⟨z, h1, h2⟩ := hv 4 _ rfl; cases h1; exact h2.symm
    obtain rfl : (.pointer (some ⟨n8, 0, none⟩)) = x5_ := by obtain ⟨z, h1, h2⟩ := hv 5 _ rfl; cases h1; exact h2.symm
    intro L hall hG
    clear hv hlen
    have h6 := hall 6 (by decide)
    have HW := hG
    rw [h6, if_pos rfl] at HW
    clear hG hall h6
    simp only [fill, if_true]
    simp [Act.put]
  --END
    have hk3 : Blk W n3 (stCells s) 71 := by rw [HW]; exact HKs.out.1.drew.other 0 _ (by have := HN.out; omega)
    have hk5 : Blk W n5 (dnCells d) 53 := by rw [HW]; exact HKs.out.2.1.drew.other 0 _ (by have := HN.out; omega)
    have hk6 : Blk W n6 (stCells stZ) 71 := by rw [HW]; exact HKs.out.2.2.1.drew.other 0 _ (by have := HN.out; omega)
    have hk8 : Blk W n8 #[.int .u64 (dv : Int), .bool s.is, .string s.v] 71 := by rw [HW]; exact HKs.out.2.2.2.drew.set 0 _
    have hBW : Below w.heap.size w W := by rw [HW]; exact below_keeps HB1.out.drew (Nat.le_refl _) ((Keeps.refl (fun k => k = n8) w1.drew).setCell (p := ⟨n8, 0, none⟩) (.inl rfl) _) (fun k hk => by have := HN.out; omega)
    clear HW HI HOr
    go_upto_region 4 with (fail)
    have hk9 := Blk.new W (rsCells ⟨5, ⟨#[]⟩⟩) 51
    have hW9 : n8 < W.heap.size := hk8.lt
    have hB4 := hBW.alloc hBW.size (.cells (rsCells ⟨5, ⟨#[]⟩⟩) 51)
    replace hk3 := hk3.alloc (.cells (rsCells ⟨5, ⟨#[]⟩⟩) 51)
    replace hk5 := hk5.alloc (.cells (rsCells ⟨5, ⟨#[]⟩⟩) 51)
    replace hk6 := hk6.alloc (.cells (rsCells ⟨5, ⟨#[]⟩⟩) 51)
    replace hk8 := hk8.alloc (.cells (rsCells ⟨5, ⟨#[]⟩⟩) 51)
    generalize W.heap.size = n9 at hk9 hW9 ⊢
    generalize hW4 : W.alloc (.cells #[.int .i64 5, .string ⟨#[]⟩, .slice none 0 0] 51) = W4
    have hW4' : W.alloc (.cells (rsCells ⟨5, ⟨#[]⟩⟩) 51) = W4 := hW4
    rw [hW4'] at hk9 hB4 hk3 hk5 hk6 hk8
    clear hW4 hW4' hBW
    have c1 : W4.cell? ⟨n3, 1, none⟩ = some (.bool s.is) := by rw [hk3.cell]; rfl
    have c2 : W4.cell? ⟨n3, 2, none⟩ = some (.string s.v) := by rw [hk3.cell]; rfl
    have HK5 := Lib.hid hk5
    have HK6 := Lib.hid hk6
    have HK8 := Lib.hid hk8
    have HK9 := Lib.hid hk9
    have HB4 := Lib.hid hB4
    have HN9 := Lib.hid hW9
    clear hk3 hk5 hk6 hk8 hk9 hB4 hW9
    cases his : s.is with
    | true =>
      rw [his] at c1 HK8
      go_upto_region 5 with (fail)
      go_step
      refine wpList_plain rfl (fun K hK => ?_)
      go_simp
      refine hK _ _ ?_
      clear hK K
      refine wpList_plain rfl (fun K hK => ?_)
      go_simp
      refine hK _ _ ?_
      clear hK K
      refine wpList_plain rfl (fun K hK => ?_)
      go_simp
      refine hK _ _ ?_
      clear hK K
      refine wpList_store_rs rfl (.tmp 9) (.tmp 23) rfl n9 ⟨0, s.v⟩ _ (ev_tmp (by simp [Act.put])) (ev_tmp (by simp [Act.put]; rfl)) HK9.out rfl ?_
      clear c1 c2
      obtain ⟨r, hr⟩ : ∃ r : Rs, r = ⟨0, s.v⟩ := ⟨_, rfl⟩
      have HR := Lib.hid (show r.c = (if s.is = true then 0 else 5) ∧ r.v = (if s.is = true then s.v else ⟨#[]⟩) from by rw [hr, his]; exact ⟨rfl, rfl⟩)
      have k5 := (HK5.out.rowOther (rsCells r) (show n5 ≠ n9 by have := HN.out; have := HN9.out; omega))
      have k6 := (HK6.out.rowOther (rsCells r) (show n6 ≠ n9 by have := HN.out; have := HN9.out; omega))
      have k8 := (HK8.out.rowOther (rsCells r) (show n8 ≠ n9 by have := HN9.out; omega))
      have k9 := HK9.out.row (rsCells r)
      have hB5 := below_keeps HB4.out (Nat.le_refl _) (keeps_setRow (Keeps.refl (fun k => k = n9) W4) (g := n9) (.inl rfl) (rsCells r)) (fun k hk => by have := HN.out; have := HN9.out; omega)
      rw [hr] at k5 k6 k8 k9 hB5
      generalize W4.setRow n9 (rsCells ⟨0, s.v⟩) = W5 at k5 k6 k8 k9 hB5 ⊢
      rw [← hr] at k9
      rw [← his] at k8
      have HK5 := Lib.hid k5
      have HK6 := Lib.hid k6
      have HK8 := Lib.hid k8
      have HK9 := Lib.hid k9
      have HB5 := Lib.hid hB5
      have HN58 := Lib.hid (show n5 ≠ n8 from by have := HN.out; omega)
      have c1 : W5.cell? ⟨n5, 1, none⟩ = some (.int .i64 d.op) := by rw [k5.cell]; rfl
      by_cases h1 : d.op = 1
      · have e1 : (d.op == 1) = true := beq_iff_eq.2 h1
        have HAf := Lib.hid (show afterS s i d = ⟨dv, true, d.val⟩ ∧ codeS s d = 0 ∧ valS s d = ⟨#[]⟩ from by
          unfold afterS codeS valS; rw [if_pos h1, if_pos h1, if_pos h1, HDv.out]; exact ⟨rfl, rfl, rfl⟩)
        clear h1 k5 k6 k8 k9 hB5
        go_upto_region 8 with (fail)
        clear c1 e1
        --GEN r_af8
        refine wp_region_vals [Is (.pointer (some ⟨n5, 1, none⟩)), Is (.pointer (some ⟨n5, 5, none⟩)), Is (.string d.val), Is (.pointer (some ⟨n8, 1, none⟩)), Any, Is (.pointer (some ⟨n8, 2, none⟩)), Any]
          (fun _ _ _ => True) (fun L W => Keeps (fun k => k = n8) W5 W ∧ Blk W n8 #[.int .u64 (dv : Int), .bool (if L 4 = true then true else s.is), .string (if L 6 = true then d.val else s.v)] 71) (by kernel_rfl) (by kernel_rfl) (by kernel_rfl) ?hst ?h0 ⟨?o0, ?o1, ?o2, ?o3, ?o4, ?o5, ?o6, trivial⟩ ?he
        case hst =>
          exact ⟨(fun _ _ _ _ _ _ h _ => h), (fun _ _ _ _ _ _ h _ => h), (fun _ _ _ _ _ _ h _ => h), (fun _ _ _ _ _ _ h _ => h), (fun _ _ _ _ _ _ h _ => h), (fun _ _ _ _ _ _ h _ => h), (fun _ _ _ _ _ _ h _ => h), trivial⟩
        case h0 =>
          exact ⟨(Keeps.refl _ W5).drew, HK8.out.drew⟩
        case o0 =>
          intro L vs A W H hf hd K hK
          have e5 : A.tmps[5]?.getD undef = .pointer (some ⟨n5, 0, none⟩) := H.old 5 (by kernel_rfl)
          go_simp
          exact hK _ _ (trivial) rfl (H.glob)
        case o1 =>
          intro L vs A W H hf hd K hK
          have e29 := H.is 0 29 rfl rfl rfl (deps_of' hd 0 (by kernel_rfl)) (by kernel_rfl)
          go_simp
          exact hK _ _ (trivial) rfl (H.glob)
        case o2 =>
          intro L vs A W H hf hd K hK
          have e30 := H.is 1 30 rfl rfl rfl (deps_of' hd 1 (by kernel_rfl)) (by kernel_rfl)
          have d1 : W.cell? ⟨n5, 5, none⟩ = some (.string d.val) := (by rw [(HK5.out.kept H.glob.1 HN58.out).cell]; rfl)
          go_simp
          exact hK _ _ (trivial) rfl (H.glob)
        case o3 =>
          intro L vs A W H hf hd K hK
          have e8 : A.tmps[8]?.getD undef = .pointer (some ⟨n8, 0, none⟩) := H.old 8 (by kernel_rfl)
          go_simp
          exact hK _ _ (trivial) rfl (H.glob)
        case o4 =>
          intro L vs A W H hf hd K hK
          have e32 := H.is 3 32 rfl rfl rfl (deps_of' hd 3 (by kernel_rfl)) (by kernel_rfl)
          have d1 := H.glob.2.frozen 1
          have d2 : W.cell? ⟨n8, 1, none⟩ = some (.bool s.is) := (by rw [H.glob.2.cell, hf]; rfl)
          go_simp
          refine hK undef _ trivial trivial ⟨H.glob.1.setCell (p := ⟨n8, 1, none⟩) (.inl rfl) _, ?_⟩
          have h2 := H.glob.2.set 1 (.bool true)
          rw [show lset L 4 4 = true from rfl, if_pos rfl, show lset L 4 6 = L 6 from rfl]
          simpa using h2
        case o5 =>
          intro L vs A W H hf hd K hK
          have e8 : A.tmps[8]?.getD undef = .pointer (some ⟨n8, 0, none⟩) := H.old 8 (by kernel_rfl)
          go_simp
          exact hK _ _ (trivial) rfl (H.glob)
        case o6 =>
          intro L vs A W H hf hd K hK
          have e33 := H.is 5 33 rfl rfl rfl (deps_of' hd 5 (by kernel_rfl)) (by kernel_rfl)
          have e31 := H.is 2 31 rfl rfl rfl (deps_of' hd 2 (by kernel_rfl)) (by kernel_rfl)
          have d1 := H.glob.2.frozen 2
          have d2 : W.cell? ⟨n8, 2, none⟩ = some (.string s.v) := (by rw [H.glob.2.cell, hf]; rfl)
          go_simp
          refine hK undef _ trivial trivial ⟨H.glob.1.setCell (p := ⟨n8, 2, none⟩) (.inl rfl) _, ?_⟩
          have h2 := H.glob.2.set 2 (.string d.val)
          rw [show lset L 6 6 = true from rfl, if_pos rfl, show lset L 6 4 = L 4 from rfl]
          simpa using h2
        case he =>
          intro vs W hlen hv
          match vs, hlen, hv with
          | [x0_, x1_, x2_, x3_, x4_, x5_, x6_], _, hv =>
          obtain rfl : (.pointer (some ⟨n5, 1, none⟩)) = x0_ := by obtain ⟨z, h1, h2⟩ := hv 0 _ rfl; cases h1; exact h2.symm
          obtain rfl : (.pointer (some ⟨n5, 5, none⟩)) = x1_ := by obtain ⟨z, h1, h2⟩ := hv 1 _ rfl; cases h1; exact h2.symm
          obtain rfl : (.string d.val) = x2_ := by obtain ⟨z, h1, h2⟩ := hv 2 _ rfl; cases h1; exact h2.symm
          obtain rfl : (.pointer (some ⟨n8, 1, none⟩)) = x3_ := by obtain ⟨z, h1, h2⟩ := hv 3 _ rfl; cases h1; exact h2.symm
          obtain rfl : (.pointer (some ⟨n8, 2, none⟩)) = x5_ := by obtain ⟨z, h1, h2⟩ := hv 5 _ rfl; cases h1; exact h2.symm
          intro L hall hG
          clear hv hlen
          have h4 := hall 4 (by decide)
          have h6 := hall 6 (by decide)
          have hk8 := hG.2
          rw [h4, h6, if_pos rfl, if_pos rfl] at hk8
          have HKp := Lib.hid hG.1
          have HK8b := Lib.hid (show Blk W n8 (stCells ⟨s.dn ||| 1 <<< i, true, d.val⟩) 71 from by rw [HDv.out]; exact hk8)
          clear hG hall h4 h6 hk8
          simp only [fill, if_true]
          simp [Act.put]
        --END
          have HK9b := Lib.hid (HK9.out.kept HKp.out (show ¬ n9 = n8 from by have := HN9.out; omega))
          have k5 := (HK5.out.kept HKp.out HN58.out)
          have k6 := (HK6.out.kept HKp.out (show ¬ n6 = n8 from by have := HN.out; omega))
          have hBp := below_keeps HB5.out (Nat.le_refl _) HKp.out (fun k hk => by have := HN.out; omega)
          have k8 := HK8b.out
          clear HKp hv
          go_upto_region 9 with (fail)
          go_step
          refine wpList_plain rfl (fun K hK => ?_)
          go_simp
          refine hK _ _ ?_
          clear hK K
          refine wpList_store_rs rfl (.tmp 9) (.tmp 34) rfl n9 ⟨0, ⟨#[]⟩⟩ _ (ev_tmp (by simp)) (ev_tmp (by simp; rfl)) HK9b.out rfl ?_
          go_upto_region 13 with (fail)
          replace k5 := k5.rowOther (rsCells ⟨0, ⟨#[]⟩⟩) (show n5 ≠ n9 by have := HN.out; have := HN9.out; omega)
          replace k6 := k6.rowOther (rsCells ⟨0, ⟨#[]⟩⟩) (show n6 ≠ n9 by have := HN.out; have := HN9.out; omega)
          replace k8 := k8.rowOther (rsCells ⟨0, ⟨#[]⟩⟩) (show n8 ≠ n9 by have := HN9.out; omega)
          have k9 := HK9b.out.row (rsCells ⟨0, ⟨#[]⟩⟩)
          have hBF := below_keeps hBp (Nat.le_refl _) (keeps_setRow (Keeps.refl (fun k => k = n9) W) (g := n9) (.inl rfl) (rsCells ⟨0, ⟨#[]⟩⟩)) (fun k hk => by have := HN.out; have := HN9.out; omega)
          generalize W.setRow n9 (rsCells ⟨0, ⟨#[]⟩⟩) = WF at k5 k6 k8 k9 hBF ⊢
          obtain ⟨rF, hrF⟩ : ∃ rF : Rs, rF = ⟨0, ⟨#[]⟩⟩ := ⟨_, rfl⟩
          replace HAf := Lib.hid (show afterS s i d = ⟨dv, true, d.val⟩ ∧ codeS s d = rF.c ∧ valS s d = rF.v from by rw [hrF]; exact HAf.out)
          rw [← hrF] at k9
          obtain ⟨nS, hnS⟩ : ∃ nS : St, nS = ⟨dv, true, d.val⟩ := ⟨_, rfl⟩
          rw [HDv.out] at k8
          rw [← hnS] at HAf k8
          clear hrF hnS hBp HK8b HK9b
          have K5 := Lib.hid k5
          have K6 := Lib.hid k6
          have K8 := Lib.hid k8
          have K9 := Lib.hid k9
          have HBF := Lib.hid hBF
          have q1 : WF.cell? ⟨n9, 0, none⟩ = some (.int .i64 rF.c) := by rw [k9.cell]; rfl
          have q2 : WF.cell? ⟨n9, 1, none⟩ = some (.string rF.v) := by rw [k9.cell]; rfl
          have q3 : WF.cell? ⟨n5, 8, none⟩ = some (.int .i64 d.code) := by rw [k5.cell]; rfl
          have q4 : WF.cell? ⟨n5, 1, none⟩ = some (.int .i64 d.op) := by rw [k5.cell]; rfl
          have q5 : WF.cell? ⟨n5, 9, none⟩ = some (.string d.rv) := by rw [k5.cell]; rfl
          have q6 : WF.cell? ⟨n5, 7, none⟩ = some (.int .i64 d.en) := by rw [k5.cell]; rfl
          clear k5 k6 k8 k9 hBF
          by_cases hcd : rF.c = d.code
          · have e1 : (rF.c == d.code) = true := beq_iff_eq.2 hcd
            have Hcd := Lib.hid hcd
            clear hcd
            by_cases ho2 : d.op = 2
            · have e2 : (d.op != 2) = false := by simp [ho2]
              have Ho2 := Lib.hid ho2
              clear ho2
              obtain ⟨bv, hbv⟩ : ∃ bv, (rF.v.toList == d.rv.toList) = bv := ⟨_, rfl⟩
              have Hbv := Lib.hid ((str_eqD rF.v d.rv).symm.trans hbv)
              go_upto_region 14 with (fail)
              by_cases h7 : d.en < 0
              · have HF := Lib.hid (show rightS s d = true from by unfold rightS; simp [h7])
                have e7b : decide (d.en < 0) = true := decide_eq_true h7
                clear h7
                go_step
                refine wpList_load_stW rfl (.tmp 8) rfl n8 0 nS (ev_tmp (by simp)) K8.out.cellsAt ?_
                refine wpList_plain rfl (fun K hK => ?_)
                go_simp
                refine hK _ _ ?_
                clear hK K
                refine wpList_plain rfl (fun K hK => ?_)
                go_simp
                refine hK _ _ ?_
                clear hK K
                refine wpList_plain rfl (fun K hK => ?_)
                go_simp
                refine hK _ _ ?_
                clear hK K
                refine wpList_plain rfl (fun K hK => ?_)
                go_simp
                refine hK _ _ ?_
                clear hK K
                refine wpList_gno rfl ?_
                refine wpList_plain rfl (fun K hK => ?_)
                go_simp
                refine hK _ _ ?_
                clear hK K
                refine wpList_store_st rfl (.tmp 6) (.tmp 60) rfl n6 nS _ (ev_tmp (by simp [Act.put])) (ev_tmp (by simp [Act.put])) K6.out rfl ?_
                go_wp2_with (fail)
                refine bodyPost_ret (results_st2 rfl _ n6 nS rfl (K6.out.row (stCells nS))) rfl ⟨?_, ?_⟩
                · rw [HAf.out.1, HF.out]; rfl
                · exact below_keeps HBF.out (Nat.le_refl _) (keeps_setRow (Keeps.refl (fun k => k = n6) WF) (g := n6) (.inl rfl) (stCells nS)) (fun k hk => by have := HN.out; omega)
              · have HF := Lib.hid (show rightS s d = bv from by unfold rightS; rw [HAf.out.2.1, HAf.out.2.2]; simp only [decide_eq_false h7, Bool.false_or]; rw [decide_eq_true Hcd.out, Bool.true_and, Hbv.out]; simp [Ho2.out])
                have e7b : decide (d.en < 0) = false := decide_eq_false h7
                clear h7
                go_step
                refine wpList_load_stW rfl (.tmp 8) rfl n8 0 nS (ev_tmp (by simp)) K8.out.cellsAt ?_
                refine wpList_plain rfl (fun K hK => ?_)
                go_simp
                refine hK _ _ ?_
                clear hK K
                refine wpList_plain rfl (fun K hK => ?_)
                go_simp
                refine hK _ _ ?_
                clear hK K
                refine wpList_plain rfl (fun K hK => ?_)
                go_simp
                refine hK _ _ ?_
                clear hK K
                refine wpList_plain rfl (fun K hK => ?_)
                go_simp
                refine hK _ _ ?_
                clear hK K
                refine wpList_gyes rfl (fun K hK => ?_)
                go_simp
                refine hK _ _ ?_
                clear hK K
                refine wpList_plain rfl (fun K hK => ?_)
                go_simp
                refine hK _ _ ?_
                clear hK K
                refine wpList_store_st rfl (.tmp 6) (.tmp 60) rfl n6 nS _ (ev_tmp (by simp [Act.put])) (ev_tmp (by simp [Act.put])) K6.out rfl ?_
                go_wp2_with (fail)
                refine bodyPost_ret (results_st2 rfl _ n6 nS rfl (K6.out.row (stCells nS))) rfl ⟨?_, ?_⟩
                · rw [HAf.out.1, HF.out]; rfl
                · exact below_keeps HBF.out (Nat.le_refl _) (keeps_setRow (Keeps.refl (fun k => k = n6) WF) (g := n6) (.inl rfl) (stCells nS)) (fun k hk => by have := HN.out; omega)
            · have e2 : (d.op != 2) = true := by simp [ho2]
              have Ho2 := Lib.hid ho2
              clear ho2
              go_upto_region 14 with (fail)
              by_cases h7 : d.en < 0
              · have HF := Lib.hid (show rightS s d = true from by unfold rightS; simp [h7])
                have e7b : decide (d.en < 0) = true := decide_eq_true h7
                clear h7
                go_step
                refine wpList_load_stW rfl (.tmp 8) rfl n8 0 nS (ev_tmp (by simp)) K8.out.cellsAt ?_
                refine wpList_plain rfl (fun K hK => ?_)
                go_simp
                refine hK _ _ ?_
                clear hK K
                refine wpList_plain rfl (fun K hK => ?_)
                go_simp
                refine hK _ _ ?_
                clear hK K
                refine wpList_plain rfl (fun K hK => ?_)
                go_simp
                refine hK _ _ ?_
                clear hK K
                refine wpList_plain rfl (fun K hK => ?_)
                go_simp
                refine hK _ _ ?_
                clear hK K
                refine wpList_gno rfl ?_
                refine wpList_plain rfl (fun K hK => ?_)
                go_simp
                refine hK _ _ ?_
                clear hK K
                refine wpList_store_st rfl (.tmp 6) (.tmp 60) rfl n6 nS _ (ev_tmp (by simp [Act.put])) (ev_tmp (by simp [Act.put])) K6.out rfl ?_
                go_wp2_with (fail)
                refine bodyPost_ret (results_st2 rfl _ n6 nS rfl (K6.out.row (stCells nS))) rfl ⟨?_, ?_⟩
                · rw [HAf.out.1, HF.out]; rfl
                · exact below_keeps HBF.out (Nat.le_refl _) (keeps_setRow (Keeps.refl (fun k => k = n6) WF) (g := n6) (.inl rfl) (stCells nS)) (fun k hk => by have := HN.out; omega)
              · have HF := Lib.hid (show rightS s d = true from by unfold rightS; rw [HAf.out.2.1, HAf.out.2.2]; simp only [decide_eq_false h7, Bool.false_or]; simp [Hcd.out, Ho2.out])
                have e7b : decide (d.en < 0) = false := decide_eq_false h7
                clear h7
                go_step
                refine wpList_load_stW rfl (.tmp 8) rfl n8 0 nS (ev_tmp (by simp)) K8.out.cellsAt ?_
                refine wpList_plain rfl (fun K hK => ?_)
                go_simp
                refine hK _ _ ?_
                clear hK K
                refine wpList_plain rfl (fun K hK => ?_)
                go_simp
                refine hK _ _ ?_
                clear hK K
                refine wpList_plain rfl (fun K hK => ?_)
                go_simp
                refine hK _ _ ?_
                clear hK K
                refine wpList_plain rfl (fun K hK => ?_)
                go_simp
                refine hK _ _ ?_
                clear hK K
                refine wpList_gyes rfl (fun K hK => ?_)
                go_simp
                refine hK _ _ ?_
                clear hK K
                refine wpList_plain rfl (fun K hK => ?_)
                go_simp
                refine hK _ _ ?_
                clear hK K
                refine wpList_store_st rfl (.tmp 6) (.tmp 60) rfl n6 nS _ (ev_tmp (by simp [Act.put])) (ev_tmp (by simp [Act.put])) K6.out rfl ?_
                go_wp2_with (fail)
                refine bodyPost_ret (results_st2 rfl _ n6 nS rfl (K6.out.row (stCells nS))) rfl ⟨?_, ?_⟩
                · rw [HAf.out.1, HF.out]; rfl
                · exact below_keeps HBF.out (Nat.le_refl _) (keeps_setRow (Keeps.refl (fun k => k = n6) WF) (g := n6) (.inl rfl) (stCells nS)) (fun k hk => by have := HN.out; omega)
          · have e1 : (rF.c == d.code) = false := beq_eq_false_iff_ne.2 hcd
            have Hcd := Lib.hid hcd
            clear hcd
            go_upto_region 14 with (fail)
            by_cases h7 : d.en < 0
            · have HF := Lib.hid (show rightS s d = true from by unfold rightS; simp [h7])
              have e7b : decide (d.en < 0) = true := decide_eq_true h7
              clear h7
              go_step
              refine wpList_load_stW rfl (.tmp 8) rfl n8 0 nS (ev_tmp (by simp)) K8.out.cellsAt ?_
              refine wpList_plain rfl (fun K hK => ?_)
              go_simp
              refine hK _ _ ?_
              clear hK K
              refine wpList_plain rfl (fun K hK => ?_)
              go_simp
              refine hK _ _ ?_
              clear hK K
              refine wpList_plain rfl (fun K hK => ?_)
              go_simp
              refine hK _ _ ?_
              clear hK K
              refine wpList_plain rfl (fun K hK => ?_)
              go_simp
              refine hK _ _ ?_
              clear hK K
              refine wpList_gno rfl ?_
              refine wpList_plain rfl (fun K hK => ?_)
              go_simp
              refine hK _ _ ?_
              clear hK K
              refine wpList_store_st rfl (.tmp 6) (.tmp 60) rfl n6 nS _ (ev_tmp (by simp [Act.put])) (ev_tmp (by simp [Act.put])) K6.out rfl ?_
              go_wp2_with (fail)
              refine bodyPost_ret (results_st2 rfl _ n6 nS rfl (K6.out.row (stCells nS))) rfl ⟨?_, ?_⟩
              · rw [HAf.out.1, HF.out]; rfl
              · exact below_keeps HBF.out (Nat.le_refl _) (keeps_setRow (Keeps.refl (fun k => k = n6) WF) (g := n6) (.inl rfl) (stCells nS)) (fun k hk => by have := HN.out; omega)
            · have HF := Lib.hid (show rightS s d = false from by unfold rightS; rw [HAf.out.2.1, HAf.out.2.2]; simp only [decide_eq_false h7, Bool.false_or]; simp [Hcd.out])
              have e7b : decide (d.en < 0) = false := decide_eq_false h7
              clear h7
              go_step
              refine wpList_load_stW rfl (.tmp 8) rfl n8 0 nS (ev_tmp (by simp)) K8.out.cellsAt ?_
              refine wpList_plain rfl (fun K hK => ?_)
              go_simp
              refine hK _ _ ?_
              clear hK K
              refine wpList_plain rfl (fun K hK => ?_)
              go_simp
              refine hK _ _ ?_
              clear hK K
              refine wpList_plain rfl (fun K hK => ?_)
              go_simp
              refine hK _ _ ?_
              clear hK K
              refine wpList_plain rfl (fun K hK => ?_)
              go_simp
              refine hK _ _ ?_
              clear hK K
              refine wpList_gyes rfl (fun K hK => ?_)
              go_simp
              refine hK _ _ ?_
              clear hK K
              refine wpList_plain rfl (fun K hK => ?_)
              go_simp
              refine hK _ _ ?_
              clear hK K
              refine wpList_store_st rfl (.tmp 6) (.tmp 60) rfl n6 nS _ (ev_tmp (by simp [Act.put])) (ev_tmp (by simp [Act.put])) K6.out rfl ?_
              go_wp2_with (fail)
              refine bodyPost_ret (results_st2 rfl _ n6 nS rfl (K6.out.row (stCells nS))) rfl ⟨?_, ?_⟩
              · rw [HAf.out.1, HF.out]; rfl
              · exact below_keeps HBF.out (Nat.le_refl _) (keeps_setRow (Keeps.refl (fun k => k = n6) WF) (g := n6) (.inl rfl) (stCells nS)) (fun k hk => by have := HN.out; omega)
      · by_cases h3 : d.op = 3
        · have e1 : (d.op == 1) = false := beq_eq_false_iff_ne.2 h1
          have e3 : (d.op == 3) = true := beq_iff_eq.2 h3
          have HAf := Lib.hid (show afterS s i d = ⟨dv, false, ⟨#[]⟩⟩ ∧ codeS s d = r.c ∧ valS s d = ⟨#[]⟩ from by
            unfold afterS codeS valS; rw [if_neg h1, if_pos h3, if_neg h1, if_neg h1, if_pos h3, HDv.out, HR.out.1]; exact ⟨rfl, rfl, rfl⟩)
          have f1 := k8.frozen 1
          have f2 := k8.frozen 2
          have f3 := k9.frozen 1
          have g1 : W5.cell? ⟨n8, 1, none⟩ = some (.bool s.is) := by rw [k8.cell]; rfl
          have g2 : W5.cell? ⟨n8, 2, none⟩ = some (.string s.v) := by rw [k8.cell]; rfl
          have g3 : W5.cell? ⟨n9, 1, none⟩ = some (.string r.v) := by rw [k9.cell]; rfl
          have g4 : n8 ≠ n9 := by have := HN9.out; omega
          have g5 : n9 ≠ n8 := by have := HN9.out; omega
          clear h1 h3
          go_upto_region 13 with (fail)
          clear f1 f2 f3 g1 g2 g3 c1 e1 e3
          have hBF := below_keeps hB5 (Nat.le_refl _) ((((Keeps.refl (fun k => k = n8 ∨ k = n9) W5).setCell (p := ⟨n8, 1, none⟩) (.inl (.inl rfl)) (.bool false)).setCell (p := ⟨n8, 2, none⟩) (.inl (.inl rfl)) (.string ⟨#[]⟩)).setCell (p := ⟨n9, 1, none⟩) (.inl (.inr rfl)) (.string ⟨#[]⟩)) (fun k hk => by have := HN.out; have := HN9.out; omega)
          replace k5 := (((k5.other 1 (.bool false) HN58.out).other 2 (.string ⟨#[]⟩) HN58.out).other 1 (.string ⟨#[]⟩) (show n5 ≠ n9 by have := HN.out; have := HN9.out; omega))
          replace k6 := (((k6.other 1 (.bool false) (show n6 ≠ n8 by have := HN.out; omega)).other 2 (.string ⟨#[]⟩) (show n6 ≠ n8 by have := HN.out; omega)).other 1 (.string ⟨#[]⟩) (show n6 ≠ n9 by have := HN.out; have := HN9.out; omega))
          replace k8 := (((k8.set 1 (.bool false)).set 2 (.string ⟨#[]⟩)).other 1 (.string ⟨#[]⟩) g4)
          replace k9 := (((k9.other 1 (.bool false) g5).other 2 (.string ⟨#[]⟩) g5).set 1 (.string ⟨#[]⟩))
          clear g4 g5
          generalize (((W5.setCell ⟨n8, 1, none⟩ (.bool false)).setCell ⟨n8, 2, none⟩ (.string ⟨#[]⟩)).setCell ⟨n9, 1, none⟩ (.string ⟨#[]⟩)) = WF at k5 k6 k8 k9 hBF ⊢
          obtain ⟨rF, hrF⟩ : ∃ rF : Rs, rF = ⟨r.c, ⟨#[]⟩⟩ := ⟨_, rfl⟩
          replace HAf := Lib.hid (show afterS s i d = ⟨dv, false, ⟨#[]⟩⟩ ∧ codeS s d = rF.c ∧ valS s d = rF.v from by rw [hrF]; exact HAf.out)
          have k9' : Blk WF n9 (rsCells rF) 51 := by rw [hrF]; exact k9
          obtain ⟨nS, hnS⟩ : ∃ nS : St, nS = ⟨dv, false, ⟨#[]⟩⟩ := ⟨_, rfl⟩
          have k8' : Blk WF n8 (stCells nS) 71 := by rw [hnS]; exact k8
          rw [← hnS] at HAf
          clear k8 k9 hrF hnS
          have k8 := k8'
          have k9 := k9'
          clear k8' k9'
          have K5 := Lib.hid k5
          have K6 := Lib.hid k6
          have K8 := Lib.hid k8
          have K9 := Lib.hid k9
          have HBF := Lib.hid hBF
          have q1 : WF.cell? ⟨n9, 0, none⟩ = some (.int .i64 rF.c) := by rw [k9.cell]; rfl
          have q2 : WF.cell? ⟨n9, 1, none⟩ = some (.string rF.v) := by rw [k9.cell]; rfl
          have q3 : WF.cell? ⟨n5, 8, none⟩ = some (.int .i64 d.code) := by rw [k5.cell]; rfl
          have q4 : WF.cell? ⟨n5, 1, none⟩ = some (.int .i64 d.op) := by rw [k5.cell]; rfl
          have q5 : WF.cell? ⟨n5, 9, none⟩ = some (.string d.rv) := by rw [k5.cell]; rfl
          have q6 : WF.cell? ⟨n5, 7, none⟩ = some (.int .i64 d.en) := by rw [k5.cell]; rfl
          clear k5 k6 k8 k9 hBF
          by_cases hcd : rF.c = d.code
          · have e1 : (rF.c == d.code) = true := beq_iff_eq.2 hcd
            have Hcd := Lib.hid hcd
            clear hcd
            by_cases ho2 : d.op = 2
            · have e2 : (d.op != 2) = false := by simp [ho2]
              have Ho2 := Lib.hid ho2
              clear ho2
              obtain ⟨bv, hbv⟩ : ∃ bv, (rF.v.toList == d.rv.toList) = bv := ⟨_, rfl⟩
              have Hbv := Lib.hid ((str_eqD rF.v d.rv).symm.trans hbv)
              go_upto_region 14 with (fail)
              by_cases h7 : d.en < 0
              · have HF := Lib.hid (show rightS s d = true from by unfold rightS; simp [h7])
                have e7b : decide (d.en < 0) = true := decide_eq_true h7
                clear h7
                go_step
                refine wpList_load_stW rfl (.tmp 8) rfl n8 0 nS (ev_tmp (by simp)) K8.out.cellsAt ?_
                refine wpList_plain rfl (fun K hK => ?_)
                go_simp
                refine hK _ _ ?_
                clear hK K
                refine wpList_plain rfl (fun K hK => ?_)
                go_simp
                refine hK _ _ ?_
                clear hK K
                refine wpList_plain rfl (fun K hK => ?_)
                go_simp
                refine hK _ _ ?_
                clear hK K
                refine wpList_plain rfl (fun K hK => ?_)
                go_simp
                refine hK _ _ ?_
                clear hK K
                refine wpList_gno rfl ?_
                refine wpList_plain rfl (fun K hK => ?_)
                go_simp
                refine hK _ _ ?_
                clear hK K
                refine wpList_store_st rfl (.tmp 6) (.tmp 60) rfl n6 nS _ (ev_tmp (by simp [Act.put])) (ev_tmp (by simp [Act.put])) K6.out rfl ?_
                go_wp2_with (fail)
                refine bodyPost_ret (results_st2 rfl _ n6 nS rfl (K6.out.row (stCells nS))) rfl ⟨?_, ?_⟩
                · rw [HAf.out.1, HF.out]; rfl
                · exact below_keeps HBF.out (Nat.le_refl _) (keeps_setRow (Keeps.refl (fun k => k = n6) WF) (g := n6) (.inl rfl) (stCells nS)) (fun k hk => by have := HN.out; omega)
              · have HF := Lib.hid (show rightS s d = bv from by unfold rightS; rw [HAf.out.2.1, HAf.out.2.2]; simp only [decide_eq_false h7, Bool.false_or]; rw [decide_eq_true Hcd.out, Bool.true_and, Hbv.out]; simp [Ho2.out])
                have e7b : decide (d.en < 0) = false := decide_eq_false h7
                clear h7
                go_step
                refine wpList_load_stW rfl (.tmp 8) rfl n8 0 nS (ev_tmp (by simp)) K8.out.cellsAt ?_
                refine wpList_plain rfl (fun K hK => ?_)
                go_simp
                refine hK _ _ ?_
                clear hK K
                refine wpList_plain rfl (fun K hK => ?_)
                go_simp
                refine hK _ _ ?_
                clear hK K
                refine wpList_plain rfl (fun K hK => ?_)
                go_simp
                refine hK _ _ ?_
                clear hK K
                refine wpList_plain rfl (fun K hK => ?_)
                go_simp
                refine hK _ _ ?_
                clear hK K
                refine wpList_gyes rfl (fun K hK => ?_)
                go_simp
                refine hK _ _ ?_
                clear hK K
                refine wpList_plain rfl (fun K hK => ?_)
                go_simp
                refine hK _ _ ?_
                clear hK K
                refine wpList_store_st rfl (.tmp 6) (.tmp 60) rfl n6 nS _ (ev_tmp (by simp [Act.put])) (ev_tmp (by simp [Act.put])) K6.out rfl ?_
                go_wp2_with (fail)
                refine bodyPost_ret (results_st2 rfl _ n6 nS rfl (K6.out.row (stCells nS))) rfl ⟨?_, ?_⟩
                · rw [HAf.out.1, HF.out]; rfl
                · exact below_keeps HBF.out (Nat.le_refl _) (keeps_setRow (Keeps.refl (fun k => k = n6) WF) (g := n6) (.inl rfl) (stCells nS)) (fun k hk => by have := HN.out; omega)
            · have e2 : (d.op != 2) = true := by simp [ho2]
              have Ho2 := Lib.hid ho2
              clear ho2
              go_upto_region 14 with (fail)
              by_cases h7 : d.en < 0
              · have HF := Lib.hid (show rightS s d = true from by unfold rightS; simp [h7])
                have e7b : decide (d.en < 0) = true := decide_eq_true h7
                clear h7
                go_step
                refine wpList_load_stW rfl (.tmp 8) rfl n8 0 nS (ev_tmp (by simp)) K8.out.cellsAt ?_
                refine wpList_plain rfl (fun K hK => ?_)
                go_simp
                refine hK _ _ ?_
                clear hK K
                refine wpList_plain rfl (fun K hK => ?_)
                go_simp
                refine hK _ _ ?_
                clear hK K
                refine wpList_plain rfl (fun K hK => ?_)
                go_simp
                refine hK _ _ ?_
                clear hK K
                refine wpList_plain rfl (fun K hK => ?_)
                go_simp
                refine hK _ _ ?_
                clear hK K
                refine wpList_gno rfl ?_
                refine wpList_plain rfl (fun K hK => ?_)
                go_simp
                refine hK _ _ ?_
                clear hK K
                refine wpList_store_st rfl (.tmp 6) (.tmp 60) rfl n6 nS _ (ev_tmp (by simp [Act.put])) (ev_tmp (by simp [Act.put])) K6.out rfl ?_
                go_wp2_with (fail)
                refine bodyPost_ret (results_st2 rfl _ n6 nS rfl (K6.out.row (stCells nS))) rfl ⟨?_, ?_⟩
                · rw [HAf.out.1, HF.out]; rfl
                · exact below_keeps HBF.out (Nat.le_refl _) (keeps_setRow (Keeps.refl (fun k => k = n6) WF) (g := n6) (.inl rfl) (stCells nS)) (fun k hk => by have := HN.out; omega)
              · have HF := Lib.hid (show rightS s d = true from by unfold rightS; rw [HAf.out.2.1, HAf.out.2.2]; simp only [decide_eq_false h7, Bool.false_or]; simp [Hcd.out, Ho2.out])
                have e7b : decide (d.en < 0) = false := decide_eq_false h7
                clear h7
                go_step
                refine wpList_load_stW rfl (.tmp 8) rfl n8 0 nS (ev_tmp (by simp)) K8.out.cellsAt ?_
                refine wpList_plain rfl (fun K hK => ?_)
                go_simp
                refine hK _ _ ?_
                clear hK K
                refine wpList_plain rfl (fun K hK => ?_)
                go_simp
                refine hK _ _ ?_
                clear hK K
                refine wpList_plain rfl (fun K hK => ?_)
                go_simp
                refine hK _ _ ?_
                clear hK K
                refine wpList_plain rfl (fun K hK => ?_)
                go_simp
                refine hK _ _ ?_
                clear hK K
                refine wpList_gyes rfl (fun K hK => ?_)
                go_simp
                refine hK _ _ ?_
                clear hK K
                refine wpList_plain rfl (fun K hK => ?_)
                go_simp
                refine hK _ _ ?_
                clear hK K
                refine wpList_store_st rfl (.tmp 6) (.tmp 60) rfl n6 nS _ (ev_tmp (by simp [Act.put])) (ev_tmp (by simp [Act.put])) K6.out rfl ?_
                go_wp2_with (fail)
                refine bodyPost_ret (results_st2 rfl _ n6 nS rfl (K6.out.row (stCells nS))) rfl ⟨?_, ?_⟩
                · rw [HAf.out.1, HF.out]; rfl
                · exact below_keeps HBF.out (Nat.le_refl _) (keeps_setRow (Keeps.refl (fun k => k = n6) WF) (g := n6) (.inl rfl) (stCells nS)) (fun k hk => by have := HN.out; omega)
          · have e1 : (rF.c == d.code) = false := beq_eq_false_iff_ne.2 hcd
            have Hcd := Lib.hid hcd
            clear hcd
            go_upto_region 14 with (fail)
            by_cases h7 : d.en < 0
            · have HF := Lib.hid (show rightS s d = true from by unfold rightS; simp [h7])
              have e7b : decide (d.en < 0) = true := decide_eq_true h7
              clear h7
              go_step
              refine wpList_load_stW rfl (.tmp 8) rfl n8 0 nS (ev_tmp (by simp)) K8.out.cellsAt ?_
              refine wpList_plain rfl (fun K hK => ?_)
              go_simp
              refine hK _ _ ?_
              clear hK K
              refine wpList_plain rfl (fun K hK => ?_)
              go_simp
              refine hK _ _ ?_
              clear hK K
              refine wpList_plain rfl (fun K hK => ?_)
              go_simp
              refine hK _ _ ?_
              clear hK K
              refine wpList_plain rfl (fun K hK => ?_)
              go_simp
              refine hK _ _ ?_
              clear hK K
              refine wpList_gno rfl ?_
              refine wpList_plain rfl (fun K hK => ?_)
              go_simp
              refine hK _ _ ?_
              clear hK K
              refine wpList_store_st rfl (.tmp 6) (.tmp 60) rfl n6 nS _ (ev_tmp (by simp [Act.put])) (ev_tmp (by simp [Act.put])) K6.out rfl ?_
              go_wp2_with (fail)
              refine bodyPost_ret (results_st2 rfl _ n6 nS rfl (K6.out.row (stCells nS))) rfl ⟨?_, ?_⟩
              · rw [HAf.out.1, HF.out]; rfl
              · exact below_keeps HBF.out (Nat.le_refl _) (keeps_setRow (Keeps.refl (fun k => k = n6) WF) (g := n6) (.inl rfl) (stCells nS)) (fun k hk => by have := HN.out; omega)
            · have HF := Lib.hid (show rightS s d = false from by unfold rightS; rw [HAf.out.2.1, HAf.out.2.2]; simp only [decide_eq_false h7, Bool.false_or]; simp [Hcd.out])
              have e7b : decide (d.en < 0) = false := decide_eq_false h7
              clear h7
              go_step
              refine wpList_load_stW rfl (.tmp 8) rfl n8 0 nS (ev_tmp (by simp)) K8.out.cellsAt ?_
              refine wpList_plain rfl (fun K hK => ?_)
              go_simp
              refine hK _ _ ?_
              clear hK K
              refine wpList_plain rfl (fun K hK => ?_)
              go_simp
              refine hK _ _ ?_
              clear hK K
              refine wpList_plain rfl (fun K hK => ?_)
              go_simp
              refine hK _ _ ?_
              clear hK K
              refine wpList_plain rfl (fun K hK => ?_)
              go_simp
              refine hK _ _ ?_
              clear hK K
              refine wpList_gyes rfl (fun K hK => ?_)
              go_simp
              refine hK _ _ ?_
              clear hK K
              refine wpList_plain rfl (fun K hK => ?_)
              go_simp
              refine hK _ _ ?_
              clear hK K
              refine wpList_store_st rfl (.tmp 6) (.tmp 60) rfl n6 nS _ (ev_tmp (by simp [Act.put])) (ev_tmp (by simp [Act.put])) K6.out rfl ?_
              go_wp2_with (fail)
              refine bodyPost_ret (results_st2 rfl _ n6 nS rfl (K6.out.row (stCells nS))) rfl ⟨?_, ?_⟩
              · rw [HAf.out.1, HF.out]; rfl
              · exact below_keeps HBF.out (Nat.le_refl _) (keeps_setRow (Keeps.refl (fun k => k = n6) WF) (g := n6) (.inl rfl) (stCells nS)) (fun k hk => by have := HN.out; omega)
        · have e1 : (d.op == 1) = false := beq_eq_false_iff_ne.2 h1
          have e3 : (d.op == 3) = false := beq_eq_false_iff_ne.2 h3
          have HAf := Lib.hid (show afterS s i d = ⟨dv, s.is, s.v⟩ ∧ codeS s d = r.c ∧ valS s d = r.v from by
            unfold afterS codeS valS; rw [if_neg h1, if_neg h3, if_neg h1, if_neg h1, if_neg h3, HDv.out, HR.out.1, HR.out.2]; exact ⟨rfl, rfl, rfl⟩)
          clear h1 h3 c1
          have hk8' : Blk W5 n8 (stCells ⟨dv, s.is, s.v⟩) 71 := k8
          obtain ⟨nS, hnS⟩ : ∃ nS : St, nS = ⟨dv, s.is, s.v⟩ := ⟨_, rfl⟩
          rw [← hnS] at HAf hk8'
          have c1 : W5.cell? ⟨n5, 1, none⟩ = some (.int .i64 d.op) := by rw [k5.cell]; rfl
          go_upto_region 13 with (fail)
          clear c1 e1 e3 hnS k8
          generalize W5 = WF at k5 k6 hk8' k9 hB5 ⊢
          have k8 := hk8'
          have hBF := hB5
          generalize r = rF at HAf k9 ⊢
          clear hk8'
          have K5 := Lib.hid k5
          have K6 := Lib.hid k6
          have K8 := Lib.hid k8
          have K9 := Lib.hid k9
          have HBF := Lib.hid hBF
          have q1 : WF.cell? ⟨n9, 0, none⟩ = some (.int .i64 rF.c) := by rw [k9.cell]; rfl
          have q2 : WF.cell? ⟨n9, 1, none⟩ = some (.string rF.v) := by rw [k9.cell]; rfl
          have q3 : WF.cell? ⟨n5, 8, none⟩ = some (.int .i64 d.code) := by rw [k5.cell]; rfl
          have q4 : WF.cell? ⟨n5, 1, none⟩ = some (.int .i64 d.op) := by rw [k5.cell]; rfl
          have q5 : WF.cell? ⟨n5, 9, none⟩ = some (.string d.rv) := by rw [k5.cell]; rfl
          have q6 : WF.cell? ⟨n5, 7, none⟩ = some (.int .i64 d.en) := by rw [k5.cell]; rfl
          clear k5 k6 k8 k9 hBF
          by_cases hcd : rF.c = d.code
          · have e1 : (rF.c == d.code) = true := beq_iff_eq.2 hcd
            have Hcd := Lib.hid hcd
            clear hcd
            by_cases ho2 : d.op = 2
            · have e2 : (d.op != 2) = false := by simp [ho2]
              have Ho2 := Lib.hid ho2
              clear ho2
              obtain ⟨bv, hbv⟩ : ∃ bv, (rF.v.toList == d.rv.toList) = bv := ⟨_, rfl⟩
              have Hbv := Lib.hid ((str_eqD rF.v d.rv).symm.trans hbv)
              go_upto_region 14 with (fail)
              by_cases h7 : d.en < 0
              · have HF := Lib.hid (show rightS s d = true from by unfold rightS; simp [h7])
                have e7b : decide (d.en < 0) = true := decide_eq_true h7
                clear h7
                go_step
                refine wpList_load_stW rfl (.tmp 8) rfl n8 0 nS (ev_tmp (by simp)) K8.out.cellsAt ?_
                refine wpList_plain rfl (fun K hK => ?_)
                go_simp
                refine hK _ _ ?_
                clear hK K
                refine wpList_plain rfl (fun K hK => ?_)
                go_simp
                refine hK _ _ ?_
                clear hK K
                refine wpList_plain rfl (fun K hK => ?_)
                go_simp
                refine hK _ _ ?_
                clear hK K
                refine wpList_plain rfl (fun K hK => ?_)
                go_simp
                refine hK _ _ ?_
                clear hK K
                refine wpList_gno rfl ?_
                refine wpList_plain rfl (fun K hK => ?_)
                go_simp
                refine hK _ _ ?_
                clear hK K
                refine wpList_store_st rfl (.tmp 6) (.tmp 60) rfl n6 nS _ (ev_tmp (by simp [Act.put])) (ev_tmp (by simp [Act.put])) K6.out rfl ?_
                go_wp2_with (fail)
                refine bodyPost_ret (results_st2 rfl _ n6 nS rfl (K6.out.row (stCells nS))) rfl ⟨?_, ?_⟩
                · rw [HAf.out.1, HF.out]; rfl
                · exact below_keeps HBF.out (Nat.le_refl _) (keeps_setRow (Keeps.refl (fun k => k = n6) WF) (g := n6) (.inl rfl) (stCells nS)) (fun k hk => by have := HN.out; omega)
              · have HF := Lib.hid (show rightS s d = bv from by unfold rightS; rw [HAf.out.2.1, HAf.out.2.2]; simp only [decide_eq_false h7, Bool.false_or]; rw [decide_eq_true Hcd.out, Bool.true_and, Hbv.out]; simp [Ho2.out])
                have e7b : decide (d.en < 0) = false := decide_eq_false h7
                clear h7
                go_step
                refine wpList_load_stW rfl (.tmp 8) rfl n8 0 nS (ev_tmp (by simp)) K8.out.cellsAt ?_
                refine wpList_plain rfl (fun K hK => ?_)
                go_simp
                refine hK _ _ ?_
                clear hK K
                refine wpList_plain rfl (fun K hK => ?_)
                go_simp
                refine hK _ _ ?_
                clear hK K
                refine wpList_plain rfl (fun K hK => ?_)
                go_simp
                refine hK _ _ ?_
                clear hK K
                refine wpList_plain rfl (fun K hK => ?_)
                go_simp
                refine hK _ _ ?_
                clear hK K
                refine wpList_gyes rfl (fun K hK => ?_)
                go_simp
                refine hK _ _ ?_
                clear hK K
                refine wpList_plain rfl (fun K hK => ?_)
                go_simp
                refine hK _ _ ?_
                clear hK K
                refine wpList_store_st rfl (.tmp 6) (.tmp 60) rfl n6 nS _ (ev_tmp (by simp [Act.put])) (ev_tmp (by simp [Act.put])) K6.out rfl ?_
                go_wp2_with (fail)
                refine bodyPost_ret (results_st2 rfl _ n6 nS rfl (K6.out.row (stCells nS))) rfl ⟨?_, ?_⟩
                · rw [HAf.out.1, HF.out]; rfl
                · exact below_keeps HBF.out (Nat.le_refl _) (keeps_setRow (Keeps.refl (fun k => k = n6) WF) (g := n6) (.inl rfl) (stCells nS)) (fun k hk => by have := HN.out; omega)
            · have e2 : (d.op != 2) = true := by simp [ho2]
              have Ho2 := Lib.hid ho2
              clear ho2
              go_upto_region 14 with (fail)
              by_cases h7 : d.en < 0
              · have HF := Lib.hid (show rightS s d = true from by unfold rightS; simp [h7])
                have e7b : decide (d.en < 0) = true := decide_eq_true h7
                clear h7
                go_step
                refine wpList_load_stW rfl (.tmp 8) rfl n8 0 nS (ev_tmp (by simp)) K8.out.cellsAt ?_
                refine wpList_plain rfl (fun K hK => ?_)
                go_simp
                refine hK _ _ ?_
                clear hK K
                refine wpList_plain rfl (fun K hK => ?_)
                go_simp
                refine hK _ _ ?_
                clear hK K
                refine wpList_plain rfl (fun K hK => ?_)
                go_simp
                refine hK _ _ ?_
                clear hK K
                refine wpList_plain rfl (fun K hK => ?_)
                go_simp
                refine hK _ _ ?_
                clear hK K
                refine wpList_gno rfl ?_
                refine wpList_plain rfl (fun K hK => ?_)
                go_simp
                refine hK _ _ ?_
                clear hK K
                refine wpList_store_st rfl (.tmp 6) (.tmp 60) rfl n6 nS _ (ev_tmp (by simp [Act.put])) (ev_tmp (by simp [Act.put])) K6.out rfl ?_
                go_wp2_with (fail)
                refine bodyPost_ret (results_st2 rfl _ n6 nS rfl (K6.out.row (stCells nS))) rfl ⟨?_, ?_⟩
                · rw [HAf.out.1, HF.out]; rfl
                · exact below_keeps HBF.out (Nat.le_refl _) (keeps_setRow (Keeps.refl (fun k => k = n6) WF) (g := n6) (.inl rfl) (stCells nS)) (fun k hk => by have := HN.out; omega)
              · have HF := Lib.hid (show rightS s d = true from by unfold rightS; rw [HAf.out.2.1, HAf.out.2.2]; simp only [decide_eq_false h7, Bool.false_or]; simp [Hcd.out, Ho2.out])
                have e7b : decide (d.en < 0) = false := decide_eq_false h7
                clear h7
                go_step
                refine wpList_load_stW rfl (.tmp 8) rfl n8 0 nS (ev_tmp (by simp)) K8.out.cellsAt ?_
                refine wpList_plain rfl (fun K hK => ?_)
                go_simp
                refine hK _ _ ?_
                clear hK K
                refine wpList_plain rfl (fun K hK => ?_)
                go_simp
                refine hK _ _ ?_
                clear hK K
                refine wpList_plain rfl (fun K hK => ?_)
                go_simp
                refine hK _ _ ?_
                clear hK K
                refine wpList_plain rfl (fun K hK => ?_)
                go_simp
                refine hK _ _ ?_
                clear hK K
                refine wpList_gyes rfl (fun K hK => ?_)
                go_simp
                refine hK _ _ ?_
                clear hK K
                refine wpList_plain rfl (fun K hK => ?_)
                go_simp
                refine hK _ _ ?_
                clear hK K
                refine wpList_store_st rfl (.tmp 6) (.tmp 60) rfl n6 nS _ (ev_tmp (by simp [Act.put])) (ev_tmp (by simp [Act.put])) K6.out rfl ?_
                go_wp2_with (fail)
                refine bodyPost_ret (results_st2 rfl _ n6 nS rfl (K6.out.row (stCells nS))) rfl ⟨?_, ?_⟩
                · rw [HAf.out.1, HF.out]; rfl
                · exact below_keeps HBF.out (Nat.le_refl _) (keeps_setRow (Keeps.refl (fun k => k = n6) WF) (g := n6) (.inl rfl) (stCells nS)) (fun k hk => by have := HN.out; omega)
          · have e1 : (rF.c == d.code) = false := beq_eq_false_iff_ne.2 hcd
            have Hcd := Lib.hid hcd
            clear hcd
            go_upto_region 14 with (fail)
            by_cases h7 : d.en < 0
            · have HF := Lib.hid (show rightS s d = true from by unfold rightS; simp [h7])
              have e7b : decide (d.en < 0) = true := decide_eq_true h7
              clear h7
              go_step
              refine wpList_load_stW rfl (.tmp 8) rfl n8 0 nS (ev_tmp (by simp)) K8.out.cellsAt ?_
              refine wpList_plain rfl (fun K hK => ?_)
              go_simp
              refine hK _ _ ?_
              clear hK K
              refine wpList_plain rfl (fun K hK => ?_)
              go_simp
              refine hK _ _ ?_
              clear hK K
              refine wpList_plain rfl (fun K hK => ?_)
              go_simp
              refine hK _ _ ?_
              clear hK K
              refine wpList_plain rfl (fun K hK => ?_)
              go_simp
              refine hK _ _ ?_
              clear hK K
              refine wpList_gno rfl ?_
              refine wpList_plain rfl (fun K hK => ?_)
              go_simp
              refine hK _ _ ?_
              clear hK K
              refine wpList_store_st rfl (.tmp 6) (.tmp 60) rfl n6 nS _ (ev_tmp (by simp [Act.put])) (ev_tmp (by simp [Act.put])) K6.out rfl ?_
              go_wp2_with (fail)
              refine bodyPost_ret (results_st2 rfl _ n6 nS rfl (K6.out.row (stCells nS))) rfl ⟨?_, ?_⟩
              · rw [HAf.out.1, HF.out]; rfl
              · exact below_keeps HBF.out (Nat.le_refl _) (keeps_setRow (Keeps.refl (fun k => k = n6) WF) (g := n6) (.inl rfl) (stCells nS)) (fun k hk => by have := HN.out; omega)
            · have HF := Lib.hid (show rightS s d = false from by unfold rightS; rw [HAf.out.2.1, HAf.out.2.2]; simp only [decide_eq_false h7, Bool.false_or]; simp [Hcd.out])
              have e7b : decide (d.en < 0) = false := decide_eq_false h7
              clear h7
              go_step
              refine wpList_load_stW rfl (.tmp 8) rfl n8 0 nS (ev_tmp (by simp)) K8.out.cellsAt ?_
              refine wpList_plain rfl (fun K hK => ?_)
              go_simp
              refine hK _ _ ?_
              clear hK K
              refine wpList_plain rfl (fun K hK => ?_)
              go_simp
              refine hK _ _ ?_
              clear hK K
              refine wpList_plain rfl (fun K hK => ?_)
              go_simp
              refine hK _ _ ?_
              clear hK K
              refine wpList_plain rfl (fun K hK => ?_)
              go_simp
              refine hK _ _ ?_
              clear hK K
              refine wpList_gyes rfl (fun K hK => ?_)
              go_simp
              refine hK _ _ ?_
              clear hK K
              refine wpList_plain rfl (fun K hK => ?_)
              go_simp
              refine hK _ _ ?_
              clear hK K
              refine wpList_store_st rfl (.tmp 6) (.tmp 60) rfl n6 nS _ (ev_tmp (by simp [Act.put])) (ev_tmp (by simp [Act.put])) K6.out rfl ?_
              go_wp2_with (fail)
              refine bodyPost_ret (results_st2 rfl _ n6 nS rfl (K6.out.row (stCells nS))) rfl ⟨?_, ?_⟩
              · rw [HAf.out.1, HF.out]; rfl
              · exact below_keeps HBF.out (Nat.le_refl _) (keeps_setRow (Keeps.refl (fun k => k = n6) WF) (g := n6) (.inl rfl) (stCells nS)) (fun k hk => by have := HN.out; omega)
    | false =>
      rw [his] at c1
      obtain ⟨r, hr⟩ : ∃ r : Rs, r = ⟨5, ⟨#[]⟩⟩ := ⟨_, rfl⟩
      have HR := Lib.hid (show r.c = (if s.is = true then 0 else 5) ∧ r.v = (if s.is = true then s.v else ⟨#[]⟩) from by rw [hr, his]; exact ⟨rfl, rfl⟩)
      have k5 := HK5.out
      have k6 := HK6.out
      have k8 := HK8.out
      have k9 := HK9.out
      rw [← hr] at k9
      have hB5 := HB4.out
      go_upto_region 6 with (fail)
      clear c1 c2
      generalize W4 = W5 at k5 k6 k8 k9 hB5 ⊢
      have HK5 := Lib.hid k5
      have HK6 := Lib.hid k6
      have HK8 := Lib.hid k8
      have HK9 := Lib.hid k9
      have HB5 := Lib.hid hB5
      have HN58 := Lib.hid (show n5 ≠ n8 from by have := HN.out; omega)
      have c1 : W5.cell? ⟨n5, 1, none⟩ = some (.int .i64 d.op) := by rw [k5.cell]; rfl
      by_cases h1 : d.op = 1
      · have e1 : (d.op == 1) = true := beq_iff_eq.2 h1
        have HAf := Lib.hid (show afterS s i d = ⟨dv, true, d.val⟩ ∧ codeS s d = 0 ∧ valS s d = ⟨#[]⟩ from by
          unfold afterS codeS valS; rw [if_pos h1, if_pos h1, if_pos h1, HDv.out]; exact ⟨rfl, rfl, rfl⟩)
        clear h1 k5 k6 k8 k9 hB5
        go_upto_region 8 with (fail)
        clear c1 e1
        --GEN r_af8
        refine wp_region_vals [Is (.pointer (some ⟨n5, 1, none⟩)), Is (.pointer (some ⟨n5, 5, none⟩)), Is (.string d.val), Is (.pointer (some ⟨n8, 1, none⟩)), Any, Is (.pointer (some ⟨n8, 2, none⟩)), Any]
          (fun _ _ _ => True) (fun L W => Keeps (fun k => k = n8) W5 W ∧ Blk W n8 #[.int .u64 (dv : Int), .bool (if L 4 = true then true else s.is), .string (if L 6 = true then d.val else s.v)] 71) (by kernel_rfl) (by kernel_rfl) (by kernel_rfl) ?hst ?h0 ⟨?o0, ?o1, ?o2, ?o3, ?o4, ?o5, ?o6, trivial⟩ ?he
        case hst =>
          exact ⟨(fun _ _ _ _ _ _ h _ => h), (fun _ _ _ _ _ _ h _ => h), (fun _ _ _ _ _ _ h _ => h), (fun _ _ _ _ _ _ h _ => h), (fun _ _ _ _ _ _ h _ => h), (fun _ _ _ _ _ _ h _ => h), (fun _ _ _ _ _ _ h _ => h), trivial⟩
        case h0 =>
          exact ⟨(Keeps.refl _ W5).drew, HK8.out.drew⟩
        case o0 =>
          intro L vs A W H hf hd K hK
          have e5 : A.tmps[5]?.getD undef = .pointer (some ⟨n5, 0, none⟩) := H.old 5 (by kernel_rfl)
          go_simp
          exact hK _ _ (trivial) rfl (H.glob)
        case o1 =>
          intro L vs A W H hf hd K hK
          have e29 := H.is 0 29 rfl rfl rfl (deps_of' hd 0 (by kernel_rfl)) (by kernel_rfl)
          go_simp
          exact hK _ _ (trivial) rfl (H.glob)
        case o2 =>
          intro L vs A W H hf hd K hK
          have e30 := H.is 1 30 rfl rfl rfl (deps_of' hd 1 (by kernel_rfl)) (by kernel_rfl)
          have d1 : W.cell? ⟨n5, 5, none⟩ = some (.string d.val) := (by rw [(HK5.out.kept H.glob.1 HN58.out).cell]; rfl)
          go_simp
          exact hK _ _ (trivial) rfl (H.glob)
        case o3 =>
          intro L vs A W H hf hd K hK
          have e8 : A.tmps[8]?.getD undef = .pointer (some ⟨n8, 0, none⟩) := H.old 8 (by kernel_rfl)
          go_simp
          exact hK _ _ (trivial) rfl (H.glob)
        case o4 =>
          intro L vs A W H hf hd K hK
          have e32 := H.is 3 32 rfl rfl rfl (deps_of' hd 3 (by kernel_rfl)) (by kernel_rfl)
          have d1 := H.glob.2.frozen 1
          have d2 : W.cell? ⟨n8, 1, none⟩ = some (.bool s.is) := (by rw [H.glob.2.cell, hf]; rfl)
          go_simp
          refine hK undef _ trivial trivial ⟨H.glob.1.setCell (p := ⟨n8, 1, none⟩) (.inl rfl) _, ?_⟩
          have h2 := H.glob.2.set 1 (.bool true)
          rw [show lset L 4 4 = true from rfl, if_pos rfl, show lset L 4 6 = L 6 from rfl]
          simpa using h2
        case o5 =>
          intro L vs A W H hf hd K hK
          have e8 : A.tmps[8]?.getD undef = .pointer (some ⟨n8, 0, none⟩) := H.old 8 (by kernel_rfl)
          go_simp
          exact hK _ _ (trivial) rfl (H.glob)
        case o6 =>
          intro L vs A W H hf hd K hK
          have e33 := H.is 5 33 rfl rfl rfl (deps_of' hd 5 (by kernel_rfl)) (by kernel_rfl)
          have e31 := H.is 2 31 rfl rfl rfl (deps_of' hd 2 (by kernel_rfl)) (by kernel_rfl)
          have d1 := H.glob.2.frozen 2
          have d2 : W.cell? ⟨n8, 2, none⟩ = some (.string s.v) := (by rw [H.glob.2.cell, hf]; rfl)
          go_simp
          refine hK undef _ trivial trivial ⟨H.glob.1.setCell (p := ⟨n8, 2, none⟩) (.inl rfl) _, ?_⟩
          have h2 := H.glob.2.set 2 (.string d.val)
          rw [show lset L 6 6 = true from rfl, if_pos rfl, show lset L 6 4 = L 4 from rfl]
          simpa using h2
        case he =>
          intro vs W hlen hv
          match vs, hlen, hv with
          | [x0_, x1_, x2_, x3_, x4_, x5_, x6_], _, hv =>
          obtain rfl : (.pointer (some ⟨n5, 1, none⟩)) = x0_ := by obtain ⟨z, h1, h2⟩ := hv 0 _ rfl; cases h1; exact h2.symm
          obtain rfl : (.pointer (some ⟨n5, 5, none⟩)) = x1_ := by obtain ⟨z, h1, h2⟩ := hv 1 _ rfl; cases h1; exact h2.symm
          obtain rfl : (.string d.val) = x2_ := by obtain ⟨z, h1, h2⟩ := hv 2 _ rfl; cases h1; exact h2.symm
          obtain rfl : (.pointer (some ⟨n8, 1, none⟩)) = x3_ := by obtain ⟨z, h1, h2⟩ := hv 3 _ rfl; cases h1; exact h2.symm
          obtain rfl : (.pointer (some ⟨n8, 2, none⟩)) = x5_ := by obtain ⟨z, h1, h2⟩ := hv 5 _ rfl; cases h1; exact h2.symm
          intro L hall hG
          clear hv hlen
          have h4 := hall 4 (by decide)
          have h6 := hall 6 (by decide)
          have hk8 := hG.2
          rw [h4, h6, if_pos rfl, if_pos rfl] at hk8
          have HKp := Lib.hid hG.1
          have HK8b := Lib.hid (show Blk W n8 (stCells ⟨s.dn ||| 1 <<< i, true, d.val⟩) 71 from by rw [HDv.out]; exact hk8)
          clear hG hall h4 h6 hk8
          simp only [fill, if_true]
          simp [Act.put]
        --END
          have HK9b := Lib.hid (HK9.out.kept HKp.out (show ¬ n9 = n8 from by have := HN9.out; omega))
          have k5 := (HK5.out.kept HKp.out HN58.out)
          have k6 := (HK6.out.kept HKp.out (show ¬ n6 = n8 from by have := HN.out; omega))
          have hBp := below_keeps HB5.out (Nat.le_refl _) HKp.out (fun k hk => by have := HN.out; omega)
          have k8 := HK8b.out
          clear HKp hv
          go_upto_region 9 with (fail)
          go_step
          refine wpList_plain rfl (fun K hK => ?_)
          go_simp
          refine hK _ _ ?_
          clear hK K
          refine wpList_store_rs rfl (.tmp 9) (.tmp 34) rfl n9 ⟨0, ⟨#[]⟩⟩ _ (ev_tmp (by simp)) (ev_tmp (by simp; rfl)) HK9b.out rfl ?_
          go_upto_region 13 with (fail)
          replace k5 := k5.rowOther (rsCells ⟨0, ⟨#[]⟩⟩) (show n5 ≠ n9 by have := HN.out; have := HN9.out; omega)
          replace k6 := k6.rowOther (rsCells ⟨0, ⟨#[]⟩⟩) (show n6 ≠ n9 by have := HN.out; have := HN9.out; omega)
          replace k8 := k8.rowOther (rsCells ⟨0, ⟨#[]⟩⟩) (show n8 ≠ n9 by have := HN9.out; omega)
          have k9 := HK9b.out.row (rsCells ⟨0, ⟨#[]⟩⟩)
          have hBF := below_keeps hBp (Nat.le_refl _) (keeps_setRow (Keeps.refl (fun k => k = n9) W) (g := n9) (.inl rfl) (rsCells ⟨0, ⟨#[]⟩⟩)) (fun k hk => by have := HN.out; have := HN9.out; omega)
          generalize W.setRow n9 (rsCells ⟨0, ⟨#[]⟩⟩) = WF at k5 k6 k8 k9 hBF ⊢
          obtain ⟨rF, hrF⟩ : ∃ rF : Rs, rF = ⟨0, ⟨#[]⟩⟩ := ⟨_, rfl⟩
          replace HAf := Lib.hid (show afterS s i d = ⟨dv, true, d.val⟩ ∧ codeS s d = rF.c ∧ valS s d = rF.v from by rw [hrF]; exact HAf.out)
          rw [← hrF] at k9
          obtain ⟨nS, hnS⟩ : ∃ nS : St, nS = ⟨dv, true, d.val⟩ := ⟨_, rfl⟩
          rw [HDv.out] at k8
          rw [← hnS] at HAf k8
          clear hrF hnS hBp HK8b HK9b
          have K5 := Lib.hid k5
          have K6 := Lib.hid k6
          have K8 := Lib.hid k8
          have K9 := Lib.hid k9
          have HBF := Lib.hid hBF
          have q1 : WF.cell? ⟨n9, 0, none⟩ = some (.int .i64 rF.c) := by rw [k9.cell]; rfl
          have q2 : WF.cell? ⟨n9, 1, none⟩ = some (.string rF.v) := by rw [k9.cell]; rfl
          have q3 : WF.cell? ⟨n5, 8, none⟩ = some (.int .i64 d.code) := by rw [k5.cell]; rfl
          have q4 : WF.cell? ⟨n5, 1, none⟩ = some (.int .i64 d.op) := by rw [k5.cell]; rfl
          have q5 : WF.cell? ⟨n5, 9, none⟩ = some (.string d.rv) := by rw [k5.cell]; rfl
          have q6 : WF.cell? ⟨n5, 7, none⟩ = some (.int .i64 d.en) := by rw [k5.cell]; rfl
          clear k5 k6 k8 k9 hBF
          by_cases hcd : rF.c = d.code
          · have e1 : (rF.c == d.code) = true := beq_iff_eq.2 hcd
            have Hcd := Lib.hid hcd
            clear hcd
            by_cases ho2 : d.op = 2
            · have e2 : (d.op != 2) = false := by simp [ho2]
              have Ho2 := Lib.hid ho2
              clear ho2
              obtain ⟨bv, hbv⟩ : ∃ bv, (rF.v.toList == d.rv.toList) = bv := ⟨_, rfl⟩
              have Hbv := Lib.hid ((str_eqD rF.v d.rv).symm.trans hbv)
              go_upto_region 14 with (fail)
              by_cases h7 : d.en < 0
              · have HF := Lib.hid (show rightS s d = true from by unfold rightS; simp [h7])
                have e7b : decide (d.en < 0) = true := decide_eq_true h7
                clear h7
                go_step
                refine wpList_load_stW rfl (.tmp 8) rfl n8 0 nS (ev_tmp (by simp)) K8.out.cellsAt ?_
                refine wpList_plain rfl (fun K hK => ?_)
                go_simp
                refine hK _ _ ?_
                clear hK K
                refine wpList_plain rfl (fun K hK => ?_)
                go_simp
                refine hK _ _ ?_
                clear hK K
                refine wpList_plain rfl (fun K hK => ?_)
                go_simp
                refine hK _ _ ?_
                clear hK K
                refine wpList_plain rfl (fun K hK => ?_)
                go_simp
                refine hK _ _ ?_
                clear hK K
                refine wpList_gno rfl ?_
                refine wpList_plain rfl (fun K hK => ?_)
                go_simp
                refine hK _ _ ?_
                clear hK K
                refine wpList_store_st rfl (.tmp 6) (.tmp 60) rfl n6 nS _ (ev_tmp (by simp [Act.put])) (ev_tmp (by simp [Act.put])) K6.out rfl ?_
                go_wp2_with (fail)
                refine bodyPost_ret (results_st2 rfl _ n6 nS rfl (K6.out.row (stCells nS))) rfl ⟨?_, ?_⟩
                · rw [HAf.out.1, HF.out]; rfl
                · exact below_keeps HBF.out (Nat.le_refl _) (keeps_setRow (Keeps.refl (fun k => k = n6) WF) (g := n6) (.inl rfl) (stCells nS)) (fun k hk => by have := HN.out; omega)
              · have HF := Lib.hid (show rightS s d = bv from by unfold rightS; rw [HAf.out.2.1, HAf.out.2.2]; simp only [decide_eq_false h7, Bool.false_or]; rw [decide_eq_true Hcd.out, Bool.true_and, Hbv.out]; simp [Ho2.out])
                have e7b : decide (d.en < 0) = false := decide_eq_false h7
                clear h7
                go_step
                refine wpList_load_stW rfl (.tmp 8) rfl n8 0 nS (ev_tmp (by simp)) K8.out.cellsAt ?_
                refine wpList_plain rfl (fun K hK => ?_)
                go_simp
                refine hK _ _ ?_
                clear hK K
                refine wpList_plain rfl (fun K hK => ?_)
                go_simp
                refine hK _ _ ?_
                clear hK K
                refine wpList_plain rfl (fun K hK => ?_)
                go_simp
                refine hK _ _ ?_
                clear hK K
                refine wpList_plain rfl (fun K hK => ?_)
                go_simp
                refine hK _ _ ?_
                clear hK K
                refine wpList_gyes rfl (fun K hK => ?_)
                go_simp
                refine hK _ _ ?_
                clear hK K
                refine wpList_plain rfl (fun K hK => ?_)
                go_simp
                refine hK _ _ ?_
                clear hK K
                refine wpList_store_st rfl (.tmp 6) (.tmp 60) rfl n6 nS _ (ev_tmp (by simp [Act.put])) (ev_tmp (by simp [Act.put])) K6.out rfl ?_
                go_wp2_with (fail)
                refine bodyPost_ret (results_st2 rfl _ n6 nS rfl (K6.out.row (stCells nS))) rfl ⟨?_, ?_⟩
                · rw [HAf.out.1, HF.out]; rfl
                · exact below_keeps HBF.out (Nat.le_refl _) (keeps_setRow (Keeps.refl (fun k => k = n6) WF) (g := n6) (.inl rfl) (stCells nS)) (fun k hk => by have := HN.out; omega)
            · have e2 : (d.op != 2) = true := by simp [ho2]
              have Ho2 := Lib.hid ho2
              clear ho2
              go_upto_region 14 with (fail)
              by_cases h7 : d.en < 0
              · have HF := Lib.hid (show rightS s d = true from by unfold rightS; simp [h7])
                have e7b : decide (d.en < 0) = true := decide_eq_true h7
                clear h7
                go_step
                refine wpList_load_stW rfl (.tmp 8) rfl n8 0 nS (ev_tmp (by simp)) K8.out.cellsAt ?_
                refine wpList_plain rfl (fun K hK => ?_)
                go_simp
                refine hK _ _ ?_
                clear hK K
                refine wpList_plain rfl (fun K hK => ?_)
                go_simp
                refine hK _ _ ?_
                clear hK K
                refine wpList_plain rfl (fun K hK => ?_)
                go_simp
                refine hK _ _ ?_
                clear hK K
                refine wpList_plain rfl (fun K hK => ?_)
                go_simp
                refine hK _ _ ?_
                clear hK K
                refine wpList_gno rfl ?_
                refine wpList_plain rfl (fun K hK => ?_)
                go_simp
                refine hK _ _ ?_
                clear hK K
                refine wpList_store_st rfl (.tmp 6) (.tmp 60) rfl n6 nS _ (ev_tmp (by simp [Act.put])) (ev_tmp (by simp [Act.put])) K6.out rfl ?_
                go_wp2_with (fail)
                refine bodyPost_ret (results_st2 rfl _ n6 nS rfl (K6.out.row (stCells nS))) rfl ⟨?_, ?_⟩
                · rw [HAf.out.1, HF.out]; rfl
                · exact below_keeps HBF.out (Nat.le_refl _) (keeps_setRow (Keeps.refl (fun k => k = n6) WF) (g := n6) (.inl rfl) (stCells nS)) (fun k hk => by have := HN.out; omega)
              · have HF := Lib.hid (show rightS s d = true from by unfold rightS; rw [HAf.out.2.1, HAf.out.2.2]; simp only [decide_eq_false h7, Bool.false_or]; simp [Hcd.out, Ho2.out])
                have e7b : decide (d.en < 0) = false := decide_eq_false h7
                clear h7
                go_step
                refine wpList_load_stW rfl (.tmp 8) rfl n8 0 nS (ev_tmp (by simp)) K8.out.cellsAt ?_
                refine wpList_plain rfl (fun K hK => ?_)
                go_simp
                refine hK _ _ ?_
                clear hK K
                refine wpList_plain rfl (fun K hK => ?_)
                go_simp
                refine hK _ _ ?_
                clear hK K
                refine wpList_plain rfl (fun K hK => ?_)
                go_simp
                refine hK _ _ ?_
                clear hK K
                refine wpList_plain rfl (fun K hK => ?_)
                go_simp
                refine hK _ _ ?_
                clear hK K
                refine wpList_gyes rfl (fun K hK => ?_)
                go_simp
                refine hK _ _ ?_
                clear hK K
                refine wpList_plain rfl (fun K hK => ?_)
                go_simp
                refine hK _ _ ?_
                clear hK K
                refine wpList_store_st rfl (.tmp 6) (.tmp 60) rfl n6 nS _ (ev_tmp (by simp [Act.put])) (ev_tmp (by simp [Act.put])) K6.out rfl ?_
                go_wp2_with (fail)
                refine bodyPost_ret (results_st2 rfl _ n6 nS rfl (K6.out.row (stCells nS))) rfl ⟨?_, ?_⟩
                · rw [HAf.out.1, HF.out]; rfl
                · exact below_keeps HBF.out (Nat.le_refl _) (keeps_setRow (Keeps.refl (fun k => k = n6) WF) (g := n6) (.inl rfl) (stCells nS)) (fun k hk => by have := HN.out; omega)
          · have e1 : (rF.c == d.code) = false := beq_eq_false_iff_ne.2 hcd
            have Hcd := Lib.hid hcd
            clear hcd
            go_upto_region 14 with (fail)
            by_cases h7 : d.en < 0
            · have HF := Lib.hid (show rightS s d = true from by unfold rightS; simp [h7])
              have e7b : decide (d.en < 0) = true := decide_eq_true h7
              clear h7
              go_step
              refine wpList_load_stW rfl (.tmp 8) rfl n8 0 nS (ev_tmp (by simp)) K8.out.cellsAt ?_
              refine wpList_plain rfl (fun K hK => ?_)
              go_simp
              refine hK _ _ ?_
              clear hK K
              refine wpList_plain rfl (fun K hK => ?_)
              go_simp
              refine hK _ _ ?_
              clear hK K
              refine wpList_plain rfl (fun K hK => ?_)
              go_simp
              refine hK _ _ ?_
              clear hK K
              refine wpList_plain rfl (fun K hK => ?_)
              go_simp
              refine hK _ _ ?_
              clear hK K
              refine wpList_gno rfl ?_
              refine wpList_plain rfl (fun K hK => ?_)
              go_simp
              refine hK _ _ ?_
              clear hK K
              refine wpList_store_st rfl (.tmp 6) (.tmp 60) rfl n6 nS _ (ev_tmp (by simp [Act.put])) (ev_tmp (by simp [Act.put])) K6.out rfl ?_
              go_wp2_with (fail)
              refine bodyPost_ret (results_st2 rfl _ n6 nS rfl (K6.out.row (stCells nS))) rfl ⟨?_, ?_⟩
              · rw [HAf.out.1, HF.out]; rfl
              · exact below_keeps HBF.out (Nat.le_refl _) (keeps_setRow (Keeps.refl (fun k => k = n6) WF) (g := n6) (.inl rfl) (stCells nS)) (fun k hk => by have := HN.out; omega)
            · have HF := Lib.hid (show rightS s d = false from by unfold rightS; rw [HAf.out.2.1, HAf.out.2.2]; simp only [decide_eq_false h7, Bool.false_or]; simp [Hcd.out])
              have e7b : decide (d.en < 0) = false := decide_eq_false h7
              clear h7
              go_step
              refine wpList_load_stW rfl (.tmp 8) rfl n8 0 nS (ev_tmp (by simp)) K8.out.cellsAt ?_
              refine wpList_plain rfl (fun K hK => ?_)
              go_simp
              refine hK _ _ ?_
              clear hK K
              refine wpList_plain rfl (fun K hK => ?_)
              go_simp
              refine hK _ _ ?_
              clear hK K
              refine wpList_plain rfl (fun K hK => ?_)
              go_simp
              refine hK _ _ ?_
              clear hK K
              refine wpList_plain rfl (fun K hK => ?_)
              go_simp
              refine hK _ _ ?_
              clear hK K
              refine wpList_gyes rfl (fun K hK => ?_)
              go_simp
              refine hK _ _ ?_
              clear hK K
              refine wpList_plain rfl (fun K hK => ?_)
              go_simp
              refine hK _ _ ?_
              clear hK K
              refine wpList_store_st rfl (.tmp 6) (.tmp 60) rfl n6 nS _ (ev_tmp (by simp [Act.put])) (ev_tmp (by simp [Act.put])) K6.out rfl ?_
              go_wp2_with (fail)
              refine bodyPost_ret (results_st2 rfl _ n6 nS rfl (K6.out.row (stCells nS))) rfl ⟨?_, ?_⟩
              · rw [HAf.out.1, HF.out]; rfl
              · exact below_keeps HBF.out (Nat.le_refl _) (keeps_setRow (Keeps.refl (fun k => k = n6) WF) (g := n6) (.inl rfl) (stCells nS)) (fun k hk => by have := HN.out; omega)
      · by_cases h3 : d.op = 3
        · have e1 : (d.op == 1) = false := beq_eq_false_iff_ne.2 h1
          have e3 : (d.op == 3) = true := beq_iff_eq.2 h3
          have HAf := Lib.hid (show afterS s i d = ⟨dv, false, ⟨#[]⟩⟩ ∧ codeS s d = r.c ∧ valS s d = ⟨#[]⟩ from by
            unfold afterS codeS valS; rw [if_neg h1, if_pos h3, if_neg h1, if_neg h1, if_pos h3, HDv.out, HR.out.1]; exact ⟨rfl, rfl, rfl⟩)
          have f1 := k8.frozen 1
          have f2 := k8.frozen 2
          have f3 := k9.frozen 1
          have g1 : W5.cell? ⟨n8, 1, none⟩ = some (.bool s.is) := by rw [k8.cell]; rfl
          have g2 : W5.cell? ⟨n8, 2, none⟩ = some (.string s.v) := by rw [k8.cell]; rfl
          have g3 : W5.cell? ⟨n9, 1, none⟩ = some (.string r.v) := by rw [k9.cell]; rfl
          have g4 : n8 ≠ n9 := by have := HN9.out; omega
          have g5 : n9 ≠ n8 := by have := HN9.out; omega
          clear h1 h3
          go_upto_region 13 with (fail)
          clear f1 f2 f3 g1 g2 g3 c1 e1 e3
          have hBF := below_keeps hB5 (Nat.le_refl _) ((((Keeps.refl (fun k => k = n8 ∨ k = n9) W5).setCell (p := ⟨n8, 1, none⟩) (.inl (.inl rfl)) (.bool false)).setCell (p := ⟨n8, 2, none⟩) (.inl (.inl rfl)) (.string ⟨#[]⟩)).setCell (p := ⟨n9, 1, none⟩) (.inl (.inr rfl)) (.string ⟨#[]⟩)) (fun k hk => by have := HN.out; have := HN9.out; omega)
          replace k5 := (((k5.other 1 (.bool false) HN58.out).other 2 (.string ⟨#[]⟩) HN58.out).other 1 (.string ⟨#[]⟩) (show n5 ≠ n9 by have := HN.out; have := HN9.out; omega))
          replace k6 := (((k6.other 1 (.bool false) (show n6 ≠ n8 by have := HN.out; omega)).other 2 (.string ⟨#[]⟩) (show n6 ≠ n8 by have := HN.out; omega)).other 1 (.string ⟨#[]⟩) (show n6 ≠ n9 by have := HN.out; have := HN9.out; omega))
          replace k8 := (((k8.set 1 (.bool false)).set 2 (.string ⟨#[]⟩)).other 1 (.string ⟨#[]⟩) g4)
          replace k9 := (((k9.other 1 (.bool false) g5).other 2 (.string ⟨#[]⟩) g5).set 1 (.string ⟨#[]⟩))
          clear g4 g5
          generalize (((W5.setCell ⟨n8, 1, none⟩ (.bool false)).setCell ⟨n8, 2, none⟩ (.string ⟨#[]⟩)).setCell ⟨n9, 1, none⟩ (.string ⟨#[]⟩)) = WF at k5 k6 k8 k9 hBF ⊢
          obtain ⟨rF, hrF⟩ : ∃ rF : Rs, rF = ⟨r.c, ⟨#[]⟩⟩ := ⟨_, rfl⟩
          replace HAf := Lib.hid (show afterS s i d = ⟨dv, false, ⟨#[]⟩⟩ ∧ codeS s d = rF.c ∧ valS s d = rF.v from by rw [hrF]; exact HAf.out)
          have k9' : Blk WF n9 (rsCells rF) 51 := by rw [hrF]; exact k9
          obtain ⟨nS, hnS⟩ : ∃ nS : St, nS = ⟨dv, false, ⟨#[]⟩⟩ := ⟨_, rfl⟩
          have k8' : Blk WF n8 (stCells nS) 71 := by rw [hnS]; exact k8
          rw [← hnS] at HAf
          clear k8 k9 hrF hnS
          have k8 := k8'
          have k9 := k9'
          clear k8' k9'
          have K5 := Lib.hid k5
          have K6 := Lib.hid k6
          have K8 := Lib.hid k8
          have K9 := Lib.hid k9
          have HBF := Lib.hid hBF
          have q1 : WF.cell? ⟨n9, 0, none⟩ = some (.int .i64 rF.c) := by rw [k9.cell]; rfl
          have q2 : WF.cell? ⟨n9, 1, none⟩ = some (.string rF.v) := by rw [k9.cell]; rfl
          have q3 : WF.cell? ⟨n5, 8, none⟩ = some (.int .i64 d.code) := by rw [k5.cell]; rfl
          have q4 : WF.cell? ⟨n5, 1, none⟩ = some (.int .i64 d.op) := by rw [k5.cell]; rfl
          have q5 : WF.cell? ⟨n5, 9, none⟩ = some (.string d.rv) := by rw [k5.cell]; rfl
          have q6 : WF.cell? ⟨n5, 7, none⟩ = some (.int .i64 d.en) := by rw [k5.cell]; rfl
          clear k5 k6 k8 k9 hBF
          by_cases hcd : rF.c = d.code
          · have e1 : (rF.c == d.code) = true := beq_iff_eq.2 hcd
            have Hcd := Lib.hid hcd
            clear hcd
            by_cases ho2 : d.op = 2
            · have e2 : (d.op != 2) = false := by simp [ho2]
              have Ho2 := Lib.hid ho2
              clear ho2
              obtain ⟨bv, hbv⟩ : ∃ bv, (rF.v.toList == d.rv.toList) = bv := ⟨_, rfl⟩
              have Hbv := Lib.hid ((str_eqD rF.v d.rv).symm.trans hbv)
              go_upto_region 14 with (fail)
              by_cases h7 : d.en < 0
              · have HF := Lib.hid (show rightS s d = true from by unfold rightS; simp [h7])
                have e7b : decide (d.en < 0) = true := decide_eq_true h7
                clear h7
                go_step
                refine wpList_load_stW rfl (.tmp 8) rfl n8 0 nS (ev_tmp (by simp)) K8.out.cellsAt ?_
                refine wpList_plain rfl (fun K hK => ?_)
                go_simp
                refine hK _ _ ?_
                clear hK K
                refine wpList_plain rfl (fun K hK => ?_)
                go_simp
                refine hK _ _ ?_
                clear hK K
                refine wpList_plain rfl (fun K hK => ?_)
                go_simp
                refine hK _ _ ?_
                clear hK K
                refine wpList_plain rfl (fun K hK => ?_)
                go_simp
                refine hK _ _ ?_
                clear hK K
                refine wpList_gno rfl ?_
                refine wpList_plain rfl (fun K hK => ?_)
                go_simp
                refine hK _ _ ?_
                clear hK K
                refine wpList_store_st rfl (.tmp 6) (.tmp 60) rfl n6 nS _ (ev_tmp (by simp [Act.put])) (ev_tmp (by simp [Act.put])) K6.out rfl ?_
                go_wp2_with (fail)
                refine bodyPost_ret (results_st2 rfl _ n6 nS rfl (K6.out.row (stCells nS))) rfl ⟨?_, ?_⟩
                · rw [HAf.out.1, HF.out]; rfl
                · exact below_keeps HBF.out (Nat.le_refl _) (keeps_setRow (Keeps.refl (fun k => k = n6) WF) (g := n6) (.inl rfl) (stCells nS)) (fun k hk => by have := HN.out; omega)
              · have HF := Lib.hid (show rightS s d = bv from by unfold rightS; rw [HAf.out.2.1, HAf.out.2.2]; simp only [decide_eq_false h7, Bool.false_or]; rw [decide_eq_true Hcd.out, Bool.true_and, Hbv.out]; simp [Ho2.out])
                have e7b : decide (d.en < 0) = false := decide_eq_false h7
                clear h7
                go_step
                refine wpList_load_stW rfl (.tmp 8) rfl n8 0 nS (ev_tmp (by simp)) K8.out.cellsAt ?_
                refine wpList_plain rfl (fun K hK => ?_)
                go_simp
                refine hK _ _ ?_
                clear hK K
                refine wpList_plain rfl (fun K hK => ?_)
                go_simp
                refine hK _ _ ?_
                clear hK K
                refine wpList_plain rfl (fun K hK => ?_)
                go_simp
                refine hK _ _ ?_
                clear hK K
                refine wpList_plain rfl (fun K hK => ?_)
                go_simp
                refine hK _ _ ?_
                clear hK K
                refine wpList_gyes rfl (fun K hK => ?_)
                go_simp
                refine hK _ _ ?_
                clear hK K
                refine wpList_plain rfl (fun K hK => ?_)
                go_simp
                refine hK _ _ ?_
                clear hK K
                refine wpList_store_st rfl (.tmp 6) (.tmp 60) rfl n6 nS _ (ev_tmp (by simp [Act.put])) (ev_tmp (by simp [Act.put])) K6.out rfl ?_
                go_wp2_with (fail)
                refine bodyPost_ret (results_st2 rfl _ n6 nS rfl (K6.out.row (stCells nS))) rfl ⟨?_, ?_⟩
                · rw [HAf.out.1, HF.out]; rfl
                · exact below_keeps HBF.out (Nat.le_refl _) (keeps_setRow (Keeps.refl (fun k => k = n6) WF) (g := n6) (.inl rfl) (stCells nS)) (fun k hk => by have := HN.out; omega)
            · have e2 : (d.op != 2) = true := by simp [ho2]
              have Ho2 := Lib.hid ho2
              clear ho2
              go_upto_region 14 with (fail)
              by_cases h7 : d.en < 0
              · have HF := Lib.hid (show rightS s d = true from by unfold rightS; simp [h7])
                have e7b : decide (d.en < 0) = true := decide_eq_true h7
                clear h7
                go_step
                refine wpList_load_stW rfl (.tmp 8) rfl n8 0 nS (ev_tmp (by simp)) K8.out.cellsAt ?_
                refine wpList_plain rfl (fun K hK => ?_)
                go_simp
                refine hK _ _ ?_
                clear hK K
                refine wpList_plain rfl (fun K hK => ?_)
                go_simp
                refine hK _ _ ?_
                clear hK K
                refine wpList_plain rfl (fun K hK => ?_)
                go_simp
                refine hK _ _ ?_
                clear hK K
                refine wpList_plain rfl (fun K hK => ?_)
                go_simp
                refine hK _ _ ?_
                clear hK K
                refine wpList_gno rfl ?_
                refine wpList_plain rfl (fun K hK => ?_)
                go_simp
                refine hK _ _ ?_
                clear hK K
                refine wpList_store_st rfl (.tmp 6) (.tmp 60) rfl n6 nS _ (ev_tmp (by simp [Act.put])) (ev_tmp (by simp [Act.put])) K6.out rfl ?_
                go_wp2_with (fail)
                refine bodyPost_ret (results_st2 rfl _ n6 nS rfl (K6.out.row (stCells nS))) rfl ⟨?_, ?_⟩
                · rw [HAf.out.1, HF.out]; rfl
                · exact below_keeps HBF.out (Nat.le_refl _) (keeps_setRow (Keeps.refl (fun k => k = n6) WF) (g := n6) (.inl rfl) (stCells nS)) (fun k hk => by have := HN.out; omega)
              · have HF := Lib.hid (show rightS s d = true from by unfold rightS; rw [HAf.out.2.1, HAf.out.2.2]; simp only [decide_eq_false h7, Bool.false_or]; simp [Hcd.out, Ho2.out])
                have e7b : decide (d.en < 0) = false := decide_eq_false h7
                clear h7
                go_step
                refine wpList_load_stW rfl (.tmp 8) rfl n8 0 nS (ev_tmp (by simp)) K8.out.cellsAt ?_
                refine wpList_plain rfl (fun K hK => ?_)
                go_simp
                refine hK _ _ ?_
                clear hK K
                refine wpList_plain rfl (fun K hK => ?_)
                go_simp
                refine hK _ _ ?_
                clear hK K
                refine wpList_plain rfl (fun K hK => ?_)
                go_simp
                refine hK _ _ ?_
                clear hK K
                refine wpList_plain rfl (fun K hK => ?_)
                go_simp
                refine hK _ _ ?_
                clear hK K
                refine wpList_gyes rfl (fun K hK => ?_)
                go_simp
                refine hK _ _ ?_
                clear hK K
                refine wpList_plain rfl (fun K hK => ?_)
                go_simp
                refine hK _ _ ?_
                clear hK K
                refine wpList_store_st rfl (.tmp 6) (.tmp 60) rfl n6 nS _ (ev_tmp (by simp [Act.put])) (ev_tmp (by simp [Act.put])) K6.out rfl ?_
                go_wp2_with (fail)
                refine bodyPost_ret (results_st2 rfl _ n6 nS rfl (K6.out.row (stCells nS))) rfl ⟨?_, ?_⟩
                · rw [HAf.out.1, HF.out]; rfl
                · exact below_keeps HBF.out (Nat.le_refl _) (keeps_setRow (Keeps.refl (fun k => k = n6) WF) (g := n6) (.inl rfl) (stCells nS)) (fun k hk => by have := HN.out; omega)
          · have e1 : (rF.c == d.code) = false := beq_eq_false_iff_ne.2 hcd
            have Hcd := Lib.hid hcd
            clear hcd
            go_upto_region 14 with (fail)
            by_cases h7 : d.en < 0
            · have HF := Lib.hid (show rightS s d = true from by unfold rightS; simp [h7])
              have e7b : decide (d.en < 0) = true := decide_eq_true h7
              clear h7
              go_step
              refine wpList_load_stW rfl (.tmp 8) rfl n8 0 nS (ev_tmp (by simp)) K8.out.cellsAt ?_
              refine wpList_plain rfl (fun K hK => ?_)
              go_simp
              refine hK _ _ ?_
              clear hK K
              refine wpList_plain rfl (fun K hK => ?_)
              go_simp
              refine hK _ _ ?_
              clear hK K
              refine wpList_plain rfl (fun K hK => ?_)
              go_simp
              refine hK _ _ ?_
              clear hK K
              refine wpList_plain rfl (fun K hK => ?_)
              go_simp
              refine hK _ _ ?_
              clear hK K
              refine wpList_gno rfl ?_
              refine wpList_plain rfl (fun K hK => ?_)
              go_simp
              refine hK _ _ ?_
              clear hK K
              refine wpList_store_st rfl (.tmp 6) (.tmp 60) rfl n6 nS _ (ev_tmp (by simp [Act.put])) (ev_tmp (by simp [Act.put])) K6.out rfl ?_
              go_wp2_with (fail)
              refine bodyPost_ret (results_st2 rfl _ n6 nS rfl (K6.out.row (stCells nS))) rfl ⟨?_, ?_⟩
              · rw [HAf.out.1, HF.out]; rfl
              · exact below_keeps HBF.out (Nat.le_refl _) (keeps_setRow (Keeps.refl (fun k => k = n6) WF) (g := n6) (.inl rfl) (stCells nS)) (fun k hk => by have := HN.out; omega)
            · have HF := Lib.hid (show rightS s d = false from by unfold rightS; rw [HAf.out.2.1, HAf.out.2.2]; simp only [decide_eq_false h7, Bool.false_or]; simp [Hcd.out])
              have e7b : decide (d.en < 0) = false := decide_eq_false h7
              clear h7
              go_step
              refine wpList_load_stW rfl (.tmp 8) rfl n8 0 nS (ev_tmp (by simp)) K8.out.cellsAt ?_
              refine wpList_plain rfl (fun K hK => ?_)
              go_simp
              refine hK _ _ ?_
              clear hK K
              refine wpList_plain rfl (fun K hK => ?_)
              go_simp
              refine hK _ _ ?_
              clear hK K
              refine wpList_plain rfl (fun K hK => ?_)
              go_simp
              refine hK _ _ ?_
              clear hK K
              refine wpList_plain rfl (fun K hK => ?_)
              go_simp
              refine hK _ _ ?_
              clear hK K
              refine wpList_gyes rfl (fun K hK => ?_)
              go_simp
              refine hK _ _ ?_
              clear hK K
              refine wpList_plain rfl (fun K hK => ?_)
              go_simp
              refine hK _ _ ?_
              clear hK K
              refine wpList_store_st rfl (.tmp 6) (.tmp 60) rfl n6 nS _ (ev_tmp (by simp [Act.put])) (ev_tmp (by simp [Act.put])) K6.out rfl ?_
              go_wp2_with (fail)
              refine bodyPost_ret (results_st2 rfl _ n6 nS rfl (K6.out.row (stCells nS))) rfl ⟨?_, ?_⟩
              · rw [HAf.out.1, HF.out]; rfl
              · exact below_keeps HBF.out (Nat.le_refl _) (keeps_setRow (Keeps.refl (fun k => k = n6) WF) (g := n6) (.inl rfl) (stCells nS)) (fun k hk => by have := HN.out; omega)
        · have e1 : (d.op == 1) = false := beq_eq_false_iff_ne.2 h1
          have e3 : (d.op == 3) = false := beq_eq_false_iff_ne.2 h3
          have HAf := Lib.hid (show afterS s i d = ⟨dv, s.is, s.v⟩ ∧ codeS s d = r.c ∧ valS s d = r.v from by
            unfold afterS codeS valS; rw [if_neg h1, if_neg h3, if_neg h1, if_neg h1, if_neg h3, HDv.out, HR.out.1, HR.out.2]; exact ⟨rfl, rfl, rfl⟩)
          clear h1 h3 c1
          have hk8' : Blk W5 n8 (stCells ⟨dv, s.is, s.v⟩) 71 := k8
          obtain ⟨nS, hnS⟩ : ∃ nS : St, nS = ⟨dv, s.is, s.v⟩ := ⟨_, rfl⟩
          rw [← hnS] at HAf hk8'
          have c1 : W5.cell? ⟨n5, 1, none⟩ = some (.int .i64 d.op) := by rw [k5.cell]; rfl
          go_upto_region 13 with (fail)
          clear c1 e1 e3 hnS k8
          generalize W5 = WF at k5 k6 hk8' k9 hB5 ⊢
          have k8 := hk8'
          have hBF := hB5
          generalize r = rF at HAf k9 ⊢
          clear hk8'
          have K5 := Lib.hid k5
          have K6 := Lib.hid k6
          have K8 := Lib.hid k8
          have K9 := Lib.hid k9
          have HBF := Lib.hid hBF
          have q1 : WF.cell? ⟨n9, 0, none⟩ = some (.int .i64 rF.c) := by rw [k9.cell]; rfl
          have q2 : WF.cell? ⟨n9, 1, none⟩ = some (.string rF.v) := by rw [k9.cell]; rfl
          have q3 : WF.cell? ⟨n5, 8, none⟩ = some (.int .i64 d.code) := by rw [k5.cell]; rfl
          have q4 : WF.cell? ⟨n5, 1, none⟩ = some (.int .i64 d.op) := by rw [k5.cell]; rfl
          have q5 : WF.cell? ⟨n5, 9, none⟩ = some (.string d.rv) := by rw [k5.cell]; rfl
          have q6 : WF.cell? ⟨n5, 7, none⟩ = some (.int .i64 d.en) := by rw [k5.cell]; rfl
          clear k5 k6 k8 k9 hBF
          by_cases hcd : rF.c = d.code
          · have e1 : (rF.c == d.code) = true := beq_iff_eq.2 hcd
            have Hcd := Lib.hid hcd
            clear hcd
            by_cases ho2 : d.op = 2
            · have e2 : (d.op != 2) = false := by simp [ho2]
              have Ho2 := Lib.hid ho2
              clear ho2
              obtain ⟨bv, hbv⟩ : ∃ bv, (rF.v.toList == d.rv.toList) = bv := ⟨_, rfl⟩
              have Hbv := Lib.hid ((str_eqD rF.v d.rv).symm.trans hbv)
              go_upto_region 14 with (fail)
              by_cases h7 : d.en < 0
              · have HF := Lib.hid (show rightS s d = true from by unfold rightS; simp [h7])
                have e7b : decide (d.en < 0) = true := decide_eq_true h7
                clear h7
                go_step
                refine wpList_load_stW rfl (.tmp 8) rfl n8 0 nS (ev_tmp (by simp)) K8.out.cellsAt ?_
                refine wpList_plain rfl (fun K hK => ?_)
                go_simp
                refine hK _ _ ?_
                clear hK K
                refine wpList_plain rfl (fun K hK => ?_)
                go_simp
                refine hK _ _ ?_
                clear hK K
                refine wpList_plain rfl (fun K hK => ?_)
                go_simp
                refine hK _ _ ?_
                clear hK K
                refine wpList_plain rfl (fun K hK => ?_)
                go_simp
                refine hK _ _ ?_
                clear hK K
                refine wpList_gno rfl ?_
                refine wpList_plain rfl (fun K hK => ?_)
                go_simp
                refine hK _ _ ?_
                clear hK K
                refine wpList_store_st rfl (.tmp 6) (.tmp 60) rfl n6 nS _ (ev_tmp (by simp [Act.put])) (ev_tmp (by simp [Act.put])) K6.out rfl ?_
                go_wp2_with (fail)
                refine bodyPost_ret (results_st2 rfl _ n6 nS rfl (K6.out.row (stCells nS))) rfl ⟨?_, ?_⟩
                · rw [HAf.out.1, HF.out]; rfl
                · exact below_keeps HBF.out (Nat.le_refl _) (keeps_setRow (Keeps.refl (fun k => k = n6) WF) (g := n6) (.inl rfl) (stCells nS)) (fun k hk => by have := HN.out; omega)
              · have HF := Lib.hid (show rightS s d = bv from by unfold rightS; rw [HAf.out.2.1, HAf.out.2.2]; simp only [decide_eq_false h7, Bool.false_or]; rw [decide_eq_true Hcd.out, Bool.true_and, Hbv.out]; simp [Ho2.out])
                have e7b : decide (d.en < 0) = false := decide_eq_false h7
                clear h7
                go_step
                refine wpList_load_stW rfl (.tmp 8) rfl n8 0 nS (ev_tmp (by simp)) K8.out.cellsAt ?_
                refine wpList_plain rfl (fun K hK => ?_)
                go_simp
                refine hK _ _ ?_
                clear hK K
                refine wpList_plain rfl (fun K hK => ?_)
                go_simp
                refine hK _ _ ?_
                clear hK K
                refine wpList_plain rfl (fun K hK => ?_)
                go_simp
                refine hK _ _ ?_
                clear hK K
                refine wpList_plain rfl (fun K hK => ?_)
                go_simp
                refine hK _ _ ?_
                clear hK K
                refine wpList_gyes rfl (fun K hK => ?_)
                go_simp
                refine hK _ _ ?_
                clear hK K
                refine wpList_plain rfl (fun K hK => ?_)
                go_simp
                refine hK _ _ ?_
                clear hK K
                refine wpList_store_st rfl (.tmp 6) (.tmp 60) rfl n6 nS _ (ev_tmp (by simp [Act.put])) (ev_tmp (by simp [Act.put])) K6.out rfl ?_
                go_wp2_with (fail)
                refine bodyPost_ret (results_st2 rfl _ n6 nS rfl (K6.out.row (stCells nS))) rfl ⟨?_, ?_⟩
                · rw [HAf.out.1, HF.out]; rfl
                · exact below_keeps HBF.out (Nat.le_refl _) (keeps_setRow (Keeps.refl (fun k => k = n6) WF) (g := n6) (.inl rfl) (stCells nS)) (fun k hk => by have := HN.out; omega)
            · have e2 : (d.op != 2) = true := by simp [ho2]
              have Ho2 := Lib.hid ho2
              clear ho2
              go_upto_region 14 with (fail)
              by_cases h7 : d.en < 0
              · have HF := Lib.hid (show rightS s d = true from by unfold rightS; simp [h7])
                have e7b : decide (d.en < 0) = true := decide_eq_true h7
                clear h7
                go_step
                refine wpList_load_stW rfl (.tmp 8) rfl n8 0 nS (ev_tmp (by simp)) K8.out.cellsAt ?_
                refine wpList_plain rfl (fun K hK => ?_)
                go_simp
                refine hK _ _ ?_
                clear hK K
                refine wpList_plain rfl (fun K hK => ?_)
                go_simp
                refine hK _ _ ?_
                clear hK K
                refine wpList_plain rfl (fun K hK => ?_)
                go_simp
                refine hK _ _ ?_
                clear hK K
                refine wpList_plain rfl (fun K hK => ?_)
                go_simp
                refine hK _ _ ?_
                clear hK K
                refine wpList_gno rfl ?_
                refine wpList_plain rfl (fun K hK => ?_)
                go_simp
                refine hK _ _ ?_
                clear hK K
                refine wpList_store_st rfl (.tmp 6) (.tmp 60) rfl n6 nS _ (ev_tmp (by simp [Act.put])) (ev_tmp (by simp [Act.put])) K6.out rfl ?_
                go_wp2_with (fail)
                refine bodyPost_ret (results_st2 rfl _ n6 nS rfl (K6.out.row (stCells nS))) rfl ⟨?_, ?_⟩
                · rw [HAf.out.1, HF.out]; rfl
                · exact below_keeps HBF.out (Nat.le_refl _) (keeps_setRow (Keeps.refl (fun k => k = n6) WF) (g := n6) (.inl rfl) (stCells nS)) (fun k hk => by have := HN.out; omega)
              · have HF := Lib.hid (show rightS s d = true from by unfold rightS; rw [HAf.out.2.1, HAf.out.2.2]; simp only [decide_eq_false h7, Bool.false_or]; simp [Hcd.out, Ho2.out])
                have e7b : decide (d.en < 0) = false := decide_eq_false h7
                clear h7
                go_step
                refine wpList_load_stW rfl (.tmp 8) rfl n8 0 nS (ev_tmp (by simp)) K8.out.cellsAt ?_
                refine wpList_plain rfl (fun K hK => ?_)
                go_simp
                refine hK _ _ ?_
                clear hK K
                refine wpList_plain rfl (fun K hK => ?_)
                go_simp
                refine hK _ _ ?_
                clear hK K
                refine wpList_plain rfl (fun K hK => ?_)
                go_simp
                refine hK _ _ ?_
                clear hK K
                refine wpList_plain rfl (fun K hK => ?_)
                go_simp
                refine hK _ _ ?_
                clear hK K
                refine wpList_gyes rfl (fun K hK => ?_)
                go_simp
                refine hK _ _ ?_
                clear hK K
                refine wpList_plain rfl (fun K hK => ?_)
                go_simp
                refine hK _ _ ?_
                clear hK K
                refine wpList_store_st rfl (.tmp 6) (.tmp 60) rfl n6 nS _ (ev_tmp (by simp [Act.put])) (ev_tmp (by simp [Act.put])) K6.out rfl ?_
                go_wp2_with (fail)
                refine bodyPost_ret (results_st2 rfl _ n6 nS rfl (K6.out.row (stCells nS))) rfl ⟨?_, ?_⟩
                · rw [HAf.out.1, HF.out]; rfl
                · exact below_keeps HBF.out (Nat.le_refl _) (keeps_setRow (Keeps.refl (fun k => k = n6) WF) (g := n6) (.inl rfl) (stCells nS)) (fun k hk => by have := HN.out; omega)
          · have e1 : (rF.c == d.code) = false := beq_eq_false_iff_ne.2 hcd
            have Hcd := Lib.hid hcd
            clear hcd
            go_upto_region 14 with (fail)
            by_cases h7 : d.en < 0
            · have HF := Lib.hid (show rightS s d = true from by unfold rightS; simp [h7])
              have e7b : decide (d.en < 0) = true := decide_eq_true h7
              clear h7
              go_step
              refine wpList_load_stW rfl (.tmp 8) rfl n8 0 nS (ev_tmp (by simp)) K8.out.cellsAt ?_
              refine wpList_plain rfl (fun K hK => ?_)
              go_simp
              refine hK _ _ ?_
              clear hK K
              refine wpList_plain rfl (fun K hK => ?_)
              go_simp
              refine hK _ _ ?_
              clear hK K
              refine wpList_plain rfl (fun K hK => ?_)
              go_simp
              refine hK _ _ ?_
              clear hK K
              refine wpList_plain rfl (fun K hK => ?_)
              go_simp
              refine hK _ _ ?_
              clear hK K
              refine wpList_gno rfl ?_
              refine wpList_plain rfl (fun K hK => ?_)
              go_simp
              refine hK _ _ ?_
              clear hK K
              refine wpList_store_st rfl (.tmp 6) (.tmp 60) rfl n6 nS _ (ev_tmp (by simp [Act.put])) (ev_tmp (by simp [Act.put])) K6.out rfl ?_
              go_wp2_with (fail)
              refine bodyPost_ret (results_st2 rfl _ n6 nS rfl (K6.out.row (stCells nS))) rfl ⟨?_, ?_⟩
              · rw [HAf.out.1, HF.out]; rfl
              · exact below_keeps HBF.out (Nat.le_refl _) (keeps_setRow (Keeps.refl (fun k => k = n6) WF) (g := n6) (.inl rfl) (stCells nS)) (fun k hk => by have := HN.out; omega)
            · have HF := Lib.hid (show rightS s d = false from by unfold rightS; rw [HAf.out.2.1, HAf.out.2.2]; simp only [decide_eq_false h7, Bool.false_or]; simp [Hcd.out])
              have e7b : decide (d.en < 0) = false := decide_eq_false h7
              clear h7
              go_step
              refine wpList_load_stW rfl (.tmp 8) rfl n8 0 nS (ev_tmp (by simp)) K8.out.cellsAt ?_
              refine wpList_plain rfl (fun K hK => ?_)
              go_simp
              refine hK _ _ ?_
              clear hK K
              refine wpList_plain rfl (fun K hK => ?_)
              go_simp
              refine hK _ _ ?_
              clear hK K
              refine wpList_plain rfl (fun K hK => ?_)
              go_simp
              refine hK _ _ ?_
              clear hK K
              refine wpList_plain rfl (fun K hK => ?_)
              go_simp
              refine hK _ _ ?_
              clear hK K
              refine wpList_gyes rfl (fun K hK => ?_)
              go_simp
              refine hK _ _ ?_
              clear hK K
              refine wpList_plain rfl (fun K hK => ?_)
              go_simp
              refine hK _ _ ?_
              clear hK K
              refine wpList_store_st rfl (.tmp 6) (.tmp 60) rfl n6 nS _ (ev_tmp (by simp [Act.put])) (ev_tmp (by simp [Act.put])) K6.out rfl ?_
              go_wp2_with (fail)
              refine bodyPost_ret (results_st2 rfl _ n6 nS rfl (K6.out.row (stCells nS))) rfl ⟨?_, ?_⟩
              · rw [HAf.out.1, HF.out]; rfl
              · exact below_keeps HBF.out (Nat.le_refl _) (keeps_setRow (Keeps.refl (fun k => k = n6) WF) (g := n6) (.inl rfl) (stCells nS)) (fun k hk => by have := HN.out; omega)
end Go.Proofs.Ytdmcakoaakinnaa
