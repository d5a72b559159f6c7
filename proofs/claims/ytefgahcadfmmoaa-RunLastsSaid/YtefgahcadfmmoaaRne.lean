/-
  A RUN at nothing, of no memory, of no client, that is over, of no stores, at a store that may not be; Left: contracts.
-/
import Derived.Test.YtefgahcadfmmoaaRnc
namespace Go.Proofs.Ytefgahcadfmmoaa
open Go.RowKit
attribute [local go_sem] Oper.semAt_some
set_option linter.unusedVariables false

set_option maxRecDepth 100000 in
set_option maxHeartbeats 40000000 in
theorem rstep_store (w : World) (rb mb : Nat) (S : Nat → Prop) (r r' : Rn) (c : Nat) (vw is : List Int) (mk : Int → Nat → Int) (F : Int → List (Int × Int)) (lo st fl fe : Int) (dd : Bool) (er : Int) (R : World → Prop)
    (hb : Blk w rb (rnCells r) 41) (hmv : r.mv = some ⟨mb, 0, none⟩) (hcl : r.c = (c : Int)) (hm : MemP w mb S vw is mk F lo st fl fe) (hc : c ≤ 64) (hst : r.next = rphV rb 30) (hov : r.over = false)
    (hcall : Calls Try.prog 30 #[.pointer (some ⟨rb, 0, none⟩)] w fun e w' => e = .returned (.tuple #[.bool dd, .int .i64 er]) ∧ Blk w' rb (rnCells r') 41 ∧ R w') :
    Calls Try.prog 12 #[.pointer (some ⟨rb, 0, none⟩)] w fun e w' => e = .returned (.tuple #[.bool dd, .int .i64 er]) ∧ ∃ W2, R W2 ∧ Keeps (fun i => i = rb) W2 w' ∧ Blk w' rb (rnCells { r' with over := dd, e := er }) 41 := by
  have hq1 := nil_eq
  have hq2 := fn_eq 30
  have HSz := Lib.hid (size_m hm)
  have HLd := Lib.hid hcall
  have c0 : w.cell? ⟨rb, 0, none⟩ = some (.pointer (some ⟨mb, 0, none⟩)) := (hb.cell 0).trans (by rw [← hmv]; rfl)
  have c1 : w.cell? ⟨rb, 1, none⟩ = some (.int .i64 (c : Int)) := (hb.cell 1).trans (by rw [← hcl]; rfl)
  have c4 : w.cell? ⟨rb, 4, none⟩ = some (.func (.func 30) #[.pointer (some ⟨rb, 0, none⟩)] #[]) := (hb.cell 4).trans (by show some r.next = _; rw [hst]; rfl)
  have c5 : w.cell? ⟨rb, 5, none⟩ = some (.bool false) := (hb.cell 5).trans (by rw [← hov]; rfl)
  have hz : ((8 * (vw.length : Int)) == 0) = false := beq_eq_false_iff_ne.2 (by have := hm.pos; omega)
  have hc0 : ¬ (c : Int) < 0 := by omega
  have hc1 : ¬ (64 : Int) < (c : Int) := by omega
  clear hb hmv hcl hm hst hov hcall hc
  go_enter Try.func12, Try.ntmps12
  go_wp2_with (go_at_call 31; refine HSz.out.mono ?_; rintro e w1 ⟨rfl, rfl⟩)
  refine HLd.out.mono ?_
  rintro e w1 ⟨rfl, hb1, hR1⟩
  have hb5 := (hb1.set 5 (.bool dd)).set 6 (.int .i64 er)
  rw [rn_set5, rn_set6] at hb5
  have f5 : w1.frozen? ⟨rb, 5, none⟩ = false := hb1.frozen 5
  have f6 : (w1.setCell ⟨rb, 5, none⟩ (.bool dd)).frozen? ⟨rb, 6, none⟩ = false := (hb1.set 5 _).frozen 6
  have g5 : w1.cell? ⟨rb, 5, none⟩ = some (.bool r'.over) := hb1.cell 5
  have g6 : (w1.setCell ⟨rb, 5, none⟩ (.bool dd)).cell? ⟨rb, 6, none⟩ = some (.int .i64 r'.e) := (hb1.set 5 _).cell 6
  have k5 : Keeps (fun k => k = rb) w1 ((w1.setCell ⟨rb, 5, none⟩ (.bool dd)).setCell ⟨rb, 6, none⟩ (.int .i64 er)) := ((Keeps.refl (fun k => k = rb) w1).setCell (p := ⟨rb, 5, none⟩) (.inl rfl) _).setCell (p := ⟨rb, 6, none⟩) (.inl rfl) _
  have HB5 := Lib.hid hb5
  have HK5 := Lib.hid k5
  have HR1 := Lib.hid hR1
  clear hb5 k5 hb1 hR1
  go_wp2_with (fail)
  obtain ⟨W5, hW5⟩ : ∃ W5, W5 = ((w1.setCell ⟨rb, 5, none⟩ (.bool dd)).setCell ⟨rb, 6, none⟩ (.int .i64 er)) := ⟨_, rfl⟩
  rw [← hW5] at HB5 HK5 ⊢
  have HC5 := Lib.hid (show W5.cell? ⟨rb, 5, none⟩ = some (.bool dd) ∧ W5.cell? ⟨rb, 6, none⟩ = some (.int .i64 er) from ⟨HB5.out.cell 5, HB5.out.cell 6⟩)
  clear hW5 f5 f6 g5 g6
  --GEN r_rn9
  refine wp_region_vals [Is (.pointer (some ⟨rb, 0, none⟩)), Is (.pointer (some ⟨rb, 0, none⟩)), Is (.pointer (some ⟨rb, 5, none⟩)), Is (.bool dd), Is (.pointer (some ⟨rb, 0, none⟩)), Is (.pointer (some ⟨rb, 0, none⟩)), Is (.pointer (some ⟨rb, 6, none⟩)), Is (.int .i64 er), Is (.bool dd), Is (.int .i64 er)]
    (fun _ _ _ => True) (fun _ W => W = W5.drew) (by kernel_rfl) (by kernel_rfl) (by kernel_rfl) ?hst ?h0 ⟨?o0, ?o1, ?o2, ?o3, ?o4, ?o5, ?o6, ?o7, ?o8, ?o9, trivial⟩ ?he
  case hst =>
    exact ⟨(fun _ _ _ _ _ _ h _ => h), (fun _ _ _ _ _ _ h _ => h), (fun _ _ _ _ _ _ h _ => h), (fun _ _ _ _ _ _ h _ => h), (fun _ _ _ _ _ _ h _ => h), (fun _ _ _ _ _ _ h _ => h), (fun _ _ _ _ _ _ h _ => h), (fun _ _ _ _ _ _ h _ => h), (fun _ _ _ _ _ _ h _ => h), (fun _ _ _ _ _ _ h _ => h), trivial⟩
  case h0 =>
    exact rfl
  case o0 =>
    intro L vs A W H hf hd K hK
    have e0 : A.tmps[0]?.getD undef = .pointer (some ⟨rb, 0, none⟩) := H.old 0 (by kernel_rfl)
    go_simp
    exact hK _ _ (trivial) rfl (H.glob)
  case o1 =>
    intro L vs A W H hf hd K hK
    have e65 := H.is 0 65 rfl rfl rfl (deps_of' hd 0 (by kernel_rfl)) (by kernel_rfl)
    go_simp
    exact hK _ _ (trivial) rfl (H.glob)
  case o2 =>
    intro L vs A W H hf hd K hK
    have e66 := H.is 1 66 rfl rfl rfl (deps_of' hd 1 (by kernel_rfl)) (by kernel_rfl)
    go_simp
    exact hK _ _ (trivial) rfl (H.glob)
  case o3 =>
    intro L vs A W H hf hd K hK
    have e67 := H.is 2 67 rfl rfl rfl (deps_of' hd 2 (by kernel_rfl)) (by kernel_rfl)
    have d : W.cell? ⟨rb, 5, none⟩ = some (.bool dd) := (by rw [H.glob]; exact HC5.out.1)
    go_simp
    exact hK _ _ (trivial) rfl (H.glob)
  case o4 =>
    intro L vs A W H hf hd K hK
    have e0 : A.tmps[0]?.getD undef = .pointer (some ⟨rb, 0, none⟩) := H.old 0 (by kernel_rfl)
    go_simp
    exact hK _ _ (trivial) rfl (H.glob)
  case o5 =>
    intro L vs A W H hf hd K hK
    have e69 := H.is 4 69 rfl rfl rfl (deps_of' hd 4 (by kernel_rfl)) (by kernel_rfl)
    go_simp
    exact hK _ _ (trivial) rfl (H.glob)
  case o6 =>
    intro L vs A W H hf hd K hK
    have e70 := H.is 5 70 rfl rfl rfl (deps_of' hd 5 (by kernel_rfl)) (by kernel_rfl)
    go_simp
    exact hK _ _ (trivial) rfl (H.glob)
  case o7 =>
    intro L vs A W H hf hd K hK
    have e71 := H.is 6 71 rfl rfl rfl (deps_of' hd 6 (by kernel_rfl)) (by kernel_rfl)
    have d : W.cell? ⟨rb, 6, none⟩ = some (.int .i64 er) := (by rw [H.glob]; exact HC5.out.2)
    go_simp
    exact hK _ _ (trivial) rfl (H.glob)
  case o8 =>
    intro L vs A W H hf hd K hK
    have e68 := H.is 3 68 rfl rfl rfl (deps_of' hd 3 (by kernel_rfl)) (by kernel_rfl)
    go_simp
    exact hK _ _ (trivial) rfl (H.glob)
  case o9 =>
    intro L vs A W H hf hd K hK
    have e72 := H.is 7 72 rfl rfl rfl (deps_of' hd 7 (by kernel_rfl)) (by kernel_rfl)
    go_simp
    exact hK _ _ (trivial) rfl (H.glob)
  case he =>
    intro vs W hlen hv
    match vs, hlen, hv with
    | [x0_, x1_, x2_, x3_, x4_, x5_, x6_, x7_, x8_, x9_], _, hv =>
    obtain rfl : (.pointer (some ⟨rb, 0, none⟩)) = x0_ := by obtain ⟨z, h1, h2⟩ := hv 0 _ rfl; cases h1; exact h2.symm
    obtain rfl : (.pointer (some ⟨rb, 0, none⟩)) = x1_ := by obtain ⟨z, h1, h2⟩ := hv 1 _ rfl; cases h1; exact h2.symm
    obtain rfl : (.pointer (some ⟨rb, 5, none⟩)) = x2_ := by obtain ⟨z, h1, h2⟩ := hv 2 _ rfl; cases h1; exact h2.symm
    obtain rfl : (.bool dd) = x3_ := by obtain ⟨z, h1, h2⟩ := hv 3 _ rfl; cases h1; exact h2.symm
    obtain rfl : (.pointer (some ⟨rb, 0, none⟩)) = x4_ := by obtain ⟨z, h1, h2⟩ := hv 4 _ rfl; cases h1; exact h2.symm
    obtain rfl : (.pointer (some ⟨rb, 0, none⟩)) = x5_ := by obtain ⟨z, h1, h2⟩ := hv 5 _ rfl; cases h1; exact h2.symm
    obtain rfl : (.pointer (some ⟨rb, 6, none⟩)) = x6_ := by obtain ⟨z, h1, h2⟩ := hv 6 _ rfl; cases h1; exact h2.symm
    obtain rfl : (.int .i64 er) = x7_ := by obtain ⟨z, h1, h2⟩ := hv 7 _ rfl; cases h1; exact h2.symm
    obtain rfl : (.bool dd) = x8_ := by obtain ⟨z, h1, h2⟩ := hv 8 _ rfl; cases h1; exact h2.symm
    obtain rfl : (.int .i64 er) = x9_ := by obtain ⟨z, h1, h2⟩ := hv 9 _ rfl; cases h1; exact h2.symm
    intro L hall hG
    clear hv hlen
    have HW := hG
    clear hG hall
    subst HW
    simp only [fill, if_true]
  --END
    simp [Act.put]
    go_wp2_with (fail)
    go_ret2
    exact ⟨rfl, w1, HR1.out, HK5.out.drew, HB5.out.drew⟩
set_option maxRecDepth 100000 in
set_option maxHeartbeats 40000000 in
theorem rstep_flush (w : World) (rb mb : Nat) (S : Nat → Prop) (r r' : Rn) (c : Nat) (vw is : List Int) (mk : Int → Nat → Int) (F : Int → List (Int × Int)) (lo st fl fe : Int) (dd : Bool) (er : Int) (R : World → Prop)
    (hb : Blk w rb (rnCells r) 41) (hmv : r.mv = some ⟨mb, 0, none⟩) (hcl : r.c = (c : Int)) (hm : MemP w mb S vw is mk F lo st fl fe) (hc : c ≤ 64) (hst : r.next = rphV rb 45) (hov : r.over = false)
    (hcall : Calls Try.prog 45 #[.pointer (some ⟨rb, 0, none⟩)] w fun e w' => e = .returned (.tuple #[.bool dd, .int .i64 er]) ∧ Blk w' rb (rnCells r') 41 ∧ R w') :
    Calls Try.prog 12 #[.pointer (some ⟨rb, 0, none⟩)] w fun e w' => e = .returned (.tuple #[.bool dd, .int .i64 er]) ∧ ∃ W2, R W2 ∧ Keeps (fun i => i = rb) W2 w' ∧ Blk w' rb (rnCells { r' with over := dd, e := er }) 41 := by
  have hq1 := nil_eq
  have hq2 := fn_eq 45
  have HSz := Lib.hid (size_m hm)
  have HLd := Lib.hid hcall
  have c0 : w.cell? ⟨rb, 0, none⟩ = some (.pointer (some ⟨mb, 0, none⟩)) := (hb.cell 0).trans (by rw [← hmv]; rfl)
  have c1 : w.cell? ⟨rb, 1, none⟩ = some (.int .i64 (c : Int)) := (hb.cell 1).trans (by rw [← hcl]; rfl)
  have c4 : w.cell? ⟨rb, 4, none⟩ = some (.func (.func 45) #[.pointer (some ⟨rb, 0, none⟩)] #[]) := (hb.cell 4).trans (by show some r.next = _; rw [hst]; rfl)
  have c5 : w.cell? ⟨rb, 5, none⟩ = some (.bool false) := (hb.cell 5).trans (by rw [← hov]; rfl)
  have hz : ((8 * (vw.length : Int)) == 0) = false := beq_eq_false_iff_ne.2 (by have := hm.pos; omega)
  have hc0 : ¬ (c : Int) < 0 := by omega
  have hc1 : ¬ (64 : Int) < (c : Int) := by omega
  clear hb hmv hcl hm hst hov hcall hc
  go_enter Try.func12, Try.ntmps12
  go_wp2_with (go_at_call 31; refine HSz.out.mono ?_; rintro e w1 ⟨rfl, rfl⟩)
  refine HLd.out.mono ?_
  rintro e w1 ⟨rfl, hb1, hR1⟩
  have hb5 := (hb1.set 5 (.bool dd)).set 6 (.int .i64 er)
  rw [rn_set5, rn_set6] at hb5
  have f5 : w1.frozen? ⟨rb, 5, none⟩ = false := hb1.frozen 5
  have f6 : (w1.setCell ⟨rb, 5, none⟩ (.bool dd)).frozen? ⟨rb, 6, none⟩ = false := (hb1.set 5 _).frozen 6
  have g5 : w1.cell? ⟨rb, 5, none⟩ = some (.bool r'.over) := hb1.cell 5
  have g6 : (w1.setCell ⟨rb, 5, none⟩ (.bool dd)).cell? ⟨rb, 6, none⟩ = some (.int .i64 r'.e) := (hb1.set 5 _).cell 6
  have k5 : Keeps (fun k => k = rb) w1 ((w1.setCell ⟨rb, 5, none⟩ (.bool dd)).setCell ⟨rb, 6, none⟩ (.int .i64 er)) := ((Keeps.refl (fun k => k = rb) w1).setCell (p := ⟨rb, 5, none⟩) (.inl rfl) _).setCell (p := ⟨rb, 6, none⟩) (.inl rfl) _
  have HB5 := Lib.hid hb5
  have HK5 := Lib.hid k5
  have HR1 := Lib.hid hR1
  clear hb5 k5 hb1 hR1
  go_wp2_with (fail)
  obtain ⟨W5, hW5⟩ : ∃ W5, W5 = ((w1.setCell ⟨rb, 5, none⟩ (.bool dd)).setCell ⟨rb, 6, none⟩ (.int .i64 er)) := ⟨_, rfl⟩
  rw [← hW5] at HB5 HK5 ⊢
  have HC5 := Lib.hid (show W5.cell? ⟨rb, 5, none⟩ = some (.bool dd) ∧ W5.cell? ⟨rb, 6, none⟩ = some (.int .i64 er) from ⟨HB5.out.cell 5, HB5.out.cell 6⟩)
  clear hW5 f5 f6 g5 g6
  --GEN r_rn9
  refine wp_region_vals [Is (.pointer (some ⟨rb, 0, none⟩)), Is (.pointer (some ⟨rb, 0, none⟩)), Is (.pointer (some ⟨rb, 5, none⟩)), Is (.bool dd), Is (.pointer (some ⟨rb, 0, none⟩)), Is (.pointer (some ⟨rb, 0, none⟩)), Is (.pointer (some ⟨rb, 6, none⟩)), Is (.int .i64 er), Is (.bool dd), Is (.int .i64 er)]
    (fun _ _ _ => True) (fun _ W => W = W5.drew) (by kernel_rfl) (by kernel_rfl) (by kernel_rfl) ?hst ?h0 ⟨?o0, ?o1, ?o2, ?o3, ?o4, ?o5, ?o6, ?o7, ?o8, ?o9, trivial⟩ ?he
  case hst =>
    exact ⟨(fun _ _ _ _ _ _ h _ => h), (fun _ _ _ _ _ _ h _ => h), (fun _ _ _ _ _ _ h _ => h), (fun _ _ _ _ _ _ h _ => h), (fun _ _ _ _ _ _ h _ => h), (fun _ _ _ _ _ _ h _ => h), (fun _ _ _ _ _ _ h _ => h), (fun _ _ _ _ _ _ h _ => h), (fun _ _ _ _ _ _ h _ => h), (fun _ _ _ _ _ _ h _ => h), trivial⟩
  case h0 =>
    exact rfl
  case o0 =>
    intro L vs A W H hf hd K hK
    have e0 : A.tmps[0]?.getD undef = .pointer (some ⟨rb, 0, none⟩) := H.old 0 (by kernel_rfl)
    go_simp
    exact hK _ _ (trivial) rfl (H.glob)
  case o1 =>
    intro L vs A W H hf hd K hK
    have e65 := H.is 0 65 rfl rfl rfl (deps_of' hd 0 (by kernel_rfl)) (by kernel_rfl)
    go_simp
    exact hK _ _ (trivial) rfl (H.glob)
  case o2 =>
    intro L vs A W H hf hd K hK
    have e66 := H.is 1 66 rfl rfl rfl (deps_of' hd 1 (by kernel_rfl)) (by kernel_rfl)
    go_simp
    exact hK _ _ (trivial) rfl (H.glob)
  case o3 =>
    intro L vs A W H hf hd K hK
    have e67 := H.is 2 67 rfl rfl rfl (deps_of' hd 2 (by kernel_rfl)) (by kernel_rfl)
    have d : W.cell? ⟨rb, 5, none⟩ = some (.bool dd) := (by rw [H.glob]; exact HC5.out.1)
    go_simp
    exact hK _ _ (trivial) rfl (H.glob)
  case o4 =>
    intro L vs A W H hf hd K hK
    have e0 : A.tmps[0]?.getD undef = .pointer (some ⟨rb, 0, none⟩) := H.old 0 (by kernel_rfl)
    go_simp
    exact hK _ _ (trivial) rfl (H.glob)
  case o5 =>
    intro L vs A W H hf hd K hK
    have e69 := H.is 4 69 rfl rfl rfl (deps_of' hd 4 (by kernel_rfl)) (by kernel_rfl)
    go_simp
    exact hK _ _ (trivial) rfl (H.glob)
  case o6 =>
    intro L vs A W H hf hd K hK
    have e70 := H.is 5 70 rfl rfl rfl (deps_of' hd 5 (by kernel_rfl)) (by kernel_rfl)
    go_simp
    exact hK _ _ (trivial) rfl (H.glob)
  case o7 =>
    intro L vs A W H hf hd K hK
    have e71 := H.is 6 71 rfl rfl rfl (deps_of' hd 6 (by kernel_rfl)) (by kernel_rfl)
    have d : W.cell? ⟨rb, 6, none⟩ = some (.int .i64 er) := (by rw [H.glob]; exact HC5.out.2)
    go_simp
    exact hK _ _ (trivial) rfl (H.glob)
  case o8 =>
    intro L vs A W H hf hd K hK
    have e68 := H.is 3 68 rfl rfl rfl (deps_of' hd 3 (by kernel_rfl)) (by kernel_rfl)
    go_simp
    exact hK _ _ (trivial) rfl (H.glob)
  case o9 =>
    intro L vs A W H hf hd K hK
    have e72 := H.is 7 72 rfl rfl rfl (deps_of' hd 7 (by kernel_rfl)) (by kernel_rfl)
    go_simp
    exact hK _ _ (trivial) rfl (H.glob)
  case he =>
    intro vs W hlen hv
    match vs, hlen, hv with
    | [x0_, x1_, x2_, x3_, x4_, x5_, x6_, x7_, x8_, x9_], _, hv =>
    obtain rfl : (.pointer (some ⟨rb, 0, none⟩)) = x0_ := by obtain ⟨z, h1, h2⟩ := hv 0 _ rfl; cases h1; exact h2.symm
    obtain rfl : (.pointer (some ⟨rb, 0, none⟩)) = x1_ := by obtain ⟨z, h1, h2⟩ := hv 1 _ rfl; cases h1; exact h2.symm
    obtain rfl : (.pointer (some ⟨rb, 5, none⟩)) = x2_ := by obtain ⟨z, h1, h2⟩ := hv 2 _ rfl; cases h1; exact h2.symm
    obtain rfl : (.bool dd) = x3_ := by obtain ⟨z, h1, h2⟩ := hv 3 _ rfl; cases h1; exact h2.symm
    obtain rfl : (.pointer (some ⟨rb, 0, none⟩)) = x4_ := by obtain ⟨z, h1, h2⟩ := hv 4 _ rfl; cases h1; exact h2.symm
    obtain rfl : (.pointer (some ⟨rb, 0, none⟩)) = x5_ := by obtain ⟨z, h1, h2⟩ := hv 5 _ rfl; cases h1; exact h2.symm
    obtain rfl : (.pointer (some ⟨rb, 6, none⟩)) = x6_ := by obtain ⟨z, h1, h2⟩ := hv 6 _ rfl; cases h1; exact h2.symm
    obtain rfl : (.int .i64 er) = x7_ := by obtain ⟨z, h1, h2⟩ := hv 7 _ rfl; cases h1; exact h2.symm
    obtain rfl : (.bool dd) = x8_ := by obtain ⟨z, h1, h2⟩ := hv 8 _ rfl; cases h1; exact h2.symm
    obtain rfl : (.int .i64 er) = x9_ := by obtain ⟨z, h1, h2⟩ := hv 9 _ rfl; cases h1; exact h2.symm
    intro L hall hG
    clear hv hlen
    have HW := hG
    clear hG hall
    subst HW
    simp only [fill, if_true]
  --END
    simp [Act.put]
    go_wp2_with (fail)
    go_ret2
    exact ⟨rfl, w1, HR1.out, HK5.out.drew, HB5.out.drew⟩
set_option maxRecDepth 100000 in
set_option maxHeartbeats 40000000 in
theorem rstep_fence (w : World) (rb mb : Nat) (S : Nat → Prop) (r r' : Rn) (c : Nat) (vw is : List Int) (mk : Int → Nat → Int) (F : Int → List (Int × Int)) (lo st fl fe : Int) (dd : Bool) (er : Int) (R : World → Prop)
    (hb : Blk w rb (rnCells r) 41) (hmv : r.mv = some ⟨mb, 0, none⟩) (hcl : r.c = (c : Int)) (hm : MemP w mb S vw is mk F lo st fl fe) (hc : c ≤ 64) (hst : r.next = rphV rb 51) (hov : r.over = false)
    (hcall : Calls Try.prog 51 #[.pointer (some ⟨rb, 0, none⟩)] w fun e w' => e = .returned (.tuple #[.bool dd, .int .i64 er]) ∧ Blk w' rb (rnCells r') 41 ∧ R w') :
    Calls Try.prog 12 #[.pointer (some ⟨rb, 0, none⟩)] w fun e w' => e = .returned (.tuple #[.bool dd, .int .i64 er]) ∧ ∃ W2, R W2 ∧ Keeps (fun i => i = rb) W2 w' ∧ Blk w' rb (rnCells { r' with over := dd, e := er }) 41 := by
  have hq1 := nil_eq
  have hq2 := fn_eq 51
  have HSz := Lib.hid (size_m hm)
  have HLd := Lib.hid hcall
  have c0 : w.cell? ⟨rb, 0, none⟩ = some (.pointer (some ⟨mb, 0, none⟩)) := (hb.cell 0).trans (by rw [← hmv]; rfl)
  have c1 : w.cell? ⟨rb, 1, none⟩ = some (.int .i64 (c : Int)) := (hb.cell 1).trans (by rw [← hcl]; rfl)
  have c4 : w.cell? ⟨rb, 4, none⟩ = some (.func (.func 51) #[.pointer (some ⟨rb, 0, none⟩)] #[]) := (hb.cell 4).trans (by show some r.next = _; rw [hst]; rfl)
  have c5 : w.cell? ⟨rb, 5, none⟩ = some (.bool false) := (hb.cell 5).trans (by rw [← hov]; rfl)
  have hz : ((8 * (vw.length : Int)) == 0) = false := beq_eq_false_iff_ne.2 (by have := hm.pos; omega)
  have hc0 : ¬ (c : Int) < 0 := by omega
  have hc1 : ¬ (64 : Int) < (c : Int) := by omega
  clear hb hmv hcl hm hst hov hcall hc
  go_enter Try.func12, Try.ntmps12
  go_wp2_with (go_at_call 31; refine HSz.out.mono ?_; rintro e w1 ⟨rfl, rfl⟩)
  refine HLd.out.mono ?_
  rintro e w1 ⟨rfl, hb1, hR1⟩
  have hb5 := (hb1.set 5 (.bool dd)).set 6 (.int .i64 er)
  rw [rn_set5, rn_set6] at hb5
  have f5 : w1.frozen? ⟨rb, 5, none⟩ = false := hb1.frozen 5
  have f6 : (w1.setCell ⟨rb, 5, none⟩ (.bool dd)).frozen? ⟨rb, 6, none⟩ = false := (hb1.set 5 _).frozen 6
  have g5 : w1.cell? ⟨rb, 5, none⟩ = some (.bool r'.over) := hb1.cell 5
  have g6 : (w1.setCell ⟨rb, 5, none⟩ (.bool dd)).cell? ⟨rb, 6, none⟩ = some (.int .i64 r'.e) := (hb1.set 5 _).cell 6
  have k5 : Keeps (fun k => k = rb) w1 ((w1.setCell ⟨rb, 5, none⟩ (.bool dd)).setCell ⟨rb, 6, none⟩ (.int .i64 er)) := ((Keeps.refl (fun k => k = rb) w1).setCell (p := ⟨rb, 5, none⟩) (.inl rfl) _).setCell (p := ⟨rb, 6, none⟩) (.inl rfl) _
  have HB5 := Lib.hid hb5
  have HK5 := Lib.hid k5
  have HR1 := Lib.hid hR1
  clear hb5 k5 hb1 hR1
  go_wp2_with (fail)
  obtain ⟨W5, hW5⟩ : ∃ W5, W5 = ((w1.setCell ⟨rb, 5, none⟩ (.bool dd)).setCell ⟨rb, 6, none⟩ (.int .i64 er)) := ⟨_, rfl⟩
  rw [← hW5] at HB5 HK5 ⊢
  have HC5 := Lib.hid (show W5.cell? ⟨rb, 5, none⟩ = some (.bool dd) ∧ W5.cell? ⟨rb, 6, none⟩ = some (.int .i64 er) from ⟨HB5.out.cell 5, HB5.out.cell 6⟩)
  clear hW5 f5 f6 g5 g6
  --GEN r_rn9
  refine wp_region_vals [Is (.pointer (some ⟨rb, 0, none⟩)), Is (.pointer (some ⟨rb, 0, none⟩)), Is (.pointer (some ⟨rb, 5, none⟩)), Is (.bool dd), Is (.pointer (some ⟨rb, 0, none⟩)), Is (.pointer (some ⟨rb, 0, none⟩)), Is (.pointer (some ⟨rb, 6, none⟩)), Is (.int .i64 er), Is (.bool dd), Is (.int .i64 er)]
    (fun _ _ _ => True) (fun _ W => W = W5.drew) (by kernel_rfl) (by kernel_rfl) (by kernel_rfl) ?hst ?h0 ⟨?o0, ?o1, ?o2, ?o3, ?o4, ?o5, ?o6, ?o7, ?o8, ?o9, trivial⟩ ?he
  case hst =>
    exact ⟨(fun _ _ _ _ _ _ h _ => h), (fun _ _ _ _ _ _ h _ => h), (fun _ _ _ _ _ _ h _ => h), (fun _ _ _ _ _ _ h _ => h), (fun _ _ _ _ _ _ h _ => h), (fun _ _ _ _ _ _ h _ => h), (fun _ _ _ _ _ _ h _ => h), (fun _ _ _ _ _ _ h _ => h), (fun _ _ _ _ _ _ h _ => h), (fun _ _ _ _ _ _ h _ => h), trivial⟩
  case h0 =>
    exact rfl
  case o0 =>
    intro L vs A W H hf hd K hK
    have e0 : A.tmps[0]?.getD undef = .pointer (some ⟨rb, 0, none⟩) := H.old 0 (by kernel_rfl)
    go_simp
    exact hK _ _ (trivial) rfl (H.glob)
  case o1 =>
    intro L vs A W H hf hd K hK
    have e65 := H.is 0 65 rfl rfl rfl (deps_of' hd 0 (by kernel_rfl)) (by kernel_rfl)
    go_simp
    exact hK _ _ (trivial) rfl (H.glob)
  case o2 =>
    intro L vs A W H hf hd K hK
    have e66 := H.is 1 66 rfl rfl rfl (deps_of' hd 1 (by kernel_rfl)) (by kernel_rfl)
    go_simp
    exact hK _ _ (trivial) rfl (H.glob)
  case o3 =>
    intro L vs A W H hf hd K hK
    have e67 := H.is 2 67 rfl rfl rfl (deps_of' hd 2 (by kernel_rfl)) (by kernel_rfl)
    have d : W.cell? ⟨rb, 5, none⟩ = some (.bool dd) := (by rw [H.glob]; exact HC5.out.1)
    go_simp
    exact hK _ _ (trivial) rfl (H.glob)
  case o4 =>
    intro L vs A W H hf hd K hK
    have e0 : A.tmps[0]?.getD undef = .pointer (some ⟨rb, 0, none⟩) := H.old 0 (by kernel_rfl)
    go_simp
    exact hK _ _ (trivial) rfl (H.glob)
  case o5 =>
    intro L vs A W H hf hd K hK
    have e69 := H.is 4 69 rfl rfl rfl (deps_of' hd 4 (by kernel_rfl)) (by kernel_rfl)
    go_simp
    exact hK _ _ (trivial) rfl (H.glob)
  case o6 =>
    intro L vs A W H hf hd K hK
    have e70 := H.is 5 70 rfl rfl rfl (deps_of' hd 5 (by kernel_rfl)) (by kernel_rfl)
    go_simp
    exact hK _ _ (trivial) rfl (H.glob)
  case o7 =>
    intro L vs A W H hf hd K hK
    have e71 := H.is 6 71 rfl rfl rfl (deps_of' hd 6 (by kernel_rfl)) (by kernel_rfl)
    have d : W.cell? ⟨rb, 6, none⟩ = some (.int .i64 er) := (by rw [H.glob]; exact HC5.out.2)
    go_simp
    exact hK _ _ (trivial) rfl (H.glob)
  case o8 =>
    intro L vs A W H hf hd K hK
    have e68 := H.is 3 68 rfl rfl rfl (deps_of' hd 3 (by kernel_rfl)) (by kernel_rfl)
    go_simp
    exact hK _ _ (trivial) rfl (H.glob)
  case o9 =>
    intro L vs A W H hf hd K hK
    have e72 := H.is 7 72 rfl rfl rfl (deps_of' hd 7 (by kernel_rfl)) (by kernel_rfl)
    go_simp
    exact hK _ _ (trivial) rfl (H.glob)
  case he =>
    intro vs W hlen hv
    match vs, hlen, hv with
    | [x0_, x1_, x2_, x3_, x4_, x5_, x6_, x7_, x8_, x9_], _, hv =>
    obtain rfl : (.pointer (some ⟨rb, 0, none⟩)) = x0_ := by obtain ⟨z, h1, h2⟩ := hv 0 _ rfl; cases h1; exact h2.symm
    obtain rfl : (.pointer (some ⟨rb, 0, none⟩)) = x1_ := by obtain ⟨z, h1, h2⟩ := hv 1 _ rfl; cases h1; exact h2.symm
    obtain rfl : (.pointer (some ⟨rb, 5, none⟩)) = x2_ := by obtain ⟨z, h1, h2⟩ := hv 2 _ rfl; cases h1; exact h2.symm
    obtain rfl : (.bool dd) = x3_ := by obtain ⟨z, h1, h2⟩ := hv 3 _ rfl; cases h1; exact h2.symm
    obtain rfl : (.pointer (some ⟨rb, 0, none⟩)) = x4_ := by obtain ⟨z, h1, h2⟩ := hv 4 _ rfl; cases h1; exact h2.symm
    obtain rfl : (.pointer (some ⟨rb, 0, none⟩)) = x5_ := by obtain ⟨z, h1, h2⟩ := hv 5 _ rfl; cases h1; exact h2.symm
    obtain rfl : (.pointer (some ⟨rb, 6, none⟩)) = x6_ := by obtain ⟨z, h1, h2⟩ := hv 6 _ rfl; cases h1; exact h2.symm
    obtain rfl : (.int .i64 er) = x7_ := by obtain ⟨z, h1, h2⟩ := hv 7 _ rfl; cases h1; exact h2.symm
    obtain rfl : (.bool dd) = x8_ := by obtain ⟨z, h1, h2⟩ := hv 8 _ rfl; cases h1; exact h2.symm
    obtain rfl : (.int .i64 er) = x9_ := by obtain ⟨z, h1, h2⟩ := hv 9 _ rfl; cases h1; exact h2.symm
    intro L hall hG
    clear hv hlen
    have HW := hG
    clear hG hall
    subst HW
    simp only [fill, if_true]
  --END
    simp [Act.put]
    go_wp2_with (fail)
    go_ret2
    exact ⟨rfl, w1, HR1.out, HK5.out.drew, HB5.out.drew⟩
end Go.Proofs.Ytefgahcadfmmoaa
namespace Go.Proofs.Ytefgahcadfmmoaa
open Go.RowKit
attribute [local go_sem] Oper.semAt_some
set_option linter.unusedVariables false

theorem there_nil (w : World) : Calls Try.prog 32 #[.pointer none] w fun e w' => e = .returned (.bool false) ∧ w = w' := by
  go_enter Try.func32, Try.ntmps32
  go_wp2_with (fail)
  go_ret
  exact ⟨rfl, rfl⟩
theorem size_nil (w : World) : Calls Try.prog 31 #[.pointer none] w fun e w' => e = .returned (.int .i64 0) ∧ w = w' := by
  have HT := Lib.hid (there_nil w)
  go_enter Try.func31, Try.ntmps31
  go_wp2_with (fail)
  refine HT.out.mono ?_
  rintro e w' ⟨rfl, rfl⟩
  go_wp2_with (fail)
  go_ret
  exact ⟨rfl, rfl⟩
theorem store_no {w : World} {mb : Nat} {S : Nat → Prop} {vs is : List Int} {mk : Int → Nat → Int} {F : Int → List (Int × Int)} {lo st fl fe : Int} (h : MemP w mb S vs is mk F lo st fl fe) (a x : Int) (h0 : 0 ≤ a) (h1 : a ≤ 18446744073709551615) (he : atE vs.length a = 3) :
    Calls Try.prog 43 #[.pointer (some ⟨mb, 0, none⟩), .int .u64 a, .int .u64 x] w fun e w' => e = .returned (.int .i64 3) ∧ w = w' := by
  obtain ⟨N0, vv, vi, ml, D, sl, hm, hN, hS, hp, hl, r⟩ := h
  have HA := Lib.hid (mat_v w mb vs is vv vi ml lo st fl fe hm.m hp (by omega) a h0 h1)
  rw [he] at HA
  clear hm hN hS hp hl r
  go_enter Try.func43, Try.ntmps43
  go_wp2_with (fail)
  refine HA.out.mono ?_
  rintro e w' ⟨rfl, rfl⟩
  go_wp2_with (fail)
  go_ret
  exact ⟨rfl, rfl⟩
theorem rstep_nil (w : World) : Calls Try.prog 12 #[.pointer none] w fun e w' => e = .returned (.tuple #[.bool true, .int .i64 1]) ∧ w = w' := by
  have hq1 := nil_eq
  go_enter Try.func12, Try.ntmps12
  go_wp2_with (fail)
  go_ret2
  exact ⟨rfl, rfl⟩
theorem rstep_zero (w : World) (rb : Nat) (r : Rn) (hb : Blk w rb (rnCells r) 41) (hn : r.next = .nilFunc) : Calls Try.prog 12 #[.pointer (some ⟨rb, 0, none⟩)] w fun e w' => e = .returned (.tuple #[.bool true, .int .i64 1]) ∧ w = w' := by
  have hq1 := nil_eq
  have c4 : w.cell? ⟨rb, 4, none⟩ = some .nilFunc := (hb.cell 4).trans (by rw [← hn]; rfl)
  clear hb
  go_enter Try.func12, Try.ntmps12
  go_wp2_with (fail)
  go_ret2
  exact ⟨rfl, rfl⟩
theorem rleft_nil (w : World) : Calls Try.prog 15 #[.pointer none] w fun e w' => e = .returned (.int .i64 0) ∧ w = w' := by
  go_enter Try.func15, Try.ntmps15
  go_wp2_with (fail)
  go_ret
  exact ⟨rfl, rfl⟩
set_option maxRecDepth 100000 in
set_option maxHeartbeats 40000000 in
theorem rstep_over (w : World) (rb : Nat) (r : Rn) (f : Nat) 
    (hb : Blk w rb (rnCells r) 41) (hst : r.next = rphV rb f) (hov : r.over = true) :
    Calls Try.prog 12 #[.pointer (some ⟨rb, 0, none⟩)] w fun e w' => e = .returned (.tuple #[.bool true, .int .i64 r.e]) ∧ Keeps (fun i => i = rb) w w' ∧ Blk w' rb (rnCells { r with over := true, e := r.e }) 41 := by
  have hq1 := nil_eq
  have hq2 := fn_eq f
  obtain ⟨dd, hdd⟩ : ∃ dd, dd = true := ⟨_, rfl⟩
  obtain ⟨er, her⟩ : ∃ er : Int, er = r.e := ⟨_, rfl⟩
  have HDE := Lib.hid (And.intro hdd her)
  have c4 : w.cell? ⟨rb, 4, none⟩ = some (.func (.func f) #[.pointer (some ⟨rb, 0, none⟩)] #[]) := (hb.cell 4).trans (by show some r.next = _; rw [hst]; rfl)
  have c5 : w.cell? ⟨rb, 5, none⟩ = some (.bool true) := (hb.cell 5).trans (by rw [← hov]; rfl)
  have HB5 := Lib.hid (show Blk w rb (rnCells { r with over := dd, e := er }) 41 from by rw [hdd, her, ← hov]; exact hb)
  have HK5 := Lib.hid (Keeps.refl (fun i => i = rb) w)
  rw [← hdd, ← her]
  clear hb hst hov hdd her
  go_enter Try.func12, Try.ntmps12
  go_wp2_with (fail)
  obtain ⟨W5, hW5⟩ : ∃ W5, W5 = w := ⟨_, rfl⟩
  rw [← hW5] at HB5 HK5 ⊢
  have HC5 := Lib.hid (show W5.cell? ⟨rb, 5, none⟩ = some (.bool dd) ∧ W5.cell? ⟨rb, 6, none⟩ = some (.int .i64 er) from ⟨HB5.out.cell 5, HB5.out.cell 6⟩)
  have HWe := Lib.hid hW5
  clear hW5
  --GEN r_rn9
  refine wp_region_vals [Is (.pointer (some ⟨rb, 0, none⟩)), Is (.pointer (some ⟨rb, 0, none⟩)), Is (.pointer (some ⟨rb, 5, none⟩)), Is (.bool dd), Is (.pointer (some ⟨rb, 0, none⟩)), Is (.pointer (some ⟨rb, 0, none⟩)), Is (.pointer (some ⟨rb, 6, none⟩)), Is (.int .i64 er), Is (.bool dd), Is (.int .i64 er)]
    (fun _ _ _ => True) (fun _ W => W = W5.drew) (by kernel_rfl) (by kernel_rfl) (by kernel_rfl) ?hst ?h0 ⟨?o0, ?o1, ?o2, ?o3, ?o4, ?o5, ?o6, ?o7, ?o8, ?o9, trivial⟩ ?he
  case hst =>
    exact ⟨(fun _ _ _ _ _ _ h _ => h), (fun _ _ _ _ _ _ h _ => h), (fun _ _ _ _ _ _ h _ => h), (fun _ _ _ _ _ _ h _ => h), (fun _ _ _ _ _ _ h _ => h), (fun _ _ _ _ _ _ h _ => h), (fun _ _ _ _ _ _ h _ => h), (fun _ _ _ _ _ _ h _ => h), (fun _ _ _ _ _ _ h _ => h), (fun _ _ _ _ _ _ h _ => h), trivial⟩
  case h0 =>
    exact rfl
  case o0 =>
    intro L vs A W H hf hd K hK
    have e0 : A.tmps[0]?.getD undef = .pointer (some ⟨rb, 0, none⟩) := H.old 0 (by kernel_rfl)
    go_simp
    exact hK _ _ (trivial) rfl (H.glob)
  case o1 =>
    intro L vs A W H hf hd K hK
    have e65 := H.is 0 65 rfl rfl rfl (deps_of' hd 0 (by kernel_rfl)) (by kernel_rfl)
    go_simp
    exact hK _ _ (trivial) rfl (H.glob)
  case o2 =>
    intro L vs A W H hf hd K hK
    have e66 := H.is 1 66 rfl rfl rfl (deps_of' hd 1 (by kernel_rfl)) (by kernel_rfl)
    go_simp
    exact hK _ _ (trivial) rfl (H.glob)
  case o3 =>
    intro L vs A W H hf hd K hK
    have e67 := H.is 2 67 rfl rfl rfl (deps_of' hd 2 (by kernel_rfl)) (by kernel_rfl)
    have d : W.cell? ⟨rb, 5, none⟩ = some (.bool dd) := (by rw [H.glob]; exact HC5.out.1)
    go_simp
    exact hK _ _ (trivial) rfl (H.glob)
  case o4 =>
    intro L vs A W H hf hd K hK
    have e0 : A.tmps[0]?.getD undef = .pointer (some ⟨rb, 0, none⟩) := H.old 0 (by kernel_rfl)
    go_simp
    exact hK _ _ (trivial) rfl (H.glob)
  case o5 =>
    intro L vs A W H hf hd K hK
    have e69 := H.is 4 69 rfl rfl rfl (deps_of' hd 4 (by kernel_rfl)) (by kernel_rfl)
    go_simp
    exact hK _ _ (trivial) rfl (H.glob)
  case o6 =>
    intro L vs A W H hf hd K hK
    have e70 := H.is 5 70 rfl rfl rfl (deps_of' hd 5 (by kernel_rfl)) (by kernel_rfl)
    go_simp
    exact hK _ _ (trivial) rfl (H.glob)
  case o7 =>
    intro L vs A W H hf hd K hK
    have e71 := H.is 6 71 rfl rfl rfl (deps_of' hd 6 (by kernel_rfl)) (by kernel_rfl)
    have d : W.cell? ⟨rb, 6, none⟩ = some (.int .i64 er) := (by rw [H.glob]; exact HC5.out.2)
    go_simp
    exact hK _ _ (trivial) rfl (H.glob)
  case o8 =>
    intro L vs A W H hf hd K hK
    have e68 := H.is 3 68 rfl rfl rfl (deps_of' hd 3 (by kernel_rfl)) (by kernel_rfl)
    go_simp
    exact hK _ _ (trivial) rfl (H.glob)
  case o9 =>
    intro L vs A W H hf hd K hK
    have e72 := H.is 7 72 rfl rfl rfl (deps_of' hd 7 (by kernel_rfl)) (by kernel_rfl)
    go_simp
    exact hK _ _ (trivial) rfl (H.glob)
  case he =>
    intro vs W hlen hv
    match vs, hlen, hv with
    | [x0_, x1_, x2_, x3_, x4_, x5_, x6_, x7_, x8_, x9_], _, hv =>
    obtain rfl : (.pointer (some ⟨rb, 0, none⟩)) = x0_ := by obtain ⟨z, h1, h2⟩ := hv 0 _ rfl; cases h1; exact h2.symm
    obtain rfl : (.pointer (some ⟨rb, 0, none⟩)) = x1_ := by obtain ⟨z, h1, h2⟩ := hv 1 _ rfl; cases h1; exact h2.symm
    obtain rfl : (.pointer (some ⟨rb, 5, none⟩)) = x2_ := by obtain ⟨z, h1, h2⟩ := hv 2 _ rfl; cases h1; exact h2.symm
    obtain rfl : (.bool dd) = x3_ := by obtain ⟨z, h1, h2⟩ := hv 3 _ rfl; cases h1; exact h2.symm
    obtain rfl : (.pointer (some ⟨rb, 0, none⟩)) = x4_ := by obtain ⟨z, h1, h2⟩ := hv 4 _ rfl; cases h1; exact h2.symm
    obtain rfl : (.pointer (some ⟨rb, 0, none⟩)) = x5_ := by obtain ⟨z, h1, h2⟩ := hv 5 _ rfl; cases h1; exact h2.symm
    obtain rfl : (.pointer (some ⟨rb, 6, none⟩)) = x6_ := by obtain ⟨z, h1, h2⟩ := hv 6 _ rfl; cases h1; exact h2.symm
    obtain rfl : (.int .i64 er) = x7_ := by obtain ⟨z, h1, h2⟩ := hv 7 _ rfl; cases h1; exact h2.symm
    obtain rfl : (.bool dd) = x8_ := by obtain ⟨z, h1, h2⟩ := hv 8 _ rfl; cases h1; exact h2.symm
    obtain rfl : (.int .i64 er) = x9_ := by obtain ⟨z, h1, h2⟩ := hv 9 _ rfl; cases h1; exact h2.symm
    intro L hall hG
    clear hv hlen
    have HW := hG
    clear hG hall
    subst HW
    simp only [fill, if_true]
  --END
    simp [Act.put]
    go_wp2_with (fail)
    go_ret2
    exact ⟨rfl, (by first | exact HK5.out.drew | (rw [← HWe.out]; exact HK5.out.drew)), HB5.out.drew⟩
set_option maxRecDepth 100000 in
set_option maxHeartbeats 40000000 in
theorem rstep_nomem (w : World) (rb : Nat) (r : Rn) (f : Nat) 
    (hb : Blk w rb (rnCells r) 41) (hst : r.next = rphV rb f) (hov : r.over = false) (hmv : r.mv = none) :
    Calls Try.prog 12 #[.pointer (some ⟨rb, 0, none⟩)] w fun e w' => e = .returned (.tuple #[.bool true, .int .i64 1]) ∧ Keeps (fun i => i = rb) w w' ∧ Blk w' rb (rnCells { r with over := true, e := 1 }) 41 := by
  have hq1 := nil_eq
  have hq2 := fn_eq f
  obtain ⟨dd, hdd⟩ : ∃ dd, dd = true := ⟨_, rfl⟩
  obtain ⟨er, her⟩ : ∃ er : Int, er = 1 := ⟨_, rfl⟩
  have HDE := Lib.hid (And.intro hdd her)
  have c4 : w.cell? ⟨rb, 4, none⟩ = some (.func (.func f) #[.pointer (some ⟨rb, 0, none⟩)] #[]) := (hb.cell 4).trans (by show some r.next = _; rw [hst]; rfl)
  have hb5 := (hb.set 5 (.bool dd)).set 6 (.int .i64 er)
  rw [rn_set5, rn_set6] at hb5
  have f5 : w.frozen? ⟨rb, 5, none⟩ = false := hb.frozen 5
  have f6 : (w.setCell ⟨rb, 5, none⟩ (.bool true)).frozen? ⟨rb, 6, none⟩ = false := (hb.set 5 _).frozen 6
  have g5 : w.cell? ⟨rb, 5, none⟩ = some (.bool false) := (hb.cell 5).trans (by rw [← hov]; rfl)
  have g6 : (w.setCell ⟨rb, 5, none⟩ (.bool true)).cell? ⟨rb, 6, none⟩ = some (.int .i64 r.e) := (hb.set 5 _).cell 6
  have k5 : Keeps (fun k => k = rb) w ((w.setCell ⟨rb, 5, none⟩ (.bool dd)).setCell ⟨rb, 6, none⟩ (.int .i64 er)) := ((Keeps.refl (fun k => k = rb) w).setCell (p := ⟨rb, 5, none⟩) (.inl rfl) _).setCell (p := ⟨rb, 6, none⟩) (.inl rfl) _
  rw [hdd, her] at hb5 k5
  have HB5 := Lib.hid (show Blk ((w.setCell ⟨rb, 5, none⟩ (.bool true)).setCell ⟨rb, 6, none⟩ (.int .i64 1)) rb (rnCells { r with over := dd, e := er }) 41 from by rw [hdd, her]; exact hb5)
  have HK5 := Lib.hid k5
  rw [← hdd, ← her]
  have HSz := Lib.hid (size_nil w)
  have c0 : w.cell? ⟨rb, 0, none⟩ = some (.pointer none) := (hb.cell 0).trans (by rw [← hmv]; rfl)
  clear hb hst hov hmv hb5 k5 hdd her
  go_enter Try.func12, Try.ntmps12
  go_wp2_with (go_at_call 31; refine HSz.out.mono ?_; rintro e w1 ⟨rfl, rfl⟩)
  obtain ⟨W5, hW5⟩ : ∃ W5, W5 = ((w.setCell ⟨rb, 5, none⟩ (.bool true)).setCell ⟨rb, 6, none⟩ (.int .i64 1)) := ⟨_, rfl⟩
  rw [← hW5] at HB5 HK5 ⊢
  have HC5 := Lib.hid (show W5.cell? ⟨rb, 5, none⟩ = some (.bool dd) ∧ W5.cell? ⟨rb, 6, none⟩ = some (.int .i64 er) from ⟨HB5.out.cell 5, HB5.out.cell 6⟩)
  have HWe := Lib.hid hW5
  clear hW5
  --GEN r_rn9
  refine wp_region_vals [Is (.pointer (some ⟨rb, 0, none⟩)), Is (.pointer (some ⟨rb, 0, none⟩)), Is (.pointer (some ⟨rb, 5, none⟩)), Is (.bool dd), Is (.pointer (some ⟨rb, 0, none⟩)), Is (.pointer (some ⟨rb, 0, none⟩)), Is (.pointer (some ⟨rb, 6, none⟩)), Is (.int .i64 er), Is (.bool dd), Is (.int .i64 er)]
    (fun _ _ _ => True) (fun _ W => W = W5.drew) (by kernel_rfl) (by kernel_rfl) (by kernel_rfl) ?hst ?h0 ⟨?o0, ?o1, ?o2, ?o3, ?o4, ?o5, ?o6, ?o7, ?o8, ?o9, trivial⟩ ?he
  case hst =>
    exact ⟨(fun _ _ _ _ _ _ h _ => h), (fun _ _ _ _ _ _ h _ => h), (fun _ _ _ _ _ _ h _ => h), (fun _ _ _ _ _ _ h _ => h), (fun _ _ _ _ _ _ h _ => h), (fun _ _ _ _ _ _ h _ => h), (fun _ _ _ _ _ _ h _ => h), (fun _ _ _ _ _ _ h _ => h), (fun _ _ _ _ _ _ h _ => h), (fun _ _ _ _ _ _ h _ => h), trivial⟩
  case h0 =>
    exact rfl
  case o0 =>
    intro L vs A W H hf hd K hK
    have e0 : A.tmps[0]?.getD undef = .pointer (some ⟨rb, 0, none⟩) := H.old 0 (by kernel_rfl)
    go_simp
    exact hK _ _ (trivial) rfl (H.glob)
  case o1 =>
    intro L vs A W H hf hd K hK
    have e65 := H.is 0 65 rfl rfl rfl (deps_of' hd 0 (by kernel_rfl)) (by kernel_rfl)
    go_simp
    exact hK _ _ (trivial) rfl (H.glob)
  case o2 =>
    intro L vs A W H hf hd K hK
    have e66 := H.is 1 66 rfl rfl rfl (deps_of' hd 1 (by kernel_rfl)) (by kernel_rfl)
    go_simp
    exact hK _ _ (trivial) rfl (H.glob)
  case o3 =>
    intro L vs A W H hf hd K hK
    have e67 := H.is 2 67 rfl rfl rfl (deps_of' hd 2 (by kernel_rfl)) (by kernel_rfl)
    have d : W.cell? ⟨rb, 5, none⟩ = some (.bool dd) := (by rw [H.glob]; exact HC5.out.1)
    go_simp
    exact hK _ _ (trivial) rfl (H.glob)
  case o4 =>
    intro L vs A W H hf hd K hK
    have e0 : A.tmps[0]?.getD undef = .pointer (some ⟨rb, 0, none⟩) := H.old 0 (by kernel_rfl)
    go_simp
    exact hK _ _ (trivial) rfl (H.glob)
  case o5 =>
    intro L vs A W H hf hd K hK
    have e69 := H.is 4 69 rfl rfl rfl (deps_of' hd 4 (by kernel_rfl)) (by kernel_rfl)
    go_simp
    exact hK _ _ (trivial) rfl (H.glob)
  case o6 =>
    intro L vs A W H hf hd K hK
    have e70 := H.is 5 70 rfl rfl rfl (deps_of' hd 5 (by kernel_rfl)) (by kernel_rfl)
    go_simp
    exact hK _ _ (trivial) rfl (H.glob)
  case o7 =>
    intro L vs A W H hf hd K hK
    have e71 := H.is 6 71 rfl rfl rfl (deps_of' hd 6 (by kernel_rfl)) (by kernel_rfl)
    have d : W.cell? ⟨rb, 6, none⟩ = some (.int .i64 er) := (by rw [H.glob]; exact HC5.out.2)
    go_simp
    exact hK _ _ (trivial) rfl (H.glob)
  case o8 =>
    intro L vs A W H hf hd K hK
    have e68 := H.is 3 68 rfl rfl rfl (deps_of' hd 3 (by kernel_rfl)) (by kernel_rfl)
    go_simp
    exact hK _ _ (trivial) rfl (H.glob)
  case o9 =>
    intro L vs A W H hf hd K hK
    have e72 := H.is 7 72 rfl rfl rfl (deps_of' hd 7 (by kernel_rfl)) (by kernel_rfl)
    go_simp
    exact hK _ _ (trivial) rfl (H.glob)
  case he =>
    intro vs W hlen hv
    match vs, hlen, hv with
    | [x0_, x1_, x2_, x3_, x4_, x5_, x6_, x7_, x8_, x9_], _, hv =>
    obtain rfl : (.pointer (some ⟨rb, 0, none⟩)) = x0_ := by obtain ⟨z, h1, h2⟩ := hv 0 _ rfl; cases h1; exact h2.symm
    obtain rfl : (.pointer (some ⟨rb, 0, none⟩)) = x1_ := by obtain ⟨z, h1, h2⟩ := hv 1 _ rfl; cases h1; exact h2.symm
    obtain rfl : (.pointer (some ⟨rb, 5, none⟩)) = x2_ := by obtain ⟨z, h1, h2⟩ := hv 2 _ rfl; cases h1; exact h2.symm
    obtain rfl : (.bool dd) = x3_ := by obtain ⟨z, h1, h2⟩ := hv 3 _ rfl; cases h1; exact h2.symm
    obtain rfl : (.pointer (some ⟨rb, 0, none⟩)) = x4_ := by obtain ⟨z, h1, h2⟩ := hv 4 _ rfl; cases h1; exact h2.symm
    obtain rfl : (.pointer (some ⟨rb, 0, none⟩)) = x5_ := by obtain ⟨z, h1, h2⟩ := hv 5 _ rfl; cases h1; exact h2.symm
    obtain rfl : (.pointer (some ⟨rb, 6, none⟩)) = x6_ := by obtain ⟨z, h1, h2⟩ := hv 6 _ rfl; cases h1; exact h2.symm
    obtain rfl : (.int .i64 er) = x7_ := by obtain ⟨z, h1, h2⟩ := hv 7 _ rfl; cases h1; exact h2.symm
    obtain rfl : (.bool dd) = x8_ := by obtain ⟨z, h1, h2⟩ := hv 8 _ rfl; cases h1; exact h2.symm
    obtain rfl : (.int .i64 er) = x9_ := by obtain ⟨z, h1, h2⟩ := hv 9 _ rfl; cases h1; exact h2.symm
    intro L hall hG
    clear hv hlen
    have HW := hG
    clear hG hall
    subst HW
    simp only [fill, if_true]
  --END
    simp [Act.put]
    go_wp2_with (fail)
    go_ret2
    exact ⟨rfl, (by first | exact HK5.out.drew | (rw [← HWe.out]; exact HK5.out.drew)), HB5.out.drew⟩
set_option maxRecDepth 100000 in
set_option maxHeartbeats 40000000 in
theorem rstep_client (w : World) (rb : Nat) (r : Rn) (f : Nat) (mb : Nat) (S : Nat → Prop) (c : Int) (vw is : List Int) (mk : Int → Nat → Int) (F : Int → List (Int × Int)) (lo st fl fe : Int)
    (hb : Blk w rb (rnCells r) 41) (hst : r.next = rphV rb f) (hov : r.over = false) (hmv : r.mv = some ⟨mb, 0, none⟩) (hcl : r.c = c) (hc : c < 0 ∨ 64 < c) (hm : MemP w mb S vw is mk F lo st fl fe) :
    Calls Try.prog 12 #[.pointer (some ⟨rb, 0, none⟩)] w fun e w' => e = .returned (.tuple #[.bool true, .int .i64 12]) ∧ Keeps (fun i => i = rb) w w' ∧ Blk w' rb (rnCells { r with over := true, e := 12 }) 41 := by
  have hq1 := nil_eq
  have hq2 := fn_eq f
  obtain ⟨dd, hdd⟩ : ∃ dd, dd = true := ⟨_, rfl⟩
  obtain ⟨er, her⟩ : ∃ er : Int, er = 12 := ⟨_, rfl⟩
  have HDE := Lib.hid (And.intro hdd her)
  have c4 : w.cell? ⟨rb, 4, none⟩ = some (.func (.func f) #[.pointer (some ⟨rb, 0, none⟩)] #[]) := (hb.cell 4).trans (by show some r.next = _; rw [hst]; rfl)
  have hb5 := (hb.set 5 (.bool dd)).set 6 (.int .i64 er)
  rw [rn_set5, rn_set6] at hb5
  have f5 : w.frozen? ⟨rb, 5, none⟩ = false := hb.frozen 5
  have f6 : (w.setCell ⟨rb, 5, none⟩ (.bool true)).frozen? ⟨rb, 6, none⟩ = false := (hb.set 5 _).frozen 6
  have g5 : w.cell? ⟨rb, 5, none⟩ = some (.bool false) := (hb.cell 5).trans (by rw [← hov]; rfl)
  have g6 : (w.setCell ⟨rb, 5, none⟩ (.bool true)).cell? ⟨rb, 6, none⟩ = some (.int .i64 r.e) := (hb.set 5 _).cell 6
  have k5 : Keeps (fun k => k = rb) w ((w.setCell ⟨rb, 5, none⟩ (.bool dd)).setCell ⟨rb, 6, none⟩ (.int .i64 er)) := ((Keeps.refl (fun k => k = rb) w).setCell (p := ⟨rb, 5, none⟩) (.inl rfl) _).setCell (p := ⟨rb, 6, none⟩) (.inl rfl) _
  rw [hdd, her] at hb5 k5
  have HB5 := Lib.hid (show Blk ((w.setCell ⟨rb, 5, none⟩ (.bool true)).setCell ⟨rb, 6, none⟩ (.int .i64 12)) rb (rnCells { r with over := dd, e := er }) 41 from by rw [hdd, her]; exact hb5)
  have HK5 := Lib.hid k5
  rw [← hdd, ← her]
  have HSz := Lib.hid (size_m hm)
  have c0 : w.cell? ⟨rb, 0, none⟩ = some (.pointer (some ⟨mb, 0, none⟩)) := (hb.cell 0).trans (by rw [← hmv]; rfl)
  have c1 : w.cell? ⟨rb, 1, none⟩ = some (.int .i64 c) := (hb.cell 1).trans (by rw [← hcl]; rfl)
  have hz : ((8 * (vw.length : Int)) == 0) = false := beq_eq_false_iff_ne.2 (by have := hm.pos; omega)
  clear hb hst hov hmv hcl hm hb5 k5 hdd her
  go_enter Try.func12, Try.ntmps12
  by_cases hc0 : c < 0
  · clear hc
    go_wp2_with (go_at_call 31; refine HSz.out.mono ?_; rintro e w1 ⟨rfl, rfl⟩)
    obtain ⟨W5, hW5⟩ : ∃ W5, W5 = ((w.setCell ⟨rb, 5, none⟩ (.bool true)).setCell ⟨rb, 6, none⟩ (.int .i64 12)) := ⟨_, rfl⟩
    rw [← hW5] at HB5 HK5 ⊢
    have HC5 := Lib.hid (show W5.cell? ⟨rb, 5, none⟩ = some (.bool dd) ∧ W5.cell? ⟨rb, 6, none⟩ = some (.int .i64 er) from ⟨HB5.out.cell 5, HB5.out.cell 6⟩)
    have HWe := Lib.hid hW5
    clear hW5
    --GEN r_rn9
    refine wp_region_vals [Is (.pointer (some ⟨rb, 0, none⟩)), Is (.pointer (some ⟨rb, 0, none⟩)), Is (.pointer (some ⟨rb, 5, none⟩)), Is (.bool dd), Is (.pointer (some ⟨rb, 0, none⟩)), Is (.pointer (some ⟨rb, 0, none⟩)), Is (.pointer (some ⟨rb, 6, none⟩)), Is (.int .i64 er), Is (.bool dd), Is (.int .i64 er)]
      (fun _ _ _ => True) (fun _ W => W = W5.drew) (by kernel_rfl) (by kernel_rfl) (by kernel_rfl) ?hst ?h0 ⟨?o0, ?o1, ?o2, ?o3, ?o4, ?o5, ?o6, ?o7, ?o8, ?o9, trivial⟩ ?he
    case hst =>
      exact ⟨(fun _ _ _ _ _ _ h _ => h), (fun _ _ _ _ _ _ h _ => h), (fun _ _ _ _ _ _ h _ => h), (fun _ _ _ _ _ _ h _ => h), (fun _ _ _ _ _ _ h _ => h), (fun _ _ _ _ _ _ h _ => h), (fun _ _ _ _ _ _ h _ => h), (fun _ _ _ _ _ _ h _ => h), (fun _ _ _ _ _ _ h _ => h), (fun _ _ _ _ _ _ h _ => h), trivial⟩
    case h0 =>
      exact rfl
    case o0 =>
      intro L vs A W H hf hd K hK
      have e0 : A.tmps[0]?.getD undef = .pointer (some ⟨rb, 0, none⟩) := H.old 0 (by kernel_rfl)
      go_simp
      exact hK _ _ (trivial) rfl (H.glob)
    case o1 =>
      intro L vs A W H hf hd K hK
      have e65 := H.is 0 65 rfl rfl rfl (deps_of' hd 0 (by kernel_rfl)) (by kernel_rfl)
      go_simp
      exact hK _ _ (trivial) rfl (H.glob)
    case o2 =>
      intro L vs A W H hf hd K hK
      have e66 := H.is 1 66 rfl rfl rfl (deps_of' hd 1 (by kernel_rfl)) (by kernel_rfl)
      go_simp
      exact hK _ _ (trivial) rfl (H.glob)
    case o3 =>
      intro L vs A W H hf hd K hK
      have e67 := H.is 2 67 rfl rfl rfl (deps_of' hd 2 (by kernel_rfl)) (by kernel_rfl)
      have d : W.cell? ⟨rb, 5, none⟩ = some (.bool dd) := (by rw [H.glob]; exact HC5.out.1)
      go_simp
      exact hK _ _ (trivial) rfl (H.glob)
    case o4 =>
      intro L vs A W H hf hd K hK
      have e0 : A.tmps[0]?.getD undef = .pointer (some ⟨rb, 0, none⟩) := H.old 0 (by kernel_rfl)
      go_simp
      exact hK _ _ (trivial) rfl (H.glob)
    case o5 =>
      intro L vs A W H hf hd K hK
      have e69 := H.is 4 69 rfl rfl rfl (deps_of' hd 4 (by kernel_rfl)) (by kernel_rfl)
      go_simp
      exact hK _ _ (trivial) rfl (H.glob)
    case o6 =>
      intro L vs A W H hf hd K hK
      have e70 := H.is 5 70 rfl rfl rfl (deps_of' hd 5 (by kernel_rfl)) (by kernel_rfl)
      go_simp
      exact hK _ _ (trivial) rfl (H.glob)
    case o7 =>
      intro L vs A W H hf hd K hK
      have e71 := H.is 6 71 rfl rfl rfl (deps_of' hd 6 (by kernel_rfl)) (by kernel_rfl)
      have d : W.cell? ⟨rb, 6, none⟩ = some (.int .i64 er) := (by rw [H.glob]; exact HC5.out.2)
      go_simp
      exact hK _ _ (trivial) rfl (H.glob)
    case o8 =>
      intro L vs A W H hf hd K hK
      have e68 := H.is 3 68 rfl rfl rfl (deps_of' hd 3 (by kernel_rfl)) (by kernel_rfl)
      go_simp
      exact hK _ _ (trivial) rfl (H.glob)
    case o9 =>
      intro L vs A W H hf hd K hK
      have e72 := H.is 7 72 rfl rfl rfl (deps_of' hd 7 (by kernel_rfl)) (by kernel_rfl)
      go_simp
      exact hK _ _ (trivial) rfl (H.glob)
    case he =>
      intro vs W hlen hv
      match vs, hlen, hv with
      | [x0_, x1_, x2_, x3_, x4_, x5_, x6_, x7_, x8_, x9_], _, hv =>
      obtain rfl : (.pointer (some ⟨rb, 0, none⟩)) = x0_ := by obtain ⟨z, h1, h2⟩ := hv 0 _ rfl; cases h1; exact h2.symm
      obtain rfl : (.pointer (some ⟨rb, 0, none⟩)) = x1_ := by obtain ⟨z, h1, h2⟩ := hv 1 _ rfl; cases h1; exact h2.symm
      obtain rfl : (.pointer (some ⟨rb, 5, none⟩)) = x2_ := by obtain ⟨z, h1, h2⟩ := hv 2 _ rfl; cases h1; exact h2.symm
      obtain rfl : (.bool dd) = x3_ := by obtain ⟨z, h1, h2⟩ := hv 3 _ rfl; cases h1; exact h2.symm
      obtain rfl : (.pointer (some ⟨rb, 0, none⟩)) = x4_ := by obtain ⟨z, h1, h2⟩ := hv 4 _ rfl; cases h1; exact h2.symm
      obtain rfl : (.pointer (some ⟨rb, 0, none⟩)) = x5_ := by obtain ⟨z, h1, h2⟩ := hv 5 _ rfl; cases h1; exact h2.symm
      obtain rfl : (.pointer (some ⟨rb, 6, none⟩)) = x6_ := by obtain ⟨z, h1, h2⟩ := hv 6 _ rfl; cases h1; exact h2.symm
      obtain rfl : (.int .i64 er) = x7_ := by obtain ⟨z, h1, h2⟩ := hv 7 _ rfl; cases h1; exact h2.symm
      obtain rfl : (.bool dd) = x8_ := by obtain ⟨z, h1, h2⟩ := hv 8 _ rfl; cases h1; exact h2.symm
      obtain rfl : (.int .i64 er) = x9_ := by obtain ⟨z, h1, h2⟩ := hv 9 _ rfl; cases h1; exact h2.symm
      intro L hall hG
      clear hv hlen
      have HW := hG
      clear hG hall
      subst HW
      simp only [fill, if_true]
    --END
      simp [Act.put]
      go_wp2_with (fail)
      go_ret2
      exact ⟨rfl, (by first | exact HK5.out.drew | (rw [← HWe.out]; exact HK5.out.drew)), HB5.out.drew⟩
  · have hc1 : (64 : Int) < c := by omega
    clear hc
    go_wp2_with (go_at_call 31; refine HSz.out.mono ?_; rintro e w1 ⟨rfl, rfl⟩)
    obtain ⟨W5, hW5⟩ : ∃ W5, W5 = ((w.setCell ⟨rb, 5, none⟩ (.bool true)).setCell ⟨rb, 6, none⟩ (.int .i64 12)) := ⟨_, rfl⟩
    rw [← hW5] at HB5 HK5 ⊢
    have HC5 := Lib.hid (show W5.cell? ⟨rb, 5, none⟩ = some (.bool dd) ∧ W5.cell? ⟨rb, 6, none⟩ = some (.int .i64 er) from ⟨HB5.out.cell 5, HB5.out.cell 6⟩)
    have HWe := Lib.hid hW5
    clear hW5
    --GEN r_rn9
    refine wp_region_vals [Is (.pointer (some ⟨rb, 0, none⟩)), Is (.pointer (some ⟨rb, 0, none⟩)), Is (.pointer (some ⟨rb, 5, none⟩)), Is (.bool dd), Is (.pointer (some ⟨rb, 0, none⟩)), Is (.pointer (some ⟨rb, 0, none⟩)), Is (.pointer (some ⟨rb, 6, none⟩)), Is (.int .i64 er), Is (.bool dd), Is (.int .i64 er)]
      (fun _ _ _ => True) (fun _ W => W = W5.drew) (by kernel_rfl) (by kernel_rfl) (by kernel_rfl) ?hst ?h0 ⟨?o0, ?o1, ?o2, ?o3, ?o4, ?o5, ?o6, ?o7, ?o8, ?o9, trivial⟩ ?he
    case hst =>
      exact ⟨(fun _ _ _ _ _ _ h _ => h), (fun _ _ _ _ _ _ h _ => h), (fun _ _ _ _ _ _ h _ => h), (fun _ _ _ _ _ _ h _ => h), (fun _ _ _ _ _ _ h _ => h), (fun _ _ _ _ _ _ h _ => h), (fun _ _ _ _ _ _ h _ => h), (fun _ _ _ _ _ _ h _ => h), (fun _ _ _ _ _ _ h _ => h), (fun _ _ _ _ _ _ h _ => h), trivial⟩
    case h0 =>
      exact rfl
    case o0 =>
      intro L vs A W H hf hd K hK
      have e0 : A.tmps[0]?.getD undef = .pointer (some ⟨rb, 0, none⟩) := H.old 0 (by kernel_rfl)
      go_simp
      exact hK _ _ (trivial) rfl (H.glob)
    case o1 =>
      intro L vs A W H hf hd K hK
      have e65 := H.is 0 65 rfl rfl rfl (deps_of' hd 0 (by kernel_rfl)) (by kernel_rfl)
      go_simp
      exact hK _ _ (trivial) rfl (H.glob)
    case o2 =>
      intro L vs A W H hf hd K hK
      have e66 := H.is 1 66 rfl rfl rfl (deps_of' hd 1 (by kernel_rfl)) (by kernel_rfl)
      go_simp
      exact hK _ _ (trivial) rfl (H.glob)
    case o3 =>
      intro L vs A W H hf hd K hK
      have e67 := H.is 2 67 rfl rfl rfl (deps_of' hd 2 (by kernel_rfl)) (by kernel_rfl)
      have d : W.cell? ⟨rb, 5, none⟩ = some (.bool dd) := (by rw [H.glob]; exact HC5.out.1)
      go_simp
      exact hK _ _ (trivial) rfl (H.glob)
    case o4 =>
      intro L vs A W H hf hd K hK
      have e0 : A.tmps[0]?.getD undef = .pointer (some ⟨rb, 0, none⟩) := H.old 0 (by kernel_rfl)
      go_simp
      exact hK _ _ (trivial) rfl (H.glob)
    case o5 =>
      intro L vs A W H hf hd K hK
      have e69 := H.is 4 69 rfl rfl rfl (deps_of' hd 4 (by kernel_rfl)) (by kernel_rfl)
      go_simp
      exact hK _ _ (trivial) rfl (H.glob)
    case o6 =>
      intro L vs A W H hf hd K hK
      have e70 := H.is 5 70 rfl rfl rfl (deps_of' hd 5 (by kernel_rfl)) (by kernel_rfl)
      go_simp
      exact hK _ _ (trivial) rfl (H.glob)
    case o7 =>
      intro L vs A W H hf hd K hK
      have e71 := H.is 6 71 rfl rfl rfl (deps_of' hd 6 (by kernel_rfl)) (by kernel_rfl)
      have d : W.cell? ⟨rb, 6, none⟩ = some (.int .i64 er) := (by rw [H.glob]; exact HC5.out.2)
      go_simp
      exact hK _ _ (trivial) rfl (H.glob)
    case o8 =>
      intro L vs A W H hf hd K hK
      have e68 := H.is 3 68 rfl rfl rfl (deps_of' hd 3 (by kernel_rfl)) (by kernel_rfl)
      go_simp
      exact hK _ _ (trivial) rfl (H.glob)
    case o9 =>
      intro L vs A W H hf hd K hK
      have e72 := H.is 7 72 rfl rfl rfl (deps_of' hd 7 (by kernel_rfl)) (by kernel_rfl)
      go_simp
      exact hK _ _ (trivial) rfl (H.glob)
    case he =>
      intro vs W hlen hv
      match vs, hlen, hv with
      | [x0_, x1_, x2_, x3_, x4_, x5_, x6_, x7_, x8_, x9_], _, hv =>
      obtain rfl : (.pointer (some ⟨rb, 0, none⟩)) = x0_ := by obtain ⟨z, h1, h2⟩ := hv 0 _ rfl; cases h1; exact h2.symm
      obtain rfl : (.pointer (some ⟨rb, 0, none⟩)) = x1_ := by obtain ⟨z, h1, h2⟩ := hv 1 _ rfl; cases h1; exact h2.symm
      obtain rfl : (.pointer (some ⟨rb, 5, none⟩)) = x2_ := by obtain ⟨z, h1, h2⟩ := hv 2 _ rfl; cases h1; exact h2.symm
      obtain rfl : (.bool dd) = x3_ := by obtain ⟨z, h1, h2⟩ := hv 3 _ rfl; cases h1; exact h2.symm
      obtain rfl : (.pointer (some ⟨rb, 0, none⟩)) = x4_ := by obtain ⟨z, h1, h2⟩ := hv 4 _ rfl; cases h1; exact h2.symm
      obtain rfl : (.pointer (some ⟨rb, 0, none⟩)) = x5_ := by obtain ⟨z, h1, h2⟩ := hv 5 _ rfl; cases h1; exact h2.symm
      obtain rfl : (.pointer (some ⟨rb, 6, none⟩)) = x6_ := by obtain ⟨z, h1, h2⟩ := hv 6 _ rfl; cases h1; exact h2.symm
      obtain rfl : (.int .i64 er) = x7_ := by obtain ⟨z, h1, h2⟩ := hv 7 _ rfl; cases h1; exact h2.symm
      obtain rfl : (.bool dd) = x8_ := by obtain ⟨z, h1, h2⟩ := hv 8 _ rfl; cases h1; exact h2.symm
      obtain rfl : (.int .i64 er) = x9_ := by obtain ⟨z, h1, h2⟩ := hv 9 _ rfl; cases h1; exact h2.symm
      intro L hall hG
      clear hv hlen
      have HW := hG
      clear hG hall
      subst HW
      simp only [fill, if_true]
    --END
      simp [Act.put]
      go_wp2_with (fail)
      go_ret2
      exact ⟨rfl, (by first | exact HK5.out.drew | (rw [← HWe.out]; exact HK5.out.drew)), HB5.out.drew⟩
end Go.Proofs.Ytefgahcadfmmoaa
