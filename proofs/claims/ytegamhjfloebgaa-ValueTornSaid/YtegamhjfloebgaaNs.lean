/-
  A STEP OF A READ, AND ITS VALUE: contracts.
-/
import Derived.Test.YtegamhjfloebgaaNr
namespace Go.Proofs.Ytegamhjfloebgaa
open Go.RowKit Go.Shelf
attribute [local go_sem] Oper.semAt_some
set_option linter.unusedVariables false

/-- what a step makes of a read -/
def stepP (vw : List Int) (a : Int) (l : List Int) (s : ByteArray) (d : Bool) (bad : Int) : Bool × Int × List Int × ByteArray := if d then (d, bad, l, s) else loadP vw a l s
def stepN (vw : List Int) (a : Int) (l : List Int) (d : Bool) (lo : Int) : Int := if d then lo else ldN vw.length (adP a l) lo
structure SP (w : World) (rb mb : Nat) (a : Int) (vw is : List Int) (vv vi : Value) (ml : Nat) (st fl fe : Int) (r : Bool × Int × List Int × ByteArray) (n : Int) (e : Ending) (w' : World) : Prop where
  e : e = .returned (.tuple #[.bool r.1, .int .i64 r.2.1])
  rs : ∃ lv, RS w' rb mb a lv r.2.2.1 r.2.2.2 r.1 r.2.1
  m : MemB w' mb vw is vv vi ml n st fl fe
  kp : Keeps (fun k => k = mb ∨ rb ≤ k) w w'
theorem RS.c {w : World} {rb mb : Nat} {a : Int} {lv : Value} {l : List Int} {s : ByteArray} {d : Bool} {bad : Int} (h : RS w rb mb a lv l s d bad) (j : Nat) : w.cell? ⟨rb, j, none⟩ = (readM mb rb a lv s d bad)[j]? := h.blk.cell j
set_option maxRecDepth 100000 in
set_option maxHeartbeats 40000000 in
theorem step_done (w : World) (rb mb : Nat) (a : Int) (lv : Value) (l : List Int) (s : ByteArray) (b5 : Int) (vw is : List Int) (vv vi : Value) (ml : Nat) (lo st fl fe : Int)
    (hr : RS w rb mb a lv l s true b5) (h : MemB w mb vw is vv vi ml lo st fl fe) (hp : 0 < vw.length) (hn : vw.length ≤ 1000000) :
    Calls Try.prog 15 #[.pointer (some ⟨rb, 0, none⟩)] w fun e w' => e = .returned (.tuple #[.bool true, .int .i64 b5]) ∧ w' = w.drew := by
  obtain ⟨W5, rfl⟩ : ∃ W5, W5 = w := ⟨_, rfl⟩
  have hq1 := nil_eq
  have hq2 := fn_eq
  have HSz := Lib.hid (msize_v W5 mb vw is vv vi ml lo st fl fe h hp hn)
  have c0 : W5.cell? ⟨rb, 0, none⟩ = some (.pointer (some ⟨mb, 0, none⟩)) := hr.c 0
  have c2 : W5.cell? ⟨rb, 2, none⟩ = some (.func (.func 37) #[.pointer (some ⟨rb, 0, none⟩)] #[]) := hr.c 2
  have c5 : W5.cell? ⟨rb, 5, none⟩ = some (.bool true) := hr.c 5
  have c6 : W5.cell? ⟨rb, 6, none⟩ = some (.int .i64 b5) := hr.c 6
  have hz : ((8 * (vw.length : Int)) == 0) = false := beq_eq_false_iff_ne.2 (by omega)
  have HC5 := Lib.hid (And.intro c5 c6)
  clear hr h
  go_enter Try.func15, Try.ntmps15
  go_wp2_with (go_at_call 36; refine HSz.out.mono ?_; rintro e w1 ⟨rfl, rfl⟩)
  obtain ⟨d5, hd5⟩ : ∃ d5, d5 = true := ⟨_, rfl⟩
  rw [← hd5] at HC5
  have HD5 := Lib.hid hd5
  clear hd5 c5 c6
  --GEN r_st5
  refine wp_region_vals [Is (.pointer (some ⟨rb, 0, none⟩)), Is (.pointer (some ⟨rb, 0, none⟩)), Is (.pointer (some ⟨rb, 5, none⟩)), Is (.bool d5), Is (.pointer (some ⟨rb, 0, none⟩)), Is (.pointer (some ⟨rb, 0, none⟩)), Is (.pointer (some ⟨rb, 6, none⟩)), Is (.int .i64 b5), Is (.bool d5), Is (.int .i64 b5)]
    (fun _ _ _ => True) (fun _ W => W = W5.drew) (by kernel_rfl) (by kernel_rfl) (by kernel_rfl) ?hst ?h0 ⟨?o0, ?o1, ?o2, ?o3, ?o4, ?o5, ?o6, ?o7, ?o8, ?o9, trivial⟩ ?he
  case hst =>
    exact ⟨(fun _ _ _ _ _ _ h _ => h), (fun _ _ _ _ _ _ h _ => h), (fun _ _ _ _ _ _ h _ => h), (fun _ _ _ _ _ _ h _ => h), (fun _ _ _ _ _ _ h _ => h), (fun _ _ _ _ _ _ h _ => h), (fun _ _ _ _ _ _ h _ => h), (fun _ _ _ _ _ _ h _ => h), (fun _ _ _ _ _ _ h _ => h), (fun _ _ _ _ _ _ h _ => h), trivial⟩
  case h0 =>
    exact rfl
  case o0 =>
    intro L vs A W H hf hd K hK
    have e0 : A.tmps[0]?.getD undef = .pointer (some ⟨rb, 0, none⟩) := H.old 0 (by kernel_rfl)
    go_simp
    exact hK _ _ (trivial) rfl (H.glob)
  case o1 =>
    intro L vs A W H hf hd K hK
    have e40 := H.is 0 40 rfl rfl rfl (deps_of' hd 0 (by kernel_rfl)) (by kernel_rfl)
    go_simp
    exact hK _ _ (trivial) rfl (H.glob)
  case o2 =>
    intro L vs A W H hf hd K hK
    have e41 := H.is 1 41 rfl rfl rfl (deps_of' hd 1 (by kernel_rfl)) (by kernel_rfl)
    go_simp
    exact hK _ _ (trivial) rfl (H.glob)
  case o3 =>
    intro L vs A W H hf hd K hK
    have e42 := H.is 2 42 rfl rfl rfl (deps_of' hd 2 (by kernel_rfl)) (by kernel_rfl)
    have d : W.cell? ⟨rb, 5, none⟩ = some (.bool d5) := (by rw [H.glob]; exact HC5.out.1)
    go_simp
    exact hK _ _ (trivial) rfl (H.glob)
  case o4 =>
    intro L vs A W H hf hd K hK
    have e0 : A.tmps[0]?.getD undef = .pointer (some ⟨rb, 0, none⟩) := H.old 0 (by kernel_rfl)
    go_simp
    exact hK _ _ (trivial) rfl (H.glob)
  case o5 =>
    intro L vs A W H hf hd K hK
    have e44 := H.is 4 44 rfl rfl rfl (deps_of' hd 4 (by kernel_rfl)) (by kernel_rfl)
    go_simp
    exact hK _ _ (trivial) rfl (H.glob)
  case o6 =>
    intro L vs A W H hf hd K hK
    have e45 := H.is 5 45 rfl rfl rfl (deps_of' hd 5 (by kernel_rfl)) (by kernel_rfl)
    go_simp
    exact hK _ _ (trivial) rfl (H.glob)
  case o7 =>
    intro L vs A W H hf hd K hK
    have e46 := H.is 6 46 rfl rfl rfl (deps_of' hd 6 (by kernel_rfl)) (by kernel_rfl)
    have d : W.cell? ⟨rb, 6, none⟩ = some (.int .i64 b5) := (by rw [H.glob]; exact HC5.out.2)
    go_simp
    exact hK _ _ (trivial) rfl (H.glob)
  case o8 =>
    intro L vs A W H hf hd K hK
    have e43 := H.is 3 43 rfl rfl rfl (deps_of' hd 3 (by kernel_rfl)) (by kernel_rfl)
    go_simp
    exact hK _ _ (trivial) rfl (H.glob)
  case o9 =>
    intro L vs A W H hf hd K hK
    have e47 := H.is 7 47 rfl rfl rfl (deps_of' hd 7 (by kernel_rfl)) (by kernel_rfl)
    go_simp
    exact hK _ _ (trivial) rfl (H.glob)
  case he =>
    intro vs W hlen hv
    match vs, hlen, hv with
    | [x0_, x1_, x2_, x3_, x4_, x5_, x6_, x7_, x8_, x9_], _, hv =>
    obtain rfl : (.pointer (some ⟨rb, 0, none⟩)) = x0_ := by obtain ⟨z, h1, h2⟩ := hv 0 _ rfl; cases h1; exact h2.symm
    obtain rfl : (.pointer (some ⟨rb, 0, none⟩)) = x1_ := by obtain ⟨z, h1, h2⟩ := hv 1 _ rfl; cases h1; exact h2.symm
    obtain rfl : (.pointer (some ⟨rb, 5, none⟩)) = x2_ := by obtain ⟨z, h1, h2⟩ := hv 2 _ rfl; cases h1; exact h2.symm
    obtain rfl : (.bool d5) = x3_ := by obtain ⟨z, h1, h2⟩ := hv 3 _ rfl; cases h1; exact h2.symm
    obtain rfl : (.pointer (some ⟨rb, 0, none⟩)) = x4_ := by obtain ⟨z, h1, h2⟩ := hv 4 _ rfl; cases h1; exact h2.symm
    obtain rfl : (.pointer (some ⟨rb, 0, none⟩)) = x5_ := by obtain ⟨z, h1, h2⟩ := hv 5 _ rfl; cases h1; exact h2.symm
    obtain rfl : (.pointer (some ⟨rb, 6, none⟩)) = x6_ := by obtain ⟨z, h1, h2⟩ := hv 6 _ rfl; cases h1; exact h2.symm
    obtain rfl : (.int .i64 b5) = x7_ := by obtain ⟨z, h1, h2⟩ := hv 7 _ rfl; cases h1; exact h2.symm
    obtain rfl : (.bool d5) = x8_ := by obtain ⟨z, h1, h2⟩ := hv 8 _ rfl; cases h1; exact h2.symm
    obtain rfl : (.int .i64 b5) = x9_ := by obtain ⟨z, h1, h2⟩ := hv 9 _ rfl; cases h1; exact h2.symm
    intro L hall hG
    clear hv hlen
    have HW := hG
    clear hG hall
    subst HW
    simp only [fill, if_true]
  --END
    simp [Act.put]
    go_wp2_with (fail)
    go_ret2
    exact ⟨by rw [HD5.out]; rfl, rfl⟩
set_option maxRecDepth 100000 in
set_option maxHeartbeats 40000000 in
theorem step_v (w : World) (rb mb : Nat) (a : Int) (lv : Value) (l : List Int) (s : ByteArray) (d : Bool) (bad : Int) (vw is : List Int) (vv vi : Value) (ml : Nat) (lo st fl fe : Int)
    (hr : RS w rb mb a lv l s d bad) (h : MemB w mb vw is vv vi ml lo st fl fe) (hlt : ∀ i, MS mb vv vi i → i < rb) (hp : 0 < vw.length) (hn : vw.length ≤ 1000000) (h0 : 0 ≤ a) (h1 : a ≤ 18446744073709551615) (hl : l.length ≤ 100) (hul : U64s l) (huv : U64s vw) :
    Calls Try.prog 15 #[.pointer (some ⟨rb, 0, none⟩)] w (SP w rb mb a vw is vv vi ml st fl fe (stepP vw a l s d bad) (stepN vw a l d lo)) := by
  cases d with
  | true =>
    refine (step_done w rb mb a lv l s bad vw is vv vi ml lo st fl fe hr h hp hn).mono ?_
    rintro e w' ⟨rfl, rfl⟩
    exact ⟨rfl, ⟨lv, hr.blk.drew, hr.own.drew⟩, h.below (Below.refl _ _).drew, (Keeps.refl _ _).drew⟩
  | false =>
    have hq1 := nil_eq
    have hq2 := fn_eq
    have HSz := Lib.hid (msize_v w mb vw is vv vi ml lo st fl fe h hp hn)
    have HLd := Lib.hid (load_v w rb mb a lv l s false bad vw is vv vi ml lo st fl fe hr h hlt hp hn h0 h1 hl hul huv)
    have c0 : w.cell? ⟨rb, 0, none⟩ = some (.pointer (some ⟨mb, 0, none⟩)) := hr.c 0
    have c2 : w.cell? ⟨rb, 2, none⟩ = some (.func (.func 37) #[.pointer (some ⟨rb, 0, none⟩)] #[]) := hr.c 2
    have c5 : w.cell? ⟨rb, 5, none⟩ = some (.bool false) := hr.c 5
    have hz : ((8 * (vw.length : Int)) == 0) = false := beq_eq_false_iff_ne.2 (by omega)
    have HLT := Lib.hid hlt
    clear hr h hlt
    show Calls Try.prog 15 _ w (SP w rb mb a vw is vv vi ml st fl fe (loadP vw a l s) (ldN vw.length (adP a l) lo))
    obtain ⟨lp, hlp⟩ : ∃ lp, loadP vw a l s = lp := ⟨_, rfl⟩
    rw [hlp] at HLd ⊢
    obtain ⟨d5, b5, l5, s5⟩ := lp
    obtain ⟨ln, hln⟩ : ∃ ln, ldN vw.length (adP a l) lo = ln := ⟨_, rfl⟩
    rw [hln] at HLd ⊢
    clear hln hlp
    go_enter Try.func15, Try.ntmps15
    go_wp2_with (go_at_call 36; refine HSz.out.mono ?_; rintro e w1 ⟨rfl, rfl⟩)
    refine HLd.out.mono ?_
    rintro e w1 ⟨rfl, ⟨lv2, hr2⟩, hm2, hk2⟩
    have f5 : w1.frozen? ⟨rb, 5, none⟩ = false := hr2.blk.frozen 5
    have f6 : (w1.setCell ⟨rb, 5, none⟩ (.bool d5)).frozen? ⟨rb, 6, none⟩ = false := (hr2.blk.set 5 _).frozen 6
    have g5 : w1.cell? ⟨rb, 5, none⟩ = some (.bool false) := hr2.c 5
    have g6 : (w1.setCell ⟨rb, 5, none⟩ (.bool d5)).cell? ⟨rb, 6, none⟩ = some (.int .i64 bad) := by rw [(hr2.blk.set 5 _).cell]; rfl
    have k5 : Keeps (fun k => k = rb) w1 ((w1.setCell ⟨rb, 5, none⟩ (.bool d5)).setCell ⟨rb, 6, none⟩ (.int .i64 b5)) := ((Keeps.refl (fun k => k = rb) w1).setCell (p := ⟨rb, 5, none⟩) (.inl rfl) _).setCell (p := ⟨rb, 6, none⟩) (.inl rfl) _
    have HS5 := Lib.hid (show RS ((w1.setCell ⟨rb, 5, none⟩ (.bool d5)).setCell ⟨rb, 6, none⟩ (.int .i64 b5)) rb mb a lv2 l5 s5 d5 b5 from ⟨(hr2.blk.set 5 _).set 6 _, own_keeps hr2.own k5 (fun i e => by have := own_base hr2.own i e; omega)⟩)
    have HM5 := Lib.hid (hm2.kept k5 (fun i hi => by have := HLT.out i hi; omega))
    have HK5 := Lib.hid (hk2.trans (k5.mono (fun k _ h => .inr (by omega))))
    clear hr2 hm2 hk2 k5
    go_wp2_with (fail)
    obtain ⟨W5, hW5⟩ : ∃ W5, W5 = ((w1.setCell ⟨rb, 5, none⟩ (.bool d5)).setCell ⟨rb, 6, none⟩ (.int .i64 b5)) := ⟨_, rfl⟩
    rw [← hW5] at HS5 HM5 HK5 ⊢
    have HC5 := Lib.hid (And.intro (HS5.out.c 5) (HS5.out.c 6))
    clear hW5 f5 f6 g5 g6
    --GEN r_st5b
    refine wp_region_vals [Is (.pointer (some ⟨rb, 0, none⟩)), Is (.pointer (some ⟨rb, 0, none⟩)), Is (.pointer (some ⟨rb, 5, none⟩)), Is (.bool d5), Is (.pointer (some ⟨rb, 0, none⟩)), Is (.pointer (some ⟨rb, 0, none⟩)), Is (.pointer (some ⟨rb, 6, none⟩)), Is (.int .i64 b5), Is (.bool d5), Is (.int .i64 b5)]
      (fun _ _ _ => True) (fun _ W => W = W5.drew) (by kernel_rfl) (by kernel_rfl) (by kernel_rfl) ?hst ?h0 ⟨?o0, ?o1, ?o2, ?o3, ?o4, ?o5, ?o6, ?o7, ?o8, ?o9, trivial⟩ ?he
    case hst =>
      exact ⟨(fun _ _ _ _ _ _ h _ => h), (fun _ _ _ _ _ _ h _ => h), (fun _ _ _ _ _ _ h _ => h), (fun _ _ _ _ _ _ h _ => h), (fun _ _ _ _ _ _ h _ => h), (fun _ _ _ _ _ _ h _ => h), (fun _ _ _ _ _ _ h _ => h), (fun _ _ _ _ _ _ h _ => h), (fun _ _ _ _ _ _ h _ => h), (fun _ _ _ _ _ _ h _ => h), trivial⟩
    case h0 =>
      exact rfl
    case o0 =>
      intro L vs A W H hf hd K hK
      have e0 : A.tmps[0]?.getD undef = .pointer (some ⟨rb, 0, none⟩) := H.old 0 (by kernel_rfl)
      go_simp
      exact hK _ _ (trivial) rfl (H.glob)
    case o1 =>
      intro L vs A W H hf hd K hK
      have e40 := H.is 0 40 rfl rfl rfl (deps_of' hd 0 (by kernel_rfl)) (by kernel_rfl)
      go_simp
      exact hK _ _ (trivial) rfl (H.glob)
    case o2 =>
      intro L vs A W H hf hd K hK
      have e41 := H.is 1 41 rfl rfl rfl (deps_of' hd 1 (by kernel_rfl)) (by kernel_rfl)
      go_simp
      exact hK _ _ (trivial) rfl (H.glob)
    case o3 =>
      intro L vs A W H hf hd K hK
      have e42 := H.is 2 42 rfl rfl rfl (deps_of' hd 2 (by kernel_rfl)) (by kernel_rfl)
      have d : W.cell? ⟨rb, 5, none⟩ = some (.bool d5) := (by rw [H.glob]; exact HC5.out.1)
      go_simp
      exact hK _ _ (trivial) rfl (H.glob)
    case o4 =>
      intro L vs A W H hf hd K hK
      have e0 : A.tmps[0]?.getD undef = .pointer (some ⟨rb, 0, none⟩) := H.old 0 (by kernel_rfl)
      go_simp
      exact hK _ _ (trivial) rfl (H.glob)
    case o5 =>
      intro L vs A W H hf hd K hK
      have e44 := H.is 4 44 rfl rfl rfl (deps_of' hd 4 (by kernel_rfl)) (by kernel_rfl)
      go_simp
      exact hK _ _ (trivial) rfl (H.glob)
    case o6 =>
      intro L vs A W H hf hd K hK
      have e45 := H.is 5 45 rfl rfl rfl (deps_of' hd 5 (by kernel_rfl)) (by kernel_rfl)
      go_simp
      exact hK _ _ (trivial) rfl (H.glob)
    case o7 =>
      intro L vs A W H hf hd K hK
      have e46 := H.is 6 46 rfl rfl rfl (deps_of' hd 6 (by kernel_rfl)) (by kernel_rfl)
      have d : W.cell? ⟨rb, 6, none⟩ = some (.int .i64 b5) := (by rw [H.glob]; exact HC5.out.2)
      go_simp
      exact hK _ _ (trivial) rfl (H.glob)
    case o8 =>
      intro L vs A W H hf hd K hK
      have e43 := H.is 3 43 rfl rfl rfl (deps_of' hd 3 (by kernel_rfl)) (by kernel_rfl)
      go_simp
      exact hK _ _ (trivial) rfl (H.glob)
    case o9 =>
      intro L vs A W H hf hd K hK
      have e47 := H.is 7 47 rfl rfl rfl (deps_of' hd 7 (by kernel_rfl)) (by kernel_rfl)
      go_simp
      exact hK _ _ (trivial) rfl (H.glob)
    case he =>
      intro vs W hlen hv
      match vs, hlen, hv with
      | [x0_, x1_, x2_, x3_, x4_, x5_, x6_, x7_, x8_, x9_], _, hv =>
      obtain rfl : (.pointer (some ⟨rb, 0, none⟩)) = x0_ := by obtain ⟨z, h1, h2⟩ := hv 0 _ rfl; cases h1; exact h2.symm
      obtain rfl : (.pointer (some ⟨rb, 0, none⟩)) = x1_ := by obtain ⟨z, h1, h2⟩ := hv 1 _ rfl; cases h1; exact h2.symm
      obtain rfl : (.pointer (some ⟨rb, 5, none⟩)) = x2_ := by obtain ⟨z, h1, h2⟩ := hv 2 _ rfl; cases h1; exact h2.symm
      obtain rfl : (.bool d5) = x3_ := by obtain ⟨z, h1, h2⟩ := hv 3 _ rfl; cases h1; exact h2.symm
      obtain rfl : (.pointer (some ⟨rb, 0, none⟩)) = x4_ := by obtain ⟨z, h1, h2⟩ := hv 4 _ rfl; cases h1; exact h2.symm
      obtain rfl : (.pointer (some ⟨rb, 0, none⟩)) = x5_ := by obtain ⟨z, h1, h2⟩ := hv 5 _ rfl; cases h1; exact h2.symm
      obtain rfl : (.pointer (some ⟨rb, 6, none⟩)) = x6_ := by obtain ⟨z, h1, h2⟩ := hv 6 _ rfl; cases h1; exact h2.symm
      obtain rfl : (.int .i64 b5) = x7_ := by obtain ⟨z, h1, h2⟩ := hv 7 _ rfl; cases h1; exact h2.symm
      obtain rfl : (.bool d5) = x8_ := by obtain ⟨z, h1, h2⟩ := hv 8 _ rfl; cases h1; exact h2.symm
      obtain rfl : (.int .i64 b5) = x9_ := by obtain ⟨z, h1, h2⟩ := hv 9 _ rfl; cases h1; exact h2.symm
      intro L hall hG
      clear hv hlen
      have HW := hG
      clear hG hall
      subst HW
      simp only [fill, if_true]
    --END
      simp [Act.put]
      go_wp2_with (fail)
      go_ret2
      exact ⟨rfl, ⟨lv2, HS5.out.blk.drew, HS5.out.own.drew⟩, HM5.out.below (Below.refl _ _).drew, HK5.out.drew⟩
end Go.Proofs.Ytegamhjfloebgaa
