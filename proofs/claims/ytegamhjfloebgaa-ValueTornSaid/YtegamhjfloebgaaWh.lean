/-
  THE VALUE OF A READ, AND WHAT WAS DONE: contracts.
-/
import Derived.Test.YtegamhjfloebgaaNs
namespace Go.Proofs.Ytegamhjfloebgaa
open Go.RowKit Go.Shelf
attribute [local go_sem] Oper.semAt_some
set_option linter.unusedVariables false

/-- the value that was read -/
def valP (d : Bool) (b : Int) (s : ByteArray) : ByteArray × Int := if d then (if b = 0 then (s, 0) else (⟨#[]⟩, b)) else (⟨#[]⟩, 7)
set_option maxRecDepth 100000 in
set_option maxHeartbeats 40000000 in
theorem value_v (w : World) (rb mb : Nat) (a : Int) (lv : Value) (l : List Int) (s : ByteArray) (dd : Bool) (b5 : Int) (vw is : List Int) (vv vi : Value) (ml : Nat) (lo st fl fe : Int)
    (hr : RS w rb mb a lv l s dd b5) (h : MemB w mb vw is vv vi ml lo st fl fe) (hp : 0 < vw.length) (hn : vw.length ≤ 1000000) :
    Calls Try.prog 16 #[.pointer (some ⟨rb, 0, none⟩)] w fun e w' => e = .returned (.tuple #[.string (valP dd b5 s).1, .int .i64 (valP dd b5 s).2]) ∧ Below w.heap.size w w' := by
  obtain ⟨W5, rfl⟩ : ∃ W5, W5 = w := ⟨_, rfl⟩
  have hq1 := nil_eq
  have hq2 := fn_eq
  have HSz := Lib.hid (msize_v W5 mb vw is vv vi ml lo st fl fe h hp hn)
  have c0 : W5.cell? ⟨rb, 0, none⟩ = some (.pointer (some ⟨mb, 0, none⟩)) := hr.c 0
  have c2 : W5.cell? ⟨rb, 2, none⟩ = some (.func (.func 37) #[.pointer (some ⟨rb, 0, none⟩)] #[]) := hr.c 2
  have c4 : W5.cell? ⟨rb, 4, none⟩ = some (.string s) := hr.c 4
  have c5 : W5.cell? ⟨rb, 5, none⟩ = some (.bool dd) := hr.c 5
  have c6 : W5.cell? ⟨rb, 6, none⟩ = some (.int .i64 b5) := hr.c 6
  have hz : ((8 * (vw.length : Int)) == 0) = false := beq_eq_false_iff_ne.2 (by omega)
  have HC5 := Lib.hid c6
  clear hr h
  cases dd with
  | false =>
    go_enter Try.func16, Try.ntmps16
    go_wp2_with (go_at_call 36; refine HSz.out.mono ?_; rintro e w1 ⟨rfl, rfl⟩)
    go_ret2
    exact ⟨rfl, Below.refl _ _⟩
  | true =>
    by_cases hb : b5 = 0
    · subst hb
      go_enter Try.func16, Try.ntmps16
      go_wp2_with (go_at_call 36; refine HSz.out.mono ?_; rintro e w1 ⟨rfl, rfl⟩)
      go_ret2
      exact ⟨rfl, Below.refl _ _⟩
    · have hz2 : (b5 != 0) = true := bne_iff_ne.2 hb
      have HNB := Lib.hid hb
      clear hb
      go_enter Try.func16, Try.ntmps16
      go_wp2_with (go_at_call 36; refine HSz.out.mono ?_; rintro e w1 ⟨rfl, rfl⟩)
      --GEN r_va6
      refine wp_region_vals [Is (.pointer (some ⟨rb, 0, none⟩)), Is (.pointer (some ⟨rb, 0, none⟩)), Is (.pointer (some ⟨rb, 6, none⟩)), Is (.int .i64 b5), Is (.string ⟨#[]⟩), Is (.int .i64 b5)]
        (fun _ _ _ => True) (fun _ W => W = W5.drew) (by kernel_rfl) (by kernel_rfl) (by kernel_rfl) ?hst ?h0 ⟨?o0, ?o1, ?o2, ?o3, ?o4, ?o5, trivial⟩ ?he
      case hst =>
        exact ⟨(fun _ _ _ _ _ _ h _ => h), (fun _ _ _ _ _ _ h _ => h), (fun _ _ _ _ _ _ h _ => h), (fun _ _ _ _ _ _ h _ => h), (fun _ _ _ _ _ _ h _ => h), (fun _ _ _ _ _ _ h _ => h), trivial⟩
      case h0 =>
        exact rfl
      case o0 =>
        intro L vs A W H hf hd K hK
        have e0 : A.tmps[0]?.getD undef = .pointer (some ⟨rb, 0, none⟩) := H.old 0 (by kernel_rfl)
        go_simp
        exact hK _ _ (trivial) rfl (H.glob)
      case o1 =>
        intro L vs A W H hf hd K hK
        have e34 := H.is 0 34 rfl rfl rfl (deps_of' hd 0 (by kernel_rfl)) (by kernel_rfl)
        go_simp
        exact hK _ _ (trivial) rfl (H.glob)
      case o2 =>
        intro L vs A W H hf hd K hK
        have e35 := H.is 1 35 rfl rfl rfl (deps_of' hd 1 (by kernel_rfl)) (by kernel_rfl)
        go_simp
        exact hK _ _ (trivial) rfl (H.glob)
      case o3 =>
        intro L vs A W H hf hd K hK
        have e36 := H.is 2 36 rfl rfl rfl (deps_of' hd 2 (by kernel_rfl)) (by kernel_rfl)
        have d : W.cell? ⟨rb, 6, none⟩ = some (.int .i64 b5) := (by rw [H.glob]; exact HC5.out)
        go_simp
        exact hK _ _ (trivial) rfl (H.glob)
      case o4 =>
        intro L vs A W H hf hd K hK
        go_simp
        exact hK _ _ (trivial) rfl (H.glob)
      case o5 =>
        intro L vs A W H hf hd K hK
        have e37 := H.is 3 37 rfl rfl rfl (deps_of' hd 3 (by kernel_rfl)) (by kernel_rfl)
        go_simp
        exact hK _ _ (trivial) rfl (H.glob)
      case he =>
        intro vs W hlen hv
        match vs, hlen, hv with
        | [x0_, x1_, x2_, x3_, x4_, x5_], _, hv =>
        obtain rfl : (.pointer (some ⟨rb, 0, none⟩)) = x0_ := by obtain ⟨z, h1, h2⟩ := hv 0 _ rfl; cases h1; exact h2.symm
        obtain rfl : (.pointer (some ⟨rb, 0, none⟩)) = x1_ := by obtain ⟨z, h1, h2⟩ := hv 1 _ rfl; cases h1; exact h2.symm
        obtain rfl : (.pointer (some ⟨rb, 6, none⟩)) = x2_ := by obtain ⟨z, h1, h2⟩ := hv 2 _ rfl; cases h1; exact h2.symm
        obtain rfl : (.int .i64 b5) = x3_ := by obtain ⟨z, h1, h2⟩ := hv 3 _ rfl; cases h1; exact h2.symm
        obtain rfl : (.string ⟨#[]⟩) = x4_ := by obtain ⟨z, h1, h2⟩ := hv 4 _ rfl; cases h1; exact h2.symm
        obtain rfl : (.int .i64 b5) = x5_ := by obtain ⟨z, h1, h2⟩ := hv 5 _ rfl; cases h1; exact h2.symm
        intro L hall hG
        clear hv hlen
        have HW := hG
        clear hG hall
        subst HW
        simp only [fill, if_true]
      --END
        simp [Act.put]
        go_wp2_with (fail)
        go_ret2
        exact ⟨by unfold valP; rw [if_pos rfl, if_neg HNB.out]; rfl, (Below.refl _ _).drew⟩
set_option maxRecDepth 100000 in
theorem did_v (w : World) (b : Nat) (vs is : List Int) (vv vi : Value) (ml : Nat) (lo st fl fe : Int) (h : MemB w b vs is vv vi ml lo st fl fe) (hp : 0 < vs.length)
    (h0 : 0 ≤ lo) (h1 : 0 ≤ st) (h2 : 0 ≤ fl) (h3 : 0 ≤ fe) (hs : lo + st + fl + fe ≤ 1000000) :
    Calls Try.prog 42 #[.pointer (some ⟨b, 0, none⟩)] w fun e w' => e = .returned (.int .u64 (lo + st + fl + fe)) ∧ Below w.heap.size w w' := by
  have HSt := Lib.hid (mstats_v w b vs is vv vi ml lo st fl fe h hp)
  have q1 : IntKind.u64.wrap (lo + st) = lo + st := IntWalk.u64_in _ (by omega)
  have q2 : IntKind.u64.wrap (lo + st + fl) = lo + st + fl := IntWalk.u64_in _ (by omega)
  have q3 : IntKind.u64.wrap (lo + st + fl + fe) = lo + st + fl + fe := IntWalk.u64_in _ (by omega)
  unfold statCells at HSt
  clear h
  go_enter Try.func42, Try.ntmps42
  go_wp2_with (fail)
  refine HSt.out.mono ?_
  rintro e w1 ⟨rfl, hB⟩
  have HB := Lib.hid hB
  have HBk := Lib.hid (Blk.new w1 #[.int .u64 lo, .int .u64 st, .int .u64 fl, .int .u64 fe] 74)
  clear hB
  go_wp2_with (fail)
  go_ret
  exact ⟨rfl, HB.out.alloc HB.out.size _⟩

/-! ### steps, one behind the other -/
def itP (vw : List Int) (a : Int) : Nat → Bool × Int × List Int × ByteArray
  | 0 => (false, 0, [], ⟨#[]⟩)
  | j + 1 => stepP vw a (itP vw a j).2.2.1 (itP vw a j).2.2.2 (itP vw a j).1 (itP vw a j).2.1
def itN (vw : List Int) (a : Int) (lo : Int) : Nat → Int
  | 0 => lo
  | j + 1 => stepN vw a (itP vw a j).2.2.1 (itP vw a j).1 (itN vw a lo j)
theorem nextP_l (nl : List Int) (s : ByteArray) : (nextP nl s).2.2.1 = nl := by unfold nextP; split <;> (try split) <;> rfl
theorem stepP_l (vw : List Int) (a : Int) (l : List Int) (s : ByteArray) (d : Bool) (b : Int) : (stepP vw a l s d b).2.2.1 = l ∨ (stepP vw a l s d b).2.2.1 = l ++ [ldW vw (adP a l)] := by
  unfold stepP loadP
  split
  · exact .inl rfl
  · split
    · exact .inr (nextP_l _ _)
    · exact .inl rfl
theorem itP_len (vw : List Int) (a : Int) : ∀ j, (itP vw a j).2.2.1.length ≤ j
  | 0 => Nat.le_refl _
  | j + 1 => by
    have h := itP_len vw a j
    show (stepP vw a _ _ _ _).2.2.1.length ≤ j + 1
    rcases stepP_l vw a (itP vw a j).2.2.1 (itP vw a j).2.2.2 (itP vw a j).1 (itP vw a j).2.1 with e | e
    · rw [e]; omega
    · rw [e, List.length_append]; simp; omega
theorem itP_u64 {vw : List Int} (hu : U64s vw) (a : Int) : ∀ j, U64s (itP vw a j).2.2.1
  | 0 => fun x hx => by cases hx
  | j + 1 => by
    have h := itP_u64 hu a j
    show U64s (stepP vw a _ _ _ _).2.2.1
    rcases stepP_l vw a (itP vw a j).2.2.1 (itP vw a j).2.2.2 (itP vw a j).1 (itP vw a j).2.1 with e | e
    · rw [e]; exact h
    · rw [e]
      intro x hx
      rcases List.mem_append.1 hx with hx | hx
      · exact h x hx
      · simp at hx; rw [hx]; exact ldW_u64 hu _
theorem itN_step (vw : List Int) (a : Int) (lo : Int) (j : Nat) (h0 : 0 ≤ itN vw a lo j) (h1 : itN vw a lo j ≤ 1000000) : itN vw a lo (j + 1) = itN vw a lo j ∨ itN vw a lo (j + 1) = itN vw a lo j + 1 := by
  show stepN _ _ _ _ _ = _ ∨ stepN _ _ _ _ _ = _
  unfold stepN ldN
  split
  · exact .inl rfl
  · split
    · exact .inr (IntWalk.u64_in _ (by omega))
    · exact .inl rfl
theorem itN_bd (vw : List Int) (a : Int) (lo : Int) (h0 : 0 ≤ lo) (h1 : lo ≤ 1000) : ∀ j, j ≤ 1000 → lo ≤ itN vw a lo j ∧ itN vw a lo j ≤ lo + j
  | 0, _ => ⟨Int.le_refl _, by show lo ≤ _; omega⟩
  | j + 1, hj => by
    have h := itN_bd vw a lo h0 h1 j (by omega)
    rcases itN_step vw a lo j (by omega) (by omega) with e | e <;> rw [e] <;> omega
structure WhI (w0 : World) (rb mb : Nat) (a : Int) (vw is : List Int) (vv vi : Value) (ml : Nat) (lo st fl fe : Int) (j : Nat) (w : World) : Prop where
  rs : ∃ lv, RS w rb mb a lv (itP vw a j).2.2.1 (itP vw a j).2.2.2 (itP vw a j).1 (itP vw a j).2.1
  m : MemB w mb vw is vv vi ml (itN vw a lo j) st fl fe
  kp : Keeps (fun k => k = mb ∨ rb ≤ k) w0 w
section
variable {w0 w w' : World} {rb mb : Nat} {a : Int} {vw is : List Int} {vv vi : Value} {ml : Nat} {lo st fl fe : Int} {j : Nat}
theorem WhI.below (h : WhI w0 rb mb a vw is vv vi ml lo st fl fe j w) (hB : Below w.heap.size w w') : WhI w0 rb mb a vw is vv vi ml lo st fl fe j w' := by
  obtain ⟨⟨lv, h1⟩, h2, h3⟩ := h
  exact ⟨⟨lv, h1.blk.kept (Keeps.of_below' hB) (fun h => h), own_keeps h1.own (Keeps.of_below' hB) (fun _ _ h => h)⟩, h2.below hB, h3.trans (keeps_belowS hB)⟩
/-- what all of it rests on -/
structure WhH (rb mb : Nat) (a : Int) (vw : List Int) (vv vi : Value) (lo st fl fe : Int) : Prop where
  lt : ∀ i, MS mb vv vi i → i < rb
  p : 0 < vw.length
  n : vw.length ≤ 1000000
  a0 : 0 ≤ a
  a1 : a ≤ 18446744073709551615
  u : U64s vw
  l0 : 0 ≤ lo
  l1 : lo ≤ 1000
  s0 : 0 ≤ st
  s1 : st ≤ 1000
  f0 : 0 ≤ fl
  f1 : fl ≤ 1000
  e0 : 0 ≤ fe
  e1 : fe ≤ 1000
theorem WhI.step (h : WhI w0 rb mb a vw is vv vi ml lo st fl fe j w) (H : WhH rb mb a vw vv vi lo st fl fe) (hj : j ≤ 99) :
    Calls Try.prog 15 #[.pointer (some ⟨rb, 0, none⟩)] w fun e w' => e = .returned (.tuple #[.bool (itP vw a (j + 1)).1, .int .i64 (itP vw a (j + 1)).2.1]) ∧ WhI w0 rb mb a vw is vv vi ml lo st fl fe (j + 1) w' := by
  obtain ⟨⟨lv, h1⟩, h2, h3⟩ := h
  refine (step_v w rb mb a lv _ _ _ _ vw is vv vi ml _ st fl fe h1 h2 H.lt H.p H.n H.a0 H.a1 (by have := itP_len vw a j; omega) (itP_u64 H.u a j) H.u).mono ?_
  rintro e w' ⟨rfl, hr, hm, hk⟩
  exact ⟨rfl, hr, hm, h3.trans hk⟩
theorem WhI.did (h : WhI w0 rb mb a vw is vv vi ml lo st fl fe j w) (H : WhH rb mb a vw vv vi lo st fl fe) (hj : j ≤ 99) :
    Calls Try.prog 42 #[.pointer (some ⟨mb, 0, none⟩)] w fun e w' => e = .returned (.int .u64 (itN vw a lo j + st + fl + fe)) ∧ WhI w0 rb mb a vw is vv vi ml lo st fl fe j w' := by
  have hb := itN_bd vw a lo H.l0 H.l1 j (by omega)
  have := H.l0; have := H.l1; have := H.s1; have := H.f1; have := H.e1
  refine (did_v w mb vw is vv vi ml _ st fl fe h.m H.p (by omega) H.s0 H.f0 H.e0 (by omega)).mono ?_
  rintro e w' ⟨rfl, hB⟩
  exact ⟨rfl, h.below hB⟩
theorem WhI.value (h : WhI w0 rb mb a vw is vv vi ml lo st fl fe j w) (H : WhH rb mb a vw vv vi lo st fl fe) :
    Calls Try.prog 16 #[.pointer (some ⟨rb, 0, none⟩)] w fun e w' => e = .returned (.tuple #[.string (valP (itP vw a j).1 (itP vw a j).2.1 (itP vw a j).2.2.2).1, .int .i64 (valP (itP vw a j).1 (itP vw a j).2.1 (itP vw a j).2.2.2).2]) ∧ WhI w0 rb mb a vw is vv vi ml lo st fl fe j w' := by
  obtain ⟨lv, h1⟩ := h.rs
  refine (value_v w rb mb a lv _ _ _ _ vw is vv vi ml _ st fl fe h1 h.m H.p H.n).mono ?_
  rintro e w' ⟨rfl, hB⟩
  exact ⟨rfl, h.below hB⟩
end
theorem sub_le (x y : Int) (h : y = x ∨ y = x + 1) : ∃ q, IntKind.u64.wrap (y - x) = q ∧ decide (1 < q) = false := by
  refine ⟨y - x, IntWalk.u64_in _ (by omega), decide_eq_false (by omega)⟩
set_option maxRecDepth 100000 in
set_option maxHeartbeats 40000000 in
/-- a read goes on till it ends: behind n steps -/
theorem whole_v (w : World) (rb mb : Nat) (a : Int) (vw is : List Int) (vv vi : Value) (ml : Nat) (lo st fl fe : Int) (n : Nat)
    (hI : WhI w rb mb a vw is vv vi ml lo st fl fe 0 w) (H : WhH rb mb a vw vv vi lo st fl fe) (h1 : 1 ≤ n) (hn : n ≤ 30)
    (hlt : ∀ j, j < n → (itP vw a j).1 = false ∧ (itP vw a j).2.1 = 0) (hd : (itP vw a n).1 = true) :
    Calls Try.prog 20 #[.pointer (some ⟨mb, 0, none⟩), .pointer (some ⟨rb, 0, none⟩)] w fun e w' => e = .returned (.int .i64 n) ∧ WhI w rb mb a vw is vv vi ml lo st fl fe n w' := by
  have HI := Lib.hid hI
  have HL := Lib.hid hlt
  have HD := Lib.hid hd
  clear hI hlt hd
  go_enter Try.func20, Try.ntmps20
  go_wp2_with (fail)
  go_loopw [5] (fun iv wr => ∃ j : Nat, iv = .int .i64 ((j : Int) + 1) ∧ j < n ∧ WhI w rb mb a vw is vv vi ml lo st fl fe j wr) (fun iv _ => 40 - (intOf iv).toNat)
  case atStart => exact ⟨0, rfl, h1, HI.out⟩
  case round =>
    obtain ⟨j, rfl, hj, hI⟩ := hrel
    have HIj := Lib.hid hI
    have hj30 : (j : Int) + 1 ≤ 30 := by omega
    have hstep := itN_step vw a lo j (by have := itN_bd vw a lo H.l0 H.l1 j (by omega); have := H.l0; omega) (by have := itN_bd vw a lo H.l0 H.l1 j (by omega); have := H.l1; omega)
    obtain ⟨q, hq1, hq2⟩ := sub_le (itN vw a lo j + st + fl + fe) (itN vw a lo (j + 1) + st + fl + fe) (by omega)
    clear hI hstep
    by_cases hjn : j + 1 < n
    · have hd1 := (HL.out _ hjn).1
      have hd2 := (HL.out _ hjn).2
      go_wp2_with (fail)
      refine (HIj.out.did H (by omega)).mono ?_
      rintro e w1 ⟨rfl, hI1⟩
      go_wp2_with (fail)
      refine (hI1.step H (by omega)).mono ?_
      rintro e w2 ⟨rfl, hI2⟩
      clear hI1
      have HI2 := Lib.hid hI2
      clear hI2
      go_wp2_with (fail)
      refine (HI2.out.did H (by omega)).mono ?_
      rintro e w3 ⟨rfl, hI3⟩
      have HI3 := Lib.hid hI3
      clear hI3
      go_wp2_with (fail)
      go_roundw
      case rel => exact ⟨j + 1, by go_num, hjn, HI3.out⟩
      case measure => simp [intOf]; omega
    · obtain rfl : n = j + 1 := by omega
      have hd1 := HD.out
      obtain ⟨bb, hbb⟩ : ∃ bb, (itP vw a (j + 1)).2.1 = bb := ⟨_, rfl⟩
      have hs1 : (itP vw a (j + 1 + 1)).1 = true := by show (stepP _ _ _ _ _ _).1 = true; unfold stepP; rw [if_pos hd1]; exact hd1
      have hs2 : (itP vw a (j + 1 + 1)).2.1 = bb := by show (stepP _ _ _ _ _ _).2.1 = bb; unfold stepP; rw [if_pos hd1]; exact hbb
      have hs3 : itN vw a lo (j + 1 + 1) = itN vw a lo (j + 1) := by show stepN _ _ _ _ _ = _; unfold stepN; rw [if_pos hd1]
      have HS4 := Lib.hid (show ∀ w', WhI w rb mb a vw is vv vi ml lo st fl fe (j + 1 + 1) w' → WhI w rb mb a vw is vv vi ml lo st fl fe (j + 1) w' from fun w' h => by
        have e : itP vw a (j + 1 + 1) = itP vw a (j + 1) := by
          show stepP _ _ _ _ _ _ = _
          unfold stepP; rw [if_pos hd1]
        obtain ⟨h1, h2, h3⟩ := h
        rw [e] at h1; rw [hs3] at h2
        exact ⟨h1, h2, h3⟩)
      have hbe : (bb != bb) = false := bne_self_eq_false bb
      have hz2 : bb = 0 ∨ (bb != 0) = true := by
        by_cases h : bb = 0
        · exact .inl h
        · exact .inr (bne_iff_ne.2 h)
      rcases hz2 with rfl | hz2
      all_goals
        go_wp2_with (fail)
        refine (HIj.out.did H (by omega)).mono ?_
        rintro e w1 ⟨rfl, hI1⟩
        go_wp2_with (fail)
        refine (hI1.step H (by omega)).mono ?_
        rintro e w2 ⟨rfl, hI2⟩
        clear hI1
        have HI2 := Lib.hid hI2
        clear hI2
        go_wp2_with (fail)
        refine (HI2.out.did H (by omega)).mono ?_
        rintro e w3 ⟨rfl, hI3⟩
        have HI3 := Lib.hid hI3
        clear hI3
        go_wp2_with (fail)
        refine (HI3.out.step H (by omega)).mono ?_
        rintro e w4 ⟨rfl, hI4⟩
        have HI4 := Lib.hid hI4
        clear hI4
        go_wp2_with (fail)
        refine (HI4.out.did H (by omega)).mono ?_
        rintro e w5 ⟨rfl, hI5⟩
        have HI5 := Lib.hid hI5
        clear hI5
        go_wp2_with (fail)
        go_ret
        exact ⟨rfl, HS4.out _ HI5.out⟩
end Go.Proofs.Ytegamhjfloebgaa
