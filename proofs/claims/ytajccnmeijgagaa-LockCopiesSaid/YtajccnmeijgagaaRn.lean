/-
  THE DOCUMENT's LOCKS: Copy.
-/
import Derived.Test.YtajccnmeijgagaaAg
import Derived.Shelf.SlMaps.Equal
import Derived.ChangeKeysEq
import Derived.Test.YtajccnmeijgagaaSm
namespace Go.Proofs.Ytajccnmeijgagaa
open Go.RowKit Go.Maps Go.Shelf
set_option linter.unusedVariables false

def eqRen : Go.Shelf.Ren := ⟨fun | 6 => 40 | n => n, fun | 0 => 0 | 3 => 3 | 4 => 4 | 23 => 56 | 24 => 56 | 26 => 29 | 27 => 3 | 36 => 35 | n => n, fun | n => n⟩
theorem eqLays : SlLaysEq.n6 Try.prog eqRen := {
  mixed := by kernel_rfl
  f6 := ⟨Try.f40.name, by kernel_rfl, Try.func40.trans (congrArg some (by kernel_rfl))⟩
  t0 := by kernel_rfl
  a0 := fun w => by kernel_rfl
  z0 := fun w => by kernel_rfl
  v0 := fun w => by kernel_rfl
  t3 := by kernel_rfl
  a3 := fun w => by kernel_rfl
  z3 := fun w => by kernel_rfl
  v3 := fun w => by kernel_rfl
  t4 := by kernel_rfl
  a4 := fun w => by kernel_rfl
  z4 := fun w => by kernel_rfl
  v4 := fun w => by kernel_rfl
  t23 := by kernel_rfl
  a23 := fun w => by kernel_rfl
  z23 := fun w => by kernel_rfl
  v23 := fun w => by kernel_rfl
  t24 := by kernel_rfl
  a24 := fun w => by kernel_rfl
  z24 := fun w => by kernel_rfl
  v24 := fun w => by kernel_rfl
  a26 := fun w => by kernel_rfl
  z26 := fun w => by kernel_rfl
  a27 := fun w => by kernel_rfl
  z27 := fun w => by kernel_rfl
  t36 := by kernel_rfl
  a36 := fun w => by kernel_rfl
  z36 := fun w => by kernel_rfl }
/-- two numbers, as data -/
def numEq (x y : DataW Unit) : Bool := num x == num y
theorem mequal_v (w : World) (m1 m2 k1 k2 : Nat) (D1 D2 : DataW Unit) (h1 : w.ownsMap Try.prog 29 (plainElem Try.prog 3) m1 k1 D1) (h2 : w.ownsMap Try.prog 29 (plainElem Try.prog 3) m2 k2 D2) :
    Calls Try.prog 40 #[.map (some m1), .map (some m2)] w fun e w' => e = .returned (.bool (Lib.equalFuncD numEq D1 D2)) ∧ w.grownBy w' none := by
  refine AnyEq.maps_Equal eqLays law29 (plainElem Try.prog 3) (plainElem Try.prog 3) numEq m1 m2 k1 k2 D1 D2 w h1 h2 (.int .i64 0) (fun w => zero3 w) (.lit (.int .i64 0)) [] ?_ ?_
  · kernel_rfl
  · intro W x y xd yd xp yp hx hy
    obtain ⟨a, rfl, ex, _⟩ := plainElem_int_inv Try.underlying3 hx
    obtain ⟨b, rfl, ey, _⟩ := plainElem_int_inv Try.underlying3 hy
    obtain rfl : xd = .lit (.int .i64 a) := (Prod.mk.inj ex).1
    obtain rfl : yd = .lit (.int .i64 b) := (Prod.mk.inj ey).1
    exact ⟨by kernel_rfl, fun a b => by kernel_rfl⟩
end Go.Proofs.Ytajccnmeijgagaa
namespace Go.Proofs.Ytajccnmeijgagaa
open Go.RowKit Go.Maps
set_option linter.unusedVariables false

def eqW (W1 W2 : Nat → Int) : Bool := (List.range 64).all (fun i => W1 i == W2 i)
theorem part_w (W : Nat → Int) (i : Nat) (hi : i < 64) (w : World) : (part 29 (wCells W) (i * 1)).run Try.prog w = .ok (.int .u64 (W i)) w := by
  refine run_part_plain w (by kernel_rfl) ?_
  rw [Nat.mul_one, wCells_get, if_pos hi]
theorem eqItems_w (W1 W2 : Nat → Int) (d : Nat) (w : World) : ∀ is : List Nat, (∀ i ∈ is, i < 64) → (Op.eqItems (d + 1) 29 1 (wCells W1) (wCells W2) is).run Try.prog w = .ok (is.all (fun i => W1 i == W2 i)) w
  | [], _ => by simp [Op.eqItems]
  | i :: is, h => by
    have hi := h i (List.mem_cons_self)
    simp only [Op.eqItems, Sem.run_bind, part_w _ _ hi, Result.andThen_ok, run_equalIn_int w d 29 .u64 .u64 _ _ Try.underlying29]
    rw [List.all_cons]
    cases hq : (W1 i == W2 i)
    · simp
    · simpa using eqItems_w W1 W2 d w is (fun j hj => h j (List.mem_cons_of_mem _ hj))
theorem eq_w (W1 W2 : Nat → Int) (w : World) : (Op.equalIn 10000 57 (.agg (wCells W1)) (.agg (wCells W2))).run Try.prog w = .ok (eqW W1 W2) w := by
  obtain ⟨i, hi⟩ := info_of_underlying (P := Try.prog) Try.underlying29
  rw [show (10000 : Nat) = 9998 + 1 + 1 from rfl, run_equalIn_array w (9998 + 1) (wCells W1) (wCells W2) Try.underlying57 hi, show Try.prog.cellsOf 29 = 1 by kernel_rfl,
    eqItems_w W1 W2 9998 w (List.range 64) (fun i hi => List.mem_range.1 hi)]
  rfl
set_option maxRecDepth 100000 in
set_option maxHeartbeats 2000000 in
theorem tsame_v (w : World) (b1 b2 m1 m2 : Nat) (n : Int) (h1 h2 : Int → Option Int) (W1 W2 : Nat → Int) (k1 k2 : Nat) (t1 : Tab w b1 m1 n h1 W1 k1) (t2 : Tab w b2 m2 n h2 W2 k2) (hn : 0 < n) :
    Calls Try.prog 19 #[.pointer (some ⟨b1, 0, none⟩), .pointer (some ⟨b2, 0, none⟩)] w fun e w' => ∃ D1 D2 : DataW Unit, (w.ownsMap Try.prog 29 (plainElem Try.prog 3) m1 k1 D1) ∧ (w.ownsMap Try.prog 29 (plainElem Try.prog 3) m2 k2 D2) ∧ (∀ a, hold D1 a = h1 a) ∧ (∀ a, hold D2 a = h2 a) ∧
      e = .returned (.bool (Lib.equalFuncD numEq D1 D2 && eqW W1 W2)) ∧ Below w.heap.size w w' := by
  obtain ⟨D1, hd1, hh1⟩ := t1.map
  obtain ⟨D2, hd2, hh2⟩ := t2.map
  refine Calls.mono (R := fun e w' => e = .returned (.bool (Lib.equalFuncD numEq D1 D2 && eqW W1 W2)) ∧ Below w.heap.size w w') ?_ (fun e w' h => ⟨D1, D2, hd1, hd2, hh1, hh2, h⟩)
  have HT1 := Lib.hid t1
  have HT2 := Lib.hid t2
  have HD1 := Lib.hid hd1
  have HD2 := Lib.hid hd2
  have HTh1 := Lib.hid (there_yes b1 n hn w t1.c0)
  have HTh2 := Lib.hid (there_yes b2 n hn w t2.c0)
  obtain ⟨E, hE⟩ : ∃ x, Lib.equalFuncD numEq D1 D2 = x := ⟨_, rfl⟩
  have HE := Lib.hid hE
  rw [hE]
  clear hE hd1 hd2 hh1 hh2 t1 t2
  go_enter Try.func19, Try.ntmps19
  go_wp2_with (fail)
  refine HTh1.out.mono ?_
  rintro e w' ⟨rfl, rfl⟩
  go_wp2_with (fail)
  refine HTh2.out.mono ?_
  rintro e w' ⟨rfl, rfl⟩
  cases E with
  | true =>
    go_upto_region 3 with (fail)
    --GEN r_ts3a
    refine wp_region_vals [Is (.pointer (some ⟨b1, 0, none⟩)), Is (.pointer (some ⟨b1, 0, none⟩)), Is (.pointer (some ⟨b1, 0, none⟩)), Is (.int .i64 n), Is (.pointer (some ⟨b2, 0, none⟩)), Is (.pointer (some ⟨b2, 0, none⟩)), Is (.pointer (some ⟨b2, 0, none⟩)), Is (.int .i64 n), Is (.bool true), Is (.bool true), Is (.pointer (some ⟨b1, 0, none⟩)), Is (.pointer (some ⟨b1, 0, none⟩)), Is (.pointer (some ⟨b1, 1, none⟩)), Is (.map (some m1)), Is (.pointer (some ⟨b2, 0, none⟩)), Is (.pointer (some ⟨b2, 0, none⟩)), Is (.pointer (some ⟨b2, 1, none⟩)), Is (.map (some m2)), Is (.bool true), Is (.bool true), Is (.bool true), Is (.pointer (some ⟨b1, 0, none⟩)), Is (.pointer (some ⟨b1, 0, none⟩)), Is (.pointer (some ⟨b1, 2, none⟩)), Is (.agg (wCells W1)), Is (.pointer (some ⟨b2, 0, none⟩)), Is (.pointer (some ⟨b2, 0, none⟩)), Is (.pointer (some ⟨b2, 2, none⟩)), Is (.agg (wCells W2)), Is (.bool (eqW W1 W2)), Is (.bool (eqW W1 W2)), Is (.bool (eqW W1 W2))]
      (fun _ W W' => Below W.heap.size W W') (fun _ W => Below w.heap.size w W) (by kernel_rfl) (by kernel_rfl) (by kernel_rfl) ?hst ?h0 ⟨?o0, ?o1, ?o2, ?o3, ?o4, ?o5, ?o6, ?o7, ?o8, ?o9, ?o10, ?o11, ?o12, ?o13, ?o14, ?o15, ?o16, ?o17, ?o18, ?o19, ?o20, ?o21, ?o22, ?o23, ?o24, ?o25, ?o26, ?o27, ?o28, ?o29, ?o30, ?o31, trivial⟩ ?he
    case hst =>
      exact ⟨(fun _ _ _ _ _ _ h _ => h), (fun _ _ _ _ _ _ h _ => h), (fun _ _ _ _ _ _ h _ => h), (fun _ _ _ _ _ _ h _ => h), (fun _ _ _ _ _ _ h _ => h), (fun _ _ _ _ _ _ h _ => h), (fun _ _ _ _ _ _ h _ => h), (fun _ _ _ _ _ _ h _ => h), (fun _ _ _ _ _ _ h _ => h), (fun _ _ _ _ _ _ h _ => h), (fun _ _ _ _ _ _ h _ => h), (fun _ _ _ _ _ _ h _ => h), (fun _ _ _ _ _ _ h _ => h), (fun _ _ _ _ _ _ h _ => h), (fun _ _ _ _ _ _ h _ => h), (fun _ _ _ _ _ _ h _ => h), (fun _ _ _ _ _ _ h _ => h), (fun _ _ _ _ _ _ h _ => h), (fun _ _ _ _ _ _ h _ => h), (fun _ _ _ _ _ _ h _ => h), (fun _ _ _ _ _ _ h _ => h), (fun _ _ _ _ _ _ h _ => h), (fun _ _ _ _ _ _ h _ => h), (fun _ _ _ _ _ _ h _ => h), (fun _ _ _ _ _ _ h _ => h), (fun _ _ _ _ _ _ h _ => h), (fun _ _ _ _ _ _ h _ => h), (fun _ _ _ _ _ _ h _ => h), (fun _ _ _ _ _ _ h _ => h), (fun _ _ _ _ _ _ h _ => h), (fun _ _ _ _ _ _ h _ => h), (fun _ _ _ _ _ _ h _ => h), trivial⟩
    case h0 =>
      exact (Below.refl _ _).drew
    case o0 =>
      intro L vs A W H hf hd K hK
      have e0 : A.tmps[0]?.getD undef = .pointer (some ⟨b1, 0, none⟩) := H.old 0 (by kernel_rfl)
      go_simp
      exact hK _ _ (Below.refl _ _) rfl (H.glob)
    case o1 =>
      intro L vs A W H hf hd K hK
      have e21 := H.is 0 21 rfl rfl rfl (deps_of' hd 0 (by kernel_rfl)) (by kernel_rfl)
      go_simp
      exact hK _ _ (Below.refl _ _) rfl (H.glob)
    case o2 =>
      intro L vs A W H hf hd K hK
      have e22 := H.is 1 22 rfl rfl rfl (deps_of' hd 1 (by kernel_rfl)) (by kernel_rfl)
      go_simp
      exact hK _ _ (Below.refl _ _) rfl (H.glob)
    case o3 =>
      intro L vs A W H hf hd K hK
      have e23 := H.is 2 23 rfl rfl rfl (deps_of' hd 2 (by kernel_rfl)) (by kernel_rfl)
      have d := (H.glob.cell (p := ⟨b1, 0, none⟩) HT1.out.blk.lt).trans HT1.out.c0
      go_simp
      exact hK _ _ (Below.refl _ _) rfl (H.glob)
    case o4 =>
      intro L vs A W H hf hd K hK
      have e1 : A.tmps[1]?.getD undef = .pointer (some ⟨b2, 0, none⟩) := H.old 1 (by kernel_rfl)
      go_simp
      exact hK _ _ (Below.refl _ _) rfl (H.glob)
    case o5 =>
      intro L vs A W H hf hd K hK
      have e25 := H.is 4 25 rfl rfl rfl (deps_of' hd 4 (by kernel_rfl)) (by kernel_rfl)
      go_simp
      exact hK _ _ (Below.refl _ _) rfl (H.glob)
    case o6 =>
      intro L vs A W H hf hd K hK
      have e26 := H.is 5 26 rfl rfl rfl (deps_of' hd 5 (by kernel_rfl)) (by kernel_rfl)
      go_simp
      exact hK _ _ (Below.refl _ _) rfl (H.glob)
    case o7 =>
      intro L vs A W H hf hd K hK
      have e27 := H.is 6 27 rfl rfl rfl (deps_of' hd 6 (by kernel_rfl)) (by kernel_rfl)
      have d := (H.glob.cell (p := ⟨b2, 0, none⟩) HT2.out.blk.lt).trans HT2.out.c0
      go_simp
      exact hK _ _ (Below.refl _ _) rfl (H.glob)
    case o8 =>
      intro L vs A W H hf hd K hK
      have e24 := H.is 3 24 rfl rfl rfl (deps_of' hd 3 (by kernel_rfl)) (by kernel_rfl)
      have e28 := H.is 7 28 rfl rfl rfl (deps_of' hd 7 (by kernel_rfl)) (by kernel_rfl)
      have dn : (n == n) = true := beq_self_eq_true _
      go_simp
      exact hK _ _ (Below.refl _ _) rfl (H.glob)
    case o9 =>
      intro L vs A W H hf hd K hK
      have e29 := H.is 8 29 rfl rfl rfl (deps_of' hd 8 (by kernel_rfl)) (by kernel_rfl)
      go_simp
      exact hK _ _ (Below.refl _ _) rfl (H.glob)
    case o10 =>
      intro L vs A W H hf hd K hK
      have e30 := H.is 9 30 rfl rfl rfl (deps_of' hd 9 (by kernel_rfl)) (by kernel_rfl)
      refine if_wanted (j := 9) (s := 30) rfl rfl rfl e30 rfl ?_
      have e0 : A.tmps[0]?.getD undef = .pointer (some ⟨b1, 0, none⟩) := H.old 0 (by kernel_rfl)
      go_simp
      exact hK _ _ (Below.refl _ _) rfl (H.glob)
    case o11 =>
      intro L vs A W H hf hd K hK
      have e30 := H.is 9 30 rfl rfl rfl (deps_of' hd 9 (by kernel_rfl)) (by kernel_rfl)
      refine if_wanted (j := 9) (s := 30) rfl rfl rfl e30 rfl ?_
      have e31 := H.is 10 31 rfl rfl rfl (deps_of' hd 10 (by kernel_rfl)) (by kernel_rfl)
      go_simp
      exact hK _ _ (Below.refl _ _) rfl (H.glob)
    case o12 =>
      intro L vs A W H hf hd K hK
      have e30 := H.is 9 30 rfl rfl rfl (deps_of' hd 9 (by kernel_rfl)) (by kernel_rfl)
      refine if_wanted (j := 9) (s := 30) rfl rfl rfl e30 rfl ?_
      have e32 := H.is 11 32 rfl rfl rfl (deps_of' hd 11 (by kernel_rfl)) (by kernel_rfl)
      go_simp
      exact hK _ _ (Below.refl _ _) rfl (H.glob)
    case o13 =>
      intro L vs A W H hf hd K hK
      have e30 := H.is 9 30 rfl rfl rfl (deps_of' hd 9 (by kernel_rfl)) (by kernel_rfl)
      refine if_wanted (j := 9) (s := 30) rfl rfl rfl e30 rfl ?_
      have e33 := H.is 12 33 rfl rfl rfl (deps_of' hd 12 (by kernel_rfl)) (by kernel_rfl)
      have d := (H.glob.cell (p := ⟨b1, 1, none⟩) HT1.out.blk.lt).trans HT1.out.c1
      go_simp
      exact hK _ _ (Below.refl _ _) rfl (H.glob)
    case o14 =>
      intro L vs A W H hf hd K hK
      have e30 := H.is 9 30 rfl rfl rfl (deps_of' hd 9 (by kernel_rfl)) (by kernel_rfl)
      refine if_wanted (j := 9) (s := 30) rfl rfl rfl e30 rfl ?_
      have e1 : A.tmps[1]?.getD undef = .pointer (some ⟨b2, 0, none⟩) := H.old 1 (by kernel_rfl)
      go_simp
      exact hK _ _ (Below.refl _ _) rfl (H.glob)
    case o15 =>
      intro L vs A W H hf hd K hK
      have e30 := H.is 9 30 rfl rfl rfl (deps_of' hd 9 (by kernel_rfl)) (by kernel_rfl)
      refine if_wanted (j := 9) (s := 30) rfl rfl rfl e30 rfl ?_
      have e35 := H.is 14 35 rfl rfl rfl (deps_of' hd 14 (by kernel_rfl)) (by kernel_rfl)
      go_simp
      exact hK _ _ (Below.refl _ _) rfl (H.glob)
    case o16 =>
      intro L vs A W H hf hd K hK
      have e30 := H.is 9 30 rfl rfl rfl (deps_of' hd 9 (by kernel_rfl)) (by kernel_rfl)
      refine if_wanted (j := 9) (s := 30) rfl rfl rfl e30 rfl ?_
      have e36 := H.is 15 36 rfl rfl rfl (deps_of' hd 15 (by kernel_rfl)) (by kernel_rfl)
      go_simp
      exact hK _ _ (Below.refl _ _) rfl (H.glob)
    case o17 =>
      intro L vs A W H hf hd K hK
      have e30 := H.is 9 30 rfl rfl rfl (deps_of' hd 9 (by kernel_rfl)) (by kernel_rfl)
      refine if_wanted (j := 9) (s := 30) rfl rfl rfl e30 rfl ?_
      have e37 := H.is 16 37 rfl rfl rfl (deps_of' hd 16 (by kernel_rfl)) (by kernel_rfl)
      have d := (H.glob.cell (p := ⟨b2, 1, none⟩) HT2.out.blk.lt).trans HT2.out.c1
      go_simp
      exact hK _ _ (Below.refl _ _) rfl (H.glob)
    case o18 =>
      intro L vs A W H hf hd K hK
      have e30 := H.is 9 30 rfl rfl rfl (deps_of' hd 9 (by kernel_rfl)) (by kernel_rfl)
      refine if_wanted (j := 9) (s := 30) rfl rfl rfl e30 rfl ?_
      have e34 := H.is 13 34 rfl rfl rfl (deps_of' hd 13 (by kernel_rfl)) (by kernel_rfl)
      have e38 := H.is 17 38 rfl rfl rfl (deps_of' hd 17 (by kernel_rfl)) (by kernel_rfl)
      go_wp2_with (fail)
      refine (mequal_v W m1 m2 k1 k2 D1 D2 (own_map_below HD1.out H.glob) (own_map_below HD2.out H.glob)).mono ?_
      rintro e W2 ⟨rfl, hg⟩
      rw [HE.out]
      have hB : Below W.heap.size W W2 := (Below.refl _ _).grown hg (Nat.le_refl _) (fun _ e => by cases e)
      exact hK _ _ hB rfl (H.glob.trans (hB.mono H.glob.size))
    case o19 =>
      intro L vs A W H hf hd K hK
      have e30 := H.is 9 30 rfl rfl rfl (deps_of' hd 9 (by kernel_rfl)) (by kernel_rfl)
      have e39 := H.is 18 39 rfl rfl rfl (deps_of' hd 18 (by kernel_rfl)) (by kernel_rfl)
      go_simp
      exact hK _ _ (Below.refl _ _) rfl (H.glob)
    case o20 =>
      intro L vs A W H hf hd K hK
      have e40 := H.is 19 40 rfl rfl rfl (deps_of' hd 19 (by kernel_rfl)) (by kernel_rfl)
      go_simp
      exact hK _ _ (Below.refl _ _) rfl (H.glob)
    case o21 =>
      intro L vs A W H hf hd K hK
      have e41 := H.is 20 41 rfl rfl rfl (deps_of' hd 20 (by kernel_rfl)) (by kernel_rfl)
      refine if_wanted (j := 20) (s := 41) rfl rfl rfl e41 rfl ?_
      have e0 : A.tmps[0]?.getD undef = .pointer (some ⟨b1, 0, none⟩) := H.old 0 (by kernel_rfl)
      go_simp
      exact hK _ _ (Below.refl _ _) rfl (H.glob)
    case o22 =>
      intro L vs A W H hf hd K hK
      have e41 := H.is 20 41 rfl rfl rfl (deps_of' hd 20 (by kernel_rfl)) (by kernel_rfl)
      refine if_wanted (j := 20) (s := 41) rfl rfl rfl e41 rfl ?_
      have e42 := H.is 21 42 rfl rfl rfl (deps_of' hd 21 (by kernel_rfl)) (by kernel_rfl)
      go_simp
      exact hK _ _ (Below.refl _ _) rfl (H.glob)
    case o23 =>
      intro L vs A W H hf hd K hK
      have e41 := H.is 20 41 rfl rfl rfl (deps_of' hd 20 (by kernel_rfl)) (by kernel_rfl)
      refine if_wanted (j := 20) (s := 41) rfl rfl rfl e41 rfl ?_
      have e43 := H.is 22 43 rfl rfl rfl (deps_of' hd 22 (by kernel_rfl)) (by kernel_rfl)
      go_simp
      exact hK _ _ (Below.refl _ _) rfl (H.glob)
    case o24 =>
      intro L vs A W H hf hd K hK
      have e41 := H.is 20 41 rfl rfl rfl (deps_of' hd 20 (by kernel_rfl)) (by kernel_rfl)
      refine if_wanted (j := 20) (s := 41) rfl rfl rfl e41 rfl ?_
      have e44 := H.is 23 44 rfl rfl rfl (deps_of' hd 23 (by kernel_rfl)) (by kernel_rfl)
      exact wp_ld_part 57 (.tmp 44) rfl b1 2 (ev_tmp e44) (wCells W1) _ (wLoad (HT1.out.blk.below' H.glob)) Try.underlying57 rfl (infoW64 W1) (hK _ _ (Below.refl _ _) rfl H.glob)
    case o25 =>
      intro L vs A W H hf hd K hK
      have e41 := H.is 20 41 rfl rfl rfl (deps_of' hd 20 (by kernel_rfl)) (by kernel_rfl)
      refine if_wanted (j := 20) (s := 41) rfl rfl rfl e41 rfl ?_
      have e1 : A.tmps[1]?.getD undef = .pointer (some ⟨b2, 0, none⟩) := H.old 1 (by kernel_rfl)
      go_simp
      exact hK _ _ (Below.refl _ _) rfl (H.glob)
    case o26 =>
      intro L vs A W H hf hd K hK
      have e41 := H.is 20 41 rfl rfl rfl (deps_of' hd 20 (by kernel_rfl)) (by kernel_rfl)
      refine if_wanted (j := 20) (s := 41) rfl rfl rfl e41 rfl ?_
      have e46 := H.is 25 46 rfl rfl rfl (deps_of' hd 25 (by kernel_rfl)) (by kernel_rfl)
      go_simp
      exact hK _ _ (Below.refl _ _) rfl (H.glob)
    case o27 =>
      intro L vs A W H hf hd K hK
      have e41 := H.is 20 41 rfl rfl rfl (deps_of' hd 20 (by kernel_rfl)) (by kernel_rfl)
      refine if_wanted (j := 20) (s := 41) rfl rfl rfl e41 rfl ?_
      have e47 := H.is 26 47 rfl rfl rfl (deps_of' hd 26 (by kernel_rfl)) (by kernel_rfl)
      go_simp
      exact hK _ _ (Below.refl _ _) rfl (H.glob)
    case o28 =>
      intro L vs A W H hf hd K hK
      have e41 := H.is 20 41 rfl rfl rfl (deps_of' hd 20 (by kernel_rfl)) (by kernel_rfl)
      refine if_wanted (j := 20) (s := 41) rfl rfl rfl e41 rfl ?_
      have e48 := H.is 27 48 rfl rfl rfl (deps_of' hd 27 (by kernel_rfl)) (by kernel_rfl)
      exact wp_ld_part 57 (.tmp 48) rfl b2 2 (ev_tmp e48) (wCells W2) _ (wLoad (HT2.out.blk.below' H.glob)) Try.underlying57 rfl (infoW64 W2) (hK _ _ (Below.refl _ _) rfl H.glob)
    case o29 =>
      intro L vs A W H hf hd K hK
      have e41 := H.is 20 41 rfl rfl rfl (deps_of' hd 20 (by kernel_rfl)) (by kernel_rfl)
      refine if_wanted (j := 20) (s := 41) rfl rfl rfl e41 rfl ?_
      have e45 := H.is 24 45 rfl rfl rfl (deps_of' hd 24 (by kernel_rfl)) (by kernel_rfl)
      have e49 := H.is 28 49 rfl rfl rfl (deps_of' hd 28 (by kernel_rfl)) (by kernel_rfl)
      have q := eq_w W1 W2 W
      go_simp
      exact hK _ _ (Below.refl _ _) rfl (H.glob)
    case o30 =>
      intro L vs A W H hf hd K hK
      have e41 := H.is 20 41 rfl rfl rfl (deps_of' hd 20 (by kernel_rfl)) (by kernel_rfl)
      have e50 := H.is 29 50 rfl rfl rfl (deps_of' hd 29 (by kernel_rfl)) (by kernel_rfl)
      go_simp
      exact hK _ _ (Below.refl _ _) rfl (H.glob)
    case o31 =>
      intro L vs A W H hf hd K hK
      have e51 := H.is 30 51 rfl rfl rfl (deps_of' hd 30 (by kernel_rfl)) (by kernel_rfl)
      go_simp
      exact hK _ _ (Below.refl _ _) rfl (H.glob)
    case he =>
      intro vs W hlen hv
      match vs, hlen, hv with
      | [x0_, x1_, x2_, x3_, x4_, x5_, x6_, x7_, x8_, x9_, x10_, x11_, x12_, x13_, x14_, x15_, x16_, x17_, x18_, x19_, x20_, x21_, x22_, x23_, x24_, x25_, x26_, x27_, x28_, x29_, x30_, x31_], _, hv =>
      obtain rfl : (.pointer (some ⟨b1, 0, none⟩)) = x0_ := by obtain ⟨z, h1, h2⟩ := hv 0 _ rfl; cases h1; exact h2.symm
      obtain rfl : (.pointer (some ⟨b1, 0, none⟩)) = x1_ := by obtain ⟨z, h1, h2⟩ := hv 1 _ rfl; cases h1; exact h2.symm
      obtain rfl : (.pointer (some ⟨b1, 0, none⟩)) = x2_ := by obtain ⟨z, h1, h2⟩ := hv 2 _ rfl; cases h1; exact h2.symm
      obtain rfl : (.int .i64 n) = x3_ := by obtain ⟨z, h1, h2⟩ := hv 3 _ rfl; cases h1; exact h2.symm
      obtain rfl : (.pointer (some ⟨b2, 0, none⟩)) = x4_ := by obtain ⟨z, h1, h2⟩ := hv 4 _ rfl; cases h1; exact h2.symm
      obtain rfl : (.pointer (some ⟨b2, 0, none⟩)) = x5_ := by obtain ⟨z, h1, h2⟩ := hv 5 _ rfl; cases h1; exact h2.symm
      obtain rfl : (.pointer (some ⟨b2, 0, none⟩)) = x6_ := by obtain ⟨z, h1, h2⟩ := hv 6 _ rfl; cases h1; exact h2.symm
      obtain rfl : (.int .i64 n) = x7_ := by obtain ⟨z, h1, h2⟩ := hv 7 _ rfl; cases h1; exact h2.symm
      obtain rfl : (.bool true) = x8_ := by obtain ⟨z, h1, h2⟩ := hv 8 _ rfl; cases h1; exact h2.symm
      obtain rfl : (.bool true) = x9_ := by obtain ⟨z, h1, h2⟩ := hv 9 _ rfl; cases h1; exact h2.symm
      obtain rfl : (.pointer (some ⟨b1, 0, none⟩)) = x10_ := by obtain ⟨z, h1, h2⟩ := hv 10 _ rfl; cases h1; exact h2.symm
      obtain rfl : (.pointer (some ⟨b1, 0, none⟩)) = x11_ := by obtain ⟨z, h1, h2⟩ := hv 11 _ rfl; cases h1; exact h2.symm
      obtain rfl : (.pointer (some ⟨b1, 1, none⟩)) = x12_ := by obtain ⟨z, h1, h2⟩ := hv 12 _ rfl; cases h1; exact h2.symm
      obtain rfl : (.map (some m1)) = x13_ := by obtain ⟨z, h1, h2⟩ := hv 13 _ rfl; cases h1; exact h2.symm
      obtain rfl : (.pointer (some ⟨b2, 0, none⟩)) = x14_ := by obtain ⟨z, h1, h2⟩ := hv 14 _ rfl; cases h1; exact h2.symm
      obtain rfl : (.pointer (some ⟨b2, 0, none⟩)) = x15_ := by obtain ⟨z, h1, h2⟩ := hv 15 _ rfl; cases h1; exact h2.symm
      obtain rfl : (.pointer (some ⟨b2, 1, none⟩)) = x16_ := by obtain ⟨z, h1, h2⟩ := hv 16 _ rfl; cases h1; exact h2.symm
      obtain rfl : (.map (some m2)) = x17_ := by obtain ⟨z, h1, h2⟩ := hv 17 _ rfl; cases h1; exact h2.symm
      obtain rfl : (.bool true) = x18_ := by obtain ⟨z, h1, h2⟩ := hv 18 _ rfl; cases h1; exact h2.symm
      obtain rfl : (.bool true) = x19_ := by obtain ⟨z, h1, h2⟩ := hv 19 _ rfl; cases h1; exact h2.symm
      obtain rfl : (.bool true) = x20_ := by obtain ⟨z, h1, h2⟩ := hv 20 _ rfl; cases h1; exact h2.symm
      obtain rfl : (.pointer (some ⟨b1, 0, none⟩)) = x21_ := by obtain ⟨z, h1, h2⟩ := hv 21 _ rfl; cases h1; exact h2.symm
      obtain rfl : (.pointer (some ⟨b1, 0, none⟩)) = x22_ := by obtain ⟨z, h1, h2⟩ := hv 22 _ rfl; cases h1; exact h2.symm
      obtain rfl : (.pointer (some ⟨b1, 2, none⟩)) = x23_ := by obtain ⟨z, h1, h2⟩ := hv 23 _ rfl; cases h1; exact h2.symm
      obtain rfl : (.agg (wCells W1)) = x24_ := by obtain ⟨z, h1, h2⟩ := hv 24 _ rfl; cases h1; exact h2.symm
      obtain rfl : (.pointer (some ⟨b2, 0, none⟩)) = x25_ := by obtain ⟨z, h1, h2⟩ := hv 25 _ rfl; cases h1; exact h2.symm
      obtain rfl : (.pointer (some ⟨b2, 0, none⟩)) = x26_ := by obtain ⟨z, h1, h2⟩ := hv 26 _ rfl; cases h1; exact h2.symm
      obtain rfl : (.pointer (some ⟨b2, 2, none⟩)) = x27_ := by obtain ⟨z, h1, h2⟩ := hv 27 _ rfl; cases h1; exact h2.symm
      obtain rfl : (.agg (wCells W2)) = x28_ := by obtain ⟨z, h1, h2⟩ := hv 28 _ rfl; cases h1; exact h2.symm
      obtain rfl : (.bool (eqW W1 W2)) = x29_ := by obtain ⟨z, h1, h2⟩ := hv 29 _ rfl; cases h1; exact h2.symm
      obtain rfl : (.bool (eqW W1 W2)) = x30_ := by obtain ⟨z, h1, h2⟩ := hv 30 _ rfl; cases h1; exact h2.symm
      obtain rfl : (.bool (eqW W1 W2)) = x31_ := by obtain ⟨z, h1, h2⟩ := hv 31 _ rfl; cases h1; exact h2.symm
      intro L hall hG
      clear hv hlen
      have HB1 := Lib.hid (hG : Below w.heap.size w W)
      clear hG hall
      simp only [fill, if_true]
      go_simp
    --END
      go_wp2_with (fail)
      go_ret
      exact ⟨by simp, HB1.out⟩
  | false =>
    go_upto_region 3 with (fail)
    --GEN r_ts3b
    refine wp_region_vals [Is (.pointer (some ⟨b1, 0, none⟩)), Is (.pointer (some ⟨b1, 0, none⟩)), Is (.pointer (some ⟨b1, 0, none⟩)), Is (.int .i64 n), Is (.pointer (some ⟨b2, 0, none⟩)), Is (.pointer (some ⟨b2, 0, none⟩)), Is (.pointer (some ⟨b2, 0, none⟩)), Is (.int .i64 n), Is (.bool true), Is (.bool true), Is (.pointer (some ⟨b1, 0, none⟩)), Is (.pointer (some ⟨b1, 0, none⟩)), Is (.pointer (some ⟨b1, 1, none⟩)), Is (.map (some m1)), Is (.pointer (some ⟨b2, 0, none⟩)), Is (.pointer (some ⟨b2, 0, none⟩)), Is (.pointer (some ⟨b2, 1, none⟩)), Is (.map (some m2)), Is (.bool false), Is (.bool false), Is (.bool false), Any, Any, Any, Any, Any, Any, Any, Any, Any, Is (.bool false), Is (.bool false)]
      (fun _ W W' => Below W.heap.size W W') (fun _ W => Below w.heap.size w W) (by kernel_rfl) (by kernel_rfl) (by kernel_rfl) ?hst ?h0 ⟨?o0, ?o1, ?o2, ?o3, ?o4, ?o5, ?o6, ?o7, ?o8, ?o9, ?o10, ?o11, ?o12, ?o13, ?o14, ?o15, ?o16, ?o17, ?o18, ?o19, ?o20, ?o21, ?o22, ?o23, ?o24, ?o25, ?o26, ?o27, ?o28, ?o29, ?o30, ?o31, trivial⟩ ?he
    case hst =>
      exact ⟨(fun _ _ _ _ _ _ h _ => h), (fun _ _ _ _ _ _ h _ => h), (fun _ _ _ _ _ _ h _ => h), (fun _ _ _ _ _ _ h _ => h), (fun _ _ _ _ _ _ h _ => h), (fun _ _ _ _ _ _ h _ => h), (fun _ _ _ _ _ _ h _ => h), (fun _ _ _ _ _ _ h _ => h), (fun _ _ _ _ _ _ h _ => h), (fun _ _ _ _ _ _ h _ => h), (fun _ _ _ _ _ _ h _ => h), (fun _ _ _ _ _ _ h _ => h), (fun _ _ _ _ _ _ h _ => h), (fun _ _ _ _ _ _ h _ => h), (fun _ _ _ _ _ _ h _ => h), (fun _ _ _ _ _ _ h _ => h), (fun _ _ _ _ _ _ h _ => h), (fun _ _ _ _ _ _ h _ => h), (fun _ _ _ _ _ _ h _ => h), (fun _ _ _ _ _ _ h _ => h), (fun _ _ _ _ _ _ h _ => h), (fun _ _ _ _ _ _ h _ => h), (fun _ _ _ _ _ _ h _ => h), (fun _ _ _ _ _ _ h _ => h), (fun _ _ _ _ _ _ h _ => h), (fun _ _ _ _ _ _ h _ => h), (fun _ _ _ _ _ _ h _ => h), (fun _ _ _ _ _ _ h _ => h), (fun _ _ _ _ _ _ h _ => h), (fun _ _ _ _ _ _ h _ => h), (fun _ _ _ _ _ _ h _ => h), (fun _ _ _ _ _ _ h _ => h), trivial⟩
    case h0 =>
      exact (Below.refl _ _).drew
    case o0 =>
      intro L vs A W H hf hd K hK
      have e0 : A.tmps[0]?.getD undef = .pointer (some ⟨b1, 0, none⟩) := H.old 0 (by kernel_rfl)
      go_simp
      exact hK _ _ (Below.refl _ _) rfl (H.glob)
    case o1 =>
      intro L vs A W H hf hd K hK
      have e21 := H.is 0 21 rfl rfl rfl (deps_of' hd 0 (by kernel_rfl)) (by kernel_rfl)
      go_simp
      exact hK _ _ (Below.refl _ _) rfl (H.glob)
    case o2 =>
      intro L vs A W H hf hd K hK
      have e22 := H.is 1 22 rfl rfl rfl (deps_of' hd 1 (by kernel_rfl)) (by kernel_rfl)
      go_simp
      exact hK _ _ (Below.refl _ _) rfl (H.glob)
    case o3 =>
      intro L vs A W H hf hd K hK
      have e23 := H.is 2 23 rfl rfl rfl (deps_of' hd 2 (by kernel_rfl)) (by kernel_rfl)
      have d := (H.glob.cell (p := ⟨b1, 0, none⟩) HT1.out.blk.lt).trans HT1.out.c0
      go_simp
      exact hK _ _ (Below.refl _ _) rfl (H.glob)
    case o4 =>
      intro L vs A W H hf hd K hK
      have e1 : A.tmps[1]?.getD undef = .pointer (some ⟨b2, 0, none⟩) := H.old 1 (by kernel_rfl)
      go_simp
      exact hK _ _ (Below.refl _ _) rfl (H.glob)
    case o5 =>
      intro L vs A W H hf hd K hK
      have e25 := H.is 4 25 rfl rfl rfl (deps_of' hd 4 (by kernel_rfl)) (by kernel_rfl)
      go_simp
      exact hK _ _ (Below.refl _ _) rfl (H.glob)
    case o6 =>
      intro L vs A W H hf hd K hK
      have e26 := H.is 5 26 rfl rfl rfl (deps_of' hd 5 (by kernel_rfl)) (by kernel_rfl)
      go_simp
      exact hK _ _ (Below.refl _ _) rfl (H.glob)
    case o7 =>
      intro L vs A W H hf hd K hK
      have e27 := H.is 6 27 rfl rfl rfl (deps_of' hd 6 (by kernel_rfl)) (by kernel_rfl)
      have d := (H.glob.cell (p := ⟨b2, 0, none⟩) HT2.out.blk.lt).trans HT2.out.c0
      go_simp
      exact hK _ _ (Below.refl _ _) rfl (H.glob)
    case o8 =>
      intro L vs A W H hf hd K hK
      have e24 := H.is 3 24 rfl rfl rfl (deps_of' hd 3 (by kernel_rfl)) (by kernel_rfl)
      have e28 := H.is 7 28 rfl rfl rfl (deps_of' hd 7 (by kernel_rfl)) (by kernel_rfl)
      have dn : (n == n) = true := beq_self_eq_true _
      go_simp
      exact hK _ _ (Below.refl _ _) rfl (H.glob)
    case o9 =>
      intro L vs A W H hf hd K hK
      have e29 := H.is 8 29 rfl rfl rfl (deps_of' hd 8 (by kernel_rfl)) (by kernel_rfl)
      go_simp
      exact hK _ _ (Below.refl _ _) rfl (H.glob)
    case o10 =>
      intro L vs A W H hf hd K hK
      have e30 := H.is 9 30 rfl rfl rfl (deps_of' hd 9 (by kernel_rfl)) (by kernel_rfl)
      refine if_wanted (j := 9) (s := 30) rfl rfl rfl e30 rfl ?_
      have e0 : A.tmps[0]?.getD undef = .pointer (some ⟨b1, 0, none⟩) := H.old 0 (by kernel_rfl)
      go_simp
      exact hK _ _ (Below.refl _ _) rfl (H.glob)
    case o11 =>
      intro L vs A W H hf hd K hK
      have e30 := H.is 9 30 rfl rfl rfl (deps_of' hd 9 (by kernel_rfl)) (by kernel_rfl)
      refine if_wanted (j := 9) (s := 30) rfl rfl rfl e30 rfl ?_
      have e31 := H.is 10 31 rfl rfl rfl (deps_of' hd 10 (by kernel_rfl)) (by kernel_rfl)
      go_simp
      exact hK _ _ (Below.refl _ _) rfl (H.glob)
    case o12 =>
      intro L vs A W H hf hd K hK
      have e30 := H.is 9 30 rfl rfl rfl (deps_of' hd 9 (by kernel_rfl)) (by kernel_rfl)
      refine if_wanted (j := 9) (s := 30) rfl rfl rfl e30 rfl ?_
      have e32 := H.is 11 32 rfl rfl rfl (deps_of' hd 11 (by kernel_rfl)) (by kernel_rfl)
      go_simp
      exact hK _ _ (Below.refl _ _) rfl (H.glob)
    case o13 =>
      intro L vs A W H hf hd K hK
      have e30 := H.is 9 30 rfl rfl rfl (deps_of' hd 9 (by kernel_rfl)) (by kernel_rfl)
      refine if_wanted (j := 9) (s := 30) rfl rfl rfl e30 rfl ?_
      have e33 := H.is 12 33 rfl rfl rfl (deps_of' hd 12 (by kernel_rfl)) (by kernel_rfl)
      have d := (H.glob.cell (p := ⟨b1, 1, none⟩) HT1.out.blk.lt).trans HT1.out.c1
      go_simp
      exact hK _ _ (Below.refl _ _) rfl (H.glob)
    case o14 =>
      intro L vs A W H hf hd K hK
      have e30 := H.is 9 30 rfl rfl rfl (deps_of' hd 9 (by kernel_rfl)) (by kernel_rfl)
      refine if_wanted (j := 9) (s := 30) rfl rfl rfl e30 rfl ?_
      have e1 : A.tmps[1]?.getD undef = .pointer (some ⟨b2, 0, none⟩) := H.old 1 (by kernel_rfl)
      go_simp
      exact hK _ _ (Below.refl _ _) rfl (H.glob)
    case o15 =>
      intro L vs A W H hf hd K hK
      have e30 := H.is 9 30 rfl rfl rfl (deps_of' hd 9 (by kernel_rfl)) (by kernel_rfl)
      refine if_wanted (j := 9) (s := 30) rfl rfl rfl e30 rfl ?_
      have e35 := H.is 14 35 rfl rfl rfl (deps_of' hd 14 (by kernel_rfl)) (by kernel_rfl)
      go_simp
      exact hK _ _ (Below.refl _ _) rfl (H.glob)
    case o16 =>
      intro L vs A W H hf hd K hK
      have e30 := H.is 9 30 rfl rfl rfl (deps_of' hd 9 (by kernel_rfl)) (by kernel_rfl)
      refine if_wanted (j := 9) (s := 30) rfl rfl rfl e30 rfl ?_
      have e36 := H.is 15 36 rfl rfl rfl (deps_of' hd 15 (by kernel_rfl)) (by kernel_rfl)
      go_simp
      exact hK _ _ (Below.refl _ _) rfl (H.glob)
    case o17 =>
      intro L vs A W H hf hd K hK
      have e30 := H.is 9 30 rfl rfl rfl (deps_of' hd 9 (by kernel_rfl)) (by kernel_rfl)
      refine if_wanted (j := 9) (s := 30) rfl rfl rfl e30 rfl ?_
      have e37 := H.is 16 37 rfl rfl rfl (deps_of' hd 16 (by kernel_rfl)) (by kernel_rfl)
      have d := (H.glob.cell (p := ⟨b2, 1, none⟩) HT2.out.blk.lt).trans HT2.out.c1
      go_simp
      exact hK _ _ (Below.refl _ _) rfl (H.glob)
    case o18 =>
      intro L vs A W H hf hd K hK
      have e30 := H.is 9 30 rfl rfl rfl (deps_of' hd 9 (by kernel_rfl)) (by kernel_rfl)
      refine if_wanted (j := 9) (s := 30) rfl rfl rfl e30 rfl ?_
      have e34 := H.is 13 34 rfl rfl rfl (deps_of' hd 13 (by kernel_rfl)) (by kernel_rfl)
      have e38 := H.is 17 38 rfl rfl rfl (deps_of' hd 17 (by kernel_rfl)) (by kernel_rfl)
      go_wp2_with (fail)
      refine (mequal_v W m1 m2 k1 k2 D1 D2 (own_map_below HD1.out H.glob) (own_map_below HD2.out H.glob)).mono ?_
      rintro e W2 ⟨rfl, hg⟩
      rw [HE.out]
      have hB : Below W.heap.size W W2 := (Below.refl _ _).grown hg (Nat.le_refl _) (fun _ e => by cases e)
      exact hK _ _ hB rfl (H.glob.trans (hB.mono H.glob.size))
    case o19 =>
      intro L vs A W H hf hd K hK
      have e30 := H.is 9 30 rfl rfl rfl (deps_of' hd 9 (by kernel_rfl)) (by kernel_rfl)
      have e39 := H.is 18 39 rfl rfl rfl (deps_of' hd 18 (by kernel_rfl)) (by kernel_rfl)
      go_simp
      exact hK _ _ (Below.refl _ _) rfl (H.glob)
    case o20 =>
      intro L vs A W H hf hd K hK
      have e40 := H.is 19 40 rfl rfl rfl (deps_of' hd 19 (by kernel_rfl)) (by kernel_rfl)
      go_simp
      exact hK _ _ (Below.refl _ _) rfl (H.glob)
    case o21 =>
      intro L vs A W H hf hd K hK
      have e41 := H.is 20 41 rfl rfl rfl (deps_of' hd 20 (by kernel_rfl)) (by kernel_rfl)
      refine if_unwanted (j := 20) (s := 41) rfl rfl rfl e41 rfl ?_
      exact hK _ _ (Below.refl _ _) trivial (H.glob)
    case o22 =>
      intro L vs A W H hf hd K hK
      have e41 := H.is 20 41 rfl rfl rfl (deps_of' hd 20 (by kernel_rfl)) (by kernel_rfl)
      refine if_unwanted (j := 20) (s := 41) rfl rfl rfl e41 rfl ?_
      exact hK _ _ (Below.refl _ _) trivial (H.glob)
    case o23 =>
      intro L vs A W H hf hd K hK
      have e41 := H.is 20 41 rfl rfl rfl (deps_of' hd 20 (by kernel_rfl)) (by kernel_rfl)
      refine if_unwanted (j := 20) (s := 41) rfl rfl rfl e41 rfl ?_
      exact hK _ _ (Below.refl _ _) trivial (H.glob)
    case o24 =>
      intro L vs A W H hf hd K hK
      have e41 := H.is 20 41 rfl rfl rfl (deps_of' hd 20 (by kernel_rfl)) (by kernel_rfl)
      refine if_unwanted (j := 20) (s := 41) rfl rfl rfl e41 rfl ?_
      exact hK _ _ (Below.refl _ _) trivial (H.glob)
    case o25 =>
      intro L vs A W H hf hd K hK
      have e41 := H.is 20 41 rfl rfl rfl (deps_of' hd 20 (by kernel_rfl)) (by kernel_rfl)
      refine if_unwanted (j := 20) (s := 41) rfl rfl rfl e41 rfl ?_
      exact hK _ _ (Below.refl _ _) trivial (H.glob)
    case o26 =>
      intro L vs A W H hf hd K hK
      have e41 := H.is 20 41 rfl rfl rfl (deps_of' hd 20 (by kernel_rfl)) (by kernel_rfl)
      refine if_unwanted (j := 20) (s := 41) rfl rfl rfl e41 rfl ?_
      exact hK _ _ (Below.refl _ _) trivial (H.glob)
    case o27 =>
      intro L vs A W H hf hd K hK
      have e41 := H.is 20 41 rfl rfl rfl (deps_of' hd 20 (by kernel_rfl)) (by kernel_rfl)
      refine if_unwanted (j := 20) (s := 41) rfl rfl rfl e41 rfl ?_
      exact hK _ _ (Below.refl _ _) trivial (H.glob)
    case o28 =>
      intro L vs A W H hf hd K hK
      have e41 := H.is 20 41 rfl rfl rfl (deps_of' hd 20 (by kernel_rfl)) (by kernel_rfl)
      refine if_unwanted (j := 20) (s := 41) rfl rfl rfl e41 rfl ?_
      exact hK _ _ (Below.refl _ _) trivial (H.glob)
    case o29 =>
      intro L vs A W H hf hd K hK
      have e41 := H.is 20 41 rfl rfl rfl (deps_of' hd 20 (by kernel_rfl)) (by kernel_rfl)
      refine if_unwanted (j := 20) (s := 41) rfl rfl rfl e41 rfl ?_
      exact hK _ _ (Below.refl _ _) trivial (H.glob)
    case o30 =>
      intro L vs A W H hf hd K hK
      have e41 := H.is 20 41 rfl rfl rfl (deps_of' hd 20 (by kernel_rfl)) (by kernel_rfl)
      obtain ⟨v50, e50, q50⟩ := H.val 29 50 rfl rfl rfl (deps_of' hd 29 (by kernel_rfl)) (by kernel_rfl)
      go_simp
      exact hK _ _ (Below.refl _ _) rfl (H.glob)
    case o31 =>
      intro L vs A W H hf hd K hK
      have e51 := H.is 30 51 rfl rfl rfl (deps_of' hd 30 (by kernel_rfl)) (by kernel_rfl)
      go_simp
      exact hK _ _ (Below.refl _ _) rfl (H.glob)
    case he =>
      intro vs W hlen hv
      match vs, hlen, hv with
      | [x0_, x1_, x2_, x3_, x4_, x5_, x6_, x7_, x8_, x9_, x10_, x11_, x12_, x13_, x14_, x15_, x16_, x17_, x18_, x19_, x20_, x21_, x22_, x23_, x24_, x25_, x26_, x27_, x28_, x29_, x30_, x31_], _, hv =>
      obtain rfl : (.pointer (some ⟨b1, 0, none⟩)) = x0_ := by obtain ⟨z, h1, h2⟩ := hv 0 _ rfl; cases h1; exact h2.symm
      obtain rfl : (.pointer (some ⟨b1, 0, none⟩)) = x1_ := by obtain ⟨z, h1, h2⟩ := hv 1 _ rfl; cases h1; exact h2.symm
      obtain rfl : (.pointer (some ⟨b1, 0, none⟩)) = x2_ := by obtain ⟨z, h1, h2⟩ := hv 2 _ rfl; cases h1; exact h2.symm
      obtain rfl : (.int .i64 n) = x3_ := by obtain ⟨z, h1, h2⟩ := hv 3 _ rfl; cases h1; exact h2.symm
      obtain rfl : (.pointer (some ⟨b2, 0, none⟩)) = x4_ := by obtain ⟨z, h1, h2⟩ := hv 4 _ rfl; cases h1; exact h2.symm
      obtain rfl : (.pointer (some ⟨b2, 0, none⟩)) = x5_ := by obtain ⟨z, h1, h2⟩ := hv 5 _ rfl; cases h1; exact h2.symm
      obtain rfl : (.pointer (some ⟨b2, 0, none⟩)) = x6_ := by obtain ⟨z, h1, h2⟩ := hv 6 _ rfl; cases h1; exact h2.symm
      obtain rfl : (.int .i64 n) = x7_ := by obtain ⟨z, h1, h2⟩ := hv 7 _ rfl; cases h1; exact h2.symm
      obtain rfl : (.bool true) = x8_ := by obtain ⟨z, h1, h2⟩ := hv 8 _ rfl; cases h1; exact h2.symm
      obtain rfl : (.bool true) = x9_ := by obtain ⟨z, h1, h2⟩ := hv 9 _ rfl; cases h1; exact h2.symm
      obtain rfl : (.pointer (some ⟨b1, 0, none⟩)) = x10_ := by obtain ⟨z, h1, h2⟩ := hv 10 _ rfl; cases h1; exact h2.symm
      obtain rfl : (.pointer (some ⟨b1, 0, none⟩)) = x11_ := by obtain ⟨z, h1, h2⟩ := hv 11 _ rfl; cases h1; exact h2.symm
      obtain rfl : (.pointer (some ⟨b1, 1, none⟩)) = x12_ := by obtain ⟨z, h1, h2⟩ := hv 12 _ rfl; cases h1; exact h2.symm
      obtain rfl : (.map (some m1)) = x13_ := by obtain ⟨z, h1, h2⟩ := hv 13 _ rfl; cases h1; exact h2.symm
      obtain rfl : (.pointer (some ⟨b2, 0, none⟩)) = x14_ := by obtain ⟨z, h1, h2⟩ := hv 14 _ rfl; cases h1; exact h2.symm
      obtain rfl : (.pointer (some ⟨b2, 0, none⟩)) = x15_ := by obtain ⟨z, h1, h2⟩ := hv 15 _ rfl; cases h1; exact h2.symm
      obtain rfl : (.pointer (some ⟨b2, 1, none⟩)) = x16_ := by obtain ⟨z, h1, h2⟩ := hv 16 _ rfl; cases h1; exact h2.symm
      obtain rfl : (.map (some m2)) = x17_ := by obtain ⟨z, h1, h2⟩ := hv 17 _ rfl; cases h1; exact h2.symm
      obtain rfl : (.bool false) = x18_ := by obtain ⟨z, h1, h2⟩ := hv 18 _ rfl; cases h1; exact h2.symm
      obtain rfl : (.bool false) = x19_ := by obtain ⟨z, h1, h2⟩ := hv 19 _ rfl; cases h1; exact h2.symm
      obtain rfl : (.bool false) = x20_ := by obtain ⟨z, h1, h2⟩ := hv 20 _ rfl; cases h1; exact h2.symm
      obtain rfl : (.bool false) = x30_ := by obtain ⟨z, h1, h2⟩ := hv 30 _ rfl; cases h1; exact h2.symm
      obtain rfl : (.bool false) = x31_ := by obtain ⟨z, h1, h2⟩ := hv 31 _ rfl; cases h1; exact h2.symm
      intro L hall hG
      clear hv hlen
      have HB1 := Lib.hid (hG : Below w.heap.size w W)
      clear hG hall
      simp only [fill, if_true]
      go_simp
    --END
      go_wp2_with (fail)
      go_ret
      exact ⟨by simp, HB1.out⟩
end Go.Proofs.Ytajccnmeijgagaa
namespace Go.Proofs.Ytajccnmeijgagaa
open Go.RowKit Go.Maps Go.WideElems
set_option linter.unusedVariables false

/-- a map of numbers, as a list of pairs -/
def asD (xs : List (Int × Int)) : DataW Unit := .map (xs.map (fun x => (Lit.int .u64 x.1, DataW.lit (.int .i64 x.2))))
theorem hold_asD (a : Int) : ∀ xs : List (Int × Int), hold (asD xs) a = lk xs a
  | [] => rfl
  | x :: r => by
    have ih := hold_asD a r
    rw [lk_cons, ← ih]
    unfold hold asD has DataW.atKey
    simp only [List.map_cons, List.any_cons, List.find?_cons, same_u64]
    by_cases h : x.1 = a
    · rw [if_pos h, show (decide (x.1 = a)) = true from decide_eq_true h]; rfl
    · rw [if_neg h, show (decide (x.1 = a)) = false from decide_eq_false h, Bool.false_or]
theorem own_list {w : World} {m k : Nat} {D : DataW Unit} (h : w.ownsMap Try.prog 29 (plainElem Try.prog 3) m k D) : ∃ xs : List (Int × Int), D = asD xs ∧ (xs.map (·.1)).Nodup := by
  obtain ⟨es0, e0, hp, hkeys⟩ := h.entries law29
  clear hkeys
  have hform : ∀ p ∈ es0, ∃ x : Int × Int, p = (Lit.int .u64 x.1, DataW.lit (.int .i64 x.2)) := by
    obtain ⟨es, clock, _, F, _, hD⟩ := h
    intro p hpm
    rw [e0] at hD
    have e1 : es0 = _ := DataW.map.inj hD
    rw [e1] at hpm
    obtain ⟨x, hx, rfl⟩ := List.mem_map.1 (mem_sorted.1 hpm)
    obtain ⟨y, hy⟩ := F.reads x hx
    rw [rg_of hy]
    obtain ⟨a, _, ea, _⟩ := Maps.keyOf_int_inv Try.underlying29 (rd_key hy)
    obtain ⟨z, hz, ez⟩ := rd_val hy
    obtain ⟨c, _, ec, _⟩ := plainElem_int_inv Try.underlying3 hz
    refine ⟨(a, c), ?_⟩
    cases y
    simp only at ea ez
    rw [ea, ez, ec]
  obtain ⟨xs, hxs⟩ : ∃ xs : List (Int × Int), es0 = xs.map (fun x => (Lit.int .u64 x.1, DataW.lit (.int .i64 x.2))) := by
    clear e0 hp
    revert hform
    induction es0 with
    | nil => exact fun _ => ⟨[], rfl⟩
    | cons p r ih =>
      intro hform
      obtain ⟨x, hx⟩ := hform p List.mem_cons_self
      obtain ⟨xs, e⟩ := ih (fun q hq => hform q (List.mem_cons_of_mem _ hq))
      exact ⟨x :: xs, by rw [List.map_cons, ← e, hx]⟩
  refine ⟨xs, by rw [e0, hxs]; rfl, ?_⟩
  rw [hxs, List.pairwise_map] at hp
  unfold List.Nodup
  rw [List.pairwise_map]
  exact hp.imp (fun {a b} h e => h (by rw [e]))
/-- just the same pairs -/
def subL (l1 l2 : List (Int × Int)) : Bool := l1.all (fun x => lk l2 x.1 == some x.2)
theorem equal_asD (xs ys : List (Int × Int)) : Lib.equalFuncD numEq (asD xs) (asD ys) = (decide (xs.length = ys.length) && subL xs ys) := by
  unfold Lib.equalFuncD subL
  rw [show Maps.size (asD xs) = xs.length by unfold asD Maps.size; simp, show Maps.size (asD ys) = ys.length by unfold asD Maps.size; simp]
  congr 1
  unfold Lib.entriesD
  show (xs.map (fun x => (Lit.int .u64 x.1, DataW.lit (.int .i64 x.2)))).all (Lib.goodD numEq (asD ys)) = _
  rw [List.all_map]
  congr 1
  funext x
  show Lib.goodD numEq (asD ys) (Lit.int .u64 x.1, DataW.lit (.int .i64 x.2)) = _
  unfold Lib.goodD numEq
  rw [← hold_asD]
  unfold hold
  cases h : has (asD ys) (.int .u64 x.1)
  · rfl
  · rw [Maps.atKey_indep h .nil (.lit (.int .i64 0))]
    simp only [Bool.true_and, if_true]
    show (x.2 == num _) = (some (num _) == some x.2)
    by_cases e : x.2 = num ((asD ys).atKey (.int .u64 x.1) (.lit (.int .i64 0)))
    · rw [← e]; simp
    · rw [show (x.2 == num ((asD ys).atKey (.int .u64 x.1) (.lit (.int .i64 0)))) = false from beq_eq_false_iff_ne.2 e]
      symm
      exact beq_eq_false_iff_ne.2 (fun q => e (Option.some.inj q).symm)
theorem perm_lk {xs l : List (Int × Int)} (h1 : (xs.map (·.1)).Nodup) (h2 : (l.map (·.1)).Nodup) (h : ∀ a, lk xs a = lk l a) : xs.Perm l := by
  have nd : ∀ {z : List (Int × Int)}, (z.map (·.1)).Nodup → z.Nodup := fun {z} q => by
    unfold List.Nodup at *
    rw [List.pairwise_map] at q
    exact q.imp (fun {a b} hab e => hab (by rw [e]))
  refine (List.perm_ext_iff_of_nodup (nd h1) (nd h2)).2 (fun x => ?_)
  rw [show x = (x.1, x.2) from rfl, lk_mem xs h1, lk_mem l h2, h]
theorem subL_congr {xs l ys k : List (Int × Int)} (p : xs.Perm l) (h : ∀ a, lk ys a = lk k a) : subL xs ys = subL l k := by
  have e : (fun x : Int × Int => lk ys x.1 == some x.2) = (fun x => lk k x.1 == some x.2) := by funext x; rw [h]
  unfold subL
  rw [e]
  exact p.all_eq
theorem subL_sym {l k : List (Int × Int)} (h1 : (l.map (·.1)).Nodup) (h2 : (k.map (·.1)).Nodup) (hl : l.length = k.length) (h : subL l k = true) : subL k l = true := by
  unfold subL at *
  rw [List.all_eq_true] at *
  intro y hy
  refine beq_iff_eq.2 ?_
  rw [show y = (y.1, y.2) from rfl] at hy
  have hsub : ∀ x ∈ l, x ∈ k := fun x hx => by
    have := beq_iff_eq.1 (h x hx)
    exact (lk_mem k h2 x.1 x.2).2 this
  refine (lk_mem l h1 y.1 y.2).1 ?_
  refine Classical.byContradiction (fun hn => ?_)
  have nd : ∀ {z : List (Int × Int)}, (z.map (·.1)).Nodup → z.Nodup := fun {z} q => by
    unfold List.Nodup at *
    rw [List.pairwise_map] at q
    exact q.imp (fun {a b} hab e => hab (by rw [e]))
  have hle := List.Nodup.length_le_of_subset (l₁ := (y.1, y.2) :: l) (l₂ := k) (List.nodup_cons.2 ⟨hn, nd h1⟩) (fun x hx => by
    rcases List.mem_cons.1 hx with e | e
    · rw [e]; exact hy
    · exact hsub x e)
  simp at hle
  omega
/-- are they the same? -/
def sameB (l1 : List (Int × Int)) (W1 : Nat → Int) (l2 : List (Int × Int)) (W2 : Nat → Int) : Bool := (decide (l1.length = l2.length) && subL l1 l2) && eqW W1 W2
theorem eqW_sym (W1 W2 : Nat → Int) : eqW W1 W2 = eqW W2 W1 := by
  unfold eqW
  congr 1
  funext i
  exact Bool.beq_comm
theorem sameB_sym {l k : List (Int × Int)} {W1 W2 : Nat → Int} (h1 : (l.map (·.1)).Nodup) (h2 : (k.map (·.1)).Nodup) : sameB l W1 k W2 = sameB k W2 l W1 := by
  unfold sameB
  rw [eqW_sym]
  congr 1
  by_cases hl : l.length = k.length
  · rw [decide_eq_true hl, decide_eq_true hl.symm, Bool.true_and, Bool.true_and]
    cases e1 : subL l k with
    | true => exact (subL_sym h1 h2 hl e1).symm
    | false =>
      cases e2 : subL k l with
      | true => rw [subL_sym h2 h1 hl.symm e2] at e1; cases e1
      | false => rfl
  · rw [decide_eq_false hl, decide_eq_false (fun e => hl e.symm)]
    rfl
theorem tsame_b (w : World) (b1 b2 m1 m2 n : Nat) (h1 h2 : Int → Option Int) (W1 W2 : Nat → Int) (k1 k2 : Nat) (t1 : Tab w b1 m1 n h1 W1 k1) (t2 : Tab w b2 m2 n h2 W2 k2) (hn : 1 ≤ n) (l1 l2 : List (Int × Int)) (A1 : Agr n h1 l1) (A2 : Agr n h2 l2) :
    Calls Try.prog 19 #[.pointer (some ⟨b1, 0, none⟩), .pointer (some ⟨b2, 0, none⟩)] w fun e w' => e = .returned (.bool (sameB l1 W1 l2 W2)) ∧ Below w.heap.size w w' := by
  refine (tsame_v w b1 b2 m1 m2 n h1 h2 W1 W2 k1 k2 t1 t2 (by omega)).mono ?_
  rintro e w' ⟨D1, D2, o1, o2, q1, q2, rfl, hB⟩
  refine ⟨?_, hB⟩
  obtain ⟨xs, rfl, n1⟩ := own_list o1
  obtain ⟨ys, rfl, n2⟩ := own_list o2
  have p1 := perm_lk n1 A1.nd (fun a => by rw [← hold_asD, q1, A1.eq])
  have p2 := perm_lk n2 A2.nd (fun a => by rw [← hold_asD, q2, A2.eq])
  rw [equal_asD, p1.length_eq, p2.length_eq, subL_congr p1 (k := l2) (fun a => by rw [← hold_asD, q2, A2.eq])]
  rfl
end Go.Proofs.Ytajccnmeijgagaa
namespace Go.Proofs.Ytajccnmeijgagaa
open Go.RowKit Go.Maps
set_option linter.unusedVariables false

theorem eqW_false {W1 W2 : Nat → Int} {i : Nat} (hi : i < 64) (h : W1 i ≠ W2 i) : eqW W1 W2 = false := by
  unfold eqW
  rw [List.all_eq_false]
  exact ⟨i, List.mem_range.2 hi, by simp [h]⟩
theorem eqW_true {n : Nat} {W1 W2 : Nat → Int} (h1 : WZ n W1) (h2 : WZ n W2) (h : ∀ i, i < n → W1 i = W2 i) : eqW W1 W2 = true := by
  unfold eqW
  rw [List.all_eq_true]
  intro i _
  by_cases hi : i < n
  · exact beq_iff_eq.2 (h i hi)
  · exact beq_iff_eq.2 (by rw [h1 i (by omega), h2 i (by omega)])
theorem has_mem {l : List (Int × Int)} {i : Nat} (hi : i < l.length) : (hI l i, hC l i) ∈ l := by rw [← has_get l hi]; exact List.getElem_mem hi
theorem subL_false {n : Nat} {h : Int → Option Int} {l1 l2 : List (Int × Int)} {i : Nat} (hi : i < l1.length) (hne : hldI l2 (hI l1 i) ≠ hC l1 i) : subL l1 l2 = false := by
  unfold subL
  rw [List.all_eq_false]
  refine ⟨_, has_mem hi, ?_⟩
  intro e
  apply hne
  unfold hldI
  rw [beq_iff_eq.1 e]; rfl
theorem subL_true {n : Nat} {h : Int → Option Int} {l1 l2 : List (Int × Int)} (A : Agr n h l1) (hall : ∀ i, i < l1.length → hldI l2 (hI l1 i) = hC l1 i) : subL l1 l2 = true := by
  unfold subL
  rw [List.all_eq_true]
  intro x hx
  obtain ⟨i, hi, rfl⟩ := List.mem_iff_getElem.1 hx
  have e := hall i hi
  rw [has_get l1 hi]
  have hl : lk l1 (hI l1 i) = some (hC l1 i) := (lk_mem l1 A.nd _ _).1 (has_mem hi)
  have hr := A.rng (hI l1 i) (hC l1 i) (by rw [A.eq]; exact hl)
  refine beq_iff_eq.2 ?_
  show lk l2 (hI l1 i) = some (hC l1 i)
  unfold hldI at e
  cases hq : lk l2 (hI l1 i) with
  | none => rw [hq] at e; simp at e; omega
  | some y => rw [hq] at e; simp at e; rw [e]
set_option maxRecDepth 100000 in
set_option maxHeartbeats 4000000 in
theorem rsame_v (w : World) (r1 r2 n : Nat) (l1 l2 : List (Int × Int)) (W1 W2 : Nat → Int) (vL1 vL2 vW1 vW2 : Value) (t1 : RT w r1 n l1 W1 vL1 vW1) (t2 : RT w r2 n l2 W2 vL2 vW2) (hn : n ≤ 64) (h1 : Int → Option Int) (A1 : Agr n h1 l1) (z1 : WZ n W1) (z2 : WZ n W2) (hl1 : l1.length ≤ 1000) (hl2 : l2.length ≤ 1000) :
    Calls Try.prog 20 #[.pointer (some ⟨r1, 0, none⟩), .pointer (some ⟨r2, 0, none⟩)] w fun e w' => e = .returned (.bool (sameB l1 W1 l2 W2)) ∧ Below w.heap.size w w' := by
  obtain ⟨R, hR⟩ : ∃ x, sameB l1 W1 l2 W2 = x := ⟨_, rfl⟩
  have HRr := Lib.hid hR
  rw [hR]
  obtain ⟨aw1, cw1, rfl⟩ := own_form t1.wts
  obtain ⟨aw2, cw2, rfl⟩ := own_form t2.wts
  obtain ⟨al1, cl1, rfl⟩ := own_form t1.own
  obtain ⟨al2, cl2, rfl⟩ := own_form t2.own
  have HR1 := Lib.hid t1
  have HR2 := Lib.hid t2
  have HA1 := Lib.hid A1
  have HZ := Lib.hid (show WZ n W1 ∧ WZ n W2 from ⟨z1, z2⟩)
  have HW0 := Lib.hid (Below.refl w.heap.size w)
  obtain ⟨nb, hnb⟩ : ∃ b, ((l1.length : Int) != (l2.length : Int)) = b := ⟨_, rfl⟩
  have HNb := Lib.hid hnb
  clear hR t1 t2 A1 z1 z2
  go_enter Try.func20, Try.ntmps20
  go_upto_region 1 with (fail)
  --GEN r_rs1
  refine wp_region_vals [Is (.pointer (some ⟨r1, 0, none⟩)), Is (.pointer (some ⟨r1, 0, none⟩)), Is (.pointer (some ⟨r1, 1, none⟩)), Is (.slice aw1 n cw1), Is (.int .i64 n), Is (.pointer (some ⟨r2, 0, none⟩)), Is (.pointer (some ⟨r2, 0, none⟩)), Is (.pointer (some ⟨r2, 1, none⟩)), Is (.slice aw2 n cw2), Is (.int .i64 n), Is (.bool false), Is (.bool false), Is (.pointer (some ⟨r1, 0, none⟩)), Is (.pointer (some ⟨r1, 0, none⟩)), Is (.pointer (some ⟨r1, 0, none⟩)), Is (.slice al1 l1.length cl1), Is (.int .i64 l1.length), Is (.pointer (some ⟨r2, 0, none⟩)), Is (.pointer (some ⟨r2, 0, none⟩)), Is (.pointer (some ⟨r2, 0, none⟩)), Is (.slice al2 l2.length cl2), Is (.int .i64 l2.length), Is (.bool nb), Is (.bool nb)]
    (fun _ W W' => Below W.heap.size W W') (fun _ W => Below w.heap.size w W) (by kernel_rfl) (by kernel_rfl) (by kernel_rfl) ?hst ?h0 ⟨?o0, ?o1, ?o2, ?o3, ?o4, ?o5, ?o6, ?o7, ?o8, ?o9, ?o10, ?o11, ?o12, ?o13, ?o14, ?o15, ?o16, ?o17, ?o18, ?o19, ?o20, ?o21, ?o22, ?o23, trivial⟩ ?he
  case hst =>
    exact ⟨(fun _ _ _ _ _ _ h _ => h), (fun _ _ _ _ _ _ h _ => h), (fun _ _ _ _ _ _ h _ => h), (fun _ _ _ _ _ _ h _ => h), (fun _ _ _ _ _ _ h _ => h), (fun _ _ _ _ _ _ h _ => h), (fun _ _ _ _ _ _ h _ => h), (fun _ _ _ _ _ _ h _ => h), (fun _ _ _ _ _ _ h _ => h), (fun _ _ _ _ _ _ h _ => h), (fun _ _ _ _ _ _ h _ => h), (fun _ _ _ _ _ _ h _ => h), (fun _ _ _ _ _ _ h _ => h), (fun _ _ _ _ _ _ h _ => h), (fun _ _ _ _ _ _ h _ => h), (fun _ _ _ _ _ _ h _ => h), (fun _ _ _ _ _ _ h _ => h), (fun _ _ _ _ _ _ h _ => h), (fun _ _ _ _ _ _ h _ => h), (fun _ _ _ _ _ _ h _ => h), (fun _ _ _ _ _ _ h _ => h), (fun _ _ _ _ _ _ h _ => h), (fun _ _ _ _ _ _ h _ => h), (fun _ _ _ _ _ _ h _ => h), trivial⟩
  case h0 =>
    exact (Below.refl _ _).drew
  case o0 =>
    intro L vs A W H hf hd K hK
    have e0 : A.tmps[0]?.getD undef = .pointer (some ⟨r1, 0, none⟩) := H.old 0 (by kernel_rfl)
    go_simp
    exact hK _ _ (Below.refl _ _) rfl (H.glob)
  case o1 =>
    intro L vs A W H hf hd K hK
    have e7 := H.is 0 7 rfl rfl rfl (deps_of' hd 0 (by kernel_rfl)) (by kernel_rfl)
    go_simp
    exact hK _ _ (Below.refl _ _) rfl (H.glob)
  case o2 =>
    intro L vs A W H hf hd K hK
    have e8 := H.is 1 8 rfl rfl rfl (deps_of' hd 1 (by kernel_rfl)) (by kernel_rfl)
    go_simp
    exact hK _ _ (Below.refl _ _) rfl (H.glob)
  case o3 =>
    intro L vs A W H hf hd K hK
    have e9 := H.is 2 9 rfl rfl rfl (deps_of' hd 2 (by kernel_rfl)) (by kernel_rfl)
    have d := (H.glob.cell (p := ⟨r1, 1, none⟩) HR1.out.blk.lt).trans HR1.out.c1
    go_simp
    exact hK _ _ (Below.refl _ _) rfl (H.glob)
  case o4 =>
    intro L vs A W H hf hd K hK
    have e10 := H.is 3 10 rfl rfl rfl (deps_of' hd 3 (by kernel_rfl)) (by kernel_rfl)
    go_simp
    exact hK _ _ (Below.refl _ _) rfl (H.glob)
  case o5 =>
    intro L vs A W H hf hd K hK
    have e1 : A.tmps[1]?.getD undef = .pointer (some ⟨r2, 0, none⟩) := H.old 1 (by kernel_rfl)
    go_simp
    exact hK _ _ (Below.refl _ _) rfl (H.glob)
  case o6 =>
    intro L vs A W H hf hd K hK
    have e12 := H.is 5 12 rfl rfl rfl (deps_of' hd 5 (by kernel_rfl)) (by kernel_rfl)
    go_simp
    exact hK _ _ (Below.refl _ _) rfl (H.glob)
  case o7 =>
    intro L vs A W H hf hd K hK
    have e13 := H.is 6 13 rfl rfl rfl (deps_of' hd 6 (by kernel_rfl)) (by kernel_rfl)
    go_simp
    exact hK _ _ (Below.refl _ _) rfl (H.glob)
  case o8 =>
    intro L vs A W H hf hd K hK
    have e14 := H.is 7 14 rfl rfl rfl (deps_of' hd 7 (by kernel_rfl)) (by kernel_rfl)
    have d := (H.glob.cell (p := ⟨r2, 1, none⟩) HR2.out.blk.lt).trans HR2.out.c1
    go_simp
    exact hK _ _ (Below.refl _ _) rfl (H.glob)
  case o9 =>
    intro L vs A W H hf hd K hK
    have e15 := H.is 8 15 rfl rfl rfl (deps_of' hd 8 (by kernel_rfl)) (by kernel_rfl)
    go_simp
    exact hK _ _ (Below.refl _ _) rfl (H.glob)
  case o10 =>
    intro L vs A W H hf hd K hK
    have e11 := H.is 4 11 rfl rfl rfl (deps_of' hd 4 (by kernel_rfl)) (by kernel_rfl)
    have e16 := H.is 9 16 rfl rfl rfl (deps_of' hd 9 (by kernel_rfl)) (by kernel_rfl)
    have dn : ((n : Int) != (n : Int)) = false := bne_self_eq_false _
    go_simp
    exact hK _ _ (Below.refl _ _) rfl (H.glob)
  case o11 =>
    intro L vs A W H hf hd K hK
    have e17 := H.is 10 17 rfl rfl rfl (deps_of' hd 10 (by kernel_rfl)) (by kernel_rfl)
    go_simp
    exact hK _ _ (Below.refl _ _) rfl (H.glob)
  case o12 =>
    intro L vs A W H hf hd K hK
    have e18 := H.is 11 18 rfl rfl rfl (deps_of' hd 11 (by kernel_rfl)) (by kernel_rfl)
    refine if_wanted (j := 11) (s := 18) rfl rfl rfl e18 rfl ?_
    have e0 : A.tmps[0]?.getD undef = .pointer (some ⟨r1, 0, none⟩) := H.old 0 (by kernel_rfl)
    go_simp
    exact hK _ _ (Below.refl _ _) rfl (H.glob)
  case o13 =>
    intro L vs A W H hf hd K hK
    have e18 := H.is 11 18 rfl rfl rfl (deps_of' hd 11 (by kernel_rfl)) (by kernel_rfl)
    refine if_wanted (j := 11) (s := 18) rfl rfl rfl e18 rfl ?_
    have e19 := H.is 12 19 rfl rfl rfl (deps_of' hd 12 (by kernel_rfl)) (by kernel_rfl)
    go_simp
    exact hK _ _ (Below.refl _ _) rfl (H.glob)
  case o14 =>
    intro L vs A W H hf hd K hK
    have e18 := H.is 11 18 rfl rfl rfl (deps_of' hd 11 (by kernel_rfl)) (by kernel_rfl)
    refine if_wanted (j := 11) (s := 18) rfl rfl rfl e18 rfl ?_
    have e20 := H.is 13 20 rfl rfl rfl (deps_of' hd 13 (by kernel_rfl)) (by kernel_rfl)
    go_simp
    exact hK _ _ (Below.refl _ _) rfl (H.glob)
  case o15 =>
    intro L vs A W H hf hd K hK
    have e18 := H.is 11 18 rfl rfl rfl (deps_of' hd 11 (by kernel_rfl)) (by kernel_rfl)
    refine if_wanted (j := 11) (s := 18) rfl rfl rfl e18 rfl ?_
    have e21 := H.is 14 21 rfl rfl rfl (deps_of' hd 14 (by kernel_rfl)) (by kernel_rfl)
    have d := (H.glob.cell (p := ⟨r1, 0, none⟩) HR1.out.blk.lt).trans HR1.out.c0
    go_simp
    exact hK _ _ (Below.refl _ _) rfl (H.glob)
  case o16 =>
    intro L vs A W H hf hd K hK
    have e18 := H.is 11 18 rfl rfl rfl (deps_of' hd 11 (by kernel_rfl)) (by kernel_rfl)
    refine if_wanted (j := 11) (s := 18) rfl rfl rfl e18 rfl ?_
    have e22 := H.is 15 22 rfl rfl rfl (deps_of' hd 15 (by kernel_rfl)) (by kernel_rfl)
    go_simp
    exact hK _ _ (Below.refl _ _) rfl (H.glob)
  case o17 =>
    intro L vs A W H hf hd K hK
    have e18 := H.is 11 18 rfl rfl rfl (deps_of' hd 11 (by kernel_rfl)) (by kernel_rfl)
    refine if_wanted (j := 11) (s := 18) rfl rfl rfl e18 rfl ?_
    have e1 : A.tmps[1]?.getD undef = .pointer (some ⟨r2, 0, none⟩) := H.old 1 (by kernel_rfl)
    go_simp
    exact hK _ _ (Below.refl _ _) rfl (H.glob)
  case o18 =>
    intro L vs A W H hf hd K hK
    have e18 := H.is 11 18 rfl rfl rfl (deps_of' hd 11 (by kernel_rfl)) (by kernel_rfl)
    refine if_wanted (j := 11) (s := 18) rfl rfl rfl e18 rfl ?_
    have e24 := H.is 17 24 rfl rfl rfl (deps_of' hd 17 (by kernel_rfl)) (by kernel_rfl)
    go_simp
    exact hK _ _ (Below.refl _ _) rfl (H.glob)
  case o19 =>
    intro L vs A W H hf hd K hK
    have e18 := H.is 11 18 rfl rfl rfl (deps_of' hd 11 (by kernel_rfl)) (by kernel_rfl)
    refine if_wanted (j := 11) (s := 18) rfl rfl rfl e18 rfl ?_
    have e25 := H.is 18 25 rfl rfl rfl (deps_of' hd 18 (by kernel_rfl)) (by kernel_rfl)
    go_simp
    exact hK _ _ (Below.refl _ _) rfl (H.glob)
  case o20 =>
    intro L vs A W H hf hd K hK
    have e18 := H.is 11 18 rfl rfl rfl (deps_of' hd 11 (by kernel_rfl)) (by kernel_rfl)
    refine if_wanted (j := 11) (s := 18) rfl rfl rfl e18 rfl ?_
    have e26 := H.is 19 26 rfl rfl rfl (deps_of' hd 19 (by kernel_rfl)) (by kernel_rfl)
    have d := (H.glob.cell (p := ⟨r2, 0, none⟩) HR2.out.blk.lt).trans HR2.out.c0
    go_simp
    exact hK _ _ (Below.refl _ _) rfl (H.glob)
  case o21 =>
    intro L vs A W H hf hd K hK
    have e18 := H.is 11 18 rfl rfl rfl (deps_of' hd 11 (by kernel_rfl)) (by kernel_rfl)
    refine if_wanted (j := 11) (s := 18) rfl rfl rfl e18 rfl ?_
    have e27 := H.is 20 27 rfl rfl rfl (deps_of' hd 20 (by kernel_rfl)) (by kernel_rfl)
    go_simp
    exact hK _ _ (Below.refl _ _) rfl (H.glob)
  case o22 =>
    intro L vs A W H hf hd K hK
    have e18 := H.is 11 18 rfl rfl rfl (deps_of' hd 11 (by kernel_rfl)) (by kernel_rfl)
    refine if_wanted (j := 11) (s := 18) rfl rfl rfl e18 rfl ?_
    have e23 := H.is 16 23 rfl rfl rfl (deps_of' hd 16 (by kernel_rfl)) (by kernel_rfl)
    have e28 := H.is 21 28 rfl rfl rfl (deps_of' hd 21 (by kernel_rfl)) (by kernel_rfl)
    go_simp
    exact hK _ _ (Below.refl _ _) rfl (H.glob)
  case o23 =>
    intro L vs A W H hf hd K hK
    have e18 := H.is 11 18 rfl rfl rfl (deps_of' hd 11 (by kernel_rfl)) (by kernel_rfl)
    have e29 := H.is 22 29 rfl rfl rfl (deps_of' hd 22 (by kernel_rfl)) (by kernel_rfl)
    go_simp
    exact hK _ _ (Below.refl _ _) rfl (H.glob)
  case he =>
    intro vs W hlen hv
    match vs, hlen, hv with
    | [x0_, x1_, x2_, x3_, x4_, x5_, x6_, x7_, x8_, x9_, x10_, x11_, x12_, x13_, x14_, x15_, x16_, x17_, x18_, x19_, x20_, x21_, x22_, x23_], _, hv =>
    obtain rfl : (.pointer (some ⟨r1, 0, none⟩)) = x0_ := by obtain ⟨z, h1, h2⟩ := hv 0 _ rfl; cases h1; exact h2.symm
    obtain rfl : (.pointer (some ⟨r1, 0, none⟩)) = x1_ := by obtain ⟨z, h1, h2⟩ := hv 1 _ rfl; cases h1; exact h2.symm
    obtain rfl : (.pointer (some ⟨r1, 1, none⟩)) = x2_ := by obtain ⟨z, h1, h2⟩ := hv 2 _ rfl; cases h1; exact h2.symm
    obtain rfl : (.slice aw1 n cw1) = x3_ := by obtain ⟨z, h1, h2⟩ := hv 3 _ rfl; cases h1; exact h2.symm
    obtain rfl : (.int .i64 n) = x4_ := by obtain ⟨z, h1, h2⟩ := hv 4 _ rfl; cases h1; exact h2.symm
    obtain rfl : (.pointer (some ⟨r2, 0, none⟩)) = x5_ := by obtain ⟨z, h1, h2⟩ := hv 5 _ rfl; cases h1; exact h2.symm
    obtain rfl : (.pointer (some ⟨r2, 0, none⟩)) = x6_ := by obtain ⟨z, h1, h2⟩ := hv 6 _ rfl; cases h1; exact h2.symm
    obtain rfl : (.pointer (some ⟨r2, 1, none⟩)) = x7_ := by obtain ⟨z, h1, h2⟩ := hv 7 _ rfl; cases h1; exact h2.symm
    obtain rfl : (.slice aw2 n cw2) = x8_ := by obtain ⟨z, h1, h2⟩ := hv 8 _ rfl; cases h1; exact h2.symm
    obtain rfl : (.int .i64 n) = x9_ := by obtain ⟨z, h1, h2⟩ := hv 9 _ rfl; cases h1; exact h2.symm
    obtain rfl : (.bool false) = x10_ := by obtain ⟨z, h1, h2⟩ := hv 10 _ rfl; cases h1; exact h2.symm
    obtain rfl : (.bool false) = x11_ := by obtain ⟨z, h1, h2⟩ := hv 11 _ rfl; cases h1; exact h2.symm
    obtain rfl : (.pointer (some ⟨r1, 0, none⟩)) = x12_ := by obtain ⟨z, h1, h2⟩ := hv 12 _ rfl; cases h1; exact h2.symm
    obtain rfl : (.pointer (some ⟨r1, 0, none⟩)) = x13_ := by obtain ⟨z, h1, h2⟩ := hv 13 _ rfl; cases h1; exact h2.symm
    obtain rfl : (.pointer (some ⟨r1, 0, none⟩)) = x14_ := by obtain ⟨z, h1, h2⟩ := hv 14 _ rfl; cases h1; exact h2.symm
    obtain rfl : (.slice al1 l1.length cl1) = x15_ := by obtain ⟨z, h1, h2⟩ := hv 15 _ rfl; cases h1; exact h2.symm
    obtain rfl : (.int .i64 l1.length) = x16_ := by obtain ⟨z, h1, h2⟩ := hv 16 _ rfl; cases h1; exact h2.symm
    obtain rfl : (.pointer (some ⟨r2, 0, none⟩)) = x17_ := by obtain ⟨z, h1, h2⟩ := hv 17 _ rfl; cases h1; exact h2.symm
    obtain rfl : (.pointer (some ⟨r2, 0, none⟩)) = x18_ := by obtain ⟨z, h1, h2⟩ := hv 18 _ rfl; cases h1; exact h2.symm
    obtain rfl : (.pointer (some ⟨r2, 0, none⟩)) = x19_ := by obtain ⟨z, h1, h2⟩ := hv 19 _ rfl; cases h1; exact h2.symm
    obtain rfl : (.slice al2 l2.length cl2) = x20_ := by obtain ⟨z, h1, h2⟩ := hv 20 _ rfl; cases h1; exact h2.symm
    obtain rfl : (.int .i64 l2.length) = x21_ := by obtain ⟨z, h1, h2⟩ := hv 21 _ rfl; cases h1; exact h2.symm
    obtain rfl : (.bool nb) = x22_ := by obtain ⟨z, h1, h2⟩ := hv 22 _ rfl; cases h1; exact h2.symm
    obtain rfl : (.bool nb) = x23_ := by obtain ⟨z, h1, h2⟩ := hv 23 _ rfl; cases h1; exact h2.symm
    intro L hall hG
    clear hv hlen
    have HB1 := Lib.hid (hG : Below w.heap.size w W)
    clear hG hall
    simp only [fill, if_true]
    go_simp
  --END
    cases nb with
    | true =>
      have HF := Lib.hid (show false = R by
        rw [← HRr.out]; unfold sameB
        have : l1.length ≠ l2.length := fun e => by have := bne_iff_ne.1 HNb.out; exact this (by rw [e])
        rw [decide_eq_false this]; rfl)
      go_wp2_with (fail)
      go_ret
      exact ⟨by rw [← HF.out]; rfl, HB1.out⟩
    | false =>
      have HLe := Lib.hid (show l1.length = l2.length by have := HNb.out; simp at this; omega)
      go_wp2_with (fail)
      go_loopw [5] (fun iv wr => ∃ i : Nat, i ≤ n ∧ iv = .int .i64 (i : Int) ∧ Hid (∀ j, j < i → W1 j = W2 j) ∧ Hid (Below w.heap.size w wr)) (fun iv _ => n - (intOf iv).toNat)
      case atStart => exact ⟨0, Nat.zero_le _, rfl, Lib.hid (fun j h => by omega), HB1⟩
      case round =>
        obtain ⟨i, hi, rfl, hW, hB⟩ := hrel
        obtain ⟨wb, rfl⟩ : ∃ y, y = wr := ⟨_, rfl⟩
        have HR1b := Lib.hid (HR1.out.keptN (Keeps.of_below' hB.out))
        have HR2b := Lib.hid (HR2.out.keptN (Keeps.of_below' hB.out))
        have c11 := HR1b.out.c1
        by_cases hlt : i < n
        · obtain ⟨g1, rfl, hg1, hm1, d1, _⟩ := HR1b.out.wAt hlt
          obtain ⟨g2, rfl, hg2, hm2, d2, _⟩ := HR2b.out.wAt hlt
          unfold maxLen at hm1
          obtain ⟨x1, hx1⟩ : ∃ x, W1 i = x := ⟨_, rfl⟩
          obtain ⟨x2, hx2⟩ : ∃ x, W2 i = x := ⟨_, rfl⟩
          obtain ⟨nb, hnb2⟩ : ∃ b, (x1 != x2) = b := ⟨_, rfl⟩
          have HNb2 := Lib.hid (show (W1 i != W2 i) = nb by rw [hx1, hx2]; exact hnb2)
          rw [hx1] at d1
          rw [hx2] at d2
          have HG1 := Lib.hid hg1
          have HG2 := Lib.hid hg2
          have b1 : (i : Int) < (n : Int) := by omega
          have HLT := Lib.hid hlt
          clear hx1 hx2 hg1 hg2 HB1 hnb
          have HR1s := Lib.hid HR1.out
          have HR2s := Lib.hid HR2.out
          clear HR1 HR2
          have HR1 := Lib.hid HR1b.out
          have HR2 := Lib.hid HR2b.out
          clear HR1b HR2b
          go_upto_region 6 with (fail)
          --GEN r_rs6
          refine wp_region_vals [Is (.pointer (some ⟨r1, 0, none⟩)), Is (.pointer (some ⟨r1, 0, none⟩)), Is (.pointer (some ⟨r1, 1, none⟩)), Is (.slice (some ⟨g1, 0, none⟩) n cw1), Is (.int .i64 i), Is (.pointer (some ⟨g1, i, none⟩)), Is (.int .u64 x1), Is (.pointer (some ⟨r2, 0, none⟩)), Is (.pointer (some ⟨r2, 0, none⟩)), Is (.pointer (some ⟨r2, 1, none⟩)), Is (.slice (some ⟨g2, 0, none⟩) n cw2), Is (.int .i64 i), Is (.pointer (some ⟨g2, i, none⟩)), Is (.int .u64 x2), Is (.bool nb)]
            (fun _ W W' => Below W.heap.size W W') (fun _ W => Below wb.heap.size wb W) (by kernel_rfl) (by kernel_rfl) (by kernel_rfl) ?hst ?h0 ⟨?o0, ?o1, ?o2, ?o3, ?o4, ?o5, ?o6, ?o7, ?o8, ?o9, ?o10, ?o11, ?o12, ?o13, ?o14, trivial⟩ ?he
          case hst =>
            exact ⟨(fun _ _ _ _ _ _ h _ => h), (fun _ _ _ _ _ _ h _ => h), (fun _ _ _ _ _ _ h _ => h), (fun _ _ _ _ _ _ h _ => h), (fun _ _ _ _ _ _ h _ => h), (fun _ _ _ _ _ _ h _ => h), (fun _ _ _ _ _ _ h _ => h), (fun _ _ _ _ _ _ h _ => h), (fun _ _ _ _ _ _ h _ => h), (fun _ _ _ _ _ _ h _ => h), (fun _ _ _ _ _ _ h _ => h), (fun _ _ _ _ _ _ h _ => h), (fun _ _ _ _ _ _ h _ => h), (fun _ _ _ _ _ _ h _ => h), (fun _ _ _ _ _ _ h _ => h), trivial⟩
          case h0 =>
            exact (Below.refl _ _).drew
          case o0 =>
            intro L vs A W H hf hd K hK
            have e0 : A.tmps[0]?.getD undef = .pointer (some ⟨r1, 0, none⟩) := H.old 0 (by kernel_rfl)
            go_simp
            exact hK _ _ (Below.refl _ _) rfl (H.glob)
          case o1 =>
            intro L vs A W H hf hd K hK
            have e40 := H.is 0 40 rfl rfl rfl (deps_of' hd 0 (by kernel_rfl)) (by kernel_rfl)
            go_simp
            exact hK _ _ (Below.refl _ _) rfl (H.glob)
          case o2 =>
            intro L vs A W H hf hd K hK
            have e41 := H.is 1 41 rfl rfl rfl (deps_of' hd 1 (by kernel_rfl)) (by kernel_rfl)
            go_simp
            exact hK _ _ (Below.refl _ _) rfl (H.glob)
          case o3 =>
            intro L vs A W H hf hd K hK
            have e42 := H.is 2 42 rfl rfl rfl (deps_of' hd 2 (by kernel_rfl)) (by kernel_rfl)
            have d := (H.glob.cell (p := ⟨r1, 1, none⟩) HR1.out.blk.lt).trans HR1.out.c1
            go_simp
            exact hK _ _ (Below.refl _ _) rfl (H.glob)
          case o4 =>
            intro L vs A W H hf hd K hK
            have e5 : A.tmps[5]?.getD undef = .int .i64 i := H.old 5 (by kernel_rfl)
            go_simp
            exact hK _ _ (Below.refl _ _) rfl (H.glob)
          case o5 =>
            intro L vs A W H hf hd K hK
            have e43 := H.is 3 43 rfl rfl rfl (deps_of' hd 3 (by kernel_rfl)) (by kernel_rfl)
            have e44 := H.is 4 44 rfl rfl rfl (deps_of' hd 4 (by kernel_rfl)) (by kernel_rfl)
            go_simp
            exact hK _ _ (Below.refl _ _) rfl (H.glob)
          case o6 =>
            intro L vs A W H hf hd K hK
            have e45 := H.is 5 45 rfl rfl rfl (deps_of' hd 5 (by kernel_rfl)) (by kernel_rfl)
            have d := (H.glob.cell (p := ⟨g1, i, none⟩) HG1.out).trans d1
            go_simp
            exact hK _ _ (Below.refl _ _) rfl (H.glob)
          case o7 =>
            intro L vs A W H hf hd K hK
            have e1 : A.tmps[1]?.getD undef = .pointer (some ⟨r2, 0, none⟩) := H.old 1 (by kernel_rfl)
            go_simp
            exact hK _ _ (Below.refl _ _) rfl (H.glob)
          case o8 =>
            intro L vs A W H hf hd K hK
            have e47 := H.is 7 47 rfl rfl rfl (deps_of' hd 7 (by kernel_rfl)) (by kernel_rfl)
            go_simp
            exact hK _ _ (Below.refl _ _) rfl (H.glob)
          case o9 =>
            intro L vs A W H hf hd K hK
            have e48 := H.is 8 48 rfl rfl rfl (deps_of' hd 8 (by kernel_rfl)) (by kernel_rfl)
            go_simp
            exact hK _ _ (Below.refl _ _) rfl (H.glob)
          case o10 =>
            intro L vs A W H hf hd K hK
            have e49 := H.is 9 49 rfl rfl rfl (deps_of' hd 9 (by kernel_rfl)) (by kernel_rfl)
            have d := (H.glob.cell (p := ⟨r2, 1, none⟩) HR2.out.blk.lt).trans HR2.out.c1
            go_simp
            exact hK _ _ (Below.refl _ _) rfl (H.glob)
          case o11 =>
            intro L vs A W H hf hd K hK
            have e5 : A.tmps[5]?.getD undef = .int .i64 i := H.old 5 (by kernel_rfl)
            go_simp
            exact hK _ _ (Below.refl _ _) rfl (H.glob)
          case o12 =>
            intro L vs A W H hf hd K hK
            have e50 := H.is 10 50 rfl rfl rfl (deps_of' hd 10 (by kernel_rfl)) (by kernel_rfl)
            have e51 := H.is 11 51 rfl rfl rfl (deps_of' hd 11 (by kernel_rfl)) (by kernel_rfl)
            go_simp
            exact hK _ _ (Below.refl _ _) rfl (H.glob)
          case o13 =>
            intro L vs A W H hf hd K hK
            have e52 := H.is 12 52 rfl rfl rfl (deps_of' hd 12 (by kernel_rfl)) (by kernel_rfl)
            have d := (H.glob.cell (p := ⟨g2, i, none⟩) HG2.out).trans d2
            go_simp
            exact hK _ _ (Below.refl _ _) rfl (H.glob)
          case o14 =>
            intro L vs A W H hf hd K hK
            have e46 := H.is 6 46 rfl rfl rfl (deps_of' hd 6 (by kernel_rfl)) (by kernel_rfl)
            have e53 := H.is 13 53 rfl rfl rfl (deps_of' hd 13 (by kernel_rfl)) (by kernel_rfl)
            go_simp
            exact hK _ _ (Below.refl _ _) rfl (H.glob)
          case he =>
            intro vs W hlen hv
            match vs, hlen, hv with
            | [x0_, x1_, x2_, x3_, x4_, x5_, x6_, x7_, x8_, x9_, x10_, x11_, x12_, x13_, x14_], _, hv =>
            obtain rfl : (.pointer (some ⟨r1, 0, none⟩)) = x0_ := by obtain ⟨z, h1, h2⟩ := hv 0 _ rfl; cases h1; exact h2.symm
            obtain rfl : (.pointer (some ⟨r1, 0, none⟩)) = x1_ := by obtain ⟨z, h1, h2⟩ := hv 1 _ rfl; cases h1; exact h2.symm
            obtain rfl : (.pointer (some ⟨r1, 1, none⟩)) = x2_ := by obtain ⟨z, h1, h2⟩ := hv 2 _ rfl; cases h1; exact h2.symm
            obtain rfl : (.slice (some ⟨g1, 0, none⟩) n cw1) = x3_ := by obtain ⟨z, h1, h2⟩ := hv 3 _ rfl; cases h1; exact h2.symm
            obtain rfl : (.int .i64 i) = x4_ := by obtain ⟨z, h1, h2⟩ := hv 4 _ rfl; cases h1; exact h2.symm
            obtain rfl : (.pointer (some ⟨g1, i, none⟩)) = x5_ := by obtain ⟨z, h1, h2⟩ := hv 5 _ rfl; cases h1; exact h2.symm
            obtain rfl : (.int .u64 x1) = x6_ := by obtain ⟨z, h1, h2⟩ := hv 6 _ rfl; cases h1; exact h2.symm
            obtain rfl : (.pointer (some ⟨r2, 0, none⟩)) = x7_ := by obtain ⟨z, h1, h2⟩ := hv 7 _ rfl; cases h1; exact h2.symm
            obtain rfl : (.pointer (some ⟨r2, 0, none⟩)) = x8_ := by obtain ⟨z, h1, h2⟩ := hv 8 _ rfl; cases h1; exact h2.symm
            obtain rfl : (.pointer (some ⟨r2, 1, none⟩)) = x9_ := by obtain ⟨z, h1, h2⟩ := hv 9 _ rfl; cases h1; exact h2.symm
            obtain rfl : (.slice (some ⟨g2, 0, none⟩) n cw2) = x10_ := by obtain ⟨z, h1, h2⟩ := hv 10 _ rfl; cases h1; exact h2.symm
            obtain rfl : (.int .i64 i) = x11_ := by obtain ⟨z, h1, h2⟩ := hv 11 _ rfl; cases h1; exact h2.symm
            obtain rfl : (.pointer (some ⟨g2, i, none⟩)) = x12_ := by obtain ⟨z, h1, h2⟩ := hv 12 _ rfl; cases h1; exact h2.symm
            obtain rfl : (.int .u64 x2) = x13_ := by obtain ⟨z, h1, h2⟩ := hv 13 _ rfl; cases h1; exact h2.symm
            obtain rfl : (.bool nb) = x14_ := by obtain ⟨z, h1, h2⟩ := hv 14 _ rfl; cases h1; exact h2.symm
            intro L hall hG
            clear hv hlen
            have HB1 := Lib.hid (hG : Below wb.heap.size wb W)
            clear hG hall
            simp only [fill, if_true]
            go_simp
          --END
            have HB2 := Lib.hid (hB.out.trans (HB1.out.mono hB.out.size))
            cases nb with
            | true =>
              have HF := Lib.hid (show false = R by
                rw [← HRr.out]; unfold sameB
                rw [eqW_false (i := i) (by omega) (bne_iff_ne.1 HNb2.out), Bool.and_false])
              go_wp2_with (fail)
              go_ret
              exact ⟨by rw [← HF.out]; rfl, HB2.out⟩
            | false =>
              have HW2 := Lib.hid (show ∀ j, j < i + 1 → W1 j = W2 j from fun j hj => by
                by_cases e : j = i
                · rw [e]; have := HNb2.out; simpa using this
                · exact hW.out j (by omega))
              go_wp2_with (fail)
              go_roundw
              case rel => exact ⟨i + 1, HLT.out, by go_num, HW2, HB2⟩
              case measure => simp [intOf]; have := HLT.out; omega
        · have b1 : ¬ (i : Int) < (n : Int) := by omega
          have HEq := Lib.hid (eqW_true HZ.out.1 HZ.out.2 (fun j hj => hW.out j (by omega)))
          clear HB1 hnb
          go_wp2_with (fail)
          go_loopw [6] (fun iv wr => ∃ i : Nat, i ≤ l1.length ∧ iv = .int .i64 (i : Int) ∧ Hid (∀ j, j < i → hldI l2 (hI l1 j) = hC l1 j) ∧ Hid (Below w.heap.size w wr)) (fun iv _ => l1.length - (intOf iv).toNat)
          case atStart => exact ⟨0, Nat.zero_le _, rfl, Lib.hid (fun j h => by omega), hB⟩
          case round =>
            obtain ⟨i, hi, rfl, hL, hB⟩ := hrel
            obtain ⟨wb, rfl⟩ : ∃ y, y = wr := ⟨_, rfl⟩
            clear HR1b HR2b c11
            have HR1b := Lib.hid (HR1.out.keptN (Keeps.of_below' hB.out))
            have HR2b := Lib.hid (HR2.out.keptN (Keeps.of_below' hB.out))
            have c10 := HR1b.out.c0
            by_cases hlt : i < l1.length
            · obtain ⟨g1, rfl, hg1, hm1, d1, d2⟩ := HR1b.out.hasAt hlt
              unfold maxLen at hm1
              obtain ⟨id, hid⟩ : ∃ x, hI l1 i = x := ⟨_, rfl⟩
              obtain ⟨cc, hcc⟩ : ∃ x, hC l1 i = x := ⟨_, rfl⟩
              obtain ⟨who, hwho⟩ : ∃ x, hldI l2 id = x := ⟨_, rfl⟩
              have HWho := Lib.hid hwho
              obtain ⟨nb, hnb2⟩ : ∃ b, (who != cc) = b := ⟨_, rfl⟩
              have HNb2 := Lib.hid (show (hldI l2 (hI l1 i) != hC l1 i) = nb by rw [hid, hcc, hwho]; exact hnb2)
              rw [hid] at d1
              rw [hcc] at d2
              have HG1 := Lib.hid hg1
              have b3 : (i : Int) < (l1.length : Int) := by omega
              have HLT := Lib.hid hlt
              clear hid hcc hwho hg1
              have HR1s := Lib.hid HR1.out
              have HR2s := Lib.hid HR2.out
              clear HR1 HR2
              have HR1 := Lib.hid HR1b.out
              have HR2 := Lib.hid HR2b.out
              clear HR1b HR2b
              go_upto_region 11 with (fail)
              --GEN r_rs11
              refine wp_region_vals [Is (.pointer (some ⟨r2, 0, none⟩)), Is (.pointer (some ⟨r1, 0, none⟩)), Is (.pointer (some ⟨r1, 0, none⟩)), Is (.pointer (some ⟨r1, 0, none⟩)), Is (.slice (some ⟨g1, 0, none⟩) l1.length cl1), Is (.int .i64 i), Is (.pointer (some ⟨g1, i * 2, none⟩)), Is (.pointer (some ⟨g1, i * 2, none⟩)), Is (.int .u64 id), Is (.int .i64 who), Is (.pointer (some ⟨r1, 0, none⟩)), Is (.pointer (some ⟨r1, 0, none⟩)), Is (.pointer (some ⟨r1, 0, none⟩)), Is (.slice (some ⟨g1, 0, none⟩) l1.length cl1), Is (.int .i64 i), Is (.pointer (some ⟨g1, i * 2, none⟩)), Is (.pointer (some ⟨g1, i * 2 + 1, none⟩)), Is (.int .i64 cc), Is (.bool nb)]
                (fun _ W W' => Below W.heap.size W W') (fun _ W => Below wb.heap.size wb W) (by kernel_rfl) (by kernel_rfl) (by kernel_rfl) ?hst ?h0 ⟨?o0, ?o1, ?o2, ?o3, ?o4, ?o5, ?o6, ?o7, ?o8, ?o9, ?o10, ?o11, ?o12, ?o13, ?o14, ?o15, ?o16, ?o17, ?o18, trivial⟩ ?he
              case hst =>
                exact ⟨(fun _ _ _ _ _ _ h _ => h), (fun _ _ _ _ _ _ h _ => h), (fun _ _ _ _ _ _ h _ => h), (fun _ _ _ _ _ _ h _ => h), (fun _ _ _ _ _ _ h _ => h), (fun _ _ _ _ _ _ h _ => h), (fun _ _ _ _ _ _ h _ => h), (fun _ _ _ _ _ _ h _ => h), (fun _ _ _ _ _ _ h _ => h), (fun _ _ _ _ _ _ h _ => h), (fun _ _ _ _ _ _ h _ => h), (fun _ _ _ _ _ _ h _ => h), (fun _ _ _ _ _ _ h _ => h), (fun _ _ _ _ _ _ h _ => h), (fun _ _ _ _ _ _ h _ => h), (fun _ _ _ _ _ _ h _ => h), (fun _ _ _ _ _ _ h _ => h), (fun _ _ _ _ _ _ h _ => h), (fun _ _ _ _ _ _ h _ => h), trivial⟩
              case h0 =>
                exact (Below.refl _ _).drew
              case o0 =>
                intro L vs A W H hf hd K hK
                have e1 : A.tmps[1]?.getD undef = .pointer (some ⟨r2, 0, none⟩) := H.old 1 (by kernel_rfl)
                go_simp
                exact hK _ _ (Below.refl _ _) rfl (H.glob)
              case o1 =>
                intro L vs A W H hf hd K hK
                have e0 : A.tmps[0]?.getD undef = .pointer (some ⟨r1, 0, none⟩) := H.old 0 (by kernel_rfl)
                go_simp
                exact hK _ _ (Below.refl _ _) rfl (H.glob)
              case o2 =>
                intro L vs A W H hf hd K hK
                have e65 := H.is 1 65 rfl rfl rfl (deps_of' hd 1 (by kernel_rfl)) (by kernel_rfl)
                go_simp
                exact hK _ _ (Below.refl _ _) rfl (H.glob)
              case o3 =>
                intro L vs A W H hf hd K hK
                have e66 := H.is 2 66 rfl rfl rfl (deps_of' hd 2 (by kernel_rfl)) (by kernel_rfl)
                go_simp
                exact hK _ _ (Below.refl _ _) rfl (H.glob)
              case o4 =>
                intro L vs A W H hf hd K hK
                have e67 := H.is 3 67 rfl rfl rfl (deps_of' hd 3 (by kernel_rfl)) (by kernel_rfl)
                have d := (H.glob.cell (p := ⟨r1, 0, none⟩) HR1.out.blk.lt).trans HR1.out.c0
                go_simp
                exact hK _ _ (Below.refl _ _) rfl (H.glob)
              case o5 =>
                intro L vs A W H hf hd K hK
                have e6 : A.tmps[6]?.getD undef = .int .i64 i := H.old 6 (by kernel_rfl)
                go_simp
                exact hK _ _ (Below.refl _ _) rfl (H.glob)
              case o6 =>
                intro L vs A W H hf hd K hK
                have e68 := H.is 4 68 rfl rfl rfl (deps_of' hd 4 (by kernel_rfl)) (by kernel_rfl)
                have e69 := H.is 5 69 rfl rfl rfl (deps_of' hd 5 (by kernel_rfl)) (by kernel_rfl)
                go_simp
                exact hK _ _ (Below.refl _ _) rfl (H.glob)
              case o7 =>
                intro L vs A W H hf hd K hK
                have e70 := H.is 6 70 rfl rfl rfl (deps_of' hd 6 (by kernel_rfl)) (by kernel_rfl)
                go_simp
                exact hK _ _ (Below.refl _ _) rfl (H.glob)
              case o8 =>
                intro L vs A W H hf hd K hK
                have e71 := H.is 7 71 rfl rfl rfl (deps_of' hd 7 (by kernel_rfl)) (by kernel_rfl)
                have d := (H.glob.cell (p := ⟨g1, i * 2, none⟩) HG1.out).trans d1
                go_simp
                exact hK _ _ (Below.refl _ _) rfl (H.glob)
              case o9 =>
                intro L vs A W H hf hd K hK
                have e64 := H.is 0 64 rfl rfl rfl (deps_of' hd 0 (by kernel_rfl)) (by kernel_rfl)
                have e72 := H.is 8 72 rfl rfl rfl (deps_of' hd 8 (by kernel_rfl)) (by kernel_rfl)
                rw [if_pos (show Region.wanted _ _ = true from rfl)]
                go_wp2_with (fail)
                refine (rholder_j n W r2 l2 W2 _ _ (HR2.out.keptN (Keeps.of_below' H.glob)) id who HWho.out).mono ?_
                rintro e W3 ⟨rfl, rfl⟩
                exact hK _ _ (Below.refl _ _) rfl H.glob
              case o10 =>
                intro L vs A W H hf hd K hK
                have e0 : A.tmps[0]?.getD undef = .pointer (some ⟨r1, 0, none⟩) := H.old 0 (by kernel_rfl)
                go_simp
                exact hK _ _ (Below.refl _ _) rfl (H.glob)
              case o11 =>
                intro L vs A W H hf hd K hK
                have e74 := H.is 10 74 rfl rfl rfl (deps_of' hd 10 (by kernel_rfl)) (by kernel_rfl)
                go_simp
                exact hK _ _ (Below.refl _ _) rfl (H.glob)
              case o12 =>
                intro L vs A W H hf hd K hK
                have e75 := H.is 11 75 rfl rfl rfl (deps_of' hd 11 (by kernel_rfl)) (by kernel_rfl)
                go_simp
                exact hK _ _ (Below.refl _ _) rfl (H.glob)
              case o13 =>
                intro L vs A W H hf hd K hK
                have e76 := H.is 12 76 rfl rfl rfl (deps_of' hd 12 (by kernel_rfl)) (by kernel_rfl)
                have d := (H.glob.cell (p := ⟨r1, 0, none⟩) HR1.out.blk.lt).trans HR1.out.c0
                go_simp
                exact hK _ _ (Below.refl _ _) rfl (H.glob)
              case o14 =>
                intro L vs A W H hf hd K hK
                have e6 : A.tmps[6]?.getD undef = .int .i64 i := H.old 6 (by kernel_rfl)
                go_simp
                exact hK _ _ (Below.refl _ _) rfl (H.glob)
              case o15 =>
                intro L vs A W H hf hd K hK
                have e77 := H.is 13 77 rfl rfl rfl (deps_of' hd 13 (by kernel_rfl)) (by kernel_rfl)
                have e78 := H.is 14 78 rfl rfl rfl (deps_of' hd 14 (by kernel_rfl)) (by kernel_rfl)
                go_simp
                exact hK _ _ (Below.refl _ _) rfl (H.glob)
              case o16 =>
                intro L vs A W H hf hd K hK
                have e79 := H.is 15 79 rfl rfl rfl (deps_of' hd 15 (by kernel_rfl)) (by kernel_rfl)
                go_simp
                exact hK _ _ (Below.refl _ _) rfl (H.glob)
              case o17 =>
                intro L vs A W H hf hd K hK
                have e80 := H.is 16 80 rfl rfl rfl (deps_of' hd 16 (by kernel_rfl)) (by kernel_rfl)
                have d := (H.glob.cell (p := ⟨g1, i * 2 + 1, none⟩) HG1.out).trans d2
                go_simp
                exact hK _ _ (Below.refl _ _) rfl (H.glob)
              case o18 =>
                intro L vs A W H hf hd K hK
                have e73 := H.is 9 73 rfl rfl rfl (deps_of' hd 9 (by kernel_rfl)) (by kernel_rfl)
                have e81 := H.is 17 81 rfl rfl rfl (deps_of' hd 17 (by kernel_rfl)) (by kernel_rfl)
                go_simp
                exact hK _ _ (Below.refl _ _) rfl (H.glob)
              case he =>
                intro vs W hlen hv
                match vs, hlen, hv with
                | [x0_, x1_, x2_, x3_, x4_, x5_, x6_, x7_, x8_, x9_, x10_, x11_, x12_, x13_, x14_, x15_, x16_, x17_, x18_], _, hv =>
                obtain rfl : (.pointer (some ⟨r2, 0, none⟩)) = x0_ := by obtain ⟨z, h1, h2⟩ := hv 0 _ rfl; cases h1; exact h2.symm
                obtain rfl : (.pointer (some ⟨r1, 0, none⟩)) = x1_ := by obtain ⟨z, h1, h2⟩ := hv 1 _ rfl; cases h1; exact h2.symm
                obtain rfl : (.pointer (some ⟨r1, 0, none⟩)) = x2_ := by obtain ⟨z, h1, h2⟩ := hv 2 _ rfl; cases h1; exact h2.symm
                obtain rfl : (.pointer (some ⟨r1, 0, none⟩)) = x3_ := by obtain ⟨z, h1, h2⟩ := hv 3 _ rfl; cases h1; exact h2.symm
                obtain rfl : (.slice (some ⟨g1, 0, none⟩) l1.length cl1) = x4_ := by obtain ⟨z, h1, h2⟩ := hv 4 _ rfl; cases h1; exact h2.symm
                obtain rfl : (.int .i64 i) = x5_ := by obtain ⟨z, h1, h2⟩ := hv 5 _ rfl; cases h1; exact h2.symm
                obtain rfl : (.pointer (some ⟨g1, i * 2, none⟩)) = x6_ := by obtain ⟨z, h1, h2⟩ := hv 6 _ rfl; cases h1; exact h2.symm
                obtain rfl : (.pointer (some ⟨g1, i * 2, none⟩)) = x7_ := by obtain ⟨z, h1, h2⟩ := hv 7 _ rfl; cases h1; exact h2.symm
                obtain rfl : (.int .u64 id) = x8_ := by obtain ⟨z, h1, h2⟩ := hv 8 _ rfl; cases h1; exact h2.symm
                obtain rfl : (.int .i64 who) = x9_ := by obtain ⟨z, h1, h2⟩ := hv 9 _ rfl; cases h1; exact h2.symm
                obtain rfl : (.pointer (some ⟨r1, 0, none⟩)) = x10_ := by obtain ⟨z, h1, h2⟩ := hv 10 _ rfl; cases h1; exact h2.symm
                obtain rfl : (.pointer (some ⟨r1, 0, none⟩)) = x11_ := by obtain ⟨z, h1, h2⟩ := hv 11 _ rfl; cases h1; exact h2.symm
                obtain rfl : (.pointer (some ⟨r1, 0, none⟩)) = x12_ := by obtain ⟨z, h1, h2⟩ := hv 12 _ rfl; cases h1; exact h2.symm
                obtain rfl : (.slice (some ⟨g1, 0, none⟩) l1.length cl1) = x13_ := by obtain ⟨z, h1, h2⟩ := hv 13 _ rfl; cases h1; exact h2.symm
                obtain rfl : (.int .i64 i) = x14_ := by obtain ⟨z, h1, h2⟩ := hv 14 _ rfl; cases h1; exact h2.symm
                obtain rfl : (.pointer (some ⟨g1, i * 2, none⟩)) = x15_ := by obtain ⟨z, h1, h2⟩ := hv 15 _ rfl; cases h1; exact h2.symm
                obtain rfl : (.pointer (some ⟨g1, i * 2 + 1, none⟩)) = x16_ := by obtain ⟨z, h1, h2⟩ := hv 16 _ rfl; cases h1; exact h2.symm
                obtain rfl : (.int .i64 cc) = x17_ := by obtain ⟨z, h1, h2⟩ := hv 17 _ rfl; cases h1; exact h2.symm
                obtain rfl : (.bool nb) = x18_ := by obtain ⟨z, h1, h2⟩ := hv 18 _ rfl; cases h1; exact h2.symm
                intro L hall hG
                clear hv hlen
                have HB1 := Lib.hid (hG : Below wb.heap.size wb W)
                clear hG hall
                simp only [fill, if_true]
                go_simp
              --END
                have HB2 := Lib.hid (hB.out.trans (HB1.out.mono hB.out.size))
                cases nb with
                | true =>
                  have HF := Lib.hid (show false = R by
                    rw [← HRr.out]; unfold sameB
                    rw [subL_false (n := n) (h := h1) HLT.out (bne_iff_ne.1 HNb2.out), Bool.and_false, Bool.false_and])
                  go_wp2_with (fail)
                  go_ret
                  exact ⟨by rw [← HF.out]; rfl, HB2.out⟩
                | false =>
                  have HL2 := Lib.hid (show ∀ j, j < i + 1 → hldI l2 (hI l1 j) = hC l1 j from fun j hj => by
                    by_cases e : j = i
                    · rw [e]; have := HNb2.out; simpa using this
                    · exact hL.out j (by omega))
                  go_wp2_with (fail)
                  go_roundw
                  case rel => exact ⟨i + 1, HLT.out, by go_num, HL2, HB2⟩
                  case measure => simp [intOf]; have := HLT.out; omega
            · have b3 : ¬ (i : Int) < (l1.length : Int) := by omega
              have HF := Lib.hid (show true = R by
                rw [← HRr.out]; unfold sameB
                rw [HEq.out, subL_true HA1.out (fun j hj => hL.out j (by omega)), decide_eq_true HLe.out]; rfl)
              go_wp2_with (fail)
              go_ret
              exact ⟨by rw [← HF.out]; rfl, hB.out⟩
end Go.Proofs.Ytajccnmeijgagaa
namespace Go.Proofs.Ytajccnmeijgagaa
open Go.RowKit Go.Maps
set_option linter.unusedVariables false

theorem hcells_one (l : List (Int × Int)) : ∀ u ∈ hcells l, u.oneCell' = true := by
  intro u hu
  unfold hcells at hu
  obtain ⟨x, _, h⟩ := List.mem_flatMap.1 hu
  rcases List.mem_cons.1 h with e | h
  · rw [e]; rfl
  · rw [List.mem_singleton.1 h]; rfl
theorem ws_one (n : Nat) (W : Nat → Int) : ∀ u ∈ ws n W, u.oneCell' = true := by
  intro u hu
  obtain ⟨i, _, rfl⟩ := List.mem_map.1 hu
  rfl
def CpL (w : World) (l : List (Int × Int)) (v : Value) (W : World) : Prop := W.ownsRow w.heap.size 76 2 v l.length (hcells l)
def CpW (w : World) (n : Nat) (W0 : Nat → Int) (v : Value) (W : World) : Prop := W.ownsRow w.heap.size 29 1 v n (ws n W0)
def CpA (w : World) (n : Nat) (l : List (Int × Int)) (W0 : Nat → Int) (v : Value) (W : World) : Prop := ∃ x y, v = .agg #[x, y] ∧ CpL w l x W ∧ CpW w n W0 y W
def CpR (w : World) (n : Nat) (l : List (Int × Int)) (W0 : Nat → Int) (v : Value) (W : World) : Prop := ∃ r' x y, v = .pointer (some ⟨r', 0, none⟩) ∧ RT W r' n l W0 x y ∧ ∀ i, RS r' x y i → w.heap.size ≤ i
section
variable {w W W' : World} {n : Nat} {l : List (Int × Int)} {W0 : Nat → Int} {v x y : Value}
theorem CpA.below (h : CpA w n l W0 v W) (hB : Below W.heap.size W W') : CpA w n l W0 v W' := by
  obtain ⟨x, y, e, a, b⟩ := h
  exact ⟨x, y, e, own_below' a hB, own_below' b hB⟩
theorem CpR.below (h : CpR w n l W0 v W) (hB : Below W.heap.size W W') : CpR w n l W0 v W' := by
  obtain ⟨r', x, y, e, a, b⟩ := h
  exact ⟨r', x, y, e, a.keptN (Keeps.of_below' hB), b⟩
theorem CpR.box (hs : w.heap.size ≤ W.heap.size) (a : CpL w l x W) (b : CpW w n W0 y W) : CpR w n l W0 (.pointer (some ⟨W.heap.size, 0, none⟩)) (W.alloc (.cells #[x, y] 47)) := by
  refine ⟨W.heap.size, x, y, rfl, ⟨Blk.new W _ _, own_mono (World.ownsRow.alloc a _) (Nat.zero_le _), own_mono (World.ownsRow.alloc b _) (Nat.zero_le _)⟩, ?_⟩
  rintro i (e | e | e)
  · rw [e]; exact hs
  · exact own_base a i e
  · exact own_base b i e
end
set_option maxRecDepth 100000 in
set_option maxHeartbeats 1000000 in
theorem rcopy_v (w : World) (r n : Nat) (l : List (Int × Int)) (W0 : Nat → Int) (vL vW : Value) (t : RT w r n l W0 vL vW) (hn : n ≤ 64) (hl : l.length ≤ 1000) :
    Calls Try.prog 18 #[.pointer (some ⟨r, 0, none⟩)] w fun e w' => ∃ r' x y, e = .returned (.pointer (some ⟨r', 0, none⟩)) ∧ RT w' r' n l W0 x y ∧ (∀ i, RS r' x y i → w.heap.size ≤ i) ∧ Below w.heap.size w w' := by
  obtain ⟨i0, hi, hz0, hz1, hz2⟩ := info_parts Try.infoA
  obtain ⟨i1, ki, kz0, kz1, kz2⟩ := infoHas
  obtain ⟨al, cl, rfl⟩ := own_form t.own
  obtain ⟨aw, cw, rfl⟩ := own_form t.wts
  have HR := Lib.hid t
  clear t
  go_enter Try.func18, Try.ntmps18
  go_upto_region 1 with (fail)
  --GEN r_rc1
  refine wp_region_vals [Is (.pointer (some ⟨r, 0, none⟩)), Is (.pointer (some ⟨r, 0, none⟩)), Is (.pointer (some ⟨r, 0, none⟩)), Is (.slice al l.length cl), CpL w l, Is (.pointer (some ⟨r, 0, none⟩)), Is (.pointer (some ⟨r, 0, none⟩)), Is (.pointer (some ⟨r, 1, none⟩)), Is (.slice aw n cw), CpW w n W0, CpA w n l W0, CpR w n l W0, CpR w n l W0]
    (fun _ W W' => Below W.heap.size W W') (fun _ W => Below w.heap.size w W) (by kernel_rfl) (by kernel_rfl) (by kernel_rfl) ?hst ?h0 ⟨?o0, ?o1, ?o2, ?o3, ?o4, ?o5, ?o6, ?o7, ?o8, ?o9, ?o10, ?o11, ?o12, trivial⟩ ?he
  case hst =>
    exact ⟨(fun _ _ _ _ _ _ h _ => h), (fun _ _ _ _ _ _ h _ => h), (fun _ _ _ _ _ _ h _ => h), (fun _ _ _ _ _ _ h _ => h), (fun _ _ _ _ _ _ h hR => own_below' h hR), (fun _ _ _ _ _ _ h _ => h), (fun _ _ _ _ _ _ h _ => h), (fun _ _ _ _ _ _ h _ => h), (fun _ _ _ _ _ _ h _ => h), (fun _ _ _ _ _ _ h hR => own_below' h hR), (fun _ _ _ _ _ _ h hR => CpA.below h hR), (fun _ _ _ _ _ _ h hR => CpR.below h hR), (fun _ _ _ _ _ _ h hR => CpR.below h hR), trivial⟩
  case h0 =>
    exact (Below.refl _ _).drew
  case o0 =>
    intro L vs A W H hf hd K hK
    have e0 : A.tmps[0]?.getD undef = .pointer (some ⟨r, 0, none⟩) := H.old 0 (by kernel_rfl)
    go_simp
    exact hK _ _ (Below.refl _ _) rfl (H.glob)
  case o1 =>
    intro L vs A W H hf hd K hK
    have e3 := H.is 0 3 rfl rfl rfl (deps_of' hd 0 (by kernel_rfl)) (by kernel_rfl)
    go_simp
    exact hK _ _ (Below.refl _ _) rfl (H.glob)
  case o2 =>
    intro L vs A W H hf hd K hK
    have e4 := H.is 1 4 rfl rfl rfl (deps_of' hd 1 (by kernel_rfl)) (by kernel_rfl)
    go_simp
    exact hK _ _ (Below.refl _ _) rfl (H.glob)
  case o3 =>
    intro L vs A W H hf hd K hK
    have e5 := H.is 2 5 rfl rfl rfl (deps_of' hd 2 (by kernel_rfl)) (by kernel_rfl)
    have d := (H.glob.cell (p := ⟨r, 0, none⟩) HR.out.blk.lt).trans HR.out.c0
    go_simp
    exact hK _ _ (Below.refl _ _) rfl (H.glob)
  case o4 =>
    intro L vs A W H hf hd K hK
    have e6 := H.is 3 6 rfl rfl rfl (deps_of' hd 3 (by kernel_rfl)) (by kernel_rfl)
    refine step_append_any (w := W) rfl (.const (.slice none 0 0)) (.tmp 6) 45 rfl w.heap.size 76 i1 _ 2 16 Try.underlying45 ki kz0 kz1 kz2 rfl (by omega) (.slice none 0 0) 0 [] rfl (World.ownsRow_nil _ _ _ _) w.heap.size al l.length cl _ (ev_tmp e6) ((Reads.of_own HR.out.own).below H.glob) (hcells_one l) (by unfold maxLen; omega) (by omega) H.glob.size ?_
    intro v' w' hown' hg' _
    have hb1 : Below W.heap.size W w' := (Below.refl _ _).grown hg' (Nat.le_refl _) (fun _ e => by cases e)
    exact hK _ _ hb1 (by simpa [CpL] using hown') (H.glob.trans (hb1.mono H.glob.size))
  case o5 =>
    intro L vs A W H hf hd K hK
    have e0 : A.tmps[0]?.getD undef = .pointer (some ⟨r, 0, none⟩) := H.old 0 (by kernel_rfl)
    go_simp
    exact hK _ _ (Below.refl _ _) rfl (H.glob)
  case o6 =>
    intro L vs A W H hf hd K hK
    have e8 := H.is 5 8 rfl rfl rfl (deps_of' hd 5 (by kernel_rfl)) (by kernel_rfl)
    go_simp
    exact hK _ _ (Below.refl _ _) rfl (H.glob)
  case o7 =>
    intro L vs A W H hf hd K hK
    have e9 := H.is 6 9 rfl rfl rfl (deps_of' hd 6 (by kernel_rfl)) (by kernel_rfl)
    go_simp
    exact hK _ _ (Below.refl _ _) rfl (H.glob)
  case o8 =>
    intro L vs A W H hf hd K hK
    have e10 := H.is 7 10 rfl rfl rfl (deps_of' hd 7 (by kernel_rfl)) (by kernel_rfl)
    have d := (H.glob.cell (p := ⟨r, 1, none⟩) HR.out.blk.lt).trans HR.out.c1
    go_simp
    exact hK _ _ (Below.refl _ _) rfl (H.glob)
  case o9 =>
    intro L vs A W H hf hd K hK
    have e11 := H.is 8 11 rfl rfl rfl (deps_of' hd 8 (by kernel_rfl)) (by kernel_rfl)
    refine step_append_any (w := W) rfl (.const (.slice none 0 0)) (.tmp 11) 37 rfl w.heap.size 29 i0 _ 1 8 Try.underlying37 hi hz0 hz1 hz2 rfl (by omega) (.slice none 0 0) 0 [] rfl (World.ownsRow_nil _ _ _ _) w.heap.size aw n cw _ (ev_tmp e11) ((Reads.of_own HR.out.wts).below H.glob) (ws_one n W0) (by unfold maxLen; omega) (by omega) H.glob.size ?_
    intro v' w' hown' hg' _
    have hb1 : Below W.heap.size W w' := (Below.refl _ _).grown hg' (Nat.le_refl _) (fun _ e => by cases e)
    exact hK _ _ hb1 (by simpa [CpW] using hown') (H.glob.trans (hb1.mono H.glob.size))
  case o10 =>
    intro L vs A W H hf hd K hK
    obtain ⟨v7, e7, q7⟩ := H.val 4 7 rfl rfl rfl (deps_of' hd 4 (by kernel_rfl)) (by kernel_rfl)
    obtain ⟨v12, e12, q12⟩ := H.val 9 12 rfl rfl rfl (deps_of' hd 9 (by kernel_rfl)) (by kernel_rfl)
    obtain ⟨a7, c7, rfl⟩ := own_form (show W.ownsRow w.heap.size 76 2 v7 l.length (hcells l) from q7)
    obtain ⟨a12, c12, rfl⟩ := own_form (show W.ownsRow w.heap.size 29 1 v12 n (ws n W0) from q12)
    go_simp
    exact hK _ _ (Below.refl _ _) ⟨_, _, rfl, q7, q12⟩ H.glob
  case o11 =>
    intro L vs A W H hf hd K hK
    obtain ⟨v13, e13, q13⟩ := H.val 10 13 rfl rfl rfl (deps_of' hd 10 (by kernel_rfl)) (by kernel_rfl)
    obtain ⟨x7, x12, rfl, o7, o12⟩ := q13
    go_simp
    exact hK _ _ ((Below.refl _ _).alloc (Nat.le_refl _) _) (CpR.box H.glob.size o7 o12) (H.glob.alloc H.glob.size _)
  case o12 =>
    intro L vs A W H hf hd K hK
    obtain ⟨v14, e14, q14⟩ := H.val 11 14 rfl rfl rfl (deps_of' hd 11 (by kernel_rfl)) (by kernel_rfl)
    obtain ⟨r', x7, x12, rfl, o7, o12⟩ := q14
    go_simp
    exact hK _ _ (Below.refl _ _) ⟨r', x7, x12, rfl, o7, o12⟩ H.glob
  case he =>
    intro vs W hlen hv
    match vs, hlen, hv with
    | [x0_, x1_, x2_, x3_, x4_, x5_, x6_, x7_, x8_, x9_, x10_, x11_, x12_], _, hv =>
    obtain rfl : (.pointer (some ⟨r, 0, none⟩)) = x0_ := by obtain ⟨z, h1, h2⟩ := hv 0 _ rfl; cases h1; exact h2.symm
    obtain rfl : (.pointer (some ⟨r, 0, none⟩)) = x1_ := by obtain ⟨z, h1, h2⟩ := hv 1 _ rfl; cases h1; exact h2.symm
    obtain rfl : (.pointer (some ⟨r, 0, none⟩)) = x2_ := by obtain ⟨z, h1, h2⟩ := hv 2 _ rfl; cases h1; exact h2.symm
    obtain rfl : (.slice al l.length cl) = x3_ := by obtain ⟨z, h1, h2⟩ := hv 3 _ rfl; cases h1; exact h2.symm
    have hx4 : (CpL w l) x4_ W := by obtain ⟨z, h1, h2⟩ := hv 4 _ rfl; cases h1; exact h2
    obtain rfl : (.pointer (some ⟨r, 0, none⟩)) = x5_ := by obtain ⟨z, h1, h2⟩ := hv 5 _ rfl; cases h1; exact h2.symm
    obtain rfl : (.pointer (some ⟨r, 0, none⟩)) = x6_ := by obtain ⟨z, h1, h2⟩ := hv 6 _ rfl; cases h1; exact h2.symm
    obtain rfl : (.pointer (some ⟨r, 1, none⟩)) = x7_ := by obtain ⟨z, h1, h2⟩ := hv 7 _ rfl; cases h1; exact h2.symm
    obtain rfl : (.slice aw n cw) = x8_ := by obtain ⟨z, h1, h2⟩ := hv 8 _ rfl; cases h1; exact h2.symm
    have hx9 : (CpW w n W0) x9_ W := by obtain ⟨z, h1, h2⟩ := hv 9 _ rfl; cases h1; exact h2
    have hx10 : (CpA w n l W0) x10_ W := by obtain ⟨z, h1, h2⟩ := hv 10 _ rfl; cases h1; exact h2
    have hx11 : (CpR w n l W0) x11_ W := by obtain ⟨z, h1, h2⟩ := hv 11 _ rfl; cases h1; exact h2
    have hx12 : (CpR w n l W0) x12_ W := by obtain ⟨z, h1, h2⟩ := hv 12 _ rfl; cases h1; exact h2
    intro L hall hG
    clear hv hlen
    obtain ⟨r', x7, x12, rfl, o7, o12⟩ := hx12
    have HRT := Lib.hid o7
    have HRb := Lib.hid o12
    have HB1 := Lib.hid (hG : Below w.heap.size w W)
    clear hG hall hx11 hx10 hx9 hx4
    simp only [fill, if_true]
    go_simp
  --END
    go_wp2_with (fail)
    go_ret
    exact ⟨r', x7, x12, rfl, HRT.out, HRb.out, HB1.out⟩
end Go.Proofs.Ytajccnmeijgagaa
