/-
  snap: word, after, anew, counts, reads, bound: contracts.
-/
import Derived.Test.YtgmbnoimlffgcaaSna
namespace Go.Proofs.Ytgmbnoimlffgcaa
open Go.RowKit
attribute [local go_sem] Oper.semAt_some
set_option linter.unusedVariables false

/-! ### plain: what a load answers -/
theorem u64_rng (x : Int) : 0 ≤ IntKind.u64.wrap x ∧ IntKind.u64.wrap x ≤ 18446744073709551615 := by
  simp [IntKind.wrap, IntKind.bits, IntKind.signed]; omega
def ldW (vw : List Int) (a : Int) : Int := if atE vw.length a = 0 then vw.getD (a / 8).toNat 0 else 0
theorem ldW_u64 {vw : List Int} (h : U64s vw) (a : Int) : 0 ≤ ldW vw a ∧ ldW vw a ≤ 18446744073709551615 := by
  unfold ldW
  split
  · by_cases hk : (a / 8).toNat < vw.length
    · rw [List.getD_eq_getElem?_getD, List.getElem?_eq_getElem hk]; exact h _ (List.getElem_mem hk)
    · rw [List.getD_eq_getElem?_getD, List.getElem?_eq_none (by omega)]; decide
  · decide
def ldN (n : Nat) (a : Int) (lo : Int) : Int := if atE n a = 0 then IntKind.u64.wrap (lo + 1) else lo
def wrdA (a k : Int) : Int := IntKind.u64.wrap (a + 8 * k)
section
variable {w w' : World} {mb : Nat} {S : Nat → Prop} {vs is : List Int} {mk : Int → Nat → Int} {F : Int → List (Int × Int)} {lo st fl fe : Int}
theorem load_w (h : MemP w mb S vs is mk F lo st fl fe) (a : Int) (h0 : 0 ≤ a) (h1 : a ≤ 18446744073709551615) :
    Calls Try.prog 14 #[.pointer (some ⟨mb, 0, none⟩), .int .u64 a] w fun e w' => e = .returned (.tuple #[.int .u64 (ldW vs a), .int .i64 (atE vs.length a)]) ∧ MemP w' mb S vs is mk F (ldN vs.length a lo) st fl fe ∧ Keeps S w w' := by
  unfold ldW ldN
  rcases atE_or vs.length a with e | e
  · rw [e, if_pos rfl, if_pos rfl]
    exact load_m h a h0 h1 e
  · rw [e, if_neg (by decide), if_neg (by decide)]
    refine (load_no h a h0 h1 e).mono ?_
    rintro e w' ⟨rfl, rfl⟩
    exact ⟨rfl, h, Keeps.refl _ _⟩
end
/-- the worlds of a drawn region with one load -/
structure LGp (W0 : World) (mb : Nat) (S : Nat → Prop) (vs is : List Int) (mk : Int → Nat → Int) (F : Int → List (Int × Int)) (lo st fl fe ad : Int) (j : Nat) (L : Nat → Bool) (W : World) : Prop where
  n : L j = false → MemP W mb S vs is mk F lo st fl fe
  y : L j = true → MemP W mb S vs is mk F (ldN vs.length ad lo) st fl fe
  kp : Keeps S W0 W
section
variable {W0 W W' : World} {mb : Nat} {S : Nat → Prop} {vs is : List Int} {mk : Int → Nat → Int} {F : Int → List (Int × Int)} {lo st fl fe ad : Int} {j : Nat} {L L' : Nat → Bool}
theorem LGp.start (h : MemP W0 mb S vs is mk F lo st fl fe) : LGp W0 mb S vs is mk F lo st fl fe ad j (fun _ => false) W0.drew :=
  ⟨fun _ => h.below ((Below.refl _ W0).drew), (by simp), (Keeps.refl _ _).drew⟩
theorem LGp.keep (h : LGp W0 mb S vs is mk F lo st fl fe ad j L W) (e : L' j = L j) : LGp W0 mb S vs is mk F lo st fl fe ad j L' W := ⟨by rw [e]; exact h.n, by rw [e]; exact h.y, h.kp⟩
theorem LGp.load (h : LGp W0 mb S vs is mk F lo st fl fe ad j L W) (hm : MemP W' mb S vs is mk F (ldN vs.length ad lo) st fl fe) (hk : Keeps S W W') : LGp W0 mb S vs is mk F lo st fl fe ad j (lset L j) W' :=
  ⟨(fun e => by simp [lset] at e), fun _ => hm, h.kp.trans hk⟩
end

/-! ### word, after -/
theorem word_v (a : Int) (k : Nat) (hk : k < 24) (w : World) : Calls Try.prog 43 #[.int .u64 a, .int .i64 (k : Int)] w fun e w' => e = .returned (.int .u64 (wrdA a k)) ∧ w = w' := by
  unfold wrdA
  have h1 : IntKind.i64.wrap (8 * (k : Int)) = 8 * (k : Int) := IntWalk.i64_in _ (by omega)
  have h2 : IntKind.u64.wrap (8 * (k : Int)) = 8 * (k : Int) := IntWalk.u64_in _ (by omega)
  go_enter Try.func43, Try.ntmps43
  go_wp2_with (fail)
  go_ret
  exact ⟨rfl, rfl⟩
def aftP (k : Nat) (x : Int) : Int := if k = 2 then 4 else if k = 4 then 8 else if k < 2 then (k : Int) + 1 else if k % 2 = 1 ∧ (x = 0 ∨ k = 23) then -1 else (k : Int) + 1
theorem after_v (k : Nat) (x : Int) (hk : k < 24) (w : World) : Calls Try.prog 86 #[.int .i64 (k : Int), .int .u64 x] w fun e w' => e = .returned (.int .i64 (aftP k x)) ∧ w = w' := by
  have hm : (k : Int).tmod 2 = ((k % 2 : Nat) : Int) := by rw [Int.tmod_eq_emod_of_nonneg (by omega)]; omega
  have h1 : IntKind.i64.wrap ((k : Int) + 1) = (k : Int) + 1 := IntWalk.i64_in _ (by omega)
  have b1 : ((k : Int) == 2) = decide (k = 2) := by rw [Bool.eq_iff_iff]; simp; omega
  have b2 : ((k : Int) == 4) = decide (k = 4) := by rw [Bool.eq_iff_iff]; simp; omega
  have b3 : decide ((k : Int) < 2) = decide (k < 2) := by rw [Bool.eq_iff_iff]; simp; omega
  have b4 : (((k % 2 : Nat) : Int) == 1) = decide (k % 2 = 1) := by rw [Bool.eq_iff_iff]; simp; omega
  have b5 : ((k : Int) == 23) = decide (k = 23) := by rw [Bool.eq_iff_iff]; simp; omega
  have HA : aftP k x = aftP k x := rfl
  unfold aftP at HA ⊢
  by_cases c1 : k = 2
  · subst c1
    go_enter Try.func86, Try.ntmps86
    go_wp2_with (fail)
    go_ret
    exact ⟨rfl, rfl⟩
  by_cases c2 : k = 4
  · subst c2
    go_enter Try.func86, Try.ntmps86
    go_wp2_with (fail)
    go_ret
    exact ⟨rfl, rfl⟩
  rw [decide_eq_false c1] at b1
  rw [decide_eq_false c2] at b2
  rw [if_neg c1, if_neg c2]
  by_cases c3 : k < 2
  · rw [decide_eq_true c3] at b3
    rw [if_pos c3]
    clear HA
    go_enter Try.func86, Try.ntmps86
    go_wp2_with (fail)
    go_ret
    exact ⟨rfl, rfl⟩
  rw [decide_eq_false c3] at b3
  rw [if_neg c3]
  by_cases c4 : k % 2 = 1
  · rw [decide_eq_true c4] at b4
    by_cases c5 : x = 0
    · subst c5
      rw [if_pos ⟨c4, .inl rfl⟩]
      clear HA
      go_enter Try.func86, Try.ntmps86
      go_wp2_with (fail)
      go_ret
      exact ⟨rfl, rfl⟩
    · have b6 : (x == 0) = false := beq_eq_false_iff_ne.2 c5
      by_cases c6 : k = 23
      · rw [decide_eq_true c6] at b5
        rw [if_pos ⟨c4, .inr c6⟩]
        clear HA
        go_enter Try.func86, Try.ntmps86
        go_wp2_with (fail)
        go_ret
        exact ⟨rfl, rfl⟩
      · rw [decide_eq_false c6] at b5
        rw [if_neg (fun h => by rcases h.2 with h | h; exact c5 h; exact c6 h)]
        clear HA
        go_enter Try.func86, Try.ntmps86
        go_wp2_with (fail)
        go_ret
        exact ⟨rfl, rfl⟩
  · rw [decide_eq_false c4] at b4
    rw [if_neg (fun h => c4 h.1)]
    clear HA
    go_enter Try.func86, Try.ntmps86
    go_wp2_with (fail)
    go_ret
    exact ⟨rfl, rfl⟩

/-! ### the machine -/
def phV (sb f : Nat) : Value := .func (.func f) #[.pointer (some ⟨sb, 0, none⟩)] #[]
def snAnew (sb : Nat) (s : Sn) : Sn := { s with a := fun _ => 0, b := fun _ => 0, has := false, high := 0, k := 0, last := false, step := phV sb 53 }
theorem zero_wd (w : World) : (Try.prog.built 45 []) = some (wdCells (fun _ => 0)) := by kernel_rfl
set_option maxRecDepth 100000 in
theorem anew_v (s : Sn) (sb : Nat) (w : World) (hb : Blk w sb (snCells s) 62) :
    Calls Try.prog 35 #[.pointer (some ⟨sb, 0, none⟩)] w fun e w' => e = .returned (.tuple #[]) ∧ Blk w' sb (snCells (snAnew sb s)) 62 ∧ Keeps (fun i => i = sb) w w' := by
  have hb1 := hb.mid (wdList (fun _ => 0)) 4
  rw [sn_putA] at hb1
  have hb2 := hb1.mid (wdList (fun _ => 0)) 28
  rw [sn_putB] at hb2
  have k2 : Keeps (fun i => i = sb) w ((w.setCells sb 4 (wdList (fun _ => 0))).setCells sb 28 (wdList (fun _ => 0))) := keeps_setCells (S := fun i => i = sb) (.inl rfl) _ _ (keeps_setCells (S := fun i => i = sb) (.inl rfl) _ _ (Keeps.refl _ w))
  obtain ⟨s1, hs1⟩ : ∃ s1 : Sn, { s with a := fun _ => 0 } = s1 := ⟨_, rfl⟩
  obtain ⟨s2, hs2⟩ : ∃ s2 : Sn, { s1 with b := fun _ => 0 } = s2 := ⟨_, rfl⟩
  have HE := Lib.hid (show snAnew sb s = { s2 with has := false, high := 0, k := 0, last := false, step := phV sb 53 } by rw [← hs2, ← hs1]; rfl)
  rw [hs1] at hb1 hb2
  rw [hs2] at hb2
  have HB := Lib.hid hb
  have HB1 := Lib.hid hb1
  have HB2 := Lib.hid hb2
  have HK2 := Lib.hid k2
  obtain ⟨W2, hW2⟩ : ∃ W2, (w.setCells sb 4 (wdList (fun _ => 0))).setCells sb 28 (wdList (fun _ => 0)) = W2 := ⟨_, rfl⟩
  have HW2 := Lib.hid hW2
  rw [hW2] at HB2 HK2
  have d53 := (HB2.out.cell 53).trans (sn_53 s2)
  have d52 := (HB2.out.cell 52).trans (sn_52 s2)
  have d2 := (HB2.out.cell 2).trans (sn_2 s2)
  have d3 := (HB2.out.cell 3).trans (sn_3 s2)
  have d54 := (HB2.out.cell 54).trans (sn_54 s2)
  have f53 := HB2.out.frozen 53
  have f52 := HB2.out.frozen 52
  have f2 := HB2.out.frozen 2
  have f3 := HB2.out.frozen 3
  have f54 := HB2.out.frozen 54
  clear hb hb1 hb2 k2 hW2 hs1 hs2
  go_enter Try.func35, Try.ntmps35
  go_upto_region 1 with (first
    | ((with_reducible refine wpList_store_wdm (o := ⟨none, .store 45 (.tmp 9) (.tmp 6), _, _, _, _⟩) ?hg (.tmp 9) (.tmp 6) ?ho sb 4 (fun _ => 0) ?cs (snCells s) 62 ?hx ?hy ?hm ?hb ?hs ?_); (case hg => rfl); (case ho => rfl); (case hx => rfl); (case hy => rfl); (case hm => rfl); (case hb => exact HB.out); (case hs => rw [snCells_size]; decide))
    | ((with_reducible refine wpList_store_wdm (o := ⟨none, .store 45 (.tmp 11) (.tmp 7), _, _, _, _⟩) ?hg2 (.tmp 11) (.tmp 7) ?ho2 sb 28 (fun _ => 0) ?cs2 (snCells s1) 62 ?hx2 ?hy2 ?hm2 ?hb2 ?hs2 ?_); (case hg2 => rfl); (case ho2 => rfl); (case hx2 => rfl); (case hy2 => rfl); (case hm2 => rfl); (case hb2 => exact HB1.out); (case hs2 => rw [snCells_size]; decide); rw [HW2.out]; simp [Act.put]))
  generalize Value.agg #[Value.int IntKind.u64 0, Value.int IntKind.u64 0, Value.int IntKind.u64 0, Value.int IntKind.u64 0, Value.int IntKind.u64 0, Value.int IntKind.u64 0, Value.int IntKind.u64 0, Value.int IntKind.u64 0, Value.int IntKind.u64 0, Value.int IntKind.u64 0, Value.int IntKind.u64 0, Value.int IntKind.u64 0, Value.int IntKind.u64 0, Value.int IntKind.u64 0, Value.int IntKind.u64 0, Value.int IntKind.u64 0, Value.int IntKind.u64 0, Value.int IntKind.u64 0, Value.int IntKind.u64 0, Value.int IntKind.u64 0, Value.int IntKind.u64 0, Value.int IntKind.u64 0, Value.int IntKind.u64 0, Value.int IntKind.u64 0] = zz
  go_upto_region 2 with (fail)
  have b4 := (((HB2.out.set 53 (.bool false)).set 52 (.int .u64 0)).set 2 (.int .i64 0)).set 3 (.bool false)
  have k4 := (((HK2.out.setCell (p := ⟨sb, 53, none⟩) (.inl rfl) (.bool false)).setCell (p := ⟨sb, 52, none⟩) (.inl rfl) (.int .u64 0)).setCell (p := ⟨sb, 2, none⟩) (.inl rfl) (.int .i64 0)).setCell (p := ⟨sb, 3, none⟩) (.inl rfl) (.bool false)
  rw [sn_set53, sn_set52, sn_set2, sn_set3] at b4
  have HB4 := Lib.hid b4
  have HK4 := Lib.hid k4
  generalize (((W2.setCell ⟨sb, 53, none⟩ (.bool false)).setCell ⟨sb, 52, none⟩ (.int .u64 0)).setCell ⟨sb, 2, none⟩ (.int .i64 0)).setCell ⟨sb, 3, none⟩ (.bool false) = W4 at *
  clear b4 k4 d53 d52 d2 d3 d54 f53 f52 f2 f3 f54
  go_wp2_with ((with_reducible refine wpList_store_cellB (o := ⟨none, .store 36 (.tmp 26) (.tmp 24), _, _, _, _⟩) ?hg 36 (.tmp 26) (.tmp 24) ?ho sb 54 (phV sb 53) ?CC 62 ?hx ?hy ?h1 ?hb ?hs ?hi ?_); (case hg => rfl); (case ho => rfl); (case hx => rfl); (case hy => rfl); (case h1 => rfl); (case hb => exact HB4.out); (case hs => rw [snCells_size]; decide); (case hi => exact infoFn))


  go_end0
  have b5 := HB4.out.set 54 (phV sb 53)
  rw [sn_set54] at b5
  rw [HE.out]
  exact ⟨rfl, b5, HK4.out.setCell (p := ⟨sb, 54, none⟩) (.inl rfl) _⟩
end Go.Proofs.Ytgmbnoimlffgcaa
