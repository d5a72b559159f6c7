/-
  THE DOCUMENT's LOCKS: New, Try.
-/
import Derived.Test.YtajccnmeijgagaaRf
import Derived.Test.YtajccnmeijgagaaHe
import Derived.Maps.AppendAt
import Derived.OneCell
namespace Go.Proofs.Ytajccnmeijgagaa
open Go.RowKit Go.Maps
set_option linter.unusedVariables false

theorem ws_zero (n : Nat) : (madeCells (Value.int .u64 0).cells n).toList = ws n (fun _ => 0) := by
  rw [show (Value.int .u64 0).cells = #[Value.int .u64 0] from rfl, toList_madeCells_one]
  unfold ws
  rw [List.map_const', List.length_range]
set_option maxRecDepth 100000 in
theorem rnew_yes (n : Nat) (h1 : 1 ≤ n) (h2 : n ≤ 64) (w : World) :
    Calls Try.prog 14 #[.int .i64 n] w fun e w' => e = .returned (.tuple #[.pointer (some ⟨w.heap.size + 1, 0, none⟩), .int .i64 0]) ∧ RT w' (w.heap.size + 1) n [] (fun _ => 0) (.slice none 0 0) (.slice (some ⟨w.heap.size, 0, none⟩) n n) ∧ Keeps NoB w w' := by
  obtain ⟨i0, hi, hz0, hz1, hz2⟩ := info_parts Try.infoA
  obtain ⟨M, hM⟩ : ∃ M, M = madeCells (Value.int .u64 0).cells (((n : Nat) : Int).toNat * i0.size) := ⟨_, rfl⟩
  have hMl : M.toList = ws n (fun _ => 0) := by rw [hM, hz1, Nat.mul_one, Int.toNat_natCast, ws_zero]
  have hmk : ∀ W : World, (Instr.makeSlice 37 (.int .i64 (n : Int)) (.int .i64 (n : Int))).run Try.prog W = .ok (.slice (some ⟨W.heap.size, 0, none⟩) n n) (W.alloc (.cells M 29)) := fun W => by
    have h := run_make (P := Try.prog) W 37 29 i0 (.int .u64 0) Try.underlying37 hi hz0 .i64 .i64 (n : Int) (n : Int) (by omega) (by omega) (by rw [hz2]; omega) (by omega)
    rw [← hM] at h
    simpa using h
  have hRT : RT ((w.alloc (.cells M 29)).alloc (.cells #[.slice none 0 0, .slice (some ⟨w.heap.size, 0, none⟩) n n] 47)) (w.heap.size + 1) n [] (fun _ => 0) (.slice none 0 0) (.slice (some ⟨w.heap.size, 0, none⟩) n n) := by
    refine ⟨?_, World.ownsRow_nil _ _ _ _, ?_⟩
    · have := Blk.new (w.alloc (.cells M 29)) #[.slice none 0 0, .slice (some ⟨w.heap.size, 0, none⟩) n n] 47
      simpa using this
    · have h := World.ownsRow_lit (base := 0) (e := 29) (size := 1) w M n (Nat.zero_le _) (by unfold maxLen; omega) (by rw [← Array.length_toList, hMl, ws_len]; omega)
      rw [hMl] at h
      exact h.alloc _
  have HRT := Lib.hid hRT
  have b1 : ¬ (n : Int) < 1 := by omega
  have b2 : ¬ (64 : Int) < (n : Int) := by omega
  clear hM hMl hRT hz0 hz1 hz2 hi
  go_enter Try.func14, Try.ntmps14
  go_wp2_with (fail)
  go_ret2
  exact ⟨rfl, HRT.out, ((Keeps.refl _ _).alloc _).alloc _⟩
set_option maxRecDepth 100000 in
theorem rnew_no (n : Int) (h : n < 1 ∨ 64 < n) (w : World) :
    Calls Try.prog 14 #[.int .i64 n] w fun e w' => e = .returned (.tuple #[.pointer none, .int .i64 2]) ∧ w = w' := by
  by_cases h1 : n < 1
  · go_enter Try.func14, Try.ntmps14
    go_wp2_with (fail)
    go_ret2
    exact ⟨rfl, rfl⟩
  · have h2 : 64 < n := by omega
    go_enter Try.func14, Try.ntmps14
    go_wp2_with (fail)
    go_ret2
    exact ⟨rfl, rfl⟩

section
variable {w w1 : World} {r n : Nat} {l l1 : List (Int × Int)} {W : Nat → Int} {vL v1 vW : Value}
/-- what one waits for, set -/
theorem RT.setW {g cw : Nat} (t : RT w r n l W vL (.slice (some ⟨g, 0, none⟩) n cw)) (q : Nat) (x : Int) :
    RT (w.setCell ⟨g, q, none⟩ (.int .u64 x)) r n l (updN W q x) vL (.slice (some ⟨g, 0, none⟩) n cw) ∧ Keeps (RS r vL (.slice (some ⟨g, 0, none⟩) n cw)) w (w.setCell ⟨g, q, none⟩ (.int .u64 x)) := by
  obtain ⟨C, hC⟩ := own_type t.wts (i := g) rfl
  have n1 : r ≠ g := fun e => by have := t.blk; unfold Blk at this; rw [e, hC] at this; cases this
  have n2 : vL.ownBlock ≠ some g := fun e => by obtain ⟨D, hD⟩ := own_type t.own e; rw [hC] at hD; cases hD
  refine ⟨⟨t.blk.kept ((Keeps.refl (fun i => i = g) w).setCell (.inl rfl) _) n1, ownsRow_setCell_other t.own n2 _, ?_⟩, (Keeps.refl _ w).setCell (.inl (.inr (.inr rfl))) _⟩
  have := (t.wts.stored q (.int .u64 x)).1
  rwa [ws_set] at this
theorem RT.blkL (t : RT w r n l W vL vW) (hk : Keeps (fun i => vL.ownBlock = some i) w w1) : Blk w1 r #[vL, vW] 47 :=
  t.blk.kept hk (fun e => by obtain ⟨D, hD⟩ := own_type t.own e; have := t.blk; unfold Blk at this; rw [hD] at this; cases this)
/-- a row of owners in its place -/
theorem RT.put (t : RT w r n l W vL vW) (hk : Keeps (fun i => vL.ownBlock = some i) w w1) (ho : w1.ownsRow 0 76 2 v1 l1.length (hcells l1)) :
    RT (w1.setCell ⟨r, 0, none⟩ v1) r n l1 W v1 vW ∧ Keeps (RS r vL vW) w (w1.setCell ⟨r, 0, none⟩ v1) := by
  have n1 : vL.ownBlock ≠ some r := fun e => by obtain ⟨D, hD⟩ := own_type t.own e; have := t.blk; unfold Blk at this; rw [hD] at this; cases this
  have hb1 : Blk w1 r #[vL, vW] 47 := t.blk.kept hk n1
  have hw1 : w1.ownsRow 0 29 1 vW n (ws n W) := own_keeps t.wts hk (fun i e f => by
    obtain ⟨D, hD⟩ := own_type t.own f
    obtain ⟨E, hE⟩ := own_type t.wts e
    rw [hD] at hE; cases hE)
  have n2 : v1.ownBlock ≠ some r := fun e => by obtain ⟨D, hD⟩ := own_type ho e; unfold Blk at hb1; rw [hD] at hb1; cases hb1
  have n3 : vW.ownBlock ≠ some r := fun e => by obtain ⟨D, hD⟩ := own_type hw1 e; unfold Blk at hb1; rw [hD] at hb1; cases hb1
  exact ⟨⟨hb1.set 0 v1, ownsRow_setCell_other ho n2 _, ownsRow_setCell_other hw1 n3 _⟩, (hk.mono (fun i _ h => .inr (.inl h))).setCell (.inl (.inl rfl)) _⟩
end
theorem infoHas : ∃ i, Try.prog.info? 76 = some i ∧ i.zero = some (.agg #[.int .u64 0, .int .i64 0]) ∧ i.size = 2 ∧ i.bytes = 16 := by
  have h1 : ((Try.prog.info? 76).map (·.size)) = some 2 := by kernel_rfl
  have h2 : ((Try.prog.info? 76).map (·.bytes)) = some 16 := by kernel_rfl
  have h3 : ((Try.prog.info? 76).bind (·.zero)) = some (.agg #[.int .u64 0, .int .i64 0]) := by kernel_rfl
  cases h : Try.prog.info? 76 with
  | none => rw [h] at h1; cases h1
  | some i =>
    rw [h] at h1 h2 h3
    exact ⟨i, rfl, h3, Option.some.inj h1, Option.some.inj h2⟩
theorem ev_tmp {a : Act} {s : Nat} {v : Value} (h : a.tmps[s]?.getD undef = v) : a.eval (.tmp s) = v := by simpa [Act.eval] using h
theorem wpList_append_has {ops : Array Oper} {rest : List Oper} {o : Oper} {a : Act} {w : World} {Q : Exit → Act → World → Prop} (hgd : o.guard = none) (s x : Operand)
    (ho : o.op = .call { callee := .builtin .append, args := #[s, x], argTypes := #[45, 45] }) (B : Nat) (v : Value) (l : List (Int × Int)) (hs : a.eval s = v) (hown : w.ownsRow B 76 2 v l.length (hcells l))
    (H : Nat) (hx : a.eval x = .slice (some ⟨H, 0, none⟩) 1 1) (y : Int × Int) (hb : Blk w H #[.int .u64 y.1, .int .i64 y.2] 76) (ht : l.length ≤ 1000) (hB : B ≤ w.heap.size)
    (h : ∀ v' w', w'.ownsRow B 76 2 v' (l ++ [y]).length (hcells (l ++ [y])) → w.grownBy w' v.ownBlock → (v'.ownBlock = v.ownBlock ∨ v'.ownBlock = some w.heap.size) → wpList Try.prog ops Q rest (a.put o.dst v') w') : wpList Try.prog ops Q (o :: rest) a w := by
  obtain ⟨i0, hi, hz0, hz1, hz2⟩ := infoHas
  refine wpList_append_own_at w hgd s x 45 ho B 76 i0 _ 2 16 Try.underlying45 hi hz0 hz1 hz2 (by rfl) (by decide) v l.length (hcells l) hs hown ⟨H, 0, none⟩ 1 1 [.int .u64 y.1, .int .i64 y.2] hx rfl
    (World.news_of_block (cs := #[.int .u64 y.1, .int .i64 y.2]) (t := 76) (fr := (0, 0)) hb) (by simp [Value.oneCell']) (by unfold maxLen; omega) (by omega) hB (fun v' w' h1 h2 _ h4 => h v' w' ?_ h2 h4)
  rw [hcells_app, List.length_append]; exact h1

/-! ### Try -/
def rtB (n : Nat) (l : List (Int × Int)) (c id : Int) : Bool := decide (0 ≤ c ∧ c < n ∧ id ≠ 0 ∧ (hldI l id < 0 ∨ hldI l id = c))
def rtL (n : Nat) (l : List (Int × Int)) (c id : Int) : List (Int × Int) := if rtB n l c id = true ∧ hldI l id < 0 then l ++ [(id, c)] else l
def rtW (n : Nat) (l : List (Int × Int)) (W : Nat → Int) (c id : Int) : Nat → Int := if 0 ≤ c ∧ c < n ∧ id ≠ 0 then updN W c.toNat (if rtB n l c id = true then 0 else id) else W
/-- what a call that changes the table leaves -/
def RPost (w : World) (r n : Nat) (l : List (Int × Int)) (W : Nat → Int) (vL vW : Value) (w' : World) (R : Nat → Prop) : Prop :=
  ∃ vL', RT w' r n l W vL' vW ∧ Keeps R w w' ∧ ∀ i, vL'.ownBlock = some i → R i ∨ w.heap.size ≤ i
set_option maxRecDepth 100000 in
set_option maxHeartbeats 1000000 in
theorem rtry_v (w : World) (r n : Nat) (l : List (Int × Int)) (W : Nat → Int) (vL vW : Value) (t : RT w r n l W vL vW) (hl : l.length ≤ 1000) (c id : Int) :
    Calls Try.prog 29 #[.pointer (some ⟨r, 0, none⟩), .int .i64 c, .int .u64 id] w fun e w' => e = .returned (.bool (rtB n l c id)) ∧ RPost w r n (rtL n l c id) (rtW n l W c id) vL vW w' (RS r vL vW) := by
  have HIs := Lib.hid (is_v w r n l W vL vW t c)
  have HH := Lib.hid (rholder_v w r n l W vL vW t id)
  have HT := Lib.hid t
  obtain ⟨R, hR⟩ : ∃ R, rtB n l c id = R := ⟨_, rfl⟩
  have hR2 := hR
  rw [hR]
  unfold rtB at hR2
  by_cases hc : 0 ≤ c ∧ c < (n : Int)
  · have eis : isB n c = true := decide_eq_true hc
    rw [eis] at HIs
    obtain ⟨q, rfl⟩ : ∃ q : Nat, (q : Int) = c := ⟨c.toNat, by omega⟩
    have hq : q < n := by omega
    by_cases hz : id = 0
    · have e1 : R = false := by rw [← hR2]; exact decide_eq_false (fun e => e.2.2.1 hz)
      subst e1
      have eL : rtL n l q id = l := by unfold rtL; rw [if_neg (fun e => by rw [hR] at e; cases e.1)]
      have eW : rtW n l W q id = W := by unfold rtW; rw [if_neg (fun e => e.2.2 hz)]
      have HP := Lib.hid (show RPost w r n (rtL n l q id) (rtW n l W q id) vL vW w (RS r vL vW) from by
        rw [eL, eW]; exact ⟨vL, HT.out, Keeps.refl _ _, fun i h => .inl (.inr (.inl h))⟩)
      clear eL eW hR2 hR t
      subst hz
      go_enter Try.func29, Try.ntmps29
      go_wp2_with (fail)
      refine HIs.out.mono ?_
      rintro e w' ⟨rfl, rfl⟩
      go_wp2_with (fail)
      go_ret
      exact ⟨rfl, HP.out⟩
    · have hz2 : (id == 0) = false := beq_eq_false_iff_ne.2 hz
      obtain ⟨who, hwho⟩ : ∃ x, hldI l id = x := ⟨_, rfl⟩
      rw [hwho] at HH
      obtain ⟨aw, cw, rfl⟩ := own_form t.wts
      obtain ⟨gw, rfl, hgl, hm, d1, df⟩ := t.wAt hq
      have c1 := t.c1
      unfold maxLen at hm
      by_cases hno : who < 0
      · have e1 : R = true := by rw [← hR2, hwho]; exact decide_eq_true ⟨hc.1, hc.2, hz, .inl hno⟩
        subst e1
        have eL : rtL n l q id = l ++ [(id, (q : Int))] := by unfold rtL; rw [if_pos ⟨hR, by rw [hwho]; exact hno⟩]
        have eW : rtW n l W q id = updN W q 0 := by unfold rtW; rw [if_pos ⟨hc.1, hc.2, hz⟩, hR]; rfl
        obtain ⟨t1, k1⟩ := HT.out.setW q 0
        have HT1 := Lib.hid t1
        have HK1 := Lib.hid k1
        obtain ⟨w1, hw1⟩ : ∃ x, w.setCell ⟨gw, q, none⟩ (.int .u64 0) = x := ⟨_, rfl⟩
        have HW1 := Lib.hid hw1
        rw [hw1] at HT1 HK1
        have c0 := HT1.out.c0
        have HBn := Lib.hid (Blk.new w1 #[.int .u64 id, .int .i64 (q : Int)] 76)
        have HOw := Lib.hid (HT1.out.own.alloc (.cells #[.int .u64 id, .int .i64 (q : Int)] 76))
        have HEL := Lib.hid eL
        have HEW := Lib.hid eW
        have HR := Lib.hid hR
        have HLl := Lib.hid hl
        clear eL eW hR2 hR t hz hwho t1 k1 hw1
        go_enter Try.func29, Try.ntmps29
        go_wp2_with (fail)
        refine HIs.out.mono ?_
        rintro e w' ⟨rfl, rfl⟩
        go_wp2_with (fail)
        refine HH.out.mono ?_
        rintro e w' ⟨rfl, rfl⟩
        go_upto_region 8 with (fail)
        rw [HW1.out]
        go_upto_region 10 with ((with_reducible refine wpList_append_has (o := ⟨some 50, _, _, _, _, _⟩) ?k1 (.tmp 45) (.tmp 49) ?k2 0 vL l ?k3 HOw.out w1.heap.size ?k5 (id, (q : Int)) HBn.out ?k6 (Nat.zero_le _) ?_); (case k1 => rfl); (case k2 => rfl); (case k3 => exact ev_tmp (by simp)); (case k5 => exact ev_tmp (by simp)); (case k6 => exact HLl.out); intro v2 w3 hown hgrow hnew; obtain ⟨a2, n2, cc2, rfl⟩ := own_slice hown; have hK := ((Keeps.refl (fun i => vL.ownBlock = some i) w1).alloc (.cells #[.int .u64 id, .int .i64 (q : Int)] 76)).grown hgrow (fun k h => .inl h); have hb3 := HT1.out.blkL hK; have c3 : w3.cell? ⟨r, 0, none⟩ = some vL := (by rw [hb3.cell]; rfl); have f3 : w3.frozen? ⟨r, 0, none⟩ = false := hb3.frozen 0)
        go_wp2_with (fail)
        go_ret
        refine ⟨rfl, ?_⟩
        rw [HEL.out, HEW.out]
        obtain ⟨t2, k2⟩ := HT1.out.put hK hown
        refine ⟨_, t2, HK1.out.trans k2, fun i h => ?_⟩
        rcases hnew with e | e
        · exact .inl (.inr (.inl (by rw [← e]; exact h)))
        · right
          rw [h] at e
          have := Option.some.inj e
          have := HK1.out.size
          simp at *
          omega
      · by_cases hwc : who = (q : Int)
        · have e1 : R = true := by rw [← hR2, hwho]; exact decide_eq_true ⟨hc.1, hc.2, hz, .inr hwc⟩
          subst e1
          have eL : rtL n l q id = l := by unfold rtL; rw [if_neg (fun e => hno (by rw [← hwho]; exact e.2))]
          have eW : rtW n l W q id = updN W q 0 := by unfold rtW; rw [if_pos ⟨hc.1, hc.2, hz⟩, hR]; rfl
          have HP := Lib.hid (show RPost w r n (rtL n l q id) (rtW n l W q id) vL (.slice (some ⟨gw, 0, none⟩) n cw) (w.setCell ⟨gw, q, none⟩ (.int .u64 0)) (RS r vL (.slice (some ⟨gw, 0, none⟩) n cw)) from by
            rw [eL, eW]; exact ⟨vL, (HT.out.setW q 0).1, (HT.out.setW q 0).2, fun i h => .inl (.inr (.inl h))⟩)
          clear eL eW hR2 hR t hz hwho
          subst hwc
          go_enter Try.func29, Try.ntmps29
          go_wp2_with (fail)
          refine HIs.out.mono ?_
          rintro e w' ⟨rfl, rfl⟩
          go_wp2_with (fail)
          refine HH.out.mono ?_
          rintro e w' ⟨rfl, rfl⟩
          go_wp2_with (fail)
          go_ret
          exact ⟨rfl, HP.out⟩
        · have e1 : R = false := by rw [← hR2, hwho]; exact decide_eq_false (fun e => by rcases e.2.2.2 with h | h; exact hno h; exact hwc h)
          subst e1
          have eL : rtL n l q id = l := by unfold rtL; rw [if_neg (fun e => by rw [hR] at e; cases e.1)]
          have eW : rtW n l W q id = updN W q id := by unfold rtW; rw [if_pos ⟨hc.1, hc.2, hz⟩, hR]; rfl
          have HP := Lib.hid (show RPost w r n (rtL n l q id) (rtW n l W q id) vL (.slice (some ⟨gw, 0, none⟩) n cw) (w.setCell ⟨gw, q, none⟩ (.int .u64 id)) (RS r vL (.slice (some ⟨gw, 0, none⟩) n cw)) from by
            rw [eL, eW]; exact ⟨vL, (HT.out.setW q id).1, (HT.out.setW q id).2, fun i h => .inl (.inr (.inl h))⟩)
          have hw2 : (who != (q : Int)) = true := bne_iff_ne.2 hwc
          clear eL eW hR2 hR t hz hwc hwho
          go_enter Try.func29, Try.ntmps29
          go_wp2_with (fail)
          refine HIs.out.mono ?_
          rintro e w' ⟨rfl, rfl⟩
          go_wp2_with (fail)
          refine HH.out.mono ?_
          rintro e w' ⟨rfl, rfl⟩
          go_wp2_with (fail)
          go_ret
          exact ⟨rfl, HP.out⟩
  · have eis : isB n c = false := decide_eq_false hc
    rw [eis] at HIs
    have e1 : R = false := by rw [← hR2]; exact decide_eq_false (fun e => hc ⟨e.1, e.2.1⟩)
    subst e1
    have eL : rtL n l c id = l := by unfold rtL; rw [if_neg (fun e => by rw [hR] at e; cases e.1)]
    have eW : rtW n l W c id = W := by unfold rtW; rw [if_neg (fun e => hc ⟨e.1, e.2.1⟩)]
    have HP := Lib.hid (show RPost w r n (rtL n l c id) (rtW n l W c id) vL vW w (RS r vL vW) from by
      rw [eL, eW]; exact ⟨vL, HT.out, Keeps.refl _ _, fun i h => .inl (.inr (.inl h))⟩)
    clear eL eW hR2 hR t
    go_enter Try.func29, Try.ntmps29
    go_wp2_with (fail)
    refine HIs.out.mono ?_
    rintro e w' ⟨rfl, rfl⟩
    go_wp2_with (fail)
    go_ret
    exact ⟨rfl, HP.out⟩
end Go.Proofs.Ytajccnmeijgagaa
