/-
  The law FastEffect.
-/
import Derived.Test.YtbpaefhihdhdeaaHo
namespace Go.Proofs.Ytbpaefhihdhdeaa
open Go.RowKit
set_option linter.unusedVariables false

/-- where a run stands, and at which store its effect was -/
inductive EfS (base : Int) (was now : List (Int × Int)) : Option Nat → Nat → Int → Nd → List (Int × Int) → Prop
  | none {k : Nat} {m m3 : Nd} {rest : List (Int × Int)} (hv : m.valid = was) (h : Stay base was m rest m3) : EfS base was now Option.none k (-1) m rest
  | ahead {k t : Nat} {m m1 m2 m3 : Nd} {L1 L2 : List (Int × Int)} {s : Int × Int} (hv : m.valid = was) (ht : L1.length + k = t) (h1 : Stay base was m L1 m1) (h2 : putA base m1 s.1 s.2 = some m2) (hv1 : m1.valid = was) (hv2 : m2.valid = now) (hne : was ≠ now) (h3 : Stay base now m2 L2 m3) : EfS base was now (some t) k (-1) m (L1 ++ s :: L2)
  | behind {k t : Nat} {m m3 : Nd} {rest : List (Int × Int)} (hv : m.valid = now) (h : Stay base now m rest m3) : EfS base was now (some t) k t m rest
theorem Stay.last {base : Int} {v : List (Int × Int)} : ∀ {L : List (Int × Int)} {m m' : Nd}, Stay base v m L m' → m.valid = v → m'.valid = v
  | [], m, m', h, hv => by cases h; exact hv
  | s :: r, m, m', ⟨q, a, b, c, d⟩, _ => Stay.last d c
theorem efS_start {base : Int} {n : Nd} {was now L : List (Int × Int)} {e : Option Nat} (h : Traj base n was now L e) (hv : n.valid = was) : EfS base was now e 0 (-1) n L := by
  cases e with
  | none =>
    obtain ⟨m3, a, _, b⟩ := h
    exact .none hv a
  | some t =>
    obtain ⟨L1, s, L2, m1, m2, m3, rfl, hl, h1, h2, h3, h4, hne, h5, h6⟩ := h
    exact .ahead hv (by omega) h1 h2 (h1.last hv) h4 hne h5
theorem efS_step {base : Int} {was now : List (Int × Int)} {e : Option Nat} {k : Nat} {a : Int} {m : Nd} {x : Int × Int} {r : List (Int × Int)} (h : EfS base was now e k a m (x :: r)) :
    ∃ m', putA base m x.1 x.2 = some m' ∧ (((m'.valid == m.valid) = true ∧ EfS base was now e (k + 1) a m' r) ∨ ((m'.valid == m.valid) = false ∧ a = -1 ∧ EfS base was now e (k + 1) k m' r)) := by
  generalize hrest : x :: r = rest at h
  cases h with
  | none hv h =>
    subst hrest
    obtain ⟨q, b, _, c, d⟩ := h
    exact ⟨q, b, .inl ⟨by rw [c, hv]; exact beq_self_eq_true _, .none c d⟩⟩
  | @ahead _ t _ m1 m2 m3 L1 L2 s hv ht h1 h2 hv1 hv2 hne h3 =>
    cases L1 with
    | nil =>
      cases h1
      obtain ⟨rfl, rfl⟩ := List.cons.inj hrest
      refine ⟨m2, h2, .inr ⟨by rw [hv2, hv]; exact beq_eq_false_iff_ne.2 (fun e => hne e.symm), rfl, ?_⟩⟩
      have : k = t := by simpa using ht
      subst this
      exact .behind hv2 h3
    | cons y L1 =>
      rw [List.cons_append] at hrest
      obtain ⟨rfl, rfl⟩ := List.cons.inj hrest
      obtain ⟨q, b, _, c, d⟩ := h1
      exact ⟨q, b, .inl ⟨by rw [c, hv]; exact beq_self_eq_true _, .ahead c (by simp at ht; omega) d h2 hv1 hv2 hne h3⟩⟩
  | behind hv h =>
    subst hrest
    obtain ⟨q, b, _, c, d⟩ := h
    exact ⟨q, b, .inl ⟨by rw [c, hv]; exact beq_self_eq_true _, .behind c d⟩⟩
def effA : Option Nat → Int
  | none => -1
  | some t => t
theorem efS_done {base : Int} {was now : List (Int × Int)} {e : Option Nat} {k : Nat} {a : Int} {m : Nd} (h : EfS base was now e k a m []) : a = effA e := by
  generalize hrest : ([] : List (Int × Int)) = rest at h
  cases h with
  | none => rfl
  | ahead => simp at hrest
  | behind => rfl
/-- the worlds of the loop -/
structure EfW (w : World) (b4 gL : Nat) (L : List (Int × Int)) (kind key ptr : Int) (m : Nd) (W : World) : Prop where
  n : Blk W b4 (ndCells m) 27
  a : Blk W (b4 + 1) (askC kind key ptr) 39
  l : EntsAt W gL 0 L
  b : Below w.heap.size w W
  lb : w.heap.size ≤ b4
  lg : b4 < gL
section
variable {w W W' : World} {b4 gL : Nat} {L : List (Int × Int)} {kind key ptr : Int} {m m' : Nd}
theorem EfW.keep (h : EfW w b4 gL L kind key ptr m W) (hB : Below W.heap.size W W') : EfW w b4 gL L kind key ptr m W' :=
  ⟨h.n.below hB h.n.lt, h.a.below hB h.a.lt, fun i hi => (h.l.below hB (h.l.lt (by omega))) i hi, h.b.trans (hB.mono h.b.size), h.lb, h.lg⟩
theorem EfW.set (h : EfW w b4 gL L kind key ptr m W) : EfW w b4 gL L kind key ptr m' (W.setRow b4 (ndCells m')) :=
  ⟨h.n.row _, h.a.rowOther _ (by omega), fun i hi => by
    have hne : gL ≠ b4 := by have := h.lg; omega
    obtain ⟨a, b⟩ := h.l i hi
    exact ⟨(World.cell?_of_block (w := W) (a := ⟨gL, 0 + i * 2, none⟩) (setRow_other W b4 gL _ hne)).trans a, (World.cell?_of_block (w := W) (a := ⟨gL, 0 + i * 2 + 1, none⟩) (setRow_other W b4 gL _ hne)).trans b⟩,
   below_setRow h.b h.lb _, h.lb, h.lg⟩
end
theorem made_two {base : Int} {n : Nd} {kd key ptr : Int} (hc : madeC base n 0 key ptr = 0) (h : kd = 0) : 2 ≤ (madeL base n kd key ptr).length := by
  subst h
  show 2 ≤ (insP base n key ptr).length
  unfold insP
  rw [if_pos (show insE base n key ptr = 0 from hc)]
  unfold insL
  simp
  omega
/-- the loop -/
def EfRel (base : Int) (w : World) (b4 gL : Nat) (Ls : List (Int × Int)) (kind key ptr : Int) (was now : List (Int × Int)) (e : Option Nat) (av iv : Value) (W : World) : Prop :=
  ∃ (k : Nat) (m : Nd) (a : Int), k ≤ Ls.length ∧ iv = .int .i64 k ∧ av = .int .i64 a ∧ EfS base was now e k a m (Ls.drop k) ∧ EfW w b4 gL Ls kind key ptr m W
set_option maxRecDepth 100000 in
set_option maxHeartbeats 1600000 in
theorem effect_err (base : Int) (n : Nd) (kind key ptr : Int) (w : World) (hc : madeC base n (kdOf kind) key ptr ≠ 0) :
    Calls Try.prog 6 #[.int .u64 base, .agg (ndCells n), .agg (askC kind key ptr)] w fun e w' => e = .returned (.bool true) ∧ Below w.heap.size w w' := by
  have HI := Lib.hid (info27 n)
  have hk0 : Blk ((w.alloc (.cells (ndCells n) 27)).alloc (.cells (askC kind key ptr) 39)) w.heap.size (ndCells n) 27 := (Blk.new w _ _).alloc _
  have hg0 : Blk ((w.alloc (.cells (ndCells n) 27)).alloc (.cells (askC kind key ptr) 39)) (w.heap.size + 1) (askC kind key ptr) 39 := by
    have := Blk.new (w.alloc (.cells (ndCells n) 27)) (askC kind key ptr) 39
    simpa using this
  have HL0 := Lib.hid (ndLoad hk0)
  have HB0 := Lib.hid (((Below.refl w.heap.size w).alloc (Nat.le_refl _) (.cells (ndCells n) 27)).alloc (by simp) (.cells (askC kind key ptr) 39))
  have HMd := Lib.hid (fun w => made_v base n kind key ptr w)
  obtain ⟨C, hC⟩ : ∃ l, madeC base n (kdOf kind) key ptr = l := ⟨_, rfl⟩
  rw [hC] at HMd hc
  have q1 : (C != 0) = true := bne_iff_ne.2 hc
  clear hk0 hg0 hC hc
  unfold askC at *
  go_enter Try.func6, Try.ntmps6
  go_wp2_with (with_reducible refine wpList_load_part (o := ⟨some 15, _, _, _, _, _⟩) rfl 27 _ rfl w.heap.size 0 rfl (ndCells n) _ HL0.out Try.underlying27 rfl HI.out ?_)
  refine (HMd.out _).mono ?_
  rintro e w1 ⟨a1, m1, c1, rfl, hm1, ho1, hB⟩
  have HB1 := Lib.hid (HB0.out.trans (hB.mono HB0.out.size))
  clear hB hm1 ho1
  go_wp2_with (fail)
  refine (known_v _).mono ?_
  rintro e w2 ⟨rfl, hB⟩
  have HB2 := Lib.hid (HB1.out.trans (hB.mono HB1.out.size))
  clear hB
  go_wp2_with (fail)
  go_ret
  exact ⟨rfl, HB2.out⟩


set_option maxRecDepth 100000 in
set_option maxHeartbeats 6400000 in
theorem effect_ok (base : Int) (n : Nd) (kind key ptr : Int) (w : World) (hc : madeC base n (kdOf kind) key ptr = 0) :
    Calls Try.prog 6 #[.int .u64 base, .agg (ndCells n), .agg (askC kind key ptr)] w fun e w' => e = .returned (.bool true) ∧ Below w.heap.size w w' := by
  have HT := Lib.hid (efS_start (traj_all (kdOf_lt kind) hc) rfl)
  have hS := made_stands (kdOf_lt kind) hc
  have hpos := made_pos (kdOf_lt kind) hc
  have HI := Lib.hid (info27 n)
  have hk0 : Blk ((w.alloc (.cells (ndCells n) 27)).alloc (.cells (askC kind key ptr) 39)) w.heap.size (ndCells n) 27 := (Blk.new w _ _).alloc _
  have hg0 : Blk ((w.alloc (.cells (ndCells n) 27)).alloc (.cells (askC kind key ptr) 39)) (w.heap.size + 1) (askC kind key ptr) 39 := by
    have := Blk.new (w.alloc (.cells (ndCells n) 27)) (askC kind key ptr) 39
    simpa using this
  have HK0 := Lib.hid hk0
  have HG0 := Lib.hid hg0
  have HL0 := Lib.hid (ndLoad hk0)
  have HB0 := Lib.hid (((Below.refl w.heap.size w).alloc (Nat.le_refl _) (.cells (ndCells n) 27)).alloc (by simp) (.cells (askC kind key ptr) 39))
  have HMd := Lib.hid (fun w => made_v base n kind key ptr w)
  have HLn := Lib.hid (show (madeL base n (kdOf kind) key ptr).length ≤ 1000 by have := made_len9 base n (kdOf kind) key ptr; omega)
  have HL2 := Lib.hid (fun (h : kdOf kind = 0) => show 2 ≤ (madeL base n (kdOf kind) key ptr).length from made_two (by have := hc; rwa [h] at this) h)
  obtain ⟨Ls, hL⟩ : ∃ l, madeL base n (kdOf kind) key ptr = l := ⟨_, rfl⟩
  obtain ⟨was, hwas⟩ : ∃ l, n.valid = l := ⟨_, rfl⟩
  obtain ⟨now, hnow⟩ : ∃ l, behL (kdOf kind) key ptr was = l := ⟨_, rfl⟩
  rw [hwas] at HT
  rw [hnow] at HT
  rw [hL] at HT HMd hpos HLn HL2
  rw [hc] at HMd
  have HS := Lib.hid hS
  obtain ⟨ef, hef⟩ : ∃ x, effOf (kdOf kind) Ls = x := ⟨_, rfl⟩
  have HEf := Lib.hid hef
  rw [hef] at HT
  have HAsk := Lib.hid (show askC kind key ptr = #[.int .i64 kind, .int .u64 key, .int .u64 ptr] from rfl)
  clear hk0 hg0 hL hc hwas hnow hS hef
  rw [HAsk.out] at HMd HL0 HB0 HK0 HG0 ⊢
  obtain ⟨w0, hw0⟩ : ∃ x, (w.alloc (.cells (ndCells n) 27)).alloc (.cells #[.int .i64 kind, .int .u64 key, .int .u64 ptr] 39) = x := ⟨_, rfl⟩
  have HB00 := Lib.hid (show w.heap.size < w0.heap.size by rw [← hw0]; simp; omega)
  have HW0 := Lib.hid hw0
  clear hw0
  go_enter Try.func6, Try.ntmps6
  go_wp2_with (with_reducible refine wpList_load_part (o := ⟨some 15, _, _, _, _, _⟩) rfl 27 _ rfl w.heap.size 0 rfl (ndCells n) _ HL0.out Try.underlying27 rfl HI.out ?_)
  rw [HW0.out] at HL0 HB0 HK0 HG0 ⊢
  refine (HMd.out _).mono ?_
  rintro e w1 ⟨a1, m1, cL, rfl, hm1, ho1, hB⟩
  subst hm1
  obtain ⟨gL, cp, ev, hg1, hg2, _, _, hEL⟩ := own_ents ho1 rfl hpos
  cases ev
  have HW := Lib.hid (show EfW w w.heap.size gL Ls kind key ptr n w1 from ⟨HK0.out.below hB HK0.out.lt, HG0.out.below hB HG0.out.lt, hEL, HB0.out.trans (hB.mono HB0.out.size), Nat.le_refl _, Nat.lt_of_lt_of_le HB00.out hg1⟩)
  obtain ⟨b4, hb4⟩ : ∃ x, w.heap.size = x := ⟨_, rfl⟩
  rw [hb4] at HW ⊢
  clear hB ho1 hEL hg1 hg2 HMd HL0 HB0 HK0 HG0 hb4 HB00
  have HKn := Lib.hid (fun w => known_v w)
  have q00 : ((0 : Int) != 0) = false := rfl
  go_wp2_with (fail)
  go_loopw [9, 10] (fun av iv wr => EfRel base w b4 gL Ls kind key ptr was now ef av iv wr) (fun _ iv _ => Ls.length - (intOf iv).toNat)
  case atStart => exact ⟨0, n, -1, Nat.zero_le _, rfl, rfl, HT.out, HW.out⟩
  case round =>
    obtain ⟨k, m, a, hk, rfl, rfl, hP, hW⟩ := hrel
    clear HW HT HI
    have HP := Lib.hid hP
    have HW := Lib.hid hW
    clear hP hW
    by_cases hlt : k < Ls.length
    · have b1 : (k : Int) < (Ls.length : Int) := by omega
      have b2 : ((k : Int)).toNat = k := by omega
      have HLt := Lib.hid hlt
      have hls := HLn.out
      obtain ⟨c1, c2⟩ := HW.out.l k hlt
      have hp2 := HP.out
      rw [drop_ent Ls hlt] at hp2
      obtain ⟨at_, hat⟩ : ∃ x, eK Ls k = x := ⟨_, rfl⟩
      obtain ⟨x, hx⟩ : ∃ x, eP Ls k = x := ⟨_, rfl⟩
      rw [hat, hx] at hp2
      rw [hat, Nat.zero_add] at c1
      rw [hx, Nat.zero_add] at c2
      obtain ⟨m', hput, hways⟩ := efS_step hp2
      have hput : putA base m at_ x = some m' := hput
      have HAp := Lib.hid (show ∀ w, Calls Try.prog 11 #[.int .u64 base, .agg (ndCells m), .agg #[.int .u64 at_, .int .u64 x]] w fun e w' => MkP m' 0 w e w' from fun w => by
        have := rapply_v base m at_ x w HS.out
        unfold putV at this
        rwa [hput] at this)
      have HgW := Lib.hid (show gL < wr.heap.size from HW.out.l.lt (by omega))
      have HVm := Lib.hid (fun w => rvalid_calls m' w)
      have HVo := Lib.hid (fun w => rvalid_calls m w)
      have hv8 : m'.valid.length ≤ 100 := by have := plN_len m'; simp [Nd.valid]; omega
      obtain ⟨sb, hsb⟩ : ∃ z, (m'.valid == m.valid) = z := ⟨_, rfl⟩
      have HSs := Lib.hid (show ∀ (v v2 : Value) (B1 B2 : Nat) (W : World), RowV B1 m'.valid v W → RowV B2 m.valid v2 W → Calls Try.prog 18 #[v, v2] W fun e W' => e = .returned (.bool sb) ∧ Below W.heap.size W W' from fun v v2 B1 B2 W h1 h2 => by rw [← hsb]; exact rsame_calls m'.valid m.valid v v2 B1 B2 W (by omega) h1 h2)
      rw [hsb] at hways
      have HWays := Lib.hid hways
      have HI' := Lib.hid (info27 m')
      clear hat hx hp2 hput hways hv8 hsb
      go_upto_region 8 with (fail)
      --GEN r_ef8
      refine wp_region_valsA [Is (.int .u64 base), Is (.agg (ndCells m)), Is (.slice (some ⟨gL, 0, none⟩) Ls.length cL), Is (.int .i64 k), Is (.pointer (some ⟨gL, k * 2, none⟩)), Is (.agg #[.int .u64 at_, .int .u64 x]), Is (.tuple #[.agg (ndCells m'), .int .i64 0]), Is (.tuple #[.agg (ndCells m'), .int .i64 0]), Is (.agg (ndCells m')), Is (.int .i64 0), Any, Any, Is (.int .i64 0)]
        (fun _ W W' => Below wr.heap.size W W') (fun L a W => Below wr.heap.size wr W ∧ NewG wr.heap.size 11 10 11 m' L a W) (by kernel_rfl) (by kernel_rfl) (by kernel_rfl) ?hst ?h0 ⟨?o0, ?o1, ?o2, ?o3, ?o4, ?o5, ?o6, ?o7, ?o8, ?o9, ?o10, ?o11, ?o12, trivial⟩ ?he
      case hst =>
        exact ⟨(fun _ _ _ _ _ _ h _ => h), (fun _ _ _ _ _ _ h _ => h), (fun _ _ _ _ _ _ h _ => h), (fun _ _ _ _ _ _ h _ => h), (fun _ _ _ _ _ _ h _ => h), (fun _ _ _ _ _ _ h _ => h), (fun _ _ _ _ _ _ h _ => h), (fun _ _ _ _ _ _ h _ => h), (fun _ _ _ _ _ _ h _ => h), (fun _ _ _ _ _ _ h _ => h), (fun _ _ _ _ _ _ h _ => h), (fun _ _ _ _ _ _ h _ => h), (fun _ _ _ _ _ _ h _ => h), trivial⟩
      case h0 =>
        exact ⟨(Below.refl _ _).drew, NewG.none⟩
      case o0 =>
        intro L vs A W H hf hd K hK
        have e0 : A.tmps[0]?.getD undef = .int .u64 base := H.old 0 (by kernel_rfl)
        go_simp
        exact hK _ _ (Below.refl _ _) rfl (⟨H.glob.1, H.glob.2.keep rfl rfl (by simp) (Below.refl _ _)⟩)
      case o1 =>
        intro L vs A W H hf hd K hK
        have e4 : A.tmps[4]?.getD undef = .pointer (some ⟨b4, 0, none⟩) := H.old 4 (by kernel_rfl)
        rw [if_pos (show Region.wanted _ _ = true from rfl)]
        exact wp_load_nd _ rfl b4 m (ev_tmp e4) (HW.out.n.below H.glob.1 HW.out.n.lt) (hK _ _ (Below.refl _ _) rfl ⟨H.glob.1, H.glob.2.keep rfl rfl (by simp) (Below.refl _ _)⟩)
      case o2 =>
        intro L vs A W H hf hd K hK
        have e7 : A.tmps[7]?.getD undef = .slice (some ⟨gL, 0, none⟩) Ls.length cL := H.old 7 (by kernel_rfl)
        go_simp
        exact hK _ _ (Below.refl _ _) rfl (⟨H.glob.1, H.glob.2.keep rfl rfl (by simp) (Below.refl _ _)⟩)
      case o3 =>
        intro L vs A W H hf hd K hK
        have e10 : A.tmps[10]?.getD undef = .int .i64 k := H.old 10 (by kernel_rfl)
        go_simp
        exact hK _ _ (Below.refl _ _) rfl (⟨H.glob.1, H.glob.2.keep rfl rfl (by simp) (Below.refl _ _)⟩)
      case o4 =>
        intro L vs A W H hf hd K hK
        have e32 := H.is 2 32 rfl rfl rfl (deps_of' hd 2 (by kernel_rfl)) (by kernel_rfl)
        have e33 := H.is 3 33 rfl rfl rfl (deps_of' hd 3 (by kernel_rfl)) (by kernel_rfl)
        go_simp
        exact hK _ _ (Below.refl _ _) rfl (⟨H.glob.1, H.glob.2.keep rfl rfl (by simp) (Below.refl _ _)⟩)
      case o5 =>
        intro L vs A W H hf hd K hK
        have e34 := H.is 4 34 rfl rfl rfl (deps_of' hd 4 (by kernel_rfl)) (by kernel_rfl)
        have d1 := (H.glob.1.cell (p := ⟨gL, k * 2, none⟩) HgW.out).trans c1
        have d2 := (H.glob.1.cell (p := ⟨gL, k * 2 + 1, none⟩) HgW.out).trans c2
        go_simp
        exact hK _ _ (Below.refl _ _) rfl (⟨H.glob.1, H.glob.2.keep rfl rfl (by simp) (Below.refl _ _)⟩)
      case o6 =>
        intro L vs A W H hf hd K hK
        have e30 := H.is 0 30 rfl rfl rfl (deps_of' hd 0 (by kernel_rfl)) (by kernel_rfl)
        have e31 := H.is 1 31 rfl rfl rfl (deps_of' hd 1 (by kernel_rfl)) (by kernel_rfl)
        have e35 := H.is 5 35 rfl rfl rfl (deps_of' hd 5 (by kernel_rfl)) (by kernel_rfl)
        rw [if_pos (show Region.wanted _ _ = true from rfl)]
        go_wp2_with (fail)
        refine (HAp.out _).mono ?_
        rintro e W2 ⟨rfl, hB⟩
        exact hK _ _ (hB.mono H.glob.1.size) rfl ⟨H.glob.1.trans (hB.mono H.glob.1.size), H.glob.2.keep rfl rfl (by simp) hB⟩
      case o7 =>
        intro L vs A W H hf hd K hK
        have e36 := H.is 6 36 rfl rfl rfl (deps_of' hd 6 (by kernel_rfl)) (by kernel_rfl)
        go_simp
        exact hK _ _ (Below.refl _ _) rfl (⟨H.glob.1, H.glob.2.keep rfl rfl (by simp) (Below.refl _ _)⟩)
      case o8 =>
        intro L vs A W H hf hd K hK
        have e29 := H.is 7 29 rfl rfl rfl (deps_of' hd 7 (by kernel_rfl)) (by kernel_rfl)
        go_simp
        exact hK _ _ (Below.refl _ _) rfl (⟨H.glob.1, H.glob.2.keep rfl rfl (by simp) (Below.refl _ _)⟩)
      case o9 =>
        intro L vs A W H hf hd K hK
        have e29 := H.is 7 29 rfl rfl rfl (deps_of' hd 7 (by kernel_rfl)) (by kernel_rfl)
        go_simp
        exact hK _ _ (Below.refl _ _) rfl (⟨H.glob.1, H.glob.2.keep rfl rfl (by simp) (Below.refl _ _)⟩)
      case o10 =>
        intro L vs A W H hf hd K hK
        rw [if_pos (show Region.wanted _ _ = true from rfl)]
        have n11 := H.notYet 11 10 rfl hf (by kernel_rfl)
        have hgs := H.glob.1.size
        have hz : 11 < A.tmps.size := by rw [H.frame, fill_size]; exact of_decide_eq_true (by kernel_rfl)
        refine wp_alloc_nd rfl ?_
        exact hK _ _ ((Below.refl _ _).alloc hgs _) trivial ⟨H.glob.1.alloc hgs _, newG_alloc hz hgs n11 (by decide)⟩
      case o11 =>
        intro L vs A W H hf hd K hK
        obtain ⟨v11, e11, q11⟩ := H.val 10 11 rfl rfl rfl (deps_of' hd 10 (by kernel_rfl)) (by kernel_rfl)
        have e37 := H.is 8 37 rfl rfl rfl (deps_of' hd 8 (by kernel_rfl)) (by kernel_rfl)
        rw [if_pos (show Region.wanted _ _ = true from rfl)]
        have h10 : L 10 = true := deps_of' hd 10 (by kernel_rfl)
        obtain ⟨H2, x2, e13, hH, hb, _⟩ := H.glob.2 h10
        exact wp_store_nd _ _ rfl H2 m' x2 (ev_tmp e13) (ev_tmp e37) hb (hK _ _ (below_setRow (Below.refl _ _) hH _) trivial ⟨below_setRow H.glob.1 hH _, fun _ => ⟨H2, m', e13, hH, hb.row _, fun _ => rfl⟩⟩)
      case o12 =>
        intro L vs A W H hf hd K hK
        have e38 := H.is 9 38 rfl rfl rfl (deps_of' hd 9 (by kernel_rfl)) (by kernel_rfl)
        go_simp
        exact hK _ _ (Below.refl _ _) rfl (⟨H.glob.1, H.glob.2.keep rfl rfl (by simp) (Below.refl _ _)⟩)
      case he =>
        intro vs W hlen hv
        match vs, hlen, hv with
        | [x0_, x1_, x2_, x3_, x4_, x5_, x6_, x7_, x8_, x9_, x10_, x11_, x12_], _, hv =>
        obtain rfl : (.int .u64 base) = x0_ := by obtain ⟨z, h1, h2⟩ := hv 0 _ rfl; cases h1; exact h2.symm
        obtain rfl : (.agg (ndCells m)) = x1_ := by obtain ⟨z, h1, h2⟩ := hv 1 _ rfl; cases h1; exact h2.symm
        obtain rfl : (.slice (some ⟨gL, 0, none⟩) Ls.length cL) = x2_ := by obtain ⟨z, h1, h2⟩ := hv 2 _ rfl; cases h1; exact h2.symm
        obtain rfl : (.int .i64 k) = x3_ := by obtain ⟨z, h1, h2⟩ := hv 3 _ rfl; cases h1; exact h2.symm
        obtain rfl : (.pointer (some ⟨gL, k * 2, none⟩)) = x4_ := by obtain ⟨z, h1, h2⟩ := hv 4 _ rfl; cases h1; exact h2.symm
        obtain rfl : (.agg #[.int .u64 at_, .int .u64 x]) = x5_ := by obtain ⟨z, h1, h2⟩ := hv 5 _ rfl; cases h1; exact h2.symm
        obtain rfl : (.tuple #[.agg (ndCells m'), .int .i64 0]) = x6_ := by obtain ⟨z, h1, h2⟩ := hv 6 _ rfl; cases h1; exact h2.symm
        obtain rfl : (.tuple #[.agg (ndCells m'), .int .i64 0]) = x7_ := by obtain ⟨z, h1, h2⟩ := hv 7 _ rfl; cases h1; exact h2.symm
        obtain rfl : (.agg (ndCells m')) = x8_ := by obtain ⟨z, h1, h2⟩ := hv 8 _ rfl; cases h1; exact h2.symm
        obtain rfl : (.int .i64 0) = x9_ := by obtain ⟨z, h1, h2⟩ := hv 9 _ rfl; cases h1; exact h2.symm
        obtain rfl : (.int .i64 0) = x12_ := by obtain ⟨z, h1, h2⟩ := hv 12 _ rfl; cases h1; exact h2.symm
        intro L hall hG
        clear hv hlen
        obtain ⟨H2, x2, e13, hH, hb, hx⟩ := hG.2 (hall 10 (by decide))
        have hb2 : Blk W H2 (ndCells m') 27 := by rw [← hx (hall 11 (by decide))]; exact hb
        simp [fill, Act.put] at e13
        subst e13
        have HH := Lib.hid hb2
        have HW2 := Lib.hid (HW.out.keep hG.1)
        have HwH := Lib.hid hH
        clear hG hall hx hH hb hb2 c1 c2
        simp only [fill, if_true]
        go_simp
      --END
        obtain ⟨w3, rfl⟩ : ∃ x, x = W := ⟨_, rfl⟩
        have HW3 := HW2
        clear HW2
        go_upto_region 11 with (fail)
        --GEN r_ef11
        refine wp_region_vals [Is (.agg (ndCells m')), RowV w3.heap.size m'.valid, Is (.agg (ndCells m)), RowV w3.heap.size m.valid, Is (.bool sb), Is (.bool (!sb))]
          (fun _ W W' => Below W.heap.size W W') (fun _ W => Below w3.heap.size w3 W) (by kernel_rfl) (by kernel_rfl) (by kernel_rfl) ?hst ?h0 ⟨?o0, ?o1, ?o2, ?o3, ?o4, ?o5, trivial⟩ ?he
        case hst =>
          exact ⟨(fun _ _ _ _ _ _ h _ => h), (fun _ _ _ _ _ _ h hR => own_below h hR), (fun _ _ _ _ _ _ h _ => h), (fun _ _ _ _ _ _ h hR => own_below h hR), (fun _ _ _ _ _ _ h _ => h), (fun _ _ _ _ _ _ h _ => h), trivial⟩
        case h0 =>
          exact (Below.refl _ _).drew
        case o0 =>
          intro L vs A W H hf hd K hK
          have e11 : A.tmps[11]?.getD undef = .pointer (some ⟨H2, 0, none⟩) := H.old 11 (by kernel_rfl)
          rw [if_pos (show Region.wanted _ _ = true from rfl)]
          exact wp_load_nd _ rfl H2 m' (ev_tmp e11) (HH.out.below H.glob HH.out.lt) (hK _ _ (Below.refl _ _) rfl H.glob)
        case o1 =>
          intro L vs A W H hf hd K hK
          have e41 := H.is 0 41 rfl rfl rfl (deps_of' hd 0 (by kernel_rfl)) (by kernel_rfl)
          rw [if_pos (show Region.wanted _ _ = true from rfl)]
          go_wp2_with (fail)
          refine (HVm.out _).mono ?_
          rintro e W2 ⟨v, rfl, hv, hB⟩
          exact hK _ _ hB (RowV.mono hv H.glob.size) (H.glob.trans (hB.mono H.glob.size))
        case o2 =>
          intro L vs A W H hf hd K hK
          have e4 : A.tmps[4]?.getD undef = .pointer (some ⟨b4, 0, none⟩) := H.old 4 (by kernel_rfl)
          rw [if_pos (show Region.wanted _ _ = true from rfl)]
          exact wp_load_nd _ rfl b4 m (ev_tmp e4) (HW3.out.n.below H.glob HW3.out.n.lt) (hK _ _ (Below.refl _ _) rfl H.glob)
        case o3 =>
          intro L vs A W H hf hd K hK
          have e43 := H.is 2 43 rfl rfl rfl (deps_of' hd 2 (by kernel_rfl)) (by kernel_rfl)
          rw [if_pos (show Region.wanted _ _ = true from rfl)]
          go_wp2_with (fail)
          refine (HVo.out _).mono ?_
          rintro e W2 ⟨v, rfl, hv, hB⟩
          exact hK _ _ hB (RowV.mono hv H.glob.size) (H.glob.trans (hB.mono H.glob.size))
        case o4 =>
          intro L vs A W H hf hd K hK
          obtain ⟨v42, e42, q42⟩ := H.val 1 42 rfl rfl rfl (deps_of' hd 1 (by kernel_rfl)) (by kernel_rfl)
          obtain ⟨v44, e44, q44⟩ := H.val 3 44 rfl rfl rfl (deps_of' hd 3 (by kernel_rfl)) (by kernel_rfl)
          rw [if_pos (show Region.wanted _ _ = true from rfl)]
          go_wp2_with (fail)
          refine (HSs.out _ _ _ _ _ q42 q44).mono ?_
          rintro e W2 ⟨rfl, hB⟩
          exact hK _ _ hB rfl (H.glob.trans (hB.mono H.glob.size))
        case o5 =>
          intro L vs A W H hf hd K hK
          have e45 := H.is 4 45 rfl rfl rfl (deps_of' hd 4 (by kernel_rfl)) (by kernel_rfl)
          go_simp
          exact hK _ _ (Below.refl _ _) rfl (H.glob)
        case he =>
          intro vs W hlen hv
          match vs, hlen, hv with
          | [x0_, x1_, x2_, x3_, x4_, x5_], _, hv =>
          obtain rfl : (.agg (ndCells m')) = x0_ := by obtain ⟨z, h1, h2⟩ := hv 0 _ rfl; cases h1; exact h2.symm
          have hx1 : (RowV w3.heap.size m'.valid) x1_ W := by obtain ⟨z, h1, h2⟩ := hv 1 _ rfl; cases h1; exact h2
          obtain rfl : (.agg (ndCells m)) = x2_ := by obtain ⟨z, h1, h2⟩ := hv 2 _ rfl; cases h1; exact h2.symm
          have hx3 : (RowV w3.heap.size m.valid) x3_ W := by obtain ⟨z, h1, h2⟩ := hv 3 _ rfl; cases h1; exact h2
          obtain rfl : (.bool sb) = x4_ := by obtain ⟨z, h1, h2⟩ := hv 4 _ rfl; cases h1; exact h2.symm
          obtain rfl : (.bool (!sb)) = x5_ := by obtain ⟨z, h1, h2⟩ := hv 5 _ rfl; cases h1; exact h2.symm
          intro L hall hG
          clear hv hlen
          have HW4 := Lib.hid (HW3.out.keep hG)
          have HH4 := Lib.hid (HH.out.below hG HH.out.lt)
          clear hG hall hx1 hx3 HW3 HH
          simp only [fill, if_true]
          go_simp
        --END
          have HLh := Lib.hid (ndLoad HH4.out)
          rcases HWays.out with ⟨rfl, hP2⟩ | ⟨rfl, rfl, hP2⟩
          · have HP2 := Lib.hid hP2
            clear hP2 HWays
            go_upto_region 15 with (fail)
            go_upto_region 7 with (first | (with_reducible refine wpList_load_part (o := ⟨some 50, _, _, _, _, _⟩) rfl 27 _ rfl H2 0 rfl (ndCells m') _ HLh.out Try.underlying27 rfl HI'.out ?_) | ((with_reducible refine wpList_store_ndc (o := ⟨none, .store 27 (.tmp 4) (.tmp 50), _, _, _, _⟩) ?hga (.tmp 4) (.tmp 50) ?hoa b4 ?csa m' m ?hxa ?hya HW4.out.n ?hma ?_); (case hga => rfl); (case hoa => rfl); (case hxa => rfl); (case hya => rfl); (case hma => rfl)))
            have HW5 := Lib.hid (EfW.set (m' := m') HW4.out)
            generalize W.setRow b4 (ndCells m') = w5 at *
            go_simp
            go_wp2_with (fail)
            go_roundw
            case rel => exact ⟨k + 1, m', a, by have := HLt.out; omega, by go_num, rfl, HP2.out, HW5.out⟩
            case measure => simp [intOf]; have := HLt.out; omega
          · have HP2 := Lib.hid hP2
            clear hP2 HWays
            go_upto_region 15 with (fail)
            go_upto_region 7 with (first | (with_reducible refine wpList_load_part (o := ⟨some 50, _, _, _, _, _⟩) rfl 27 _ rfl H2 0 rfl (ndCells m') _ HLh.out Try.underlying27 rfl HI'.out ?_) | ((with_reducible refine wpList_store_ndc (o := ⟨none, .store 27 (.tmp 4) (.tmp 50), _, _, _, _⟩) ?hgb (.tmp 4) (.tmp 50) ?hob b4 ?csb m' m ?hxb ?hyb HW4.out.n ?hmb ?_); (case hgb => rfl); (case hob => rfl); (case hxb => rfl); (case hyb => rfl); (case hmb => rfl)))
            have HW5 := Lib.hid (EfW.set (m' := m') HW4.out)
            generalize W.setRow b4 (ndCells m') = w5 at *
            go_simp
            go_wp2_with (fail)
            go_roundw
            case rel => exact ⟨k + 1, m', k, by have := HLt.out; omega, by go_num, rfl, HP2.out, HW5.out⟩
            case measure => simp [intOf]; have := HLt.out; omega
    · have hkl : Ls.drop k = [] := List.drop_eq_nil_of_le (by omega)
      have hp := HP.out
      rw [hkl] at hp
      have ha := efS_done hp
      have b1 : ¬ (k : Int) < (Ls.length : Int) := by omega
      have a0 : wr.cell? ⟨b4 + 1, 0, none⟩ = some (.int .i64 kind) := by rw [HW.out.a.cell]; rfl
      obtain ⟨u, hu⟩ : ∃ u, IntKind.u64.wrap kind = u := ⟨_, rfl⟩
      have hu0 : 0 ≤ u := by rw [← hu, IntKind.wrap_u64]; omega
      have hkd : u % 6 = kdOf kind := by rw [← hu]; rfl
      have hls := HLn.out
      rw [← HEf.out] at ha
      clear hkl hp hk hlt
      rcases kdOf_lt kind with h | h | h | h | h | h
      · rw [h] at hkd ha
        have h2 := HL2.out h
        have ha' : a = (Ls.length : Int) - 2 := by rw [ha]; show ((Ls.length - 2 : Nat) : Int) = _; omega
        have HA := Lib.hid ha'
        have q1 : (a == (Ls.length : Int) - 2) = true := by rw [ha']; exact beq_self_eq_true _
        clear ha ha' h
        go_wp2_with (fail)
        refine (HKn.out _).mono ?_
        rintro e w6 ⟨rfl, hB⟩
        have HB6 := Lib.hid (HW.out.b.trans (hB.mono HW.out.b.size))
        clear hB
        go_wp2_with (fail)
        go_ret
        exact ⟨rfl, HB6.out⟩
      · rw [h] at hkd ha
        have ha' : a = 1 := ha
        subst ha'
        clear ha h
        go_wp2_with (fail)
        refine (HKn.out _).mono ?_
        rintro e w6 ⟨rfl, hB⟩
        have HB6 := Lib.hid (HW.out.b.trans (hB.mono HW.out.b.size))
        clear hB
        go_wp2_with (fail)
        go_ret
        exact ⟨rfl, HB6.out⟩
      · rw [h] at hkd ha
        have ha' : a = -1 := ha
        subst ha'
        clear ha h
        go_wp2_with (fail)
        refine (HKn.out _).mono ?_
        rintro e w6 ⟨rfl, hB⟩
        have HB6 := Lib.hid (HW.out.b.trans (hB.mono HW.out.b.size))
        clear hB
        go_wp2_with (fail)
        go_ret
        exact ⟨rfl, HB6.out⟩
      · rw [h] at hkd ha
        have ha' : a = 1 := ha
        subst ha'
        clear ha h
        go_wp2_with (fail)
        refine (HKn.out _).mono ?_
        rintro e w6 ⟨rfl, hB⟩
        have HB6 := Lib.hid (HW.out.b.trans (hB.mono HW.out.b.size))
        clear hB
        go_wp2_with (fail)
        go_ret
        exact ⟨rfl, HB6.out⟩
      · rw [h] at hkd ha
        have ha' : a = 1 := ha
        subst ha'
        clear ha h
        go_wp2_with (fail)
        refine (HKn.out _).mono ?_
        rintro e w6 ⟨rfl, hB⟩
        have HB6 := Lib.hid (HW.out.b.trans (hB.mono HW.out.b.size))
        clear hB
        go_wp2_with (fail)
        go_ret
        exact ⟨rfl, HB6.out⟩
      · rw [h] at hkd ha
        have ha' : a = -1 := ha
        subst ha'
        clear ha h
        go_wp2_with (fail)
        refine (HKn.out _).mono ?_
        rintro e w6 ⟨rfl, hB⟩
        have HB6 := Lib.hid (HW.out.b.trans (hB.mono HW.out.b.size))
        clear hB
        go_wp2_with (fail)
        go_ret
        exact ⟨rfl, HB6.out⟩

theorem effect_law (base : Int) (n : Nd) (kind key ptr : Int) (w : World) :
    Calls Try.prog 6 #[.int .u64 base, .agg (ndCells n), .agg (askC kind key ptr)] w fun e w' => e = .returned (.bool true) ∧ Below w.heap.size w w' := by
  by_cases hc : madeC base n (kdOf kind) key ptr = 0
  · exact effect_ok base n kind key ptr w hc
  · exact effect_err base n kind key ptr w hc
end Go.Proofs.Ytbpaefhihdhdeaa
