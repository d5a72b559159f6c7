/-
  The law FastHolds.
-/
import Derived.Test.YtbpaefhihdhdeaaHa
import Derived.Test.YtbpaefhihdhdeaaBf
import Derived.Test.YtbpaefhihdhdeaaKo
import Derived.Deep.DeepCutAuto
namespace Go.Proofs.Ytbpaefhihdhdeaa
open Go.RowKit
set_option linter.unusedVariables false

theorem newG_alloc {B s i j : Nat} {m' : Nd} {L : Nat → Bool} {a : Act} {W : World} (hz : s < a.tmps.size) (hB : B ≤ W.heap.size) (hj : L j = false) (hij : j ≠ i) :
    NewG B s i j m' (lset L i) (a.put (some s) (.pointer (some ⟨W.heap.size, 0, none⟩))) (W.alloc (.cells (ndCells nd0) 27)) :=
  fun _ => ⟨W.heap.size, nd0, by simp [Act.put, hz], hB, Blk.new _ _ _, fun h => by unfold lset at h; rw [if_neg hij, hj] at h; cases h⟩
theorem made_pos {base : Int} {n : Nd} {kd key ptr : Int} (hk : kd = 0 ∨ kd = 1 ∨ kd = 2 ∨ kd = 3 ∨ kd = 4 ∨ kd = 5) (hc : madeC base n kd key ptr = 0) : 0 < (madeL base n kd key ptr).length := by
  rcases hk with rfl | rfl | rfl | rfl | rfl | rfl
  · show 0 < (insP base n key ptr).length
    unfold insP; rw [if_pos (show insE base n key ptr = 0 from hc)]; unfold insL; simp
  · show 0 < (delP base n key).length
    unfold delP; rw [if_pos (show delE base n key = 0 from hc)]; unfold delL; simp
  · show 0 < (repP base n).length
    unfold repP; rw [if_pos (show repE base n = 0 from hc)]; unfold repL; simp
  · show 0 < (swapP base n key ptr).length
    unfold swapP; rw [if_pos (show swapE base n key ptr = 0 from hc)]; simp
  · show 0 < (cutP base n key).length
    unfold cutP; rw [if_pos (show cutE base n key = 0 from hc)]; simp
  · show 0 < (linkP base n ptr).length
    unfold linkP; rw [if_pos (show mayE base n = 0 from hc)]; simp
theorem made_len9 (base : Int) (n : Nd) (kd key ptr : Int) : (madeL base n kd key ptr).length ≤ 40 := by
  have h8 := n.len_le
  unfold madeL
  split
  · unfold insP
    split
    · unfold insL
      have : (n.last key + 1).toNat ≤ n.len := by have := last_ge n key; omega
      have h2 := shiftL_len base n n.len (n.len - (n.last key + 1).toNat)
      simp only [List.length_append, h2]
      split <;> simp <;> omega
    · simp
  split
  · unfold delP
    split
    · unfold delL; simp only [List.length_append, gapL_len]; simp; omega
    · simp
  split
  · unfold repP
    split
    · unfold repL; simp only [List.length_append, gapL_len]; simp; omega
    · simp
  split
  · unfold swapP; split <;> simp
  split
  · unfold cutP; split <;> simp
  · unfold linkP; split <;> simp
/-- the worlds of the loop -/
structure HoW (w : World) (B b4 gL : Nat) (L : List (Int × Int)) (v1 v2 : Value) (was now : List (Int × Int)) (m : Nd) (W : World) : Prop where
  n : Blk W b4 (ndCells m) 27
  l : EntsAt W gL 0 L
  r1 : RowV B was v1 W
  r2 : RowV B now v2 W
  b : Below w.heap.size w W
  lb : w.heap.size ≤ b4
  lB : b4 < B
  lg : B ≤ gL
theorem RowV.other {B b : Nat} {l : List (Int × Int)} {v : Value} {W : World} (h : RowV B l v W) (hb : b < B) (C : Array Value) : RowV B l v (W.setRow b C) := by
  obtain ⟨hl, h0 | ⟨g, cap, cur, hv, hg, hh, h1⟩⟩ := h
  · exact ⟨hl, .inl h0⟩
  · exact ⟨hl, .inr ⟨g, cap, cur, hv, hg, by rw [setRow_other W b g C (by omega)]; exact hh, h1⟩⟩
section
variable {w W W' : World} {B b4 gL : Nat} {L : List (Int × Int)} {v1 v2 : Value} {was now : List (Int × Int)} {m m' : Nd}
theorem HoW.keep (h : HoW w B b4 gL L v1 v2 was now m W) (hB : Below W.heap.size W W') : HoW w B b4 gL L v1 v2 was now m W' :=
  ⟨h.n.below hB h.n.lt, fun i hi => (h.l.below hB (h.l.lt (by omega))) i hi, own_below h.r1 hB, own_below h.r2 hB, h.b.trans (hB.mono h.b.size), h.lb, h.lB, h.lg⟩
theorem HoW.set (h : HoW w B b4 gL L v1 v2 was now m W) : HoW w B b4 gL L v1 v2 was now m' (W.setRow b4 (ndCells m')) :=
  ⟨h.n.row _, fun i hi => by
    have hne : gL ≠ b4 := by have := h.lB; have := h.lg; omega
    obtain ⟨a, b⟩ := h.l i hi
    exact ⟨(World.cell?_of_block (w := W) (a := ⟨gL, 0 + i * 2, none⟩) (setRow_other W b4 gL _ hne)).trans a, (World.cell?_of_block (w := W) (a := ⟨gL, 0 + i * 2 + 1, none⟩) (setRow_other W b4 gL _ hne)).trans b⟩,
   h.r1.other h.lB _, h.r2.other h.lB _, below_setRow h.b h.lb _, h.lb, h.lB, h.lg⟩
end

theorem traj_now {base : Int} {n : Nd} {was now L : List (Int × Int)} {e : Option Nat} (h : Traj base n was now L e) : now.length ≤ 8 := by
  cases e with
  | none =>
    obtain ⟨m3, _, _, h1, _⟩ := h
    exact h1.le
  | some t =>
    obtain ⟨L1, s, L2, m1, m2, m3, _, _, _, _, _, _, _, _, h5, _⟩ := h
    exact h5.le
/-- the loop -/
def HoRel (base : Int) (w : World) (B b4 gL : Nat) (Ls : List (Int × Int)) (v1 v2 : Value) (was now : List (Int × Int)) (dv iv : Value) (W : World) : Prop :=
  ∃ (k : Nat) (m : Nd) (d : Bool), k ≤ Ls.length ∧ iv = .int .i64 k ∧ dv = .bool d ∧ PhS base was now d m (Ls.drop k) ∧ HoW w B b4 gL Ls v1 v2 was now m W
set_option maxRecDepth 100000 in
set_option maxHeartbeats 1600000 in
theorem holds_err (base : Int) (n : Nd) (kind key ptr : Int) (w : World) (hc : madeC base n (kdOf kind) key ptr ≠ 0) :
    Calls Try.prog 5 #[.int .u64 base, .agg (ndCells n), .agg (askC kind key ptr)] w fun e w' => e = .returned (.bool true) ∧ Below w.heap.size w w' := by
  have HI := Lib.hid (info27 n)
  have hk0 : Blk ((w.alloc (.cells (ndCells n) 27)).alloc (.cells (askC kind key ptr) 39)) w.heap.size (ndCells n) 27 := (Blk.new w _ _).alloc _
  have hg0 : Blk ((w.alloc (.cells (ndCells n) 27)).alloc (.cells (askC kind key ptr) 39)) (w.heap.size + 1) (askC kind key ptr) 39 := by
    have := Blk.new (w.alloc (.cells (ndCells n) 27)) (askC kind key ptr) 39
    simpa using this
  have HL0 := Lib.hid (ndLoad hk0)
  have HB0 := Lib.hid (((Below.refl w.heap.size w).alloc (Nat.le_refl _) (.cells (ndCells n) 27)).alloc (by simp) (.cells (askC kind key ptr) 39))
  have HMd := Lib.hid (fun w => made_v base n kind key ptr w)
  obtain ⟨C, hC⟩ : ∃ l, madeC base n (kdOf kind) key ptr = l := ⟨_, rfl⟩
  rw [hC] at HMd hc
  have q1 : (C != 0) = true := bne_iff_ne.2 hc
  clear hk0 hg0 hC hc
  unfold askC at *
  go_enter Try.func5, Try.ntmps5
  go_wp2_with (with_reducible refine wpList_load_part (o := ⟨some 18, _, _, _, _, _⟩) rfl 27 _ rfl w.heap.size 0 rfl (ndCells n) _ HL0.out Try.underlying27 rfl HI.out ?_)
  refine (HMd.out _).mono ?_
  rintro e w1 ⟨a1, m1, c1, rfl, hm1, ho1, hB⟩
  have HB1 := Lib.hid (HB0.out.trans (hB.mono HB0.out.size))
  clear hB hm1 ho1
  go_wp2_with (fail)
  refine (known_v _).mono ?_
  rintro e w2 ⟨rfl, hB⟩
  have HB2 := Lib.hid (HB1.out.trans (hB.mono HB1.out.size))
  clear hB
  go_wp2_with (fail)
  go_ret
  exact ⟨rfl, HB2.out⟩

set_option maxRecDepth 100000 in
set_option maxHeartbeats 6400000 in
theorem holds_ok (base : Int) (n : Nd) (kind key ptr : Int) (w : World) (hc : madeC base n (kdOf kind) key ptr = 0) :
    Calls Try.prog 5 #[.int .u64 base, .agg (ndCells n), .agg (askC kind key ptr)] w fun e w' => e = .returned (.bool true) ∧ Below w.heap.size w w' := by
  have HT := Lib.hid (phS_start (traj_all (kdOf_lt kind) hc))
  have HWas := Lib.hid (show n.valid.length ≤ 100 ∧ (behL (kdOf kind) key ptr n.valid).length ≤ 100 from ⟨by have := plN_len n; simp [Nd.valid]; omega, by have := traj_now (traj_all (kdOf_lt kind) hc); omega⟩)
  have hS := made_stands (kdOf_lt kind) hc
  have hpos := made_pos (kdOf_lt kind) hc
  have HI := Lib.hid (info27 n)
  have hk0 : Blk ((w.alloc (.cells (ndCells n) 27)).alloc (.cells (askC kind key ptr) 39)) w.heap.size (ndCells n) 27 := (Blk.new w _ _).alloc _
  have hg0 : Blk ((w.alloc (.cells (ndCells n) 27)).alloc (.cells (askC kind key ptr) 39)) (w.heap.size + 1) (askC kind key ptr) 39 := by
    have := Blk.new (w.alloc (.cells (ndCells n) 27)) (askC kind key ptr) 39
    simpa using this
  have HK0 := Lib.hid hk0
  have HG0 := Lib.hid hg0
  have HL0 := Lib.hid (ndLoad hk0)
  have HB0 := Lib.hid (((Below.refl w.heap.size w).alloc (Nat.le_refl _) (.cells (ndCells n) 27)).alloc (by simp) (.cells (askC kind key ptr) 39))
  have HMd := Lib.hid (fun w => made_v base n kind key ptr w)
  have HVa := Lib.hid (fun w => rvalid_calls n w)
  have HBh := Lib.hid (fun w => behind_v n kind key ptr w)
  obtain ⟨Ls, hL⟩ : ∃ l, madeL base n (kdOf kind) key ptr = l := ⟨_, rfl⟩
  obtain ⟨was, hwas⟩ : ∃ l, n.valid = l := ⟨_, rfl⟩
  obtain ⟨now, hnow⟩ : ∃ l, behL (kdOf kind) key ptr was = l := ⟨_, rfl⟩
  rw [hwas] at HT HVa HBh HWas
  rw [hnow] at HT HBh HWas
  rw [hL] at HT HMd hpos
  rw [hc] at HMd
  have HS := Lib.hid hS
  have HLn := Lib.hid (show Ls.length ≤ 1000 by rw [← hL]; have := made_len9 base n (kdOf kind) key ptr; omega)
  clear hk0 hg0 hL hc hwas hnow hS
  unfold askC at *
  obtain ⟨w0, hw0⟩ : ∃ x, (w.alloc (.cells (ndCells n) 27)).alloc (.cells #[.int .i64 kind, .int .u64 key, .int .u64 ptr] 39) = x := ⟨_, rfl⟩
  have HB00 := Lib.hid (show w.heap.size < w0.heap.size by rw [← hw0]; simp; omega)
  have HW0 := Lib.hid hw0
  clear hw0
  go_enter Try.func5, Try.ntmps5
  go_wp2_with (with_reducible refine wpList_load_part (o := ⟨some 18, _, _, _, _, _⟩) rfl 27 _ rfl w.heap.size 0 rfl (ndCells n) _ HL0.out Try.underlying27 rfl HI.out ?_)
  rw [HW0.out] at HL0 HB0 HK0 HG0 ⊢
  refine (HMd.out _).mono ?_
  rintro e w1 ⟨a1, m1, cL, rfl, hm1, ho1, hB⟩
  have HB1 := Lib.hid (HB0.out.trans (hB.mono HB0.out.size))
  have HK1 := Lib.hid (HK0.out.below hB HK0.out.lt)
  have HG1 := Lib.hid (HG0.out.below hB HG0.out.lt)
  have HB01 := Lib.hid hB.size
  subst hm1
  obtain ⟨gL, cp, ev, hg1, hg2, _, _, hEL⟩ := own_ents ho1 rfl hpos
  cases ev
  have HEL := Lib.hid hEL
  have HgL := Lib.hid hg2
  have HgL2 := Lib.hid hg1
  clear hB ho1 hEL hg1 hg2 HMd HL0 HB0 HK0 HG0
  go_upto_region 4 with (fail)
  --GEN r_ho4
  refine wp_region_vals [Is (.agg (ndCells n)), RowV w1.heap.size was, Is (.agg (ndCells n)), Is (.agg #[.int .i64 kind, .int .u64 key, .int .u64 ptr]), RowV w1.heap.size now, RowV w1.heap.size was, RowV w1.heap.size now]
    (fun _ W W' => Below W.heap.size W W') (fun _ W => Below w1.heap.size w1 W) (by kernel_rfl) (by kernel_rfl) (by kernel_rfl) ?hst ?h0 ⟨?o0, ?o1, ?o2, ?o3, ?o4, ?o5, ?o6, trivial⟩ ?he
  case hst =>
    exact ⟨(fun _ _ _ _ _ _ h _ => h), (fun _ _ _ _ _ _ h hR => own_below h hR), (fun _ _ _ _ _ _ h _ => h), (fun _ _ _ _ _ _ h _ => h), (fun _ _ _ _ _ _ h hR => own_below h hR), (fun _ _ _ _ _ _ h hR => own_below h hR), (fun _ _ _ _ _ _ h hR => own_below h hR), trivial⟩
  case h0 =>
    exact (Below.refl _ _).drew
  case o0 =>
    intro L vs A W H hf hd K hK
    have e4 : A.tmps[4]?.getD undef = .pointer (some ⟨w.heap.size, 0, none⟩) := H.old 4 (by kernel_rfl)
    rw [if_pos (show Region.wanted _ _ = true from rfl)]
    exact wp_load_nd _ rfl w.heap.size n (ev_tmp e4) (HK1.out.below H.glob HK1.out.lt) (hK _ _ (Below.refl _ _) rfl H.glob)
  case o1 =>
    intro L vs A W H hf hd K hK
    have e26 := H.is 0 26 rfl rfl rfl (deps_of' hd 0 (by kernel_rfl)) (by kernel_rfl)
    rw [if_pos (show Region.wanted _ _ = true from rfl)]
    go_wp2_with (fail)
    refine (HVa.out _).mono ?_
    rintro e W2 ⟨v, rfl, hv, hB⟩
    exact hK _ _ hB (RowV.mono hv H.glob.size) (H.glob.trans (hB.mono H.glob.size))
  case o2 =>
    intro L vs A W H hf hd K hK
    have e4 : A.tmps[4]?.getD undef = .pointer (some ⟨w.heap.size, 0, none⟩) := H.old 4 (by kernel_rfl)
    rw [if_pos (show Region.wanted _ _ = true from rfl)]
    exact wp_load_nd _ rfl w.heap.size n (ev_tmp e4) (HK1.out.below H.glob HK1.out.lt) (hK _ _ (Below.refl _ _) rfl H.glob)
  case o3 =>
    intro L vs A W H hf hd K hK
    have e5 : A.tmps[5]?.getD undef = .pointer (some ⟨w.heap.size + 1, 0, none⟩) := H.old 5 (by kernel_rfl)
    have hg := HG1.out.below H.glob HG1.out.lt
    have d0 : W.cell? ⟨w.heap.size + 1, 0, none⟩ = some (.int .i64 kind) := by rw [hg.cell]; rfl
    have d1 : W.cell? ⟨w.heap.size + 1, 1, none⟩ = some (.int .u64 key) := by rw [hg.cell]; rfl
    have d2 : W.cell? ⟨w.heap.size + 1, 2, none⟩ = some (.int .u64 ptr) := by rw [hg.cell]; rfl
    go_simp
    exact hK _ _ (Below.refl _ _) rfl (H.glob)
  case o4 =>
    intro L vs A W H hf hd K hK
    have e28 := H.is 2 28 rfl rfl rfl (deps_of' hd 2 (by kernel_rfl)) (by kernel_rfl)
    have e29 := H.is 3 29 rfl rfl rfl (deps_of' hd 3 (by kernel_rfl)) (by kernel_rfl)
    rw [if_pos (show Region.wanted _ _ = true from rfl)]
    go_wp2_with (fail)
    refine (HBh.out _).mono ?_
    rintro e W2 ⟨v, rfl, hv, hB⟩
    exact hK _ _ hB (RowV.mono hv H.glob.size) (H.glob.trans (hB.mono H.glob.size))
  case o5 =>
    intro L vs A W H hf hd K hK
    obtain ⟨v27, e27, q27⟩ := H.val 1 27 rfl rfl rfl (deps_of' hd 1 (by kernel_rfl)) (by kernel_rfl)
    rw [if_pos (show Region.wanted _ _ = true from rfl)]
    go_simp
    exact hK _ _ (Below.refl _ _) q27 H.glob
  case o6 =>
    intro L vs A W H hf hd K hK
    obtain ⟨v30, e30, q30⟩ := H.val 4 30 rfl rfl rfl (deps_of' hd 4 (by kernel_rfl)) (by kernel_rfl)
    rw [if_pos (show Region.wanted _ _ = true from rfl)]
    go_simp
    exact hK _ _ (Below.refl _ _) q30 H.glob
  case he =>
    intro vs W hlen hv
    match vs, hlen, hv with
    | [x0_, x1_, x2_, x3_, x4_, x5_, x6_], _, hv =>
    obtain rfl : (.agg (ndCells n)) = x0_ := by obtain ⟨z, h1, h2⟩ := hv 0 _ rfl; cases h1; exact h2.symm
    have hx1 : (RowV w1.heap.size was) x1_ W := by obtain ⟨z, h1, h2⟩ := hv 1 _ rfl; cases h1; exact h2
    obtain rfl : (.agg (ndCells n)) = x2_ := by obtain ⟨z, h1, h2⟩ := hv 2 _ rfl; cases h1; exact h2.symm
    obtain rfl : (.agg #[.int .i64 kind, .int .u64 key, .int .u64 ptr]) = x3_ := by obtain ⟨z, h1, h2⟩ := hv 3 _ rfl; cases h1; exact h2.symm
    have hx4 : (RowV w1.heap.size now) x4_ W := by obtain ⟨z, h1, h2⟩ := hv 4 _ rfl; cases h1; exact h2
    have hx5 : (RowV w1.heap.size was) x5_ W := by obtain ⟨z, h1, h2⟩ := hv 5 _ rfl; cases h1; exact h2
    have hx6 : (RowV w1.heap.size now) x6_ W := by obtain ⟨z, h1, h2⟩ := hv 6 _ rfl; cases h1; exact h2
    intro L hall hG
    clear hv hlen
    obtain ⟨v1, rfl⟩ : ∃ v, v = x5_ := ⟨_, rfl⟩
    obtain ⟨v2, rfl⟩ : ∃ v, v = x6_ := ⟨_, rfl⟩
    have HW := Lib.hid (show HoW w w0.heap.size w.heap.size gL Ls v1 v2 was now n W from ⟨HK1.out.below hG HK1.out.lt, HEL.out.below hG HgL.out, hx5.mono HB01.out, hx6.mono HB01.out, HB1.out.trans (hG.mono HB1.out.size), Nat.le_refl _, HB00.out, HgL2.out⟩)
    clear hG hall hx1 hx4 hx5 hx6
    simp only [fill, if_true]
    go_simp
  --END
    obtain ⟨b4, hb4⟩ : ∃ x, w.heap.size = x := ⟨_, rfl⟩
    rw [hb4] at HW ⊢
    clear hb4 HK1 HG1 HEL HB1 HVa HBh HB01 HgL HgL2 HB00
    have HKn := Lib.hid (fun w => known_v w)
    go_wp2_with (fail)
    go_loopw [11, 12] (fun dv iv wr => HoRel base w w0.heap.size b4 gL Ls v1 v2 was now dv iv wr) (fun _ iv _ => Ls.length - (intOf iv).toNat)
    case atStart => exact ⟨0, n, false, Nat.zero_le _, rfl, rfl, HT.out, HW.out⟩
    case round =>
      obtain ⟨k, m, d, hk, rfl, rfl, hP, hW⟩ := hrel
      clear HW HT HI
      have HP := Lib.hid hP
      have HW := Lib.hid hW
      clear hP hW
      by_cases hlt : k < Ls.length
      · have b1 : (k : Int) < (Ls.length : Int) := by omega
        have b2 : ((k : Int)).toNat = k := by omega
        have HLt := Lib.hid hlt
        have hls := HLn.out
        obtain ⟨c1, c2⟩ := HW.out.l k hlt
        have hp2 := HP.out
        rw [drop_ent Ls hlt] at hp2
        obtain ⟨at_, hat⟩ : ∃ x, eK Ls k = x := ⟨_, rfl⟩
        obtain ⟨x, hx⟩ : ∃ x, eP Ls k = x := ⟨_, rfl⟩
        rw [hat, hx] at hp2
        rw [hat, Nat.zero_add] at c1
        rw [hx, Nat.zero_add] at c2
        obtain ⟨m', hput, hmay, hways⟩ := phS_step hp2
        have hput : putA base m at_ x = some m' := hput
        have HAp := Lib.hid (show ∀ w, Calls Try.prog 11 #[.int .u64 base, .agg (ndCells m), .agg #[.int .u64 at_, .int .u64 x]] w fun e w' => MkP m' 0 w e w' from fun w => by
          have := rapply_v base m at_ x w HS.out
          unfold putV at this
          rwa [hput] at this)
        have HgW := Lib.hid (show gL < wr.heap.size from HW.out.l.lt (by omega))
        have HMy := Lib.hid (show ∀ w, Calls Try.prog 17 #[.agg (ndCells m'), .int .u64 0, .bool false] w fun e W' => e = .returned (.bool true) ∧ Below w.heap.size w W' from fun w => by have := rmay_calls m' 0 false w; rwa [hmay] at this)
        have HVm := Lib.hid (fun w => rvalid_calls m' w)
        have HWays := Lib.hid hways
        have HI' := Lib.hid (info27 m')
        clear hat hx hp2 hput hmay hways
        go_upto_region 9 with (fail)
        --GEN r_ho9
        refine wp_region_valsA [Is (.int .u64 base), Is (.agg (ndCells m)), Is (.slice (some ⟨gL, 0, none⟩) Ls.length cL), Is (.int .i64 k), Is (.pointer (some ⟨gL, k * 2, none⟩)), Is (.agg #[.int .u64 at_, .int .u64 x]), Is (.tuple #[.agg (ndCells m'), .int .i64 0]), Is (.tuple #[.agg (ndCells m'), .int .i64 0]), Is (.agg (ndCells m')), Is (.int .i64 0), Any, Any, Is (.int .i64 0)]
          (fun _ W W' => Below wr.heap.size W W') (fun L a W => Below wr.heap.size wr W ∧ NewG wr.heap.size 13 10 11 m' L a W) (by kernel_rfl) (by kernel_rfl) (by kernel_rfl) ?hst ?h0 ⟨?o0, ?o1, ?o2, ?o3, ?o4, ?o5, ?o6, ?o7, ?o8, ?o9, ?o10, ?o11, ?o12, trivial⟩ ?he
        case hst =>
          exact ⟨(fun _ _ _ _ _ _ h _ => h), (fun _ _ _ _ _ _ h _ => h), (fun _ _ _ _ _ _ h _ => h), (fun _ _ _ _ _ _ h _ => h), (fun _ _ _ _ _ _ h _ => h), (fun _ _ _ _ _ _ h _ => h), (fun _ _ _ _ _ _ h _ => h), (fun _ _ _ _ _ _ h _ => h), (fun _ _ _ _ _ _ h _ => h), (fun _ _ _ _ _ _ h _ => h), (fun _ _ _ _ _ _ h _ => h), (fun _ _ _ _ _ _ h _ => h), (fun _ _ _ _ _ _ h _ => h), trivial⟩
        case h0 =>
          exact ⟨(Below.refl _ _).drew, NewG.none⟩
        case o0 =>
          intro L vs A W H hf hd K hK
          have e0 : A.tmps[0]?.getD undef = .int .u64 base := H.old 0 (by kernel_rfl)
          go_simp
          exact hK _ _ (Below.refl _ _) rfl (⟨H.glob.1, H.glob.2.keep rfl rfl (by simp) (Below.refl _ _)⟩)
        case o1 =>
          intro L vs A W H hf hd K hK
          have e4 : A.tmps[4]?.getD undef = .pointer (some ⟨b4, 0, none⟩) := H.old 4 (by kernel_rfl)
          rw [if_pos (show Region.wanted _ _ = true from rfl)]
          exact wp_load_nd _ rfl b4 m (ev_tmp e4) (HW.out.n.below H.glob.1 HW.out.n.lt) (hK _ _ (Below.refl _ _) rfl ⟨H.glob.1, H.glob.2.keep rfl rfl (by simp) (Below.refl _ _)⟩)
        case o2 =>
          intro L vs A W H hf hd K hK
          have e7 : A.tmps[7]?.getD undef = .slice (some ⟨gL, 0, none⟩) Ls.length cL := H.old 7 (by kernel_rfl)
          go_simp
          exact hK _ _ (Below.refl _ _) rfl (⟨H.glob.1, H.glob.2.keep rfl rfl (by simp) (Below.refl _ _)⟩)
        case o3 =>
          intro L vs A W H hf hd K hK
          have e12 : A.tmps[12]?.getD undef = .int .i64 k := H.old 12 (by kernel_rfl)
          go_simp
          exact hK _ _ (Below.refl _ _) rfl (⟨H.glob.1, H.glob.2.keep rfl rfl (by simp) (Below.refl _ _)⟩)
        case o4 =>
          intro L vs A W H hf hd K hK
          have e40 := H.is 2 40 rfl rfl rfl (deps_of' hd 2 (by kernel_rfl)) (by kernel_rfl)
          have e41 := H.is 3 41 rfl rfl rfl (deps_of' hd 3 (by kernel_rfl)) (by kernel_rfl)
          go_simp
          exact hK _ _ (Below.refl _ _) rfl (⟨H.glob.1, H.glob.2.keep rfl rfl (by simp) (Below.refl _ _)⟩)
        case o5 =>
          intro L vs A W H hf hd K hK
          have e42 := H.is 4 42 rfl rfl rfl (deps_of' hd 4 (by kernel_rfl)) (by kernel_rfl)
          have d1 := (H.glob.1.cell (p := ⟨gL, k * 2, none⟩) HgW.out).trans c1
          have d2 := (H.glob.1.cell (p := ⟨gL, k * 2 + 1, none⟩) HgW.out).trans c2
          go_simp
          exact hK _ _ (Below.refl _ _) rfl (⟨H.glob.1, H.glob.2.keep rfl rfl (by simp) (Below.refl _ _)⟩)
        case o6 =>
          intro L vs A W H hf hd K hK
          have e38 := H.is 0 38 rfl rfl rfl (deps_of' hd 0 (by kernel_rfl)) (by kernel_rfl)
          have e39 := H.is 1 39 rfl rfl rfl (deps_of' hd 1 (by kernel_rfl)) (by kernel_rfl)
          have e43 := H.is 5 43 rfl rfl rfl (deps_of' hd 5 (by kernel_rfl)) (by kernel_rfl)
          rw [if_pos (show Region.wanted _ _ = true from rfl)]
          go_wp2_with (fail)
          refine (HAp.out _).mono ?_
          rintro e W2 ⟨rfl, hB⟩
          exact hK _ _ (hB.mono H.glob.1.size) rfl ⟨H.glob.1.trans (hB.mono H.glob.1.size), H.glob.2.keep rfl rfl (by simp) hB⟩
        case o7 =>
          intro L vs A W H hf hd K hK
          have e44 := H.is 6 44 rfl rfl rfl (deps_of' hd 6 (by kernel_rfl)) (by kernel_rfl)
          go_simp
          exact hK _ _ (Below.refl _ _) rfl (⟨H.glob.1, H.glob.2.keep rfl rfl (by simp) (Below.refl _ _)⟩)
        case o8 =>
          intro L vs A W H hf hd K hK
          have e37 := H.is 7 37 rfl rfl rfl (deps_of' hd 7 (by kernel_rfl)) (by kernel_rfl)
          go_simp
          exact hK _ _ (Below.refl _ _) rfl (⟨H.glob.1, H.glob.2.keep rfl rfl (by simp) (Below.refl _ _)⟩)
        case o9 =>
          intro L vs A W H hf hd K hK
          have e37 := H.is 7 37 rfl rfl rfl (deps_of' hd 7 (by kernel_rfl)) (by kernel_rfl)
          go_simp
          exact hK _ _ (Below.refl _ _) rfl (⟨H.glob.1, H.glob.2.keep rfl rfl (by simp) (Below.refl _ _)⟩)
        case o10 =>
          intro L vs A W H hf hd K hK
          rw [if_pos (show Region.wanted _ _ = true from rfl)]
          have n11 := H.notYet 11 10 rfl hf (by kernel_rfl)
          have hgs := H.glob.1.size
          have hz : 13 < A.tmps.size := by rw [H.frame, fill_size]; exact of_decide_eq_true (by kernel_rfl)
          refine wp_alloc_nd rfl ?_
          exact hK _ _ ((Below.refl _ _).alloc hgs _) trivial ⟨H.glob.1.alloc hgs _, newG_alloc hz hgs n11 (by decide)⟩
        case o11 =>
          intro L vs A W H hf hd K hK
          obtain ⟨v13, e13, q13⟩ := H.val 10 13 rfl rfl rfl (deps_of' hd 10 (by kernel_rfl)) (by kernel_rfl)
          have e45 := H.is 8 45 rfl rfl rfl (deps_of' hd 8 (by kernel_rfl)) (by kernel_rfl)
          rw [if_pos (show Region.wanted _ _ = true from rfl)]
          have h10 : L 10 = true := deps_of' hd 10 (by kernel_rfl)
          obtain ⟨H2, x2, e13, hH, hb, _⟩ := H.glob.2 h10
          exact wp_store_nd _ _ rfl H2 m' x2 (ev_tmp e13) (ev_tmp e45) hb (hK _ _ (below_setRow (Below.refl _ _) hH _) trivial ⟨below_setRow H.glob.1 hH _, fun _ => ⟨H2, m', e13, hH, hb.row _, fun _ => rfl⟩⟩)
        case o12 =>
          intro L vs A W H hf hd K hK
          have e46 := H.is 9 46 rfl rfl rfl (deps_of' hd 9 (by kernel_rfl)) (by kernel_rfl)
          go_simp
          exact hK _ _ (Below.refl _ _) rfl (⟨H.glob.1, H.glob.2.keep rfl rfl (by simp) (Below.refl _ _)⟩)
        case he =>
          intro vs W hlen hv
          match vs, hlen, hv with
          | [x0_, x1_, x2_, x3_, x4_, x5_, x6_, x7_, x8_, x9_, x10_, x11_, x12_], _, hv =>
          obtain rfl : (.int .u64 base) = x0_ := by obtain ⟨z, h1, h2⟩ := hv 0 _ rfl; cases h1; exact h2.symm
          obtain rfl : (.agg (ndCells m)) = x1_ := by obtain ⟨z, h1, h2⟩ := hv 1 _ rfl; cases h1; exact h2.symm
          obtain rfl : (.slice (some ⟨gL, 0, none⟩) Ls.length cL) = x2_ := by obtain ⟨z, h1, h2⟩ := hv 2 _ rfl; cases h1; exact h2.symm
          obtain rfl : (.int .i64 k) = x3_ := by obtain ⟨z, h1, h2⟩ := hv 3 _ rfl; cases h1; exact h2.symm
          obtain rfl : (.pointer (some ⟨gL, k * 2, none⟩)) = x4_ := by obtain ⟨z, h1, h2⟩ := hv 4 _ rfl; cases h1; exact h2.symm
          obtain rfl : (.agg #[.int .u64 at_, .int .u64 x]) = x5_ := by obtain ⟨z, h1, h2⟩ := hv 5 _ rfl; cases h1; exact h2.symm
          obtain rfl : (.tuple #[.agg (ndCells m'), .int .i64 0]) = x6_ := by obtain ⟨z, h1, h2⟩ := hv 6 _ rfl; cases h1; exact h2.symm
          obtain rfl : (.tuple #[.agg (ndCells m'), .int .i64 0]) = x7_ := by obtain ⟨z, h1, h2⟩ := hv 7 _ rfl; cases h1; exact h2.symm
          obtain rfl : (.agg (ndCells m')) = x8_ := by obtain ⟨z, h1, h2⟩ := hv 8 _ rfl; cases h1; exact h2.symm
          obtain rfl : (.int .i64 0) = x9_ := by obtain ⟨z, h1, h2⟩ := hv 9 _ rfl; cases h1; exact h2.symm
          obtain rfl : (.int .i64 0) = x12_ := by obtain ⟨z, h1, h2⟩ := hv 12 _ rfl; cases h1; exact h2.symm
          intro L hall hG
          clear hv hlen
          obtain ⟨H2, x2, e13, hH, hb, hx⟩ := hG.2 (hall 10 (by decide))
          have hb2 : Blk W H2 (ndCells m') 27 := by rw [← hx (hall 11 (by decide))]; exact hb
          simp [fill, Act.put] at e13
          subst e13
          have HH := Lib.hid hb2
          have HW2 := Lib.hid (HW.out.keep hG.1)
          have HwH := Lib.hid hH
          clear hG hall hx hH hb hb2 c1 c2
          simp only [fill, if_true]
          go_simp
        --END
          have HLh := Lib.hid (ndLoad HH.out)
          go_wp2_with ((with_reducible refine wpList_load_gd (o := ⟨some 50, .load 27 (.tmp 13), _, _, _, _⟩) 27 (.tmp 13) ?hoq H2 0 ?hxq (ndCells m') _ HLh.out Try.underlying27 rfl HI'.out ?hwq ?_); (case hoq => rfl); (case hxq => rfl); (case hwq => rfl))
          refine (HMy.out _).mono ?_
          rintro e w3 ⟨rfl, hB⟩
          have HW3 := Lib.hid (HW2.out.keep hB)
          have HH3 := Lib.hid (HH.out.below hB HH.out.lt)
          have HLh3 := Lib.hid (ndLoad HH3.out)
          clear hB HLh HH HW2 HMy
          have hv8 : m'.valid.length ≤ 100 := by have := plN_len m'; simp [Nd.valid]; omega
          have HSw := Lib.hid (fun (v : Value) (B1 : Nat) (W : World) (h1 : W.ownsRow B1 60 2 v m'.valid.length (ecells m'.valid)) (h2 : RowV w0.heap.size was v1 W) => rsame_calls m'.valid was v v1 B1 w0.heap.size W (by omega) h1 h2)
          have HSn := Lib.hid (fun (v : Value) (B1 : Nat) (W : World) (h1 : W.ownsRow B1 60 2 v m'.valid.length (ecells m'.valid)) (h2 : RowV w0.heap.size now v2 W) => rsame_calls m'.valid now v v2 B1 w0.heap.size W (by omega) h1 h2)
          clear hv8
          rcases HWays.out with ⟨rfl, hsb, hP2⟩ | ⟨rfl, hsb, hsn, hP2⟩ | ⟨rfl, hsn, hP2⟩
          · rw [hsb] at HSw
            have HP2 := Lib.hid hP2
            clear hsb hP2 HWays
            go_upto_region 12 with (fail)
            go_upto_region 13 with (first | (with_reducible refine wpList_load_part (o := ⟨some 54, _, _, _, _, _⟩) rfl 27 _ rfl H2 0 rfl (ndCells m') _ HLh3.out Try.underlying27 rfl HI'.out ?_) | ((with_reducible refine wpList_store_ndc (o := ⟨none, .store 27 (.tmp 4) (.tmp 54), _, _, _, _⟩) ?hga (.tmp 4) (.tmp 54) ?hoa b4 ?csa m' m ?hxa ?hya HW3.out.n ?hma ?_); (case hga => rfl); (case hoa => rfl); (case hxa => rfl); (case hya => rfl); (case hma => rfl)))
            have HW4 := Lib.hid (HoW.set (m' := m') HW3.out)
            generalize w3.setRow b4 (ndCells m') = w4 at *
            go_simp
            have HL4 := Lib.hid (ndLoad HW4.out.n)
            go_wp2_with (with_reducible refine wpList_load_part (o := ⟨some 55, _, _, _, _, _⟩) rfl 27 _ rfl b4 0 rfl (ndCells m') _ HL4.out Try.underlying27 rfl HI'.out ?_)
            refine (HVm.out _).mono ?_
            rintro e w5 ⟨v5, rfl, hv5, hB⟩
            have HW5 := Lib.hid (HW4.out.keep hB)
            have HV5 := Lib.hid hv5
            clear hv5 hB HL4
            go_wp2_with (fail)
            refine (HSw.out _ _ _ HV5.out HW5.out.r1).mono ?_
            rintro e w6 ⟨rfl, hB⟩
            have HW6 := Lib.hid (HW5.out.keep hB)
            have hB6 := hB
            clear hB
            go_wp2_with (fail)
            go_roundw
            case rel => exact ⟨k + 1, m', false, by have := HLt.out; omega, by go_num, rfl, HP2.out, HW6.out⟩
            case measure => simp [intOf]; have := HLt.out; omega
          · rw [hsb] at HSw
            rw [hsn] at HSn
            have HP2 := Lib.hid hP2
            clear hsb hsn hP2 HWays
            go_upto_region 12 with (fail)
            go_upto_region 13 with (first | (with_reducible refine wpList_load_part (o := ⟨some 54, _, _, _, _, _⟩) rfl 27 _ rfl H2 0 rfl (ndCells m') _ HLh3.out Try.underlying27 rfl HI'.out ?_) | ((with_reducible refine wpList_store_ndc (o := ⟨none, .store 27 (.tmp 4) (.tmp 54), _, _, _, _⟩) ?hgb (.tmp 4) (.tmp 54) ?hob b4 ?csb m' m ?hxb ?hyb HW3.out.n ?hmb ?_); (case hgb => rfl); (case hob => rfl); (case hxb => rfl); (case hyb => rfl); (case hmb => rfl)))
            have HW4 := Lib.hid (HoW.set (m' := m') HW3.out)
            generalize w3.setRow b4 (ndCells m') = w4 at *
            go_simp
            have HL4 := Lib.hid (ndLoad HW4.out.n)
            go_wp2_with (with_reducible refine wpList_load_part (o := ⟨some 55, _, _, _, _, _⟩) rfl 27 _ rfl b4 0 rfl (ndCells m') _ HL4.out Try.underlying27 rfl HI'.out ?_)
            refine (HVm.out _).mono ?_
            rintro e w5 ⟨v5, rfl, hv5, hB⟩
            have HW5 := Lib.hid (HW4.out.keep hB)
            have HV5 := Lib.hid hv5
            clear hv5 hB HL4
            go_wp2_with (fail)
            refine (HSw.out _ _ _ HV5.out HW5.out.r1).mono ?_
            rintro e w6 ⟨rfl, hB⟩
            have HW6 := Lib.hid (HW5.out.keep hB)
            have hB6 := hB
            clear hB
            have HV6 := Lib.hid (own_below HV5.out hB6)
            go_wp2_with (fail)
            refine (HSn.out _ _ _ HV6.out HW6.out.r2).mono ?_
            rintro e w7 ⟨rfl, hB⟩
            have HW7 := Lib.hid (HW6.out.keep hB)
            clear hB
            go_wp2_with (fail)
            go_roundw
            case rel => exact ⟨k + 1, m', true, by have := HLt.out; omega, by go_num, rfl, HP2.out, HW7.out⟩
            case measure => simp [intOf]; have := HLt.out; omega
          · rw [hsn] at HSn
            have HP2 := Lib.hid hP2
            clear hsn hP2 HWays
            go_upto_region 12 with (fail)
            go_upto_region 13 with (first | (with_reducible refine wpList_load_part (o := ⟨some 54, _, _, _, _, _⟩) rfl 27 _ rfl H2 0 rfl (ndCells m') _ HLh3.out Try.underlying27 rfl HI'.out ?_) | ((with_reducible refine wpList_store_ndc (o := ⟨none, .store 27 (.tmp 4) (.tmp 54), _, _, _, _⟩) ?hgc (.tmp 4) (.tmp 54) ?hoc b4 ?csc m' m ?hxc ?hyc HW3.out.n ?hmc ?_); (case hgc => rfl); (case hoc => rfl); (case hxc => rfl); (case hyc => rfl); (case hmc => rfl)))
            have HW4 := Lib.hid (HoW.set (m' := m') HW3.out)
            generalize w3.setRow b4 (ndCells m') = w4 at *
            go_simp
            have HL4 := Lib.hid (ndLoad HW4.out.n)
            go_wp2_with (with_reducible refine wpList_load_part (o := ⟨some 55, _, _, _, _, _⟩) rfl 27 _ rfl b4 0 rfl (ndCells m') _ HL4.out Try.underlying27 rfl HI'.out ?_)
            refine (HVm.out _).mono ?_
            rintro e w5 ⟨v5, rfl, hv5, hB⟩
            have HW5 := Lib.hid (HW4.out.keep hB)
            have HV5 := Lib.hid hv5
            clear hv5 hB HL4
            go_wp2_with (fail)
            refine (HSn.out _ _ _ HV5.out HW5.out.r2).mono ?_
            rintro e w6 ⟨rfl, hB⟩
            have HW6 := Lib.hid (HW5.out.keep hB)
            have hB6 := hB
            clear hB
            go_wp2_with (fail)
            go_roundw
            case rel => exact ⟨k + 1, m', true, by have := HLt.out; omega, by go_num, rfl, HP2.out, HW6.out⟩
            case measure => simp [intOf]; have := HLt.out; omega
      · have hkl : Ls.drop k = [] := List.drop_eq_nil_of_le (by omega)
        have hp := HP.out
        rw [hkl] at hp
        obtain ⟨e1, e2, _⟩ := phS_done hp
        have HVm := Lib.hid (show ∀ w, Calls Try.prog 15 #[.agg (ndCells m)] w fun e W' => ∃ v, e = .returned v ∧ W'.ownsRow w.heap.size 60 2 v now.length (ecells now) ∧ Below w.heap.size w W' from fun w => by have := rvalid_calls m w; rwa [e1] at this)
        have HIv := Lib.hid (show ∀ w, Calls Try.prog 19 #[.agg (ndCells m)] w fun e W' => e = .returned (.int .i64 (-1)) ∧ Below w.heap.size w W' from fun w => by have := rinvalid_calls m w; rwa [e2] at this)
        have HSn := Lib.hid (fun (v : Value) (B1 : Nat) (W : World) (h1 : W.ownsRow B1 60 2 v now.length (ecells now)) (h2 : RowV w0.heap.size now v2 W) => show Calls Try.prog 18 #[v, v2] W fun e W' => e = .returned (.bool true) ∧ Below W.heap.size W W' from by have := rsame_calls now now v v2 B1 w0.heap.size W (by have := HWas.out.2; omega) h1 h2; rwa [beq_self_eq_true] at this)
        have HI' := Lib.hid (info27 m)
        have HLm := Lib.hid (ndLoad HW.out.n)
        have b1 : ¬ (k : Int) < (Ls.length : Int) := by omega
        clear hkl hp e1 e2
        go_wp2_with (with_reducible refine wpList_load_part (o := ⟨some 72, _, _, _, _, _⟩) rfl 27 _ rfl b4 0 rfl (ndCells m) _ HLm.out Try.underlying27 rfl HI'.out ?_)
        refine (HVm.out _).mono ?_
        rintro e w3 ⟨v3, rfl, hv3, hB⟩
        have HW3 := Lib.hid (HW.out.keep hB)
        have HV3 := Lib.hid hv3
        clear hB hv3
        go_wp2_with (fail)
        refine (HSn.out _ _ _ HV3.out HW3.out.r2).mono ?_
        rintro e w4 ⟨rfl, hB⟩
        have HW4 := Lib.hid (HW3.out.keep hB)
        have HL4 := Lib.hid (ndLoad HW4.out.n)
        clear hB
        go_wp2_with ((with_reducible refine wpList_load_gd (o := ⟨some 77, .load 27 (.tmp 4), _, _, _, _⟩) 27 (.tmp 4) ?hor b4 0 ?hxr (ndCells m) _ HL4.out Try.underlying27 rfl HI'.out ?hwr ?_); (case hor => rfl); (case hxr => rfl); (case hwr => rfl))
        refine (HIv.out _).mono ?_
        rintro e w5 ⟨rfl, hB⟩
        have HW5 := Lib.hid (HW4.out.keep hB)
        clear hB
        go_wp2_with (fail)
        refine (HKn.out _).mono ?_
        rintro e w6 ⟨rfl, hB⟩
        have HB6 := Lib.hid (HW5.out.b.trans (hB.mono HW5.out.b.size))
        clear hB
        go_wp2_with (fail)
        go_ret
        exact ⟨rfl, HB6.out⟩

theorem holds_law (base : Int) (n : Nd) (kind key ptr : Int) (w : World) :
    Calls Try.prog 5 #[.int .u64 base, .agg (ndCells n), .agg (askC kind key ptr)] w fun e w' => e = .returned (.bool true) ∧ Below w.heap.size w w' := by
  by_cases hc : madeC base n (kdOf kind) key ptr = 0
  · exact holds_ok base n kind key ptr w hc
  · exact holds_err base n kind key ptr w hc
end Go.Proofs.Ytbpaefhihdhdeaa
