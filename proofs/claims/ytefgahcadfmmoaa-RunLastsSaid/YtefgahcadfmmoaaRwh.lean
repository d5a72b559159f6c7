/-
  leveelaw10.one: a contract; the law RunWhole.
-/
import Derived.Test.YtefgahcadfmmoaaRok
namespace Go.Proofs.Ytefgahcadfmmoaa
open Go.RowKit
attribute [local go_sem] Oper.semAt_some
set_option linter.unusedVariables false

section
variable {S0 : Nat → Prop} {W w : World} {rb mb N : Nat} {l : List (Int × Int)} {c k ph : Nat} {ov : Bool} {lo st fl fe : Int}
/-- the sums that tell whether a step did one thing at most -/
def OneA (lo s1 s2 f1 f2 e1 e2 y1 y2 y3 y4 y5 y6 : Int) : Prop :=
  IntKind.u64.wrap (lo - lo) = 0 ∧ IntKind.u64.wrap s2 = y1 ∧ IntKind.u64.wrap (y1 - s1) = y2 ∧ IntKind.u64.wrap (y2 + f2) = y3 ∧ IntKind.u64.wrap (y3 - f1) = y4 ∧ IntKind.u64.wrap (y4 + e2) = y5 ∧ IntKind.u64.wrap (y5 - e1) = y6 ∧ decide (y6 ≤ 1) = true
theorem StepT.sums {k' ph' : Nat} {ov' : Bool} {st' fl' fe' : Int} (h : StepT l k ph ov st fl fe k' ph' ov' st' fl' fe') (h0 : 0 ≤ st ∧ 0 ≤ fl ∧ 0 ≤ fe) (h1 : st ≤ 1000000 ∧ fl ≤ 1000000 ∧ fe ≤ 1000000) (lo : Int) :
    OneA lo st st' fl fl' fe fe' st' (st' - st) (st' - st + fl') (st' - st + fl' - fl) (st' - st + fl' - fl + fe') (st' - st + fl' - fl + fe' - fe) := by
  have hb : (st' = st ∨ st' = st + 1) ∧ (fl' = fl ∨ fl' = fl + 1) ∧ (fe' = fe ∨ fe' = fe + 1) ∧ st' - st + (fl' - fl) + (fe' - fe) ≤ 1 := by
    rcases h.inv with ⟨_, _, _, _, rfl, rfl, rfl⟩ | ⟨_, _, _, _, _, _, rfl, rfl, rfl⟩ | ⟨_, _, _, _, _, _, rfl, rfl, rfl⟩ | ⟨_, _, _, _, _, _, rfl, rfl, rfl⟩ | ⟨_, _, _, _, _, rfl, rfl, rfl⟩ <;> omega
  have hw : ∀ x : Int, 0 ≤ x → x ≤ 18446744073709551615 → IntKind.u64.wrap x = x := fun x a b => IntWalk.u64_in _ ⟨a, b⟩
  unfold OneA
  refine ⟨by rw [hw _ (by omega) (by omega)]; omega, by rw [hw _ (by omega) (by omega)], by rw [hw _ (by omega) (by omega)], by rw [hw _ (by omega) (by omega)], by rw [hw _ (by omega) (by omega)], by rw [hw _ (by omega) (by omega)], by rw [hw _ (by omega) (by omega)], decide_eq_true (by omega)⟩
def OneQ (S0 : Nat → Prop) (W : World) (rb mb N : Nat) (l : List (Int × Int)) (c k ph : Nat) (ov : Bool) (lo st fl fe : Int) (e : Ending) (w' : World) : Prop :=
  ∃ k' ph' ov' st' fl' fe', e = .returned (.tuple #[.bool ov', .int .i64 0, .bool true]) ∧ StepT l k ph ov st fl fe k' ph' ov' st' fl' fe' ∧ OneK S0 W w' rb mb N l c k' ph' ov' lo st' fl' fe'
end
set_option maxRecDepth 100000 in
set_option maxHeartbeats 40000000 in
theorem lone_v {S0 : Nat → Prop} {W w : World} {rb mb N : Nat} {l : List (Int × Int)} {c k ph : Nat} {ov : Bool} {lo st fl fe : Int} (h : OneK S0 W w rb mb N l c k ph ov lo st fl fe) (hl : LOk AllL N l) (hc : c ≤ 64) (hl1 : l.length ≤ 1000000) (hst : st ≤ 1000000) (hfl : fl ≤ 1000000) (hfe : fe ≤ 1000000) :
    Calls Try.prog 18 #[.pointer (some ⟨mb, 0, none⟩), .pointer (some ⟨rb, 0, none⟩)] w (OneQ S0 W rb mb N l c k ph ov lo st fl fe) := by
  have HI := Lib.hid h
  have HS0 := Lib.hid h.stats.2
  have H00 := Lib.hid (And.intro h.stats.1 (And.intro hst (And.intro hfl hfe)))
  have HLO := Lib.hid hl
  have HCC := Lib.hid (And.intro hc hl1)
  clear h hl hc hl1 hst hfl hfe
  go_enter Try.func18, Try.ntmps18
  go_wp2_with (fail)
  refine HS0.out.mono ?_
  rintro e w1 ⟨rfl, hB1⟩
  unfold statCells
  obtain ⟨b7, hb7⟩ : ∃ b7, w1.heap.size = b7 := ⟨_, rfl⟩
  have hB2 : Below w.heap.size w (w1.alloc (.cells #[.int .u64 lo, .int .u64 st, .int .u64 fl, .int .u64 fe] 37)) := hB1.alloc hB1.size _
  have hK2 := Blk.new w1 #[.int .u64 lo, .int .u64 st, .int .u64 fl, .int .u64 fe] 37
  obtain ⟨w2, hw2⟩ : ∃ w2, w1.alloc (.cells #[.int .u64 lo, .int .u64 st, .int .u64 fl, .int .u64 fe] 37) = w2 := ⟨_, rfl⟩
  rw [hw2] at hB2 hK2
  rw [hb7] at hK2
  have HI2 := Lib.hid (HI.out.mono hB2)
  have HK2 := Lib.hid hK2
  have HW2 := Lib.hid (And.intro hw2 hb7)
  have HBb := Lib.hid (show w.heap.size ≤ b7 from by rw [← hb7]; exact hB1.size)
  obtain ⟨S, hSl, hrl, hst⟩ := HI.out.step HLO.out HCC.out.1 HCC.out.2 H00.out.2.1 H00.out.2.2.1 H00.out.2.2.2
  have HSt := Lib.hid (hst w2 hB2)
  have HSb := Lib.hid (show ¬ (b7 = rb ∨ S b7) from by
    rintro (h | h)
    · have := HBb.out; omega
    · have := hSl b7 h; have := HBb.out; omega)
  clear hB1 hB2 hK2 hw2 hb7 hst hSl hrl
  go_wp2_with (fail)
  rw [HW2.out.1, HW2.out.2]
  refine HSt.out.mono ?_
  rintro e w3 ⟨⟨k', ph', ov', st', fl', fe', rfl, ht, hI3⟩, hk3⟩
  have HT := Lib.hid ht
  have HI3 := Lib.hid hI3
  have HK3 := Lib.hid (HK2.out.kept hk3 HSb.out)
  have HS3 := Lib.hid hI3.stats.2
  clear ht hI3 hk3
  go_wp2_with (fail)
  refine HS3.out.mono ?_
  rintro e w4 ⟨rfl, hB4⟩
  unfold statCells
  obtain ⟨b10, hb10⟩ : ∃ b10, w4.heap.size = b10 := ⟨_, rfl⟩
  have hB5 : Below w3.heap.size w3 (w4.alloc (.cells #[.int .u64 lo, .int .u64 st', .int .u64 fl', .int .u64 fe'] 37)) := hB4.alloc hB4.size _
  have hK5 := Blk.new w4 #[.int .u64 lo, .int .u64 st', .int .u64 fl', .int .u64 fe'] 37
  obtain ⟨w5, hw5⟩ : ∃ w5, w4.alloc (.cells #[.int .u64 lo, .int .u64 st', .int .u64 fl', .int .u64 fe'] 37) = w5 := ⟨_, rfl⟩
  rw [hw5] at hB5 hK5
  rw [hb10] at hK5
  have HI5 := Lib.hid (HI3.out.mono hB5)
  have HW5 := Lib.hid (And.intro hw5 hb10)
  have HC := Lib.hid (show (w5.drew.cell? ⟨b10, 0, none⟩ = some (.int .u64 lo) ∧ w5.drew.cell? ⟨b10, 1, none⟩ = some (.int .u64 st') ∧ w5.drew.cell? ⟨b10, 2, none⟩ = some (.int .u64 fl') ∧ w5.drew.cell? ⟨b10, 3, none⟩ = some (.int .u64 fe')) ∧
      w5.drew.cell? ⟨b7, 0, none⟩ = some (.int .u64 lo) ∧ w5.drew.cell? ⟨b7, 1, none⟩ = some (.int .u64 st) ∧ w5.drew.cell? ⟨b7, 2, none⟩ = some (.int .u64 fl) ∧ w5.drew.cell? ⟨b7, 3, none⟩ = some (.int .u64 fe) from by
    have h7 := (HK3.out.kept (Keeps.of_below' hB5) (fun h => h)).drew
    have h10 := hK5.drew
    exact ⟨⟨h10.cell 0, h10.cell 1, h10.cell 2, h10.cell 3⟩, h7.cell 0, h7.cell 1, h7.cell 2, h7.cell 3⟩)
  obtain ⟨s1, hs1⟩ : ∃ s1, st = s1 := ⟨_, rfl⟩
  obtain ⟨f1, hf1⟩ : ∃ f1, fl = f1 := ⟨_, rfl⟩
  obtain ⟨e1, he1⟩ : ∃ e1, fe = e1 := ⟨_, rfl⟩
  obtain ⟨s2, hs2⟩ : ∃ s2, st' = s2 := ⟨_, rfl⟩
  obtain ⟨f2, hf2⟩ : ∃ f2, fl' = f2 := ⟨_, rfl⟩
  obtain ⟨e2, he2⟩ : ∃ e2, fe' = e2 := ⟨_, rfl⟩
  obtain ⟨y1, y2, y3, y4, y5, y6, hA⟩ : ∃ y1 y2 y3 y4 y5 y6, OneA lo s1 s2 f1 f2 e1 e2 y1 y2 y3 y4 y5 y6 := ⟨_, _, _, _, _, _, by
    have := HT.out.sums H00.out.1 H00.out.2 lo
    rw [hs1, hf1, he1, hs2, hf2, he2] at this
    exact this⟩
  have HA := Lib.hid hA
  have HEq := Lib.hid (And.intro hs1 (And.intro hf1 (And.intro he1 (And.intro hs2 (And.intro hf2 he2)))))
  rw [hs1, hf1, he1, hs2, hf2, he2] at HC
  obtain ⟨dd, hdd⟩ : ∃ dd, ov' = dd := ⟨_, rfl⟩
  rw [hdd] at HI5 HT ⊢
  clear hw5 hb10 hB4 hB5 hK5 hA hs1 hf1 he1 hs2 hf2 he2 hdd
  go_wp2_with (fail)
  rw [HW5.out.1, HW5.out.2]
  --GEN r_on4
  refine wp_region_vals [Is (.bool dd), Is (.int .i64 0), Is (.pointer (some ⟨b10, 0, none⟩)), Is (.int .u64 lo), Is (.pointer (some ⟨b7, 0, none⟩)), Is (.int .u64 lo), Is (.int .u64 0), Is (.pointer (some ⟨b10, 1, none⟩)), Is (.int .u64 s2), Is (.int .u64 y1), Is (.pointer (some ⟨b7, 1, none⟩)), Is (.int .u64 s1), Is (.int .u64 y2), Is (.pointer (some ⟨b10, 2, none⟩)), Is (.int .u64 f2), Is (.int .u64 y3), Is (.pointer (some ⟨b7, 2, none⟩)), Is (.int .u64 f1), Is (.int .u64 y4), Is (.pointer (some ⟨b10, 3, none⟩)), Is (.int .u64 e2), Is (.int .u64 y5), Is (.pointer (some ⟨b7, 3, none⟩)), Is (.int .u64 e1), Is (.int .u64 y6), Is (.bool true), Is (.bool dd), Is (.int .i64 0), Is (.bool true)]
    (fun _ _ _ => True) (fun _ W => W = w5.drew) (by kernel_rfl) (by kernel_rfl) (by kernel_rfl) ?hst ?h0 ⟨?o0, ?o1, ?o2, ?o3, ?o4, ?o5, ?o6, ?o7, ?o8, ?o9, ?o10, ?o11, ?o12, ?o13, ?o14, ?o15, ?o16, ?o17, ?o18, ?o19, ?o20, ?o21, ?o22, ?o23, ?o24, ?o25, ?o26, ?o27, ?o28, trivial⟩ ?he
  case hst =>
    exact ⟨(fun _ _ _ _ _ _ h _ => h), (fun _ _ _ _ _ _ h _ => h), (fun _ _ _ _ _ _ h _ => h), (fun _ _ _ _ _ _ h _ => h), (fun _ _ _ _ _ _ h _ => h), (fun _ _ _ _ _ _ h _ => h), (fun _ _ _ _ _ _ h _ => h), (fun _ _ _ _ _ _ h _ => h), (fun _ _ _ _ _ _ h _ => h), (fun _ _ _ _ _ _ h _ => h), (fun _ _ _ _ _ _ h _ => h), (fun _ _ _ _ _ _ h _ => h), (fun _ _ _ _ _ _ h _ => h), (fun _ _ _ _ _ _ h _ => h), (fun _ _ _ _ _ _ h _ => h), (fun _ _ _ _ _ _ h _ => h), (fun _ _ _ _ _ _ h _ => h), (fun _ _ _ _ _ _ h _ => h), (fun _ _ _ _ _ _ h _ => h), (fun _ _ _ _ _ _ h _ => h), (fun _ _ _ _ _ _ h _ => h), (fun _ _ _ _ _ _ h _ => h), (fun _ _ _ _ _ _ h _ => h), (fun _ _ _ _ _ _ h _ => h), (fun _ _ _ _ _ _ h _ => h), (fun _ _ _ _ _ _ h _ => h), (fun _ _ _ _ _ _ h _ => h), (fun _ _ _ _ _ _ h _ => h), (fun _ _ _ _ _ _ h _ => h), trivial⟩
  case h0 =>
    exact rfl
  case o0 =>
    intro L vs A W H hf hd K hK
    have e8 : A.tmps[8]?.getD undef = .bool dd := H.old 8 (by kernel_rfl)
    go_simp
    exact hK _ _ (trivial) rfl (H.glob)
  case o1 =>
    intro L vs A W H hf hd K hK
    have e9 : A.tmps[9]?.getD undef = .int .i64 0 := H.old 9 (by kernel_rfl)
    go_simp
    exact hK _ _ (trivial) rfl (H.glob)
  case o2 =>
    intro L vs A W H hf hd K hK
    have e10 : A.tmps[10]?.getD undef = .pointer (some ⟨b10, 0, none⟩) := H.old 10 (by kernel_rfl)
    go_simp
    exact hK _ _ (trivial) rfl (H.glob)
  case o3 =>
    intro L vs A W H hf hd K hK
    have e22 := H.is 2 22 rfl rfl rfl (deps_of' hd 2 (by kernel_rfl)) (by kernel_rfl)
    have d : W.cell? ⟨b10, 0, none⟩ = some (.int .u64 lo) := (by rw [H.glob]; exact HC.out.1.1)
    go_simp
    exact hK _ _ (trivial) rfl (H.glob)
  case o4 =>
    intro L vs A W H hf hd K hK
    have e7 : A.tmps[7]?.getD undef = .pointer (some ⟨b7, 0, none⟩) := H.old 7 (by kernel_rfl)
    go_simp
    exact hK _ _ (trivial) rfl (H.glob)
  case o5 =>
    intro L vs A W H hf hd K hK
    have e24 := H.is 4 24 rfl rfl rfl (deps_of' hd 4 (by kernel_rfl)) (by kernel_rfl)
    have d : W.cell? ⟨b7, 0, none⟩ = some (.int .u64 lo) := (by rw [H.glob]; exact HC.out.2.1)
    go_simp
    exact hK _ _ (trivial) rfl (H.glob)
  case o6 =>
    intro L vs A W H hf hd K hK
    have e23 := H.is 3 23 rfl rfl rfl (deps_of' hd 3 (by kernel_rfl)) (by kernel_rfl)
    have e25 := H.is 5 25 rfl rfl rfl (deps_of' hd 5 (by kernel_rfl)) (by kernel_rfl)
    have hw := HA.out.1
    go_simp
    exact hK _ _ (trivial) rfl (H.glob)
  case o7 =>
    intro L vs A W H hf hd K hK
    have e10 : A.tmps[10]?.getD undef = .pointer (some ⟨b10, 0, none⟩) := H.old 10 (by kernel_rfl)
    go_simp
    exact hK _ _ (trivial) rfl (H.glob)
  case o8 =>
    intro L vs A W H hf hd K hK
    have e27 := H.is 7 27 rfl rfl rfl (deps_of' hd 7 (by kernel_rfl)) (by kernel_rfl)
    have d : W.cell? ⟨b10, 1, none⟩ = some (.int .u64 s2) := (by rw [H.glob]; exact HC.out.1.2.1)
    go_simp
    exact hK _ _ (trivial) rfl (H.glob)
  case o9 =>
    intro L vs A W H hf hd K hK
    have e26 := H.is 6 26 rfl rfl rfl (deps_of' hd 6 (by kernel_rfl)) (by kernel_rfl)
    have e28 := H.is 8 28 rfl rfl rfl (deps_of' hd 8 (by kernel_rfl)) (by kernel_rfl)
    have hw := HA.out.2.1
    go_simp
    exact hK _ _ (trivial) rfl (H.glob)
  case o10 =>
    intro L vs A W H hf hd K hK
    have e7 : A.tmps[7]?.getD undef = .pointer (some ⟨b7, 0, none⟩) := H.old 7 (by kernel_rfl)
    go_simp
    exact hK _ _ (trivial) rfl (H.glob)
  case o11 =>
    intro L vs A W H hf hd K hK
    have e30 := H.is 10 30 rfl rfl rfl (deps_of' hd 10 (by kernel_rfl)) (by kernel_rfl)
    have d : W.cell? ⟨b7, 1, none⟩ = some (.int .u64 s1) := (by rw [H.glob]; exact HC.out.2.2.1)
    go_simp
    exact hK _ _ (trivial) rfl (H.glob)
  case o12 =>
    intro L vs A W H hf hd K hK
    have e29 := H.is 9 29 rfl rfl rfl (deps_of' hd 9 (by kernel_rfl)) (by kernel_rfl)
    have e31 := H.is 11 31 rfl rfl rfl (deps_of' hd 11 (by kernel_rfl)) (by kernel_rfl)
    have hw := HA.out.2.2.1
    go_simp
    exact hK _ _ (trivial) rfl (H.glob)
  case o13 =>
    intro L vs A W H hf hd K hK
    have e10 : A.tmps[10]?.getD undef = .pointer (some ⟨b10, 0, none⟩) := H.old 10 (by kernel_rfl)
    go_simp
    exact hK _ _ (trivial) rfl (H.glob)
  case o14 =>
    intro L vs A W H hf hd K hK
    have e33 := H.is 13 33 rfl rfl rfl (deps_of' hd 13 (by kernel_rfl)) (by kernel_rfl)
    have d : W.cell? ⟨b10, 2, none⟩ = some (.int .u64 f2) := (by rw [H.glob]; exact HC.out.1.2.2.1)
    go_simp
    exact hK _ _ (trivial) rfl (H.glob)
  case o15 =>
    intro L vs A W H hf hd K hK
    have e32 := H.is 12 32 rfl rfl rfl (deps_of' hd 12 (by kernel_rfl)) (by kernel_rfl)
    have e34 := H.is 14 34 rfl rfl rfl (deps_of' hd 14 (by kernel_rfl)) (by kernel_rfl)
    have hw := HA.out.2.2.2.1
    go_simp
    exact hK _ _ (trivial) rfl (H.glob)
  case o16 =>
    intro L vs A W H hf hd K hK
    have e7 : A.tmps[7]?.getD undef = .pointer (some ⟨b7, 0, none⟩) := H.old 7 (by kernel_rfl)
    go_simp
    exact hK _ _ (trivial) rfl (H.glob)
  case o17 =>
    intro L vs A W H hf hd K hK
    have e36 := H.is 16 36 rfl rfl rfl (deps_of' hd 16 (by kernel_rfl)) (by kernel_rfl)
    have d : W.cell? ⟨b7, 2, none⟩ = some (.int .u64 f1) := (by rw [H.glob]; exact HC.out.2.2.2.1)
    go_simp
    exact hK _ _ (trivial) rfl (H.glob)
  case o18 =>
    intro L vs A W H hf hd K hK
    have e35 := H.is 15 35 rfl rfl rfl (deps_of' hd 15 (by kernel_rfl)) (by kernel_rfl)
    have e37 := H.is 17 37 rfl rfl rfl (deps_of' hd 17 (by kernel_rfl)) (by kernel_rfl)
    have hw := HA.out.2.2.2.2.1
    go_simp
    exact hK _ _ (trivial) rfl (H.glob)
  case o19 =>
    intro L vs A W H hf hd K hK
    have e10 : A.tmps[10]?.getD undef = .pointer (some ⟨b10, 0, none⟩) := H.old 10 (by kernel_rfl)
    go_simp
    exact hK _ _ (trivial) rfl (H.glob)
  case o20 =>
    intro L vs A W H hf hd K hK
    have e39 := H.is 19 39 rfl rfl rfl (deps_of' hd 19 (by kernel_rfl)) (by kernel_rfl)
    have d : W.cell? ⟨b10, 3, none⟩ = some (.int .u64 e2) := (by rw [H.glob]; exact HC.out.1.2.2.2)
    go_simp
    exact hK _ _ (trivial) rfl (H.glob)
  case o21 =>
    intro L vs A W H hf hd K hK
    have e38 := H.is 18 38 rfl rfl rfl (deps_of' hd 18 (by kernel_rfl)) (by kernel_rfl)
    have e40 := H.is 20 40 rfl rfl rfl (deps_of' hd 20 (by kernel_rfl)) (by kernel_rfl)
    have hw := HA.out.2.2.2.2.2.1
    go_simp
    exact hK _ _ (trivial) rfl (H.glob)
  case o22 =>
    intro L vs A W H hf hd K hK
    have e7 : A.tmps[7]?.getD undef = .pointer (some ⟨b7, 0, none⟩) := H.old 7 (by kernel_rfl)
    go_simp
    exact hK _ _ (trivial) rfl (H.glob)
  case o23 =>
    intro L vs A W H hf hd K hK
    have e42 := H.is 22 42 rfl rfl rfl (deps_of' hd 22 (by kernel_rfl)) (by kernel_rfl)
    have d : W.cell? ⟨b7, 3, none⟩ = some (.int .u64 e1) := (by rw [H.glob]; exact HC.out.2.2.2.2)
    go_simp
    exact hK _ _ (trivial) rfl (H.glob)
  case o24 =>
    intro L vs A W H hf hd K hK
    have e41 := H.is 21 41 rfl rfl rfl (deps_of' hd 21 (by kernel_rfl)) (by kernel_rfl)
    have e43 := H.is 23 43 rfl rfl rfl (deps_of' hd 23 (by kernel_rfl)) (by kernel_rfl)
    have hw := HA.out.2.2.2.2.2.2.1
    go_simp
    exact hK _ _ (trivial) rfl (H.glob)
  case o25 =>
    intro L vs A W H hf hd K hK
    have e44 := H.is 24 44 rfl rfl rfl (deps_of' hd 24 (by kernel_rfl)) (by kernel_rfl)
    have hw := HA.out.2.2.2.2.2.2.2
    go_simp
    exact hK _ _ (trivial) rfl (H.glob)
  case o26 =>
    intro L vs A W H hf hd K hK
    have e20 := H.is 0 20 rfl rfl rfl (deps_of' hd 0 (by kernel_rfl)) (by kernel_rfl)
    go_simp
    exact hK _ _ (trivial) rfl (H.glob)
  case o27 =>
    intro L vs A W H hf hd K hK
    have e21 := H.is 1 21 rfl rfl rfl (deps_of' hd 1 (by kernel_rfl)) (by kernel_rfl)
    go_simp
    exact hK _ _ (trivial) rfl (H.glob)
  case o28 =>
    intro L vs A W H hf hd K hK
    have e45 := H.is 25 45 rfl rfl rfl (deps_of' hd 25 (by kernel_rfl)) (by kernel_rfl)
    go_simp
    exact hK _ _ (trivial) rfl (H.glob)
  case he =>
    intro vs W hlen hv
    match vs, hlen, hv with
    | [x0_, x1_, x2_, x3_, x4_, x5_, x6_, x7_, x8_, x9_, x10_, x11_, x12_, x13_, x14_, x15_, x16_, x17_, x18_, x19_, x20_, x21_, x22_, x23_, x24_, x25_, x26_, x27_, x28_], _, hv =>
    obtain rfl : (.bool dd) = x0_ := by obtain ⟨z, h1, h2⟩ := hv 0 _ rfl; cases h1; exact h2.symm
    obtain rfl : (.int .i64 0) = x1_ := by obtain ⟨z, h1, h2⟩ := hv 1 _ rfl; cases h1; exact h2.symm
    obtain rfl : (.pointer (some ⟨b10, 0, none⟩)) = x2_ := by obtain ⟨z, h1, h2⟩ := hv 2 _ rfl; cases h1; exact h2.symm
    obtain rfl : (.int .u64 lo) = x3_ := by obtain ⟨z, h1, h2⟩ := hv 3 _ rfl; cases h1; exact h2.symm
    obtain rfl : (.pointer (some ⟨b7, 0, none⟩)) = x4_ := by obtain ⟨z, h1, h2⟩ := hv 4 _ rfl; cases h1; exact h2.symm
    obtain rfl : (.int .u64 lo) = x5_ := by obtain ⟨z, h1, h2⟩ := hv 5 _ rfl; cases h1; exact h2.symm
    obtain rfl : (.int .u64 0) = x6_ := by obtain ⟨z, h1, h2⟩ := hv 6 _ rfl; cases h1; exact h2.symm
    obtain rfl : (.pointer (some ⟨b10, 1, none⟩)) = x7_ := by obtain ⟨z, h1, h2⟩ := hv 7 _ rfl; cases h1; exact h2.symm
    obtain rfl : (.int .u64 s2) = x8_ := by obtain ⟨z, h1, h2⟩ := hv 8 _ rfl; cases h1; exact h2.symm
    obtain rfl : (.int .u64 y1) = x9_ := by obtain ⟨z, h1, h2⟩ := hv 9 _ rfl; cases h1; exact h2.symm
    obtain rfl : (.pointer (some ⟨b7, 1, none⟩)) = x10_ := by obtain ⟨z, h1, h2⟩ := hv 10 _ rfl; cases h1; exact h2.symm
    obtain rfl : (.int .u64 s1) = x11_ := by obtain ⟨z, h1, h2⟩ := hv 11 _ rfl; cases h1; exact h2.symm
    obtain rfl : (.int .u64 y2) = x12_ := by obtain ⟨z, h1, h2⟩ := hv 12 _ rfl; cases h1; exact h2.symm
    obtain rfl : (.pointer (some ⟨b10, 2, none⟩)) = x13_ := by obtain ⟨z, h1, h2⟩ := hv 13 _ rfl; cases h1; exact h2.symm
    obtain rfl : (.int .u64 f2) = x14_ := by obtain ⟨z, h1, h2⟩ := hv 14 _ rfl; cases h1; exact h2.symm
    obtain rfl : (.int .u64 y3) = x15_ := by obtain ⟨z, h1, h2⟩ := hv 15 _ rfl; cases h1; exact h2.symm
    obtain rfl : (.pointer (some ⟨b7, 2, none⟩)) = x16_ := by obtain ⟨z, h1, h2⟩ := hv 16 _ rfl; cases h1; exact h2.symm
    obtain rfl : (.int .u64 f1) = x17_ := by obtain ⟨z, h1, h2⟩ := hv 17 _ rfl; cases h1; exact h2.symm
    obtain rfl : (.int .u64 y4) = x18_ := by obtain ⟨z, h1, h2⟩ := hv 18 _ rfl; cases h1; exact h2.symm
    obtain rfl : (.pointer (some ⟨b10, 3, none⟩)) = x19_ := by obtain ⟨z, h1, h2⟩ := hv 19 _ rfl; cases h1; exact h2.symm
    obtain rfl : (.int .u64 e2) = x20_ := by obtain ⟨z, h1, h2⟩ := hv 20 _ rfl; cases h1; exact h2.symm
    obtain rfl : (.int .u64 y5) = x21_ := by obtain ⟨z, h1, h2⟩ := hv 21 _ rfl; cases h1; exact h2.symm
    obtain rfl : (.pointer (some ⟨b7, 3, none⟩)) = x22_ := by obtain ⟨z, h1, h2⟩ := hv 22 _ rfl; cases h1; exact h2.symm
    obtain rfl : (.int .u64 e1) = x23_ := by obtain ⟨z, h1, h2⟩ := hv 23 _ rfl; cases h1; exact h2.symm
    obtain rfl : (.int .u64 y6) = x24_ := by obtain ⟨z, h1, h2⟩ := hv 24 _ rfl; cases h1; exact h2.symm
    obtain rfl : (.bool true) = x25_ := by obtain ⟨z, h1, h2⟩ := hv 25 _ rfl; cases h1; exact h2.symm
    obtain rfl : (.bool dd) = x26_ := by obtain ⟨z, h1, h2⟩ := hv 26 _ rfl; cases h1; exact h2.symm
    obtain rfl : (.int .i64 0) = x27_ := by obtain ⟨z, h1, h2⟩ := hv 27 _ rfl; cases h1; exact h2.symm
    obtain rfl : (.bool true) = x28_ := by obtain ⟨z, h1, h2⟩ := hv 28 _ rfl; cases h1; exact h2.symm
    intro L hall hG
    clear hv hlen
    have HW := hG
    clear hG hall
    subst HW
    simp only [fill, if_true]
    simp [Act.put]
  --END
    go_wp2_with (fail)
    (try simp only [Exit.inBlock, Exit.then])
    go_ret3
    refine ⟨_, _, _, _, _, _, rfl, ?_, HI5.out.drew⟩
    have h := HEq.out
    exact HT.out
end Go.Proofs.Ytefgahcadfmmoaa
