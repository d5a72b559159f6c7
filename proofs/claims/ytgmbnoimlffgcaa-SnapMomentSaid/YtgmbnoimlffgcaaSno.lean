/-
  The document's Trim, and the law's trim: contracts.
-/
import Derived.Test.YtgmbnoimlffgcaaSnl
namespace Go.Proofs.Ytgmbnoimlffgcaa
open Go.RowKit
attribute [local go_sem] Oper.semAt_some
set_option linter.unusedVariables false

theorem wpList_load_ndg {ops : Array Oper} {rest : List Oper} {o : Oper} {a : Act} {w : World} {Q : Exit → Act → World → Prop} (hw : Region.wanted o (yielded ops a.tmps) = true) (x : Operand) (ho : o.op = .load 40 x) (g : Nat) (n : Nd)
    (hx : a.eval x = .pointer (some ⟨g, 0, none⟩)) (hb : Blk w g (ndCells n) 40) (h : wpList Try.prog ops Q rest (a.put o.dst (.agg (ndCells n))) w) : wpList Try.prog ops Q (o :: rest) a w := by
  simp only [wpList, hw, if_true]
  exact .inl (wp_load_nd x ho g n hx hb h)
set_option maxRecDepth 20000 in
theorem wp_eq_nd {a : Act} {w : World} {K : Act → World → Prop} {Q : Exit → Act → World → Prop} (d : Option Tmp) (i j : Nat) (ty : TypeId) (pos : String) (aft : Array Edge) (g : Option (Nat × Bool)) (n : Nd)
    (hx : a.tmps[i]?.getD undef = .agg (ndCells n)) (hy : a.tmps[j]?.getD undef = .agg (ndCells n))
    (h : K (a.put d (.bool true)) w) : Oper.wp Try.prog ⟨d, .binOp .eql 40 (.tmp i) (.tmp j) 40, ty, pos, aft, g⟩ a w K Q := by
  have q := fun w => eq_nd n w
  go_simp
  exact h
theorem wpList_eq_ndg {ops : Array Oper} {rest : List Oper} {a : Act} {w : World} {Q : Exit → Act → World → Prop} (d : Option Tmp) (i j : Nat) (ty : TypeId) (pos : String) (aft : Array Edge) (g : Option (Nat × Bool)) (n : Nd)
    (hw : Region.wanted ⟨d, .binOp .eql 40 (.tmp i) (.tmp j) 40, ty, pos, aft, g⟩ (yielded ops a.tmps) = true)
    (hx : a.tmps[i]?.getD undef = .agg (ndCells n)) (hy : a.tmps[j]?.getD undef = .agg (ndCells n)) (h : wpList Try.prog ops Q rest (a.put d (.bool true)) w) : wpList Try.prog ops Q (⟨d, .binOp .eql 40 (.tmp i) (.tmp j) 40, ty, pos, aft, g⟩ :: rest) a w := by
  simp only [wpList, hw, if_true]
  exact .inl (wp_eq_nd d i j ty pos aft g n hx hy h)
theorem SnI.le {sb : Nat} {mv : Option Addr} {vw : List Int} {a : Int} {i : Nat} {s : Sn} (h : SnI sb mv vw a i s) : i ≤ 42 := by
  obtain ⟨_, h | ⟨kn, hR, h⟩ | ⟨kn, hR, h⟩ | h | h⟩ := h
  · omega
  · have := idx_le hR.lt; have := h.2.2.2.2; omega
  · have := idx_le hR.lt; have := h.2.2.2.2; omega
  · have := h.2.2.2.2.2.2.2; omega
  · have := h.2.2.2.2.2.2.2; omega
theorem SnI.new (sb : Nat) (mv : Option Addr) (vw : List Int) (a : Int) : SnI sb mv vw a 0 (snNew sb mv a) := ⟨⟨rfl, rfl, rfl⟩, .inl ⟨rfl, rfl, rfl, rfl, rfl, rfl, rfl⟩⟩
/-- a snapshot under way -/
structure SnW (w5 : World) (sb mb : Nat) (S : Nat → Prop) (vs : List Int) (a st fl fe : Int) (k : Nat) (wr : World) : Prop where
  s : ∃ s, Blk wr sb (snCells s) 62 ∧ SnI sb (some ⟨mb, 0, none⟩) vs a k s
  m : ∃ lo, MemV wr mb S vs lo st fl fe
  k : Keeps (fun i => i = sb ∨ S i) w5 wr
/-- a snapshot that is over -/
structure SnZ (w5 : World) (sb mb : Nat) (S : Nat → Prop) (vs : List Int) (a st fl fe er : Int) (wr : World) : Prop where
  s : ∃ s, Blk wr sb (snCells s) 62 ∧ SnD sb vs a er s
  m : ∃ lo, MemV wr mb S vs lo st fl fe
  k : Keeps (fun i => i = sb ∨ S i) w5 wr
def StepW (w5 : World) (sb mb : Nat) (S : Nat → Prop) (vs : List Int) (a st fl fe : Int) (k : Nat) (e : Ending) (w' : World) : Prop :=
  (e = .returned (.tuple #[.bool false, .int .i64 0]) ∧ SnW w5 sb mb S vs a st fl fe (k + 1) w') ∨ (∃ er, e = .returned (.tuple #[.bool true, .int .i64 er]) ∧ SnZ w5 sb mb S vs a st fl fe er w')
theorem step_w {w5 wr : World} {sb mb : Nat} {S : Nat → Prop} {vs : List Int} {a st fl fe : Int} {k : Nat} (h : SnW w5 sb mb S vs a st fl fe k wr) (hS : ¬ S sb) (hu : U64s vs) :
    Calls Try.prog 11 #[.pointer (some ⟨sb, 0, none⟩)] wr (StepW w5 sb mb S vs a st fl fe k) := by
  obtain ⟨⟨s, hb, hI⟩, ⟨lo, is, mk, F, hm⟩, hk⟩ := h
  refine (step_i wr s sb mb S vs is mk F lo st fl fe a k hb hm hS hI hu).mono ?_
  rintro e w' ⟨d, er, s', lo', hR, hP, _⟩
  have hk' := hk.trans hP.k
  rcases hR with ⟨rfl, rfl, hI'⟩ | ⟨rfl, hD⟩
  · exact .inl ⟨hP.e, ⟨s', hP.b, hI'⟩, ⟨lo', is, mk, F, hP.m⟩, hk'⟩
  · exact .inr ⟨er, hP.e, ⟨s', hP.b, hD⟩, ⟨lo', is, mk, F, hP.m⟩, hk'⟩

/-! ### what the chapter's row reads -/
theorem pthB_congr {W V : Nat → Int} (h : ∀ i, i < 24 → W i = V i) (i : Nat) : pthB W i = pthB V i := by
  rw [Bool.eq_iff_iff, pthB_iff, pthB_iff]
  constructor
  · rintro (h1 | h1 | ⟨h1, h2, h3⟩)
    · exact .inl h1
    · exact .inr (.inl h1)
    · exact .inr (.inr ⟨h1, h2, fun j hj h9 ho => by rw [← h j (by omega)]; exact h3 j hj h9 ho⟩)
  · rintro (h1 | h1 | ⟨h1, h2, h3⟩)
    · exact .inl h1
    · exact .inr (.inl h1)
    · exact .inr (.inr ⟨h1, h2, fun j hj h9 ho => by rw [h j (by omega)]; exact h3 j hj h9 ho⟩)
theorem rdW_congr {W V : Nat → Int} (h : ∀ i, i < 24 → W i = V i) (i : Nat) : rdW W 24 i = rdW V 24 i := by
  unfold rdW
  rw [pthB_congr h]
  split
  · rename_i c
    exact h i (by rcases c with c | c; omega; exact c.2)
  · rfl
theorem nTo_congr {f g : Nat → Int} (h : ∀ i, i < 24 → f i = g i) : ndCells (nTo f 8) = ndCells (nTo g 8) := by
  have hk : ∀ i, i < 8 → (nTo f 8).k i = (nTo g 8).k i := fun i hi => by
    show (if i < 8 then f (8 + 2 * i) else 0) = (if i < 8 then g (8 + 2 * i) else 0)
    rw [h _ (by omega)]
  have hp : ∀ i, i < 8 → (nTo f 8).p i = (nTo g 8).p i := fun i hi => by
    show (if i < 8 then f (9 + 2 * i) else 0) = (if i < 8 then g (9 + 2 * i) else 0)
    rw [h _ (by omega)]
  have h8 : ∀ (f g : Nat → Int), (∀ i, i < 8 → f i = g i) → u8s f = u8s g := fun f g h => List.map_congr_left (fun i hi => by rw [h i (List.mem_range.1 hi)])
  unfold ndCells
  rw [h8 _ _ hk, h8 _ _ hp, show (nTo f 8).lv = (nTo g 8).lv from (by show f 0 - tagM = g 0 - tagM; rw [h 0 (by omega)]), show (nTo f 8).lo = (nTo g 8).lo from h 1 (by omega), show (nTo f 8).nx = (nTo g 8).nx from h 2 (by omega), show (nTo f 8).ct = (nTo g 8).ct from h 3 (by omega), show (nTo f 8).fi = (nTo g 8).fi from h 4 (by omega)]
def ndF : Nd := { nd0 with fi := 1088 }
def n0 : Nd := (((ndF.withK 0 5).withP 0 2112).withK 1 9).withP 1 2176
theorem n0_rd : ∀ i, i < 24 → rdW (wordsF n0) 24 i = wordsF n0 i := by decide
theorem n0_self : ndCells (nTo (wordsF n0) 8) = ndCells n0 := by rfl
theorem n0_lv : (Lit.int .i64 n0.lv).wf = true := by decide
theorem n0_wf : n0.Wf := by
  have z0 : (Lit.int .u64 0).wf = true := by decide
  refine ⟨n0_lv, z0, z0, z0, (by decide), fun i hi => ?_, fun i hi => ?_⟩
  · have : i = 0 ∨ i = 1 ∨ i = 2 ∨ i = 3 ∨ i = 4 ∨ i = 5 ∨ i = 6 ∨ i = 7 := by omega
    rcases this with rfl | rfl | rfl | rfl | rfl | rfl | rfl | rfl <;> decide
  · have : i = 0 ∨ i = 1 ∨ i = 2 ∨ i = 3 ∨ i = 4 ∨ i = 5 ∨ i = 6 ∨ i = 7 := by omega
    rcases this with rfl | rfl | rfl | rfl | rfl | rfl | rfl | rfl <;> decide
/-- the words of a memory at 1088 -/
theorem wdM_at {vs : List Int} (hl : vs.length = 512) (i : Nat) (hi : i < 24) : wdM vs 1088 i = vs.getD (136 + i) 0 ∧ erM vs 1088 i = 0 := by
  have h1 : wrdA 1088 (i : Int) = 1088 + 8 * (i : Int) := IntWalk.u64_in _ (by omega)
  have h2 : atE vs.length (1088 + 8 * (i : Int)) = 0 := by rw [hl]; unfold atE; rw [if_neg (by omega)]
  unfold wdM erM ldW
  rw [h1, h2, if_pos rfl]
  exact ⟨by rw [show ((1088 + 8 * (i : Int)) / 8).toNat = 136 + i by omega], rfl⟩
/-- what a snapshot of the chapter's row is -/
theorem known_over {sb : Nat} {vs : List Int} {er : Int} {s : Sn} (hl : vs.length = 512) (hv : ∀ i, i < 24 → vs.getD (136 + i) 0 = wordsF n0 i) (h : SnD sb vs 1088 er s) : er = 0 ∧ ndCells s.found = ndCells n0 ∧ s.has = false := by
  have hW : ∀ i, i < 24 → wdM vs 1088 i = wordsF n0 i := fun i hi => (wdM_at hl i hi).1.trans (hv i hi)
  have hE : ∀ i, i < 24 → erM vs 1088 i = 0 := fun i hi => (wdM_at hl i hi).2
  have h2 : wdM vs 1088 2 = 0 := (hW 2 (by decide)).trans (by decide)
  have hR : ∀ i, i < 24 → rdW (wdM vs 1088) 24 i = wordsF n0 i := fun i hi => (rdW_congr hW i).trans (n0_rd i hi)
  rcases h.res with ⟨he, h3 | ⟨j, _, hj, h3⟩ | ⟨h3, _⟩⟩ | ⟨he, hf, hh, _⟩
  · rw [hE 3 (by decide)] at h3; cases h3
  · rw [hE j hj] at h3; cases h3
  · exact absurd h2 h3
  · have hb : ofBad (rdW (wdM vs 1088) 24) = false := by
      unfold ofBad
      rw [hR 0 (by decide)]; decide
    have ho : ofV (rdW (wdM vs 1088) 24) = (nTo (rdW (wdM vs 1088) 24) 8, 0) := by unfold ofV; rw [hb]; rfl
    rw [ho] at he hf
    refine ⟨he, ?_, ?_⟩
    · rw [hf, nTo_congr hR, n0_self]
    · rw [hh, decide_eq_false (fun h => h h2)]
end Go.Proofs.Ytgmbnoimlffgcaa
namespace Go.Proofs.Ytgmbnoimlffgcaa
open Go.RowKit
attribute [local go_sem] Oper.semAt_some
set_option linter.unusedVariables false

set_option maxRecDepth 100000 in
set_option maxHeartbeats 16000000 in
theorem known_v (w : World) : Calls Try.prog 8 #[] w fun e w' => e = .returned (.bool true) ∧ Below w.heap.size w w' := by
  obtain ⟨nb, hnb⟩ : ∃ nb, w.heap.size = nb := ⟨_, rfl⟩
  have hb0 : Blk (w.alloc (.cells (ndCells nd0) 40)) nb (ndCells nd0) 40 := by rw [← hnb]; exact Blk.new w _ _
  have hb1 := hb0.row (ndCells ndF)
  have k1 : Below nb w ((w.alloc (.cells (ndCells nd0) 40)).setRow nb (ndCells ndF)) := below_setRow ((Below.refl nb w).alloc (by omega) _) (Nat.le_refl _) _
  have HB0 := Lib.hid hb0
  obtain ⟨w1, hw1⟩ : ∃ w1, (w.alloc (.cells (ndCells nd0) 40)).setRow nb (ndCells ndF) = w1 := ⟨_, rfl⟩
  have HW1 := Lib.hid hw1
  have HNb := Lib.hid hnb
  rw [hw1] at hb1 k1
  have HB1 := Lib.hid hb1
  have HK1 := Lib.hid k1
  have d5 : w1.cell? ⟨nb, 5, none⟩ = some (.int .u64 0) := hb1.cell 5
  have d13 : w1.cell? ⟨nb, 13, none⟩ = some (.int .u64 0) := hb1.cell 13
  have d6 : w1.cell? ⟨nb, 6, none⟩ = some (.int .u64 0) := hb1.cell 6
  have d14 : w1.cell? ⟨nb, 14, none⟩ = some (.int .u64 0) := hb1.cell 14
  have f5 := hb1.frozen 5
  have f13 := hb1.frozen 13
  have f6 := hb1.frozen 6
  have f14 := hb1.frozen 14
  clear hb0 hb1 k1 hw1
  rw [hnb]
  clear hnb
  go_enter Try.func8, Try.ntmps8
  go_upto_region 2 with (first
    | ((with_reducible refine wpList_alloc_ndAt (o := ⟨some 1, _, _, _, _, _⟩) rfl rfl nb ?hz ?_); (case hz => exact HNb.out))
    | ((with_reducible refine wpList_store_ndc (o := ⟨none, .store 40 (.tmp 1) (.tmp 13), _, _, _, _⟩) ?hgc (.tmp 1) (.tmp 13) ?hoc nb ?csc ndF nd0 ?hxc ?hyc ?hbc ?hmc ?_); (case hgc => rfl); (case hoc => rfl); (case hxc => exact ev_tmp (by simp [Act.put])); (case hyc => exact ev_tmp (by simp [Act.put]; rfl)); (case hmc => rfl); (case hbc => exact HB0.out); rw [HW1.out]; simp [Act.put]))
  go_upto_region 4 with (fail)
  have hb4 : Blk ((((w1.setCell ⟨nb, 5, none⟩ (.int .u64 5)).setCell ⟨nb, 13, none⟩ (.int .u64 2112)).setCell ⟨nb, 6, none⟩ (.int .u64 9)).setCell ⟨nb, 14, none⟩ (.int .u64 2176)) nb (ndCells n0) 40 :=
    (((HB1.out.setk 0 (by decide) 5).setp 0 (by decide) 2112).setk 1 (by decide) 9).setp 1 (by decide) 2176
  have hk4 : Below nb w ((((w1.setCell ⟨nb, 5, none⟩ (.int .u64 5)).setCell ⟨nb, 13, none⟩ (.int .u64 2112)).setCell ⟨nb, 6, none⟩ (.int .u64 9)).setCell ⟨nb, 14, none⟩ (.int .u64 2176)) :=
    (((HK1.out.setCell (p := ⟨nb, 5, none⟩) (Nat.le_refl _) _).setCell (p := ⟨nb, 13, none⟩) (Nat.le_refl _) _).setCell (p := ⟨nb, 6, none⟩) (Nat.le_refl _) _).setCell (p := ⟨nb, 14, none⟩) (Nat.le_refl _) _
  generalize (((w1.setCell ⟨nb, 5, none⟩ (.int .u64 5)).setCell ⟨nb, 13, none⟩ (.int .u64 2112)).setCell ⟨nb, 6, none⟩ (.int .u64 9)).setCell ⟨nb, 14, none⟩ (.int .u64 2176) = w4 at *
  have HB4 := Lib.hid hb4
  have HK4 := Lib.hid hk4
  have HL4 := Lib.hid (show ∀ j v, (ndCells n0)[j]? = some v → w4.cell? ⟨nb, 0 + j, none⟩ = some v from ndLoad hb4)
  have HLa := Lib.hid (laid_v n0 n0_lv (fun i => wordsF_rng n0_wf i) 0 (by decide) (by decide) w4)
  clear hb4 hk4 d5 d13 d6 d14 f5 f13 f6 f14 HB1 HK1 HB0 HW1
  go_wp2_with ((with_reducible refine wpList_load_part (o := ⟨some 22, .load 40 (.tmp 1), _, _, _, _⟩) ?hg 40 (.tmp 1) ?ho nb 0 ?hx (ndCells n0) ?dd ?hc ?hu ?hd ?hi ?_); (case hg => rfl); (case ho => rfl); (case hx => rfl); (case hc => exact HL4.out); (case hu => exact Try.underlying40); (case hd => rfl); (case hi => exact info27 n0))
  refine HLa.out.mono ?_
  rintro e w5 ⟨mb, S, vs, rfl, hm5, hu5, hl5, hv5, _, hS5, hB5⟩
  have HM5 := Lib.hid hm5
  have HU5 := Lib.hid hu5
  have HL5 := Lib.hid hl5
  have HV5 := Lib.hid hv5
  have HS5 := Lib.hid (show ∀ i, S i → w4.heap.size ≤ i ∧ i < w5.heap.size from fun i hi => ⟨hS5 i hi, by obtain ⟨is, mk, F, hm⟩ := hm5; exact hm.lt hi⟩)
  have HN5 := Lib.hid (HB4.out.kept (Keeps.of_below' hB5) (fun h => h))
  have HB5 := Lib.hid (HK4.out.trans (hB5.mono (by rw [← HNb.out]; exact HK4.out.size)))
  have HN4 := Lib.hid HB4.out.lt
  clear hm5 hu5 hl5 hv5 hS5 hB5 HLa HL4 HK4 HB4
  go_wp2_with (fail)
  refine (new_v (some ⟨mb, 0, none⟩) 1088 w5).mono ?_
  rintro e w6 ⟨rfl, hb6, hB6⟩
  obtain ⟨sb, hsb⟩ : ∃ sb, w5.heap.size = sb := ⟨_, rfl⟩
  rw [hsb] at hb6 ⊢
  have hS6 : ¬ S sb := fun h => by have := (HS5.out sb h).2; omega
  have HS6 := Lib.hid hS6
  have HSb := Lib.hid hsb
  have HNo := Lib.hid (show Calls Try.prog 12 #[.pointer (some ⟨sb, 0, none⟩)] w6 fun e w' => e = .returned (.tuple #[.agg (ndCells nd0), .int .i64 7]) ∧ Below w6.heap.size w6 w' from node_v (snNew sb (some ⟨mb, 0, none⟩) 1088) sb 53 w6 hb6 rfl)
  have HB6 := Lib.hid hb6
  have HK6 := Lib.hid hB6
  clear hS6 hsb hb6 hB6
  go_wp2_with (fail)
  refine HNo.out.mono ?_
  rintro e w7 ⟨rfl, hB7⟩
  have hz8 := Blk.new w7 (ndCells nd0) 40
  have k8 : Below w7.heap.size w7 ((w7.alloc (.cells (ndCells nd0) 40)).setRow w7.heap.size (ndCells nd0)) := below_setRow ((Below.refl _ w7).alloc (Nat.le_refl _) _) (Nat.le_refl _) _
  have HZ8 := Lib.hid hz8
  have hB67 := hB7.trans (k8.mono hB7.size)
  obtain ⟨w8, hw8⟩ : ∃ w8, (w7.alloc (.cells (ndCells nd0) 40)).setRow w7.heap.size (ndCells nd0) = w8 := ⟨_, rfl⟩
  have HW8 := Lib.hid hw8
  rw [hw8] at hB67
  have hB58 := HK6.out.trans (hB67.mono HK6.out.size)
  have HI8 := Lib.hid (show SnW w8 sb mb S vs 1088 48 6 1 0 w8 from ⟨⟨_, HB6.out.kept (Keeps.of_below' hB67) (fun h => h), SnI.new _ _ _ _⟩, ⟨0, by obtain ⟨is, mk, F, hm⟩ := HM5.out; exact ⟨is, mk, F, hm.below hB58⟩⟩, Keeps.refl _ _⟩)
  have HN8 := Lib.hid (HN5.out.kept (Keeps.of_below' hB58) (fun h => h))
  have HB8 := Lib.hid (HB5.out.trans (hB58.mono (by rw [← HNb.out]; exact HB5.out.size)))
  have HX8 := Lib.hid (show (∀ i, (i = sb ∨ S i) → nb < i) from fun i hi => by
    have h1 := HN4.out
    rcases hi with rfl | hi
    · have h2 := HN5.out.lt; have := HSb.out; omega
    · have := (HS5.out i hi).1; omega)
  have HQ8 := Lib.hid (show nb ≤ w8.heap.size from by have := HN8.out.lt; omega)
  clear hz8 k8 hB67 hw8 hB58 hB7 HNo HK6 HB6
  go_upto_region 9 with (first
    | ((with_reducible refine wpList_alloc_nd (o := ⟨some 4, _, _, _, _, _⟩) rfl rfl ?_))
    | ((with_reducible refine wpList_store_ndc (o := ⟨none, .store 40 (.tmp 4) (.tmp 31), _, _, _, _⟩) ?hgc (.tmp 4) (.tmp 31) ?hoc w7.heap.size (ndCells nd0) nd0 nd0 ?hxc ?hyc ?hbc ?hmc ?_); (case hgc => rfl); (case hoc => rfl); (case hxc => exact ev_tmp (by simp [Act.put])); (case hyc => exact ev_tmp (by simp [Act.put])); (case hmc => rfl); (case hbc => exact HZ8.out); rw [HW8.out]; simp [Act.put]))
  go_wp2_with (fail)
  go_loopw [6, 7, 8] (fun iv dv ev wq => ∃ k : Nat, iv = .int .i64 k ∧ SnW w8 sb mb S vs 1088 48 6 1 k wq) (fun iv _ _ _ => 64 - (intOf iv).toNat)
  case atStart => exact ⟨0, rfl, HI8.out⟩
  case round =>
    obtain ⟨k, rfl, hI⟩ := hrel
    have hk42 : k ≤ 42 := by obtain ⟨⟨s, _, hs⟩, _, _⟩ := hI; exact hs.le
    have hkb : (k : Int) < 64 := by omega
    have HK42 := Lib.hid hk42
    have HSt := Lib.hid (step_w hI HS6.out HU5.out)
    clear hI hk42
    go_wp2_with (fail)
    refine HSt.out.mono ?_
    rintro e w9 (⟨rfl, hI⟩ | ⟨er, rfl, hZ⟩)
    · have HI := Lib.hid hI
      clear hI
      go_wp2_with (fail)
      go_roundw
      case rel => exact ⟨k + 1, by go_num, HI.out⟩
      case measure => have := HK42.out; simp [intOf]; omega
    · obtain ⟨⟨s, hb9, hD⟩, ⟨lo9, hm9⟩, hk9⟩ := hZ
      obtain ⟨rfl, hfo, hha⟩ := known_over HL5.out HV5.out hD
      obtain ⟨f, hf⟩ := hD.step
      have hnp : nodeP s = (s.found, 0) := by unfold nodeP; rw [hD.over, if_neg (by decide), hD.e, if_neg (fun h => h rfl)]
      have hhp : highP s = (0, false) := by unfold highP; rw [hnp, hha]; rfl
      have HNo := Lib.hid (show Calls Try.prog 12 #[.pointer (some ⟨sb, 0, none⟩)] w9 fun e w' => e = .returned (.tuple #[.agg (ndCells n0), .int .i64 0]) ∧ Below w9.heap.size w9 w' from by
        have := node_v s sb f w9 hb9 hf
        rw [hnp] at this
        rw [← hfo]; exact this)
      have HHi := Lib.hid (show ∀ W, Below w9.heap.size w9 W → Calls Try.prog 13 #[.pointer (some ⟨sb, 0, none⟩)] W fun e w' => e = .returned (.tuple #[.int .u64 0, .bool false]) ∧ Below W.heap.size W w' from fun W hB => by
        have := high_v s sb f W (hb9.kept (Keeps.of_below' hB) (fun h => h)) hf
        rw [hhp] at this
        exact this)
      have HN9 := Lib.hid (HN8.out.kept hk9 (fun h => by have := HX8.out nb h; omega))
      have HB9 := Lib.hid (show Below nb w w9 from HB8.out.trans ⟨hk9.os, hk9.tape, hk9.output, hk9.size, fun i hi => hk9.block i (Nat.lt_of_lt_of_le hi HQ8.out) (fun h => by have := HX8.out i h; omega)⟩)
      clear hnp hhp hf hD hfo hha hb9 hm9 hk9
      go_wp2_with (fail)
      refine HNo.out.mono ?_
      rintro e w10 ⟨rfl, hB10⟩
      have hz := Blk.new w10 (ndCells nd0) 40
      have hzr := hz.row (ndCells n0)
      have k11 : Below w9.heap.size w9 ((w10.alloc (.cells (ndCells nd0) 40)).setRow w10.heap.size (ndCells n0)) := below_setRow (hB10.alloc hB10.size _) hB10.size _
      obtain ⟨xb, hxb⟩ : ∃ xb, w10.heap.size = xb := ⟨_, rfl⟩
      rw [hxb] at hz hzr k11
      have HXb := Lib.hid hxb
      have HZ := Lib.hid hz
      obtain ⟨w11, hw11⟩ : ∃ w11, (w10.alloc (.cells (ndCells nd0) 40)).setRow xb (ndCells n0) = w11 := ⟨_, rfl⟩
      have HW11 := Lib.hid hw11
      rw [hw11] at hzr k11
      have HX11 := Lib.hid hzr
      have HK11 := Lib.hid k11
      have HN11 := Lib.hid (HN9.out.kept (Keeps.of_below' k11) (fun h => h))
      clear hz hzr hxb hw11 k11 HNo hB10
      go_upto_region 17 with (first
        | ((with_reducible refine wpList_alloc_ndAt (o := ⟨some 9, _, _, _, _, _⟩) rfl rfl xb ?hz ?_); (case hz => exact HXb.out))
        | ((with_reducible refine wpList_store_ndc (o := ⟨none, .store 40 (.tmp 9) (.tmp 48), _, _, _, _⟩) ?hgc (.tmp 9) (.tmp 48) ?hoc xb (ndCells n0) n0 nd0 ?hxc ?hyc ?hbc ?hmc ?_); (case hgc => rfl); (case hoc => rfl); (case hxc => exact ev_tmp (by simp [Act.put])); (case hyc => exact ev_tmp (by simp [Act.put])); (case hmc => rfl); (case hbc => exact HZ.out); rw [HW11.out]; simp [Act.put]))
      go_wp2_with (fail)
      refine (HHi.out w11 HK11.out).mono ?_
      rintro e w12 ⟨rfl, hB12⟩
      have HX12 := Lib.hid (HX11.out.kept (Keeps.of_below' hB12) (fun h => h))
      have HN12 := Lib.hid (HN11.out.kept (Keeps.of_below' hB12) (fun h => h))
      have HB12 := Lib.hid (HB9.out.trans ((HK11.out.trans (hB12.mono HK11.out.size)).mono (by rw [← HNb.out]; exact HB9.out.size)))
      obtain ⟨nn, hnn⟩ : ∃ nn, n0 = nn := ⟨_, rfl⟩
      rw [hnn] at HX12 HN12 ⊢
      have hq := eq_nd nn w12
      clear hB12 HHi hnn
      go_wp2_with (first
        | ((with_reducible refine wpList_load_ndg (o := ⟨some 62, .load 40 (.tmp 9), _, _, _, _⟩) ?hw (.tmp 9) ?ho xb nn ?hx ?hb ?_); (case hw => rfl); (case ho => rfl); (case hx => exact ev_tmp (by simp)); (case hb => exact HX12.out))
        | ((with_reducible refine wpList_load_ndg (o := ⟨some 63, .load 40 (.tmp 1), _, _, _, _⟩) ?hw2 (.tmp 1) ?ho2 nb nn ?hx2 ?hb2 ?_); (case hw2 => rfl); (case ho2 => rfl); (case hx2 => exact ev_tmp (by simp [Act.put])); (case hb2 => exact HN12.out))
        | ((with_reducible refine wpList_eq_ndg _ 62 63 _ _ _ _ nn ?hw3 ?hx3 ?hy3 ?_); (case hw3 => rfl); (case hx3 => simp [Act.put]); (case hy3 => simp [Act.put])))
      go_ret
      exact ⟨rfl, HB12.out⟩
end Go.Proofs.Ytgmbnoimlffgcaa
namespace Go.Proofs.Ytgmbnoimlffgcaa
open Go.RowKit
attribute [local go_sem] Oper.semAt_some
set_option linter.unusedVariables false

theorem results_nd1 {fn : Func} {w : World} {s : Nat} (hr : fn.results = #[.cell s 40]) (tmps : Array Value) (g : Nat) (n : Nd) (hs : tmps.getD s undef = .pointer (some ⟨g, 0, none⟩)) (h : Blk w g (ndCells n) 40) :
    (results fn tmps).run Try.prog w = .ok (.agg (ndCells n)) w := by
  have hl := run_loadVar_part (P := Try.prog) w g 0 40 (ndCells n) _ (ndLoad h) Try.underlying40 rfl (info27 n)
  have hs' : tmps[s]?.getD undef = .pointer (some ⟨g, 0, none⟩) := by rw [← hs]; simp
  simp [results, hr, hs', asAddr, hl]
/-! ### plain -/
def clrP (n : Nd) (a b : Nat) : Nd := { n with p := fun j => if a ≤ j ∧ j < b then 0 else n.p j }
def clrK (n : Nd) (a b : Nat) : Nd := { n with k := fun j => if a ≤ j ∧ j < b then 0 else n.k j }
theorem clrP_0 (n : Nd) (a : Nat) : clrP n a a = n := by
  unfold clrP
  rw [show (fun j => if a ≤ j ∧ j < a then 0 else n.p j) = n.p from funext (fun j => if_neg (by omega))]
theorem clrK_0 (n : Nd) (a : Nat) : clrK n a a = n := by
  unfold clrK
  rw [show (fun j => if a ≤ j ∧ j < a then 0 else n.k j) = n.k from funext (fun j => if_neg (by omega))]
theorem clrP_s (n : Nd) (a b : Nat) (h : a ≤ b) : (clrP n a b).withP b 0 = clrP n a (b + 1) := by
  unfold clrP Nd.withP
  congr 1
  funext j
  show (if j = b then 0 else if a ≤ j ∧ j < b then 0 else n.p j) = if a ≤ j ∧ j < b + 1 then 0 else n.p j
  by_cases e : j = b
  · rw [if_pos e, if_pos (by omega)]
  · rw [if_neg e]
    by_cases c : a ≤ j ∧ j < b
    · rw [if_pos c, if_pos (by omega)]
    · rw [if_neg c, if_neg (by omega)]
theorem clrK_s (n : Nd) (a b : Nat) (h : a ≤ b) : (clrK n a b).withK b 0 = clrK n a (b + 1) := by
  unfold clrK Nd.withK
  congr 1
  funext j
  show (if j = b then 0 else if a ≤ j ∧ j < b then 0 else n.k j) = if a ≤ j ∧ j < b + 1 then 0 else n.k j
  by_cases e : j = b
  · rw [if_pos e, if_pos (by omega)]
  · rw [if_neg e]
    by_cases c : a ≤ j ∧ j < b
    · rw [if_pos c, if_pos (by omega)]
    · rw [if_neg c, if_neg (by omega)]
theorem len_unique {n m : Nd} (hp : ∀ j, j < n.len → m.p j = n.p j) (hz : n.len < 8 → m.p n.len = 0) : m.len = n.len := by
  have h1 := n.len_le
  have h2 := m.len_le
  rcases Nat.lt_trichotomy m.len n.len with h | h | h
  · have := m.p_len (by omega)
    rw [hp _ h] at this
    exact absurd this (n.p_lt _ h)
  · exact h
  · exact absurd (hz (by omega)) (m.p_lt _ h)
theorem len_clrP (n : Nd) (b : Nat) : (clrP n n.len b).len = n.len := len_unique (fun j hj => if_neg (by omega)) (fun h => by
  show (if n.len ≤ n.len ∧ n.len < b then 0 else n.p n.len) = 0
  split
  · rfl
  · exact n.p_len h)
theorem len_clrK (n : Nd) (a b : Nat) : (clrK n a b).len = n.len := len_unique (fun j hj => rfl) (fun h => n.p_len h)
def rtrim (n : Nd) : Nd := clrK (clrP n n.len 8) (n.len + 1) 8
def trimN (n : Nd) : Nd := rtrim (clrK n n.len 8)
/-- the worlds on the way: the node's block, the answer's -/
structure TrW (w : World) (b1 b2 : Nat) (m : Nd) (W : World) : Prop where
  f : Blk W b1 (ndCells m) 40
  r : Blk W b2 (ndCells nd0) 40
  b : Below w.heap.size w W
  lt : w.heap.size ≤ b1 ∧ b1 < b2
section
variable {w W W' : World} {b1 b2 : Nat} {m : Nd}
theorem TrW.below (h : TrW w b1 b2 m W) (hB : Below W.heap.size W W') : TrW w b1 b2 m W' :=
  ⟨h.f.kept (Keeps.of_below' hB) (fun h => h), h.r.kept (Keeps.of_below' hB) (fun h => h), h.b.trans (hB.mono h.b.size), h.lt⟩
theorem TrW.setP (h : TrW w b1 b2 m W) (i : Nat) (hi : i < 8) (x : Int) : TrW w b1 b2 (m.withP i x) (W.setCell ⟨b1, 13 + i, none⟩ (.int .u64 x)) :=
  ⟨h.f.setp i hi x, h.r.other _ _ (by have := h.lt; omega), h.b.setCell (p := ⟨b1, 13 + i, none⟩) h.lt.1 _, h.lt⟩
theorem TrW.setK (h : TrW w b1 b2 m W) (i : Nat) (hi : i < 8) (x : Int) : TrW w b1 b2 (m.withK i x) (W.setCell ⟨b1, 5 + i, none⟩ (.int .u64 x)) :=
  ⟨h.f.setk i hi x, h.r.other _ _ (by have := h.lt; omega), h.b.setCell (p := ⟨b1, 5 + i, none⟩) h.lt.1 _, h.lt⟩
theorem TrW.start (w : World) (n : Nd) : TrW w w.heap.size (w.heap.size + 1) n ((w.alloc (.cells (ndCells n) 40)).alloc (.cells (ndCells nd0) 40)) := by
  have h := Blk.new (w.alloc (.cells (ndCells n) 40)) (ndCells nd0) 40
  have hs : (w.alloc (.cells (ndCells n) 40)).heap.size = w.heap.size + 1 := by simp
  rw [hs] at h
  exact ⟨(Blk.new w _ _).alloc _, h, ((Below.refl w.heap.size w).alloc (Nat.le_refl _) _).alloc (by omega) _, by omega⟩
end
set_option maxRecDepth 100000 in
set_option maxHeartbeats 16000000 in
theorem rtrim_v (n : Nd) (w : World) : Calls Try.prog 37 #[.agg (ndCells n)] w fun e w' => e = .returned (.agg (ndCells (rtrim n))) ∧ Below w.heap.size w w' := by
  have HT0 := Lib.hid (TrW.start w n)
  have HLn := Lib.hid (fun (m : Nd) (W : World) => rlen_calls m W)
  have hs1 : (w.alloc (.cells (ndCells n) 40)).heap.size = w.heap.size + 1 := by simp
  obtain ⟨b1, hb1⟩ : ∃ b1, w.heap.size = b1 := ⟨_, rfl⟩
  obtain ⟨b2, hb2⟩ : ∃ b2, b1 + 1 = b2 := ⟨_, rfl⟩
  rw [hb1, hb2] at HT0 hs1
  have HZ := Lib.hid hs1
  have HB1 := Lib.hid hb1
  clear hs1
  go_enter Try.func37, Try.ntmps37
  go_upto_region 1 with ((with_reducible refine wpList_alloc_ndAt (o := ⟨some 2, _, _, _, _, _⟩) rfl rfl b2 ?hz ?_); (case hz => exact HZ.out))
  simp [Act.put]
  generalize (w.alloc (.cells (ndCells n) 40)).alloc (.cells (ndCells nd0) 40) = w0 at *
  go_wp2_with (
    ((with_reducible refine wpList_load_part (o := ⟨some 6, .load 40 (.tmp 1), _, _, _, _⟩) ?hg 40 (.tmp 1) ?ho b1 0 ?hx (ndCells n) ?dd ?hc ?hu ?hd ?hi ?_); (case hg => rfl); (case ho => rfl); (case hx => exact ev_tmp (by simp)); (case hc => exact ndLoad HT0.out.f); (case hu => exact Try.underlying40); (case hd => rfl); (case hi => exact info27 _))
  )
  refine (HLn.out n w0).mono ?_
  rintro e w1 ⟨rfl, hB1⟩
  have HT1 := Lib.hid (HT0.out.below hB1)
  have hl8 := n.len_le
  have HP := Lib.hid (fun j (h : j < n.len) => n.p_lt j h)
  have HPl := Lib.hid (fun b => len_clrP n b)
  clear hB1 HT0
  obtain ⟨ln, hln⟩ : ∃ ln, n.len = ln := ⟨_, rfl⟩
  have HLE := Lib.hid hln
  rw [hln] at hl8 HP HPl ⊢
  clear hln
  go_wp2_with (fail)
  go_loopw [3] (fun iv wr => ∃ k : Nat, ln ≤ k ∧ k ≤ 8 ∧ iv = .int .i64 k ∧ TrW w b1 b2 (clrP n ln k) wr) (fun iv _ => 8 - (intOf iv).toNat)
  case atStart => exact ⟨ln, Nat.le_refl _, hl8, rfl, by rw [clrP_0]; exact HT1.out⟩
  case round =>
    obtain ⟨k, hk0, hk8, rfl, hT⟩ := hrel
    have HT := Lib.hid hT
    have HSc := Lib.hid (clrP_s n ln k hk0)
    have HL := Lib.hid (fun W => HLn.out (clrP n ln k) W)
    rw [HPl.out] at HL
    obtain ⟨m, hm⟩ : ∃ m, clrP n ln k = m := ⟨_, rfl⟩
    rw [hm] at HT HL HSc
    by_cases hlt : k < 8
    · have hkb : (k : Int) < 8 := by omega
      have HLT := Lib.hid hlt
      have HK0 := Lib.hid hk0
      have hkn : (0 : Int) ≤ (k : Int) := by omega
      clear hT
      by_cases hz : 0 < k ∧ m.p (k - 1) = 0
      · have d := (HT.out.f.cell (13 + (k - 1))).trans (ndCells_p m (k - 1) (by omega))
        rw [hz.2] at d
        have hk1 : 0 < k := hz.1
        have hkk : (k : Int) - 1 = ((k - 1 : Nat) : Int) := by omega
        have hkw : IntKind.i64.wrap ((k : Int) - 1) = ((k - 1 : Nat) : Int) := by rw [hkk]; exact IntWalk.i64_in _ (by omega)
        have hb1 : (0 : Int) ≤ ((k - 1 : Nat) : Int) := by omega
        have hb2 : ((k - 1 : Nat) : Int) < 8 := by omega
        have dk := (HT.out.f.cell (13 + k)).trans (ndCells_p m k hlt)
        have fk := HT.out.f.frozen (13 + k)
        clear hz hm hk0 hk8 hlt hkk
        go_wp2_with (fail)
        go_roundw
        case rel => exact ⟨k + 1, by have := HK0.out; omega, by have := HLT.out; omega, by go_num, by rw [← HSc.out]; exact HT.out.setP k HLT.out 0⟩
        case measure => have := HLT.out; simp [intOf]; omega
      · have hkl : k = ln := by
          rcases Nat.lt_or_ge ln k with h | h
          · exfalso
            refine hz ⟨by omega, ?_⟩
            rw [← hm]
            show (if ln ≤ k - 1 ∧ k - 1 < k then 0 else n.p (k - 1)) = 0
            rw [if_pos (by omega)]
          · omega
        have dk := (HT.out.f.cell (13 + k)).trans (ndCells_p m k hlt)
        have fk := HT.out.f.frozen (13 + k)
        by_cases hk1 : 0 < k
        · have d := (HT.out.f.cell (13 + (k - 1))).trans (ndCells_p m (k - 1) (by omega))
          obtain ⟨y, hy⟩ : ∃ y, m.p (k - 1) = y := ⟨_, rfl⟩
          rw [hy] at d
          have hyn : (y == 0) = false := beq_eq_false_iff_ne.2 (fun h => hz ⟨hk1, by rw [hy]; exact h⟩)
          have hkk : (k : Int) - 1 = ((k - 1 : Nat) : Int) := by omega
          have hkw : IntKind.i64.wrap ((k : Int) - 1) = ((k - 1 : Nat) : Int) := by rw [hkk]; exact IntWalk.i64_in _ (by omega)
          have hb1 : (0 : Int) ≤ ((k - 1 : Nat) : Int) := by omega
          have hb2 : ((k - 1 : Nat) : Int) < 8 := by omega
          have HKL := Lib.hid hkl
          clear hz hm hk0 hk8 hlt hkk hkl hy dk fk
          go_wp2_with ((with_reducible refine wpList_load_ndg (o := ⟨some 24, .load 40 (.tmp 1), _, _, _, _⟩) ?hw (.tmp 1) ?ho b1 m ?hx ?hb ?_); (case hw => rfl); (case ho => rfl); (case hx => exact ev_tmp (by simp)); (case hb => exact HT.out.f))
          refine (HL.out _).mono ?_
          rintro e w5 ⟨rfl, hB5⟩
          have HT5 := Lib.hid (HT.out.below hB5)
          have dk := (HT5.out.f.cell (13 + k)).trans (ndCells_p m k HLT.out)
          have fk := HT5.out.f.frozen (13 + k)
          have hqq : ((k : Int) == (ln : Int)) = true := by rw [HKL.out]; exact beq_self_eq_true _
          clear hB5
          go_wp2_with (fail)
          go_roundw
          case rel => exact ⟨k + 1, by have := HK0.out; omega, by have := HLT.out; omega, by go_num, by rw [← HSc.out]; exact HT5.out.setP k HLT.out 0⟩
          case measure => have := HLT.out; simp [intOf]; omega
        · have HKL := Lib.hid hkl
          clear hz hm hk0 hk8 hlt hkl dk fk
          go_wp2_with ((with_reducible refine wpList_load_ndg (o := ⟨some 24, .load 40 (.tmp 1), _, _, _, _⟩) ?hw (.tmp 1) ?ho b1 m ?hx ?hb ?_); (case hw => rfl); (case ho => rfl); (case hx => exact ev_tmp (by simp)); (case hb => exact HT.out.f))
          refine (HL.out _).mono ?_
          rintro e w5 ⟨rfl, hB5⟩
          have HT5 := Lib.hid (HT.out.below hB5)
          have dk := (HT5.out.f.cell (13 + k)).trans (ndCells_p m k HLT.out)
          have fk := HT5.out.f.frozen (13 + k)
          have hqq : ((k : Int) == (ln : Int)) = true := by rw [HKL.out]; exact beq_self_eq_true _
          clear hB5
          go_wp2_with (fail)
          go_roundw
          case rel => exact ⟨k + 1, by have := HK0.out; omega, by have := HLT.out; omega, by go_num, by rw [← HSc.out]; exact HT5.out.setP k HLT.out 0⟩
          case measure => have := HLT.out; simp [intOf]; omega
    · have hk : k = 8 := by omega
      subst hk
      have HM8 := Lib.hid hm
      clear hT hm hk0 hk8 hlt HSc
      go_wp2_with (
        ((with_reducible refine wpList_load_part (o := ⟨some 31, .load 40 (.tmp 1), _, _, _, _⟩) ?hg 40 (.tmp 1) ?ho b1 0 ?hx (ndCells m) ?dd ?hc ?hu ?hd ?hi ?_); (case hg => rfl); (case ho => rfl); (case hx => exact ev_tmp (by simp)); (case hc => exact ndLoad HT.out.f); (case hu => exact Try.underlying40); (case hd => rfl); (case hi => exact info27 _))
      )
      refine (HL.out _).mono ?_
      rintro e w5 ⟨rfl, hB5⟩
      have HT5 := Lib.hid (HT.out.below hB5)
      clear hB5 HT HL HT1
      go_wp2_with (fail)
      have HMz := Lib.hid (show ∀ j, ln ≤ j → j < 8 → m.p j = 0 from fun j h1 h2 => by rw [← HM8.out]; exact if_pos ⟨h1, h2⟩)
      have HQ0 := Lib.hid (show clrK m (ln + 1) ln = m from by unfold clrK; rw [show (fun j => if ln + 1 ≤ j ∧ j < ln then 0 else m.k j) = m.k from funext (fun j => if_neg (by omega))])
      go_loopw [5] (fun iv wr => ∃ k : Nat, ln ≤ k ∧ k ≤ 8 ∧ iv = .int .i64 k ∧ TrW w b1 b2 (clrK m (ln + 1) k) wr) (fun iv _ => 8 - (intOf iv).toNat)
      case atStart => exact ⟨ln, Nat.le_refl _, hl8, rfl, by rw [HQ0.out]; exact HT5.out⟩
      case round =>
        obtain ⟨k, hk0, hk8, rfl, hT⟩ := hrel
        by_cases hlt : k < 8
        · obtain ⟨q, hq⟩ : ∃ q, clrK m (ln + 1) k = q := ⟨_, rfl⟩
          rw [hq] at hT
          have hqp : q.withP k 0 = q := by
            rw [← hq]
            unfold Nd.withP clrK
            congr 1
            funext j
            by_cases e : j = k
            · rw [if_pos e, e]; exact (HMz.out k hk0 hlt).symm
            · rw [if_neg e]
          have hT2 := hT.setP k hlt 0
          rw [hqp] at hT2
          have dk := (hT.f.cell (13 + k)).trans (ndCells_p q k hlt)
          have fk := hT.f.frozen (13 + k)
          have dj := (hT2.f.cell (5 + k)).trans (ndCells_k q k hlt)
          have fj := hT2.f.frozen (5 + k)
          have hkb : (k : Int) < 8 := by omega
          have hkn : (0 : Int) ≤ (k : Int) := by omega
          have HT2 := Lib.hid hT2
          have HLT := Lib.hid hlt
          have HK0 := Lib.hid hk0
          by_cases hgt : ln < k
          · have hgt' : (ln : Int) < (k : Int) := by omega
            have HN := Lib.hid (show q.withK k 0 = clrK m (ln + 1) (k + 1) by rw [← hq]; exact clrK_s m (ln + 1) k (by omega))
            clear hq hqp hT hT2 hk0 hk8 hlt
            go_wp2_with (fail)
            go_roundw
            case rel => exact ⟨k + 1, by have := HK0.out; omega, by have := HLT.out; omega, by go_num, by rw [← HN.out]; exact HT2.out.setK k HLT.out 0⟩
            case measure => have := HLT.out; simp [intOf]; omega
          · have hkl : k = ln := by omega
            have hgt' : ¬ (ln : Int) < (k : Int) := by omega
            have HN := Lib.hid (show q = clrK m (ln + 1) (k + 1) by rw [← hq, hkl, clrK_0]; exact HQ0.out)
            clear hq hqp hT hT2 hk0 hk8 hlt hkl dj fj
            go_wp2_with (fail)
            go_roundw
            case rel => exact ⟨k + 1, by have := HK0.out; omega, by have := HLT.out; omega, by go_num, by rw [← HN.out]; exact HT2.out⟩
            case measure => have := HLT.out; simp [intOf]; omega
        · have hk : k = 8 := by omega
          subst hk
          have HT8 := Lib.hid hT
          have HR := Lib.hid (show rtrim n = clrK m (ln + 1) 8 by unfold rtrim; rw [HLE.out, HM8.out])
          obtain ⟨q, hq⟩ : ∃ q, clrK m (ln + 1) 8 = q := ⟨_, rfl⟩
          rw [hq] at HT8 HR
          clear hT hk0 hk8 hlt hq
          go_wp2_with (first
            | (
            ((with_reducible refine wpList_load_part (o := ⟨some 47, .load 40 (.tmp 1), _, _, _, _⟩) ?hg 40 (.tmp 1) ?ho b1 0 ?hx (ndCells q) ?dd ?hc ?hu ?hd ?hi ?_); (case hg => rfl); (case ho => rfl); (case hx => exact ev_tmp (by simp)); (case hc => exact ndLoad HT8.out.f); (case hu => exact Try.underlying40); (case hd => rfl); (case hi => exact info27 _))
            )
            | ((with_reducible refine wpList_store_ndc (o := ⟨none, .store 40 (.tmp 2) (.tmp 47), _, _, _, _⟩) ?hgc (.tmp 2) (.tmp 47) ?hoc b2 (ndCells q) q nd0 ?hxc ?hyc ?hbc ?hmc ?_); (case hgc => rfl); (case hoc => rfl); (case hxc => exact ev_tmp (by simp [Act.put])); (case hyc => exact ev_tmp (by simp [Act.put])); (case hmc => rfl); (case hbc => exact HT8.out.r)))
          (try simp only [Exit.inBlock, Exit.then])
          refine bodyPost_ret (results_nd1 (fn := Try.f37) rfl _ b2 q (by simp [Act.put]) (HT8.out.r.row _)) rfl ?_
          rw [HR.out]
          exact ⟨rfl, below_setRow HT8.out.b (by have := HT8.out.lt; omega) _⟩
end Go.Proofs.Ytgmbnoimlffgcaa
