/-
  leveelaw11.known: a contract.
-/
import Derived.Test.YtgmbnoimlffgcaaSnl
namespace Go.Proofs.Ytgmbnoimlffgcaa
open Go.RowKit
attribute [local go_sem] Oper.semAt_some
set_option linter.unusedVariables false

theorem wpList_load_ndg {ops : Array Oper} {rest : List Oper} {o : Oper} {a : Act} {w : World} {Q : Exit → Act → World → Prop} (hw : Region.wanted o (yielded ops a.tmps) = true) (x : Operand) (ho : o.op = .load 40 x) (g : Nat) (n : Nd)
    (hx : a.eval x = .pointer (some ⟨g, 0, none⟩)) (hb : Blk w g (ndCells n) 40) (h : wpList Try.prog ops Q rest (a.put o.dst (.agg (ndCells n))) w) : wpList Try.prog ops Q (o :: rest) a w := by
  simp only [wpList, hw, if_true]
  exact .inl (wp_load_nd x ho g n hx hb h)
set_option maxRecDepth 20000 in
theorem wp_eq_nd {a : Act} {w : World} {K : Act → World → Prop} {Q : Exit → Act → World → Prop} (d : Option Tmp) (i j : Nat) (ty : TypeId) (pos : String) (aft : Array Edge) (g : Option (Nat × Bool)) (n : Nd)
    (hx : a.tmps[i]?.getD undef = .agg (ndCells n)) (hy : a.tmps[j]?.getD undef = .agg (ndCells n))
    (h : K (a.put d (.bool true)) w) : Oper.wp Try.prog ⟨d, .binOp .eql 40 (.tmp i) (.tmp j) 40, ty, pos, aft, g⟩ a w K Q := by
  have q := fun w => eq_nd n w
  go_simp
  exact h
theorem wpList_eq_ndg {ops : Array Oper} {rest : List Oper} {a : Act} {w : World} {Q : Exit → Act → World → Prop} (d : Option Tmp) (i j : Nat) (ty : TypeId) (pos : String) (aft : Array Edge) (g : Option (Nat × Bool)) (n : Nd)
    (hw : Region.wanted ⟨d, .binOp .eql 40 (.tmp i) (.tmp j) 40, ty, pos, aft, g⟩ (yielded ops a.tmps) = true)
    (hx : a.tmps[i]?.getD undef = .agg (ndCells n)) (hy : a.tmps[j]?.getD undef = .agg (ndCells n)) (h : wpList Try.prog ops Q rest (a.put d (.bool true)) w) : wpList Try.prog ops Q (⟨d, .binOp .eql 40 (.tmp i) (.tmp j) 40, ty, pos, aft, g⟩ :: rest) a w := by
  simp only [wpList, hw, if_true]
  exact .inl (wp_eq_nd d i j ty pos aft g n hx hy h)
theorem SnI.le {sb : Nat} {mv : Option Addr} {vw : List Int} {a : Int} {i : Nat} {s : Sn} (h : SnI sb mv vw a i s) : i ≤ 42 := by
  obtain ⟨_, h | ⟨kn, hR, h⟩ | ⟨kn, hR, h⟩ | h | h⟩ := h
  · omega
  · have := idx_le hR.lt; have := h.2.2.2.2; omega
  · have := idx_le hR.lt; have := h.2.2.2.2; omega
  · have := h.2.2.2.2.2.2.2; omega
  · have := h.2.2.2.2.2.2.2; omega
theorem SnI.new (sb : Nat) (mv : Option Addr) (vw : List Int) (a : Int) : SnI sb mv vw a 0 (snNew sb mv a) := ⟨⟨rfl, rfl, rfl⟩, .inl ⟨rfl, rfl, rfl, rfl, rfl, rfl, rfl⟩⟩
/-- a snapshot under way -/
structure SnW (w5 : World) (sb mb : Nat) (S : Nat → Prop) (vs : List Int) (a st fl fe : Int) (k : Nat) (wr : World) : Prop where
  s : ∃ s, Blk wr sb (snCells s) 62 ∧ SnI sb (some ⟨mb, 0, none⟩) vs a k s
  m : ∃ lo, MemV wr mb S vs lo st fl fe
  k : Keeps (fun i => i = sb ∨ S i) w5 wr
/-- a snapshot that is over -/
structure SnZ (w5 : World) (sb mb : Nat) (S : Nat → Prop) (vs : List Int) (a st fl fe er : Int) (wr : World) : Prop where
  s : ∃ s, Blk wr sb (snCells s) 62 ∧ SnD sb vs a er s
  m : ∃ lo, MemV wr mb S vs lo st fl fe
  k : Keeps (fun i => i = sb ∨ S i) w5 wr
def StepW (w5 : World) (sb mb : Nat) (S : Nat → Prop) (vs : List Int) (a st fl fe : Int) (k : Nat) (e : Ending) (w' : World) : Prop :=
  (e = .returned (.tuple #[.bool false, .int .i64 0]) ∧ SnW w5 sb mb S vs a st fl fe (k + 1) w') ∨ (∃ er, e = .returned (.tuple #[.bool true, .int .i64 er]) ∧ SnZ w5 sb mb S vs a st fl fe er w')
theorem step_w {w5 wr : World} {sb mb : Nat} {S : Nat → Prop} {vs : List Int} {a st fl fe : Int} {k : Nat} (h : SnW w5 sb mb S vs a st fl fe k wr) (hS : ¬ S sb) (hu : U64s vs) :
    Calls Try.prog 11 #[.pointer (some ⟨sb, 0, none⟩)] wr (StepW w5 sb mb S vs a st fl fe k) := by
  obtain ⟨⟨s, hb, hI⟩, ⟨lo, is, mk, F, hm⟩, hk⟩ := h
  refine (step_i wr s sb mb S vs is mk F lo st fl fe a k hb hm hS hI hu).mono ?_
  rintro e w' ⟨d, er, s', lo', hR, hP, _⟩
  have hk' := hk.trans hP.k
  rcases hR with ⟨rfl, rfl, hI'⟩ | ⟨rfl, hD⟩
  · exact .inl ⟨hP.e, ⟨s', hP.b, hI'⟩, ⟨lo', is, mk, F, hP.m⟩, hk'⟩
  · exact .inr ⟨er, hP.e, ⟨s', hP.b, hD⟩, ⟨lo', is, mk, F, hP.m⟩, hk'⟩

/-! ### what the chapter's row reads -/
theorem pthB_congr {W V : Nat → Int} (h : ∀ i, i < 24 → W i = V i) (i : Nat) : pthB W i = pthB V i := by
  rw [Bool.eq_iff_iff, pthB_iff, pthB_iff]
  constructor
  · rintro (h1 | h1 | ⟨h1, h2, h3⟩)
    · exact .inl h1
    · exact .inr (.inl h1)
    · exact .inr (.inr ⟨h1, h2, fun j hj h9 ho => by rw [← h j (by omega)]; exact h3 j hj h9 ho⟩)
  · rintro (h1 | h1 | ⟨h1, h2, h3⟩)
    · exact .inl h1
    · exact .inr (.inl h1)
    · exact .inr (.inr ⟨h1, h2, fun j hj h9 ho => by rw [h j (by omega)]; exact h3 j hj h9 ho⟩)
theorem rdW_congr {W V : Nat → Int} (h : ∀ i, i < 24 → W i = V i) (i : Nat) : rdW W 24 i = rdW V 24 i := by
  unfold rdW
  rw [pthB_congr h]
  split
  · rename_i c
    exact h i (by rcases c with c | c; omega; exact c.2)
  · rfl
theorem nTo_congr {f g : Nat → Int} (h : ∀ i, i < 24 → f i = g i) : ndCells (nTo f 8) = ndCells (nTo g 8) := by
  have hk : ∀ i, i < 8 → (nTo f 8).k i = (nTo g 8).k i := fun i hi => by
    show (if i < 8 then f (8 + 2 * i) else 0) = (if i < 8 then g (8 + 2 * i) else 0)
    rw [h _ (by omega)]
  have hp : ∀ i, i < 8 → (nTo f 8).p i = (nTo g 8).p i := fun i hi => by
    show (if i < 8 then f (9 + 2 * i) else 0) = (if i < 8 then g (9 + 2 * i) else 0)
    rw [h _ (by omega)]
  have h8 : ∀ (f g : Nat → Int), (∀ i, i < 8 → f i = g i) → u8s f = u8s g := fun f g h => List.map_congr_left (fun i hi => by rw [h i (List.mem_range.1 hi)])
  unfold ndCells
  rw [h8 _ _ hk, h8 _ _ hp, show (nTo f 8).lv = (nTo g 8).lv from (by show f 0 - tagM = g 0 - tagM; rw [h 0 (by omega)]), show (nTo f 8).lo = (nTo g 8).lo from h 1 (by omega), show (nTo f 8).nx = (nTo g 8).nx from h 2 (by omega), show (nTo f 8).ct = (nTo g 8).ct from h 3 (by omega), show (nTo f 8).fi = (nTo g 8).fi from h 4 (by omega)]
def ndF : Nd := { nd0 with fi := 1088 }
def n0 : Nd := (((ndF.withK 0 5).withP 0 2112).withK 1 9).withP 1 2176
theorem n0_rd : ∀ i, i < 24 → rdW (wordsF n0) 24 i = wordsF n0 i := by decide
theorem n0_self : ndCells (nTo (wordsF n0) 8) = ndCells n0 := by rfl
theorem n0_lv : (Lit.int .i64 n0.lv).wf = true := by decide
theorem n0_wf : n0.Wf := by
  have z0 : (Lit.int .u64 0).wf = true := by decide
  refine ⟨n0_lv, z0, z0, z0, (by decide), fun i hi => ?_, fun i hi => ?_⟩
  · have : i = 0 ∨ i = 1 ∨ i = 2 ∨ i = 3 ∨ i = 4 ∨ i = 5 ∨ i = 6 ∨ i = 7 := by omega
    rcases this with rfl | rfl | rfl | rfl | rfl | rfl | rfl | rfl <;> decide
  · have : i = 0 ∨ i = 1 ∨ i = 2 ∨ i = 3 ∨ i = 4 ∨ i = 5 ∨ i = 6 ∨ i = 7 := by omega
    rcases this with rfl | rfl | rfl | rfl | rfl | rfl | rfl | rfl <;> decide
/-- the words of a memory at 1088 -/
theorem wdM_at {vs : List Int} (hl : vs.length = 512) (i : Nat) (hi : i < 24) : wdM vs 1088 i = vs.getD (136 + i) 0 ∧ erM vs 1088 i = 0 := by
  have h1 : wrdA 1088 (i : Int) = 1088 + 8 * (i : Int) := IntWalk.u64_in _ (by omega)
  have h2 : atE vs.length (1088 + 8 * (i : Int)) = 0 := by rw [hl]; unfold atE; rw [if_neg (by omega)]
  unfold wdM erM ldW
  rw [h1, h2, if_pos rfl]
  exact ⟨by rw [show ((1088 + 8 * (i : Int)) / 8).toNat = 136 + i by omega], rfl⟩
/-- what a snapshot of the chapter's row is -/
theorem known_over {sb : Nat} {vs : List Int} {er : Int} {s : Sn} (hl : vs.length = 512) (hv : ∀ i, i < 24 → vs.getD (136 + i) 0 = wordsF n0 i) (h : SnD sb vs 1088 er s) : er = 0 ∧ ndCells s.found = ndCells n0 ∧ s.has = false := by
  have hW : ∀ i, i < 24 → wdM vs 1088 i = wordsF n0 i := fun i hi => (wdM_at hl i hi).1.trans (hv i hi)
  have hE : ∀ i, i < 24 → erM vs 1088 i = 0 := fun i hi => (wdM_at hl i hi).2
  have h2 : wdM vs 1088 2 = 0 := (hW 2 (by decide)).trans (by decide)
  have hR : ∀ i, i < 24 → rdW (wdM vs 1088) 24 i = wordsF n0 i := fun i hi => (rdW_congr hW i).trans (n0_rd i hi)
  rcases h.res with ⟨he, h3 | ⟨j, _, hj, h3⟩ | ⟨h3, _⟩⟩ | ⟨he, hf, hh, _⟩
  · rw [hE 3 (by decide)] at h3; cases h3
  · rw [hE j hj] at h3; cases h3
  · exact absurd h2 h3
  · have hb : ofBad (rdW (wdM vs 1088) 24) = false := by
      unfold ofBad
      rw [hR 0 (by decide)]; decide
    have ho : ofV (rdW (wdM vs 1088) 24) = (nTo (rdW (wdM vs 1088) 24) 8, 0) := by unfold ofV; rw [hb]; rfl
    rw [ho] at he hf
    refine ⟨he, ?_, ?_⟩
    · rw [hf, nTo_congr hR, n0_self]
    · rw [hh, decide_eq_false (fun h => h h2)]
end Go.Proofs.Ytgmbnoimlffgcaa
