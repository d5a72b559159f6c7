/-
  The document's whole, gap: contracts.
-/
import Derived.Test.YtbpaefhihdhdeaaDm
import Derived.Test.YtbpaefhihdhdeaaKo
import Derived.Deep.DeepCutAuto
namespace Go.Proofs.Ytbpaefhihdhdeaa
open Go.RowKit
set_option linter.unusedVariables false

/-- stores, in a row of their own -/
def RowB (B : Nat) (l : List (Int × Int)) (v : Value) (W : World) : Prop := W.ownsRow B 36 2 v l.length (ecells l)
def RowP (l : List (Int × Int)) (w : World) (e : Ending) (w' : World) : Prop := ∃ v, e = .returned v ∧ RowB w.heap.size l v w' ∧ Below w.heap.size w w'
theorem RowB.below {B : Nat} {l : List (Int × Int)} {v : Value} {w w' : World} (h : RowB B l v w) (hb : Below w.heap.size w w') : RowB B l v w' := own_below h hb
theorem RowB.mono {B B' : Nat} {l : List (Int × Int)} {v : Value} {w : World} (h : RowB B l v w) (hb : B' ≤ B) : RowB B' l v w := own_mono h hb
theorem ecells_oneP (l : List (Int × Int)) : ∀ u ∈ ecells l, u.oneCell' = true := by
  intro u hu
  unfold ecells at hu
  obtain ⟨p, _, h⟩ := List.mem_flatMap.1 hu
  simp only [List.mem_cons, List.not_mem_nil, or_false] at h
  rcases h with rfl | rfl <;> rfl
theorem ecells_app (a b : List (Int × Int)) : ecells (a ++ b) = ecells a ++ ecells b := by simp [ecells]
theorem RowB.reads {B : Nat} {l : List (Int × Int)} {a : Option Addr} {m c : Nat} {w : World} (h : RowB B l (.slice a m c) w) : m = l.length ∧ Reads w w.heap.size 2 a l.length (ecells l) := by
  have hm : m = l.length := own_len h
  subst hm
  exact ⟨rfl, Reads.of_own h⟩
/-- a row that is a block of its own -/
theorem RowB.lit {B g : Nat} {l : List (Int × Int)} {w : World} (hb : Blk w g (ecells l).toArray 36) (hl : l.length ≤ 1000000) (hB : B ≤ g) : RowB B l (.slice (some ⟨g, 0, none⟩) l.length l.length) w := by
  have := own_lit (base := B) (n := l.length) (size := 2) (C := (ecells l).toArray) hb (by simp [ecells_len]) hl hB
  simpa [RowB] using this

set_option maxRecDepth 100000 in
set_option maxHeartbeats 1600000 in
theorem whole_v (base : Int) (n : Nd) (l : List (Int × Int)) (v : Value) (B : Nat) (w : World) (h0 : 0 ≤ base) (h1 : base ≤ 1099511627776) (hl : l.length ≤ 1000) (ho : RowB B l v w) :
    Calls Try.prog 65 #[.int .u64 base, .agg (ndCells n), v] w fun e w' => RowP ([(base + 24, cOne n)] ++ l ++ [(base + 24, cTwo n)]) w e w' := by
  obtain ⟨i0, hi, hz0, hz1, hz2⟩ := info_parts Try.info36
  obtain ⟨a, m, c, rfl⟩ := own_slice ho
  obtain ⟨rfl, hr⟩ := ho.reads
  have hk0 : Blk (w.alloc (.cells (ndCells n) 27)) w.heap.size (ndCells n) 27 := Blk.new w _ _
  have HB0 := Lib.hid ((Below.refl w.heap.size w).alloc (Nat.le_refl _) (.cells (ndCells n) 27))
  have c3 : (w.alloc (.cells (ndCells n) 27)).cell? ⟨w.heap.size, 3, none⟩ = some (.int .u64 n.ct) := by rw [hk0.cell, ndCells_3]
  obtain ⟨c1, hc1⟩ : ∃ x, IntKind.u64.wrap (n.ct + 1) = x := ⟨_, rfl⟩
  obtain ⟨c2, hc2⟩ : ∃ x, IntKind.u64.wrap (n.ct + 2) = x := ⟨_, rfl⟩
  have HL := Lib.hid (show [(base + 24, cOne n)] ++ l ++ [(base + 24, cTwo n)] = [(base + 24, c1)] ++ l ++ [(base + 24, c2)] by unfold cOne cTwo; rw [hc1, hc2])
  have HK0 := Lib.hid hk0
  have HR := Lib.hid hr
  have HO := Lib.hid ho
  clear hk0 hr ho
  go_enter Try.func65, Try.ntmps65
  go_upto_region 2 with (fail)
  have hb1 : Blk ((w.alloc (.cells (ndCells n) 27)).alloc (.cells #[.int .u64 (base + 24), .int .u64 c1] 36)) (w.heap.size + 1) (ecells [(base + 24, c1)]).toArray 36 := by
    have := Blk.new (w.alloc (.cells (ndCells n) 27)) #[.int .u64 (base + 24), .int .u64 c1] 36
    simpa [ecells] using this
  have hB1 := HB0.out.alloc (by simp) (.cells #[.int .u64 (base + 24), .int .u64 c1] 36)
  have hk1 := HK0.out.alloc (.cells #[.int .u64 (base + 24), .int .u64 c1] 36)
  have hR1 := (HR.out.alloc (Nat.le_refl _) (.cells (ndCells n) 27)).alloc (by simp) (.cells #[.int .u64 (base + 24), .int .u64 c1] 36)
  have hO1 : RowB w.heap.size [(base + 24, c1)] (.slice (some ⟨w.heap.size + 1, 0, none⟩) 1 1) _ := RowB.lit hb1 (by simp) (by omega)
  generalize (w.alloc (.cells (ndCells n) 27)).alloc (.cells #[.int .u64 (base + 24), .int .u64 c1] 36) = w1 at *
  have HO1 := Lib.hid hO1
  have HR1 := Lib.hid hR1
  have HB1 := Lib.hid hB1
  have HK1 := Lib.hid hk1
  clear hb1 hB1 hk1 hR1 hO1
  go_upto_region 3 with (at_builtin; refine wpList_append_any _ rfl (.tmp 15) (.tmp 16) _ rfl w.heap.size 36 i0 _ 2 16 Try.underlying28 hi hz0 hz1 hz2 rfl (by omega) _ 1 (ecells [(base + 24, c1)]) rfl HO1.out w.heap.size _ l.length c (ecells l) rfl HR1.out (ecells_oneP l) (by unfold maxLen; omega) (by omega) HB1.out.size ?_; intro v2 w2 hown2 hg2 _)
  have hb2 := HB1.out.grown hg2 HB1.out.size (fun r e => own_base HO1.out _ e)
  have hk2 := HK1.out.grown hg2 (fun e => by have e2 : some w.heap.size = some (w.heap.size + 1) := e; have := Option.some.inj e2; omega)
  have c3' : w2.cell? ⟨w.heap.size, 3, none⟩ = some (.int .u64 n.ct) := by rw [hk2.cell, ndCells_3]
  obtain ⟨a2, m2, cc2, rfl⟩ := own_slice hown2
  have hm2 : m2 = 1 + l.length := own_len hown2
  subst hm2
  have HO2 := Lib.hid hown2
  have HB2 := Lib.hid hb2
  clear hown2 hg2 hb2 hk2 c3
  go_wp2_with (at_builtin; refine wpList_append_own _ rfl (.tmp 18) (.tmp 25) 28 rfl w.heap.size 36 i0 _ 2 16 Try.underlying28 hi hz0 hz1 hz2 rfl (by decide) _ (1 + l.length) _ rfl (HO2.out.alloc _) ⟨w2.heap.size, 0, none⟩ 1 1 [.int .u64 (base + 24), .int .u64 c2] rfl rfl (World.news_of_block (cs := #[.int .u64 (base + 24), .int .u64 c2]) (t := 36) (fr := (0, 0)) (heap_alloc_new w2 _)) (by simp [Value.oneCell']) (by unfold maxLen; omega) (by omega) (by simp; have := HB2.out.size; omega) ?_; intro v3 w3 hown3 hg3 _)
  have HB3 := Lib.hid ((HB2.out.alloc HB2.out.size (.cells #[.int .u64 (base + 24), .int .u64 c2] 36)).grown hg3 (by simp; have := HB2.out.size; omega) (fun r e => own_base HO2.out _ e))
  have HO3 := Lib.hid (show RowB w.heap.size ([(base + 24, c1)] ++ l ++ [(base + 24, c2)]) v3 w3 by
    unfold RowB
    rw [ecells_app, ecells_app]
    simpa [ecells, Nat.add_comm] using hown3)
  have HF := Lib.hid (show RowP ([(base + 24, cOne n)] ++ l ++ [(base + 24, cTwo n)]) w (.returned v3) w3 by rw [HL.out]; exact ⟨_, rfl, HO3.out, HB3.out⟩)
  clear hown3 hg3
  go_wp2_with (fail)
  go_ret
  exact HF.out
end Go.Proofs.Ytbpaefhihdhdeaa
