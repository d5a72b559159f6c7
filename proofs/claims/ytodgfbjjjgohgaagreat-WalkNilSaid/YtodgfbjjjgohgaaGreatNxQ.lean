/-
  SINGLE OPERATIONS ON NODES, for the steps of a region that draws its order.
-/
import Derived.Test.YtodgfbjjjgohgaaGreatNfQ
import Derived.Laws.Tables
import Derived.OwnWalk
import Derived.Deep.DeepCutAuto
import Derived.BigRegion
import Derived.RegionTactic
import Derived.Test.YtodgfbjjjgohgaaGreatFrQ
namespace Go.Proofs.YtodgfbjjjgohgaaGreat
open Go.RowKit

def nd0 : Nd := { lv := 0, lo := 0, nx := 0, ct := 0, fi := 0, k := fun _ => 0, p := fun _ => 0 }
theorem run_alloc_nd (w : World) : (Instr.alloc 46 true (.tuple #[])).run Tryz.prog w = .ok (.pointer (some ⟨w.heap.size, 0, none⟩)) (w.alloc (.cells (ndCells nd0) 46)) := by kernel_rfl
theorem wpList_alloc_nd {ops : Array Oper} {rest : List Oper} {o : Oper} {a : Act} {w : World} {Q : Exit → Act → World → Prop} (hgd : o.guard = none) (ho : o.op = .alloc 46)
    (h : wpList Tryz.prog ops Q rest (a.put o.dst (.pointer (some ⟨w.heap.size, 0, none⟩))) (w.alloc (.cells (ndCells nd0) 46))) : wpList Tryz.prog ops Q (o :: rest) a w :=
  wpList_plain hgd fun _ hK => by
    unfold Oper.wp execOp
    simp only [ho, Sem.run_bind, run_alloc_nd, Result.andThen_ok, Sem.run_pure]
    exact hK _ _ h

theorem wpList_alloc_ndAt {ops : Array Oper} {rest : List Oper} {o : Oper} {a : Act} {w : World} {Q : Exit → Act → World → Prop} (hgd : o.guard = none) (ho : o.op = .alloc 46) (H : Nat) (hH : w.heap.size = H)
    (h : wpList Tryz.prog ops Q rest (a.put o.dst (.pointer (some ⟨H, 0, none⟩))) (w.alloc (.cells (ndCells nd0) 46))) : wpList Tryz.prog ops Q (o :: rest) a w := by
  subst hH; exact wpList_alloc_nd hgd ho h

theorem below_setRow {B : Nat} {v w : World} (h : Below B v w) {g : Nat} (hg : B ≤ g) (cs : Array Value) : Below B v (w.setRow g cs) :=
  ⟨h.os, h.tape, h.output, by rw [setRow_size]; exact h.size, fun k hk => by rw [setRow_other w g k cs (by omega)]; exact h.block k hk⟩
theorem ndCells_one (n : Nd) : (ndCells n).all (·.oneCell') = true := by
  rw [Array.all_eq_true_iff_forall_mem]
  intro v hv
  unfold ndCells u8s at hv
  simp only [List.mem_toArray, List.mem_append, List.mem_cons, List.not_mem_nil, or_false, List.mem_map] at hv
  rcases hv with ((rfl | rfl | rfl | rfl | rfl) | ⟨_, _, rfl⟩) | ⟨_, _, rfl⟩ <;> rfl
theorem wpList_store_nd {ops : Array Oper} {rest : List Oper} {o : Oper} {a : Act} {w : World} {Q : Exit → Act → World → Prop} (hgd : o.guard = none) (x y : Operand) (ho : o.op = .store 46 x y)
    (g : Nat) (m n : Nd) (hx : a.eval x = .pointer (some ⟨g, 0, none⟩)) (hy : a.eval y = .agg (ndCells m)) (hg : Blk w g (ndCells n) 46)
    (h : wpList Tryz.prog ops Q rest (a.put o.dst undef) (w.setRow g (ndCells m))) : wpList Tryz.prog ops Q (o :: rest) a w :=
  wpList_store_row hgd 46 x y ho g (ndCells m) hx hy 46 (ndCells n) hg (info27 m) (by rw [ndCells_size, ndCells_size]) (ndCells_one m) h

theorem wpList_store_ndc {ops : Array Oper} {rest : List Oper} {o : Oper} {a : Act} {w : World} {Q : Exit → Act → World → Prop} (hgd : o.guard = none) (x y : Operand) (ho : o.op = .store 46 x y)
    (g : Nat) (cs : Array Value) (m n : Nd) (hx : a.eval x = .pointer (some ⟨g, 0, none⟩)) (hy : a.eval y = .agg cs) (hg : Blk w g (ndCells n) 46) (hm : cs = ndCells m)
    (h : wpList Tryz.prog ops Q rest (a.put o.dst undef) (w.setRow g (ndCells m))) : wpList Tryz.prog ops Q (o :: rest) a w := by
  subst hm
  exact wpList_store_nd hgd x y ho g m n hx hy hg h

def Nd.withK (n : Nd) (i : Nat) (x : Int) : Nd := { n with k := fun j => if j = i then x else n.k j }
def Nd.withP (n : Nd) (i : Nat) (x : Int) : Nd := { n with p := fun j => if j = i then x else n.p j }
theorem ndCells_set1 (n : Nd) (x : Int) : (ndCells n).setIfInBounds 1 (.int .u64 x) = ndCells { n with lo := x } := by
  simp [ndCells]
theorem ndCells_setk (n : Nd) (i : Nat) (h : i < 8) (x : Int) : (ndCells n).setIfInBounds (5 + i) (.int .u64 x) = ndCells (n.withK i x) := by
  have : i = 0 ∨ i = 1 ∨ i = 2 ∨ i = 3 ∨ i = 4 ∨ i = 5 ∨ i = 6 ∨ i = 7 := by omega
  rcases this with rfl | rfl | rfl | rfl | rfl | rfl | rfl | rfl <;> rfl
theorem ndCells_setp (n : Nd) (i : Nat) (h : i < 8) (x : Int) : (ndCells n).setIfInBounds (13 + i) (.int .u64 x) = ndCells (n.withP i x) := by
  have : i = 0 ∨ i = 1 ∨ i = 2 ∨ i = 3 ∨ i = 4 ∨ i = 5 ∨ i = 6 ∨ i = 7 := by omega
  rcases this with rfl | rfl | rfl | rfl | rfl | rfl | rfl | rfl <;> rfl
theorem Blk.setk {w : World} {g : Nat} {n : Nd} {t : TypeId} (h : Blk w g (ndCells n) t) (i : Nat) (hi : i < 8) (x : Int) : Blk (w.setCell ⟨g, 5 + i, none⟩ (.int .u64 x)) g (ndCells (n.withK i x)) t := by
  have := h.set (5 + i) (.int .u64 x); rwa [ndCells_setk n i hi] at this
theorem Blk.setp {w : World} {g : Nat} {n : Nd} {t : TypeId} (h : Blk w g (ndCells n) t) (i : Nat) (hi : i < 8) (x : Int) : Blk (w.setCell ⟨g, 13 + i, none⟩ (.int .u64 x)) g (ndCells (n.withP i x)) t := by
  have := h.set (13 + i) (.int .u64 x); rwa [ndCells_setp n i hi] at this

theorem wpList_bld {P : Program} {ops : Array Oper} {rest : List Oper} {o : Oper} {a : Act} {w : World} {Q : Exit → Act → World → Prop} (hgd : o.guard = none) (t : TypeId) (parts : Array (Nat × Operand)) (ho : o.op = .build t parts)
    (cells : Array Value) (h : P.built t (parts.map fun (i, x) => (i, a.eval x)).toList = some cells) (hK : wpList P ops Q rest (a.put o.dst (.agg cells)) w) : wpList P ops Q (o :: rest) a w :=
  wpList_plain hgd fun _ hK' => by
    unfold Oper.wp execOp
    simp only [ho, Sem.run_bind, run_build w t _ _ h, Result.andThen_ok, Sem.run_pure]
    exact hK' _ _ hK
/-- a node that lies in a block, with a number, as results -/
theorem results_nd {fn : Func} {w : World} {s t : Nat} (hr : fn.results = #[.cell s 46, .tmp t]) (tmps : Array Value) (g : Nat) (n : Nd) (hs : tmps.getD s undef = .pointer (some ⟨g, 0, none⟩)) (h : Blk w g (ndCells n) 46) :
    (results fn tmps).run Tryz.prog w = .ok (.tuple #[.agg (ndCells n), tmps.getD t undef]) w := by
  have hl := run_loadVar_part (P := Tryz.prog) w g 0 46 (ndCells n) _ (ndLoad h) Tryz.underlying46 rfl (info27 n)
  have hs' : tmps[s]?.getD undef = .pointer (some ⟨g, 0, none⟩) := by rw [← hs]; simp
  simp [results, hr, hs', asAddr, Result.andThen, hl]
end Go.Proofs.YtodgfbjjjgohgaaGreat
namespace Go.Proofs.YtodgfbjjjgohgaaGreat
open Go.RowKit

def mkNd (lv lo nx fi : Int) (l : List (Int × Int)) : Nd := { lv := lv, lo := lo, nx := nx, ct := 0, fi := fi, k := eK l, p := eP l }
/-- what Make answers -/
def MkP (n : Nd) (code : Int) (w : World) (e : Ending) (w' : World) : Prop := e = .returned (.tuple #[.agg (ndCells n), .int .i64 code]) ∧ Below w.heap.size w w'
/-- the worlds on its way: the answer's block, the node's -/
def MkW (w : World) (m : Nd) (w' : World) : Prop := Blk w' w.heap.size (ndCells nd0) 46 ∧ Blk w' (w.heap.size + 1) (ndCells m) 46 ∧ Below w.heap.size w w'
theorem MkW.keep {w w1 w2 : World} {m : Nd} (h : MkW w m w1) (hB : Below w1.heap.size w1 w2) : MkW w m w2 :=
  ⟨h.1.below hB h.1.lt, h.2.1.below hB h.2.1.lt, h.2.2.trans (hB.mono h.2.2.size)⟩
theorem MkW.start (w : World) (m : Nd) : MkW w m (((w.alloc (.cells (ndCells nd0) 46)).alloc (.cells (ndCells nd0) 46)).setRow (w.heap.size + 1) (ndCells m)) := by
  have hb1 := Blk.new w (ndCells nd0) 46
  have hb2 := Blk.new (w.alloc (.cells (ndCells nd0) 46)) (ndCells nd0) 46
  have hs1 : (w.alloc (.cells (ndCells nd0) 46)).heap.size = w.heap.size + 1 := by simp
  rw [hs1] at hb2
  exact ⟨(hb1.alloc _).rowOther _ (by omega), hb2.row _, below_setRow (((Below.refl w.heap.size w).alloc (Nat.le_refl _) (.cells (ndCells nd0) 46)).alloc (by simp) (.cells (ndCells nd0) 46)) (by omega) _⟩
theorem eK_take (l : List (Int × Int)) (k j : Nat) : eK (l.take k) j = if j < k then eK l j else 0 := by
  unfold eK
  by_cases h : j < k
  · rw [if_pos h]; simp [List.getD, h]
  · rw [if_neg h]; simp [List.getD, List.getElem?_take, h]
theorem eP_take (l : List (Int × Int)) (k j : Nat) : eP (l.take k) j = if j < k then eP l j else 0 := by
  unfold eP
  by_cases h : j < k
  · rw [if_pos h]; simp [List.getD, h]
  · rw [if_neg h]; simp [List.getD, List.getElem?_take, h]
theorem mkNd_next (lv lo nx fi : Int) (l : List (Int × Int)) (k : Nat) : ((mkNd lv lo nx fi (l.take k)).withK k (eK l k)).withP k (eP l k) = mkNd lv lo nx fi (l.take (k + 1)) := by
  unfold mkNd Nd.withK Nd.withP
  congr 1
  · funext j
    simp only [eK_take]
    by_cases h : j = k
    · subst h; simp
    · rw [if_neg h]; by_cases h2 : j < k <;> simp [h2, show (j < k + 1) = (j < k) from propext (by omega)]
  · funext j
    simp only [eP_take]
    by_cases h : j = k
    · subst h; simp
    · rw [if_neg h]; by_cases h2 : j < k <;> simp [h2, show (j < k + 1) = (j < k) from propext (by omega)]
theorem MkW.next {w w1 : World} {lv lo nx fi : Int} {l : List (Int × Int)} {k : Nat} (h : MkW w (mkNd lv lo nx fi (l.take k)) w1) (hk : k < 8) {ki pi : Int} (h1 : eK l k = ki) (h2 : eP l k = pi) :
    MkW w (mkNd lv lo nx fi (l.take (k + 1))) ((w1.setCell ⟨w.heap.size + 1, 5 + k, none⟩ (.int .u64 ki)).setCell ⟨w.heap.size + 1, 13 + k, none⟩ (.int .u64 pi)).drew := by
  subst h1 h2
  refine ⟨?_, ?_, ?_⟩
  · exact ((h.1.other (5 + k) _ (by omega)).other (13 + k) _ (by omega)).drew
  · have := (h.2.1.setk k hk (eK l k)).setp k hk (eP l k)
    rw [mkNd_next] at this
    exact this.drew
  · exact ((h.2.2.setCell (p := ⟨w.heap.size + 1, 5 + k, none⟩) (by simp) _).setCell (p := ⟨w.heap.size + 1, 13 + k, none⟩) (by simp) _).drew

end Go.Proofs.YtodgfbjjjgohgaaGreat
namespace Go.Proofs.YtodgfbjjjgohgaaGreat
open Go.RowKit

section
variable {P : Program}
end
theorem wp_load_nd {o : Oper} {a : Act} {w : World} {K : Act → World → Prop} {Q : Exit → Act → World → Prop} (x : Operand) (ho : o.op = .load 46 x)
    (g : Nat) (n : Nd) (hx : a.eval x = .pointer (some ⟨g, 0, none⟩)) (hb : Blk w g (ndCells n) 46) (h : K (a.put o.dst (.agg (ndCells n))) w) : Oper.wp Tryz.prog o a w K Q :=
  wp_ld_part 46 x ho g 0 hx (ndCells n) _ (ndLoad hb) Tryz.underlying46 rfl (info27 n) h
theorem wp_store_nd {o : Oper} {a : Act} {w : World} {K : Act → World → Prop} {Q : Exit → Act → World → Prop} (x y : Operand) (ho : o.op = .store 46 x y)
    (g : Nat) (m n : Nd) (hx : a.eval x = .pointer (some ⟨g, 0, none⟩)) (hy : a.eval y = .agg (ndCells m)) (hg : Blk w g (ndCells n) 46)
    (h : K (a.put o.dst undef) (w.setRow g (ndCells m))) : Oper.wp Tryz.prog o a w K Q :=
  wp_store_row 46 x y ho g (ndCells m) hx hy 46 (ndCells n) hg (info27 m) (by rw [ndCells_size, ndCells_size]) (ndCells_one m) h
end Go.Proofs.YtodgfbjjjgohgaaGreat
