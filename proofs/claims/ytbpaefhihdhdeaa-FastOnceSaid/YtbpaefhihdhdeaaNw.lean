/-
  A NODE IN A BLOCK OF ITS OWN: how one is made, laid over, stored to; results that lie in such a block.
-/
import Derived.Test.YtbpaefhihdhdeaaNf
import Derived.Laws.Tables
import Derived.OwnWalk
namespace Go.Proofs.Ytbpaefhihdhdeaa
open Go.RowKit

def nd0 : Nd := { lv := 0, lo := 0, nx := 0, ct := 0, fi := 0, k := fun _ => 0, p := fun _ => 0 }
theorem run_alloc_nd (w : World) : (Instr.alloc 27 true (.tuple #[])).run Try.prog w = .ok (.pointer (some ⟨w.heap.size, 0, none⟩)) (w.alloc (.cells (ndCells nd0) 27)) := by kernel_rfl
theorem wpList_alloc_nd {ops : Array Oper} {rest : List Oper} {o : Oper} {a : Act} {w : World} {Q : Exit → Act → World → Prop} (hgd : o.guard = none) (ho : o.op = .alloc 27)
    (h : wpList Try.prog ops Q rest (a.put o.dst (.pointer (some ⟨w.heap.size, 0, none⟩))) (w.alloc (.cells (ndCells nd0) 27))) : wpList Try.prog ops Q (o :: rest) a w :=
  wpList_plain hgd fun _ hK => by
    unfold Oper.wp execOp
    simp only [ho, Sem.run_bind, run_alloc_nd, Result.andThen_ok, Sem.run_pure]
    exact hK _ _ h

theorem wpList_alloc_ndAt {ops : Array Oper} {rest : List Oper} {o : Oper} {a : Act} {w : World} {Q : Exit → Act → World → Prop} (hgd : o.guard = none) (ho : o.op = .alloc 27) (H : Nat) (hH : w.heap.size = H)
    (h : wpList Try.prog ops Q rest (a.put o.dst (.pointer (some ⟨H, 0, none⟩))) (w.alloc (.cells (ndCells nd0) 27))) : wpList Try.prog ops Q (o :: rest) a w := by
  subst hH; exact wpList_alloc_nd hgd ho h

theorem Blk.row {w : World} {g : Nat} {old : Array Value} {t : TypeId} (h : Blk w g old t) (cs : Array Value) : Blk (w.setRow g cs) g cs t := setRow_heap w g old cs t (0, 0) h
theorem Blk.rowOther {w : World} {g b : Nat} {C : Array Value} {t : TypeId} (h : Blk w b C t) (cs : Array Value) (hne : b ≠ g) : Blk (w.setRow g cs) b C t := by
  unfold Blk at *; rw [setRow_other w g b cs hne]; exact h
theorem below_setRow {B : Nat} {v w : World} (h : Below B v w) {g : Nat} (hg : B ≤ g) (cs : Array Value) : Below B v (w.setRow g cs) :=
  ⟨h.os, h.tape, h.output, by rw [setRow_size]; exact h.size, fun k hk => by rw [setRow_other w g k cs (by omega)]; exact h.block k hk⟩
theorem ndCells_one (n : Nd) : (ndCells n).all (·.oneCell') = true := by
  rw [Array.all_eq_true_iff_forall_mem]
  intro v hv
  unfold ndCells u8s at hv
  simp only [List.mem_toArray, List.mem_append, List.mem_cons, List.not_mem_nil, or_false, List.mem_map] at hv
  rcases hv with ((rfl | rfl | rfl | rfl | rfl) | ⟨_, _, rfl⟩) | ⟨_, _, rfl⟩ <;> rfl
theorem wpList_store_nd {ops : Array Oper} {rest : List Oper} {o : Oper} {a : Act} {w : World} {Q : Exit → Act → World → Prop} (hgd : o.guard = none) (x y : Operand) (ho : o.op = .store 27 x y)
    (g : Nat) (m n : Nd) (hx : a.eval x = .pointer (some ⟨g, 0, none⟩)) (hy : a.eval y = .agg (ndCells m)) (hg : Blk w g (ndCells n) 27)
    (h : wpList Try.prog ops Q rest (a.put o.dst undef) (w.setRow g (ndCells m))) : wpList Try.prog ops Q (o :: rest) a w :=
  wpList_store_row hgd 27 x y ho g (ndCells m) hx hy 27 (ndCells n) hg (info27 m) (by rw [ndCells_size, ndCells_size]) (ndCells_one m) h

theorem wpList_store_ndc {ops : Array Oper} {rest : List Oper} {o : Oper} {a : Act} {w : World} {Q : Exit → Act → World → Prop} (hgd : o.guard = none) (x y : Operand) (ho : o.op = .store 27 x y)
    (g : Nat) (cs : Array Value) (m n : Nd) (hx : a.eval x = .pointer (some ⟨g, 0, none⟩)) (hy : a.eval y = .agg cs) (hg : Blk w g (ndCells n) 27) (hm : cs = ndCells m)
    (h : wpList Try.prog ops Q rest (a.put o.dst undef) (w.setRow g (ndCells m))) : wpList Try.prog ops Q (o :: rest) a w := by
  subst hm
  exact wpList_store_nd hgd x y ho g m n hx hy hg h

theorem u8s_set (f : Nat → Int) (i : Nat) (x : Int) : (u8s f).set i (.int .u64 x) = u8s (fun j => if j = i then x else f j) := by
  apply List.ext_getElem?
  intro j
  rw [List.getElem?_set, u8s_get, u8s_get, u8s_len]
  by_cases h : i = j
  · subst h; by_cases h8 : i < 8 <;> simp [h8]
  · rw [if_neg h]; simp only [if_neg (fun e => h e.symm : ¬ j = i)]
def Nd.withK (n : Nd) (i : Nat) (x : Int) : Nd := { n with k := fun j => if j = i then x else n.k j }
def Nd.withP (n : Nd) (i : Nat) (x : Int) : Nd := { n with p := fun j => if j = i then x else n.p j }
theorem ndCells_set1 (n : Nd) (x : Int) : (ndCells n).setIfInBounds 1 (.int .u64 x) = ndCells { n with lo := x } := by
  simp [ndCells]
theorem ndCells_set2 (n : Nd) (x : Int) : (ndCells n).setIfInBounds 2 (.int .u64 x) = ndCells { n with nx := x } := by
  simp [ndCells]
theorem ndCells_set3 (n : Nd) (x : Int) : (ndCells n).setIfInBounds 3 (.int .u64 x) = ndCells { n with ct := x } := by
  simp [ndCells]
theorem ndCells_set4 (n : Nd) (x : Int) : (ndCells n).setIfInBounds 4 (.int .u64 x) = ndCells { n with fi := x } := by
  simp [ndCells]
theorem ndCells_setk (n : Nd) (i : Nat) (h : i < 8) (x : Int) : (ndCells n).setIfInBounds (5 + i) (.int .u64 x) = ndCells (n.withK i x) := by
  have : i = 0 ∨ i = 1 ∨ i = 2 ∨ i = 3 ∨ i = 4 ∨ i = 5 ∨ i = 6 ∨ i = 7 := by omega
  rcases this with rfl | rfl | rfl | rfl | rfl | rfl | rfl | rfl <;> rfl
theorem ndCells_setp (n : Nd) (i : Nat) (h : i < 8) (x : Int) : (ndCells n).setIfInBounds (13 + i) (.int .u64 x) = ndCells (n.withP i x) := by
  have : i = 0 ∨ i = 1 ∨ i = 2 ∨ i = 3 ∨ i = 4 ∨ i = 5 ∨ i = 6 ∨ i = 7 := by omega
  rcases this with rfl | rfl | rfl | rfl | rfl | rfl | rfl | rfl <;> rfl
theorem Blk.setk {w : World} {g : Nat} {n : Nd} {t : TypeId} (h : Blk w g (ndCells n) t) (i : Nat) (hi : i < 8) (x : Int) : Blk (w.setCell ⟨g, 5 + i, none⟩ (.int .u64 x)) g (ndCells (n.withK i x)) t := by
  have := h.set (5 + i) (.int .u64 x); rwa [ndCells_setk n i hi] at this
theorem Blk.setp {w : World} {g : Nat} {n : Nd} {t : TypeId} (h : Blk w g (ndCells n) t) (i : Nat) (hi : i < 8) (x : Int) : Blk (w.setCell ⟨g, 13 + i, none⟩ (.int .u64 x)) g (ndCells (n.withP i x)) t := by
  have := h.set (13 + i) (.int .u64 x); rwa [ndCells_setp n i hi] at this

theorem wpList_bld {P : Program} {ops : Array Oper} {rest : List Oper} {o : Oper} {a : Act} {w : World} {Q : Exit → Act → World → Prop} (hgd : o.guard = none) (t : TypeId) (parts : Array (Nat × Operand)) (ho : o.op = .build t parts)
    (cells : Array Value) (h : P.built t (parts.map fun (i, x) => (i, a.eval x)).toList = some cells) (hK : wpList P ops Q rest (a.put o.dst (.agg cells)) w) : wpList P ops Q (o :: rest) a w :=
  wpList_plain hgd fun _ hK' => by
    unfold Oper.wp execOp
    simp only [ho, Sem.run_bind, run_build w t _ _ h, Result.andThen_ok, Sem.run_pure]
    exact hK' _ _ hK
/-- a node that lies in a block, with a number, as results -/
theorem results_nd {fn : Func} {w : World} {s t : Nat} (hr : fn.results = #[.cell s 27, .tmp t]) (tmps : Array Value) (g : Nat) (n : Nd) (hs : tmps.getD s undef = .pointer (some ⟨g, 0, none⟩)) (h : Blk w g (ndCells n) 27) :
    (results fn tmps).run Try.prog w = .ok (.tuple #[.agg (ndCells n), tmps.getD t undef]) w := by
  have hl := run_loadVar_part (P := Try.prog) w g 0 27 (ndCells n) _ (ndLoad h) Try.underlying27 rfl (info27 n)
  have hs' : tmps[s]?.getD undef = .pointer (some ⟨g, 0, none⟩) := by rw [← hs]; simp
  simp [results, hr, hs', asAddr, Result.andThen, hl]
end Go.Proofs.Ytbpaefhihdhdeaa
