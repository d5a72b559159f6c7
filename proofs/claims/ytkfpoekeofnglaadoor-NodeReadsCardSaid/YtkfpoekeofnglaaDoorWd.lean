/-
  TWENTY-FOUR WORDS IN A BLOCK: made, laid over, loaded, the same as themselves.
-/
import Derived.Test.YtkfpoekeofnglaaDoorNx
import Derived.Test.YtkfpoekeofnglaaDoorEq
namespace Go.Proofs.YtkfpoekeofnglaaDoor
open Go.RowKit

def wdList (f : Nat → Int) : List Value := (List.range 24).map (fun i => Value.int .u64 (f i))
def wdCells (f : Nat → Int) : Array Value := (wdList f).toArray
theorem wdList_get (f : Nat → Int) (i : Nat) : (wdList f)[i]? = if i < 24 then some (.int .u64 (f i)) else none := by
  unfold wdList
  by_cases h : i < 24 <;> simp [h]
theorem wdList_len (f : Nat → Int) : (wdList f).length = 24 := by simp [wdList]
theorem wdCells_size (f : Nat → Int) : (wdCells f).size = 24 := by simp [wdCells, wdList_len]
theorem wdCells_get (f : Nat → Int) (i : Nat) (h : i < 24) : (wdCells f)[i]? = some (.int .u64 (f i)) := by
  unfold wdCells; simp [wdList_get, h]
def wset (f : Nat → Int) (i : Nat) (x : Int) : Nat → Int := fun j => if j = i then x else f j
theorem wdCells_set (f : Nat → Int) (i : Nat) (x : Int) : (wdCells f).setIfInBounds i (.int .u64 x) = wdCells (wset f i x) := by
  apply Array.ext_getElem?
  intro j
  rcases Nat.lt_or_ge j 24 with hj | hj
  · rw [wdCells_get _ _ hj]
    by_cases e : i = j
    · subst e
      rw [Array.getElem?_setIfInBounds_self_of_lt (by rw [wdCells_size]; exact hj)]
      simp [wset]
    · rw [Array.getElem?_setIfInBounds_ne e, wdCells_get _ _ hj]
      unfold wset; rw [if_neg (fun h => e h.symm)]
  · rw [Array.getElem?_eq_none (by rw [Array.size_setIfInBounds, wdCells_size]; exact hj), Array.getElem?_eq_none (by rw [wdCells_size]; exact hj)]
theorem wdCells_one (f : Nat → Int) : (wdCells f).all (·.oneCell') = true := by
  rw [Array.all_eq_true_iff_forall_mem]
  intro v hv
  unfold wdCells wdList at hv
  simp only [List.mem_toArray, List.mem_map] at hv
  obtain ⟨_, _, rfl⟩ := hv
  rfl
theorem wdCells_congr {f g : Nat → Int} (h : ∀ i, i < 24 → f i = g i) : wdCells f = wdCells g := by
  unfold wdCells wdList
  congr 1
  exact List.map_congr_left (fun i hi => by rw [h i (List.mem_range.1 hi)])
theorem infoWd (f : Nat → Int) : (Tryd.prog.info? 49).map (·.size) = some (wdCells f).size := by rw [wdCells_size]; kernel_rfl
theorem run_alloc_wd (w : World) : (Instr.alloc 49 true (.tuple #[])).run Tryd.prog w = .ok (.pointer (some ⟨w.heap.size, 0, none⟩)) (w.alloc (.cells (wdCells (fun _ => 0)) 49)) := by kernel_rfl
theorem wpList_alloc_wdAt {ops : Array Oper} {rest : List Oper} {o : Oper} {a : Act} {w : World} {Q : Exit → Act → World → Prop} (hgd : o.guard = none) (ho : o.op = .alloc 49) (H : Nat) (hH : w.heap.size = H)
    (h : wpList Tryd.prog ops Q rest (a.put o.dst (.pointer (some ⟨H, 0, none⟩))) (w.alloc (.cells (wdCells (fun _ => 0)) 49))) : wpList Tryd.prog ops Q (o :: rest) a w := by
  subst hH
  exact wpList_plain hgd fun _ hK => by
    unfold Oper.wp execOp
    simp only [ho, Sem.run_bind, run_alloc_wd, Result.andThen_ok, Sem.run_pure]
    exact hK _ _ h
theorem wpList_store_wd {ops : Array Oper} {rest : List Oper} {o : Oper} {a : Act} {w : World} {Q : Exit → Act → World → Prop} (hgd : o.guard = none) (x y : Operand) (ho : o.op = .store 49 x y)
    (g : Nat) (f f' : Nat → Int) (hx : a.eval x = .pointer (some ⟨g, 0, none⟩)) (hy : a.eval y = .agg (wdCells f)) (hg : Blk w g (wdCells f') 49)
    (h : wpList Tryd.prog ops Q rest (a.put o.dst undef) (w.setRow g (wdCells f))) : wpList Tryd.prog ops Q (o :: rest) a w :=
  wpList_store_row hgd 49 x y ho g (wdCells f) hx hy 49 (wdCells f') hg (infoWd f) (by rw [wdCells_size, wdCells_size]) (wdCells_one f) h
theorem wdLoad {w : World} {b : Nat} {f : Nat → Int} {t : TypeId} (hb : Blk w b (wdCells f) t) : ∀ j v, (wdCells f)[j]? = some v → w.cell? ⟨b, 0 + j, none⟩ = some v := by
  intro j v hv; rw [Nat.zero_add, hb.cell]; exact hv
theorem Blk.setw {w : World} {g : Nat} {f : Nat → Int} {t : TypeId} (h : Blk w g (wdCells f) t) (i : Nat) (x : Int) : Blk (w.setCell ⟨g, i, none⟩ (.int .u64 x)) g (wdCells (wset f i x)) t := by
  have := h.set i (.int .u64 x); rwa [wdCells_set] at this
theorem results_wd {fn : Func} {w : World} {s : Nat} (hr : fn.results = #[.cell s 49]) (tmps : Array Value) (g : Nat) (f : Nat → Int) (hs : tmps.getD s undef = .pointer (some ⟨g, 0, none⟩)) (h : Blk w g (wdCells f) 49) :
    (results fn tmps).run Tryd.prog w = .ok (.agg (wdCells f)) w := by
  have hl := run_loadVar_part (P := Tryd.prog) w g 0 49 (wdCells f) _ (wdLoad h) Tryd.underlying49 rfl (infoWd f)
  have hs' : tmps[s]?.getD undef = .pointer (some ⟨g, 0, none⟩) := by rw [← hs]; simp
  simp [results, hr, hs', asAddr, hl]
theorem wdLit (f : Nat → Int) : wdCells f = #[.int .u64 (f 0), .int .u64 (f 1), .int .u64 (f 2), .int .u64 (f 3), .int .u64 (f 4), .int .u64 (f 5), .int .u64 (f 6), .int .u64 (f 7), .int .u64 (f 8), .int .u64 (f 9), .int .u64 (f 10), .int .u64 (f 11), .int .u64 (f 12), .int .u64 (f 13), .int .u64 (f 14), .int .u64 (f 15), .int .u64 (f 16), .int .u64 (f 17), .int .u64 (f 18), .int .u64 (f 19), .int .u64 (f 20), .int .u64 (f 21), .int .u64 (f 22), .int .u64 (f 23)] := rfl
set_option maxRecDepth 100000 in
set_option maxHeartbeats 1600000 in
theorem eq_wd (f : Nat → Int) (w : World) : (Op.equalIn 10000 49 (.agg (wdCells f)) (.agg (wdCells f))).run Tryd.prog w = .ok true w := by
  rw [wdLit]
  have u4 := Tryd.underlying22
  have a4' := Tryd.isAgg22
  have z4 := Tryd.sizeOf22
  rw [show (10000 : Nat) = 9999 + 1 from rfl, Op.equalIn]
  simp only [Sem.run_bind, run_underlying Tryd.underlying49, Result.andThen_ok]
  simp only [Std.Legacy.Range.forIn_eq_forIn_range', Std.Legacy.Range.size, Nat.sub_zero, Nat.add_sub_cancel, Nat.div_one, List.range'_succ, List.range'_zero, List.forIn_cons, List.forIn_nil]
  go_simp
end Go.Proofs.YtkfpoekeofnglaaDoor
