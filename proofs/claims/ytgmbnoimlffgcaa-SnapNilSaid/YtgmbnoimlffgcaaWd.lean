/-
  TWENTY-FOUR WORDS IN A BLOCK: made, laid over, loaded, the same as themselves.
-/
import Derived.Test.YtgmbnoimlffgcaaNx
namespace Go.Proofs.Ytgmbnoimlffgcaa
open Go.RowKit

theorem lit21 (n : Nd) : ndCells n = #[.int .i64 n.lv, .int .u64 n.lo, .int .u64 n.nx, .int .u64 n.ct, .int .u64 n.fi, .int .u64 (n.k 0), .int .u64 (n.k 1), .int .u64 (n.k 2), .int .u64 (n.k 3), .int .u64 (n.k 4), .int .u64 (n.k 5), .int .u64 (n.k 6), .int .u64 (n.k 7), .int .u64 (n.p 0), .int .u64 (n.p 1), .int .u64 (n.p 2), .int .u64 (n.p 3), .int .u64 (n.p 4), .int .u64 (n.p 5), .int .u64 (n.p 6), .int .u64 (n.p 7)] := rfl
theorem eq8_at (T e : TypeId) (hT : Try.prog.underlying T = some (.array 8 e)) (he : Try.prog.underlying e = some (.int .u64)) (ha : ∀ w, (isAgg e).run Try.prog w = .ok false w) (hz : ∀ w, (sizeOf e).run Try.prog w = .ok 1 w) (d : Nat) (a0 a1 a2 a3 a4 a5 a6 a7 : Int) (w : World) :
    (Op.equalIn (d + 2) T (.agg #[.int .u64 a0, .int .u64 a1, .int .u64 a2, .int .u64 a3, .int .u64 a4, .int .u64 a5, .int .u64 a6, .int .u64 a7]) (.agg #[.int .u64 a0, .int .u64 a1, .int .u64 a2, .int .u64 a3, .int .u64 a4, .int .u64 a5, .int .u64 a6, .int .u64 a7])).run Try.prog w = .ok true w := by
  rw [show d + 2 = (d + 1) + 1 from rfl, Op.equalIn]
  simp only [Sem.run_bind, run_underlying hT, Result.andThen_ok]
  simp only [Std.Legacy.Range.forIn_eq_forIn_range', Std.Legacy.Range.size, Nat.sub_zero, Nat.add_sub_cancel, Nat.div_one, List.range'_succ, List.range'_zero, List.forIn_cons, List.forIn_nil]
  go_simp
set_option maxRecDepth 100000 in
set_option maxHeartbeats 1600000 in
theorem eq_nd (n : Nd) (w : World) : (Op.equalIn 10000 40 (.agg (ndCells n)) (.agg (ndCells n))).run Try.prog w = .ok true w := by
  rw [lit21]
  have u3 := Try.underlying3
  have a3' := Try.isAgg3
  have z3 := Try.sizeOf3
  have u4 := Try.underlying23
  have a4' := Try.isAgg23
  have z4 := Try.sizeOf23
  have u5 := Try.underlying24
  have a5' := Try.isAgg24
  have z5 := Try.sizeOf24
  have k1 := fun w => eq8_at 37 23 Try.underlying37 u4 a4' z4 9997 (n.k 0) (n.k 1) (n.k 2) (n.k 3) (n.k 4) (n.k 5) (n.k 6) (n.k 7) w
  have k2 := fun w => eq8_at 38 24 Try.underlying38 u5 a5' z5 9997 (n.p 0) (n.p 1) (n.p 2) (n.p 3) (n.p 4) (n.p 5) (n.p 6) (n.p 7) w
  rw [show (10000 : Nat) = 9999 + 1 from rfl, Op.equalIn]
  simp only [Sem.run_bind, run_underlying Try.underlying40, Result.andThen_ok]
  go_simp
end Go.Proofs.Ytgmbnoimlffgcaa
namespace Go.Proofs.Ytgmbnoimlffgcaa
open Go.RowKit

def wdList (f : Nat → Int) : List Value := (List.range 24).map (fun i => Value.int .u64 (f i))
def wdCells (f : Nat → Int) : Array Value := (wdList f).toArray
theorem wdList_get (f : Nat → Int) (i : Nat) : (wdList f)[i]? = if i < 24 then some (.int .u64 (f i)) else none := by
  unfold wdList
  by_cases h : i < 24 <;> simp [h]
theorem wdList_len (f : Nat → Int) : (wdList f).length = 24 := by simp [wdList]
theorem wdCells_size (f : Nat → Int) : (wdCells f).size = 24 := by simp [wdCells, wdList_len]
theorem wdCells_get (f : Nat → Int) (i : Nat) (h : i < 24) : (wdCells f)[i]? = some (.int .u64 (f i)) := by
  unfold wdCells; simp [wdList_get, h]
def wset (f : Nat → Int) (i : Nat) (x : Int) : Nat → Int := fun j => if j = i then x else f j
theorem wdCells_set (f : Nat → Int) (i : Nat) (x : Int) : (wdCells f).setIfInBounds i (.int .u64 x) = wdCells (wset f i x) := by
  apply Array.ext_getElem?
  intro j
  rcases Nat.lt_or_ge j 24 with hj | hj
  · rw [wdCells_get _ _ hj]
    by_cases e : i = j
    · subst e
      rw [Array.getElem?_setIfInBounds_self_of_lt (by rw [wdCells_size]; exact hj)]
      simp [wset]
    · rw [Array.getElem?_setIfInBounds_ne e, wdCells_get _ _ hj]
      unfold wset; rw [if_neg (fun h => e h.symm)]
  · rw [Array.getElem?_eq_none (by rw [Array.size_setIfInBounds, wdCells_size]; exact hj), Array.getElem?_eq_none (by rw [wdCells_size]; exact hj)]
theorem wdCells_one (f : Nat → Int) : (wdCells f).all (·.oneCell') = true := by
  rw [Array.all_eq_true_iff_forall_mem]
  intro v hv
  unfold wdCells wdList at hv
  simp only [List.mem_toArray, List.mem_map] at hv
  obtain ⟨_, _, rfl⟩ := hv
  rfl
theorem wdCells_congr {f g : Nat → Int} (h : ∀ i, i < 24 → f i = g i) : wdCells f = wdCells g := by
  unfold wdCells wdList
  congr 1
  exact List.map_congr_left (fun i hi => by rw [h i (List.mem_range.1 hi)])
theorem infoWd (f : Nat → Int) : (Try.prog.info? 45).map (·.size) = some (wdCells f).size := by rw [wdCells_size]; kernel_rfl
theorem run_alloc_wd (w : World) : (Instr.alloc 45 true (.tuple #[])).run Try.prog w = .ok (.pointer (some ⟨w.heap.size, 0, none⟩)) (w.alloc (.cells (wdCells (fun _ => 0)) 45)) := by kernel_rfl
theorem wpList_alloc_wdAt {ops : Array Oper} {rest : List Oper} {o : Oper} {a : Act} {w : World} {Q : Exit → Act → World → Prop} (hgd : o.guard = none) (ho : o.op = .alloc 45) (H : Nat) (hH : w.heap.size = H)
    (h : wpList Try.prog ops Q rest (a.put o.dst (.pointer (some ⟨H, 0, none⟩))) (w.alloc (.cells (wdCells (fun _ => 0)) 45))) : wpList Try.prog ops Q (o :: rest) a w := by
  subst hH
  exact wpList_plain hgd fun _ hK => by
    unfold Oper.wp execOp
    simp only [ho, Sem.run_bind, run_alloc_wd, Result.andThen_ok, Sem.run_pure]
    exact hK _ _ h
theorem wpList_store_wd {ops : Array Oper} {rest : List Oper} {o : Oper} {a : Act} {w : World} {Q : Exit → Act → World → Prop} (hgd : o.guard = none) (x y : Operand) (ho : o.op = .store 45 x y)
    (g : Nat) (f f' : Nat → Int) (hx : a.eval x = .pointer (some ⟨g, 0, none⟩)) (hy : a.eval y = .agg (wdCells f)) (hg : Blk w g (wdCells f') 45)
    (h : wpList Try.prog ops Q rest (a.put o.dst undef) (w.setRow g (wdCells f))) : wpList Try.prog ops Q (o :: rest) a w :=
  wpList_store_row hgd 45 x y ho g (wdCells f) hx hy 45 (wdCells f') hg (infoWd f) (by rw [wdCells_size, wdCells_size]) (wdCells_one f) h
theorem wdLoad {w : World} {b : Nat} {f : Nat → Int} {t : TypeId} (hb : Blk w b (wdCells f) t) : ∀ j v, (wdCells f)[j]? = some v → w.cell? ⟨b, 0 + j, none⟩ = some v := by
  intro j v hv; rw [Nat.zero_add, hb.cell]; exact hv
theorem Blk.setw {w : World} {g : Nat} {f : Nat → Int} {t : TypeId} (h : Blk w g (wdCells f) t) (i : Nat) (x : Int) : Blk (w.setCell ⟨g, i, none⟩ (.int .u64 x)) g (wdCells (wset f i x)) t := by
  have := h.set i (.int .u64 x); rwa [wdCells_set] at this
theorem results_wd {fn : Func} {w : World} {s : Nat} (hr : fn.results = #[.cell s 45]) (tmps : Array Value) (g : Nat) (f : Nat → Int) (hs : tmps.getD s undef = .pointer (some ⟨g, 0, none⟩)) (h : Blk w g (wdCells f) 45) :
    (results fn tmps).run Try.prog w = .ok (.agg (wdCells f)) w := by
  have hl := run_loadVar_part (P := Try.prog) w g 0 45 (wdCells f) _ (wdLoad h) Try.underlying45 rfl (infoWd f)
  have hs' : tmps[s]?.getD undef = .pointer (some ⟨g, 0, none⟩) := by rw [← hs]; simp
  simp [results, hr, hs', asAddr, hl]
theorem wdLit (f : Nat → Int) : wdCells f = #[.int .u64 (f 0), .int .u64 (f 1), .int .u64 (f 2), .int .u64 (f 3), .int .u64 (f 4), .int .u64 (f 5), .int .u64 (f 6), .int .u64 (f 7), .int .u64 (f 8), .int .u64 (f 9), .int .u64 (f 10), .int .u64 (f 11), .int .u64 (f 12), .int .u64 (f 13), .int .u64 (f 14), .int .u64 (f 15), .int .u64 (f 16), .int .u64 (f 17), .int .u64 (f 18), .int .u64 (f 19), .int .u64 (f 20), .int .u64 (f 21), .int .u64 (f 22), .int .u64 (f 23)] := rfl
set_option maxRecDepth 100000 in
set_option maxHeartbeats 1600000 in
theorem eq_wd (f : Nat → Int) (w : World) : (Op.equalIn 10000 45 (.agg (wdCells f)) (.agg (wdCells f))).run Try.prog w = .ok true w := by
  rw [wdLit]
  have u4 := Try.underlying23
  have a4' := Try.isAgg23
  have z4 := Try.sizeOf23
  rw [show (10000 : Nat) = 9999 + 1 from rfl, Op.equalIn]
  simp only [Sem.run_bind, run_underlying Try.underlying45, Result.andThen_ok]
  simp only [Std.Legacy.Range.forIn_eq_forIn_range', Std.Legacy.Range.size, Nat.sub_zero, Nat.add_sub_cancel, Nat.div_one, List.range'_succ, List.range'_zero, List.forIn_cons, List.forIn_nil]
  go_simp
end Go.Proofs.Ytgmbnoimlffgcaa
