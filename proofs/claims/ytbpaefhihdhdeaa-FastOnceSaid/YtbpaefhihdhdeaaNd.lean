/-
  A NODE AS A VALUE: its cells; loads of a whole block, and of a part of one.
-/
import Derived.Test.YtbpaefhihdhdeaaChecked
import Derived.Test.YtbpaefhihdhdeaaLib
import Derived.Laws.Rows
import Derived.Lib.Hide
import Derived.TacticsInMore
import Derived.OwnWalkIn
namespace Go.Proofs.Ytbpaefhihdhdeaa
open Go.RowKit

structure Nd where
  lv : Int
  lo : Int
  nx : Int
  ct : Int
  fi : Int
  k : Nat → Int
  p : Nat → Int

/-- A node's numbers are what their kinds let. -/
structure Nd.Wf (n : Nd) : Prop where
  lv : (Lit.int .i64 n.lv).wf = true
  lo : (Lit.int .u64 n.lo).wf = true
  nx : (Lit.int .u64 n.nx).wf = true
  ct : (Lit.int .u64 n.ct).wf = true
  fi : (Lit.int .u64 n.fi).wf = true
  k : ∀ i, i < 8 → (Lit.int .u64 (n.k i)).wf = true
  p : ∀ i, i < 8 → (Lit.int .u64 (n.p i)).wf = true

def u8s (f : Nat → Int) : List Value := (List.range 8).map (fun i => Value.int .u64 (f i))
def ndCells (n : Nd) : Array Value := ([Value.int .i64 n.lv, .int .u64 n.lo, .int .u64 n.nx, .int .u64 n.ct, .int .u64 n.fi] ++ u8s n.k ++ u8s n.p).toArray
def ptrsA (n : Nd) : Array Value := (u8s n.p).toArray
def keysA (n : Nd) : Array Value := (u8s n.k).toArray

theorem u8s_get (f : Nat → Int) (i : Nat) : (u8s f)[i]? = if i < 8 then some (.int .u64 (f i)) else none := by
  unfold u8s
  by_cases h : i < 8 <;> simp [h]
theorem u8s_len (f : Nat → Int) : (u8s f).length = 8 := by simp [u8s]
theorem ndCells_size (n : Nd) : (ndCells n).size = 21 := by simp [ndCells, u8s_len]
theorem ndCells_0 (n : Nd) : (ndCells n)[0]? = some (.int .i64 n.lv) := by simp [ndCells]
theorem ndCells_1 (n : Nd) : (ndCells n)[1]? = some (.int .u64 n.lo) := by simp [ndCells]
theorem ndCells_2 (n : Nd) : (ndCells n)[2]? = some (.int .u64 n.nx) := by simp [ndCells]
theorem ndCells_3 (n : Nd) : (ndCells n)[3]? = some (.int .u64 n.ct) := by simp [ndCells]
theorem ndCells_4 (n : Nd) : (ndCells n)[4]? = some (.int .u64 n.fi) := by simp [ndCells]
theorem ndCells_k (n : Nd) (i : Nat) (h : i < 8) : (ndCells n)[5 + i]? = some (.int .u64 (n.k i)) := by
  have e : (ndCells n)[5 + i]? = ([Value.int .i64 n.lv, .int .u64 n.lo, .int .u64 n.nx, .int .u64 n.ct, .int .u64 n.fi] ++ (u8s n.k ++ u8s n.p))[5 + i]? := by simp [ndCells]
  rw [e, List.getElem?_append_right (by simp), List.getElem?_append_left (by simp [u8s_len, h])]
  simp [u8s_get, h]
theorem ndCells_p (n : Nd) (i : Nat) (h : i < 8) : (ndCells n)[13 + i]? = some (.int .u64 (n.p i)) := by
  have e : (ndCells n)[13 + i]? = ([Value.int .i64 n.lv, .int .u64 n.lo, .int .u64 n.nx, .int .u64 n.ct, .int .u64 n.fi] ++ (u8s n.k ++ u8s n.p))[13 + i]? := by simp [ndCells]
  rw [e, List.getElem?_append_right (by simp; omega), List.getElem?_append_right (by simp [u8s_len]; omega)]
  have e2 : 13 + i - ([Value.int .i64 n.lv, .int .u64 n.lo, .int .u64 n.nx, .int .u64 n.ct, .int .u64 n.fi] : List Value).length - (u8s n.k).length = i := by simp [u8s_len]; omega
  rw [e2, u8s_get, if_pos h]
theorem ptrsA_get (n : Nd) (i : Nat) (h : i < 8) : (ptrsA n)[i]? = some (.int .u64 (n.p i)) := by simp [ptrsA, u8s_get, h]
theorem keysA_get (n : Nd) (i : Nat) (h : i < 8) : (keysA n)[i]? = some (.int .u64 (n.k i)) := by simp [keysA, u8s_get, h]
theorem ptrsA_size (n : Nd) : (ptrsA n).size = 8 := by simp [ptrsA, u8s_len]
theorem keysA_size (n : Nd) : (keysA n).size = 8 := by simp [keysA, u8s_len]

/-! ### loads of an aggregate that lies in a block -/
section
variable {P : Program}
theorem run_loadVar_part (w : World) (g off : Nat) (ty : TypeId) (cs : Array Value) (d : TypeDesc) (hc : ∀ j v, cs[j]? = some v → w.cell? ⟨g, off + j, none⟩ = some v)
    (hu : P.underlying ty = some d) (hd : (match d with | .struct _ | .array _ _ => true | _ => false) = true) (hi : (P.info? ty).map (·.size) = some cs.size) :
    (loadVar ty ⟨g, off, none⟩).run P w = .ok (.agg cs) w := by
  have hl : (loadCells ⟨g, off, none⟩ cs.toList.length).run P w = .ok cs.toList.toArray w :=
    run_loadCells_list (P := P) w ⟨g, off, none⟩ cs.toList (fun j v hv => by
      have hadd : (⟨g, off, none⟩ : Addr).add j = ⟨g, off + j, none⟩ := by unfold Addr.add; split <;> simp_all
      rw [hadd]
      exact hc j v (by simpa using hv))
  cases hq : P.info? ty with
  | none => simp [hq] at hi
  | some i =>
    rw [hq] at hi
    simp at hi
    have hs : (sizeOf ty).run P w = .ok cs.size w := by simp [sizeOf, typeInfo, hq, hi]
    have ha : (isAgg ty).run P w = .ok true w := by
      simp only [isAgg, Sem.run_bind, run_underlying hu, Result.andThen_ok]
      cases d <;> simp_all
    simp at hl
    simp [loadVar, ha, hs, hl, Result.andThen]
theorem wpList_load_part {ops : Array Oper} {rest : List Oper} {o : Oper} {a : Act} {w : World} {Q : Exit → Act → World → Prop} (hgd : o.guard = none) (ty : TypeId) (x : Operand) (ho : o.op = .load ty x)
    (g off : Nat) (hx : a.eval x = .pointer (some ⟨g, off, none⟩)) (cs : Array Value) (d : TypeDesc) (hc : ∀ j v, cs[j]? = some v → w.cell? ⟨g, off + j, none⟩ = some v)
    (hu : P.underlying ty = some d) (hd : (match d with | .struct _ | .array _ _ => true | _ => false) = true) (hi : (P.info? ty).map (·.size) = some cs.size)
    (h : wpList P ops Q rest (a.put o.dst (.agg cs)) w) : wpList P ops Q (o :: rest) a w :=
  wpList_plain hgd fun _ hK => by
    unfold Oper.wp execOp
    simp only [ho, hx, Instr.loadAt, Instr.sureAddr, Sem.run_bind, Sem.run_pure, Result.andThen_ok, run_loadVar_part w g off ty cs d hc hu hd hi]
    exact hK _ _ h
theorem wpListIn_load_part {F : Fence} {nF : Nat} {ops : Array Oper} {rest : List Oper} {o : Oper} {a : Act} {w : World} {Q : Exit → Act → World → Prop} (hgd : o.guard = none) (ty : TypeId) (x : Operand) (ho : o.op = .load ty x)
    (g off : Nat) (hx : a.eval x = .pointer (some ⟨g, off, none⟩)) (cs : Array Value) (d : TypeDesc) (hc : ∀ j v, cs[j]? = some v → w.cell? ⟨g, off + j, none⟩ = some v)
    (hu : P.underlying ty = some d) (hd : (match d with | .struct _ | .array _ _ => true | _ => false) = true) (hi : (P.info? ty).map (·.size) = some cs.size)
    (h : wpListIn F nF P ops Q rest (a.put o.dst (.agg cs)) w) : wpListIn F nF P ops Q (o :: rest) a w :=
  wpListIn_plain hgd fun _ hK => by
    unfold Oper.wpIn
    refine ⟨by simp [Oper.about, ho], ?_⟩
    rw [Oper.semAt_plain F _ _ (by rw [ho]; intro c hc'; cases hc')]
    unfold execOp
    simp only [ho, hx, Instr.loadAt, Instr.sureAddr, Sem.run_bind, Sem.run_pure, Result.andThen_ok, run_loadVar_part w g off ty cs d hc hu hd hi]
    exact hK _ _ h
theorem run_index_arr (w : World) (t e n : Nat) (cs : Array Value) (kd : IntKind) (i : Nat) (v : Value) (h : P.underlying t = some (.array n e)) (hs : (sizeOf e).run P w = .ok 1 w) (ha : (isAgg e).run P w = .ok false w)
    (hi : i < n) (hv : cs[i]? = some v) : (Instr.index t (.agg cs) (.int kd i)).run P w = .ok v w := by
  simp [Instr.index, asIntOf, run_underlying h, Result.andThen, hi, hs, part, ha, hv]
theorem wpList_index_arr {ops : Array Oper} {rest : List Oper} {o : Oper} {a : Act} {w : World} {Q : Exit → Act → World → Prop} (hgd : o.guard = none) (t e n : Nat) (x y : Operand) (ho : o.op = .index t x y)
    (cs : Array Value) (kd : IntKind) (i : Nat) (v : Value) (hx : a.eval x = .agg cs) (hy : a.eval y = .int kd i) (h : P.underlying t = some (.array n e)) (hs : (sizeOf e).run P w = .ok 1 w) (ha : (isAgg e).run P w = .ok false w)
    (hi : i < n) (hv : cs[i]? = some v) (hK : wpList P ops Q rest (a.put o.dst v) w) : wpList P ops Q (o :: rest) a w :=
  wpList_plain hgd fun _ hK' => by
    unfold Oper.wp
    simp [execOp, ho, hx, hy, run_index_arr w t e n cs kd i v h hs ha hi hv, Result.andThen]
    exact hK' _ _ hK
theorem wpListIn_index_arr {F : Fence} {nF : Nat} {ops : Array Oper} {rest : List Oper} {o : Oper} {a : Act} {w : World} {Q : Exit → Act → World → Prop} (hgd : o.guard = none) (t e n : Nat) (x y : Operand) (ho : o.op = .index t x y)
    (cs : Array Value) (kd : IntKind) (i : Nat) (v : Value) (hx : a.eval x = .agg cs) (hy : a.eval y = .int kd i) (h : P.underlying t = some (.array n e)) (hs : (sizeOf e).run P w = .ok 1 w) (ha : (isAgg e).run P w = .ok false w)
    (hi : i < n) (hv : cs[i]? = some v) (hK : wpListIn F nF P ops Q rest (a.put o.dst v) w) : wpListIn F nF P ops Q (o :: rest) a w :=
  wpListIn_plain hgd fun _ hK' => by
    unfold Oper.wpIn
    refine ⟨by simp [Oper.about, ho], ?_⟩
    rw [Oper.semAt_plain F _ _ (by rw [ho]; intro c hc'; cases hc')]
    simp [execOp, ho, hx, hy, run_index_arr w t e n cs kd i v h hs ha hi hv, Result.andThen]
    exact hK' _ _ hK
end
end Go.Proofs.Ytbpaefhihdhdeaa
