/-
  A SNAPSHOT IN A BLOCK: its cells; stores of one cell, and of a row within it.
-/
import Derived.Test.YtgmbnoimlffgcaaRo
import Derived.Deep.MidRow
namespace Go.Proofs.Ytgmbnoimlffgcaa
open Go.RowKit
set_option linter.unusedVariables false

/-! ### a row within a block -/
def putL (C : Array Value) (o : Nat) : List Value → Array Value
  | [] => C
  | v :: r => putL (C.setIfInBounds o v) (o + 1) r
theorem Blk.mid {b : Nat} {t : TypeId} : ∀ (vs : List Value) (o : Nat) {w : World} {C : Array Value}, Blk w b C t → Blk (w.setCells b o vs) b (putL C o vs) t
  | [], _, _, _, h => h
  | v :: r, o, _, _, h => by
    rw [World.setCells, putL]
    exact Blk.mid r (o + 1) (h.set o v)
theorem keeps_setCells {S : Nat → Prop} {a : World} {b : Nat} (hb : S b ∨ a.heap.size ≤ b) : ∀ (vs : List Value) (o : Nat) {w : World}, Keeps S a w → Keeps S a (w.setCells b o vs)
  | [], _, _, h => h
  | v :: r, o, _, h => by
    rw [World.setCells]
    exact keeps_setCells hb r (o + 1) (h.setCell (p := ⟨b, o, none⟩) hb v)
theorem Blk.there {w : World} {b : Nat} {C : Array Value} {t : TypeId} (h : Blk w b C t) (o n : Nat) (hn : o + n ≤ C.size) : w.there b o n := fun j hj =>
  ⟨by rw [h.cell, Array.getElem?_eq_getElem (by omega)]; rfl, h.frozen _⟩
theorem putL_list : ∀ (vs pre mid post : List Value), vs.length = mid.length → putL (pre ++ mid ++ post).toArray pre.length vs = (pre ++ vs ++ post).toArray
  | [], pre, mid, post, h => by
    obtain rfl : mid = [] := List.length_eq_zero_iff.1 h.symm
    rfl
  | v :: r, pre, [], post, h => by cases h
  | v :: r, pre, m :: mid, post, h => by
    rw [putL]
    have e : ((pre ++ m :: mid ++ post).toArray).setIfInBounds pre.length v = ((pre ++ [v]) ++ mid ++ post).toArray := by
      simp
    rw [e]
    have := putL_list r (pre ++ [v]) mid post (by simpa using h)
    rw [List.length_append] at this
    simpa using this

/-! ### the snapshot -/
structure Sn where
  mv : Option Addr
  at_ : Int
  k : Int
  last : Bool
  a : Nat → Int
  b : Nat → Int
  high : Int
  has : Bool
  step : Value
  over : Bool
  e : Int
  found : Nd
def snHd (s : Sn) : List Value := [.pointer s.mv, .int .u64 s.at_, .int .i64 s.k, .bool s.last]
def snMd (s : Sn) : List Value := [.int .u64 s.high, .bool s.has, s.step, .bool s.over, .int .i64 s.e]
def snList (s : Sn) : List Value := snHd s ++ (wdList s.a ++ (wdList s.b ++ (snMd s ++ (ndCells s.found).toList)))
def snCells (s : Sn) : Array Value := (snList s).toArray
theorem snCells_size (s : Sn) : (snCells s).size = 78 := by
  have := ndCells_size s.found
  simp [snCells, snList, snHd, snMd, wdList_len, this]
theorem sn_0 (s : Sn) : (snCells s)[0]? = some (.pointer s.mv) := by simp [snCells, snList, snHd]
theorem sn_1 (s : Sn) : (snCells s)[1]? = some (.int .u64 s.at_) := by simp [snCells, snList, snHd]
theorem sn_2 (s : Sn) : (snCells s)[2]? = some (.int .i64 s.k) := by simp [snCells, snList, snHd]
theorem sn_3 (s : Sn) : (snCells s)[3]? = some (.bool s.last) := by simp [snCells, snList, snHd]
theorem sn_a (s : Sn) (i : Nat) (h : i < 24) : (snCells s)[4 + i]? = some (.int .u64 (s.a i)) := by
  have : (snList s)[4 + i]? = (wdList s.a ++ (wdList s.b ++ (snMd s ++ (ndCells s.found).toList)))[i]? := by
    unfold snList
    rw [List.getElem?_append_right (by simp [snHd])]
    congr 1; simp [snHd]
  rw [show (snCells s)[4 + i]? = (snList s)[4 + i]? by simp [snCells], this, List.getElem?_append_left (by rw [wdList_len]; exact h), wdList_get, if_pos h]
theorem sn_b (s : Sn) (i : Nat) (h : i < 24) : (snCells s)[28 + i]? = some (.int .u64 (s.b i)) := by
  have : (snList s)[28 + i]? = (wdList s.b ++ (snMd s ++ (ndCells s.found).toList))[i]? := by
    unfold snList
    rw [List.getElem?_append_right (by simp [snHd]; omega), List.getElem?_append_right (by rw [wdList_len]; simp [snHd]; omega)]
    congr 1; rw [wdList_len]; simp [snHd]; omega
  rw [show (snCells s)[28 + i]? = (snList s)[28 + i]? by simp [snCells], this, List.getElem?_append_left (by rw [wdList_len]; exact h), wdList_get, if_pos h]
theorem sn_md (s : Sn) (i : Nat) (h : i < 5) : (snCells s)[52 + i]? = (snMd s)[i]? := by
  have : (snList s)[52 + i]? = (snMd s ++ (ndCells s.found).toList)[i]? := by
    unfold snList
    rw [List.getElem?_append_right (by simp [snHd]; omega), List.getElem?_append_right (by rw [wdList_len]; simp [snHd]; omega), List.getElem?_append_right (by rw [wdList_len]; simp [snHd, wdList_len]; omega)]
    congr 1; rw [wdList_len]; simp [snHd, wdList_len]; omega
  rw [show (snCells s)[52 + i]? = (snList s)[52 + i]? by simp [snCells], this, List.getElem?_append_left (by simpa [snMd] using h)]
theorem sn_52 (s : Sn) : (snCells s)[52]? = some (.int .u64 s.high) := sn_md s 0 (by decide)
theorem sn_53 (s : Sn) : (snCells s)[53]? = some (.bool s.has) := sn_md s 1 (by decide)
theorem sn_54 (s : Sn) : (snCells s)[54]? = some s.step := sn_md s 2 (by decide)
theorem sn_55 (s : Sn) : (snCells s)[55]? = some (.bool s.over) := sn_md s 3 (by decide)
theorem sn_56 (s : Sn) : (snCells s)[56]? = some (.int .i64 s.e) := sn_md s 4 (by decide)
/-! ### stores -/
theorem sn_set (pre mid post : List Value) (v : Value) (m : Value) (hm : mid = [m]) (n : Nat) (hn : pre.length = n) : ((pre ++ mid ++ post).toArray).setIfInBounds n v = (pre ++ [v] ++ post).toArray := by
  subst hn hm
  simp
theorem sn_set2 (s : Sn) (x : Int) : (snCells s).setIfInBounds 2 (.int .i64 x) = snCells { s with k := x } := by simp [snCells, snList, snHd, snMd]
theorem sn_set3 (s : Sn) (x : Bool) : (snCells s).setIfInBounds 3 (.bool x) = snCells { s with last := x } := by simp [snCells, snList, snHd, snMd]
theorem sn_mid (s : Sn) (i : Nat) (h : i < 5) (v : Value) : (snCells s).setIfInBounds (52 + i) v = (snHd s ++ (wdList s.a ++ (wdList s.b ++ ((snMd s).set i v ++ (ndCells s.found).toList)))).toArray := by
  have e : 52 + i = (snHd s ++ wdList s.a ++ wdList s.b).length + i := by simp [snHd, wdList_len]
  rw [e]
  have e2 : snCells s = ((snHd s ++ wdList s.a ++ wdList s.b) ++ (snMd s ++ (ndCells s.found).toList)).toArray := by simp [snCells, snList]
  rw [e2, List.setIfInBounds_toArray, List.set_append_right _ _ (by omega), Nat.add_sub_cancel_left, List.set_append_left _ _ (by simpa [snMd] using h)]
  simp
theorem sn_set52 (s : Sn) (x : Int) : (snCells s).setIfInBounds 52 (.int .u64 x) = snCells { s with high := x } := sn_mid s 0 (by decide) _
theorem sn_set53 (s : Sn) (x : Bool) : (snCells s).setIfInBounds 53 (.bool x) = snCells { s with has := x } := sn_mid s 1 (by decide) _
theorem sn_set54 (s : Sn) (x : Value) : (snCells s).setIfInBounds 54 x = snCells { s with step := x } := sn_mid s 2 (by decide) _
theorem sn_set55 (s : Sn) (x : Bool) : (snCells s).setIfInBounds 55 (.bool x) = snCells { s with over := x } := sn_mid s 3 (by decide) _
theorem sn_set56 (s : Sn) (x : Int) : (snCells s).setIfInBounds 56 (.int .i64 x) = snCells { s with e := x } := sn_mid s 4 (by decide) _
theorem wdList_set (f : Nat → Int) (i : Nat) (x : Int) : (wdList f).set i (.int .u64 x) = wdList (wset f i x) := by
  have := congrArg Array.toList (wdCells_set f i x)
  simpa [wdCells] using this
theorem sn_setA (s : Sn) (i : Nat) (h : i < 24) (x : Int) : (snCells s).setIfInBounds (4 + i) (.int .u64 x) = snCells { s with a := wset s.a i x } := by
  have e : 4 + i = (snHd s).length + i := by simp [snHd]
  rw [e]
  unfold snCells snList
  rw [List.setIfInBounds_toArray, List.set_append_right _ _ (by omega), Nat.add_sub_cancel_left, List.set_append_left _ _ (by rw [wdList_len]; exact h), wdList_set]
  rfl
theorem sn_setB (s : Sn) (i : Nat) (h : i < 24) (x : Int) : (snCells s).setIfInBounds (28 + i) (.int .u64 x) = snCells { s with b := wset s.b i x } := by
  have e : 28 + i = (snHd s ++ wdList s.a).length + i := by simp [snHd, wdList_len]
  rw [e]
  unfold snCells snList
  rw [← List.append_assoc]
  rw [List.setIfInBounds_toArray, List.set_append_right _ _ (by omega), Nat.add_sub_cancel_left, List.set_append_left _ _ (by rw [wdList_len]; exact h), wdList_set, List.append_assoc]
  rfl
theorem sn_putA (s : Sn) (f : Nat → Int) : putL (snCells s) 4 (wdList f) = snCells { s with a := f } := by
  have := putL_list (wdList f) (snHd s) (wdList s.a) (wdList s.b ++ (snMd s ++ (ndCells s.found).toList)) (by rw [wdList_len, wdList_len])
  rw [List.append_assoc, List.append_assoc] at this
  exact this
theorem sn_putB (s : Sn) (f : Nat → Int) : putL (snCells s) 28 (wdList f) = snCells { s with b := f } := by
  have := putL_list (wdList f) (snHd s ++ wdList s.a) (wdList s.b) (snMd s ++ (ndCells s.found).toList) (by rw [wdList_len, wdList_len])
  rw [List.length_append, wdList_len] at this
  rw [List.append_assoc, List.append_assoc, List.append_assoc, List.append_assoc] at this
  exact this
theorem sn_putN (s : Sn) (n : Nd) : putL (snCells s) 57 (ndCells n).toList = snCells { s with found := n } := by
  have := putL_list (ndCells n).toList (snHd s ++ wdList s.a ++ wdList s.b ++ snMd s) (ndCells s.found).toList [] (by simp [ndCells_size])
  rw [List.length_append, List.length_append, List.length_append, wdList_len, wdList_len, List.append_nil, List.append_nil] at this
  rw [List.append_assoc, List.append_assoc, List.append_assoc, List.append_assoc, List.append_assoc, List.append_assoc] at this
  exact this
/-! ### operations -/
theorem run_storeVar_cellB {w : World} {sb off : Nat} {C : Array Value} {t : TypeId} (hb : Blk w sb C t) (ho : off < C.size) (ty : TypeId) (v : Value) (h1 : v.oneCell' = true) (hi : (Try.prog.info? ty).map (·.size) = some 1) :
    (storeVar ty ⟨sb, off, none⟩ v).run Try.prog w = .ok () (w.setCell ⟨sb, off, none⟩ v) := by
  have hst := run_store Try.prog w ⟨sb, off, none⟩ v .plain h1
  have hc : w.cell? ⟨sb, off, none⟩ = some C[off] := by rw [hb.cell]; exact Array.getElem?_eq_getElem ho
  have hf := hb.frozen off
  rw [hc] at hst
  simp only [hf] at hst
  have e0 : (⟨sb, off, none⟩ : Addr).add 0 = ⟨sb, off, none⟩ := by simp [Addr.add]
  have hcs : v.cells = #[v] := by cases v <;> first | rfl | cases h1
  cases hq : Try.prog.info? ty with
  | none => simp [hq] at hi
  | some i =>
    have hs : i.size = 1 := by simpa [hq] using hi
    simp [storeVar, sizeOf, typeInfo, hq, hcs, hs, storeCells, e0, hst]
theorem wpList_store_cellB {ops : Array Oper} {rest : List Oper} {o : Oper} {a : Act} {w : World} {Q : Exit → Act → World → Prop} (hgd : o.guard = none) (ty : TypeId) (x y : Operand) (ho : o.op = .store ty x y)
    (sb off : Nat) (v : Value) (C : Array Value) (t : TypeId) (hx : a.eval x = .pointer (some ⟨sb, off, none⟩)) (hy : a.eval y = v) (h1 : v.oneCell' = true) (hb : Blk w sb C t) (hsz : off < C.size) (hi : (Try.prog.info? ty).map (·.size) = some 1)
    (h : wpList Try.prog ops Q rest (a.put o.dst undef) (w.setCell ⟨sb, off, none⟩ v)) : wpList Try.prog ops Q (o :: rest) a w :=
  wpList_plain hgd fun _ hK => by
    unfold Oper.wp execOp
    simp only [ho, hx, hy, Instr.storeAt, Instr.sureAddr, Sem.run_bind, Sem.run_pure, Result.andThen_ok, run_storeVar_cellB hb hsz ty v h1 hi]
    exact hK _ _ h
theorem infoFn : (Try.prog.info? 36).map (·.size) = some 1 := by kernel_rfl
theorem wpList_store_wdm {ops : Array Oper} {rest : List Oper} {o : Oper} {a : Act} {w : World} {Q : Exit → Act → World → Prop} (hgd : o.guard = none) (x y : Operand) (ho : o.op = .store 45 x y)
    (sb off : Nat) (f : Nat → Int) (cs : Array Value) (C : Array Value) (t : TypeId) (hx : a.eval x = .pointer (some ⟨sb, off, none⟩)) (hy : a.eval y = .agg cs) (hm : cs = wdCells f) (hb : Blk w sb C t) (hsz : off + 24 ≤ C.size)
    (h : wpList Try.prog ops Q rest (a.put o.dst undef) (w.setCells sb off (wdList f))) : wpList Try.prog ops Q (o :: rest) a w := by
  subst hm
  exact wpList_store_mid hgd 45 x y ho sb off (wdCells f) hx hy (hb.there off _ (by rw [wdCells_size]; exact hsz)) (infoWd f) (wdCells_one f) h
theorem wpList_store_ndm {ops : Array Oper} {rest : List Oper} {o : Oper} {a : Act} {w : World} {Q : Exit → Act → World → Prop} (hgd : o.guard = none) (x y : Operand) (ho : o.op = .store 40 x y)
    (sb off : Nat) (n : Nd) (cs : Array Value) (C : Array Value) (t : TypeId) (hx : a.eval x = .pointer (some ⟨sb, off, none⟩)) (hy : a.eval y = .agg cs) (hm : cs = ndCells n) (hb : Blk w sb C t) (hsz : off + 21 ≤ C.size)
    (h : wpList Try.prog ops Q rest (a.put o.dst undef) (w.setCells sb off (ndCells n).toList)) : wpList Try.prog ops Q (o :: rest) a w := by
  subst hm
  exact wpList_store_mid hgd 40 x y ho sb off (ndCells n) hx hy (hb.there off _ (by rw [ndCells_size]; exact hsz)) (info27 n) (ndCells_one n) h
end Go.Proofs.Ytgmbnoimlffgcaa
