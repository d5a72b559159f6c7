/-
 ROWS OF STORES THAT MAY BE CUT AT THEIR FRONT: kept,read,appended to.
-/
import Derived.Test.YtodgfbjjjgohgaaGreatPfZ
import Derived.Laws.Tables
import Derived.Maps.OwnSet
namespace Go.Proofs.YtodgfbjjjgohgaaGreat
open Go.RowKit Go.Maps
set_option linter.unusedVariables false

def mkList (f : Nat -> Int) : List Value := (List.range 65).map (fun i => Value.int .i64 (f i))
def lnCells (s : Value) (f : Nat -> Int) : Array Value := (s :: mkList f).toArray
theorem lnCells_size (s : Value) (f : Nat -> Int) : (lnCells s f).size = 66 := by simp [lnCells,mkList]
theorem lnCells_0 (s : Value) (f : Nat -> Int) : (lnCells s f)[0]? = some s := by simp [lnCells]
theorem lnCells_set0 (s s' : Value) (f : Nat -> Int) : (lnCells s f).setIfInBounds 0 s' = lnCells s' f := by simp [lnCells]
theorem lnCells_one {s : Value} (hs : s.oneCell' = true) (f : Nat -> Int) : (lnCells s f).all (·.oneCell') = true := by
 rw [Array.all_eq_true_iff_forall_mem]
 intro v hv
 unfold lnCells mkList at hv
 simp only [List.mem_toArray,List.mem_cons,List.mem_map] at hv
 rcases hv with rfl | ⟨_,_,rfl⟩
 ·exact hs
 ·rfl
theorem lnCells_inj {s s' : Value} {f f' : Nat -> Int} (h : lnCells s f = lnCells s' f') : s = s' := by
 have h0 := lnCells_0 s f
 rw [h,lnCells_0] at h0
 exact (Option.some.inj h0).symm
theorem infoLn (s : Value) (f : Nat -> Int) : (Tryz.prog.info? 95).map (·.size) = some (lnCells s f).size := by rw [lnCells_size];kernel_rfl
theorem run_alloc_ln (w : World) : (Instr.alloc 95 true (.tuple #[])).run Tryz.prog w = .ok (.pointer (some ⟨w.heap.size,0,none⟩)) (w.alloc (.cells (lnCells (.slice none 0 0) (fun _ => 0)) 95)) := by kernel_rfl
theorem zero_ln (w : World) : (zeroValue 95).run Tryz.prog w = .ok (.agg (lnCells (.slice none 0 0) (fun _ => 0))) w := by kernel_rfl
theorem wp_alloc_ln {o : Oper} {a : Act} {w : World} {K : Act -> World -> Prop} {Q : Exit -> Act -> World -> Prop} (ho : o.op = .alloc 95)
  (h : K (a.put o.dst (.pointer (some ⟨w.heap.size,0,none⟩))) (w.alloc (.cells (lnCells (.slice none 0 0) (fun _ => 0)) 95))) : Oper.wp Tryz.prog o a w K Q := by
 unfold Oper.wp execOp
 simp only [ho,Sem.run_bind,run_alloc_ln,Result.andThen_ok,Sem.run_pure]
 exact h
theorem wp_store_ln {o : Oper} {a : Act} {w : World} {K : Act -> World -> Prop} {Q : Exit -> Act -> World -> Prop} (x y : Operand) (ho : o.op = .store 95 x y)
  (g : Nat) (s s' : Value) (f f' : Nat -> Int) (hs : s.oneCell' = true) (hx : a.eval x = .pointer (some ⟨g,0,none⟩)) (hy : a.eval y = .agg (lnCells s f)) (hg : Blk w g (lnCells s' f') 95)
  (h : K (a.put o.dst undef) (w.setRow g (lnCells s f))) : Oper.wp Tryz.prog o a w K Q :=
 wp_store_row 95 x y ho g (lnCells s f) hx hy 95 (lnCells s' f') hg (infoLn s f) (by rw [lnCells_size,lnCells_size]) (lnCells_one hs f) h
section
variable {P : Program}
theorem wp_ld_part {o : Oper} {a : Act} {w : World} {K : Act -> World -> Prop} {Q : Exit -> Act -> World -> Prop} (ty : TypeId) (x : Operand) (ho : o.op = .load ty x)
  (g off : Nat) (hx : a.eval x = .pointer (some ⟨g,off,none⟩)) (cs : Array Value) (d : TypeDesc) (hc : ∀ j v,cs[j]? = some v -> w.cell? ⟨g,off + j,none⟩ = some v)
  (hu : P.underlying ty = some d) (hd : (match d with | .struct _ | .array _ _ => true | _ => false) = true) (hi : (P.info? ty).map (·.size) = some cs.size)
  (h : K (a.put o.dst (.agg cs)) w) : Oper.wp P o a w K Q := by
 unfold Oper.wp execOp
 simp only [ho,hx,Instr.loadAt,Instr.sureAddr,Sem.run_bind,Sem.run_pure,Result.andThen_ok,run_loadVar_part w g off ty cs d hc hu hd hi]
 exact h
end
theorem lnLoad {w : World} {b : Nat} {s : Value} {f : Nat -> Int} {t : TypeId} (hb : Blk w b (lnCells s f) t) : ∀ j v,(lnCells s f)[j]? = some v -> w.cell? ⟨b,0 + j,none⟩ = some v := by
 intro j v hv;rw [Nat.zero_add,hb.cell];exact hv
theorem wp_load_ln {o : Oper} {a : Act} {w : World} {K : Act -> World -> Prop} {Q : Exit -> Act -> World -> Prop} (x : Operand) (ho : o.op = .load 95 x)
  (g : Nat) (s : Value) (f : Nat -> Int) (hx : a.eval x = .pointer (some ⟨g,0,none⟩)) (hb : Blk w g (lnCells s f) 95) (h : K (a.put o.dst (.agg (lnCells s f))) w) : Oper.wp Tryz.prog o a w K Q :=
 wp_ld_part 95 x ho g 0 hx (lnCells s f) _ (lnLoad hb) Tryz.underlying95 rfl (infoLn s f) h
theorem Blk.row {w : World} {g : Nat} {old : Array Value} {t : TypeId} (h : Blk w g old t) (cs : Array Value) : Blk (w.setRow g cs) g cs t := setRow_heap w g old cs t (0,0) h
theorem Blk.rowOther {w : World} {g b : Nat} {C : Array Value} {t : TypeId} (h : Blk w b C t) (cs : Array Value) (hne : b ≠ g) : Blk (w.setRow g cs) b C t := by
 unfold Blk at *;rw [setRow_other w g b cs hne];exact h
theorem keeps_setRow {S : Nat -> Prop} {a w : World} (h : Keeps S a w) {g : Nat} (hg : S g ∨ a.heap.size <= g) (cs : Array Value) : Keeps S a (w.setRow g cs) :=
 ⟨h.os,h.tape,h.output,by rw [setRow_size];exact h.size,fun k hk hn => by
  rw [setRow_other w g k cs (fun e => by subst e;rcases hg with h1 | h1;exact hn h1;omega)]
  exact h.block k hk hn⟩

/-! . -/
theorem kA : Keyed Tryz.prog 39 := int_keyed Tryz.underlying39
def RV (v : Value) : Option (DataW Value × List MemPlace) := some (.held v,[])
def zL : Value := .agg (lnCells (.slice none 0 0) (fun _ => 0))
abbrev OwnL (w : World) (ml n : Nat) (D : DataW Value) : Prop := w.ownsMap Tryz.prog 39 RV ml n D
def hasL (D : DataW Value) (a : Int) (v : Value) : Prop := D.atKey (.int .u64 a) (.held zL) = .held v
theorem addr_wf {a : Int} (h0 : 0 <= a) (h1 : a <= 18446744073709551615) : (Lit.int .u64 a).wf = true := by
 simp [Lit.wf,IntKind.min,IntKind.max,IntKind.signed,IntKind.bits];omega
theorem own_look {w : World} {ml n : Nat} {D : DataW Value} (h : OwnL w ml n D) (a : Int) (h0 : 0 <= a) (h1 : a <= 18446744073709551615) {v : Value} (hv : hasL D a v) :
  (Instr.lookup 90 (.map (some ml)) (.int .u64 a) false).run Tryz.prog w = .ok v w := by
 obtain ⟨v',ps,hrun,hr⟩ := h.lookup kA Tryz.underlying90 (zero_ln w) (zd := .held zL) (zp := []) rfl (keyOf_int_mk Tryz.underlying39 (addr_wf h0 h1))
 unfold hasL at hv
 rw [hv] at hr
 unfold RV at hr
 rw [hrun,DataW.held.inj (Prod.mk.inj (Option.some.inj hr)).1]
end Go.Proofs.YtodgfbjjjgohgaaGreat
namespace Go.Proofs.YtodgfbjjjgohgaaGreat
open Go.RowKit Go.Maps
set_option linter.unusedVariables false

def RowC (w : World) (N0 : Nat) (s : Value) (l : List (Int × Int)) : Prop :=
 w.ownsRow N0 56 2 s l.length (ecells l) ∨
 ∃ g o cs,s = .slice (some ⟨g,o,none⟩) l.length l.length /\ l.length <= maxLen /\ N0 <= g /\ w.heap[g]? = some (.cells cs 56 (0,0)) /\ ∀ j u,(ecells l)[j]? = some u -> cs[o + j]? = some u
theorem ecells_len2 (l : List (Int × Int)) : (ecells l).length = l.length * 2 := by
 induction l with
 | nil => rfl
 | cons e r ih => show (([Value.int .u64 e.1,Value.int .u64 e.2] ++ ecells r)).length = _;rw [List.length_append,ih];simp;omega
theorem ecells_one (l : List (Int × Int)) : ∀ u ∈ ecells l,u.oneCell' = true := by
 intro u hu
 unfold ecells at hu
 rw [List.mem_flatMap] at hu
 obtain ⟨e,_,h⟩ := hu
 simp only [List.mem_cons,List.not_mem_nil,or_false] at h
 rcases h with rfl | rfl <;> rfl
section
variable {w w' : World} {N0 : Nat} {s : Value} {l : List (Int × Int)}
theorem RowC.nil (w : World) (N0 : Nat) : RowC w N0 (.slice none 0 0) [] := .inl (World.ownsRow_nil _ _ _ _)
theorem RowC.base (h : RowC w N0 s l) (i : Nat) (hi : s.ownBlock = some i) : N0 <= i := by
 rcases h with h | ⟨g,o,cs,rfl,_,hg,_⟩
 ·exact own_base h i hi
 ·cases hi;exact hg
theorem RowC.lt (h : RowC w N0 s l) {i : Nat} (hi : s.ownBlock = some i) : i < w.heap.size := by
 rcases h with h | ⟨g,o,cs,rfl,_,_,hh,_⟩
 ·obtain ⟨C,hC⟩ := own_type h hi
  exact (Array.getElem?_eq_some_iff.1 hC).1
 ·cases hi;exact (Array.getElem?_eq_some_iff.1 hh).1
theorem RowC.keeps {S : Nat -> Prop} (h : RowC w N0 s l) (hk : Keeps S w w') (hs : ∀ i,s.ownBlock = some i -> ¬ S i) : RowC w' N0 s l := by
 rcases h with h | ⟨g,o,cs,rfl,hm,hg,hh,hc⟩
 ·exact .inl (own_keeps h hk hs)
 ·exact .inr ⟨g,o,cs,rfl,hm,hg,by rw [hk.block g (Array.getElem?_eq_some_iff.1 hh).1 (hs g rfl)];exact hh,hc⟩
theorem RowC.form (h : RowC w N0 s l) : ∃ a c,s = .slice a l.length c /\ l.length <= c /\ l.length <= maxLen := by
 rcases h with ⟨_,⟨rfl,h0⟩ | ⟨g,cap,cur,rfl,_,_,h1,h2,_⟩⟩ | ⟨g,o,cs,rfl,hm,_⟩
 ·exact ⟨none,0,by rw [h0],by omega,by unfold maxLen;omega⟩
 ·exact ⟨_,_,rfl,h1,by omega⟩
 ·exact ⟨_,_,rfl,Nat.le_refl _,hm⟩
theorem RowC.one (h : RowC w N0 s l) : s.oneCell' = true := by
 obtain ⟨a,c,rfl,_⟩ := h.form;rfl
theorem RowC.cells (h : RowC w N0 s l) (hp : 0 < l.length) : ∃ g o c,s = .slice (some ⟨g,o,none⟩) l.length c /\ l.length <= c /\ N0 <= g /\ g < w.heap.size /\ ∃ cs,w.heap[g]? = some (.cells cs 56 (0,0)) /\ ∀ j u,(ecells l)[j]? = some u -> cs[o + j]? = some u := by
 rcases h with ⟨hl,⟨rfl,h0⟩ | ⟨g,cap,cur,rfl,hb,hh,h1,h2,h3,h4⟩⟩ | ⟨g,o,cs,rfl,hm,hg,hh,hc⟩
 ·omega
 ·refine ⟨g,0,cap,rfl,h1,hb,(Array.getElem?_eq_some_iff.1 hh).1,cur,hh,fun j u hu => ?_⟩
  rw [<- h4,List.getElem?_take] at hu
  split at hu
  ·rw [Nat.zero_add];simpa using hu
  ·cases hu
 ·exact ⟨g,o,_,rfl,Nat.le_refl _,hg,(Array.getElem?_eq_some_iff.1 hh).1,cs,hh,hc⟩
theorem cell_cells {w : World} {g o : Nat} {cs : Array Value} {t : TypeId} {v : Value} (h : w.heap[g]? = some (.cells cs t (0,0))) (hv : cs[o]? = some v) : w.cell? ⟨g,o,none⟩ = some v := by
 have := Blk.cell (C := cs) (t := t) h o
 rw [this];exact hv
end
theorem run_append_rowC (w : World) (N0 : Nat) (s : Value) (l : List (Int × Int)) (h : RowC w N0 s l) (t ty : TypeId) (i : TypeInfo) (z : Value) (ht : Tryz.prog.underlying t = some (.slice 56)) (hi : Tryz.prog.info? 56 = some i) (hz : i.zero = some z)
  (hsize : i.size = 2) (hby : i.bytes = 16) (hzs : z.cells.size = 2) (g : Nat) (x : Int × Int) (hx : Reads w (g + 1) 2 (some ⟨g,0,none⟩) 1 (ecells [x])) (hbase : N0 <= w.heap.size) (hl : l.length <= 1000000) :
  ∃ v' w',(Builtin.append_ #[t,t] ty #[s,.slice (some ⟨g,0,none⟩) 1 1]).run Tryz.prog w = .ok v' w' /\ w'.ownsRow N0 56 2 v' (l.length + 1) (ecells l ++ ecells [x]) /\ w.grownBy w' s.ownBlock /\ (v'.ownBlock = s.ownBlock ∨ v'.ownBlock = some w.heap.size) := by
 rcases h with h | ⟨g0,o,cs,rfl,hm,hg,hh,hc⟩
 ·exact run_append_any w N0 t ty 56 i z 2 16 ht hi hz hsize hby hzs (by decide) s l.length (ecells l) h (g + 1) (some ⟨g,0,none⟩) 1 1 (ecells [x]) hx (ecells_one _) (by unfold maxLen;omega) (by omega) hbase
 ·have hxl : (ecells l).length = l.length * i.size := by rw [ecells_len2,hsize]
  have holds : ∀ j u,(ecells l)[j]? = some u -> w.cell? ((⟨g0,o,none⟩ : Addr).add j) = some u := fun j u hu => by
   rw [show ((⟨g0,o,none⟩ : Addr).add j) = ⟨g0,o + j,none⟩ by unfold Addr.add;split;(rename_i h;subst h;rfl);rfl]
   exact cell_cells hh (hc j u hu)
  obtain ⟨ad,had,_,hcells⟩ := hx.2 (by decide)
  cases had
  have hr := run_append_grow (P := Tryz.prog) w t ty 56 i z ht hi hz ⟨g0,o,none⟩ l.length l.length (ecells l) hxl holds ⟨g,0,none⟩ 1 1 (ecells [x]) (by rw [hsize];rfl) hcells (by omega) (by omega) (growslice_fits (by omega) (by rw [hby];omega))
  have hge := grownCap_ge w (l.length + 1) l.length 56
  have hcm := grownCap_le_maxLen w (l.length + 1) l.length 56 (by unfold maxLen;omega)
  refine ⟨_,_,hr,⟨by rw [List.length_append,ecells_len2];simp [ecells];omega,.inr ⟨w.heap.size,_,_,rfl,hbase,heap_alloc_new w.drew _,hge,hcm,?_,?_⟩⟩,⟨rfl,rfl,rfl,by simp,fun k hk _ => heap_alloc_old w.drew _ hk⟩,.inr rfl⟩
  ·simp only [Array.size_append,List.size_toArray,size_zeroCells,hzs,ecells_len2]
   simp only [List.length_cons,List.length_nil]
   omega
  ·have hlen : (ecells l ++ ecells [x]).length = (l.length + 1) * 2 := by rw [List.length_append,ecells_len2];simp [ecells];omega
   simp only [Array.toList_append,List.append_assoc]
   rw [<- List.append_assoc,<- hlen]
   exact List.take_left
theorem wpList_append_rowC {w : World} {ops : Array Oper} {rest : List Oper} {o : Oper} {a : Act} {Q : Exit -> Act -> World -> Prop} (hgd : o.guard = none) (s x : Operand) (t : TypeId)
  (ho : o.op = .call { callee := .builtin .append,args := #[s,x],argTypes := #[t,t] })
  (N0 : Nat) (v : Value) (l : List (Int × Int)) (h : RowC w N0 v l) (i : TypeInfo) (z : Value) (ht : Tryz.prog.underlying t = some (.slice 56)) (hi : Tryz.prog.info? 56 = some i) (hz : i.zero = some z)
  (hsize : i.size = 2) (hby : i.bytes = 16) (hzs : z.cells.size = 2) (g : Nat) (p : Int × Int) (hs : a.eval s = v) (hx : a.eval x = .slice (some ⟨g,0,none⟩) 1 1) (hr : Reads w (g + 1) 2 (some ⟨g,0,none⟩) 1 (ecells [p])) (hbase : N0 <= w.heap.size) (hl : l.length <= 1000000)
  (hK : ∀ v' w',w'.ownsRow N0 56 2 v' (l.length + 1) (ecells l ++ ecells [p]) -> w.grownBy w' v.ownBlock -> (v'.ownBlock = v.ownBlock ∨ v'.ownBlock = some w.heap.size) -> wpList Tryz.prog ops Q rest (a.put o.dst v') w') : wpList Tryz.prog ops Q (o :: rest) a w :=
 wpList_plain hgd fun _ hK2 => by
  obtain ⟨v',w',hrun,h2,h3,h4⟩ := run_append_rowC w N0 v l h t o.type i z ht hi hz hsize hby hzs g p hr hbase hl
  unfold Oper.wp execOp
  simp only [ho,resolve,invoke,builtin,Sem.run_bind,Sem.run_pure,Result.andThen_ok,List.map_toArray,List.map_cons,List.map_nil,hs,hx,hrun]
  exact hK2 _ _ (hK v' w' h2 h3 h4)
end Go.Proofs.YtodgfbjjjgohgaaGreat
