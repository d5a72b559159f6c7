/-
 THE DOCUMENT's ARENA,as plain data: what each of its functions does. (Plain.)
-/
import Derived.Test.YtodgfbjjjgohgaaGreatNfZ
import Derived.Laws.Tables
import Derived.OwnWalk
import Derived.Deep.DeepCutAuto
import Derived.BigRegion
import Derived.RegionTactic
import Derived.Test.YtodgfbjjjgohgaaGreatFiZ
import Derived.Test.YtodgfbjjjgohgaaGreatNdZ
import Derived.Test.YtodgfbjjjgohgaaGreatLiftZ
import Derived.IntWalk
import Derived.Test.YtodgfbjjjgohgaaGreatPmZ
namespace Go.Proofs.YtodgfbjjjgohgaaGreat
open Go.RowKit

def nd0 : Nd := { lv := 0,lo := 0,nx := 0,ct := 0,fi := 0,k := fun _ => 0,p := fun _ => 0 }
theorem run_alloc_nd (w : World) : (Instr.alloc 46 true (.tuple #[])).run Tryz.prog w = .ok (.pointer (some ⟨w.heap.size,0,none⟩)) (w.alloc (.cells (ndCells nd0) 46)) := by kernel_rfl
theorem wpList_alloc_nd {ops : Array Oper} {rest : List Oper} {o : Oper} {a : Act} {w : World} {Q : Exit -> Act -> World -> Prop} (hgd : o.guard = none) (ho : o.op = .alloc 46)
  (h : wpList Tryz.prog ops Q rest (a.put o.dst (.pointer (some ⟨w.heap.size,0,none⟩))) (w.alloc (.cells (ndCells nd0) 46))) : wpList Tryz.prog ops Q (o :: rest) a w :=
 wpList_plain hgd fun _ hK => by
  unfold Oper.wp execOp
  simp only [ho,Sem.run_bind,run_alloc_nd,Result.andThen_ok,Sem.run_pure]
  exact hK _ _ h

theorem wpList_alloc_ndAt {ops : Array Oper} {rest : List Oper} {o : Oper} {a : Act} {w : World} {Q : Exit -> Act -> World -> Prop} (hgd : o.guard = none) (ho : o.op = .alloc 46) (H : Nat) (hH : w.heap.size = H)
  (h : wpList Tryz.prog ops Q rest (a.put o.dst (.pointer (some ⟨H,0,none⟩))) (w.alloc (.cells (ndCells nd0) 46))) : wpList Tryz.prog ops Q (o :: rest) a w := by
 subst hH;exact wpList_alloc_nd hgd ho h

theorem below_setRow {B : Nat} {v w : World} (h : Below B v w) {g : Nat} (hg : B <= g) (cs : Array Value) : Below B v (w.setRow g cs) :=
 ⟨h.os,h.tape,h.output,by rw [setRow_size];exact h.size,fun k hk => by rw [setRow_other w g k cs (by omega)];exact h.block k hk⟩
theorem ndCells_one (n : Nd) : (ndCells n).all (·.oneCell') = true := by
 rw [Array.all_eq_true_iff_forall_mem]
 intro v hv
 unfold ndCells u8s at hv
 simp only [List.mem_toArray,List.mem_append,List.mem_cons,List.not_mem_nil,or_false,List.mem_map] at hv
 rcases hv with ((rfl | rfl | rfl | rfl | rfl) | ⟨_,_,rfl⟩) | ⟨_,_,rfl⟩ <;> rfl
theorem wpList_store_nd {ops : Array Oper} {rest : List Oper} {o : Oper} {a : Act} {w : World} {Q : Exit -> Act -> World -> Prop} (hgd : o.guard = none) (x y : Operand) (ho : o.op = .store 46 x y)
  (g : Nat) (m n : Nd) (hx : a.eval x = .pointer (some ⟨g,0,none⟩)) (hy : a.eval y = .agg (ndCells m)) (hg : Blk w g (ndCells n) 46)
  (h : wpList Tryz.prog ops Q rest (a.put o.dst undef) (w.setRow g (ndCells m))) : wpList Tryz.prog ops Q (o :: rest) a w :=
 wpList_store_row hgd 46 x y ho g (ndCells m) hx hy 46 (ndCells n) hg (info27 m) (by rw [ndCells_size,ndCells_size]) (ndCells_one m) h

theorem wpList_store_ndc {ops : Array Oper} {rest : List Oper} {o : Oper} {a : Act} {w : World} {Q : Exit -> Act -> World -> Prop} (hgd : o.guard = none) (x y : Operand) (ho : o.op = .store 46 x y)
  (g : Nat) (cs : Array Value) (m n : Nd) (hx : a.eval x = .pointer (some ⟨g,0,none⟩)) (hy : a.eval y = .agg cs) (hg : Blk w g (ndCells n) 46) (hm : cs = ndCells m)
  (h : wpList Tryz.prog ops Q rest (a.put o.dst undef) (w.setRow g (ndCells m))) : wpList Tryz.prog ops Q (o :: rest) a w := by
 subst hm
 exact wpList_store_nd hgd x y ho g m n hx hy hg h

def Nd.withK (n : Nd) (i : Nat) (x : Int) : Nd := { n with k := fun j => if j = i then x else n.k j }
def Nd.withP (n : Nd) (i : Nat) (x : Int) : Nd := { n with p := fun j => if j = i then x else n.p j }
theorem ndCells_set1 (n : Nd) (x : Int) : (ndCells n).setIfInBounds 1 (.int .u64 x) = ndCells { n with lo := x } := by
 simp [ndCells]
theorem ndCells_setk (n : Nd) (i : Nat) (h : i < 8) (x : Int) : (ndCells n).setIfInBounds (5 + i) (.int .u64 x) = ndCells (n.withK i x) := by
 have : i = 0 ∨ i = 1 ∨ i = 2 ∨ i = 3 ∨ i = 4 ∨ i = 5 ∨ i = 6 ∨ i = 7 := by omega
 rcases this with rfl | rfl | rfl | rfl | rfl | rfl | rfl | rfl <;> rfl
theorem ndCells_setp (n : Nd) (i : Nat) (h : i < 8) (x : Int) : (ndCells n).setIfInBounds (13 + i) (.int .u64 x) = ndCells (n.withP i x) := by
 have : i = 0 ∨ i = 1 ∨ i = 2 ∨ i = 3 ∨ i = 4 ∨ i = 5 ∨ i = 6 ∨ i = 7 := by omega
 rcases this with rfl | rfl | rfl | rfl | rfl | rfl | rfl | rfl <;> rfl
theorem Blk.setk {w : World} {g : Nat} {n : Nd} {t : TypeId} (h : Blk w g (ndCells n) t) (i : Nat) (hi : i < 8) (x : Int) : Blk (w.setCell ⟨g,5 + i,none⟩ (.int .u64 x)) g (ndCells (n.withK i x)) t := by
 have := h.set (5 + i) (.int .u64 x);rwa [ndCells_setk n i hi] at this
theorem Blk.setp {w : World} {g : Nat} {n : Nd} {t : TypeId} (h : Blk w g (ndCells n) t) (i : Nat) (hi : i < 8) (x : Int) : Blk (w.setCell ⟨g,13 + i,none⟩ (.int .u64 x)) g (ndCells (n.withP i x)) t := by
 have := h.set (13 + i) (.int .u64 x);rwa [ndCells_setp n i hi] at this

theorem results_nd {fn : Func} {w : World} {s t : Nat} (hr : fn.results = #[.cell s 46,.tmp t]) (tmps : Array Value) (g : Nat) (n : Nd) (hs : tmps.getD s undef = .pointer (some ⟨g,0,none⟩)) (h : Blk w g (ndCells n) 46) :
  (results fn tmps).run Tryz.prog w = .ok (.tuple #[.agg (ndCells n),tmps.getD t undef]) w := by
 have hl := run_loadVar_part (P := Tryz.prog) w g 0 46 (ndCells n) _ (ndLoad h) Tryz.underlying46 rfl (info27 n)
 have hs' : tmps[s]?.getD undef = .pointer (some ⟨g,0,none⟩) := by rw [<- hs];simp
 simp [results,hr,hs',asAddr,Result.andThen,hl]
end Go.Proofs.YtodgfbjjjgohgaaGreat
namespace Go.Proofs.YtodgfbjjjgohgaaGreat
open Go.RowKit

def mkNd (lv lo nx fi : Int) (l : List (Int × Int)) : Nd := { lv := lv,lo := lo,nx := nx,ct := 0,fi := fi,k := eK l,p := eP l }
def MkP (n : Nd) (code : Int) (w : World) (e : Ending) (w' : World) : Prop := e = .returned (.tuple #[.agg (ndCells n),.int .i64 code]) /\ Below w.heap.size w w'
def MkW (w : World) (m : Nd) (w' : World) : Prop := Blk w' w.heap.size (ndCells nd0) 46 /\ Blk w' (w.heap.size + 1) (ndCells m) 46 /\ Below w.heap.size w w'
theorem eK_take (l : List (Int × Int)) (k j : Nat) : eK (l.take k) j = if j < k then eK l j else 0 := by
 unfold eK
 by_cases h : j < k
 ·rw [if_pos h];simp [List.getD,h]
 ·rw [if_neg h];simp [List.getD,List.getElem?_take,h]
theorem eP_take (l : List (Int × Int)) (k j : Nat) : eP (l.take k) j = if j < k then eP l j else 0 := by
 unfold eP
 by_cases h : j < k
 ·rw [if_pos h];simp [List.getD,h]
 ·rw [if_neg h];simp [List.getD,List.getElem?_take,h]
theorem mkNd_next (lv lo nx fi : Int) (l : List (Int × Int)) (k : Nat) : ((mkNd lv lo nx fi (l.take k)).withK k (eK l k)).withP k (eP l k) = mkNd lv lo nx fi (l.take (k + 1)) := by
 unfold mkNd Nd.withK Nd.withP
 congr 1
 ·funext j
  simp only [eK_take]
  by_cases h : j = k
  ·subst h;simp
  ·rw [if_neg h];by_cases h2 : j < k <;> simp [h2,show (j < k + 1) = (j < k) from propext (by omega)]
 ·funext j
  simp only [eP_take]
  by_cases h : j = k
  ·subst h;simp
  ·rw [if_neg h];by_cases h2 : j < k <;> simp [h2,show (j < k + 1) = (j < k) from propext (by omega)]
end Go.Proofs.YtodgfbjjjgohgaaGreat
namespace Go.Proofs.YtodgfbjjjgohgaaGreat
open Go.RowKit

section
variable {P : Program}
end
theorem wp_load_nd {o : Oper} {a : Act} {w : World} {K : Act -> World -> Prop} {Q : Exit -> Act -> World -> Prop} (x : Operand) (ho : o.op = .load 46 x)
  (g : Nat) (n : Nd) (hx : a.eval x = .pointer (some ⟨g,0,none⟩)) (hb : Blk w g (ndCells n) 46) (h : K (a.put o.dst (.agg (ndCells n))) w) : Oper.wp Tryz.prog o a w K Q :=
 wp_ld_part 46 x ho g 0 hx (ndCells n) _ (ndLoad hb) Tryz.underlying46 rfl (info27 n) h
theorem wp_store_nd {o : Oper} {a : Act} {w : World} {K : Act -> World -> Prop} {Q : Exit -> Act -> World -> Prop} (x y : Operand) (ho : o.op = .store 46 x y)
  (g : Nat) (m n : Nd) (hx : a.eval x = .pointer (some ⟨g,0,none⟩)) (hy : a.eval y = .agg (ndCells m)) (hg : Blk w g (ndCells n) 46)
  (h : K (a.put o.dst undef) (w.setRow g (ndCells m))) : Oper.wp Tryz.prog o a w K Q :=
 wp_store_row 46 x y ho g (ndCells m) hx hy 46 (ndCells n) hg (info27 m) (by rw [ndCells_size,ndCells_size]) (ndCells_one m) h
end Go.Proofs.YtodgfbjjjgohgaaGreat
namespace Go.Proofs.YtodgfbjjjgohgaaGreat
open Go.RowKit

theorem lit21 (n : Nd) : ndCells n = #[.int .i64 n.lv,.int .u64 n.lo,.int .u64 n.nx,.int .u64 n.ct,.int .u64 n.fi,.int .u64 (n.k 0),.int .u64 (n.k 1),.int .u64 (n.k 2),.int .u64 (n.k 3),.int .u64 (n.k 4),.int .u64 (n.k 5),.int .u64 (n.k 6),.int .u64 (n.k 7),.int .u64 (n.p 0),.int .u64 (n.p 1),.int .u64 (n.p 2),.int .u64 (n.p 3),.int .u64 (n.p 4),.int .u64 (n.p 5),.int .u64 (n.p 6),.int .u64 (n.p 7)] := rfl
theorem eq8_at (T e : TypeId) (hT : Tryz.prog.underlying T = some (.array 8 e)) (he : Tryz.prog.underlying e = some (.int .u64)) (ha : ∀ w,(isAgg e).run Tryz.prog w = .ok false w) (hz : ∀ w,(sizeOf e).run Tryz.prog w = .ok 1 w) (d : Nat) (a0 a1 a2 a3 a4 a5 a6 a7 : Int) (w : World) :
  (Op.equalIn (d + 2) T (.agg #[.int .u64 a0,.int .u64 a1,.int .u64 a2,.int .u64 a3,.int .u64 a4,.int .u64 a5,.int .u64 a6,.int .u64 a7]) (.agg #[.int .u64 a0,.int .u64 a1,.int .u64 a2,.int .u64 a3,.int .u64 a4,.int .u64 a5,.int .u64 a6,.int .u64 a7])).run Tryz.prog w = .ok true w := by
 rw [show d + 2 = (d + 1) + 1 from rfl,Op.equalIn]
 simp only [Sem.run_bind,run_underlying hT,Result.andThen_ok]
 simp only [Std.Legacy.Range.forIn_eq_forIn_range',Std.Legacy.Range.size,Nat.sub_zero,Nat.add_sub_cancel,Nat.div_one,List.range'_succ,List.range'_zero,List.forIn_cons,List.forIn_nil]
 go_simp
set_option maxRecDepth 100000 in
set_option maxHeartbeats 1600000 in
theorem eq_nd (n : Nd) (w : World) : (Op.equalIn 10000 46 (.agg (ndCells n)) (.agg (ndCells n))).run Tryz.prog w = .ok true w := by
 rw [lit21]
 have u3 := Tryz.underlying3
 have a3' := Tryz.isAgg3
 have z3 := Tryz.sizeOf3
 have u4 := Tryz.underlying25
 have a4' := Tryz.isAgg25
 have z4 := Tryz.sizeOf25
 have u5 := Tryz.underlying39
 have a5' := Tryz.isAgg39
 have z5 := Tryz.sizeOf39
 have k1 := fun w => eq8_at 43 25 Tryz.underlying43 u4 a4' z4 9997 (n.k 0) (n.k 1) (n.k 2) (n.k 3) (n.k 4) (n.k 5) (n.k 6) (n.k 7) w
 have k2 := fun w => eq8_at 44 39 Tryz.underlying44 u5 a5' z5 9997 (n.p 0) (n.p 1) (n.p 2) (n.p 3) (n.p 4) (n.p 5) (n.p 6) (n.p 7) w
 rw [show (10000 : Nat) = 9999 + 1 from rfl,Op.equalIn]
 simp only [Sem.run_bind,run_underlying Tryz.underlying46,Result.andThen_ok]
 go_simp
end Go.Proofs.YtodgfbjjjgohgaaGreat
namespace Go.Proofs.YtodgfbjjjgohgaaGreat
open Go.RowKit

def wdList (f : Nat -> Int) : List Value := (List.range 24).map (fun i => Value.int .u64 (f i))
def wdCells (f : Nat -> Int) : Array Value := (wdList f).toArray
theorem wdList_get (f : Nat -> Int) (i : Nat) : (wdList f)[i]? = if i < 24 then some (.int .u64 (f i)) else none := by
 unfold wdList
 by_cases h : i < 24 <;> simp [h]
theorem wdList_len (f : Nat -> Int) : (wdList f).length = 24 := by simp [wdList]
theorem wdCells_size (f : Nat -> Int) : (wdCells f).size = 24 := by simp [wdCells,wdList_len]
theorem wdCells_get (f : Nat -> Int) (i : Nat) (h : i < 24) : (wdCells f)[i]? = some (.int .u64 (f i)) := by
 unfold wdCells;simp [wdList_get,h]
def wset (f : Nat -> Int) (i : Nat) (x : Int) : Nat -> Int := fun j => if j = i then x else f j
theorem wdCells_set (f : Nat -> Int) (i : Nat) (x : Int) : (wdCells f).setIfInBounds i (.int .u64 x) = wdCells (wset f i x) := by
 apply Array.ext_getElem?
 intro j
 rcases Nat.lt_or_ge j 24 with hj | hj
 ·rw [wdCells_get _ _ hj]
  by_cases e : i = j
  ·subst e
   rw [Array.getElem?_setIfInBounds_self_of_lt (by rw [wdCells_size];exact hj)]
   simp [wset]
  ·rw [Array.getElem?_setIfInBounds_ne e,wdCells_get _ _ hj]
   unfold wset;rw [if_neg (fun h => e h.symm)]
 ·rw [Array.getElem?_eq_none (by rw [Array.size_setIfInBounds,wdCells_size];exact hj),Array.getElem?_eq_none (by rw [wdCells_size];exact hj)]
theorem wdCells_one (f : Nat -> Int) : (wdCells f).all (·.oneCell') = true := by
 rw [Array.all_eq_true_iff_forall_mem]
 intro v hv
 unfold wdCells wdList at hv
 simp only [List.mem_toArray,List.mem_map] at hv
 obtain ⟨_,_,rfl⟩ := hv
 rfl
theorem infoWd (f : Nat -> Int) : (Tryz.prog.info? 154).map (·.size) = some (wdCells f).size := by rw [wdCells_size];kernel_rfl
theorem run_alloc_wd (w : World) : (Instr.alloc 154 true (.tuple #[])).run Tryz.prog w = .ok (.pointer (some ⟨w.heap.size,0,none⟩)) (w.alloc (.cells (wdCells (fun _ => 0)) 154)) := by kernel_rfl
theorem wpList_alloc_wdAt {ops : Array Oper} {rest : List Oper} {o : Oper} {a : Act} {w : World} {Q : Exit -> Act -> World -> Prop} (hgd : o.guard = none) (ho : o.op = .alloc 154) (H : Nat) (hH : w.heap.size = H)
  (h : wpList Tryz.prog ops Q rest (a.put o.dst (.pointer (some ⟨H,0,none⟩))) (w.alloc (.cells (wdCells (fun _ => 0)) 154))) : wpList Tryz.prog ops Q (o :: rest) a w := by
 subst hH
 exact wpList_plain hgd fun _ hK => by
  unfold Oper.wp execOp
  simp only [ho,Sem.run_bind,run_alloc_wd,Result.andThen_ok,Sem.run_pure]
  exact hK _ _ h
theorem wpList_store_wd {ops : Array Oper} {rest : List Oper} {o : Oper} {a : Act} {w : World} {Q : Exit -> Act -> World -> Prop} (hgd : o.guard = none) (x y : Operand) (ho : o.op = .store 154 x y)
  (g : Nat) (f f' : Nat -> Int) (hx : a.eval x = .pointer (some ⟨g,0,none⟩)) (hy : a.eval y = .agg (wdCells f)) (hg : Blk w g (wdCells f') 154)
  (h : wpList Tryz.prog ops Q rest (a.put o.dst undef) (w.setRow g (wdCells f))) : wpList Tryz.prog ops Q (o :: rest) a w :=
 wpList_store_row hgd 154 x y ho g (wdCells f) hx hy 154 (wdCells f') hg (infoWd f) (by rw [wdCells_size,wdCells_size]) (wdCells_one f) h
theorem wdLoad {w : World} {b : Nat} {f : Nat -> Int} {t : TypeId} (hb : Blk w b (wdCells f) t) : ∀ j v,(wdCells f)[j]? = some v -> w.cell? ⟨b,0 + j,none⟩ = some v := by
 intro j v hv;rw [Nat.zero_add,hb.cell];exact hv
theorem Blk.setw {w : World} {g : Nat} {f : Nat -> Int} {t : TypeId} (h : Blk w g (wdCells f) t) (i : Nat) (x : Int) : Blk (w.setCell ⟨g,i,none⟩ (.int .u64 x)) g (wdCells (wset f i x)) t := by
 have := h.set i (.int .u64 x);rwa [wdCells_set] at this
theorem results_wd {fn : Func} {w : World} {s : Nat} (hr : fn.results = #[.cell s 154]) (tmps : Array Value) (g : Nat) (f : Nat -> Int) (hs : tmps.getD s undef = .pointer (some ⟨g,0,none⟩)) (h : Blk w g (wdCells f) 154) :
  (results fn tmps).run Tryz.prog w = .ok (.agg (wdCells f)) w := by
 have hl := run_loadVar_part (P := Tryz.prog) w g 0 154 (wdCells f) _ (wdLoad h) Tryz.underlying154 rfl (infoWd f)
 have hs' : tmps[s]?.getD undef = .pointer (some ⟨g,0,none⟩) := by rw [<- hs];simp
 simp [results,hr,hs',asAddr,hl]
end Go.Proofs.YtodgfbjjjgohgaaGreat
namespace Go.Proofs.YtodgfbjjjgohgaaGreat
open Go.RowKit Go.ChangeShapes Go.WideShapes Go.Deep

theorem take1 {l : List Value} {off : Nat} {v : Value} (h : (l.drop off).take 1 = [v]) : l[off]? = some v := by
 have : ((l.drop off).take 1)[0]? = some v := by rw [h];rfl
 simpa [List.getElem?_take,List.getElem?_drop] using this
section
variable {H : Type} {enc : TypeId × Value -> H} {P : Program} {w : World} {base : Nat} {spare : Nat -> Bool} {held : Bool}
theorem trod_int_at {t : TypeId} {k : IntKind} {m off : Nat} {l : List Value} {y : Option (DataW H × List MemPlace)} (ht : P.underlying t = some (.int k)) (hc : P.cellsOf t = 1) (hy : y ≠ none) (h : DataW.trod enc P w base spare held m t ((l.drop off).take (P.cellsOf t)) = y) :
  ∃ a,l[off]? = some (.int k a) /\ (Lit.int k a).wf = true := by
 cases y with
 | none => exact absurd rfl hy
 | some y =>
  rw [hc] at h
  obtain ⟨a,e,_,hw⟩ := DataW.trod_int ht h
  exact ⟨a,take1 e,hw⟩
end

end Go.Proofs.YtodgfbjjjgohgaaGreat
namespace Go.Proofs.YtodgfbjjjgohgaaGreat
open Go.RowKit

def tagM : Int := 5495893775785918464
def fullW (n : Nd) (i : Nat) : Int :=
 if i = 0 then tagM + n.lv else if i = 1 then n.lo else if i = 2 then n.nx else if i = 3 then n.ct else if i = 4 then n.fi else if i < 8 then 0
 else if i % 2 = 0 then n.k ((i - 8) / 2) else n.p ((i - 9) / 2)
def wTo (n : Nd) (k : Nat) (i : Nat) : Int := if i < 8 + 2 * k then fullW n i else 0
def wordsF (n : Nd) : Nat -> Int := if n.lv < 0 ∨ 15 < n.lv then fun _ => 0 else wTo n 8
end Go.Proofs.YtodgfbjjjgohgaaGreat
namespace Go.Proofs.YtodgfbjjjgohgaaGreat
open Go.RowKit
set_option linter.unusedVariables false

structure AD where
 L : List UInt8
 slabs : Nat
 used : Nat
 value : Nat
 values : Nat
 node : Nat
 nodes : Nat
 lv : List (List (Nat × Nd))
def slabA (d : AD) (c : Int) : Nat × AD := if d.used = d.slabs then (0,d) else (d.used + 1,{ d with used := d.used + 1,L := putAt d.L (1024 * (d.used + 1)) c })
def takenA (d : AD) (s j : Nat) : AD := { d with L := putAt d.L (1024 * s + 8) (IntKind.u64.wrap (chunk d.L (128 * s + 1) + 2 ^ j)) }
def newValue1 (d : AD) : AD := if d.value = 0 ∨ d.values = 15 then { (slabA d 1).2 with value := (slabA d 1).1,values := 0 } else d
def newValueA (d : AD) : Nat × AD :=
 if (newValue1 d).value = 0 then (0,newValue1 d) else
  (1024 * (newValue1 d).value + 64 * ((newValue1 d).values + 1),{ takenA (newValue1 d) (newValue1 d).value (newValue1 d).values with values := (newValue1 d).values + 1 })
def newNode1 (d : AD) : AD := if d.node = 0 ∨ d.nodes = 5 then { (slabA d 3).2 with node := (slabA d 3).1,nodes := 0 } else d
def newNodeA (d : AD) : Nat × AD :=
 if (newNode1 d).node = 0 then (0,newNode1 d) else
  (1024 * (newNode1 d).node + 64 + 192 * (newNode1 d).nodes,{ takenA (newNode1 d) (newNode1 d).node (newNode1 d).nodes with nodes := (newNode1 d).nodes + 1 })
def layTo (L : List UInt8) (a : Nat) (n : Nd) : Nat -> List UInt8
 | 0 => L
 | k + 1 => putAt (layTo L a n k) (a + 8 * k) (wordsF n k)
def layA (d : AD) (a : Nat) (n : Nd) : AD := { d with L := layTo d.L a n 24 }
theorem layTo_len {L : List UInt8} {a : Nat} (n : Nd) : ∀ k,a + 8 * k <= L.length -> (layTo L a n k).length = L.length
 | 0,_ => rfl
 | k + 1,h => by
  rw [layTo,putAt_len _ (by rw [layTo_len n k (by omega)];omega),layTo_len n k (by omega)]
theorem layTo_chunk {L : List UInt8} {j : Nat} {n : Nd} (hw : ∀ i,0 <= wordsF n i /\ wordsF n i <= 18446744073709551615) : ∀ k,8 * j + 8 * k <= L.length -> ∀ i,chunk (layTo L (8 * j) n k) i = if j <= i /\ i < j + k then wordsF n (i - j) else chunk L i
 | 0,_,i => by rw [layTo,if_neg (by omega)]
 | k + 1,h,i => by
  rw [layTo,show 8 * j + 8 * k = 8 * (j + k) by omega,chunk_put (by rw [layTo_len n k (by omega)];omega) (hw k).1 (hw k).2,layTo_chunk hw k (by omega)]
  by_cases e : i = j + k
  ·subst e
   rw [if_pos rfl,if_pos (by omega),Nat.add_sub_cancel_left]
  ·rw [if_neg e]
   by_cases h2 : j <= i /\ i < j + k
   ·rw [if_pos h2,if_pos (by omega)]
   ·rw [if_neg h2,if_neg (by omega)]
end Go.Proofs.YtodgfbjjjgohgaaGreat
