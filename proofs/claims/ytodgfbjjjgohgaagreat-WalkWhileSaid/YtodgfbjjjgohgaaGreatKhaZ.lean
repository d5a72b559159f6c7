/-
 THE DOCUMENT's ARENA,level by level,as plain data. (Plain,but for a row in memory.)
-/
import Derived.Test.YtodgfbjjjgohgaaGreatKeZ
import Derived.Test.YtodgfbjjjgohgaaGreatKbZ
import Derived.Maps.AppendAt
import Derived.Test.YtodgfbjjjgohgaaGreatFiZ
namespace Go.Proofs.YtodgfbjjjgohgaaGreat
open Go.RowKit
set_option linter.unusedVariables false

/-! . -/
theorem takenA_ok {d : AD} (h : ArOk d) {s : Nat} (hs : s <= d.slabs) (j : Nat) : ArOk (takenA d s j) := by
 refine ⟨?_,h.sl,h.us,h.va,h.no,h.vs,h.ns⟩
 show (putAt d.L _ _).length = _
 rw [putAt_len _ (by have := h.len;omega)]
 exact h.len
theorem newNode1_ok {d : AD} (h : ArOk d) : ArOk (newNode1 d) /\ (newNode1 d).nodes <= 4 /\ (newNode1 d).slabs = d.slabs /\ (newNode1 d).lv = d.lv := by
 unfold newNode1
 have hs := slabA_ok h 3
 by_cases e : d.node = 0 ∨ d.nodes = 5
 ·rw [if_pos e]
  refine ⟨⟨hs.1.len,hs.1.sl,hs.1.us,hs.1.va,hs.2.1,hs.1.vs,Nat.zero_le _⟩,Nat.zero_le _,?_,?_⟩
  all_goals (show _ = _;unfold slabA;split <;> rfl)
 ·rw [if_neg e]
  exact ⟨h,by have := h.ns;omega,rfl,rfl⟩
theorem newNodeA_ok {d : AD} (h : ArOk d) : ArOk (newNodeA d).2 /\ (newNodeA d).2.slabs = d.slabs /\ (newNodeA d).2.lv = d.lv /\ ((newNodeA d).1 ≠ 0 -> (newNodeA d).1 + 192 <= (newNodeA d).2.L.length) := by
 obtain ⟨h1,h2,h3,h4⟩ := newNode1_ok h
 unfold newNodeA
 by_cases e : (newNode1 d).node = 0
 ·rw [if_pos e]
  exact ⟨h1,h3,h4,fun e => absurd rfl e⟩
 ·rw [if_neg e]
  have hn : (newNode1 d).node <= (newNode1 d).slabs := Nat.le_trans h1.no h1.us
  have ht := takenA_ok h1 hn (newNode1 d).nodes
  refine ⟨⟨ht.len,ht.sl,ht.us,ht.va,ht.no,ht.vs,(by show (newNode1 d).nodes + 1 <= 5;omega)⟩,h3,h4,fun _ => ?_⟩
  have hl := ht.len
  have h9 : (takenA (newNode1 d) (newNode1 d).node (newNode1 d).nodes).slabs = (newNode1 d).slabs := rfl
  rw [h9] at hl
  dsimp only
  rw [hl]
  omega
theorem layA_ok {d : AD} (h : ArOk d) {a : Nat} (ha : a + 192 <= d.L.length) (n : Nd) : ArOk (layA d a n) := by
 unfold layA
 constructor
 ·dsimp only
  rw [layTo_len n 24 ha]
  exact h.len
 all_goals dsimp only
 ·exact h.sl
 ·exact h.us
 ·exact h.va
 ·exact h.no
 ·exact h.vs
 ·exact h.ns
theorem layA_len {d : AD} {a : Nat} (ha : a + 192 <= d.L.length) (n : Nd) : (layA d a n).L.length = d.L.length := by
 unfold layA
 dsimp only
 exact layTo_len n 24 ha
theorem layA_sl (d : AD) (a : Nat) (n : Nd) : (layA d a n).lv = d.lv /\ (layA d a n).slabs = d.slabs := by
 unfold layA
 exact ⟨rfl,rfl⟩

/-! . -/
def ndG (lv : Nat) (fst : Bool) (a : Nat) (o : List (Int × Int)) : Nd :=
 mkNd lv (if fst = true then 0 else eK o 0) 0 (if lv = 0 then (a : Int) else eP o 0) (if lv = 0 then o else o.drop 1)
def ownG (l : List (Int × Int)) (per fr : Nat) : List (Int × Int) := (l.drop fr).take per
def rowsG (lv per : Nat) (l : List (Int × Int)) : Nat -> Nat -> AD -> Option (AD × List (Nat × Nd))
 | 0,_,_ => none
 | f + 1,fr,d =>
  if (newNodeA d).1 = 0 then none
  else if l.length <= fr + per then some ((newNodeA d).2,[((newNodeA d).1,ndG lv (fr == 0) (newNodeA d).1 (ownG l per fr))])
  else (rowsG lv per l f (fr + per) (newNodeA d).2).map (fun r => (r.1,((newNodeA d).1,ndG lv (fr == 0) (newNodeA d).1 (ownG l per fr)) :: r.2))
def lnk1 (R : List (Nat × Nd)) (i : Nat) (x : Nat × Nd) : Nat × Nd := (x.1,{ x.2 with nx := match R[i + 1]? with | some y => (y.1 : Int) | none => x.2.nx })
def linkR (R : List (Nat × Nd)) : List (Nat × Nd) := R.mapIdx (lnk1 R)
def layR (d : AD) (R : List (Nat × Nd)) : AD := R.foldl (fun d x => layA d x.1 x.2) d
def levelA (d : AD) (lv per : Nat) (l : List (Int × Int)) : Option AD :=
 (rowsG lv per l (l.length + 1) 0 d).map (fun r => { layR r.1 (linkR r.2) with lv := r.1.lv ++ [linkR r.2] })
theorem linkR_len (R : List (Nat × Nd)) : (linkR R).length = R.length := by simp [linkR]
theorem linkR_get (R : List (Nat × Nd)) (i : Nat) : (linkR R)[i]? = (R[i]?).map (lnk1 R i) := by simp [linkR]
theorem link_at {R : List (Nat × Nd)} {i j : Nat} (hi : i < R.length) (hj : i <= j) : ((linkR R).take i ++ R.drop i)[j]? = R[j]? := by
 rw [List.getElem?_append_right (by rw [List.length_take,linkR_len];omega),List.length_take,linkR_len,Nat.min_eq_left (by omega),List.getElem?_drop]
 congr 1;omega
theorem link_set {R : List (Nat × Nd)} {i : Nat} {x y : Nat × Nd} (hx : R[i]? = some x) (hy : lnk1 R i x = y) : ((linkR R).take i ++ R.drop i).set i y = (linkR R).take (i + 1) ++ R.drop (i + 1) := by
 obtain ⟨hi,rfl⟩ := List.getElem?_eq_some_iff.1 hx
 have hl : ((linkR R).take i).length = i := by rw [List.length_take,linkR_len];omega
 have h1 : (linkR R).take (i + 1) = (linkR R).take i ++ [y] := by
  rw [List.take_add_one,linkR_get,hx,Option.map_some,hy];rfl
 rw [List.set_append_right _ _ (by omega),hl,Nat.sub_self,List.drop_eq_getElem_cons hi,List.set_cons_zero,h1,List.append_assoc]
 rfl
theorem link_same {R : List (Nat × Nd)} {i : Nat} {x : Nat × Nd} (hx : R[i]? = some x) (hy : lnk1 R i x = x) : (linkR R).take i ++ R.drop i = (linkR R).take (i + 1) ++ R.drop (i + 1) := by
 rw [<- link_set hx hy]
 obtain ⟨hi,he⟩ := List.getElem?_eq_some_iff.1 hx
 symm
 apply List.ext_getElem?
 intro j
 by_cases e : i = j
 ·subst e
  rw [List.getElem?_set_self (by rw [List.length_append,List.length_take,linkR_len,List.length_drop];omega),link_at hi (Nat.le_refl _),hx]
 ·rw [List.getElem?_set_ne e]
theorem layR_snoc (d : AD) (R : List (Nat × Nd)) (x : Nat × Nd) : layR d (R ++ [x]) = layA (layR d R) x.1 x.2 := by simp [layR]
theorem layR_cons (d : AD) (x : Nat × Nd) (R : List (Nat × Nd)) : layR d (x :: R) = layR (layA d x.1 x.2) R := by simp [layR]
theorem layR_lv (R : List (Nat × Nd)) : ∀ d : AD,(layR d R).lv = d.lv /\ (layR d R).slabs = d.slabs := by
 induction R with
 | nil => exact fun d => ⟨rfl,rfl⟩
 | cons x R ih => intro d;rw [layR_cons,(ih _).1,(ih _).2];exact layA_sl d x.1 x.2
theorem layR_ok : ∀ (R : List (Nat × Nd)) {d : AD},ArOk d -> (∀ x ∈ R,x.1 + 192 <= d.L.length) -> ArOk (layR d R) /\ (layR d R).L.length = d.L.length
 | [],d,h,_ => ⟨h,rfl⟩
 | x :: R,d,h,ha => by
  have h1 := ha x (List.mem_cons_self)
  have := layR_ok R (layA_ok h h1 x.2) (fun y hy => by rw [layA_len h1];exact ha y (List.mem_cons_of_mem _ hy))
  rw [layR_cons]
  exact ⟨this.1,this.2.trans (layA_len h1 _)⟩
theorem rowsG_ok {lv per : Nat} {l : List (Int × Int)} : ∀ (f fr : Nat) {d d' : AD} {R : List (Nat × Nd)},ArOk d -> rowsG lv per l f fr d = some (d',R) -> ArOk d' /\ d'.slabs = d.slabs /\ d'.lv = d.lv /\ (∀ x ∈ R,x.1 ≠ 0 /\ x.1 + 192 <= d.L.length) /\ 0 < R.length
 | 0,fr,d,d',R,_,h => by cases h
 | f + 1,fr,d,d',R,ho,h => by
  obtain ⟨k1,k2,k3,k4⟩ := newNodeA_ok ho
  have hl : (newNodeA d).2.L.length = d.L.length := by rw [k1.len,k2,ho.len]
  unfold rowsG at h
  by_cases e : (newNodeA d).1 = 0
  ·rw [if_pos e] at h;cases h
  ·rw [if_neg e] at h
   have h0 := k4 e
   rw [hl] at h0
   by_cases e2 : l.length <= fr + per
   ·rw [if_pos e2] at h
    obtain ⟨rfl,rfl⟩ : (newNodeA d).2 = d' /\ _ = R := by simpa using h
    refine ⟨k1,k2,k3,fun x hx => ?_,by simp⟩
    obtain rfl := List.mem_singleton.1 hx
    exact ⟨e,h0⟩
   ·rw [if_neg e2] at h
    obtain ⟨⟨d2,R2⟩,hr,h2⟩ := Option.map_eq_some_iff.1 h
    obtain ⟨rfl,rfl⟩ : d2 = d' /\ _ :: R2 = R := by simpa using h2
    obtain ⟨q1,q2,q3,q4,q5⟩ := rowsG_ok f (fr + per) k1 hr
    refine ⟨q1,q2.trans k2,q3.trans k3,fun x hx => ?_,by simp⟩
    rcases List.mem_cons.1 hx with rfl | hx
    ·exact ⟨e,h0⟩
    ·have := q4 x hx
     rwa [hl] at this

/-! . -/
def U64E (l : List (Int × Int)) : Prop := ∀ i,(0 <= eK l i /\ eK l i <= 18446744073709551615) /\ (0 <= eP l i /\ eP l i <= 18446744073709551615)
theorem U64E.of {l : List (Int × Int)} (h : ∀ i,i < l.length -> (0 <= eK l i /\ eK l i <= 18446744073709551615) /\ (0 <= eP l i /\ eP l i <= 18446744073709551615)) : U64E l := fun i => by
 by_cases hi : i < l.length
 ·exact h i hi
 ·have e : l.getD i (0,0) = (0,0) := by rw [List.getD_eq_getElem?_getD,List.getElem?_eq_none (by omega)];rfl
  unfold eK eP
  rw [e]
  exact ⟨⟨by decide,by decide⟩,⟨by decide,by decide⟩⟩
theorem U64E.drop {l : List (Int × Int)} (h : U64E l) (k : Nat) : U64E (l.drop k) := fun i => by
 have h1 := h (k + i)
 unfold eK eP at *
 simp only [List.getD_eq_getElem?_getD,List.getElem?_drop] at *
 exact h1
theorem U64E.take {l : List (Int × Int)} (h : U64E l) (k : Nat) : U64E (l.take k) := fun i => by
 rw [eK_take,eP_take]
 split
 ·exact h i
 ·exact ⟨⟨by decide,by decide⟩,⟨by decide,by decide⟩⟩
theorem u64_wfK {x : Int} (h0 : 0 <= x) (h1 : x <= 18446744073709551615) : (Lit.int .u64 x).wf = true := by
 simp [Lit.wf,IntKind.min,IntKind.max,IntKind.signed,IntKind.bits];omega
theorem i64_wfK {x : Int} (h0 : 0 <= x) (h1 : x <= 1000) : (Lit.int .i64 x).wf = true := by
 simp [Lit.wf,IntKind.min,IntKind.max,IntKind.signed,IntKind.bits];omega
theorem ndG_wf {lv : Nat} (hlv : lv <= 15) {a : Nat} (ha : a <= 1000000) {o : List (Int × Int)} (ho : U64E o) (fst : Bool) : (ndG lv fst a o).Wf := by
 have h2 : U64E (if lv = 0 then o else o.drop 1) := by split;exact ho;exact ho.drop 1
 refine ⟨i64_wfK (x := (lv : Int)) (by omega) (by omega),?_,u64_wfK (x := 0) (by decide) (by decide),u64_wfK (x := 0) (by decide) (by decide),?_,fun i _ => u64_wfK (h2 i).1.1 (h2 i).1.2,fun i _ => u64_wfK (h2 i).2.1 (h2 i).2.2⟩
 ·show (Lit.int .u64 (if fst = true then 0 else eK o 0)).wf = true
  split
  ·exact u64_wfK (by decide) (by decide)
  ·exact u64_wfK (ho 0).1.1 (ho 0).1.2
 ·show (Lit.int .u64 (if lv = 0 then (a : Int) else eP o 0)).wf = true
  split
  ·exact u64_wfK (by omega) (by omega)
  ·exact u64_wfK (ho 0).2.1 (ho 0).2.2
theorem rowsG_wf {lv per : Nat} {l : List (Int × Int)} (hlv : lv <= 15) (hu : U64E l) : ∀ (f fr : Nat) {d d' : AD} {R : List (Nat × Nd)},ArOk d -> rowsG lv per l f fr d = some (d',R) -> ∀ x ∈ R,x.2.Wf /\ x.2.nx = 0
 | 0,fr,d,d',R,_,h => by cases h
 | f + 1,fr,d,d',R,ho,h => by
  obtain ⟨k1,k2,k3,k4⟩ := newNodeA_ok ho
  unfold rowsG at h
  by_cases e : (newNodeA d).1 = 0
  ·rw [if_pos e] at h;cases h
  ·rw [if_neg e] at h
   have h0 := k4 e
   have h1 := k1.len
   have h2 := k1.sl
   have hw := ndG_wf hlv (a := (newNodeA d).1) (by omega) ((hu.drop fr).take per) (fr == 0)
   by_cases e2 : l.length <= fr + per
   ·rw [if_pos e2] at h
    obtain ⟨rfl,rfl⟩ : (newNodeA d).2 = d' /\ _ = R := by simpa using h
    intro x hx
    obtain rfl := List.mem_singleton.1 hx
    exact ⟨hw,rfl⟩
   ·rw [if_neg e2] at h
    obtain ⟨⟨d2,R2⟩,hr,h2⟩ := Option.map_eq_some_iff.1 h
    obtain ⟨rfl,rfl⟩ : d2 = d' /\ _ :: R2 = R := by simpa using h2
    intro x hx
    rcases List.mem_cons.1 hx with rfl | hx
    ·exact ⟨hw,rfl⟩
    ·exact rowsG_wf hlv hu f (fr + per) k1 hr x hx
theorem lnk1_wf {R : List (Nat × Nd)} {L : Nat} (hL : L <= 1000000) (h : ∀ x ∈ R,x.2.Wf) (ha : ∀ x ∈ R,x.1 + 192 <= L) {i : Nat} {x : Nat × Nd} (hx : R[i]? = some x) : (lnk1 R i x).2.Wf := by
 have hw := h x (List.mem_of_getElem? hx)
 refine ⟨hw.lv,hw.lo,?_,hw.ct,hw.fi,hw.k,hw.p⟩
 show (Lit.int .u64 (match R[i + 1]? with | some y => (y.1 : Int) | none => x.2.nx)).wf = true
 split
 ·rename_i y hy
  have := ha y (List.mem_of_getElem? hy)
  exact u64_wfK (by omega) (by omega)
 ·exact hw.nx
/-! . -/
def atC (a : Int) (n : Nd) : Array Value := (Value.int .u64 a :: (ndCells n).toList).toArray
theorem atC_size (a : Int) (n : Nd) : (atC a n).size = 22 := by simp [atC,ndCells_size]
theorem atC_len (a : Int) (n : Nd) : (atC a n).toList.length = 22 := by rw [Array.length_toList];exact atC_size a n
theorem atC_succ (a : Int) (n : Nd) (i : Nat) : (atC a n)[1 + i]? = (ndCells n)[i]? := by
 rw [Nat.add_comm];simp [atC]
theorem atC_set (a : Int) (n : Nd) (i : Nat) (u : Value) : (atC a n).setIfInBounds (1 + i) u = (Value.int .u64 a :: ((ndCells n).setIfInBounds i u).toList).toArray := by
 rw [Nat.add_comm]
 apply Array.ext'
 simp [atC]
theorem infoAt (a : Int) (n : Nd) : (Tryz.prog.info? 48).map (·.size) = some (atC a n).size := by
 rw [atC_size]
 show (Tryz.prog.info? 48).map (·.size) = some 22
 kernel_rfl
theorem atC_one (a : Int) (n : Nd) : (atC a n).all (·.oneCell') = true := by
 rw [Array.all_eq_true_iff_forall_mem]
 intro v hv
 unfold atC at hv
 simp only [List.mem_toArray,List.mem_cons] at hv
 rcases hv with rfl | hv
 ·rfl
 ·exact (Array.all_eq_true_iff_forall_mem.1 (ndCells_one n)) v (by simpa using hv)
theorem run_alloc_at (w : World) : (Instr.alloc 48 true (.tuple #[])).run Tryz.prog w = .ok (.pointer (some ⟨w.heap.size,0,none⟩)) (w.alloc (.cells (atC 0 nd0) 48)) := by kernel_rfl
theorem wpList_alloc_at {ops : Array Oper} {rest : List Oper} {o : Oper} {a : Act} {w : World} {Q : Exit -> Act -> World -> Prop} (hgd : o.guard = none) (ho : o.op = .alloc 48) (xb : Nat) (hz : w.heap.size = xb)
  (h : wpList Tryz.prog ops Q rest (a.put o.dst (.pointer (some ⟨xb,0,none⟩))) (w.alloc (.cells (atC 0 nd0) 48))) : wpList Tryz.prog ops Q (o :: rest) a w := by
 subst hz
 exact wpList_plain hgd fun _ hK => by
  unfold Oper.wp execOp
  simp only [ho,Sem.run_bind,run_alloc_at,Result.andThen_ok,Sem.run_pure]
  exact hK _ _ h
theorem wpList_store_at {ops : Array Oper} {rest : List Oper} {o : Oper} {a : Act} {w : World} {Q : Exit -> Act -> World -> Prop} (hgd : o.guard = none) (x y : Operand) (ho : o.op = .store 48 x y)
  (g : Nat) (cs : Array Value) (p : Int) (m : Nd) (p0 : Int) (n : Nd) (hx : a.eval x = .pointer (some ⟨g,0,none⟩)) (hy : a.eval y = .agg cs) (hg : Blk w g (atC p0 n) 48) (hm : cs = atC p m)
  (h : wpList Tryz.prog ops Q rest (a.put o.dst undef) (w.setRow g (atC p m))) : wpList Tryz.prog ops Q (o :: rest) a w := by
 subst hm
 exact wpList_store_row hgd 48 x y ho g (atC p m) hx hy 48 (atC p0 n) hg (infoAt p m) (by rw [atC_size,atC_size]) (atC_one p m) h
theorem atC_lo (a : Int) (n : Nd) (x : Int) : (atC a n).setIfInBounds 2 (.int .u64 x) = atC a { n with lo := x } := by
 rw [show 2 = 1 + 1 by rfl,atC_set,ndCells_set1];rfl
theorem Blk.atk {w : World} {g : Nat} {a : Int} {n : Nd} {t : TypeId} (h : Blk w g (atC a n) t) (i : Nat) (hi : i < 8) (x : Int) : Blk (w.setCell ⟨g,6 + i,none⟩ (.int .u64 x)) g (atC a (n.withK i x)) t := by
 have e : (atC a n).setIfInBounds (6 + i) (.int .u64 x) = atC a (n.withK i x) := by rw [show 6 + i = 1 + (5 + i) by omega,atC_set,ndCells_setk n i hi];rfl
 have := h.set (6 + i) (.int .u64 x);rwa [e] at this
theorem Blk.atp {w : World} {g : Nat} {a : Int} {n : Nd} {t : TypeId} (h : Blk w g (atC a n) t) (i : Nat) (hi : i < 8) (x : Int) : Blk (w.setCell ⟨g,14 + i,none⟩ (.int .u64 x)) g (atC a (n.withP i x)) t := by
 have e : (atC a n).setIfInBounds (14 + i) (.int .u64 x) = atC a (n.withP i x) := by rw [show 14 + i = 1 + (13 + i) by omega,atC_set,ndCells_setp n i hi];rfl
 have := h.set (14 + i) (.int .u64 x);rwa [e] at this
/-! . -/
def cpN (n : Nd) (k : Nat) (kk pk : Int) (x y : Bool) : Nd := { n with k := if x = true then (n.withK k kk).k else n.k,p := if y = true then (n.withP k pk).p else n.p }
structure KvG (w0 : World) (xb : Nat) (a : Int) (n : Nd) (k : Nat) (kk pk : Int) (L : Nat -> Bool) (W : World) : Prop where
 kp : Keeps (fun i => i = xb) w0 W
 b : Blk W xb (atC a (cpN n k kk pk (L 15) (L 19))) 48
theorem KvG.start {w0 : World} {xb : Nat} {a : Int} {n : Nd} {k : Nat} {kk pk : Int} (h : Blk w0 xb (atC a n) 48) : KvG w0 xb a n k kk pk (fun _ => false) w0.drew := ⟨(Keeps.refl _ _).drew,h.drew⟩
section
variable {w0 W : World} {xb : Nat} {a : Int} {n : Nd} {k : Nat} {kk pk : Int} {L L' : Nat -> Bool}
theorem KvG.keep (h : KvG w0 xb a n k kk pk L W) (h1 : L' 15 = L 15) (h2 : L' 19 = L 19) : KvG w0 xb a n k kk pk L' W := ⟨h.kp,by rw [h1,h2];exact h.b⟩
theorem KvG.ck (h : KvG w0 xb a n k kk pk L W) (hk : k < 8) : W.cell? ⟨xb,6 + k,none⟩ = some (.int .u64 ((cpN n k kk pk (L 15) (L 19)).k k)) := by
 rw [h.b.cell,show 6 + k = 1 + (5 + k) by omega,atC_succ,ndCells_k _ _ hk]
theorem KvG.cp (h : KvG w0 xb a n k kk pk L W) (hk : k < 8) : W.cell? ⟨xb,14 + k,none⟩ = some (.int .u64 ((cpN n k kk pk (L 15) (L 19)).p k)) := by
 rw [h.b.cell,show 14 + k = 1 + (13 + k) by omega,atC_succ,ndCells_p _ _ hk]
theorem KvG.sk (h : KvG w0 xb a n k kk pk L W) (hf : L 15 = false) (hk : k < 8) : KvG w0 xb a n k kk pk (lset L 15) (W.setCell ⟨xb,6 + k,none⟩ (.int .u64 kk)) := by
 refine ⟨h.kp.setCell (p := ⟨xb,6 + k,none⟩) (.inl rfl) _,?_⟩
 have := h.b.atk k hk kk
 rw [hf] at this
 exact this
theorem KvG.sp (h : KvG w0 xb a n k kk pk L W) (hf : L 19 = false) (hk : k < 8) : KvG w0 xb a n k kk pk (lset L 19) (W.setCell ⟨xb,14 + k,none⟩ (.int .u64 pk)) := by
 refine ⟨h.kp.setCell (p := ⟨xb,14 + k,none⟩) (.inl rfl) _,?_⟩
 have := h.b.atp k hk pk
 rw [hf] at this
 exact this
theorem KvG.fin (h : KvG w0 xb a n k kk pk L W) (h1 : L 15 = true) (h2 : L 19 = true) : Keeps (fun i => i = xb) w0 W /\ Blk W xb (atC a ((n.withK k kk).withP k pk)) 48 := by
 refine ⟨h.kp,?_⟩
 have := h.b
 rw [h1,h2] at this
 exact this
end
/-! . -/
def atcs (R : List (Nat × Nd)) : List Value := R.flatMap (fun x => (atC x.1 x.2).toList)
theorem atcs_snoc (R : List (Nat × Nd)) (x : Nat × Nd) : atcs (R ++ [x]) = atcs R ++ (atC x.1 x.2).toList := by simp [atcs]
theorem atcs_get : ∀ (R : List (Nat × Nd)) (j k : Nat) (x : Nat × Nd),R[j]? = some x -> k < 22 -> (atcs R)[j * 22 + k]? = (atC x.1 x.2)[k]?
 | [],j,k,x,h,_ => by cases h
 | y :: R,j,k,x,h,hk => by
  have e : atcs (y :: R) = (atC y.1 y.2).toList ++ atcs R := rfl
  rw [e]
  cases j with
  | zero =>
   obtain rfl : y = x := Option.some.inj h
   rw [List.getElem?_append_left (by rw [atC_len];omega),Nat.zero_mul,Nat.zero_add]
   simp
  | succ j =>
   rw [List.getElem?_append_right (by rw [atC_len];omega),atC_len,show (j + 1) * 22 + k - 22 = j * 22 + k by omega]
   exact atcs_get R j k x h hk
theorem atcs_set : ∀ (R : List (Nat × Nd)) (j k : Nat) (x y : Nat × Nd) (u : Value),R[j]? = some x -> (atC x.1 x.2).setIfInBounds k u = atC y.1 y.2 -> k < 22 -> (atcs R).set (j * 22 + k) u = atcs (R.set j y)
 | [],j,k,x,y,u,h,_,_ => by cases h
 | z :: R,j,k,x,y,u,h,hk,hl => by
  have e : atcs (z :: R) = (atC z.1 z.2).toList ++ atcs R := rfl
  rw [e]
  cases j with
  | zero =>
   obtain rfl : z = x := Option.some.inj h
   rw [List.set_append_left _ _ (by rw [atC_len];omega),Nat.zero_mul,Nat.zero_add,List.set_cons_zero]
   show _ = (atC y.1 y.2).toList ++ atcs R
   rw [<- hk]
   simp
  | succ j =>
   rw [List.set_append_right _ _ (by rw [atC_len];omega),atC_len,show (j + 1) * 22 + k - 22 = j * 22 + k by omega,List.set_cons_succ,atcs_set R j k x y u h hk hl]
   rfl
def RowAtB (W : World) (g : Nat) (R : List (Nat × Nd)) : Prop := ∃ cs,Blk W g cs 48 /\ cs.toList.take (R.length * 22) = atcs R
theorem RowAtB.cell {W : World} {g : Nat} {R : List (Nat × Nd)} (h : RowAtB W g R) {j k : Nat} {x : Nat × Nd} (hj : R[j]? = some x) (hk : k < 22) : W.cell? ⟨g,j * 22 + k,none⟩ = (atC x.1 x.2)[k]? := by
 obtain ⟨cs,hb,ht⟩ := h
 have hj' := (List.getElem?_eq_some_iff.1 hj).1
 rw [hb.cell,<- atcs_get R j k x hj hk,<- ht,List.getElem?_take_of_lt (by omega)]
 simp
theorem RowAtB.frozen {W : World} {g : Nat} {R : List (Nat × Nd)} (h : RowAtB W g R) (i : Nat) : W.frozen? ⟨g,i,none⟩ = false := by
 obtain ⟨cs,hb,ht⟩ := h
 exact hb.frozen i
theorem RowAtB.lt {W : World} {g : Nat} {R : List (Nat × Nd)} (h : RowAtB W g R) : g < W.heap.size := by
 obtain ⟨cs,hb,ht⟩ := h
 exact hb.lt
theorem RowAtB.kept {S : Nat -> Prop} {w w' : World} {g : Nat} {R : List (Nat × Nd)} (h : RowAtB w g R) (hk : Keeps S w w') (hn : ¬ S g) : RowAtB w' g R := by
 obtain ⟨cs,hb,ht⟩ := h
 exact ⟨cs,hb.kept hk hn,ht⟩
theorem RowAtB.set {W : World} {g : Nat} {R : List (Nat × Nd)} (h : RowAtB W g R) {j k : Nat} {x y : Nat × Nd} {u : Value} (hj : R[j]? = some x) (he : (atC x.1 x.2).setIfInBounds k u = atC y.1 y.2) (hk : k < 22) : RowAtB (W.setCell ⟨g,j * 22 + k,none⟩ u) g (R.set j y) := by
 obtain ⟨cs,hb,ht⟩ := h
 have hj' := (List.getElem?_eq_some_iff.1 hj).1
 refine ⟨_,hb.set _ u,?_⟩
 rw [Array.toList_setIfInBounds,List.take_set,List.length_set,ht,atcs_set R j k x y u hj he hk]
theorem atC_nx (a : Int) (n : Nd) (x : Int) : (atC a n).setIfInBounds 3 (.int .u64 x) = atC a { n with nx := x } := by
 rw [show 3 = 1 + 2 by rfl,atC_set]
 rfl
theorem infoAt22 : ∃ i,Tryz.prog.info? 48 = some i /\ i.zero = some (.agg (atC 0 nd0)) /\ i.size = 22 /\ i.bytes = 176 := by
 have h1 : ((Tryz.prog.info? 48).map (·.size)) = some 22 := by kernel_rfl
 have h2 : ((Tryz.prog.info? 48).map (·.bytes)) = some 176 := by kernel_rfl
 have h3 : ((Tryz.prog.info? 48).bind (·.zero)) = some (.agg (atC 0 nd0)) := by kernel_rfl
 cases h : Tryz.prog.info? 48 with
 | none => rw [h] at h1;cases h1
 | some i =>
  rw [h] at h1 h2 h3
  exact ⟨i,rfl,h3,Option.some.inj h1,Option.some.inj h2⟩
set_option maxRecDepth 100000 in
theorem run_buildSlice_at (a : Int) (n : Nd) (w : World) : (Instr.buildSlice 49 1 #[(0,.agg (atC a n))]).run Tryz.prog w = .ok (.slice (some ⟨w.heap.size,0,none⟩) 1 1) (w.alloc (.cells (atC a n) 48)) := by
 kernel_rfl
theorem wpList_bs_at {ops : Array Oper} {rest : List Oper} {o : Oper} {a : Act} {w : World} {Q : Exit -> Act -> World -> Prop} (hgd : o.guard = none) (x : Operand) (ho : o.op = .buildSlice 49 1 #[(0,x)]) (p : Int) (n : Nd) (hx : a.eval x = .agg (atC p n))
  (h : wpList Tryz.prog ops Q rest (a.put o.dst (.slice (some ⟨w.heap.size,0,none⟩) 1 1)) (w.alloc (.cells (atC p n) 48))) : wpList Tryz.prog ops Q (o :: rest) a w :=
 wpList_plain hgd fun _ hK => by
  unfold Oper.wp execOp
  simp only [ho,List.map_toArray,List.map_cons,List.map_nil,hx,Sem.run_bind,run_buildSlice_at,Result.andThen_ok,Sem.run_pure]
  exact hK _ _ h
theorem wpList_append_atl {ops : Array Oper} {rest : List Oper} {o : Oper} {a : Act} {w : World} {Q : Exit -> Act -> World -> Prop} (hgd : o.guard = none) (s x : Operand)
  (ho : o.op = .call { callee := .builtin .append,args := #[s,x],argTypes := #[49,49] }) (B : Nat) (v : Value) (l : List (Nat × Nd)) (y : Nat × Nd) (hs : a.eval s = v) (hown : w.ownsRow B 48 22 v l.length (atcs l))
  (H : Nat) (hx : a.eval x = .slice (some ⟨H,0,none⟩) 1 1) (hb : Blk w H (atC y.1 y.2) 48) (ht : l.length <= 1000) (hB : B <= w.heap.size)
  (h : ∀ v' w',w'.ownsRow B 48 22 v' (l ++ [y]).length (atcs (l ++ [y])) -> w.grownBy w' v.ownBlock -> wpList Tryz.prog ops Q rest (a.put o.dst v') w') : wpList Tryz.prog ops Q (o :: rest) a w := by
 obtain ⟨i0,hi,hz0,hz1,hz2⟩ := infoAt22
 refine wpList_append_own_at w hgd s x 49 ho B 48 i0 _ 22 176 Tryz.underlying49 hi hz0 hz1 hz2 (atC_size 0 nd0) (by decide) v l.length (atcs l) hs hown ⟨H,0,none⟩ 1 1 (atC y.1 y.2).toList hx (by rw [atC_len])
  (fun j u hj => ?_) (fun u hu => (Array.all_eq_true_iff_forall_mem.1 (atC_one y.1 y.2)) u (by simpa using hu)) (by unfold maxLen;omega) (by omega) hB (fun v' w' h1 h2 _ _ => h v' w' (by rw [atcs_snoc,List.length_append];exact h1) h2)
 have := (hb.cell j).trans (by simpa using hj : (atC y.1 y.2)[j]? = some u)
 unfold Addr.add
 by_cases h0 : j = 0
 ·subst h0;simpa using this
 ·simpa [h0] using this
theorem own_rowB {w : World} {B : Nat} {v : Value} {R : List (Nat × Nd)} (h : w.ownsRow B 48 22 v R.length (atcs R)) (hp : 0 < R.length) :
  ∃ g cap,v = .slice (some ⟨g,0,none⟩) R.length cap /\ B <= g /\ R.length <= cap /\ cap <= maxLen /\ RowAtB w g R := by
 obtain ⟨hl,⟨_,h0⟩ | ⟨g,cap,cur,rfl,hb,hg,h1,h2,hsz,ht⟩⟩ := h
 ·omega
 ·exact ⟨g,cap,rfl,hb,h1,h2,cur,hg,ht⟩
/-! . -/
structure CallG (i : Nat) (w1 : World) (gb : Nat) (P : World -> Prop) (L : Nat -> Bool) (W : World) : Prop where
 kp : Keeps (fun i => i = gb) w1 W
 n : L i = false -> Below w1.heap.size w1 W
 y : L i = true -> P W
theorem CallG.start (i : Nat) (w1 : World) (gb : Nat) (P : World -> Prop) : CallG i w1 gb P (fun _ => false) w1.drew := ⟨(Keeps.refl _ _).drew,fun _ => (Below.refl _ w1).drew,fun h => (by cases h)⟩
theorem CallG.keep {i : Nat} {w1 : World} {gb : Nat} {P : World -> Prop} {L L' : Nat -> Bool} {W : World} (h : CallG i w1 gb P L W) (e : L' i = L i) : CallG i w1 gb P L' W := ⟨h.kp,by rw [e];exact h.n,by rw [e];exact h.y⟩
theorem CallG.call {i : Nat} {w1 : World} {gb : Nat} {P : World -> Prop} {L : Nat -> Bool} {W : World} (h : P W) (hk : Keeps (fun i => i = gb) w1 W) : CallG i w1 gb P (lset L i) W := ⟨hk,fun e => (by simp [lset] at e),fun _ => h⟩
/-! . -/
structure LvW (W : World) (N : Nat -> Prop) (v : Value) (lv : List (List (Nat × Nd))) : Prop where
 ex : ∃ vs : List Value,W.ownsRow 0 49 1 v lv.length vs /\ ∀ (i : Nat) (R : List (Nat × Nd)),lv[i]? = some R -> ∃ rb cr,vs[i]? = some (Value.slice (some ⟨rb,0,none⟩) R.length cr) /\ R.length <= cr /\ cr <= maxLen /\ v.ownBlock ≠ some rb /\ ¬ N rb /\ RowAtB W rb R
 nv : ∀ g,v.ownBlock = some g -> ¬ N g
theorem own_keptK {B : Nat} {e : TypeId} {k : Nat} {v : Value} {n : Nat} {xs : List Value} {w w' : World} {S : Nat -> Prop} (h : w.ownsRow B e k v n xs) (hk : Keeps S w w') (hn : ∀ g,v.ownBlock = some g -> ¬ S g) : w'.ownsRow B e k v n xs := by
 obtain ⟨hl,h2 | ⟨g,cap,cur,rfl,hb,hg,r⟩⟩ := h
 ·exact ⟨hl,.inl h2⟩
 ·exact ⟨hl,.inr ⟨g,cap,cur,rfl,hb,(hk.block g (Array.getElem?_eq_some_iff.1 hg).1 (hn g rfl)).trans hg,r⟩⟩
theorem LvW.kept {W W' : World} {N S : Nat -> Prop} {v : Value} {lv : List (List (Nat × Nd))} (h : LvW W N v lv) (hk : Keeps S W W') (hs : ∀ i,S i -> N i) : LvW W' N v lv := by
 obtain ⟨⟨vs,ho,hr⟩,hn⟩ := h
 refine ⟨⟨vs,own_keptK ho hk (fun g hg hS => hn g hg (hs g hS)),fun i R hi => ?_⟩,hn⟩
 obtain ⟨rb,cr,h1,h2,h3,h4,h5,h6⟩ := hr i R hi
 exact ⟨rb,cr,h1,h2,h3,h4,h5,h6.kept hk (fun hS => h5 (hs rb hS))⟩
theorem lvW_more {W W2 : World} {N : Nat -> Prop} {v v' : Value} {lv : List (List (Nat × Nd))} {vs : List Value} {R : List (Nat × Nd)} {rb cr : Nat}
  (hr : ∀ (i : Nat) (R : List (Nat × Nd)),lv[i]? = some R -> ∃ rb cr,vs[i]? = some (Value.slice (some ⟨rb,0,none⟩) R.length cr) /\ R.length <= cr /\ cr <= maxLen /\ v.ownBlock ≠ some rb /\ ¬ N rb /\ RowAtB W rb R) (hvl : vs.length = lv.length)
  (hn : ∀ g,v.ownBlock = some g -> ¬ N g) (hN : ∀ i,N i -> i < W.heap.size) (hrow : RowAtB W rb R) (hc : R.length <= cr) (hm : cr <= maxLen) (hvb : v.ownBlock ≠ some rb) (hNr : ¬ N rb)
  (ho : W2.ownsRow 0 49 1 v' (lv.length + 1) (vs ++ [Value.slice (some ⟨rb,0,none⟩) R.length cr])) (hg : W.grownBy W2 v.ownBlock) (hat : v'.ownBlock = v.ownBlock ∨ v'.ownBlock = some W.heap.size) : LvW W2 N v' (lv ++ [R]) := by
 have hkept : ∀ {b : Nat} {Q : List (Nat × Nd)},RowAtB W b Q -> v.ownBlock ≠ some b -> RowAtB W2 b Q := by
  rintro b Q ⟨cs,hb,ht⟩ hne
  exact ⟨cs,hb.grown hg (fun e => hne e.symm),ht⟩
 have hne2 : ∀ {b : Nat} {Q : List (Nat × Nd)},RowAtB W b Q -> v.ownBlock ≠ some b -> v'.ownBlock ≠ some b := by
  intro b Q hb hne e
  rcases hat with h | h
  ·exact hne (h ▸ e)
  ·have := hb.lt
   rw [h] at e
   cases e
   omega
 refine ⟨⟨_,by rw [List.length_append];exact ho,fun i Q hi => ?_⟩,fun g hg' => ?_⟩
 ·by_cases hlt : i < lv.length
  ·rw [List.getElem?_append_left hlt] at hi
   obtain ⟨b,c,h1,h2,h3,h4,h5,h6⟩ := hr i Q hi
   exact ⟨b,c,by rw [List.getElem?_append_left (by omega)];exact h1,h2,h3,hne2 h6 h4,h5,hkept h6 h4⟩
  ·rw [List.getElem?_append_right (by omega)] at hi
   obtain ⟨h0,rfl⟩ : i = lv.length /\ R = Q := by
    have hz : i - lv.length = 0 := by
     have := (List.getElem?_eq_some_iff.1 hi).1
     simp at this
     omega
    rw [hz] at hi
    exact ⟨by omega,Option.some.inj hi⟩
   exact ⟨rb,cr,by rw [List.getElem?_append_right (by omega),h0,hvl,Nat.sub_self];rfl,hc,hm,hne2 hrow hvb,hNr,hkept hrow hvb⟩
 ·rcases hat with h | h
  ·exact hn g (h ▸ hg')
  ·rw [h] at hg'
   cases hg'
   intro hN'
   have := hN _ hN'
   omega
theorem infoRowK : ∃ i,Tryz.prog.info? 49 = some i /\ i.zero = some (.slice none 0 0) /\ i.size = 1 /\ i.bytes = 24 := by
 have h1 : ((Tryz.prog.info? 49).map (·.size)) = some 1 := by kernel_rfl
 have h2 : ((Tryz.prog.info? 49).map (·.bytes)) = some 24 := by kernel_rfl
 have h3 : ((Tryz.prog.info? 49).bind (·.zero)) = some (.slice none 0 0) := by kernel_rfl
 cases h : Tryz.prog.info? 49 with
 | none => rw [h] at h1;cases h1
 | some i =>
  rw [h] at h1 h2 h3
  exact ⟨i,rfl,h3,Option.some.inj h1,Option.some.inj h2⟩
theorem arC_set7 (gb cb : Nat) (d : AD) (v v' : Value) (lv : List (List (Nat × Nd))) : (arC gb cb d v).setIfInBounds 7 v' = arC gb cb { d with lv := lv } v' := rfl
end Go.Proofs.YtodgfbjjjgohgaaGreat
