/-
 snap: word,after,anew,counts,reads,bound: contracts.
-/
import Derived.Test.YtodgfbjjjgohgaaGreatOfZ
import Derived.Deep.MidRow
namespace Go.Proofs.YtodgfbjjjgohgaaGreat
open Go.RowKit

structure RoW (w : World) (f : Nat -> Int) (b1 b2 : Nat) (w' : World) : Prop where
 f : Blk w' b1 (wdCells f) 154
 r : Blk w' b2 (ndCells nd0) 46
 b : Below w.heap.size w w'
 lt : w.heap.size <= b1 /\ b1 < b2
structure RiW (w : World) (f : Nat -> Int) (b1 b2 b3 : Nat) (m : Nd) (w' : World) : Prop where
 o : RoW w f b1 b2 w'
 m : Blk w' b3 (ndCells m) 46
 lt : b2 < b3
end Go.Proofs.YtodgfbjjjgohgaaGreat
namespace Go.Proofs.YtodgfbjjjgohgaaGreat
open Go.RowKit
set_option linter.unusedVariables false

/-! . -/
def putL (C : Array Value) (o : Nat) : List Value -> Array Value
 | [] => C
 | v :: r => putL (C.setIfInBounds o v) (o + 1) r
theorem Blk.mid {b : Nat} {t : TypeId} : ∀ (vs : List Value) (o : Nat) {w : World} {C : Array Value},Blk w b C t -> Blk (w.setCells b o vs) b (putL C o vs) t
 | [],_,_,_,h => h
 | v :: r,o,_,_,h => by
  rw [World.setCells,putL]
  exact Blk.mid r (o + 1) (h.set o v)
theorem keeps_setCells {S : Nat -> Prop} {a : World} {b : Nat} (hb : S b ∨ a.heap.size <= b) : ∀ (vs : List Value) (o : Nat) {w : World},Keeps S a w -> Keeps S a (w.setCells b o vs)
 | [],_,_,h => h
 | v :: r,o,_,h => by
  rw [World.setCells]
  exact keeps_setCells hb r (o + 1) (h.setCell (p := ⟨b,o,none⟩) hb v)
theorem Blk.there {w : World} {b : Nat} {C : Array Value} {t : TypeId} (h : Blk w b C t) (o n : Nat) (hn : o + n <= C.size) : w.there b o n := fun j hj =>
 ⟨by rw [h.cell,Array.getElem?_eq_getElem (by omega)];rfl,h.frozen _⟩
theorem putL_list : ∀ (vs pre mid post : List Value),vs.length = mid.length -> putL (pre ++ mid ++ post).toArray pre.length vs = (pre ++ vs ++ post).toArray
 | [],pre,mid,post,h => by
  obtain rfl : mid = [] := List.length_eq_zero_iff.1 h.symm
  rfl
 | v :: r,pre,[],post,h => by cases h
 | v :: r,pre,m :: mid,post,h => by
  rw [putL]
  have e : ((pre ++ m :: mid ++ post).toArray).setIfInBounds pre.length v = ((pre ++ [v]) ++ mid ++ post).toArray := by
   simp
  rw [e]
  have := putL_list r (pre ++ [v]) mid post (by simpa using h)
  rw [List.length_append] at this
  simpa using this

/-! . -/
structure Sn where
 mv : Option Addr
 at_ : Int
 k : Int
 last : Bool
 a : Nat -> Int
 b : Nat -> Int
 high : Int
 has : Bool
 step : Value
 over : Bool
 e : Int
 found : Nd
def snHd (s : Sn) : List Value := [.pointer s.mv,.int .u64 s.at_,.int .i64 s.k,.bool s.last]
def snMd (s : Sn) : List Value := [.int .u64 s.high,.bool s.has,s.step,.bool s.over,.int .i64 s.e]
def snList (s : Sn) : List Value := snHd s ++ (wdList s.a ++ (wdList s.b ++ (snMd s ++ (ndCells s.found).toList)))
def snCells (s : Sn) : Array Value := (snList s).toArray
theorem snCells_size (s : Sn) : (snCells s).size = 78 := by
 have := ndCells_size s.found
 simp [snCells,snList,snHd,snMd,wdList_len,this]
theorem sn_0 (s : Sn) : (snCells s)[0]? = some (.pointer s.mv) := by simp [snCells,snList,snHd]
theorem sn_1 (s : Sn) : (snCells s)[1]? = some (.int .u64 s.at_) := by simp [snCells,snList,snHd]
theorem sn_2 (s : Sn) : (snCells s)[2]? = some (.int .i64 s.k) := by simp [snCells,snList,snHd]
theorem sn_3 (s : Sn) : (snCells s)[3]? = some (.bool s.last) := by simp [snCells,snList,snHd]
theorem sn_a (s : Sn) (i : Nat) (h : i < 24) : (snCells s)[4 + i]? = some (.int .u64 (s.a i)) := by
 have : (snList s)[4 + i]? = (wdList s.a ++ (wdList s.b ++ (snMd s ++ (ndCells s.found).toList)))[i]? := by
  unfold snList
  rw [List.getElem?_append_right (by simp [snHd])]
  congr 1;simp [snHd]
 rw [show (snCells s)[4 + i]? = (snList s)[4 + i]? by simp [snCells],this,List.getElem?_append_left (by rw [wdList_len];exact h),wdList_get,if_pos h]
theorem sn_b (s : Sn) (i : Nat) (h : i < 24) : (snCells s)[28 + i]? = some (.int .u64 (s.b i)) := by
 have : (snList s)[28 + i]? = (wdList s.b ++ (snMd s ++ (ndCells s.found).toList))[i]? := by
  unfold snList
  rw [List.getElem?_append_right (by simp [snHd];omega),List.getElem?_append_right (by rw [wdList_len];simp [snHd];omega)]
  congr 1;rw [wdList_len];simp [snHd];omega
 rw [show (snCells s)[28 + i]? = (snList s)[28 + i]? by simp [snCells],this,List.getElem?_append_left (by rw [wdList_len];exact h),wdList_get,if_pos h]
theorem sn_md (s : Sn) (i : Nat) (h : i < 5) : (snCells s)[52 + i]? = (snMd s)[i]? := by
 have : (snList s)[52 + i]? = (snMd s ++ (ndCells s.found).toList)[i]? := by
  unfold snList
  rw [List.getElem?_append_right (by simp [snHd];omega),List.getElem?_append_right (by rw [wdList_len];simp [snHd];omega),List.getElem?_append_right (by rw [wdList_len];simp [snHd,wdList_len];omega)]
  congr 1;rw [wdList_len];simp [snHd,wdList_len];omega
 rw [show (snCells s)[52 + i]? = (snList s)[52 + i]? by simp [snCells],this,List.getElem?_append_left (by simpa [snMd] using h)]
theorem sn_52 (s : Sn) : (snCells s)[52]? = some (.int .u64 s.high) := sn_md s 0 (by decide)
theorem sn_53 (s : Sn) : (snCells s)[53]? = some (.bool s.has) := sn_md s 1 (by decide)
theorem sn_54 (s : Sn) : (snCells s)[54]? = some s.step := sn_md s 2 (by decide)
theorem sn_55 (s : Sn) : (snCells s)[55]? = some (.bool s.over) := sn_md s 3 (by decide)
theorem sn_56 (s : Sn) : (snCells s)[56]? = some (.int .i64 s.e) := sn_md s 4 (by decide)
/-! . -/
theorem sn_set (pre mid post : List Value) (v : Value) (m : Value) (hm : mid = [m]) (n : Nat) (hn : pre.length = n) : ((pre ++ mid ++ post).toArray).setIfInBounds n v = (pre ++ [v] ++ post).toArray := by
 subst hn hm
 simp
theorem sn_set2 (s : Sn) (x : Int) : (snCells s).setIfInBounds 2 (.int .i64 x) = snCells { s with k := x } := by simp [snCells,snList,snHd,snMd]
theorem sn_set3 (s : Sn) (x : Bool) : (snCells s).setIfInBounds 3 (.bool x) = snCells { s with last := x } := by simp [snCells,snList,snHd,snMd]
theorem sn_mid (s : Sn) (i : Nat) (h : i < 5) (v : Value) : (snCells s).setIfInBounds (52 + i) v = (snHd s ++ (wdList s.a ++ (wdList s.b ++ ((snMd s).set i v ++ (ndCells s.found).toList)))).toArray := by
 have e : 52 + i = (snHd s ++ wdList s.a ++ wdList s.b).length + i := by simp [snHd,wdList_len]
 rw [e]
 have e2 : snCells s = ((snHd s ++ wdList s.a ++ wdList s.b) ++ (snMd s ++ (ndCells s.found).toList)).toArray := by simp [snCells,snList]
 rw [e2,List.setIfInBounds_toArray,List.set_append_right _ _ (by omega),Nat.add_sub_cancel_left,List.set_append_left _ _ (by simpa [snMd] using h)]
 simp
theorem sn_set52 (s : Sn) (x : Int) : (snCells s).setIfInBounds 52 (.int .u64 x) = snCells { s with high := x } := sn_mid s 0 (by decide) _
theorem sn_set53 (s : Sn) (x : Bool) : (snCells s).setIfInBounds 53 (.bool x) = snCells { s with has := x } := sn_mid s 1 (by decide) _
theorem sn_set54 (s : Sn) (x : Value) : (snCells s).setIfInBounds 54 x = snCells { s with step := x } := sn_mid s 2 (by decide) _
theorem sn_set55 (s : Sn) (x : Bool) : (snCells s).setIfInBounds 55 (.bool x) = snCells { s with over := x } := sn_mid s 3 (by decide) _
theorem sn_set56 (s : Sn) (x : Int) : (snCells s).setIfInBounds 56 (.int .i64 x) = snCells { s with e := x } := sn_mid s 4 (by decide) _
theorem wdList_set (f : Nat -> Int) (i : Nat) (x : Int) : (wdList f).set i (.int .u64 x) = wdList (wset f i x) := by
 have := congrArg Array.toList (wdCells_set f i x)
 simpa [wdCells] using this
theorem sn_setA (s : Sn) (i : Nat) (h : i < 24) (x : Int) : (snCells s).setIfInBounds (4 + i) (.int .u64 x) = snCells { s with a := wset s.a i x } := by
 have e : 4 + i = (snHd s).length + i := by simp [snHd]
 rw [e]
 unfold snCells snList
 rw [List.setIfInBounds_toArray,List.set_append_right _ _ (by omega),Nat.add_sub_cancel_left,List.set_append_left _ _ (by rw [wdList_len];exact h),wdList_set]
 rfl
theorem sn_setB (s : Sn) (i : Nat) (h : i < 24) (x : Int) : (snCells s).setIfInBounds (28 + i) (.int .u64 x) = snCells { s with b := wset s.b i x } := by
 have e : 28 + i = (snHd s ++ wdList s.a).length + i := by simp [snHd,wdList_len]
 rw [e]
 unfold snCells snList
 rw [<- List.append_assoc]
 rw [List.setIfInBounds_toArray,List.set_append_right _ _ (by omega),Nat.add_sub_cancel_left,List.set_append_left _ _ (by rw [wdList_len];exact h),wdList_set,List.append_assoc]
 rfl
theorem sn_putA (s : Sn) (f : Nat -> Int) : putL (snCells s) 4 (wdList f) = snCells { s with a := f } := by
 have := putL_list (wdList f) (snHd s) (wdList s.a) (wdList s.b ++ (snMd s ++ (ndCells s.found).toList)) (by rw [wdList_len,wdList_len])
 rw [List.append_assoc,List.append_assoc] at this
 exact this
theorem sn_putB (s : Sn) (f : Nat -> Int) : putL (snCells s) 28 (wdList f) = snCells { s with b := f } := by
 have := putL_list (wdList f) (snHd s ++ wdList s.a) (wdList s.b) (snMd s ++ (ndCells s.found).toList) (by rw [wdList_len,wdList_len])
 rw [List.length_append,wdList_len] at this
 rw [List.append_assoc,List.append_assoc,List.append_assoc,List.append_assoc] at this
 exact this
theorem sn_putN (s : Sn) (n : Nd) : putL (snCells s) 57 (ndCells n).toList = snCells { s with found := n } := by
 have := putL_list (ndCells n).toList (snHd s ++ wdList s.a ++ wdList s.b ++ snMd s) (ndCells s.found).toList [] (by simp [ndCells_size])
 rw [List.length_append,List.length_append,List.length_append,wdList_len,wdList_len,List.append_nil,List.append_nil] at this
 rw [List.append_assoc,List.append_assoc,List.append_assoc,List.append_assoc,List.append_assoc,List.append_assoc] at this
 exact this
/-! . -/
theorem run_storeVar_cellB {w : World} {sb off : Nat} {C : Array Value} {t : TypeId} (hb : Blk w sb C t) (ho : off < C.size) (ty : TypeId) (v : Value) (h1 : v.oneCell' = true) (hi : (Tryz.prog.info? ty).map (·.size) = some 1) :
  (storeVar ty ⟨sb,off,none⟩ v).run Tryz.prog w = .ok () (w.setCell ⟨sb,off,none⟩ v) := by
 have hst := run_store Tryz.prog w ⟨sb,off,none⟩ v .plain h1
 have hc : w.cell? ⟨sb,off,none⟩ = some C[off] := by rw [hb.cell];exact Array.getElem?_eq_getElem ho
 have hf := hb.frozen off
 rw [hc] at hst
 simp only [hf] at hst
 have e0 : (⟨sb,off,none⟩ : Addr).add 0 = ⟨sb,off,none⟩ := by simp [Addr.add]
 have hcs : v.cells = #[v] := by cases v <;> first | rfl | cases h1
 cases hq : Tryz.prog.info? ty with
 | none => simp [hq] at hi
 | some i =>
  have hs : i.size = 1 := by simpa [hq] using hi
  simp [storeVar,sizeOf,typeInfo,hq,hcs,hs,storeCells,e0,hst]
theorem wpList_store_cellB {ops : Array Oper} {rest : List Oper} {o : Oper} {a : Act} {w : World} {Q : Exit -> Act -> World -> Prop} (hgd : o.guard = none) (ty : TypeId) (x y : Operand) (ho : o.op = .store ty x y)
  (sb off : Nat) (v : Value) (C : Array Value) (t : TypeId) (hx : a.eval x = .pointer (some ⟨sb,off,none⟩)) (hy : a.eval y = v) (h1 : v.oneCell' = true) (hb : Blk w sb C t) (hsz : off < C.size) (hi : (Tryz.prog.info? ty).map (·.size) = some 1)
  (h : wpList Tryz.prog ops Q rest (a.put o.dst undef) (w.setCell ⟨sb,off,none⟩ v)) : wpList Tryz.prog ops Q (o :: rest) a w :=
 wpList_plain hgd fun _ hK => by
  unfold Oper.wp execOp
  simp only [ho,hx,hy,Instr.storeAt,Instr.sureAddr,Sem.run_bind,Sem.run_pure,Result.andThen_ok,run_storeVar_cellB hb hsz ty v h1 hi]
  exact hK _ _ h
theorem infoFn : (Tryz.prog.info? 61).map (·.size) = some 1 := by kernel_rfl
theorem wpList_store_wdm {ops : Array Oper} {rest : List Oper} {o : Oper} {a : Act} {w : World} {Q : Exit -> Act -> World -> Prop} (hgd : o.guard = none) (x y : Operand) (ho : o.op = .store 154 x y)
  (sb off : Nat) (f : Nat -> Int) (cs : Array Value) (C : Array Value) (t : TypeId) (hx : a.eval x = .pointer (some ⟨sb,off,none⟩)) (hy : a.eval y = .agg cs) (hm : cs = wdCells f) (hb : Blk w sb C t) (hsz : off + 24 <= C.size)
  (h : wpList Tryz.prog ops Q rest (a.put o.dst undef) (w.setCells sb off (wdList f))) : wpList Tryz.prog ops Q (o :: rest) a w := by
 subst hm
 exact wpList_store_mid hgd 154 x y ho sb off (wdCells f) hx hy (hb.there off _ (by rw [wdCells_size];exact hsz)) (infoWd f) (wdCells_one f) h
theorem wpList_store_ndm {ops : Array Oper} {rest : List Oper} {o : Oper} {a : Act} {w : World} {Q : Exit -> Act -> World -> Prop} (hgd : o.guard = none) (x y : Operand) (ho : o.op = .store 46 x y)
  (sb off : Nat) (n : Nd) (cs : Array Value) (C : Array Value) (t : TypeId) (hx : a.eval x = .pointer (some ⟨sb,off,none⟩)) (hy : a.eval y = .agg cs) (hm : cs = ndCells n) (hb : Blk w sb C t) (hsz : off + 21 <= C.size)
  (h : wpList Tryz.prog ops Q rest (a.put o.dst undef) (w.setCells sb off (ndCells n).toList)) : wpList Tryz.prog ops Q (o :: rest) a w := by
 subst hm
 exact wpList_store_mid hgd 46 x y ho sb off (ndCells n) hx hy (hb.there off _ (by rw [ndCells_size];exact hsz)) (info27 n) (ndCells_one n) h
end Go.Proofs.YtodgfbjjjgohgaaGreat
namespace Go.Proofs.YtodgfbjjjgohgaaGreat
open Go.RowKit
attribute [local go_sem] Oper.semAt_some
set_option linter.unusedVariables false

/-! . -/
theorem u64_rng (x : Int) : 0 <= IntKind.u64.wrap x /\ IntKind.u64.wrap x <= 18446744073709551615 := by
 simp [IntKind.wrap,IntKind.bits,IntKind.signed];omega
def ldW (vw : List Int) (a : Int) : Int := if atE vw.length a = 0 then vw.getD (a / 8).toNat 0 else 0
theorem ldW_u64 {vw : List Int} (h : U64s vw) (a : Int) : 0 <= ldW vw a /\ ldW vw a <= 18446744073709551615 := by
 unfold ldW
 split
 ·by_cases hk : (a / 8).toNat < vw.length
  ·rw [List.getD_eq_getElem?_getD,List.getElem?_eq_getElem hk];exact h _ (List.getElem_mem hk)
  ·rw [List.getD_eq_getElem?_getD,List.getElem?_eq_none (by omega)];decide
 ·decide
def ldN (n : Nat) (a : Int) (lo : Int) : Int := if atE n a = 0 then IntKind.u64.wrap (lo + 1) else lo
def wrdA (a k : Int) : Int := IntKind.u64.wrap (a + 8 * k)
section
variable {w w' : World} {mb : Nat} {S : Nat -> Prop} {vs is : List Int} {mk : Int -> Nat -> Int} {F : Int -> List (Int × Int)} {lo st fl fe : Int}
theorem load_w (h : MemP w mb S vs is mk F lo st fl fe) (a : Int) (h0 : 0 <= a) (h1 : a <= 18446744073709551615) :
  Calls Tryz.prog 52 #[.pointer (some ⟨mb,0,none⟩),.int .u64 a] w fun e w' => e = .returned (.tuple #[.int .u64 (ldW vs a),.int .i64 (atE vs.length a)]) /\ MemP w' mb S vs is mk F (ldN vs.length a lo) st fl fe /\ Keeps S w w' := by
 unfold ldW ldN
 rcases atE_or vs.length a with e | e
 ·rw [e,if_pos rfl,if_pos rfl]
  exact load_m h a h0 h1 e
 ·rw [e,if_neg (by decide),if_neg (by decide)]
  refine (load_no h a h0 h1 e).mono ?_
  rintro e w' ⟨rfl,rfl⟩
  exact ⟨rfl,h,Keeps.refl _ _⟩
end
structure LGp (W0 : World) (mb : Nat) (S : Nat -> Prop) (vs is : List Int) (mk : Int -> Nat -> Int) (F : Int -> List (Int × Int)) (lo st fl fe ad : Int) (j : Nat) (L : Nat -> Bool) (W : World) : Prop where
 n : L j = false -> MemP W mb S vs is mk F lo st fl fe
 y : L j = true -> MemP W mb S vs is mk F (ldN vs.length ad lo) st fl fe
 kp : Keeps S W0 W
section
variable {W0 W W' : World} {mb : Nat} {S : Nat -> Prop} {vs is : List Int} {mk : Int -> Nat -> Int} {F : Int -> List (Int × Int)} {lo st fl fe ad : Int} {j : Nat} {L L' : Nat -> Bool}
theorem LGp.start (h : MemP W0 mb S vs is mk F lo st fl fe) : LGp W0 mb S vs is mk F lo st fl fe ad j (fun _ => false) W0.drew :=
 ⟨fun _ => h.below ((Below.refl _ W0).drew),(by simp),(Keeps.refl _ _).drew⟩
theorem LGp.keep (h : LGp W0 mb S vs is mk F lo st fl fe ad j L W) (e : L' j = L j) : LGp W0 mb S vs is mk F lo st fl fe ad j L' W := ⟨by rw [e];exact h.n,by rw [e];exact h.y,h.kp⟩
theorem LGp.load (h : LGp W0 mb S vs is mk F lo st fl fe ad j L W) (hm : MemP W' mb S vs is mk F (ldN vs.length ad lo) st fl fe) (hk : Keeps S W W') : LGp W0 mb S vs is mk F lo st fl fe ad j (lset L j) W' :=
 ⟨(fun e => by simp [lset] at e),fun _ => hm,h.kp.trans hk⟩
end

/-! . -/
theorem word_v (a : Int) (k : Nat) (hk : k < 24) (w : World) : Calls Tryz.prog 91 #[.int .u64 a,.int .i64 (k : Int)] w fun e w' => e = .returned (.int .u64 (wrdA a k)) /\ w = w' := by
 unfold wrdA
 have h1 : IntKind.i64.wrap (8 * (k : Int)) = 8 * (k : Int) := IntWalk.i64_in _ (by omega)
 have h2 : IntKind.u64.wrap (8 * (k : Int)) = 8 * (k : Int) := IntWalk.u64_in _ (by omega)
 go_enter Tryz.func91,Tryz.ntmps91
 go_wp2_with (fail)
 go_ret
 exact ⟨rfl,rfl⟩
def aftP (k : Nat) (x : Int) : Int := if k = 2 then 4 else if k = 4 then 8 else if k < 2 then (k : Int) + 1 else if k % 2 = 1 /\ (x = 0 ∨ k = 23) then -1 else (k : Int) + 1
theorem after_v (k : Nat) (x : Int) (hk : k < 24) (w : World) : Calls Tryz.prog 94 #[.int .i64 (k : Int),.int .u64 x] w fun e w' => e = .returned (.int .i64 (aftP k x)) /\ w = w' := by
 have hm : (k : Int).tmod 2 = ((k % 2 : Nat) : Int) := by rw [Int.tmod_eq_emod_of_nonneg (by omega)];omega
 have h1 : IntKind.i64.wrap ((k : Int) + 1) = (k : Int) + 1 := IntWalk.i64_in _ (by omega)
 have b1 : ((k : Int) == 2) = decide (k = 2) := by rw [Bool.eq_iff_iff];simp;omega
 have b2 : ((k : Int) == 4) = decide (k = 4) := by rw [Bool.eq_iff_iff];simp;omega
 have b3 : decide ((k : Int) < 2) = decide (k < 2) := by rw [Bool.eq_iff_iff];simp;omega
 have b4 : (((k % 2 : Nat) : Int) == 1) = decide (k % 2 = 1) := by rw [Bool.eq_iff_iff];simp;omega
 have b5 : ((k : Int) == 23) = decide (k = 23) := by rw [Bool.eq_iff_iff];simp;omega
 have HA : aftP k x = aftP k x := rfl
 unfold aftP at HA ⊢
 by_cases c1 : k = 2
 ·subst c1
  go_enter Tryz.func94,Tryz.ntmps94
  go_wp2_with (fail)
  go_ret
  exact ⟨rfl,rfl⟩
 by_cases c2 : k = 4
 ·subst c2
  go_enter Tryz.func94,Tryz.ntmps94
  go_wp2_with (fail)
  go_ret
  exact ⟨rfl,rfl⟩
 rw [decide_eq_false c1] at b1
 rw [decide_eq_false c2] at b2
 rw [if_neg c1,if_neg c2]
 by_cases c3 : k < 2
 ·rw [decide_eq_true c3] at b3
  rw [if_pos c3]
  clear HA
  go_enter Tryz.func94,Tryz.ntmps94
  go_wp2_with (fail)
  go_ret
  exact ⟨rfl,rfl⟩
 rw [decide_eq_false c3] at b3
 rw [if_neg c3]
 by_cases c4 : k % 2 = 1
 ·rw [decide_eq_true c4] at b4
  by_cases c5 : x = 0
  ·subst c5
   rw [if_pos ⟨c4,.inl rfl⟩]
   clear HA
   go_enter Tryz.func94,Tryz.ntmps94
   go_wp2_with (fail)
   go_ret
   exact ⟨rfl,rfl⟩
  ·have b6 : (x == 0) = false := beq_eq_false_iff_ne.2 c5
   by_cases c6 : k = 23
   ·rw [decide_eq_true c6] at b5
    rw [if_pos ⟨c4,.inr c6⟩]
    clear HA
    go_enter Tryz.func94,Tryz.ntmps94
    go_wp2_with (fail)
    go_ret
    exact ⟨rfl,rfl⟩
   ·rw [decide_eq_false c6] at b5
    rw [if_neg (fun h => by rcases h.2 with h | h;exact c5 h;exact c6 h)]
    clear HA
    go_enter Tryz.func94,Tryz.ntmps94
    go_wp2_with (fail)
    go_ret
    exact ⟨rfl,rfl⟩
 ·rw [decide_eq_false c4] at b4
  rw [if_neg (fun h => c4 h.1)]
  clear HA
  go_enter Tryz.func94,Tryz.ntmps94
  go_wp2_with (fail)
  go_ret
  exact ⟨rfl,rfl⟩

/-! . -/
def phV (sb f : Nat) : Value := .func (.func f) #[.pointer (some ⟨sb,0,none⟩)] #[]
def snAnew (sb : Nat) (s : Sn) : Sn := { s with a := fun _ => 0,b := fun _ => 0,has := false,high := 0,k := 0,last := false,step := phV sb 88 }
set_option maxRecDepth 100000 in
theorem anew_v (s : Sn) (sb : Nat) (w : World) (hb : Blk w sb (snCells s) 164) :
  Calls Tryz.prog 82 #[.pointer (some ⟨sb,0,none⟩)] w fun e w' => e = .returned (.tuple #[]) /\ Blk w' sb (snCells (snAnew sb s)) 164 /\ Keeps (fun i => i = sb) w w' := by
 have hb1 := hb.mid (wdList (fun _ => 0)) 4
 rw [sn_putA] at hb1
 have hb2 := hb1.mid (wdList (fun _ => 0)) 28
 rw [sn_putB] at hb2
 have k2 : Keeps (fun i => i = sb) w ((w.setCells sb 4 (wdList (fun _ => 0))).setCells sb 28 (wdList (fun _ => 0))) := keeps_setCells (S := fun i => i = sb) (.inl rfl) _ _ (keeps_setCells (S := fun i => i = sb) (.inl rfl) _ _ (Keeps.refl _ w))
 obtain ⟨s1,hs1⟩ : ∃ s1 : Sn,{ s with a := fun _ => 0 } = s1 := ⟨_,rfl⟩
 obtain ⟨s2,hs2⟩ : ∃ s2 : Sn,{ s1 with b := fun _ => 0 } = s2 := ⟨_,rfl⟩
 have HE := Lib.hid (show snAnew sb s = { s2 with has := false,high := 0,k := 0,last := false,step := phV sb 88 } by rw [<- hs2,<- hs1];rfl)
 rw [hs1] at hb1 hb2
 rw [hs2] at hb2
 have HB := Lib.hid hb
 have HB1 := Lib.hid hb1
 have HB2 := Lib.hid hb2
 have HK2 := Lib.hid k2
 obtain ⟨W2,hW2⟩ : ∃ W2,(w.setCells sb 4 (wdList (fun _ => 0))).setCells sb 28 (wdList (fun _ => 0)) = W2 := ⟨_,rfl⟩
 have HW2 := Lib.hid hW2
 rw [hW2] at HB2 HK2
 have d53 := (HB2.out.cell 53).trans (sn_53 s2)
 have d52 := (HB2.out.cell 52).trans (sn_52 s2)
 have d2 := (HB2.out.cell 2).trans (sn_2 s2)
 have d3 := (HB2.out.cell 3).trans (sn_3 s2)
 have d54 := (HB2.out.cell 54).trans (sn_54 s2)
 have f53 := HB2.out.frozen 53
 have f52 := HB2.out.frozen 52
 have f2 := HB2.out.frozen 2
 have f3 := HB2.out.frozen 3
 have f54 := HB2.out.frozen 54
 clear hb hb1 hb2 k2 hW2 hs1 hs2
 go_enter Tryz.func82,Tryz.ntmps82
 go_upto_region 1 with (first
  | ((with_reducible refine wpList_store_wdm (o := ⟨none,.store 154 (.tmp 9) (.tmp 6),_,_,_,_⟩) ?hg (.tmp 9) (.tmp 6) ?ho sb 4 (fun _ => 0) ?cs (snCells s) 164 ?hx ?hy ?hm ?hb ?hs ?_);(case hg => rfl);(case ho => rfl);(case hx => rfl);(case hy => rfl);(case hm => rfl);(case hb => exact HB.out);(case hs => rw [snCells_size];decide))
  | ((with_reducible refine wpList_store_wdm (o := ⟨none,.store 154 (.tmp 11) (.tmp 7),_,_,_,_⟩) ?hg2 (.tmp 11) (.tmp 7) ?ho2 sb 28 (fun _ => 0) ?cs2 (snCells s1) 164 ?hx2 ?hy2 ?hm2 ?hb2 ?hs2 ?_);(case hg2 => rfl);(case ho2 => rfl);(case hx2 => rfl);(case hy2 => rfl);(case hm2 => rfl);(case hb2 => exact HB1.out);(case hs2 => rw [snCells_size];decide);rw [HW2.out];simp [Act.put]))
 generalize Value.agg #[Value.int IntKind.u64 0,Value.int IntKind.u64 0,Value.int IntKind.u64 0,Value.int IntKind.u64 0,Value.int IntKind.u64 0,Value.int IntKind.u64 0,Value.int IntKind.u64 0,Value.int IntKind.u64 0,Value.int IntKind.u64 0,Value.int IntKind.u64 0,Value.int IntKind.u64 0,Value.int IntKind.u64 0,Value.int IntKind.u64 0,Value.int IntKind.u64 0,Value.int IntKind.u64 0,Value.int IntKind.u64 0,Value.int IntKind.u64 0,Value.int IntKind.u64 0,Value.int IntKind.u64 0,Value.int IntKind.u64 0,Value.int IntKind.u64 0,Value.int IntKind.u64 0,Value.int IntKind.u64 0,Value.int IntKind.u64 0] = zz
 go_upto_region 2 with (fail)
 have b4 := (((HB2.out.set 53 (.bool false)).set 52 (.int .u64 0)).set 2 (.int .i64 0)).set 3 (.bool false)
 have k4 := (((HK2.out.setCell (p := ⟨sb,53,none⟩) (.inl rfl) (.bool false)).setCell (p := ⟨sb,52,none⟩) (.inl rfl) (.int .u64 0)).setCell (p := ⟨sb,2,none⟩) (.inl rfl) (.int .i64 0)).setCell (p := ⟨sb,3,none⟩) (.inl rfl) (.bool false)
 rw [sn_set53,sn_set52,sn_set2,sn_set3] at b4
 have HB4 := Lib.hid b4
 have HK4 := Lib.hid k4
 generalize (((W2.setCell ⟨sb,53,none⟩ (.bool false)).setCell ⟨sb,52,none⟩ (.int .u64 0)).setCell ⟨sb,2,none⟩ (.int .i64 0)).setCell ⟨sb,3,none⟩ (.bool false) = W4 at *
 clear b4 k4 d53 d52 d2 d3 d54 f53 f52 f2 f3 f54
 go_wp2_with ((with_reducible refine wpList_store_cellB (o := ⟨none,.store 61 (.tmp 26) (.tmp 24),_,_,_,_⟩) ?hg 61 (.tmp 26) (.tmp 24) ?ho sb 54 (phV sb 88) ?CC 164 ?hx ?hy ?h1 ?hb ?hs ?hi ?_);(case hg => rfl);(case ho => rfl);(case hx => rfl);(case hy => rfl);(case h1 => rfl);(case hb => exact HB4.out);(case hs => rw [snCells_size];decide);(case hi => exact infoFn))


 go_end0
 have b5 := HB4.out.set 54 (phV sb 88)
 rw [sn_set54] at b5
 rw [HE.out]
 exact ⟨rfl,b5,HK4.out.setCell (p := ⟨sb,54,none⟩) (.inl rfl) _⟩
end Go.Proofs.YtodgfbjjjgohgaaGreat
