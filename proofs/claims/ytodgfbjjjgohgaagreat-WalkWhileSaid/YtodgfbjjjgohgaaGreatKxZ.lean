/-
 A WALK: root,Step: contracts.
-/
import Derived.Test.YtodgfbjjjgohgaaGreatSniZ
import Derived.Deep.DeepCutAuto
import Derived.Test.YtodgfbjjjgohgaaGreatPZ
import Derived.Test.YtodgfbjjjgohgaaGreatSnfZ
import Derived.Test.YtodgfbjjjgohgaaGreatFiZ
namespace Go.Proofs.YtodgfbjjjgohgaaGreat
open Go.RowKit
attribute [local go_sem] Oper.semAt_some
set_option linter.unusedVariables false

structure Wk where
 s : Option Addr
 client : Int
 key : Int
 level : Int
 at_ : Int
 n : Nd
 high : Int
 has : Bool
 low : Int
 tto : Int
 under : Value
 next : Value
 over : Bool
 e : Int
def wkHd (k : Wk) : List Value := [.pointer k.s,.int .i64 k.client,.int .u64 k.key,.int .i64 k.level]
def plList (a : Int) (n : Nd) (high : Int) (has : Bool) : List Value := [Value.int .u64 a] ++ (ndCells n).toList ++ [.int .u64 high,.bool has]
def wkTl (k : Wk) : List Value := [.int .u64 k.low,.int .u64 k.tto,k.under,k.next,.bool k.over,.int .i64 k.e]
def wkList (k : Wk) : List Value := wkHd k ++ plList k.at_ k.n k.high k.has ++ wkTl k
def wkCells (k : Wk) : Array Value := (wkList k).toArray
theorem ndl21 (n : Nd) : (ndCells n).toList.length = 21 := by rw [Array.length_toList];exact ndCells_size n
theorem plList_len (a : Int) (n : Nd) (high : Int) (has : Bool) : (plList a n high has).length = 24 := by simp [plList,ndCells_size]
theorem wkCells_size (k : Wk) : (wkCells k).size = 34 := by simp [wkCells,wkList,wkHd,wkTl,plList_len]
theorem wk_hd (k : Wk) (i : Nat) (h : i < 4) : (wkCells k)[i]? = (wkHd k)[i]? := by
 unfold wkCells wkList
 rw [List.getElem?_toArray,List.append_assoc,List.getElem?_append_left (by simpa [wkHd] using h)]
theorem wk_pl (k : Wk) (i : Nat) (h : i < 24) : (wkCells k)[4 + i]? = (plList k.at_ k.n k.high k.has)[i]? := by
 unfold wkCells wkList
 rw [List.getElem?_toArray,List.append_assoc,List.getElem?_append_right (by simp [wkHd]),List.getElem?_append_left (by rw [plList_len];simp [wkHd];omega)]
 congr 1;simp [wkHd]
theorem wk_tl (k : Wk) (i : Nat) : (wkCells k)[28 + i]? = (wkTl k)[i]? := by
 unfold wkCells wkList
 rw [List.getElem?_toArray,List.getElem?_append_right (by simp [wkHd,plList_len])]
 congr 1;simp [wkHd,plList_len]
theorem wk_n (k : Wk) (j : Nat) (u : Value) (h : (ndCells k.n)[j]? = some u) : (wkCells k)[5 + j]? = some u := by
 have hj : j < 21 := by
  have := (Array.getElem?_eq_some_iff.1 h).1
  rwa [ndCells_size] at this
 rw [show 5 + j = 4 + (1 + j) by omega,wk_pl k (1 + j) (by omega)]
 unfold plList
 rw [List.append_assoc,List.getElem?_append_right (by simp),List.getElem?_append_left (by rw [ndl21];simpa using hj)]
 simpa using h
theorem wk_26 (k : Wk) : (wkCells k)[26]? = some (.int .u64 k.high) := by
 rw [show 26 = 4 + 22 from rfl,wk_pl k 22 (by omega)]
 unfold plList
 rw [List.getElem?_append_right (by simp [ndCells_size])]
 simp [ndCells_size]
theorem wk_27 (k : Wk) : (wkCells k)[27]? = some (.bool k.has) := by
 rw [show 27 = 4 + 23 from rfl,wk_pl k 23 (by omega)]
 unfold plList
 rw [List.getElem?_append_right (by simp [ndCells_size])]
 simp [ndCells_size]
theorem wk_4 (k : Wk) : (wkCells k)[4]? = some (.int .u64 k.at_) := by
 rw [show 4 = 4 + 0 from rfl,wk_pl k 0 (by omega)]
 simp [plList]
theorem wk_set28 (k : Wk) (i : Nat) (u : Value) : (wkCells k).setIfInBounds (28 + i) u = (wkHd k ++ plList k.at_ k.n k.high k.has ++ (wkTl k).set i u).toArray := by
 have e : 28 + i = (wkHd k ++ plList k.at_ k.n k.high k.has).length + i := by simp [wkHd,plList_len]
 rw [e]
 unfold wkCells wkList
 rw [List.setIfInBounds_toArray,List.set_append_right _ _ (by omega),Nat.add_sub_cancel_left]
theorem wk_setLow (k : Wk) (x : Int) : (wkCells k).setIfInBounds 28 (.int .u64 x) = wkCells { k with low := x } := wk_set28 k 0 _
theorem wk_setTo (k : Wk) (x : Int) : (wkCells k).setIfInBounds 29 (.int .u64 x) = wkCells { k with tto := x } := wk_set28 k 1 _
theorem wk_setUnder (k : Wk) (x : Value) : (wkCells k).setIfInBounds 30 x = wkCells { k with under := x } := wk_set28 k 2 _
theorem wk_setNext (k : Wk) (x : Value) : (wkCells k).setIfInBounds 31 x = wkCells { k with next := x } := wk_set28 k 3 _
theorem wk_setOver (k : Wk) (x : Bool) : (wkCells k).setIfInBounds 32 (.bool x) = wkCells { k with over := x } := wk_set28 k 4 _
theorem wk_setE (k : Wk) (x : Int) : (wkCells k).setIfInBounds 33 (.int .i64 x) = wkCells { k with e := x } := wk_set28 k 5 _
theorem wk_putP (k : Wk) (a : Int) (n : Nd) (high : Int) (has : Bool) : putL (wkCells k) 4 (plList a n high has) = wkCells { k with at_ := a,n := n,high := high,has := has } :=
 putL_list (plList a n high has) (wkHd k) (plList k.at_ k.n k.high k.has) (wkTl k) (by rw [plList_len,plList_len])
theorem wk_putN (k : Wk) (n : Nd) : putL (wkCells k) 5 (ndCells n).toList = wkCells { k with n := n } := by
 have e : wkCells k = ((wkHd k ++ [Value.int .u64 k.at_]) ++ (ndCells k.n).toList ++ ([Value.int .u64 k.high,.bool k.has] ++ wkTl k)).toArray := by simp [wkCells,wkList,plList]
 have := putL_list (ndCells n).toList (wkHd k ++ [Value.int .u64 k.at_]) (ndCells k.n).toList ([Value.int .u64 k.high,.bool k.has] ++ wkTl k) (by rw [ndl21,ndl21])
 rw [e]
 rw [show (wkHd k ++ [Value.int .u64 k.at_]).length = 5 by simp [wkHd]] at this
 rw [this]
 simp [wkCells,wkList,plList,wkHd,wkTl]
theorem wk_set26 (k : Wk) (x : Int) : (wkCells k).setIfInBounds 26 (.int .u64 x) = wkCells { k with high := x } := by
 have e : wkCells k = ((wkHd k ++ [Value.int .u64 k.at_] ++ (ndCells k.n).toList) ++ [Value.int .u64 k.high] ++ ([Value.bool k.has] ++ wkTl k)).toArray := by simp [wkCells,wkList,plList]
 rw [e,sn_set _ _ _ (.int .u64 x) (.int .u64 k.high) rfl 26 (by simp [wkHd,ndCells_size])]
 simp [wkCells,wkList,plList,wkHd,wkTl]
theorem wk_set27 (k : Wk) (x : Bool) : (wkCells k).setIfInBounds 27 (.bool x) = wkCells { k with has := x } := by
 have e : wkCells k = ((wkHd k ++ [Value.int .u64 k.at_] ++ (ndCells k.n).toList ++ [Value.int .u64 k.high]) ++ [Value.bool k.has] ++ wkTl k).toArray := by simp [wkCells,wkList,plList]
 rw [e,sn_set _ _ _ (.bool x) (.bool k.has) rfl 27 (by simp [wkHd,ndCells_size])]
 simp [wkCells,wkList,plList,wkHd,wkTl]

/-! . -/
theorem smem_v (w : World) (xb : Nat) (C : Array Value) (mv : Option Addr) (h : Blk w xb C 88) (h0 : C[0]? = some (.pointer mv)) :
  Calls Tryz.prog 14 #[.pointer (some ⟨xb,0,none⟩)] w fun e w' => e = .returned (.pointer mv) /\ w = w' := by
 have c0 : w.cell? ⟨xb,0,none⟩ = some (.pointer mv) := (h.cell 0).trans h0
 clear h
 go_enter Tryz.func14,Tryz.ntmps14
 go_wp2_with (fail)
 go_ret
 exact ⟨rfl,rfl⟩
def wkNew (kb : Nat) (s : Option Addr) (client key level : Int) : Wk :=
 { s := s,client := client,key := key,level := level,at_ := 0,n := nd0,high := 0,has := false,low := 0,tto := 0,under := .nilIface,next := .func (.func 26) #[.pointer (some ⟨kb,0,none⟩)] #[],over := false,e := 0 }
theorem wnew_v (s : Option Addr) (client key level : Int) (w : World) :
  Calls Tryz.prog 10 #[.pointer s,.int .i64 client,.int .u64 key,.int .i64 level] w fun e w' => e = .returned (.pointer (some ⟨w.heap.size,0,none⟩)) /\ Blk w' w.heap.size (wkCells (wkNew w.heap.size s client key level)) 70 /\ Below w.heap.size w w' := by
 have HB := Lib.hid (Blk.new w (wkCells (wkNew w.heap.size s client key level)) 70)
 have HW := Lib.hid ((Below.refl w.heap.size w).alloc (Nat.le_refl _) (.cells (wkCells (wkNew w.heap.size s client key level)) 70))
 go_enter Tryz.func10,Tryz.ntmps10
 go_wp2_with (fail)
 go_ret
 exact ⟨rfl,HB.out,HW.out⟩
/-! . -/
def plC (a : Int) (n : Nd) (high : Int) (has : Bool) : Array Value := (plList a n high has).toArray
theorem infoPl (a : Int) (n : Nd) (high : Int) (has : Bool) : (Tryz.prog.info? 66).map (·.size) = some (plC a n high has).size := by
 have e : (plC a n high has).size = 24 := by simp [plC,plList_len]
 rw [e]
 show (Tryz.prog.info? 66).map (·.size) = some 24
 kernel_rfl
theorem plC_one (a : Int) (n : Nd) (high : Int) (has : Bool) : (plC a n high has).all (·.oneCell') = true := by
 rw [Array.all_eq_true_iff_forall_mem]
 intro v hv
 unfold plC plList at hv
 simp only [List.mem_toArray,List.mem_append,List.mem_cons,List.not_mem_nil,or_false] at hv
 rcases hv with (rfl | hv) | rfl | rfl
 ·rfl
 ·exact (Array.all_eq_true_iff_forall_mem.1 (ndCells_one n)) v (by simpa using hv)
 ·rfl
 ·rfl
theorem wpList_store_pl {ops : Array Oper} {rest : List Oper} {o : Oper} {a : Act} {w : World} {Q : Exit -> Act -> World -> Prop} (hgd : o.guard = none) (x y : Operand) (ho : o.op = .store 66 x y)
  (kb : Nat) (k : Wk) (pa : Int) (n : Nd) (high : Int) (has : Bool) (cs : Array Value) (hx : a.eval x = .pointer (some ⟨kb,4,none⟩)) (hy : a.eval y = .agg cs) (hm : cs = plC pa n high has) (hb : Blk w kb (wkCells k) 70)
  (h : wpList Tryz.prog ops Q rest (a.put o.dst undef) (w.setCells kb 4 (plList pa n high has))) : wpList Tryz.prog ops Q (o :: rest) a w := by
 subst hm
 exact wpList_store_mid hgd 66 x y ho kb 4 (plC pa n high has) hx hy (hb.there 4 _ (by rw [wkCells_size];simp [plC,plList_len])) (infoPl pa n high has) (plC_one pa n high has) h
def wkCome (k : Wk) (kb sb : Nat) (a : Int) : Wk :=
 { k with at_ := a,n := nd0,high := 0,has := false,under := .iface 151 (.pointer (some ⟨sb,0,none⟩)),next := .func (.func 72) #[.pointer (some ⟨kb,0,none⟩)] #[] }
set_option maxRecDepth 100000 in
set_option maxHeartbeats 4000000 in
theorem wcome_v (k : Wk) (kb xb : Nat) (mv : Option Addr) (a : Int) (C : Array Value) (w : World) (hb : Blk w kb (wkCells k) 70) (hs : k.s = some ⟨xb,0,none⟩) (hx : Blk w xb C 88) (h0 : C[0]? = some (.pointer mv)) (hne : xb ≠ kb) :
  Calls Tryz.prog 54 #[.pointer (some ⟨kb,0,none⟩),.int .u64 a] w fun e w' => ∃ sb,e = .returned (.tuple #[]) /\ Blk w' sb (snCells (snNew sb mv a)) 164 /\ w.heap.size <= sb /\ Blk w' kb (wkCells (wkCome k kb sb a)) 70 /\ Keeps (fun i => i = kb) w w' := by
 have HB := Lib.hid hb
 have hbp := Blk.mid (plList a nd0 0 false) 4 hb
 rw [wk_putP] at hbp
 have hkp : Keeps (fun i => i = kb) w (w.setCells kb 4 (plList a nd0 0 false)) := keeps_setCells (S := fun i => i = kb) (.inl rfl) _ 4 (Keeps.refl _ _)
 have hxp := hx.kept hkp hne
 obtain ⟨w1,hw1⟩ : ∃ w1,w.setCells kb 4 (plList a nd0 0 false) = w1 := ⟨_,rfl⟩
 rw [hw1] at hbp hkp hxp
 have HW1 := Lib.hid hw1
 have HBp := Lib.hid hbp
 have HKp := Lib.hid hkp
 have HXp := Lib.hid hxp
 have HMm := Lib.hid (smem_v w1 xb C mv hxp h0)
 have c0 : w1.cell? ⟨kb,0,none⟩ = some (.pointer (some ⟨xb,0,none⟩)) := (hbp.cell 0).trans ((wk_hd _ 0 (by decide)).trans (by simp [wkHd,hs]))
 clear hb hbp hkp hxp hw1 hx h0
 go_enter Tryz.func54,Tryz.ntmps54
 go_upto_region 1 with ((with_reducible refine wpList_store_pl (o := ⟨none,.store 66 (.tmp 8) (.tmp 6),_,_,_,_⟩) ?hgd (.tmp 8) (.tmp 6) ?hod kb k a nd0 0 false ?cs ?hxd ?hyd ?hmd ?hbd ?_);(case hgd => rfl);(case hod => rfl);(case hxd => rfl);(case hyd => rfl);(case hmd => rfl);(case hbd => exact HB.out))
 rw [HW1.out]
 clear HW1 HB
 simp [Act.put]
 go_wp2_with (fail)
 refine HMm.out.mono ?_
 rintro e w2 ⟨rfl,rfl⟩
 go_wp2_with (fail)
 refine (new_v mv a w1).mono ?_
 rintro e w3 ⟨rfl,hsn,hB3⟩
 obtain ⟨sb,hsb⟩ : ∃ sb,w1.heap.size = sb := ⟨_,rfl⟩
 have hlt := HBp.out.lt
 rw [hsb] at hsn ⊢
 have hb3 := HBp.out.below hB3 hlt
 have c30 : w3.cell? ⟨kb,30,none⟩ = some k.under := (hb3.cell 30).trans ((wk_tl _ 2).trans rfl)
 have f30 : w3.frozen? ⟨kb,30,none⟩ = false := hb3.frozen 30
 have c31 : w3.cell? ⟨kb,31,none⟩ = some k.next := (hb3.cell 31).trans ((wk_tl _ 3).trans rfl)
 have f31 : w3.frozen? ⟨kb,31,none⟩ = false := hb3.frozen 31
 have hb5 := (hb3.set 30 (.iface 151 (.pointer (some ⟨sb,0,none⟩)))).set 31 (.func (.func 72) #[.pointer (some ⟨kb,0,none⟩)] #[])
 rw [wk_setUnder,wk_setNext] at hb5
 have HB5 := Lib.hid hb5
 have hne2 : sb ≠ kb := by omega
 have HS5 := Lib.hid ((hsn.other 30 (.iface 151 (.pointer (some ⟨sb,0,none⟩))) hne2).other 31 (.func (.func 72) #[.pointer (some ⟨kb,0,none⟩)] #[]) hne2)
 have HK5 := Lib.hid (((HKp.out.trans ((Keeps.of_below' hB3).mono (fun _ _ h => h.elim))).setCell (p := ⟨kb,30,none⟩) (.inl rfl) (.iface 151 (.pointer (some ⟨sb,0,none⟩)))).setCell (p := ⟨kb,31,none⟩) (.inl rfl) (.func (.func 72) #[.pointer (some ⟨kb,0,none⟩)] #[]))
 have HSz := Lib.hid (show w.heap.size <= sb from by have := HKp.out.size;omega)
 clear hb5 hb3 hsn hB3 hne2 hlt hsb HMm
 go_wp2_with (fail)
 go_end0
 exact ⟨sb,rfl,HS5.out,HSz.out,HB5.out,HK5.out⟩
end Go.Proofs.YtodgfbjjjgohgaaGreat
namespace Go.Proofs.YtodgfbjjjgohgaaGreat
open Go.RowKit
attribute [local go_sem] Oper.semAt_some
set_option linter.unusedVariables false

theorem rootAt_v (w : World) : Calls Tryz.prog 53 #[] w fun e w' => e = .returned (.int .u64 16) /\ w = w' := by
 go_enter Tryz.func53,Tryz.ntmps53
 go_wp2
 go_ret
 exact ⟨rfl,rfl⟩
structure WkW (w : World) (kb xb mb : Nat) (S : Nat -> Prop) (vs : List Int) (st fl fe : Int) (k : Wk) : Prop where
 b : Blk w kb (wkCells k) 70
 s : k.s = some ⟨xb,0,none⟩
 x : ∃ C,Blk w xb C 88 /\ C[0]? = some (.pointer (some ⟨mb,0,none⟩))
 m : ∃ is mk F lo,MemP w mb S vs is mk F lo st fl fe
 ne : xb ≠ kb /\ ¬ S kb /\ ¬ S xb
set_option maxRecDepth 100000 in
set_option maxHeartbeats 4000000 in
theorem wroot_v (w : World) (kb xb mb : Nat) (S : Nat -> Prop) (vs : List Int) (st fl fe : Int) (k : Wk) (h : WkW w kb xb mb S vs st fl fe k) (he : atE vs.length 16 = 0) :
  Calls Tryz.prog 26 #[.pointer (some ⟨kb,0,none⟩)] w fun e w' => ∃ sb,e = .returned (.tuple #[.bool false,.int .i64 0]) /\ WkW w' kb xb mb S vs st fl fe (wkCome k kb sb (ldW vs 16)) /\ Blk w' sb (snCells (snNew sb (some ⟨mb,0,none⟩) (ldW vs 16))) 164 /\ w.heap.size <= sb /\ Keeps (fun i => i = kb ∨ S i) w w' := by
 obtain ⟨C,hx,hC⟩ := h.x
 obtain ⟨is,mk,F,lo,hm⟩ := h.m
 have HH := Lib.hid h
 have HMm := Lib.hid (smem_v w xb C _ hx hC)
 have hl := load_w hm 16 (by decide) (by decide)
 rw [he] at hl
 have HL := Lib.hid hl
 have c0 : w.cell? ⟨kb,0,none⟩ = some (.pointer (some ⟨xb,0,none⟩)) := (h.b.cell 0).trans ((wk_hd _ 0 (by decide)).trans (by simp [wkHd,h.s]))
 have HX := Lib.hid (And.intro hx hC)
 clear h hl he hx hC hm
 go_enter Tryz.func26,Tryz.ntmps26
 go_wp2_with (fail)
 refine HMm.out.mono ?_
 rintro e w1 ⟨rfl,rfl⟩
 go_wp2_with (fail)
 refine (rootAt_v w).mono ?_
 rintro e w1 ⟨rfl,rfl⟩
 go_wp2_with (fail)
 refine HL.out.mono ?_
 rintro e w2 ⟨rfl,hm2,hk2⟩
 have hb2 := HH.out.b.kept hk2 HH.out.ne.2.1
 have hx2 := HX.out.1.kept hk2 HH.out.ne.2.2
 have HC2 := Lib.hid (wcome_v k kb xb (some ⟨mb,0,none⟩) (ldW vs 16) C w2 hb2 HH.out.s hx2 HX.out.2 HH.out.ne.1)
 have HM2 := Lib.hid hm2
 have HK2 := Lib.hid hk2
 have HX2 := Lib.hid hx2
 clear hb2 hx2 hm2 hk2 HL c0
 obtain ⟨r,hr⟩ : ∃ r,ldW vs 16 = r := ⟨_,rfl⟩
 rw [hr] at HC2 ⊢
 go_wp2_with (fail)
 refine HC2.out.mono ?_
 rintro e w3 ⟨sb,rfl,hs3,hsz,hb3,hk3⟩
 have HE := Lib.hid (show WkW w3 kb xb mb S vs st fl fe (wkCome k kb sb r) from ⟨hb3,HH.out.s,⟨C,HX2.out.kept hk3 HH.out.ne.1,HX.out.2⟩,⟨is,mk,F,_,HM2.out.kept hk3 (fun i hi e => HH.out.ne.2.1 (e ▸ hi))⟩,HH.out.ne⟩)
 have HS3 := Lib.hid hs3
 have HSz := Lib.hid (Nat.le_trans HK2.out.size hsz)
 have HK3 := Lib.hid (show Keeps (fun i => i = kb ∨ S i) w w3 from (HK2.out.mono (fun _ _ h => .inr h)).trans (hk3.mono (fun _ _ h => .inl h)))
 clear hs3 hsz hb3 hk3 HM2 HK2 HX2 HC2
 go_wp2_with (fail)
 go_ret2
 subst hr
 exact ⟨sb,rfl,HE.out,HS3.out,HSz.out,HK3.out⟩
/-! . -/
 set_option maxRecDepth 100000 in
 set_option maxHeartbeats 8000000 in
 theorem wgo_root (w : World) (kb xb : Nat) (mv : Addr) (C : Array Value) (k : Wk) {P : Bool -> Int -> Wk -> World -> Prop} (hb : Blk w kb (wkCells k) 70) (hs : k.s = some ⟨xb,0,none⟩) (hx : Blk w xb C 88) (hC : C[0]? = some (.pointer (some mv)))
   (hn : k.next = .func (.func 26) #[.pointer (some ⟨kb,0,none⟩)] #[]) (hov : k.over = false) (hlv : 0 <= k.level /\ k.level <= 15)
   (hcall : Calls Tryz.prog 26 #[.pointer (some ⟨kb,0,none⟩)] w fun e w' => ∃ d er k',e = .returned (.tuple #[.bool d,.int .i64 er]) /\ Blk w' kb (wkCells k') 70 /\ P d er k' w') :
   Calls Tryz.prog 16 #[.pointer (some ⟨kb,0,none⟩)] w fun e w' => ∃ d er k' w2,e = .returned (.tuple #[.bool d,.int .i64 er]) /\ Blk w' kb (wkCells { k' with over := d,e := er }) 70 /\ P d er k' w2 /\ Keeps (fun i => i = kb) w2 w' := by
  have hq1 := nil_eq
  have hq2 := fn_eq 26
  have HMm := Lib.hid (smem_v w xb C _ hx hC)
  have HCl := Lib.hid hcall
  have c0 : w.cell? ⟨kb,0,none⟩ = some (.pointer (some ⟨xb,0,none⟩)) := (hb.cell 0).trans ((wk_hd _ 0 (by decide)).trans (by simp [wkHd,hs]))
  have c3 : w.cell? ⟨kb,3,none⟩ = some (.int .i64 k.level) := (hb.cell 3).trans ((wk_hd _ 3 (by decide)).trans rfl)
  have c31 : w.cell? ⟨kb,31,none⟩ = some (.func (.func 26) #[.pointer (some ⟨kb,0,none⟩)] #[]) := (hb.cell 31).trans ((wk_tl _ 3).trans (by rw [<- hn];rfl))
  have c32 : w.cell? ⟨kb,32,none⟩ = some (.bool false) := (hb.cell 32).trans ((wk_tl _ 4).trans (by rw [<- hov];rfl))
  obtain ⟨l,hl⟩ : ∃ l,k.level = l := ⟨_,rfl⟩
  rw [hl] at c3 hlv
  obtain ⟨b1,b2⟩ := hlv
  clear hb hs hx hC hn hov hcall hl
  go_enter Tryz.func16,Tryz.ntmps16
  go_wp2_with (fail)
  refine HMm.out.mono ?_
  rintro e w1 ⟨rfl,rfl⟩
  go_wp2_with (fail)
  refine HCl.out.mono ?_
  rintro e w2 ⟨d,er,k',rfl,hb2,hP⟩
  have e32 : w2.cell? ⟨kb,32,none⟩ = some (.bool k'.over) := (hb2.cell 32).trans ((wk_tl _ 4).trans rfl)
  have f32 : w2.frozen? ⟨kb,32,none⟩ = false := hb2.frozen 32
  have e33 : w2.cell? ⟨kb,33,none⟩ = some (.int .i64 k'.e) := (hb2.cell 33).trans ((wk_tl _ 5).trans rfl)
  have f33 : w2.frozen? ⟨kb,33,none⟩ = false := hb2.frozen 33
  have hb5 := (hb2.set 32 (.bool d)).set 33 (.int .i64 er)
  rw [wk_setOver,wk_setE] at hb5
  have HB5 := Lib.hid hb5
  have HK5 := Lib.hid (((Keeps.refl (fun i => i = kb) w2).setCell (p := ⟨kb,32,none⟩) (.inl rfl) (.bool d)).setCell (p := ⟨kb,33,none⟩) (.inl rfl) (.int .i64 er))
  have HP := Lib.hid hP
  clear hb2 hb5 hP
  go_wp2_with (fail)
  obtain ⟨w5,hw5⟩ : ∃ w5,(w2.setCell ⟨kb,32,none⟩ (.bool d)).setCell ⟨kb,33,none⟩ (.int .i64 er) = w5 := ⟨_,rfl⟩
  rw [hw5] at HB5 HK5 ⊢
  clear hw5 e32 f32 e33 f33 c0 c3 c31 c32
  refine wp_region_vals [Is (.pointer (some ⟨kb,0,none⟩)),Is (.pointer (some ⟨kb,0,none⟩)),Is (.pointer (some ⟨kb,32,none⟩)),Is (.bool d),Is (.pointer (some ⟨kb,0,none⟩)),Is (.pointer (some ⟨kb,0,none⟩)),Is (.pointer (some ⟨kb,33,none⟩)),Is (.int .i64 er),Is (.bool d),Is (.int .i64 er)]
   (fun _ _ _ => True) (fun _ W => Below w5.heap.size w5 W) (by kernel_rfl) (by kernel_rfl) (by kernel_rfl) ?hst ?h0 ⟨?o0,?o1,?o2,?o3,?o4,?o5,?o6,?o7,?o8,?o9,trivial⟩ ?he
  any_goals (intro L vs A W H hf hd K hK)
  case hst => repeat' (first | exact trivial | refine ⟨fun _ _ _ _ _ _ h _ => h,?_⟩)
  case h0 =>
   exact (Below.refl _ w5).drew
  case o0 => have e0 : A.tmps[0]?.getD undef = .pointer (some ⟨kb,0,none⟩) := H.old 0 (by kernel_rfl);go_simp;exact hK _ _ (trivial) rfl (H.glob)
  case o1 => have e65 := H.iz hd 0 65 rfl rfl rfl (by kernel_rfl);go_simp;exact hK _ _ (trivial) rfl (H.glob)
  case o2 => have e66 := H.iz hd 1 66 rfl rfl rfl (by kernel_rfl);go_simp;exact hK _ _ (trivial) rfl (H.glob)
  case o3 => have e67 := H.iz hd 2 67 rfl rfl rfl (by kernel_rfl);have d0 : W.cell? ⟨kb,32,none⟩ = some (.bool d) := (H.glob.cell (p := ⟨kb,32,none⟩) HB5.out.lt).trans ((HB5.out.cell 32).trans ((wk_tl _ 4).trans rfl));go_simp;exact hK _ _ (trivial) rfl (H.glob)
  case o4 => have e0 : A.tmps[0]?.getD undef = .pointer (some ⟨kb,0,none⟩) := H.old 0 (by kernel_rfl);go_simp;exact hK _ _ (trivial) rfl (H.glob)
  case o5 => have e69 := H.iz hd 4 69 rfl rfl rfl (by kernel_rfl);go_simp;exact hK _ _ (trivial) rfl (H.glob)
  case o6 => have e70 := H.iz hd 5 70 rfl rfl rfl (by kernel_rfl);go_simp;exact hK _ _ (trivial) rfl (H.glob)
  case o7 => have e71 := H.iz hd 6 71 rfl rfl rfl (by kernel_rfl);have d0 : W.cell? ⟨kb,33,none⟩ = some (.int .i64 er) := (H.glob.cell (p := ⟨kb,33,none⟩) HB5.out.lt).trans ((HB5.out.cell 33).trans ((wk_tl _ 5).trans rfl));go_simp;exact hK _ _ (trivial) rfl (H.glob)
  case o8 => have e68 := H.iz hd 3 68 rfl rfl rfl (by kernel_rfl);go_simp;exact hK _ _ (trivial) rfl (H.glob)
  case o9 => have e72 := H.iz hd 7 72 rfl rfl rfl (by kernel_rfl);go_simp;exact hK _ _ (trivial) rfl (H.glob)
  case he =>
   intro vs W hlen hv
   match vs,hlen,hv with
   | [x0_,x1_,x2_,x3_,x4_,x5_,x6_,x7_,x8_,x9_],_,hv =>
   obtain rfl := isv hv 0 rfl rfl;obtain rfl := isv hv 1 rfl rfl;obtain rfl := isv hv 2 rfl rfl;obtain rfl := isv hv 3 rfl rfl;obtain rfl := isv hv 4 rfl rfl;obtain rfl := isv hv 5 rfl rfl;obtain rfl := isv hv 6 rfl rfl;obtain rfl := isv hv 7 rfl rfl;obtain rfl := isv hv 8 rfl rfl;obtain rfl := isv hv 9 rfl rfl
   intro L hall hG
   clear hv hlen
   have HB6 := Lib.hid hG
   clear hG hall
   simp only [fill,if_true]
   simp [Act.put]
   have HBf := Lib.hid (HB5.out.below HB6.out HB5.out.lt)
   have HKf := Lib.hid (HK5.out.trans ((Keeps.of_below' HB6.out).mono (fun _ _ h => h.elim)))
   clear HB5 HK5
   go_wp2_with (fail)
   go_ret2
   exact ⟨d,er,k',w2,rfl,HBf.out,HP.out,HKf.out⟩
 set_option maxRecDepth 100000 in
 set_option maxHeartbeats 8000000 in
 theorem wgo_look (w : World) (kb xb : Nat) (mv : Addr) (C : Array Value) (k : Wk) {P : Bool -> Int -> Wk -> World -> Prop} (hb : Blk w kb (wkCells k) 70) (hs : k.s = some ⟨xb,0,none⟩) (hx : Blk w xb C 88) (hC : C[0]? = some (.pointer (some mv)))
   (hn : k.next = .func (.func 72) #[.pointer (some ⟨kb,0,none⟩)] #[]) (hov : k.over = false) (hlv : 0 <= k.level /\ k.level <= 15)
   (hcall : Calls Tryz.prog 72 #[.pointer (some ⟨kb,0,none⟩)] w fun e w' => ∃ d er k',e = .returned (.tuple #[.bool d,.int .i64 er]) /\ Blk w' kb (wkCells k') 70 /\ P d er k' w') :
   Calls Tryz.prog 16 #[.pointer (some ⟨kb,0,none⟩)] w fun e w' => ∃ d er k' w2,e = .returned (.tuple #[.bool d,.int .i64 er]) /\ Blk w' kb (wkCells { k' with over := d,e := er }) 70 /\ P d er k' w2 /\ Keeps (fun i => i = kb) w2 w' := by
  have hq1 := nil_eq
  have hq2 := fn_eq 72
  have HMm := Lib.hid (smem_v w xb C _ hx hC)
  have HCl := Lib.hid hcall
  have c0 : w.cell? ⟨kb,0,none⟩ = some (.pointer (some ⟨xb,0,none⟩)) := (hb.cell 0).trans ((wk_hd _ 0 (by decide)).trans (by simp [wkHd,hs]))
  have c3 : w.cell? ⟨kb,3,none⟩ = some (.int .i64 k.level) := (hb.cell 3).trans ((wk_hd _ 3 (by decide)).trans rfl)
  have c31 : w.cell? ⟨kb,31,none⟩ = some (.func (.func 72) #[.pointer (some ⟨kb,0,none⟩)] #[]) := (hb.cell 31).trans ((wk_tl _ 3).trans (by rw [<- hn];rfl))
  have c32 : w.cell? ⟨kb,32,none⟩ = some (.bool false) := (hb.cell 32).trans ((wk_tl _ 4).trans (by rw [<- hov];rfl))
  obtain ⟨l,hl⟩ : ∃ l,k.level = l := ⟨_,rfl⟩
  rw [hl] at c3 hlv
  obtain ⟨b1,b2⟩ := hlv
  clear hb hs hx hC hn hov hcall hl
  go_enter Tryz.func16,Tryz.ntmps16
  go_wp2_with (fail)
  refine HMm.out.mono ?_
  rintro e w1 ⟨rfl,rfl⟩
  go_wp2_with (fail)
  refine HCl.out.mono ?_
  rintro e w2 ⟨d,er,k',rfl,hb2,hP⟩
  have e32 : w2.cell? ⟨kb,32,none⟩ = some (.bool k'.over) := (hb2.cell 32).trans ((wk_tl _ 4).trans rfl)
  have f32 : w2.frozen? ⟨kb,32,none⟩ = false := hb2.frozen 32
  have e33 : w2.cell? ⟨kb,33,none⟩ = some (.int .i64 k'.e) := (hb2.cell 33).trans ((wk_tl _ 5).trans rfl)
  have f33 : w2.frozen? ⟨kb,33,none⟩ = false := hb2.frozen 33
  have hb5 := (hb2.set 32 (.bool d)).set 33 (.int .i64 er)
  rw [wk_setOver,wk_setE] at hb5
  have HB5 := Lib.hid hb5
  have HK5 := Lib.hid (((Keeps.refl (fun i => i = kb) w2).setCell (p := ⟨kb,32,none⟩) (.inl rfl) (.bool d)).setCell (p := ⟨kb,33,none⟩) (.inl rfl) (.int .i64 er))
  have HP := Lib.hid hP
  clear hb2 hb5 hP
  go_wp2_with (fail)
  obtain ⟨w5,hw5⟩ : ∃ w5,(w2.setCell ⟨kb,32,none⟩ (.bool d)).setCell ⟨kb,33,none⟩ (.int .i64 er) = w5 := ⟨_,rfl⟩
  rw [hw5] at HB5 HK5 ⊢
  clear hw5 e32 f32 e33 f33 c0 c3 c31 c32
  refine wp_region_vals [Is (.pointer (some ⟨kb,0,none⟩)),Is (.pointer (some ⟨kb,0,none⟩)),Is (.pointer (some ⟨kb,32,none⟩)),Is (.bool d),Is (.pointer (some ⟨kb,0,none⟩)),Is (.pointer (some ⟨kb,0,none⟩)),Is (.pointer (some ⟨kb,33,none⟩)),Is (.int .i64 er),Is (.bool d),Is (.int .i64 er)]
   (fun _ _ _ => True) (fun _ W => Below w5.heap.size w5 W) (by kernel_rfl) (by kernel_rfl) (by kernel_rfl) ?hst ?h0 ⟨?o0,?o1,?o2,?o3,?o4,?o5,?o6,?o7,?o8,?o9,trivial⟩ ?he
  any_goals (intro L vs A W H hf hd K hK)
  case hst => repeat' (first | exact trivial | refine ⟨fun _ _ _ _ _ _ h _ => h,?_⟩)
  case h0 =>
   exact (Below.refl _ w5).drew
  case o0 => have e0 : A.tmps[0]?.getD undef = .pointer (some ⟨kb,0,none⟩) := H.old 0 (by kernel_rfl);go_simp;exact hK _ _ (trivial) rfl (H.glob)
  case o1 => have e65 := H.iz hd 0 65 rfl rfl rfl (by kernel_rfl);go_simp;exact hK _ _ (trivial) rfl (H.glob)
  case o2 => have e66 := H.iz hd 1 66 rfl rfl rfl (by kernel_rfl);go_simp;exact hK _ _ (trivial) rfl (H.glob)
  case o3 => have e67 := H.iz hd 2 67 rfl rfl rfl (by kernel_rfl);have d0 : W.cell? ⟨kb,32,none⟩ = some (.bool d) := (H.glob.cell (p := ⟨kb,32,none⟩) HB5.out.lt).trans ((HB5.out.cell 32).trans ((wk_tl _ 4).trans rfl));go_simp;exact hK _ _ (trivial) rfl (H.glob)
  case o4 => have e0 : A.tmps[0]?.getD undef = .pointer (some ⟨kb,0,none⟩) := H.old 0 (by kernel_rfl);go_simp;exact hK _ _ (trivial) rfl (H.glob)
  case o5 => have e69 := H.iz hd 4 69 rfl rfl rfl (by kernel_rfl);go_simp;exact hK _ _ (trivial) rfl (H.glob)
  case o6 => have e70 := H.iz hd 5 70 rfl rfl rfl (by kernel_rfl);go_simp;exact hK _ _ (trivial) rfl (H.glob)
  case o7 => have e71 := H.iz hd 6 71 rfl rfl rfl (by kernel_rfl);have d0 : W.cell? ⟨kb,33,none⟩ = some (.int .i64 er) := (H.glob.cell (p := ⟨kb,33,none⟩) HB5.out.lt).trans ((HB5.out.cell 33).trans ((wk_tl _ 5).trans rfl));go_simp;exact hK _ _ (trivial) rfl (H.glob)
  case o8 => have e68 := H.iz hd 3 68 rfl rfl rfl (by kernel_rfl);go_simp;exact hK _ _ (trivial) rfl (H.glob)
  case o9 => have e72 := H.iz hd 7 72 rfl rfl rfl (by kernel_rfl);go_simp;exact hK _ _ (trivial) rfl (H.glob)
  case he =>
   intro vs W hlen hv
   match vs,hlen,hv with
   | [x0_,x1_,x2_,x3_,x4_,x5_,x6_,x7_,x8_,x9_],_,hv =>
   obtain rfl := isv hv 0 rfl rfl;obtain rfl := isv hv 1 rfl rfl;obtain rfl := isv hv 2 rfl rfl;obtain rfl := isv hv 3 rfl rfl;obtain rfl := isv hv 4 rfl rfl;obtain rfl := isv hv 5 rfl rfl;obtain rfl := isv hv 6 rfl rfl;obtain rfl := isv hv 7 rfl rfl;obtain rfl := isv hv 8 rfl rfl;obtain rfl := isv hv 9 rfl rfl
   intro L hall hG
   clear hv hlen
   have HB6 := Lib.hid hG
   clear hG hall
   simp only [fill,if_true]
   simp [Act.put]
   have HBf := Lib.hid (HB5.out.below HB6.out HB5.out.lt)
   have HKf := Lib.hid (HK5.out.trans ((Keeps.of_below' HB6.out).mono (fun _ _ h => h.elim)))
   clear HB5 HK5
   go_wp2_with (fail)
   go_ret2
   exact ⟨d,er,k',w2,rfl,HBf.out,HP.out,HKf.out⟩
 set_option maxRecDepth 100000 in
 set_option maxHeartbeats 8000000 in
 theorem wgo_hop (w : World) (kb xb : Nat) (mv : Addr) (C : Array Value) (k : Wk) {P : Bool -> Int -> Wk -> World -> Prop} (hb : Blk w kb (wkCells k) 70) (hs : k.s = some ⟨xb,0,none⟩) (hx : Blk w xb C 88) (hC : C[0]? = some (.pointer (some mv)))
   (hn : k.next = .func (.func 86) #[.pointer (some ⟨kb,0,none⟩)] #[]) (hov : k.over = false) (hlv : 0 <= k.level /\ k.level <= 15)
   (hcall : Calls Tryz.prog 86 #[.pointer (some ⟨kb,0,none⟩)] w fun e w' => ∃ d er k',e = .returned (.tuple #[.bool d,.int .i64 er]) /\ Blk w' kb (wkCells k') 70 /\ P d er k' w') :
   Calls Tryz.prog 16 #[.pointer (some ⟨kb,0,none⟩)] w fun e w' => ∃ d er k' w2,e = .returned (.tuple #[.bool d,.int .i64 er]) /\ Blk w' kb (wkCells { k' with over := d,e := er }) 70 /\ P d er k' w2 /\ Keeps (fun i => i = kb) w2 w' := by
  have hq1 := nil_eq
  have hq2 := fn_eq 86
  have HMm := Lib.hid (smem_v w xb C _ hx hC)
  have HCl := Lib.hid hcall
  have c0 : w.cell? ⟨kb,0,none⟩ = some (.pointer (some ⟨xb,0,none⟩)) := (hb.cell 0).trans ((wk_hd _ 0 (by decide)).trans (by simp [wkHd,hs]))
  have c3 : w.cell? ⟨kb,3,none⟩ = some (.int .i64 k.level) := (hb.cell 3).trans ((wk_hd _ 3 (by decide)).trans rfl)
  have c31 : w.cell? ⟨kb,31,none⟩ = some (.func (.func 86) #[.pointer (some ⟨kb,0,none⟩)] #[]) := (hb.cell 31).trans ((wk_tl _ 3).trans (by rw [<- hn];rfl))
  have c32 : w.cell? ⟨kb,32,none⟩ = some (.bool false) := (hb.cell 32).trans ((wk_tl _ 4).trans (by rw [<- hov];rfl))
  obtain ⟨l,hl⟩ : ∃ l,k.level = l := ⟨_,rfl⟩
  rw [hl] at c3 hlv
  obtain ⟨b1,b2⟩ := hlv
  clear hb hs hx hC hn hov hcall hl
  go_enter Tryz.func16,Tryz.ntmps16
  go_wp2_with (fail)
  refine HMm.out.mono ?_
  rintro e w1 ⟨rfl,rfl⟩
  go_wp2_with (fail)
  refine HCl.out.mono ?_
  rintro e w2 ⟨d,er,k',rfl,hb2,hP⟩
  have e32 : w2.cell? ⟨kb,32,none⟩ = some (.bool k'.over) := (hb2.cell 32).trans ((wk_tl _ 4).trans rfl)
  have f32 : w2.frozen? ⟨kb,32,none⟩ = false := hb2.frozen 32
  have e33 : w2.cell? ⟨kb,33,none⟩ = some (.int .i64 k'.e) := (hb2.cell 33).trans ((wk_tl _ 5).trans rfl)
  have f33 : w2.frozen? ⟨kb,33,none⟩ = false := hb2.frozen 33
  have hb5 := (hb2.set 32 (.bool d)).set 33 (.int .i64 er)
  rw [wk_setOver,wk_setE] at hb5
  have HB5 := Lib.hid hb5
  have HK5 := Lib.hid (((Keeps.refl (fun i => i = kb) w2).setCell (p := ⟨kb,32,none⟩) (.inl rfl) (.bool d)).setCell (p := ⟨kb,33,none⟩) (.inl rfl) (.int .i64 er))
  have HP := Lib.hid hP
  clear hb2 hb5 hP
  go_wp2_with (fail)
  obtain ⟨w5,hw5⟩ : ∃ w5,(w2.setCell ⟨kb,32,none⟩ (.bool d)).setCell ⟨kb,33,none⟩ (.int .i64 er) = w5 := ⟨_,rfl⟩
  rw [hw5] at HB5 HK5 ⊢
  clear hw5 e32 f32 e33 f33 c0 c3 c31 c32
  refine wp_region_vals [Is (.pointer (some ⟨kb,0,none⟩)),Is (.pointer (some ⟨kb,0,none⟩)),Is (.pointer (some ⟨kb,32,none⟩)),Is (.bool d),Is (.pointer (some ⟨kb,0,none⟩)),Is (.pointer (some ⟨kb,0,none⟩)),Is (.pointer (some ⟨kb,33,none⟩)),Is (.int .i64 er),Is (.bool d),Is (.int .i64 er)]
   (fun _ _ _ => True) (fun _ W => Below w5.heap.size w5 W) (by kernel_rfl) (by kernel_rfl) (by kernel_rfl) ?hst ?h0 ⟨?o0,?o1,?o2,?o3,?o4,?o5,?o6,?o7,?o8,?o9,trivial⟩ ?he
  any_goals (intro L vs A W H hf hd K hK)
  case hst => repeat' (first | exact trivial | refine ⟨fun _ _ _ _ _ _ h _ => h,?_⟩)
  case h0 =>
   exact (Below.refl _ w5).drew
  case o0 => have e0 : A.tmps[0]?.getD undef = .pointer (some ⟨kb,0,none⟩) := H.old 0 (by kernel_rfl);go_simp;exact hK _ _ (trivial) rfl (H.glob)
  case o1 => have e65 := H.iz hd 0 65 rfl rfl rfl (by kernel_rfl);go_simp;exact hK _ _ (trivial) rfl (H.glob)
  case o2 => have e66 := H.iz hd 1 66 rfl rfl rfl (by kernel_rfl);go_simp;exact hK _ _ (trivial) rfl (H.glob)
  case o3 => have e67 := H.iz hd 2 67 rfl rfl rfl (by kernel_rfl);have d0 : W.cell? ⟨kb,32,none⟩ = some (.bool d) := (H.glob.cell (p := ⟨kb,32,none⟩) HB5.out.lt).trans ((HB5.out.cell 32).trans ((wk_tl _ 4).trans rfl));go_simp;exact hK _ _ (trivial) rfl (H.glob)
  case o4 => have e0 : A.tmps[0]?.getD undef = .pointer (some ⟨kb,0,none⟩) := H.old 0 (by kernel_rfl);go_simp;exact hK _ _ (trivial) rfl (H.glob)
  case o5 => have e69 := H.iz hd 4 69 rfl rfl rfl (by kernel_rfl);go_simp;exact hK _ _ (trivial) rfl (H.glob)
  case o6 => have e70 := H.iz hd 5 70 rfl rfl rfl (by kernel_rfl);go_simp;exact hK _ _ (trivial) rfl (H.glob)
  case o7 => have e71 := H.iz hd 6 71 rfl rfl rfl (by kernel_rfl);have d0 : W.cell? ⟨kb,33,none⟩ = some (.int .i64 er) := (H.glob.cell (p := ⟨kb,33,none⟩) HB5.out.lt).trans ((HB5.out.cell 33).trans ((wk_tl _ 5).trans rfl));go_simp;exact hK _ _ (trivial) rfl (H.glob)
  case o8 => have e68 := H.iz hd 3 68 rfl rfl rfl (by kernel_rfl);go_simp;exact hK _ _ (trivial) rfl (H.glob)
  case o9 => have e72 := H.iz hd 7 72 rfl rfl rfl (by kernel_rfl);go_simp;exact hK _ _ (trivial) rfl (H.glob)
  case he =>
   intro vs W hlen hv
   match vs,hlen,hv with
   | [x0_,x1_,x2_,x3_,x4_,x5_,x6_,x7_,x8_,x9_],_,hv =>
   obtain rfl := isv hv 0 rfl rfl;obtain rfl := isv hv 1 rfl rfl;obtain rfl := isv hv 2 rfl rfl;obtain rfl := isv hv 3 rfl rfl;obtain rfl := isv hv 4 rfl rfl;obtain rfl := isv hv 5 rfl rfl;obtain rfl := isv hv 6 rfl rfl;obtain rfl := isv hv 7 rfl rfl;obtain rfl := isv hv 8 rfl rfl;obtain rfl := isv hv 9 rfl rfl
   intro L hall hG
   clear hv hlen
   have HB6 := Lib.hid hG
   clear hG hall
   simp only [fill,if_true]
   simp [Act.put]
   have HBf := Lib.hid (HB5.out.below HB6.out HB5.out.lt)
   have HKf := Lib.hid (HK5.out.trans ((Keeps.of_below' HB6.out).mono (fun _ _ h => h.elim)))
   clear HB5 HK5
   go_wp2_with (fail)
   go_ret2
   exact ⟨d,er,k',w2,rfl,HBf.out,HP.out,HKf.out⟩
end Go.Proofs.YtodgfbjjjgohgaaGreat
