/-
 pmem.Mem.Fence: a contract.
-/
import Derived.Test.YtodgfbjjjgohgaaGreatFlZ
import Derived.Shelf.SlMaps.Clone
import Derived.Maps.RangeWalk
namespace Go.Proofs.YtodgfbjjjgohgaaGreat
open Go.RowKit Go.Maps
set_option linter.unusedVariables false

theorem own_size {w : World} {ml n : Nat} {D : DataW Value} (h : OwnL w ml n D) : Maps.size D <= n := by
 obtain ⟨es,clock,hb,F,hs,rfl⟩ := h
 rw [size_eq,length_sorted]
 simpa using hs
theorem same_u64' (a x : Int) : (Lit.int .u64 a).sameKey (.int .u64 x) = decide (a = x) := by simp [Lit.sameKey]
set_option maxRecDepth 100000 in
theorem mclone_l (w : World) (m k : Nat) (D : DataW Value) (hown : OwnL w m k D) :
  Calls Tryz.prog 129 #[.map (some m)] w fun e w' => e = .returned (.map (some w.heap.size)) /\ OwnL w' w.heap.size k D /\ w'.heap.size = w.heap.size + 1 /\ Below w.heap.size w w' := by
 obtain ⟨es,clock,hb,F,hs,hD⟩ := hown
 have hq := fun w => run_eql_map_nil_sl (P := Tryz.prog) w 90 _ _ (some m) Tryz.underlying90
 have HF := Lib.hid F
 have HD := Lib.hid hD
 have HS := Lib.hid hs
 clear F hD hs
 go_enter Tryz.func129,Tryz.ntmps129
 go_wp2_with (fail)
 rw [run_callFunc_extern Tryz.func131 (by kernel_rfl) (by kernel_rfl) (by kernel_rfl) (e := Extern.MapsClone.clone) (by kernel_rfl),run_maps_clone_sl w 90 hb]
 simp only [Result.andThen]
 rw [Oper.upon_value]
 go_wp2_with (fail)
 rw [run_typeAssert_map_sl _ 90 _ _ _ _ Tryz.underlying90]
 simp only [Result.andThen]
 rw [Oper.upon_value]
 go_wp2_with (fail)
 go_ret
 exact ⟨rfl,⟨es,clock,(MapKept.heap_alloc w _).1,HF.out,HS.out,HD.out⟩,by simp,(Below.refl _ w).alloc (Nat.le_refl _) _⟩

/-! . -/
def lnW (k : Nat) : Int := lineOf (8 * (k : Int))
theorem lastIm_cons (is : List Int) (p : Int × Int) (l : List (Int × Int)) : lastIm is (p :: l) = lastIm (is.set (p.1 / 8).toNat p.2) l := rfl
theorem getD_set_eq (is : List Int) (i k : Nat) (x : Int) : (is.set i x).getD k 0 = if i = k /\ i < is.length then x else is.getD k 0 := by
 simp only [List.getD_eq_getElem?_getD,List.getElem?_set]
 by_cases h : i = k
 ·subst h
  by_cases h2 : i < is.length
  ·simp [h2]
  ·simp [h2]
 ·simp [h]
theorem lastIm_congr (k : Nat) : ∀ (l : List (Int × Int)) (is i2 : List Int),is.length = i2.length -> is.getD k 0 = i2.getD k 0 -> (lastIm is l).getD k 0 = (lastIm i2 l).getD k 0
 | [],_,_,_,h => h
 | p :: l,is,i2,hl,h => by
  rw [lastIm_cons,lastIm_cons]
  refine lastIm_congr k l _ _ (by simpa using hl) ?_
  rw [getD_set_eq,getD_set_eq,hl,h]
theorem lastIm_other (k : Nat) : ∀ (l : List (Int × Int)) (is : List Int),(∀ p ∈ l,(p.1 / 8).toNat ≠ k) -> (lastIm is l).getD k 0 = is.getD k 0
 | [],_,_ => rfl
 | p :: l,is,h => by
  rw [lastIm_cons,lastIm_other k l _ (fun q hq => h q (List.mem_cons_of_mem _ hq)),getD_set_eq,if_neg (fun e => h p (List.mem_cons_self) e.1)]

def LnOk (F : Int -> List (Int × Int)) (n : Nat) : Prop := ∀ a p,p ∈ F a -> lineOf p.1 = a /\ 0 <= p.1 /\ p.1 / 8 < (n : Int)
theorem LnOk.word {F : Int -> List (Int × Int)} {n : Nat} (h : LnOk F n) {a : Int} {p : Int × Int} (hp : p ∈ F a) : lnW (p.1 / 8).toNat = a := by
 obtain ⟨h1,h2,h3⟩ := h a p hp
 unfold lnW
 rw [<- h1]
 unfold lineOf
 omega

section
variable {w w' : World} {N0 mb : Nat} {vs is : List Int} {vv vi : Value} {ml n : Nat} {D : DataW Value} {sl : Int -> Value} {mk : Int -> Nat -> Int} {F : Int -> List (Int × Int)} {lo st fl fe : Int}
theorem MemC.kept {S : Nat -> Prop} (h : MemC w N0 mb vs is vv vi ml n D sl mk F lo st fl fe) (hk : Keeps S w w') (h1 : ∀ i,i < N0 -> ¬ S i) (h2 : ∀ a i,(sl a).ownBlock = some i -> ¬ S i) : MemC w' N0 mb vs is vv vi ml n D sl mk F lo st fl fe :=
 ⟨h.m.kept hk (fun i hi => h1 i (h.lt i (by rcases hi with h | h | h;exact .inl h;exact .inr (.inr (.inl h));exact .inr (.inr (.inr h))))),
  ownL_keeps h.o hk (h1 ml (h.lt ml (.inr (.inl rfl)))),h.e,fun a => (h.r a).keeps hk (fun i hi => h2 a i hi),h.d,h.lt,h.x,h.xv⟩
theorem RowC.isCells {s : Value} {l : List (Int × Int)} (h : RowC w N0 s l) {i : Nat} (hi : s.ownBlock = some i) : ∃ C,w.heap[i]? = some (.cells C 56 (0,0)) := by
 rcases h with h | ⟨g,o,cs,rfl,_,_,hh,_⟩
 ·exact own_type h hi
 ·cases hi;exact ⟨cs,hh⟩
end
theorem rangesL_keeps {S : Nat -> Prop} {w w' : World} {b r n cnt : Nat} {D : DataW Value} {left : Lit -> Bool} (h : w.ranges Tryz.prog 39 RV b r n D left cnt) (hk : Keeps S w w') (hb : ¬ S b) (hr : ¬ S r) : w'.ranges Tryz.prog 39 RV b r n D left cnt := by
 have h1 := h.owns.lt
 have h2 := h.lt
 obtain ⟨es,clock,since,seen,c0,hb',F,hs,hD,hr',rest⟩ := h
 exact ⟨es,clock,since,seen,c0,(hk.block b h1 hb).trans hb',F,hs,hD,(hk.block r h2 hr).trans hr',rest⟩
theorem ranges_notRow {w : World} {N0 b r n cnt : Nat} {D : DataW Value} {left : Lit -> Bool} (h : w.ranges Tryz.prog 39 RV b r n D left cnt) {s : Value} {l : List (Int × Int)} (hr : RowC w N0 s l) : s.ownBlock ≠ some r := by
 intro e
 obtain ⟨C,hC⟩ := hr.isCells e
 obtain ⟨es,clock,since,seen,c0,hb',F,hs,hD,hr',rest⟩ := h
 rw [hr'] at hC;cases hC
section
variable (w : World) {ops : Array Oper} {rest : List Oper} {o : Oper} {a : Act} {Q : Exit -> Act -> World -> Prop}
theorem wpList_next_ln (hg : o.guard = none) (it : Operand) (hop : o.op = Op.next it false) (b r n : Nat) (D : DataW Value) (left : Lit -> Bool) (cnt : Nat) (hit : a.eval it = .pointer (some ⟨r,0,none⟩)) (h : w.ranges Tryz.prog 39 RV b r n D left cnt)
  (hDone : cnt = 0 -> (∀ kl,left kl = false) -> wpList Tryz.prog ops Q rest (a.put o.dst (.tuple #[.bool false])) w)
  (hMore : ∀ (x : Int) (c : Value) (w' : World) (cnt' : Nat),(Lit.int .u64 x).wf = true -> left (.int .u64 x) = true -> (∀ zd,D.atKey (.int .u64 x) zd = .held c) -> w'.ranges Tryz.prog 39 RV b r n D (fun z => left z && !z.sameKey (.int .u64 x)) cnt' -> cnt' < cnt →
   w.grownBy w' (some r) -> w'.heap.size = w.heap.size -> (Instr.entry (.pointer (some ⟨r,0,none⟩))).run Tryz.prog w' = .ok (.tuple #[.int .u64 x,c]) w' -> wpList Tryz.prog ops Q rest (a.put o.dst (.tuple #[.bool true,.int .u64 x,c])) w') :
  wpList Tryz.prog ops Q (o :: rest) a w :=
 wpList_next_ranges w hg it hop 39 kA RV (Value.int .u64) (fun v : Value => v) (fun key kl hkey => by obtain ⟨x,rfl,_⟩ := Maps.keyOf_int_inv Tryz.underlying39 hkey;exact ⟨x,rfl⟩) (fun v y hv => ⟨v,rfl⟩)
  b r n D left cnt hit h hDone (fun x c kl y w' cnt' hkey hlk hv hat hrg hlt hgr hsz hen => by
   obtain ⟨x',ex,rfl,hwx⟩ := Maps.keyOf_int_inv Tryz.underlying39 hkey
   cases ex
   unfold RV at hv
   cases hv
   exact hMore x c w' cnt' hwx hlk hat hrg hlt hgr hsz hen)
end

def FF (F : Int -> List (Int × Int)) (mk : Int -> Nat -> Int) (c : Nat) (a : Int) : List (Int × Int) := (F a).drop (mk a c).toNat
def mkX (F : Int -> List (Int × Int)) (mk : Int -> Nat -> Int) (c : Nat) (a : Int) (i : Nat) : Int := if FF F mk c a = [] then 0 else max (mk a i - min (mk a c) ((F a).length : Int)) 0
def imX (is : List Int) (F : Int -> List (Int × Int)) (mk : Int -> Nat -> Int) (c : Nat) (k : Nat) : Int := (lastIm is ((F (lnW k)).take (mk (lnW k) c).toNat)).getD k 0
structure FenI (w6 : World) (N0 mb : Nat) (vs is : List Int) (vv vi : Value) (ml n : Nat) (D : DataW Value) (sl : Int -> Value) (mk : Int -> Nat -> Int) (F : Int -> List (Int × Int)) (lo st fl fe : Int) (c : Nat) (left : Lit -> Bool) (cnt : Nat) (wr : World)
  (n' : Nat) (D' : DataW Value) (sl' : Int -> Value) (mk' : Int -> Nat -> Int) (F' : Int -> List (Int × Int)) (is' : List Int) : Prop where
 m : MemC wr N0 mb vs is' vv vi ml n' D' sl' mk' F' lo st fl fe
 n : n' + cnt <= 2 * n
 f : ∀ a,F' a = if left (.int .u64 a) = true then F a else FF F mk c a
 l : ∀ a,left (.int .u64 a) = true -> mk' a = mk a
 b : ∀ a i,0 <= mk' a i /\ mk' a i <= mk a i
 k : ∀ a,F a ≠ [] -> left (.int .u64 a) = false -> ∀ i,mk' a i = mkX F mk c a i
 s : is'.length = is.length
 i : ∀ k,is'.getD k 0 = if left (.int .u64 (lnW k)) = true then is.getD k 0 else imX is F mk c k
 o : ∀ a i,(sl' a).ownBlock = some i -> (sl a).ownBlock = some i
 h : ∀ a,Maps.has D' (.int .u64 a) = true -> F' a ≠ []
 p : Keeps (fun i => i = ml ∨ vi.ownBlock = some i ∨ w6.heap.size <= i) w6 wr
theorem FenI.step {w6 w3 w4 : World} {N0 mb : Nat} {vs is : List Int} {vv vi : Value} {ml n : Nat} {D : DataW Value} {sl : Int -> Value} {mk : Int -> Nat -> Int} {F : Int -> List (Int × Int)} {lo st fl fe : Int} {c : Nat} {left : Lit -> Bool} {cnt : Nat}
  {n' : Nat} {D' : DataW Value} {sl' : Int -> Value} {mk' : Int -> Nat -> Int} {F' : Int -> List (Int × Int)} {is' : List Int} (hI : FenI w6 N0 mb vs is vv vi ml n D sl mk F lo st fl fe c left cnt w3 n' D' sl' mk' F' is')
  (hok : LnOk F is.length) (hmk : ∀ a i,0 <= mk a i) {x : Int} (hlk : left (.int .u64 x) = true) {cnt2 : Nat} (hlt : cnt2 < cnt) {e : Ending} (hK : LastK w3 N0 mb vs is' vv vi ml n' D' sl' mk' F' lo st fl fe x (mk x c) e w4) :
  e = .returned (.int .i64 (min (mk x c) ((F x).length : Int))) /\ ∃ n'' D'' sl'' mk'' F'' is'',FenI w6 N0 mb vs is vv vi ml n D sl mk F lo st fl fe c (fun z => left z && !z.sameKey (.int .u64 x)) cnt2 w4 n'' D'' sl'' mk'' F'' is'' := by
 obtain ⟨he,s',f',D'',hm,hf,hk,hs,hh⟩ := hK
 have fx : F' x = F x := by rw [hI.f x,if_pos hlk]
 have mx : mk' x = mk x := hI.l x hlk
 rw [fx] at he hm hf hh
 rw [mx] at hf
 have hL : ∀ a,((left (.int .u64 a) && !(Lit.int .u64 a).sameKey (.int .u64 x)) = true) ↔ (left (.int .u64 a) = true /\ a ≠ x) := fun a => by
  rw [same_u64'];simp
 have hL2 : ∀ a,((left (.int .u64 a) && !(Lit.int .u64 a).sameKey (.int .u64 x)) = false) ↔ (left (.int .u64 a) = false ∨ a = x) := fun a => by
  rw [same_u64'];simp;exact ⟨fun h => by cases hl : left (.int .u64 a);exact .inl rfl;exact .inr (h hl),fun h hl => by rcases h with h | h;rw [h] at hl;cases hl;exact h⟩
 refine ⟨he,n' + 1,D'',_,_,_,_,hm,by have := hI.n;omega,fun a => ?_,fun a ha => ?_,fun a i => ?_,fun a hne ha i => ?_,by rw [lastIm_len];exact hI.s,fun k => ?_,fun a i hi => ?_,fun a ha => ?_,?_⟩
 ·unfold updF
  by_cases e : a = x
  ·subst e
   rw [if_pos rfl,if_neg (fun h => ((hL a).1 h).2 rfl)];rfl
  ·rw [if_neg e,hI.f a]
   by_cases h : left (.int .u64 a) = true
   ·rw [if_pos h,if_pos ((hL a).2 ⟨h,e⟩)]
   ·rw [if_neg h,if_neg (fun h2 => h ((hL a).1 h2).1)]
 ·obtain ⟨h1,h2⟩ := (hL a).1 ha
  simp only [if_neg h2]
  exact hI.l a h1
 ·by_cases e : a = x
  ·subst e
   simp only [if_true]
   rw [hf i]
   have := hmk a i
   have := hmk a c
   split <;> omega
  ·simp only [if_neg e];exact hI.b a i
 ·by_cases e : a = x
  ·subst e
   simp only [if_true]
   rw [hf i];rfl
  ·simp only [if_neg e]
   rcases (hL2 a).1 ha with h | h
   ·exact hI.k a hne h i
   ·exact absurd h e
 ·have hx : ∀ p ∈ (F x).take (mk x c).toNat,lnW (p.1 / 8).toNat = x := fun p hp => hok.word (List.mem_of_mem_take hp)
  by_cases e : lnW k = x
  ·rw [if_neg (fun h => ((hL _).1 h).2 e)]
   unfold imX
   rw [e]
   refine lastIm_congr k _ _ _ hI.s ?_
   rw [hI.i k,e,if_pos hlk]
  ·rw [lastIm_other k _ _ (fun p hp h2 => e (by rw [<- h2];exact hx p hp)),hI.i k]
   by_cases h : left (.int .u64 (lnW k)) = true
   ·rw [if_pos h,if_pos ((hL _).2 ⟨h,e⟩)]
   ·rw [if_neg h,if_neg (fun h2 => h ((hL _).1 h2).1)]
 ·unfold updV at hi
  by_cases e : a = x
  ·rw [if_pos e] at hi
   rw [e]
   exact hI.o x i (hs i hi)
  ·rw [if_neg e] at hi
   exact hI.o a i hi
 ·rw [hh a] at ha
  unfold updF
  by_cases e : a = x
  ·rw [if_pos e] at ha ⊢
   exact of_decide_eq_true ha
  ·rw [if_neg e] at ha ⊢
   exact hI.h a ha
 ·exact hI.p.trans (hk.mono (fun i _ h => by
   rcases h with h | h | h
   ·exact .inl h
   ·exact .inr (.inl h)
   ·exact .inr (.inr (Nat.le_trans hI.p.size h))))
def FenceP (w : World) (N0 mb : Nat) (vs is : List Int) (vv vi : Value) (ml n : Nat) (sl : Int -> Value) (mk : Int -> Nat -> Int) (F : Int -> List (Int × Int)) (lo st fl fe : Int) (c : Nat) (e : Ending) (w' : World) : Prop :=
 e = .returned (.int .i64 0) /\ ∃ n' D' sl' mk' is',n' <= 2 * n /\ MemC w' N0 mb vs is' vv vi ml n' D' sl' mk' (FF F mk c) lo st fl (fe + 1) ∧
  (∀ a i,0 <= mk' a i /\ mk' a i <= mk a i) /\ (∀ a,F a ≠ [] -> ∀ i,mk' a i = mkX F mk c a i) /\ is'.length = is.length /\ (∀ k,is'.getD k 0 = imX is F mk c k) ∧
  (∀ a i,(sl' a).ownBlock = some i -> (sl a).ownBlock = some i) /\ (∀ a,Maps.has D' (.int .u64 a) = true -> FF F mk c a ≠ []) ∧
  Keeps (fun i => i = mb ∨ i = ml ∨ vi.ownBlock = some i) w w'
set_option maxRecDepth 100000 in
set_option maxHeartbeats 40000000 in
theorem mfence_c (w : World) (N0 mb : Nat) (vs is : List Int) (vv vi : Value) (ml n : Nat) (D : DataW Value) (sl : Int -> Value) (mk : Int -> Nat -> Int) (F : Int -> List (Int × Int)) (lo st fl fe : Int)
  (h : MemC w N0 mb vs is vv vi ml n D sl mk F lo st fl fe) (hN0 : N0 <= w.heap.size) (hp : 0 < vs.length) (hni : is.length <= 1000000) (c : Nat) (hc : c <= 64)
  (hs0 : 0 <= fe) (hs1 : fe <= 1000000) (hn : 2 * n <= 1000000) (hF : ∀ a,(F a).length <= 1000000) (hmk : ∀ a i,0 <= mk a i /\ mk a i <= 1000000) (hok : LnOk F is.length) (hhas : ∀ a,Maps.has D (.int .u64 a) = true -> F a ≠ []) :
  Calls Tryz.prog 127 #[.pointer (some ⟨mb,0,none⟩),.int .i64 c] w (FenceP w N0 mb vs is vv vi ml n sl mk F lo st fl fe c) := by
 have HTh := Lib.hid (mthere_v w mb vs is vv vi ml lo st fl fe h.m hp)
 have HCl := Lib.hid (client_v c hc)
 have c6 : w.cell? ⟨mb,6,none⟩ = some (.int .u64 fe) := h.m.c 6
 have fz6 := h.m.blk.frozen 6
 have c2 : w.cell? ⟨mb,2,none⟩ = some (.map (some ml)) := h.m.c 2
 have hst : IntKind.u64.wrap (fe + 1) = fe + 1 := IntWalk.u64_in _ (by omega)
 have HH := Lib.hid h
 have HOk := Lib.hid hok
 have HMk := Lib.hid hmk
 have HFl := Lib.hid hF
 have HHas := Lib.hid hhas
 have hcb : (c : Int) < 65 := by omega
 have hc65 : c < 65 := by omega
 clear h hok hmk hF hhas
 go_enter Tryz.func127,Tryz.ntmps127
 go_wp2_with (fail)
 refine HTh.out.mono ?_
 rintro e w' ⟨rfl,rfl⟩
 go_wp2_with (fail)
 refine (HCl.out w).mono ?_
 rintro e w' ⟨rfl,rfl⟩
 go_wp2_with (fail)
 have k4 : Keeps (fun k => k = mb) w (w.setCell ⟨mb,6,none⟩ (.int .u64 (fe + 1))) := (Keeps.refl (fun k => k = mb) w).setCell (p := ⟨mb,6,none⟩) (.inl rfl) _
 have hm4 : MemB (w.setCell ⟨mb,6,none⟩ (.int .u64 (fe + 1))) mb vs is vv vi ml lo st fl (fe + 1) :=
  ⟨HH.out.m.blk.set 6 (.int .u64 (fe + 1)),ownsRow_setCell_other HH.out.m.v (a := ⟨mb,6,none⟩) HH.out.m.ne.1 (.int .u64 (fe + 1)),ownsRow_setCell_other HH.out.m.i (a := ⟨mb,6,none⟩) HH.out.m.ne.2 (.int .u64 (fe + 1))⟩
 have hmbN := HH.out.lt mb (.inl rfl)
 have hmlN := HH.out.lt ml (.inr (.inl rfl))
 have hM6 : MemC (w.setCell ⟨mb,6,none⟩ (.int .u64 (fe + 1))) N0 mb vs is vv vi ml n D sl mk F lo st fl (fe + 1) :=
  ⟨hm4,ownL_keeps HH.out.o k4 (fun e => HH.out.x.1 e),HH.out.e,fun a => (HH.out.r a).keeps k4 (fun i hi e => by have := (HH.out.r a).base i hi;omega),HH.out.d,HH.out.lt,HH.out.x,HH.out.xv⟩
 have HM6 := Lib.hid hM6
 have HK6 := Lib.hid k4
 have hN6 : N0 <= (w.setCell ⟨mb,6,none⟩ (.int .u64 (fe + 1))).heap.size := Nat.le_trans hN0 k4.size
 generalize w.setCell ⟨mb,6,none⟩ (.int .u64 (fe + 1)) = w6 at *
 clear hm4 k4 c6 fz6 hst c2
 have HMc := Lib.hid (mclone_l w6 ml n D hM6.o)
 clear hM6
 refine HMc.out.mono ?_
 rintro e w1 ⟨rfl,hown,hsz,hB⟩
 have HS1 := Lib.hid (own_size HM6.out.o)
 have HM1 := Lib.hid (HM6.out.kept (Keeps.of_below' hB) (fun _ _ h => h) (fun _ _ _ h => h))
 have HK1 := Lib.hid ((Keeps.of_below' hB).mono (S' := fun i => i = ml ∨ vi.ownBlock = some i ∨ w6.heap.size <= i) (fun _ _ h => h.elim))
 obtain ⟨mc,hmc⟩ : ∃ x,w6.heap.size = x := ⟨_,rfl⟩
 rw [hmc] at hown hsz ⊢
 obtain ⟨ri,hri⟩ : ∃ x,w1.heap.size = x := ⟨_,rfl⟩
 have n5 : mc <= ri := by omega
 have n6 : N0 <= mc := by omega
 have HMcE := Lib.hid hmc
 have HRiE := Lib.hid hri
 clear hB hmc HMc
 go_wp2_with (at_range;refine wpList_range_own _ rfl _ 90 rfl 39 95 kA Tryz.underlying90 _ mc n _ rfl hown ?_;intro w2 hrg hg2 hs2)
 rw [hri] at hrg
 have hk2 := (Keeps.refl NoB w1).grown hg2 (fun _ e => by cases e)
 have HM2 := Lib.hid (HM1.out.kept hk2 (fun _ _ h => h) (fun _ _ _ h => h))
 have HK2 := Lib.hid (HK1.out.trans (hk2.mono (fun _ _ h => h.elim)))
 rw [hri]
 clear hk2 hg2 hs2 hown hri hsz
 go_frame
 have HI0 := Lib.hid (show FenI w6 N0 mb vs is vv vi ml n D sl mk F lo st fl (fe + 1) c (Maps.has D) (Maps.size D) w2 n D sl mk F is from by
  refine ⟨HM2.out,by have := HS1.out;omega,fun a => ?_,fun _ _ => rfl,fun a i => ⟨(HMk.out a i).1,Int.le_refl _⟩,fun a hne ha i => ?_,rfl,fun k => ?_,fun _ _ h => h,HHas.out,HK2.out⟩
  ·cases hh : Maps.has D (.int .u64 a)
   ·rw [if_neg (by simp)]
    unfold FF
    rw [(hasL_none (HM2.out.e a) (HM2.out.r a) hh).1];simp
   ·rw [if_pos rfl]
  ·exact absurd (hasL_none (HM2.out.e a) (HM2.out.r a) ha).1 hne
  ·cases hh : Maps.has D (.int .u64 (lnW k))
   ·rw [if_neg (by simp)]
    unfold imX
    rw [(hasL_none (HM2.out.e _) (HM2.out.r _) hh).1];simp [lastIm]
   ·rw [if_pos rfl])
 clear HM2 HK2 HM1 HK1
 go_loopw [6,7] (fun _ _ wr => ∃ (left : Lit -> Bool) (cnt : Nat),wr.ranges Tryz.prog 39 RV mc ri n D left cnt /\ Hid (∃ n' D' sl' mk' F' is',FenI w6 N0 mb vs is vv vi ml n D sl mk F lo st fl (fe + 1) c left cnt wr n' D' sl' mk' F' is')) (fun _ _ wr => wr.rangeLeft mc ri)
 case atStart => exact ⟨_,_,hrg,Lib.hid ⟨_,_,_,_,_,_,HI0.out⟩⟩
 case round =>
  obtain ⟨left,cnt,hrg,hI⟩ := hrel
  clear HI0
  go_wp2_with (at_next;refine wpList_next_ln _ rfl _ rfl mc ri n _ _ _ rfl hrg ?_ ?_)
  ·intro hc0 hl0
   have HL0 := Lib.hid hl0
   clear hl0
   go_wp2_with (fail)
   go_ret
   obtain ⟨n',D',sl',mk',F',is',hI⟩ := hI.out
   have hFF : F' = FF F mk c := funext (fun a => by rw [hI.f a,if_neg (by rw [HL0.out];simp)])
   rw [hFF] at hI
   refine ⟨rfl,n',D',sl',mk',is',by have := hI.n;omega,hI.m,hI.b,fun a hne => hI.k a hne (HL0.out _),hI.s,fun k => by rw [hI.i k,if_neg (by rw [HL0.out];simp)],hI.o,hI.h,?_⟩
   exact (HK6.out.mono (fun k _ h => .inl h)).trans' hI.p (fun i hi h => by
    rcases h with h | h | h
    ·exact .inr (.inl h)
    ·exact .inr (.inr h)
    ·have := HK6.out.size;omega)
  ·intro x v w2 cnt2 hwx hlk hat hrg2 hlt hg2 hs2 hen
   obtain ⟨n',D',sl',mk',F',is',hI⟩ := hI.out
   have hv : v = .agg (lnCells (sl x) (mk x)) := by
    have h1 := HM6.out.e x
    unfold hasL at h1
    rw [hat] at h1
    exact DataW.held.inj h1
   subst hv
   obtain ⟨s0,hs0⟩ : ∃ s0,sl x = s0 := ⟨_,rfl⟩
   obtain ⟨f0,hf0⟩ : ∃ f0,mk x = f0 := ⟨_,rfl⟩
   rw [hs0,hf0] at hen
   have Hs1 := Lib.hid (show s0.oneCell' = true by rw [<- hs0];exact (HM6.out.r x).one)
   have hk2 := (Keeps.refl (fun i => i = ri) wr).grown hg2 (fun k e => by cases e;exact .inl rfl)
   have hM2 := hI.m.kept hk2 (fun i hi e => by omega) (fun a i hi e => ranges_notRow hrg (hI.m.r a) (by rw [hi,e]))
   have hw0 : 0 <= x /\ x <= 18446744073709551615 := by
    simp [Lit.wf,IntKind.min,IntKind.max,IntKind.signed,IntKind.bits] at hwx;omega
   have hp2 := hI.p.trans (hk2.mono (S' := fun i => i = ml ∨ vi.ownBlock = some i ∨ w6.heap.size <= i) (fun i _ h => .inr (.inr (by rw [h,HMcE.out];exact n5))))
   have HI2 := Lib.hid (show FenI w6 N0 mb vs is vv vi ml n D sl mk F lo st fl (fe + 1) c left cnt w2 n' D' sl' mk' F' is' from ⟨hM2,hI.n,hI.f,hI.l,hI.b,hI.k,hI.s,hI.i,hI.o,hI.h,hp2⟩)
   have hzz : w2.heap.size <= w2.heap.size := Nat.le_refl _
   have HEn := Lib.hid hen
   have HF0 := Lib.hid hf0
   clear hI hM2 hk2 hp2 hwx hat hs2 hg2 hs0 hf0
   go_upto_region 10 with (first | (refine wpList_alloc_ln rfl rfl ?_) | (refine wpList_store_ln rfl _ _ rfl w2.heap.size s0 _ f0 _ Hs1.out rfl rfl (Blk.new w2 _ _) ?_))
   have KX : Keeps NoB w2 ((w2.alloc (.cells (lnCells (.slice none 0 0) (fun _ => 0)) 95)).setRow w2.heap.size (lnCells s0 f0)) := keeps_setRow ((Keeps.refl NoB w2).alloc _) (.inr (Nat.le_refl _)) _
   have BX : Blk ((w2.alloc (.cells (lnCells (.slice none 0 0) (fun _ => 0)) 95)).setRow w2.heap.size (lnCells s0 f0)) w2.heap.size (lnCells s0 f0) 95 := (Blk.new w2 _ _).row _
   obtain ⟨lb,hlb⟩ : ∃ lb,w2.heap.size = lb := ⟨_,rfl⟩
   rw [hlb] at KX BX ⊢
   generalize (w2.alloc (.cells (lnCells (.slice none 0 0) (fun _ => 0)) 95)).setRow lb (lnCells s0 f0) = w3 at *
   have hrg3 := rangesL_keeps hrg2 KX (fun h => h) (fun h => h)
   have d1 : w3.cell? ⟨lb,1 + c,none⟩ = some (.int .i64 (f0 c)) := by rw [BX.cell,lnCells_at _ _ _ hc65]
   have HI3 := Lib.hid (show FenI w6 N0 mb vs is vv vi ml n D sl mk F lo st fl (fe + 1) c left cnt w3 n' D' sl' mk' F' is' from
    ⟨HI2.out.m.kept KX (fun _ _ h => h) (fun _ _ _ h => h),HI2.out.n,HI2.out.f,HI2.out.l,HI2.out.b,HI2.out.k,HI2.out.s,HI2.out.i,HI2.out.o,HI2.out.h,HI2.out.p.trans (KX.mono (fun _ _ h => h.elim))⟩)
   have HLk := Lib.hid hlk
   have HLt := Lib.hid hlt
   have HRg3 := Lib.hid hrg3
   have hN3 : N0 <= w3.heap.size := by have := HI3.out.p.size;omega
   have hmc0 := HMk.out x c
   rw [HF0.out] at hmc0
   have fx : F' x = F x := by rw [HI3.out.f x,if_pos hlk]
   have mx : mk' x = mk x := HI3.out.l x hlk
   have HLs := Lib.hid (mlast_k w3 N0 mb vs is' vv vi ml n' D' sl' mk' F' lo st fl (fe + 1) HI3.out.m hN3 (by rw [HI3.out.s];exact hni) x hw0.1 hw0.2 (f0 c) hmc0.1 (by omega) (by have := HI3.out.n;omega)
    (by rw [fx];exact HFl.out x) (fun i => by rw [mx];exact HMk.out x i) (fun p hp => by rw [fx] at hp;have := HOk.out x p hp;rw [HI3.out.s];exact ⟨this.2.1,this.2.2⟩))
   clear KX BX hlb hrg3 hlk hlt fx mx hmc0
   go_wp2_with (fail)
   refine HLs.out.mono ?_
   intro e w4 hK
   have hkk : Keeps (fun i => i = ml ∨ vi.ownBlock = some i ∨ w3.heap.size <= i) w3 w4 := by obtain ⟨_,_,_,_,_,_,hk,_⟩ := hK;exact hk
   rw [<- HF0.out] at hK
   obtain ⟨rfl,hI4⟩ := HI3.out.step HOk.out (fun a i => (HMk.out a i).1) HLk.out HLt.out hK
   have hviN : ∀ i,vi.ownBlock = some i -> i < N0 := fun i hi => HM6.out.lt i (.inr (.inr (.inr hi)))
   have hrg4 := rangesL_keeps HRg3.out hkk (by rintro (h | h | h);omega;have := hviN _ h;omega;have := HRg3.out.owns.lt;omega) (by rintro (h | h | h);omega;have := hviN _ h;omega;have := HRg3.out.lt;omega)
   have HI4 := Lib.hid hI4
   have HRg4 := Lib.hid hrg4
   clear hI4 hrg4 hkk hK
   go_wp2_with (fail)
   go_roundw
   case rel => exact ⟨_,cnt2,HRg4.out,HI4⟩
   case measure => rw [HRg4.out.left_eq,hrg.left_eq];exact HLt.out
end Go.Proofs.YtodgfbjjjgohgaaGreat
