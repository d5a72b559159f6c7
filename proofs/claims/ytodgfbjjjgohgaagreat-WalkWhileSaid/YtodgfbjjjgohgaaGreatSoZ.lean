/-
 pmem.Mem.Store: a contract;the memory with what is pending.
-/
import Derived.Test.YtodgfbjjjgohgaaGreatRwZ
import Derived.Test.YtodgfbjjjgohgaaGreatFiZ
namespace Go.Proofs.YtodgfbjjjgohgaaGreat
open Go.RowKit Go.Maps
set_option linter.unusedVariables false

structure MemS (w : World) (N0 mb : Nat) (vs is : List Int) (vv vi : Value) (ml n : Nat) (D : DataW Value) (sl : Int -> Value) (mk : Int -> Nat -> Int) (F : Int -> List (Int × Int)) (lo st fl fe : Int) : Prop where
 m : MemB w mb vs is vv vi ml lo st fl fe
 o : OwnL w ml n D
 e : ∀ a,hasL D a (.agg (lnCells (sl a) (mk a)))
 r : ∀ a,w.ownsRow N0 56 2 (sl a) (F a).length (ecells (F a))
 d : ∀ a a' i,a ≠ a' -> (sl a).ownBlock = some i -> (sl a').ownBlock ≠ some i
 lt : ∀ i,i = mb ∨ i = ml ∨ vv.ownBlock = some i ∨ vi.ownBlock = some i -> i < N0
 x : ml ≠ mb /\ vv.ownBlock ≠ some ml /\ vi.ownBlock ≠ some ml
 xv : ∀ i,vv.ownBlock = some i -> vi.ownBlock ≠ some i
def updF (F : Int -> List (Int × Int)) (a0 : Int) (l : List (Int × Int)) : Int -> List (Int × Int) := fun a => if a = a0 then l else F a
def updV (f : Int -> Value) (a0 : Int) (v : Value) : Int -> Value := fun a => if a = a0 then v else f a
theorem own_set {w : World} {base : Nat} {e : TypeId} {n c g : Nat} {xs : List Value} (h : w.ownsRow base e 1 (.slice (some ⟨g,0,none⟩) n c) n xs) (k : Nat) (u : Value) :
  (w.setCell ⟨g,k,none⟩ u).ownsRow base e 1 (.slice (some ⟨g,0,none⟩) n c) n (xs.set k u) := by
 obtain ⟨hl,⟨h0,_⟩ | ⟨g',cap,cur,hv,hb,hh,h1,h2,h3,h4⟩⟩ := h
 ·cases h0
 ·cases hv
  refine ⟨by simpa using hl,.inr ⟨g,c,_,rfl,hb,Blk.set (C := cur) hh k u,h1,h2,by simpa using h3,?_⟩⟩
  rw [<- h4]
  simp [List.take_set]
theorem own_frozen {w : World} {base : Nat} {e : TypeId} {s n c g m : Nat} {xs : List Value} (h : w.ownsRow base e s (.slice (some ⟨g,0,none⟩) n c) m xs) (k : Nat) : w.frozen? ⟨g,k,none⟩ = false := by
 obtain ⟨hl,⟨h0,_⟩ | ⟨g',cap,cur,hv,hb,hh,_⟩⟩ := h
 ·cases h0
 ·cases hv
  exact Blk.frozen (C := cur) hh k
theorem own_ltS {w : World} {B k : Nat} {e : TypeId} {v : Value} {n : Nat} {xs : List Value} (h : w.ownsRow B e k v n xs) {i : Nat} (hi : v.ownBlock = some i) : i < w.heap.size := by
 obtain ⟨C,hC⟩ := own_type h hi
 exact (Array.getElem?_eq_some_iff.1 hC).1
def lineOf (a : Int) : Int := a - a % 64
theorem begin_v (a : Int) (h0 : 0 <= a) (h1 : a <= 18446744073709551615) (w : World) : Calls Tryz.prog 28 #[.int .u64 a] w fun e w' => e = .returned (.int .u64 (lineOf a)) /\ w = w' := by
 have hq : IntKind.u64.wrap (a - a % 64) = lineOf a := IntWalk.u64_in _ (by omega)
 go_enter Tryz.func28,Tryz.ntmps28
 go_wp2
 go_ret
 exact ⟨rfl,rfl⟩
theorem reads_two (w : World) (u v : Value) (t : TypeId) : Reads (w.alloc (.cells #[u,v] t)) (w.heap.size + 1) 2 (some ⟨w.heap.size,0,none⟩) 1 [u,v] :=
 ⟨rfl,fun _ => ⟨_,rfl,Nat.lt_succ_self _,cells_two_new _ _ _ _⟩⟩
def St8 (W7 : World) (ml n : Nat) (D' : DataW Value) (L : Nat -> Bool) (W : World) : Prop := (L 7 = false -> W = W7.drew) /\ (L 7 = true -> OwnL W ml (n + 1) D' /\ W7.drew.grownBy W (some ml))
def St6 (W4 : World) (s0 : Value) (f0 : Nat -> Int) (L : Nat -> Bool) : World :=
 if L 8 then (W4.drew.alloc (.cells (lnCells (.slice none 0 0) (fun _ => 0)) 95)).setRow W4.heap.size (lnCells s0 f0)
 else if L 7 then W4.drew.alloc (.cells (lnCells (.slice none 0 0) (fun _ => 0)) 95) else W4.drew
theorem St6.keeps {S : Nat -> Prop} (W4 : World) (s0 : Value) (f0 : Nat -> Int) (L : Nat -> Bool) : Keeps S W4 (St6 W4 s0 f0 L) := by
 unfold St6
 split
 ·exact keeps_setRow ((Keeps.refl S W4).drew.alloc _) (.inr (Nat.le_refl _)) _
 ·split
  ·exact (Keeps.refl S W4).drew.alloc _
  ·exact (Keeps.refl S W4).drew
theorem ownL_keeps {S : Nat -> Prop} {w w' : World} {ml n : Nat} {D : DataW Value} (h : OwnL w ml n D) (hk : Keeps S w w') (hn : ¬ S ml) : OwnL w' ml n D := by
 obtain ⟨es,c,hb,r⟩ := h
 exact ⟨es,c,(hk.block ml (Array.getElem?_eq_some_iff.1 hb).1 hn).trans hb,r⟩
end Go.Proofs.YtodgfbjjjgohgaaGreat
