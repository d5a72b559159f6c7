/-
 pmem.Mem.Pending: a contract;a walk begins over a memory that was stored to.
-/
import Derived.Test.YtodgfbjjjgohgaaGreatYjZ
import Derived.Test.YtodgfbjjjgohgaaGreatYlZ
namespace Go.Proofs.YtodgfbjjjgohgaaGreat
open Go.RowKit
attribute [local go_sem] Oper.semAt_some
set_option linter.unusedVariables false

/-! . -/
def fromJ (k : Nat -> Int) (len fr : Nat) (key : Int) : Nat -> Nat
 | 0 => fr
 | J + 1 => if J < len /\ k J <= key then fr + J + 1 else fromJ k len fr key J
structure UpQ (x : Nat × Nd) (R : List (Nat × Nd)) (fr : Nat) (key : Int) (s : Nat) : Prop where
 lt : fr < R.length
 fi : ∃ z,R[fr]? = some z /\ x.2.fi = (z.1 : Int)
 en : ∀ j,j < x.2.len -> ∃ z,R[fr + j + 1]? = some z /\ x.2.p j = (z.1 : Int) /\ x.2.p j ≠ 0
 nz : ∀ j,j < 8 -> x.2.len <= j -> x.2.p j = 0
 len : x.2.len <= 8
 fin : fromJ x.2.k x.2.len fr key 8 = s
/-! . -/
theorem run_idx_at (w : World) (g n cap k : Nat) (hk : k < n) : (Instr.indexAt 49 (.slice (some ⟨g,0,none⟩) n cap) (.int .i64 k)).run Tryz.prog w = .ok (.pointer (some ⟨g,k * 22,none⟩)) w := by
 have h1 : (0 : Int) <= k := by omega
 have h2 : (k : Int) < n := by omega
 have hs : (sizeOf (Tryz.prog.elem 49)).run Tryz.prog w = .ok 22 w := by kernel_rfl
 rw [run_indexAt_slice w 49 ⟨g,0,none⟩ n cap .i64 k (by kernel_rfl),if_pos ⟨h1,h2⟩,hs]
 have e : (⟨g,0,none⟩ : Addr).add (k * 22) = ⟨g,k * 22,none⟩ := by unfold Addr.add;split <;> simp_all
 simp only [Result.andThen_ok,Int.toNat_natCast,e]
theorem wpList_idx_at {ops : Array Oper} {rest : List Oper} {o1 o2 : Oper} {a : Act} {w : World} {Q : Exit -> Act -> World -> Prop} (h1 : o1.guard = none) (h2 : o2.guard = none) (x y : Operand) (s : Tmp) (hd : o1.dst = some s)
  (ho1 : o1.op = .indexAddr 49 x y) (ho2 : o2.op = .load 48 (.tmp s)) (g n cap k : Nat) (p : Int) (m : Nd) (hx : a.eval x = .slice (some ⟨g,0,none⟩) n cap) (hy : a.eval y = .int .i64 k) (hk : k < n) (hs : s < a.tmps.size)
  (hc : ∀ j v,(atC p m)[j]? = some v -> w.cell? ⟨g,k * 22 + j,none⟩ = some v) (h : wpList Tryz.prog ops Q rest ((a.put o1.dst (.pointer (some ⟨g,k * 22,none⟩))).put o2.dst (.agg (atC p m))) w) : wpList Tryz.prog ops Q (o1 :: o2 :: rest) a w := by
 refine wpList_plain h1 fun K hK => ?_
 unfold Oper.wp execOp
 simp only [ho1,hx,hy,Sem.run_bind,Sem.run_pure,Result.andThen_ok,run_idx_at w g n cap k hk]
 refine hK _ _ (wpList_load_part h2 48 (.tmp s) ho2 g (k * 22) ?_ (atC p m) _ hc Tryz.underlying48 rfl (infoAt p m) h)
 rw [hd]
 simp [Act.put,Act.eval,hs]
structure UpG (w0 : World) (ub : Nat) (p : Int) (m : Nd) (L : Nat -> Bool) (W : World) : Prop where
 k : Below w0.heap.size w0 W
 n : L 15 = false -> W.heap.size = ub
 b0 : L 15 = true -> L 16 = false -> Blk W ub (atC 0 nd0) 48
 b1 : L 16 = true -> Blk W ub (atC p m) 48
section
variable {w0 W : World} {ub : Nat} {p : Int} {m : Nd} {L L' : Nat -> Bool}
end
end Go.Proofs.YtodgfbjjjgohgaaGreat
namespace Go.Proofs.YtodgfbjjjgohgaaGreat
open Go.RowKit
attribute [local go_sem] Oper.semAt_some
set_option linter.unusedVariables false

theorem start_m {w2 w3 : World} {vsT : Nat -> List Int} {rows : List (List (Nat × Nd))} {Wt : Nat -> Nat -> Nat -> Int} {xb mb kb c : Nat} {S : Nat -> Prop} {key : Int} {level N0 : Nat} {JJ : Nat -> Nat -> (Int -> List (Int × Int)) -> Int -> Prop} {Q0 : Prop} {is : List Int} {mk : Int -> Nat -> Int} {F : Int -> List (Int × Int)} {lo st0 : Int}
  (hx : ∃ C,Blk w2 xb C 88 /\ C[0]? = some (.pointer (some ⟨mb,0,none⟩))) (hm : MemP w2 mb S (vsT 0) is mk F lo st0 0 0) (hn : ¬ S xb) (hkb : w2.heap.size = kb) (hb : Blk w3 kb (wkCells (wkNew kb (some ⟨xb,0,none⟩) c key level)) 70) (hBl : Below w2.heap.size w2 w3) (hJ : JJ (rows.length - 1) 0 F 0) (of st : Nat -> Nat) :
  StG2 rows of st Wt vsT key level c N0 st0 JJ Q0 w3 w3.heap.size w3.heap.size kb xb mb S 0 0 := by
 obtain ⟨C,hx,hC⟩ := hx
 have hxl := hx.lt
 have hkl := hb.lt
 have hsz := hBl.size
 have hSl : ∀ i,S i -> i < w2.heap.size := fun i hi => MemP.lt hm hi
 exact ⟨⟨⟨C,hx.below hBl hxl,hC⟩,⟨hkl,by omega,by omega,fun e => by have := hSl _ e;omega,hn,fun i hi => by have := hSl i hi;omega⟩,Nat.le_refl _,Nat.le_refl _⟩,.inl ⟨S,_,_,_,_,0,0,rfl,hb,⟨MemP.below hm hBl,fun i hi => .inl hi⟩,⟨Int.le_refl _,Int.le_refl _,Int.le_refl _,Int.le_refl _⟩,hJ⟩⟩
end Go.Proofs.YtodgfbjjjgohgaaGreat
