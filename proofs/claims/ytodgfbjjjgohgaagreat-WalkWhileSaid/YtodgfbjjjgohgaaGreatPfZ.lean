/-
 pmem.Of: a contract.
-/
import Derived.Test.YtodgfbjjjgohgaaGreatLiftZ
import Derived.Test.YtodgfbjjjgohgaaGreatPmZ
import Derived.Test.YtodgfbjjjgohgaaGreatFiZ
import Derived.Test.YtodgfbjjjgohgaaGreatRdZ
import Derived.Lib.SliceRun
namespace Go.Proofs.YtodgfbjjjgohgaaGreat
open Go.RowKit Go.Shelf
attribute [local go_sem] Oper.semAt_some
set_option linter.unusedVariables false

theorem chunk_calls (mm : Nat) (a : Option Addr) (n c : Nat) (w : World) :
  CallsIn Fence.wide mm Tryz.prog 35 #[.slice a n c,.int .i64 8] w fun e w' => e = .returned (.func (.func 60) #[] #[.pointer (some ⟨w.heap.size,0,none⟩),.pointer (some ⟨w.heap.size + 1,0,none⟩)]) /\ w' = (w.alloc (.cells #[.slice a n c] 28)).alloc (.cells #[.int .i64 8] 3) := by
 refine callsIn_wide.2 ?_
 go_enter Tryz.func35,Tryz.ntmps35
 go_wp2
 go_ret
 exact ⟨by simp,rfl⟩
theorem Blk.put {w w' : World} {row : Option Nat} {b : Nat} {C : Array Value} {t : TypeId} (h : Blk w b C t) (hg : w.grownBy w' row)
  (hr : ∀ r,row = some r -> ∃ o : Obj,w.heap[r]? = some o /\ o.isCells = false) : Blk w' b C t := by
 refine h.grown hg (fun e => ?_)
 obtain ⟨o,ho,hc⟩ := hr b e.symm
 unfold Blk at h
 rw [h] at ho;cases ho;cases hc
theorem own_put {w w' : World} {row : Option Nat} {base : Nat} {e : TypeId} {size : Nat} {v : Value} {n : Nat} {xs : List Value} (h : w.ownsRow base e size v n xs) (hg : w.grownBy w' row)
  (hr : ∀ r,row = some r -> ∃ o : Obj,w.heap[r]? = some o /\ o.isCells = false) : w'.ownsRow base e size v n xs := by
 obtain ⟨hl,h2⟩ := h
 refine ⟨hl,?_⟩
 rcases h2 with h2 | ⟨g,cap,cur,hv,hb,hh,r⟩
 ·exact .inl h2
 ·refine .inr ⟨g,cap,cur,hv,hb,?_,r⟩
  rw [hg.block g (Array.getElem?_eq_some_iff.1 hh).1 (fun e => by
   obtain ⟨o,ho,hc⟩ := hr g e.symm
   rw [hh] at ho;cases ho;cases hc)]
  exact hh
/-! . -/
theorem put_same {a : Act} {s : Nat} {v : Value} (h : s < a.tmps.size) : (a.put (some s) v).tmps[s]?.getD undef = v := by simp [Act.put,h]
theorem put_ne {a : Act} {d : Option Tmp} {s : Nat} {v : Value} (h : d ≠ some s) : (a.put d v).tmps[s]?.getD undef = a.tmps[s]?.getD undef := by
 have := getD_put_ne (a := a) (v := v) h
 simpa only [Array.getD_eq_getD_getElem?] using this
theorem reads_one {w : World} {g B : Nat} {v : Value} (hg : g < B) (h : w.cell? ⟨g,0,none⟩ = some v) : Reads w B 1 (some ⟨g,0,none⟩) 1 [v] :=
 ⟨rfl,fun _ => ⟨_,rfl,hg,fun j u hu => by
  cases j with
  | zero => simp at hu;subst hu;exact h
  | succ j => simp at hu⟩⟩
def memI (ml : Nat) (u : Value) : Array Value := memCells (.slice none 0 0) u ml 0 0 0 0
structure OG (W0 : World) (B mb ml : Nat) (u : Value) (cw : Int) (k : Nat) (xs : List Value) (L : Nat -> Bool) (a : Act) (W : World) : Prop where
 u : L 10 = false -> Blk W mb (memI ml u) 92 /\ (L 7 = false -> W.ownsRow B 25 1 u k xs)
 e6 : L 6 = true -> L 7 = false -> ∃ g,a.tmps[40]?.getD undef = .slice (some ⟨g,0,none⟩) 1 1 /\ g < W.heap.size /\ W.cell? ⟨g,0,none⟩ = some (.int .u64 cw)
 e7 : L 7 = true -> L 10 = false -> ∃ v,a.tmps[41]?.getD undef = v /\ W.ownsRow B 25 1 v (k + 1) (xs ++ [.int .u64 cw])
 e10 : L 10 = true -> ∃ v,Blk W mb (memI ml v) 92 /\ W.ownsRow B 25 1 v (k + 1) (xs ++ [.int .u64 cw])
 kp : Keeps (fun i => i = mb ∨ B <= i) W0 W
 ko : KeepsOthers W0 W
section
variable {W0 W W' : World} {B mb ml k : Nat} {u : Value} {cw : Int} {xs : List Value} {L L' : Nat -> Bool} {a : Act}
theorem OG.start (hb : Blk W0 mb (memI ml u) 92) (ho : W0.ownsRow B 25 1 u k xs) : OG W0 B mb ml u cw k xs (fun _ => false) a W0.drew :=
 ⟨fun _ => ⟨hb.drew,fun _ => ho.drew⟩,(by simp),(by simp),(by simp),(Keeps.refl _ _).drew,KeepsOthers.drew W0⟩
theorem OG.pc (h : OG W0 B mb ml u cw k xs L a W) {pb : Nat} {v : Value} (hp : W0.cell? ⟨pb,0,none⟩ = some v) (hn : pb < W0.heap.size /\ pb ≠ mb /\ pb < B) : W.cell? ⟨pb,0,none⟩ = some v :=
 (h.kp.cell (p := ⟨pb,0,none⟩) hn.1 (fun e => e.elim hn.2.1 (fun x => by have := hn.2.2;simp at x;omega))).trans hp
theorem OG.keep (h : OG W0 B mb ml u cw k xs L a W) {d : Option Tmp} {v : Value} (h6 : L' 6 = L 6) (h7 : L' 7 = L 7) (h10 : L' 10 = L 10) (d0 : d ≠ some 40) (d1 : d ≠ some 41) : OG W0 B mb ml u cw k xs L' (a.put d v) W := by
 refine ⟨?_,?_,?_,?_,h.kp,h.ko⟩ <;> simp only [h6,h7,h10,put_ne d0,put_ne d1]
 ·exact h.u
 ·exact h.e6
 ·exact h.e7
 ·exact h.e10
theorem OG.s6 (h : OG W0 B mb ml u cw k xs L a W) (hf : L 6 = false) (hz : 40 < a.tmps.size) (hB : B <= W0.heap.size) : OG W0 B mb ml u cw k xs (lset L 6) (a.put (some 40) (.slice (some ⟨W.heap.size,0,none⟩) 1 1)) (W.alloc (.cells #[.int .u64 cw] 25)) := by
 refine ⟨?_,?_,?_,?_,h.kp.alloc _,h.ko.trans (KeepsOthers.alloc _ _)⟩ <;> simp only [show lset L 6 7 = L 7 from rfl,show lset L 6 10 = L 10 from rfl,put_same hz,put_ne (show (some 40 : Option Tmp) ≠ some 41 by decide)]
 ·intro p;exact ⟨(h.u p).1.alloc _,fun q => ((h.u p).2 q).alloc _⟩
 ·intro _ _
  exact ⟨_,rfl,by simp,by rw [(Blk.new W #[.int .u64 cw] 25).cell];rfl⟩
 ·intro p q;obtain ⟨v,e,o⟩ := h.e7 p q;exact ⟨v,e,o.alloc _⟩
 ·intro p;obtain ⟨v,e,o⟩ := h.e10 p;exact ⟨v,e.alloc _,o.alloc _⟩
theorem OG.s7 (h : OG W0 B mb ml u cw k xs L a W) (hf : L 7 = false) (n10 : L 10 = false) (hz : 41 < a.tmps.size) {v : Value} (ho : W'.ownsRow B 25 1 v (k + 1) (xs ++ [.int .u64 cw])) (hg : W.grownBy W' u.ownBlock) (hB : B <= W.heap.size) (hm : mb < B) : OG W0 B mb ml u cw k xs (lset L 7) (a.put (some 41) v) W' := by
 have hown := (h.u n10).2 hf
 refine ⟨?_,?_,?_,?_,h.kp.grown hg (fun q e => .inl (.inr (own_base hown q e))),h.ko.trans (KeepsOthers.of_grownBy hg (fun j o e ho2 => by obtain ⟨_,_,_,rfl⟩ := own_cells hown j o e ho2;rfl))⟩ <;> simp only [show lset L 7 6 = L 6 from rfl,show lset L 7 7 = true from rfl,show lset L 7 10 = L 10 from rfl,put_same hz]
 ·intro p;exact ⟨(h.u p).1.grown hg (fun e => by have := own_base hown _ e.symm;omega),fun q => by cases q⟩
 ·intro _ q;cases q
 ·intro _ _;exact ⟨v,rfl,ho⟩
 ·rw [n10];intro q;cases q
theorem OG.s10 (h : OG W0 B mb ml u cw k xs L a W) (hf : L 10 = false) (h7 : L 7 = true) {v : Value} (ho : W.ownsRow B 25 1 v (k + 1) (xs ++ [.int .u64 cw])) (hm : mb < B) {d : Option Tmp} {z : Value} : OG W0 B mb ml u cw k xs (lset L 10) (a.put d z) (W.setCell ⟨mb,1,none⟩ v) := by
 refine ⟨?_,?_,?_,?_,h.kp.setCell (p := ⟨mb,1,none⟩) (.inl (.inl rfl)) _,h.ko.trans (KeepsOthers.setCell _ _ _)⟩ <;> simp only [show lset L 10 7 = L 7 from rfl,show lset L 10 10 = true from rfl,h7]
 ·intro q;cases q
 ·intro _ q;cases q
 ·intro _ q;cases q
 ·intro _
  exact ⟨v,(h.u hf).1.set 1 v,ownsRow_setCell_below ho (a := ⟨mb,1,none⟩) hm v⟩
end
theorem _root_.Go.RowKit.Below.keeps {B : Nat} {S : Nat -> Prop} {w W W' : World} (h : Below B w W) (hB : B <= w.heap.size) (k : Keeps S W W') (hs : ∀ i,S i -> B <= i) : Below B w W' :=
 ⟨k.os.trans h.os,k.tape.trans h.tape,k.output.trans h.output,Nat.le_trans h.size k.size,fun i hi => (k.block i (by have := h.size;omega) (fun x => by have := hs i x;omega)).trans (h.block i hi)⟩
/-! . -/
theorem clone_v (v : Value) (l : List Int) (w : World) (h : w.ownsRow 0 25 1 v l.length (l.map (Value.int .u64))) (hn : l.length <= 1000000) :
  Calls Tryz.prog 36 #[v] w fun e w' => ∃ v',e = .returned v' /\ w'.ownsRow w.heap.size 25 1 v' l.length (l.map (Value.int .u64)) /\ Below w.heap.size w w' := by
 obtain ⟨i0,hi,hz0,hz1,hz2⟩ := info_parts Tryz.info22
 have hq : ∀ (w : World) (a : Option Addr) (n c n' c' : Nat),(binOp .eql 22 (.slice a n c) (.slice none n' c')).run Tryz.prog w = .ok (.bool a.isNone) w := fun w a n c n' c' => Lib.run_eql_slice_nil w _ _ a n c n' c' Tryz.underlying22
 have hr : ∀ a c,v = .slice a l.length c -> Reads w w.heap.size 1 a l.length (l.map (Value.int .u64)) := fun a c e => by subst e;exact Reads.of_own h
 obtain ⟨hl,⟨rfl,h0⟩ | ⟨g,cap,cur,rfl,hb,hg,h1,h2,hsz,ht⟩⟩ := h
 ·have : l = [] := List.eq_nil_of_length_eq_zero h0
  subst this
  go_enter Tryz.func36,Tryz.ntmps36
  go_wp2_with (fail)
  go_ret
  exact ⟨_,rfl,World.ownsRow_nil _ _ _ _,Below.refl _ _⟩
 ·have HR := Lib.hid (hr _ _ rfl)
  clear hr hl hb hg hsz ht
  go_enter Tryz.func36,Tryz.ntmps36
  go_wp2_with (at_builtin;refine wpList_append_own _ rfl _ _ 22 rfl w.heap.size 25 i0 (.int .u64 0) 1 8 Tryz.underlying22 hi hz0 hz1 hz2 rfl (by decide) _ _ _ rfl (World.ownsRow_made w #[] 0 (Nat.le_refl _) (Nat.zero_le _) (by simp)) ⟨g,0,none⟩ l.length cap (l.map (Value.int .u64)) rfl ?qc1 ?qc2 ?qc3 ?qc4 ?qc5 ?qc6 ?_)
  case qc1 => simp
  case qc2 =>
   intro j u hj
   obtain ⟨ad,hA,hb,hcc⟩ := HR.out.2 (by have := (List.getElem?_eq_some_iff.1 hj).1;simp at this;omega)
   cases hA
   have := hcc j u hj
   rw [Addr.add_lit] at this ⊢
   exact Lib.cell?_alloc_some _ this
  case qc3 => exact ints_oneCell .u64 l
  case qc4 => unfold maxLen;omega
  case qc5 => omega
  case qc6 => simp
  intro v' w1 hown hgrow hnil
  obtain ⟨a3,n3,c3,rfl⟩ := own_slice hown
  have HO := Lib.hid hown
  have HB := Lib.hid ((((Below.refl _ w).alloc (Nat.le_refl _) _).grown hgrow (by simp) (by intro k hk;simp [Value.ownBlock] at hk;omega)) : Below w.heap.size w w1)
  clear hown hgrow hnil
  go_wp2_with (fail)
  go_ret
  exact ⟨_,rfl,by simpa using HO.out,HB.out⟩

theorem keeps_belowS {S : Nat -> Prop} {a w : World} (h : Below a.heap.size a w) : Keeps S a w := (Keeps.of_below' h).mono (fun _ _ h => h.elim)
/-! . -/
structure OD (W0 : World) (mb ml : Nat) (u : Value) (l : List Int) (L : Nat -> Bool) (W : World) : Prop where
 un : L 8 = false -> Blk W mb (memI ml u) 92
 e : L 8 = true -> ∃ v,Blk W mb (memCells v u ml 0 0 0 0) 92 /\ W.ownsRow W0.heap.size 25 1 v l.length (l.map (Value.int .u64))
 kp : Keeps (fun i => i = mb) W0 W
section
variable {W0 W W' : World} {mb ml : Nat} {u : Value} {l : List Int} {L L' : Nat -> Bool}
theorem OD.start (hb : Blk W0 mb (memI ml u) 92) : OD W0 mb ml u l (fun _ => false) W0.drew := ⟨fun _ => hb.drew,(by simp),(Keeps.refl _ _).drew⟩
theorem OD.keep (h : OD W0 mb ml u l L W) (h8 : L' 8 = L 8) : OD W0 mb ml u l L' W := ⟨by rw [h8];exact h.un,by rw [h8];exact h.e,h.kp⟩
theorem OD.cloned (h : OD W0 mb ml u l L W) (hf : L 8 = false) (hb : Below W.heap.size W W') (hm : mb < W0.heap.size) : OD W0 mb ml u l (lset L 5) W' := by
 refine ⟨fun _ => ?_,fun e => ?_,h.kp.trans (keeps_belowS hb)⟩
 ·unfold Blk;rw [hb.block mb (by have := h.kp.size;omega)];exact h.un hf
 ·rw [show lset L 5 8 = L 8 from rfl,hf] at e;cases e
theorem OD.s8 (h : OD W0 mb ml u l L W) (hf : L 8 = false) {v : Value} (ho : W.ownsRow W0.heap.size 25 1 v l.length (l.map (Value.int .u64))) (hm : mb < W0.heap.size) : OD W0 mb ml u l (lset L 8) (W.setCell ⟨mb,0,none⟩ v) := by
 refine ⟨(fun e => by cases e),fun _ => ⟨v,(h.un hf).set 0 v,ownsRow_setCell_below ho (a := ⟨mb,0,none⟩) hm v⟩,h.kp.setCell (p := ⟨mb,0,none⟩) (.inl rfl) _⟩
end
/-! . -/
theorem pow256 (k : Nat) : (256 : Nat) ^ k = 2 ^ (8 * k) := by rw [show (256 : Nat) = 2 ^ 8 by decide,<- Nat.pow_mul]
theorem or_high (z : Int) (b : UInt8) (k : Nat) (hk : k < 8) (h0 : 0 <= z) (h1 : z < ((256 ^ k : Nat) : Int)) :
  bits BinOp.or IntKind.u64 z (IntKind.u64.wrap (IntKind.u64.wrap (b.toNat : Int) * 2 ^ (8 * k))) = z + (b.toNat : Int) * ((256 ^ k : Nat) : Int) := by
 obtain ⟨z,rfl⟩ := Int.eq_ofNat_of_zero_le h0
 have hb := u8_lt b
 generalize hbn : b.toNat = bn at hb ⊢
 have hz : z < 256 ^ k := by omega
 have e1 : (2 : Int) ^ (8 * k) = ((256 ^ k : Nat) : Int) := by rw [pow256];push_cast;rfl
 have h7 : 256 ^ k <= 72057594037927936 := by
  have := Nat.pow_le_pow_right (n := 256) (by decide) (show k <= 7 by omega)
  have e : (256 : Nat) ^ 7 = 72057594037927936 := by decide
  omega
 rw [IntWalk.u64_in (bn : Int) (by omega),e1]
 have hs := Nat.shiftLeft_add_eq_or_of_lt (a := bn) (b := z) (i := 8 * k) (by rw [<- pow256];exact hz)
 rw [Nat.shiftLeft_eq,<- pow256] at hs
 generalize 256 ^ k = q at *
 have hm : bn * q <= 255 * q := Nat.mul_le_mul_right q (by omega)
 have e2 : (bn : Int) * (q : Int) = ((bn * q : Nat) : Int) := by push_cast;rfl
 have e3 : IntKind.u64.wrap ((bn : Int) * (q : Int)) = ((bn * q : Nat) : Int) := by rw [e2];exact IntWalk.u64_in _ (by omega)
 rw [e3,e2]
 generalize bn * q = m at *
 rw [u64_or_nat z m (by omega) (by omega),Nat.or_comm,<- hs]
 omega
theorem wd_take_lt (r : List UInt8) (k : Nat) : wd (r.take k) < ((256 ^ k : Nat) : Int) := by
 have h := wd_lt (r.take k)
 have h2 : 256 ^ (r.take k).length <= 256 ^ k := Nat.pow_le_pow_right (n := 256) (by decide) (by rw [List.length_take];omega)
 omega
theorem wd_take_succ : ∀ (r : List UInt8) (k : Nat) (h : k < r.length),wd (r.take (k + 1)) = wd (r.take k) + (r[k].toNat : Int) * ((256 ^ k : Nat) : Int)
 | [],k,h => by simp at h
 | b :: r,0,h => by simp [wd]
 | b :: r,k + 1,h => by
  have ih := wd_take_succ r k (by simpa using h)
  rw [List.take_succ_cons,List.take_succ_cons]
  unfold wd
  rw [ih,List.getElem_cons_succ,Nat.pow_succ,Int.natCast_mul]
  generalize wd (r.take k) = x
  generalize ((256 ^ k : Nat) : Int) = y
  generalize ((r[k]'(by simpa using h)).toNat : Int) = c
  rw [Int.add_mul,Int.mul_assoc]
  show x * 256 + c * (y * 256) + (b.toNat : Int) = x * 256 + (b.toNat : Int) + c * (y * 256)
  omega
def wordAt (L : List UInt8) (n : Nat) (i : Fin n) : Int := chunk L i.val
def wordsB (L : List UInt8) (n : Nat) : List Int := (List.finRange n).map (wordAt L n)
theorem zeroMem (w : World) : (zeroValue 92).run Tryz.prog w = .ok (.agg #[.slice none 0 0,.slice none 0 0,.map none,.int .u64 0,.int .u64 0,.int .u64 0,.int .u64 0]) w := by kernel_rfl
set_option maxRecDepth 100000 in
set_option maxHeartbeats 4000000 in
theorem mof_in (Lb : List UInt8) (n g o c : Nat) (p : Option Addr) (w : World) (hn : n <= 200000) (hl : Lb.length = 8 * n) (hc : 8 * n <= c) (hp : 0 < n -> p = some ⟨g,o,none⟩) (hg : 0 < n -> g < w.heap.size) (hb : BytesAt w g o Lb) (hmay : mayB (8 * n) = true) :
  CallsIn Fence.wide 9 Tryz.prog 23 #[.slice p (8 * n) c] w fun e W' => ∃ vv vi,e = .returned (.tuple #[.pointer (some ⟨w.heap.size + 1,0,none⟩),.int .i64 0]) /\ MemB W' (w.heap.size + 1) (wordsB Lb n) (wordsB Lb n) vv vi w.heap.size 0 0 0 0 /\ (∀ i,vv.ownBlock = some i -> w.heap.size + 5 <= i) /\ (∀ i,vi.ownBlock = some i -> w.heap.size + 5 <= i) /\ (∀ i,vv.ownBlock = some i -> vi.ownBlock ≠ some i) /\ W'.heap[w.heap.size]? = some (.map #[] 0) /\ Below w.heap.size w W' := by
 obtain ⟨i0,hi,hz0,hz1,hz2⟩ := info_parts Tryz.info22
 have HM0 := Lib.hid (mmay_v w (8 * n))
 rw [hmay] at HM0
 obtain ⟨m,hm⟩ : ∃ m,8 * n = m := ⟨_,rfl⟩
 rw [hm] at hl hc HM0 ⊢
 have HM := Lib.hid hm
 have hmm := @run_makeMap Tryz.prog
 have hbb := zeroMem
 refine callsIn_of_wp_marks Tryz.func23 rfl trivial ?_ rfl
 simp only [Tryz.ntmps23,List.size_toArray,List.length_cons,List.length_nil,Nat.reduceAdd,Nat.reduceSub,Array.replicate_succ,Array.replicate_zero,List.push_toArray,List.append_toArray,List.nil_append,List.cons_append]
 have HBy := Lib.hid hb
 have HLl := Lib.hid hl
 clear hb hl hm hmay
 gi_wp2_with (first
  | (refine ⟨trivial,?_⟩;gi_at_call 34;refine (callsIn_wide.2 HM0.out).mono ?_;rintro e w' ⟨rfl,rfl⟩)
  | (refine ⟨trivial,?_⟩;gi_at_call 35;refine (chunk_calls _ _ _ _ _).mono ?_;rintro e w' ⟨rfl,rfl⟩))
 obtain ⟨w5,hw5⟩ : ∃ w5,w5 = (((((w.alloc (.map #[] 0)).alloc (.cells (memI w.heap.size (.slice none 0 0)) 92)).alloc (.cells #[.pointer (some ⟨w.heap.size + 1,0,none⟩)] 53)).alloc (.cells #[.slice p m c] 28)).alloc (.cells #[.int .i64 8] 3)) := ⟨_,rfl⟩
 have B : Below w.heap.size w w5 /\ w5.heap.size = w.heap.size + 5 /\ w5.heap[w.heap.size]? = some (.map #[] 0) /\ Blk w5 (w.heap.size + 1) (memI w.heap.size (.slice none 0 0)) 92 /\ Blk w5 (w.heap.size + 1 + 1) #[.pointer (some ⟨w.heap.size + 1,0,none⟩)] 53 /\ Blk w5 (w.heap.size + 1 + 1 + 1) #[.slice p (8 * n) c] 28 /\ Blk w5 (w.heap.size + 1 + 1 + 1 + 1) #[.int .i64 8] 3 := by
  rw [hw5,HM.out]
  refine ⟨?_,by simp,?_,?_,?_,?_,?_⟩
  ·exact (((((Below.refl _ w).alloc (Nat.le_refl _) _).alloc (by simp) _).alloc (by simp;omega) _).alloc (by simp;omega) _).alloc (by simp;omega) _
  ·rw [Below.heap_alloc _ _ _ (by simp;omega),Below.heap_alloc _ _ _ (by simp;omega),Below.heap_alloc _ _ _ (by simp;omega),Below.heap_alloc _ _ _ (by simp)];unfold World.alloc;simp
  ·have := (((Blk.new (w.alloc (.map #[] 0)) (memI w.heap.size (.slice none 0 0)) 92).alloc (.cells #[.pointer (some ⟨w.heap.size + 1,0,none⟩)] 53)).alloc (.cells #[.slice p m c] 28)).alloc (.cells #[.int .i64 8] 3)
   rwa [show (w.alloc (.map #[] 0)).heap.size = w.heap.size + 1 by simp] at this
  ·have := ((Blk.new ((w.alloc (.map #[] 0)).alloc (.cells (memI w.heap.size (.slice none 0 0)) 92)) #[.pointer (some ⟨w.heap.size + 1,0,none⟩)] 53).alloc (.cells #[.slice p m c] 28)).alloc (.cells #[.int .i64 8] 3)
   rwa [show ((w.alloc (.map #[] 0)).alloc (.cells (memI w.heap.size (.slice none 0 0)) 92)).heap.size = w.heap.size + 1 + 1 by simp] at this
  ·have := (Blk.new (((w.alloc (.map #[] 0)).alloc (.cells (memI w.heap.size (.slice none 0 0)) 92)).alloc (.cells #[.pointer (some ⟨w.heap.size + 1,0,none⟩)] 53)) #[.slice p m c] 28).alloc (.cells #[.int .i64 8] 3)
   rwa [show (((w.alloc (.map #[] 0)).alloc (.cells (memI w.heap.size (.slice none 0 0)) 92)).alloc (.cells #[.pointer (some ⟨w.heap.size + 1,0,none⟩)] 53)).heap.size = w.heap.size + 1 + 1 + 1 by simp] at this
  ·have := Blk.new ((((w.alloc (.map #[] 0)).alloc (.cells (memI w.heap.size (.slice none 0 0)) 92)).alloc (.cells #[.pointer (some ⟨w.heap.size + 1,0,none⟩)] 53)).alloc (.cells #[.slice p m c] 28)) #[.int .i64 8] 3
   rwa [show ((((w.alloc (.map #[] 0)).alloc (.cells (memI w.heap.size (.slice none 0 0)) 92)).alloc (.cells #[.pointer (some ⟨w.heap.size + 1,0,none⟩)] 53)).alloc (.cells #[.slice p m c] 28)).heap.size = w.heap.size + 1 + 1 + 1 + 1 by simp] at this
 have hw5' := hw5
 simp only [memI,memCells] at hw5'
 rw [<- hw5']
 clear hw5' hw5
 obtain ⟨hB0,hs5,hm5,k5,p5,b5,d5⟩ := B
 refine wpIn_rangeFunc_ownF rfl (by omega) (gf := 60) (lb := #[.pointer (some ⟨w.heap.size + 1 + 1 + 1,0,none⟩),.pointer (some ⟨w.heap.size + 1 + 1 + 1 + 1,0,none⟩)]) (by simp [Act.eval]) trivial (enters_of Tryz.func60 (by kernel_rfl) rfl)
  (chunk_stops 8 (by omega) n g o c (w.heap.size + 1 + 1 + 1) p hp w5 hn (by rw [HM.out];exact hc) b5 d5) kpC_t (kpC_b (by omega)) (Below.refl _ _) (fun _ => rfl)
  (fun pre W => (∃ u,Blk W (w.heap.size + 1) (memI w.heap.size u) 92 /\ W.ownsRow (w.heap.size + 5) 25 1 u pre.length ((pre.map (wordAt Lb n)).map (Value.int .u64))) /\ Blk W (w.heap.size + 1 + 1) #[.pointer (some ⟨w.heap.size + 1,0,none⟩)] 53 /\ W.heap[w.heap.size]? = some (.map #[] 0) /\ w.heap.size + 5 <= W.heap.size /\ Below w.heap.size w W)
  (fun _ _ _ => False)
  (fun s A B row hs hg hr => by
   obtain ⟨⟨u,h1,h2⟩,hp,hmm,h3,h4⟩ := hs
   refine ⟨⟨u,h1.put hg (fun r e => (hr r e).2),own_put h2 hg (fun r e => (hr r e).2)⟩,hp.put hg (fun r e => (hr r e).2),?_,Nat.le_trans h3 hg.size,h4.grown hg h4.size (fun r e => by have := (hr r e).1;omega)⟩
   rw [hg.block _ (by omega) (fun e => by have := (hr _ e.symm).1;omega)];exact hmm)
  (fun _ _ _ _ _ hs _ _ => hs)
  ⟨⟨_,k5,World.ownsRow_nil _ _ _ _⟩,p5,hm5,by omega,hB0⟩
  (fun x => { tmps := #[.slice p m c,undef,.pointer none,.int .i64 0,.pointer (some ⟨w.heap.size + 1 + 1,0,none⟩),.slice (some ⟨g,o + 8 * x.val,none⟩) 8 8,undef,undef,.slice p m c,.int .i64 m,.bool true,.bool false,.map (some w.heap.size),.agg #[.slice none 0 0,.slice none 0 0,.map (some w.heap.size),.int .u64 0,.int .u64 0,.int .u64 0,.int .u64 0],.pointer (some ⟨w.heap.size + 1,0,none⟩),.slice p m c,.func (.func 60) #[] #[.pointer (some ⟨w.heap.size + 1 + 1 + 1,0,none⟩),.pointer (some ⟨w.heap.size + 1 + 1 + 1 + 1,0,none⟩)],.slice (some ⟨g,o + 8 * x.val,none⟩) 8 8,undef,undef,undef,undef,undef,undef,undef,undef,undef,undef,undef,undef,undef,undef,undef,undef,undef,undef,undef,undef,undef,undef,undef,undef,undef,undef,undef,undef,undef,undef,undef,undef,undef,undef,undef],defers := [] }) ?assign ?body ?done ?stop
 case assign =>
  intro l x W K hK
  simp [encC]
  gi_wp2
  exact hK
 case body =>
  rintro l2 pre x W ⟨⟨u,hk,hown⟩,hp,hmp,hs,hB⟩ hlen
  have hxn := x.isLt
  obtain ⟨r,hr⟩ : ∃ r,(Lb.drop (8 * x.val)).take 8 = r := ⟨_,rfl⟩
  have h8 : r.length = 8 := by rw [<- hr,List.length_take,List.length_drop,HLl.out,<- HM.out];omega
  have HC := Lib.hid (show ∀ W' : World,Below w.heap.size w W' -> ∀ i,(h : i < r.length) -> W'.cell? ⟨g,o + 8 * x.val + i,none⟩ = some (.int .u8 (r[i].toNat : Int)) from fun W' hB' i hi => by
   have hlt : 8 * x.val + i < Lb.length := by rw [HLl.out,<- HM.out];omega
   have := HBy.out (8 * x.val + i) hlt
   rw [Nat.add_assoc,show W'.cell? ⟨g,o + (8 * x.val + i),none⟩ = w.cell? ⟨g,o + (8 * x.val + i),none⟩ from hB'.cell (p := ⟨g,o + (8 * x.val + i),none⟩) (hg (by omega)),this]
   subst hr
   simp)
  have HR := Lib.hid hr
  clear hr
  gi_wp2
  gi_loop [6,20] (fun wv iv => ∃ k : Nat,k <= 8 /\ iv = .int .i64 k /\ wv = .int .u64 (wd (r.take k))) (fun _ iv => 8 - (intOf iv).toNat)
  case atStart => exact ⟨0,by omega,rfl,by simp [wd]⟩
  case round =>
   obtain ⟨k,hk8,rfl,rfl⟩ := hrel
   by_cases hlt : k < 8
   ·have hcc := HC.out W hB k (by omega)
    obtain ⟨z,hz⟩ : ∃ z,wd (r.take k) = z := ⟨_,rfl⟩
    obtain ⟨bb,hbb⟩ : ∃ bb : UInt8,r[k]'(by omega) = bb := ⟨_,rfl⟩
    rw [hbb] at hcc
    have HZ := Lib.hid hz
    have HBB := Lib.hid hbb
    rw [hz]
    clear hz hbb
    gi_wp2
    go_round
    case rel => exact ⟨k + 1,by omega,by go_num,by rw [or_high z bb k hlt (by rw [<- HZ.out];exact wd_nonneg _) (by rw [<- HZ.out];exact wd_take_lt r k),wd_take_succ r k (by omega),HZ.out,HBB.out]⟩
    case measure => simp [intOf];omega
   ·have hk2 : k = 8 := by omega
    subst hk2
    rw [List.take_of_length_le (by omega)]
    obtain ⟨pb,hpb⟩ : ∃ pb,pb = w.heap.size + 1 + 1 := ⟨_,rfl⟩
    obtain ⟨mb,hmb⟩ : ∃ mb,mb = w.heap.size + 1 := ⟨_,rfl⟩
    obtain ⟨ml,hml⟩ : ∃ ml,ml = w.heap.size := ⟨_,rfl⟩
    obtain ⟨B,hBB⟩ : ∃ B,B = w.heap.size + 5 := ⟨_,rfl⟩
    obtain ⟨k,hkk⟩ : ∃ k,k = pre.length := ⟨_,rfl⟩
    obtain ⟨xs,hxs⟩ : ∃ xs,xs = (pre.map (wordAt Lb n)).map (Value.int .u64) := ⟨_,rfl⟩
    obtain ⟨cw,hcw⟩ : ∃ cw,cw = wd r := ⟨_,rfl⟩
    have HBk := Lib.hid (show Blk W mb (memI ml u) 92 by rw [hmb,hml];exact hk)
    have HOw := Lib.hid (show W.ownsRow B 25 1 u k xs by rw [hBB,hkk,hxs];exact hown)
    have HPb := Lib.hid (show W.cell? ⟨pb,0,none⟩ = some (.pointer (some ⟨mb,0,none⟩)) by rw [hpb,hmb,hp.cell];rfl)
    have HPn := Lib.hid (show pb < W.heap.size /\ pb ≠ mb /\ pb < B by omega)
    have HBs := Lib.hid (show B <= W.heap.size by omega)
    have HkB := Lib.hid (show k < 200000 by omega)
    have HmB := Lib.hid (show mb < B by omega)
    have HX := Lib.hid (show B = w.heap.size + 5 /\ mb = w.heap.size + 1 /\ pb = w.heap.size + 1 + 1 /\ ml = w.heap.size /\ k = pre.length by omega)
    have Hxs := Lib.hid hxs
    have Hcw := Lib.hid hcw
    have HP := Lib.hid hp
    have HM2 := Lib.hid hmp
    have HB2 := Lib.hid hB
    rw [<- hcw,<- hpb]
    clear hxs hcw hkk hBB hml hmb hpb hk hown hp hmp hB hs
    obtain ⟨W0,rfl⟩ : ∃ y,y = W := ⟨_,rfl⟩
    gi_wp2
    refine wpIn_region_valsA [Is (.pointer (some ⟨mb,0,none⟩)),Is (.pointer (some ⟨mb,0,none⟩)),Is (.pointer (some ⟨mb,0,none⟩)),Is (.pointer (some ⟨mb,1,none⟩)),Is u,Is (.int .u64 cw),Any,Any,Is (.pointer (some ⟨mb,0,none⟩)),Is (.pointer (some ⟨mb,1,none⟩)),Any]
     (fun _ _ _ => True) (fun L a W => OG W0 B mb ml u cw k xs L a W) (by kernel_rfl) (by kernel_rfl) (by kernel_rfl) (by kernel_rfl) (by kernel_rfl) ?hst ?h0 ⟨?o0,?o1,?o2,?o3,?o4,?o5,?o6,?o7,?o8,?o9,?o10,trivial⟩ ?he
    any_goals (intro L vs A W H hf hd K hK)
    case hst =>
     exact ⟨(fun _ _ _ _ _ _ h _ => h),(fun _ _ _ _ _ _ h _ => h),(fun _ _ _ _ _ _ h _ => h),(fun _ _ _ _ _ _ h _ => h),(fun _ _ _ _ _ _ h _ => h),(fun _ _ _ _ _ _ h _ => h),(fun _ _ _ _ _ _ h _ => h),(fun _ _ _ _ _ _ h _ => h),(fun _ _ _ _ _ _ h _ => h),(fun _ _ _ _ _ _ h _ => h),(fun _ _ _ _ _ _ h _ => h),trivial⟩
    case h0 =>
     exact OG.start HBk.out HOw.out
    case o0 => have e4 : A.tmps[4]?.getD undef = .pointer (some ⟨pb,0,none⟩) := H.old 4 (by kernel_rfl);have d := H.glob.pc HPb.out HPn.out;go_simp;exact hK _ _ (trivial) rfl (H.glob.keep rfl rfl rfl (by simp) (by simp))
    case o1 => have e4 : A.tmps[4]?.getD undef = .pointer (some ⟨pb,0,none⟩) := H.old 4 (by kernel_rfl);have d := H.glob.pc HPb.out HPn.out;go_simp;exact hK _ _ (trivial) rfl (H.glob.keep rfl rfl rfl (by simp) (by simp))
    case o2 => have e35 := H.is 1 35 rfl rfl rfl (deps_of' hd 1 (by kernel_rfl)) (by kernel_rfl);go_simp;exact hK _ _ (trivial) rfl (H.glob.keep rfl rfl rfl (by simp) (by simp))
    case o3 => have e36 := H.is 2 36 rfl rfl rfl (deps_of' hd 2 (by kernel_rfl)) (by kernel_rfl);go_simp;exact hK _ _ (trivial) rfl (H.glob.keep rfl rfl rfl (by simp) (by simp))
    case o4 => have e37 := H.is 3 37 rfl rfl rfl (deps_of' hd 3 (by kernel_rfl)) (by kernel_rfl);have n7 := H.notYet 7 4 rfl hf (by kernel_rfl);have n10 := H.notYet 10 7 rfl n7 (by kernel_rfl);have d : W.cell? ⟨mb,1,none⟩ = some u := (by rw [(H.glob.u n10).1.cell];rfl);obtain ⟨au,cu,hu⟩ := own_form HOw.out;subst hu;go_simp;exact hK _ _ trivial rfl (H.glob.keep rfl rfl rfl (by simp) (by simp))
    case o5 => have e6 : A.tmps[6]?.getD undef = .int .u64 cw := H.old 6 (by kernel_rfl);go_simp;exact hK _ _ (trivial) rfl (H.glob.keep rfl rfl rfl (by simp) (by simp))
    case o6 => have e39 := H.is 5 39 rfl rfl rfl (deps_of' hd 5 (by kernel_rfl)) (by kernel_rfl);go_simp;exact hK _ _ trivial trivial (H.glob.s6 hf (by rw [H.frame,fill_size];exact of_decide_eq_true (by kernel_rfl)) HBs.out)
    case o7 => have e38 := H.is 4 38 rfl rfl rfl (deps_of' hd 4 (by kernel_rfl)) (by kernel_rfl);obtain ⟨v40,e40,q40⟩ := H.val 6 40 rfl rfl rfl (deps_of' hd 6 (by kernel_rfl)) (by kernel_rfl);have h6 : L 6 = true := deps_of' hd 6 (by kernel_rfl);have n10 := H.notYet 10 7 rfl hf (by kernel_rfl);obtain ⟨g6,e6,hg6,hc6⟩ := H.glob.e6 h6 hf;have hown := (H.glob.u n10).2 hf;refine step_append_any (w := W) rfl (.tmp 38) (.tmp 40) 22 rfl B 25 i0 _ 1 8 Tryz.underlying22 hi hz0 hz1 hz2 rfl (by omega) u k xs (ev_tmp e38) hown W.heap.size (some ⟨g6,0,none⟩) 1 1 [.int .u64 cw] (ev_tmp e6) (reads_one hg6 hc6) (by simp [Value.oneCell']) (by unfold maxLen;have := HkB.out;omega) (by have := HkB.out;omega) (Nat.le_trans HBs.out H.glob.kp.size) ?_;intro v' w' hown' hg' _;exact hK _ _ trivial trivial (H.glob.s7 hf n10 (by rw [H.frame,fill_size];exact of_decide_eq_true (by kernel_rfl)) hown' hg' (Nat.le_trans HBs.out H.glob.kp.size) HmB.out)
    case o8 => have e34 := H.is 0 34 rfl rfl rfl (deps_of' hd 0 (by kernel_rfl)) (by kernel_rfl);go_simp;exact hK _ _ (trivial) rfl (H.glob.keep rfl rfl rfl (by simp) (by simp))
    case o9 => have e42 := H.is 8 42 rfl rfl rfl (deps_of' hd 8 (by kernel_rfl)) (by kernel_rfl);go_simp;exact hK _ _ (trivial) rfl (H.glob.keep rfl rfl rfl (by simp) (by simp))
    case o10 => have e43 := H.is 9 43 rfl rfl rfl (deps_of' hd 9 (by kernel_rfl)) (by kernel_rfl);obtain ⟨v41,e41,q41⟩ := H.val 7 41 rfl rfl rfl (deps_of' hd 7 (by kernel_rfl)) (by kernel_rfl);have h7 : L 7 = true := deps_of' hd 7 (by kernel_rfl);obtain ⟨v7,e7,ho7⟩ := H.glob.e7 h7 hf;obtain ⟨a7,c7,hq7⟩ := own_form ho7;subst hq7;have hbk := (H.glob.u hf).1;have d : W.cell? ⟨mb,1,none⟩ = some u := (by rw [hbk.cell];rfl);have df : W.frozen? ⟨mb,1,none⟩ = false := hbk.frozen 1;obtain rfl := e41.symm.trans e7;go_simp;exact hK undef _ trivial trivial (H.glob.s10 hf h7 ho7 HmB.out)
    case he =>
     intro vs W hlen hv
     match vs,hlen,hv with
     | [x0_,x1_,x2_,x3_,x4_,x5_,x6_,x7_,x8_,x9_,x10_],_,hv =>
     obtain rfl : (.pointer (some ⟨mb,0,none⟩)) = x0_ := by obtain ⟨z,h1,h2⟩ := hv 0 _ rfl;cases h1;exact h2.symm
     obtain rfl : (.pointer (some ⟨mb,0,none⟩)) = x1_ := by obtain ⟨z,h1,h2⟩ := hv 1 _ rfl;cases h1;exact h2.symm
     obtain rfl : (.pointer (some ⟨mb,0,none⟩)) = x2_ := by obtain ⟨z,h1,h2⟩ := hv 2 _ rfl;cases h1;exact h2.symm
     obtain rfl : (.pointer (some ⟨mb,1,none⟩)) = x3_ := by obtain ⟨z,h1,h2⟩ := hv 3 _ rfl;cases h1;exact h2.symm
     obtain rfl : u = x4_ := by obtain ⟨z,h1,h2⟩ := hv 4 _ rfl;cases h1;exact h2.symm
     obtain rfl : (.int .u64 cw) = x5_ := by obtain ⟨z,h1,h2⟩ := hv 5 _ rfl;cases h1;exact h2.symm
     obtain rfl : (.pointer (some ⟨mb,0,none⟩)) = x8_ := by obtain ⟨z,h1,h2⟩ := hv 8 _ rfl;cases h1;exact h2.symm
     obtain rfl : (.pointer (some ⟨mb,1,none⟩)) = x9_ := by obtain ⟨z,h1,h2⟩ := hv 9 _ rfl;cases h1;exact h2.symm
     intro L hall hG
     clear hv hlen
     have HG := Lib.hid (hG.e10 (hall 10 (by decide)))
     have HKp := Lib.hid hG.kp
     have HKo := Lib.hid hG.ko
     clear hG hall
     simp only [fill,if_true]
     gi_wp2
     obtain ⟨eB,emb,epb,eml,ek⟩ := HX.out
     obtain ⟨v,v1,v2⟩ := HG.out
     have kp := HKp.out
     have hs : ∀ i,i = mb ∨ B <= i -> w.heap.size <= i := fun i hi => by omega
     have hsz := HB2.out.size
     have hBs := HBs.out
     refine ⟨HKo.out,⟨kp.size,fun i hi hlt => kp.block i hlt (by omega)⟩,⟨v,by rw [<- emb,<- eml];exact v1,?_⟩,?_,?_,by have := kp.size;have := HBs.out;omega,?_⟩
     ·rw [List.length_append,List.map_append,List.map_append,<- eB,<- ek,<- Hxs.out]
      have e : wordAt Lb n x = cw := by rw [Hcw.out,<- HR.out];rfl
      rw [List.map_singleton,e]
      exact v2
     ·exact (kp.block _ (by omega) (by omega)).trans HP.out
     ·rw [kp.block _ (by omega) (by omega)];exact HM2.out
     ·exact HB2.out.keeps (Nat.le_refl _) kp hs
 case done =>
  rintro D xs W hD rfl ⟨⟨u,hk,hown⟩,hp,hmp,hs,hB⟩ hK
  obtain ⟨pb,hpb⟩ : ∃ pb,pb = w.heap.size + 1 + 1 := ⟨_,rfl⟩
  obtain ⟨mb,hmb⟩ : ∃ mb,mb = w.heap.size + 1 := ⟨_,rfl⟩
  obtain ⟨ml,hml⟩ : ∃ ml,ml = w.heap.size := ⟨_,rfl⟩
  obtain ⟨l,hl2⟩ : ∃ l,l = wordsB Lb n := ⟨_,rfl⟩
  have HBk := Lib.hid (show Blk W mb (memI ml u) 92 by rw [hmb,hml];exact hk)
  have HOw := Lib.hid (show W.ownsRow (w.heap.size + 5) 25 1 u l.length (l.map (Value.int .u64)) by rw [hl2,wordsB,List.length_map];exact hown)
  have HPb := Lib.hid (show W.cell? ⟨pb,0,none⟩ = some (.pointer (some ⟨mb,0,none⟩)) by rw [hpb,hmb,hp.cell];rfl)
  have HX := Lib.hid (show mb = w.heap.size + 1 /\ pb = w.heap.size + 1 + 1 /\ ml = w.heap.size /\ w.heap.size + 5 <= W.heap.size by omega)
  have Hl := Lib.hid hl2
  have Hlen := Lib.hid (show l.length <= 1000000 by rw [hl2,wordsB,List.length_map,List.length_finRange];omega)
  have HP := Lib.hid hp
  have HM2 := Lib.hid hmp
  have HB2 := Lib.hid hB
  rw [<- hpb]
  clear hl2 hml hmb hpb hk hown hp hmp hB hs
  gi_wp2
  have HmW := Lib.hid (show mb < W.heap.size by have := HX.out;omega)
  have HpW := Lib.hid (show pb < W.heap.size /\ ¬ pb = mb by have := HX.out;omega)
  obtain ⟨W0,hW0⟩ : ∃ y,y = W := ⟨_,rfl⟩
  rw [<- hW0] at HBk HOw HPb HX HmW HpW HP HM2 HB2 hK ⊢
  clear hW0
  refine wpIn_wide.2 ?_
  refine wp_region_vals [Is (.pointer (some ⟨mb,0,none⟩)),Is (.pointer (some ⟨mb,0,none⟩)),Is (.pointer (some ⟨mb,0,none⟩)),Is (.pointer (some ⟨mb,1,none⟩)),Is u,fun v W => W.ownsRow W0.heap.size 25 1 v l.length (l.map (Value.int .u64)),Is (.pointer (some ⟨mb,0,none⟩)),Is (.pointer (some ⟨mb,0,none⟩)),Any]
   (fun _ w w' => Keeps (fun i => i = mb) w w') (fun L W => OD W0 mb ml u l L W) (by kernel_rfl) (by kernel_rfl) (by kernel_rfl) ?hst ?h0 ⟨?o0,?o1,?o2,?o3,?o4,?o5,?o6,?o7,?o8,trivial⟩ ?he
  any_goals (intro L vs A W H hf hd K hK)
  case hst =>
   exact ⟨(fun _ _ _ _ _ _ h _ => h),(fun _ _ _ _ _ _ h _ => h),(fun _ _ _ _ _ _ h _ => h),(fun _ _ _ _ _ _ h _ => h),(fun _ _ _ _ _ _ h _ => h),(fun _ _ _ _ _ _ h hR => own_keeps h hR (fun i e => by have := own_base h i e;have := HmW.out;omega)),(fun _ _ _ _ _ _ h _ => h),(fun _ _ _ _ _ _ h _ => h),(fun _ _ _ _ _ _ h _ => h),trivial⟩
  case h0 =>
   exact OD.start HBk.out
  case o0 => have e4 : A.tmps[4]?.getD undef = .pointer (some ⟨pb,0,none⟩) := H.old 4 (by kernel_rfl);have d : W.cell? ⟨pb,0,none⟩ = some (.pointer (some ⟨mb,0,none⟩)) := (H.glob.kp.cell (p := ⟨pb,0,none⟩) HpW.out.1 HpW.out.2).trans HPb.out;go_simp;exact hK _ _ (Keeps.refl _ _) rfl (H.glob.keep rfl)
  case o1 => have e4 : A.tmps[4]?.getD undef = .pointer (some ⟨pb,0,none⟩) := H.old 4 (by kernel_rfl);have d : W.cell? ⟨pb,0,none⟩ = some (.pointer (some ⟨mb,0,none⟩)) := (H.glob.kp.cell (p := ⟨pb,0,none⟩) HpW.out.1 HpW.out.2).trans HPb.out;go_simp;exact hK _ _ (Keeps.refl _ _) rfl (H.glob.keep rfl)
  case o2 => have e45 := H.iz hd 1 45 rfl rfl rfl (by kernel_rfl);go_simp;exact hK _ _ (Keeps.refl _ _) rfl (H.glob.keep rfl)
  case o3 => have e46 := H.iz hd 2 46 rfl rfl rfl (by kernel_rfl);go_simp;exact hK _ _ (Keeps.refl _ _) rfl (H.glob.keep rfl)
  case o4 => have e47 := H.iz hd 3 47 rfl rfl rfl (by kernel_rfl);have n8 := H.notYet 8 5 rfl (H.notYet 5 4 rfl hf (by kernel_rfl)) (by kernel_rfl);have d : W.cell? ⟨mb,1,none⟩ = some u := (by rw [(H.glob.un n8).cell];rfl);obtain ⟨au,cu,hu⟩ := own_form HOw.out;subst hu;go_simp;exact hK _ _ (Keeps.refl _ _) rfl (H.glob.keep rfl)
  case o5 => have e48 := H.iz hd 4 48 rfl rfl rfl (by kernel_rfl);have n8 := H.notYet 8 5 rfl hf (by kernel_rfl);have HC := Lib.hid (clone_v u l W (own_mono (own_keeps HOw.out H.glob.kp (fun i e => by have := own_base HOw.out i e;have := HX.out;omega)) (Nat.zero_le _)) Hlen.out);go_simp;refine HC.out.mono ?_;rintro e w' ⟨v,rfl,ho,hb⟩;go_simp;exact hK _ _ (keeps_belowS hb) (own_mono ho H.glob.kp.size) (H.glob.cloned n8 hb HmW.out)
  case o6 => have e44 := H.iz hd 0 44 rfl rfl rfl (by kernel_rfl);go_simp;exact hK _ _ (Keeps.refl _ _) rfl (H.glob.keep rfl)
  case o7 => have e50 := H.iz hd 6 50 rfl rfl rfl (by kernel_rfl);go_simp;exact hK _ _ (Keeps.refl _ _) rfl (H.glob.keep rfl)
  case o8 => have e51 := H.iz hd 7 51 rfl rfl rfl (by kernel_rfl);obtain ⟨v49,e49,q49⟩ := H.val 5 49 rfl rfl rfl (deps_of' hd 5 (by kernel_rfl)) (by kernel_rfl);have h5 : L 5 = true := deps_of' hd 5 (by kernel_rfl);have hbk := H.glob.un hf;have d : W.cell? ⟨mb,0,none⟩ = some (.slice none 0 0) := (by rw [hbk.cell];rfl);have df : W.frozen? ⟨mb,0,none⟩ = false := hbk.frozen 0;obtain ⟨a7,c7,hq7⟩ := own_form q49;subst hq7;go_simp;exact hK undef _ ((Keeps.refl (fun i => i = mb) W).setCell (p := ⟨mb,0,none⟩) (.inl rfl) _) trivial (H.glob.s8 hf q49 HmW.out)
  case he =>
   intro vs W hlen hv
   match vs,hlen,hv with
   | [x0_,x1_,x2_,x3_,x4_,x5_,x6_,x7_,x8_],_,hv =>
   obtain rfl := isv hv 0 rfl rfl;obtain rfl := isv hv 1 rfl rfl;obtain rfl := isv hv 2 rfl rfl;obtain rfl := isv hv 3 rfl rfl;obtain rfl := isv hv 4 rfl rfl
   have hx5 : (fun v W => W.ownsRow W0.heap.size 25 1 v l.length (l.map (Value.int .u64))) x5_ W := by obtain ⟨z,h1,h2⟩ := hv 5 _ rfl;cases h1;exact h2
   obtain rfl := isv hv 6 rfl rfl;obtain rfl := isv hv 7 rfl rfl
   intro L hall hG
   clear hv hlen
   have HG := Lib.hid (hG.e (hall 8 (by decide)))
   have HKp := Lib.hid hG.kp
   clear hG hall
   simp only [fill,if_true]
   obtain ⟨vv,v1,v2⟩ := HG.out
   have kp := HKp.out
   obtain ⟨eb,ep,em,es⟩ := HX.out
   have d : W.cell? ⟨pb,0,none⟩ = some (.pointer (some ⟨mb,0,none⟩)) := (kp.cell (p := ⟨pb,0,none⟩) HpW.out.1 HpW.out.2).trans HPb.out
   have hD2 : D < W0.heap.size := (Array.getElem?_eq_some_iff.1 hK).1
   have hK2 : W.heap[D]? = some (Obj.deferred (some [])) := (kp.block D hD2 (by omega)).trans hK
   have o1 := own_keeps HOw.out kp (fun i e => by have := own_base HOw.out i e;omega)
   have hM : W.heap[w.heap.size]? = some (.map #[] 0) := (kp.block _ (by omega) (by omega)).trans HM2.out
   have hB : Below w.heap.size w W := HB2.out.keeps (Nat.le_refl _) kp (fun i hi => by omega)
   have hne : ∀ i,vv.ownBlock = some i -> u.ownBlock ≠ some i := fun i e e2 => by
    have h1 := own_base v2 i e
    obtain ⟨C,hC⟩ := own_type HOw.out e2
    have := (Array.getElem?_eq_some_iff.1 hC).1
    omega
   clear HG HKp HB2 HM2 HPb eb ep em es
   gi_wp2
   obtain ⟨eb,ep,em,es⟩ := HX.out
   refine ⟨by simp,.inl ⟨_,_,rfl,run_takeDeferred hK2,?_⟩⟩
   have hg := grownBy_putObj' W D (.deferred none)
   have hr : ∀ r,some D = some r -> ∃ o : Obj,W.heap[r]? = some o /\ o.isCells = false := fun r e => by cases e;exact ⟨_,hK2,rfl⟩
   rw [<- Hl.out]
   refine ⟨.tuple #[.pointer (some ⟨mb,0,none⟩),.int .i64 0],by simp [results,Tryz.results23,go_sem],by rw [eb],vv,u,?_,?_,?_,hne,?_,?_⟩
   ·rw [<- eb,<- em]
    exact ⟨v1.put hg hr,own_mono (own_put v2 hg hr) (Nat.zero_le _),own_mono (own_put o1 hg hr) (Nat.zero_le _)⟩
   ·exact fun i e => by have := own_base v2 i e;omega
   ·exact fun i e => by have := own_base HOw.out i e;omega
   ·rw [hg.block _ (by have := kp.size;omega) (fun e => by cases e;omega)];exact hM
   ·exact hB.trans (belowK_b (w := w) (Nat.le_refl _) _ D _ _ (by omega) hK2 rfl rfl)
 case stop =>
  rintro D c pre W _ _ h _
  exact h.elim
end Go.Proofs.YtodgfbjjjgohgaaGreat
