/-
 A WALK OF A TREE OF ONE NODE,AT REST: its steps.
-/
import Derived.Test.YtodgfbjjjgohgaaGreatSniZ
import Derived.Test.YtodgfbjjjgohgaaGreatKtZ
namespace Go.Proofs.YtodgfbjjjgohgaaGreat
open Go.RowKit
attribute [local go_sem] Oper.semAt_some
set_option linter.unusedVariables false

end Go.Proofs.YtodgfbjjjgohgaaGreat
namespace Go.Proofs.YtodgfbjjjgohgaaGreat
open Go.RowKit
attribute [local go_sem] Oper.semAt_some
set_option linter.unusedVariables false

def MemV (w : World) (mb : Nat) (S : Nat -> Prop) (vs : List Int) (lo st fl fe : Int) : Prop := ∃ is mk F,MemP w mb S vs is mk F lo st fl fe
structure MemE (w3 : World) (S0 : Nat -> Prop) (mb : Nat) (vs : List Int) (lo st fl fe : Int) (wr : World) : Prop where
 m : ∃ S,MemV wr mb S vs lo st fl fe /\ ∀ i,S i -> S0 i ∨ w3.heap.size <= i
 k : Keeps S0 w3 wr
def SE (w3 : World) (S0 : Nat -> Prop) : Nat -> Prop := fun i => S0 i ∨ w3.heap.size <= i
section
variable {w w3 wr wr' : World} {S0 S : Nat -> Prop} {mb : Nat} {vs : List Int} {lo st fl fe : Int}
end
structure Ld8 (w3 : World) (S0 : Nat -> Prop) (mb : Nat) (wr : World) (vs : List Int) (st : Int) (L : Nat -> Bool) (W : World) : Prop where
 n : L 11 = false -> W = wr.drew
 y : L 11 = true -> MemE w3 S0 mb vs 0 st 0 0 W
 k : Keeps (SE w3 S0) wr W
end Go.Proofs.YtodgfbjjjgohgaaGreat
namespace Go.Proofs.YtodgfbjjjgohgaaGreat
open Go.RowKit
attribute [local go_sem] Oper.semAt_some
set_option linter.unusedVariables false

end Go.Proofs.YtodgfbjjjgohgaaGreat
namespace Go.Proofs.YtodgfbjjjgohgaaGreat
open Go.RowKit
attribute [local go_sem] Oper.semAt_some
set_option linter.unusedVariables false

theorem wpList_load_ndg {ops : Array Oper} {rest : List Oper} {o : Oper} {a : Act} {w : World} {Q : Exit -> Act -> World -> Prop} (hw : Region.wanted o (yielded ops a.tmps) = true) (x : Operand) (ho : o.op = .load 46 x) (g : Nat) (n : Nd)
  (hx : a.eval x = .pointer (some ⟨g,0,none⟩)) (hb : Blk w g (ndCells n) 46) (h : wpList Tryz.prog ops Q rest (a.put o.dst (.agg (ndCells n))) w) : wpList Tryz.prog ops Q (o :: rest) a w := by
 simp only [wpList,hw,if_true]
 exact .inl (wp_load_nd x ho g n hx hb h)
set_option maxRecDepth 20000 in
theorem wp_eq_nd {a : Act} {w : World} {K : Act -> World -> Prop} {Q : Exit -> Act -> World -> Prop} (d : Option Tmp) (i j : Nat) (ty : TypeId) (pos : String) (aft : Array Edge) (g : Option (Nat × Bool)) (n : Nd)
  (hx : a.tmps[i]?.getD undef = .agg (ndCells n)) (hy : a.tmps[j]?.getD undef = .agg (ndCells n))
  (h : K (a.put d (.bool true)) w) : Oper.wp Tryz.prog ⟨d,.binOp .eql 46 (.tmp i) (.tmp j) 46,ty,pos,aft,g⟩ a w K Q := by
 have q := fun w => eq_nd n w
 go_simp
 exact h
theorem wpList_eq_ndg {ops : Array Oper} {rest : List Oper} {a : Act} {w : World} {Q : Exit -> Act -> World -> Prop} (d : Option Tmp) (i j : Nat) (ty : TypeId) (pos : String) (aft : Array Edge) (g : Option (Nat × Bool)) (n : Nd)
  (hw : Region.wanted ⟨d,.binOp .eql 46 (.tmp i) (.tmp j) 46,ty,pos,aft,g⟩ (yielded ops a.tmps) = true)
  (hx : a.tmps[i]?.getD undef = .agg (ndCells n)) (hy : a.tmps[j]?.getD undef = .agg (ndCells n)) (h : wpList Tryz.prog ops Q rest (a.put d (.bool true)) w) : wpList Tryz.prog ops Q (⟨d,.binOp .eql 46 (.tmp i) (.tmp j) 46,ty,pos,aft,g⟩ :: rest) a w := by
 simp only [wpList,hw,if_true]
 exact .inl (wp_eq_nd d i j ty pos aft g n hx hy h)
theorem SnI.le {sb : Nat} {mv : Option Addr} {vw : List Int} {a : Int} {i : Nat} {s : Sn} (h : SnI sb mv vw a i s) : i <= 42 := by
 obtain ⟨_,h | ⟨kn,hR,h⟩ | ⟨kn,hR,h⟩ | h | h⟩ := h
 ·omega
 ·have := idx_le hR.lt;have := h.2.2.2.2;omega
 ·have := idx_le hR.lt;have := h.2.2.2.2;omega
 ·have := h.2.2.2.2.2.2.2;omega
 ·have := h.2.2.2.2.2.2.2;omega
theorem SnI.new (sb : Nat) (mv : Option Addr) (vw : List Int) (a : Int) : SnI sb mv vw a 0 (snNew sb mv a) := ⟨⟨rfl,rfl,rfl⟩,.inl ⟨rfl,rfl,rfl,rfl,rfl,rfl,rfl⟩⟩
structure SnW (w5 : World) (sb mb : Nat) (S : Nat -> Prop) (vs : List Int) (a st fl fe : Int) (k : Nat) (wr : World) : Prop where
 s : ∃ s,Blk wr sb (snCells s) 164 /\ SnI sb (some ⟨mb,0,none⟩) vs a k s
 m : ∃ lo,MemV wr mb S vs lo st fl fe
 k : Keeps (fun i => i = sb ∨ S i) w5 wr
structure SnZ (w5 : World) (sb mb : Nat) (S : Nat -> Prop) (vs : List Int) (a st fl fe er : Int) (wr : World) : Prop where
 s : ∃ s,Blk wr sb (snCells s) 164 /\ SnD sb vs a er s
 m : ∃ lo,MemV wr mb S vs lo st fl fe
 k : Keeps (fun i => i = sb ∨ S i) w5 wr
/-! . -/
theorem pthB_congr {W V : Nat -> Int} (h : ∀ i,i < 24 -> W i = V i) (i : Nat) : pthB W i = pthB V i := by
 rw [Bool.eq_iff_iff,pthB_iff,pthB_iff]
 constructor
 ·rintro (h1 | h1 | ⟨h1,h2,h3⟩)
  ·exact .inl h1
  ·exact .inr (.inl h1)
  ·exact .inr (.inr ⟨h1,h2,fun j hj h9 ho => by rw [<- h j (by omega)];exact h3 j hj h9 ho⟩)
 ·rintro (h1 | h1 | ⟨h1,h2,h3⟩)
  ·exact .inl h1
  ·exact .inr (.inl h1)
  ·exact .inr (.inr ⟨h1,h2,fun j hj h9 ho => by rw [h j (by omega)];exact h3 j hj h9 ho⟩)
theorem rdW_congr {W V : Nat -> Int} (h : ∀ i,i < 24 -> W i = V i) (i : Nat) : rdW W 24 i = rdW V 24 i := by
 unfold rdW
 rw [pthB_congr h]
 split
 ·rename_i c
  exact h i (by rcases c with c | c;omega;exact c.2)
 ·rfl
theorem nTo_congr {f g : Nat -> Int} (h : ∀ i,i < 24 -> f i = g i) : ndCells (nTo f 8) = ndCells (nTo g 8) := by
 have hk : ∀ i,i < 8 -> (nTo f 8).k i = (nTo g 8).k i := fun i hi => by
  show (if i < 8 then f (8 + 2 * i) else 0) = (if i < 8 then g (8 + 2 * i) else 0)
  rw [h _ (by omega)]
 have hp : ∀ i,i < 8 -> (nTo f 8).p i = (nTo g 8).p i := fun i hi => by
  show (if i < 8 then f (9 + 2 * i) else 0) = (if i < 8 then g (9 + 2 * i) else 0)
  rw [h _ (by omega)]
 have h8 : ∀ (f g : Nat -> Int),(∀ i,i < 8 -> f i = g i) -> u8s f = u8s g := fun f g h => List.map_congr_left (fun i hi => by rw [h i (List.mem_range.1 hi)])
 unfold ndCells
 rw [h8 _ _ hk,h8 _ _ hp,show (nTo f 8).lv = (nTo g 8).lv from (by show f 0 - tagM = g 0 - tagM;rw [h 0 (by omega)]),show (nTo f 8).lo = (nTo g 8).lo from h 1 (by omega),show (nTo f 8).nx = (nTo g 8).nx from h 2 (by omega),show (nTo f 8).ct = (nTo g 8).ct from h 3 (by omega),show (nTo f 8).fi = (nTo g 8).fi from h 4 (by omega)]
def ndF : Nd := { nd0 with fi := 1088 }
def n0 : Nd := (((ndF.withK 0 5).withP 0 2112).withK 1 9).withP 1 2176
end Go.Proofs.YtodgfbjjjgohgaaGreat
namespace Go.Proofs.YtodgfbjjjgohgaaGreat
open Go.RowKit
set_option linter.unusedVariables false

structure OneN (vs : List Int) (r : Int) (n0 : Nd) : Prop where
 he : atE vs.length 16 = 0
 hr : ldW vs 16 = r
 wd : ∀ i,i < 24 -> wdM vs r i = fullW n0 i
 er : ∀ i,i < 24 -> erM vs r i = 0
 lv : 0 <= n0.lv /\ n0.lv <= 15
 nx : n0.nx = 0
 u : U64s vs
def oneR (n0 : Nd) : Nd := nTo (rdW (fullW n0) 24) 8
theorem OneN.found {vs : List Int} {r : Int} {n0 : Nd} (h : OneN vs r n0) {sb : Nat} {er : Int} {s : Sn} (hD : SnD sb vs r er s) : er = 0 /\ ndCells s.found = ndCells (oneR n0) /\ s.found.lv = n0.lv /\ s.has = false := by
 have h2 : wdM vs r 2 = 0 := by rw [h.wd 2 (by decide)];exact h.nx
 rcases hD.res with ⟨_,h3 | ⟨j,_,hj,h3⟩ | ⟨h3,h4⟩⟩ | ⟨he,hf,hh,hhi⟩
 ·rw [h.er 3 (by decide)] at h3;cases h3
 ·rw [h.er j hj] at h3;cases h3
 ·exact absurd h2 h3
 ·have e0 : rdW (wdM vs r) 24 0 = tagM + n0.lv := (rdW_at ((pthB_iff _ 0).2 (.inl (by decide))) (by decide)).trans (h.wd 0 (by decide))
  have hlv := h.lv
  have hb : ofBad (rdW (wdM vs r) 24) = false := by
   unfold ofBad
   rw [e0,decide_eq_false (by omega),decide_eq_false (by omega)];rfl
  have ho : ofV (rdW (wdM vs r) 24) = (nTo (rdW (wdM vs r) 24) 8,0) := by unfold ofV;rw [hb];rfl
  rw [ho] at he hf
  refine ⟨he,?_,?_,by rw [hh,decide_eq_false (fun e => e h2)]⟩
  ·rw [hf]
   exact nTo_congr (fun i hi => rdW_congr h.wd i)
  ·rw [hf]
   show rdW (wdM vs r) 24 0 - tagM = n0.lv
   omega
theorem step_x (w : World) (s : Sn) (sb mb : Nat) (S : Nat -> Prop) (vw is : List Int) (mk : Int -> Nat -> Int) (F : Int -> List (Int × Int)) (lo st fl fe a : Int) (i : Nat)
  (hb : Blk w sb (snCells s) 164) (hm : MemP w mb S vw is mk F lo st fl fe) (hS : ¬ S sb) (hI : SnI sb (some ⟨mb,0,none⟩) vw a i s) (hu : U64s vw) :
  ∃ d er s' lo',StepR sb (some ⟨mb,0,none⟩) vw a i d er s' /\ Calls Tryz.prog 124 #[.pointer (some ⟨sb,0,none⟩)] w (SnP w sb mb S vw is mk F st fl fe d er s' lo') := by
 obtain ⟨hB,h | ⟨kn,hR,h⟩ | ⟨kn,hR,h⟩ | h | h⟩ := hI
 ·obtain ⟨hi,hst,ha,hb',hk,hl,hh⟩ := h
  refine ⟨_,_,_,_,?_,step_counts w s sb mb S vw is mk F lo st fl fe _ _ _ _ hb hm hS hB.mv hst hB.over (counts_v w s sb mb S vw is mk F lo st fl fe hb hm hS hB.mv)⟩
  rw [hB.at_]
  exact stepr_ct hB hi ha hb' hk hl hh
 ·obtain ⟨hl,ha,hb',hE,hi⟩ := h
  refine ⟨_,_,_,_,?_,step_reads w s sb mb S vw is mk F lo st fl fe _ _ _ _ hb hm hS hB.mv hR.step hB.over (reads_v w s kn sb mb S vw is mk F lo st fl fe hb hm hS hB.mv hR.k hR.lt)⟩
  rw [hB.at_]
  exact stepr_rd1 hB hR hl ha hb' hE hi
 ·obtain ⟨hl,ha,hb',hE,hi⟩ := h
  refine ⟨_,_,_,_,?_,step_reads w s sb mb S vw is mk F lo st fl fe _ _ _ _ hb hm hS hB.mv hR.step hB.over (reads_v w s kn sb mb S vw is mk F lo st fl fe hb hm hS hB.mv hR.k hR.lt)⟩
  rw [hB.at_]
  exact stepr_rd2 hB hR hl ha hb' hE hi
 ·obtain ⟨hst,ha,hb',hh,he3,hE,hz,hi⟩ := h
  exact ⟨_,_,_,_,stepr_bd hB ha hb' he3 hE hz hi,step_bound w s sb mb S vw is mk F lo st fl fe _ _ _ _ hb hm hS hB.mv hst hB.over (bound_v w s sb mb S vw is mk F lo st fl fe hb hm hS hB.mv)⟩
 ·obtain ⟨hst,ha,hb',hh,hhi,he3,hE,hi⟩ := h
  exact ⟨_,_,_,_,stepr_ag hB hst ha hb' hh (fun h => (hhi h).1) he3,step_again w s sb mb S vw is mk F lo st fl fe _ _ _ _ hb hm hS hB.mv hst hB.over (again_v w s sb mb S vw is mk F lo st fl fe hb hm hS hB.mv (by rw [ha];exact rdW_u64 hu a 24 0))⟩
def Ph (w : World) (B U kb xb mb : Nat) (S : Nat -> Prop) (vs : List Int) (st fl fe client key level r : Int) (i : Nat) : Prop :=
 (i = 0 /\ WkW w kb xb mb S vs st fl fe (wkNew kb (some ⟨xb,0,none⟩) client key level)) ∨
 (∃ j sb s,i = j + 1 /\ WkW w kb xb mb S vs st fl fe (wkCome (wkNew kb (some ⟨xb,0,none⟩) client key level) kb sb r) /\ Blk w sb (snCells s) 164 /\ SnI sb (some ⟨mb,0,none⟩) vs r j s /\ sb ≠ kb /\ sb ≠ xb /\ ¬ S sb /\ B <= sb /\ sb < U)
def PhE (w : World) (kb xb mb : Nat) (S : Nat -> Prop) (vs : List Int) (st fl fe level r : Int) (n0 : Nd) : Prop :=
 ∃ k,WkW w kb xb mb S vs st fl fe k /\ k.over = true /\ k.e = (if n0.lv < level then 5 else 0) /\ k.at_ = r /\ ndCells k.n = ndCells (oneR n0) /\ k.next = .func (.func 72) #[.pointer (some ⟨kb,0,none⟩)] #[]
theorem WkW.kept {w w' : World} {kb xb mb : Nat} {S X : Nat -> Prop} {vs : List Int} {st fl fe : Int} {k : Wk} (h : WkW w kb xb mb S vs st fl fe k) (hk : Keeps X w w') (h1 : ¬ X kb) (h2 : ¬ X xb) (h3 : ∀ i,S i -> ¬ X i) : WkW w' kb xb mb S vs st fl fe k := by
 obtain ⟨C,hx,hC⟩ := h.x
 obtain ⟨is,mk,F,lo,hm⟩ := h.m
 exact ⟨h.b.kept hk h1,h.s,⟨C,hx.kept hk h2,hC⟩,⟨is,mk,F,lo,hm.kept hk h3⟩,h.ne⟩
theorem ph_le {w : World} {B U kb xb mb : Nat} {S : Nat -> Prop} {vs : List Int} {st fl fe client key level r : Int} {i : Nat} (h : Ph w B U kb xb mb S vs st fl fe client key level r i) : i <= 43 := by
 rcases h with ⟨rfl,_⟩ | ⟨j,sb,s,rfl,_,_,hI,_⟩
 ·omega
 ·have := hI.le;omega
theorem wstep_ph {w : World} {B U kb xb mb : Nat} {S : Nat -> Prop} {vs : List Int} {st fl fe client key level r : Int} {n0 : Nd} {i : Nat} (h : Ph w B U kb xb mb S vs st fl fe client key level r i) (hB : B <= w.heap.size) (h1 : OneN vs r n0) (hl : 0 <= level /\ level <= 15) (hlv : n0.lv <= level) :
  Calls Tryz.prog 16 #[.pointer (some ⟨kb,0,none⟩)] w fun e w' => ((e = .returned (.tuple #[.bool false,.int .i64 0]) /\ Ph w' B w'.heap.size kb xb mb S vs st fl fe client key level r (i + 1)) ∨ (∃ er : Int,e = .returned (.tuple #[.bool true,.int .i64 er]) /\ PhE w' kb xb mb S vs st fl fe level r n0)) /\ Keeps (fun i => i = kb ∨ S i ∨ (B <= i /\ i < U)) w w' := by
 rcases h with ⟨rfl,hW⟩ | ⟨j,sb,s,rfl,hW,hs,hI,n1,n2,n3,n4,n5⟩
 ·obtain ⟨C,hx,hC⟩ := hW.x
  have hr := wroot_v w kb xb mb S vs st fl fe _ hW h1.he
  rw [h1.hr] at hr
  have hkl := hW.b.lt
  have hxl := hx.lt
  have hSl : ∀ i,S i -> i < w.heap.size := fun i hi => by obtain ⟨is,mk,F,lo,hm⟩ := hW.m;exact hm.lt hi
  refine (wgo_root w kb xb ⟨mb,0,none⟩ C (wkNew kb (some ⟨xb,0,none⟩) client key level)
   (P := fun d er k' w' => d = false /\ er = 0 /\ ∃ sb,k' = wkCome (wkNew kb (some ⟨xb,0,none⟩) client key level) kb sb r /\ WkW w' kb xb mb S vs st fl fe k' /\ Blk w' sb (snCells (snNew sb (some ⟨mb,0,none⟩) r)) 164 /\ w.heap.size <= sb /\ Keeps (fun i => i = kb ∨ S i) w w')
   hW.b rfl hx hC rfl rfl hl (hr.mono ?_)).mono ?_
  ·rintro e w' ⟨sb,rfl,hW',hS',hsz,hK⟩
   exact ⟨false,0,_,rfl,hW'.b,rfl,rfl,sb,rfl,hW',hS',hsz,hK⟩
  ·rintro e w' ⟨d,er,k',w2,rfl,hb',⟨rfl,rfl,sb,rfl,hW2,hsn,hsz,hK⟩,hk2⟩
   obtain ⟨C2,hx2,hC2⟩ := hW2.x
   obtain ⟨is,mk,F,lo,hm⟩ := hW2.m
   have hne : sb ≠ kb /\ sb ≠ xb /\ ¬ S sb := ⟨by omega,by omega,fun h => by have := hSl sb h;omega⟩
   refine ⟨.inl ⟨rfl,.inr ⟨0,sb,snNew sb (some ⟨mb,0,none⟩) r,rfl,⟨hb',rfl,⟨C2,hx2.kept hk2 hW.ne.1,hC2⟩,⟨is,mk,F,lo,hm.kept hk2 (fun i hi e => hW.ne.2.1 (e ▸ hi))⟩,hW.ne⟩,hsn.kept hk2 hne.1,SnI.new _ _ _ _,hne.1,hne.2.1,hne.2.2,by omega,(hsn.kept hk2 hne.1).lt⟩⟩,?_⟩
   exact (hK.mono (fun i _ e => e.elim .inl (fun e => .inr (.inl e)))).trans (hk2.mono (fun i _ e => .inl e))
 ·obtain ⟨C,hx,hC⟩ := hW.x
  obtain ⟨is,mk,F,lo,hm⟩ := hW.m
  obtain ⟨d,er,s',lo',hR,hSt⟩ := step_x w s sb mb S vs is mk F lo st fl fe r j hs hm n3 hI h1.u
  have hkS : ∀ {w'},Keeps (fun i => i = sb ∨ S i) w w' -> Blk w' kb (wkCells (wkCome (wkNew kb (some ⟨xb,0,none⟩) client key level) kb sb r)) 70 := fun hk => hW.b.kept hk (fun e => e.elim (fun e => n1 e.symm) hW.ne.2.1)
  have hkx : ∀ {w'},Keeps (fun i => i = sb ∨ S i) w w' -> Blk w' xb C 88 := fun hk => hx.kept hk (fun e => e.elim (fun e => n2 e.symm) hW.ne.2.2)
  have hkB : ∀ {w' w2},Keeps (fun i => i = sb ∨ S i) w w' -> Keeps (fun i => i = kb) w' w2 -> Keeps (fun i => i = kb ∨ S i ∨ (B <= i /\ i < U)) w w2 := fun hk h2 => (hk.mono (fun i _ e => e.elim (fun e => .inr (.inr (by omega))) (fun e => .inr (.inl e)))).trans (h2.mono (fun i _ e => .inl e))
  rcases hR with ⟨rfl,rfl,hI'⟩ | ⟨rfl,hD⟩
  ·have hlk := wlook_wait w kb sb (wkCome (wkNew kb (some ⟨xb,0,none⟩) client key level) kb sb r)
    (P := fun w' => Blk w' sb (snCells s') 164 /\ MemP w' mb S vs is mk F lo' st fl fe /\ Keeps (fun i => i = sb ∨ S i) w w') hW.b rfl (hSt.mono (fun e w' hP => ⟨hP.e,hkS hP.k,hP.b,hP.m,hP.k⟩))
   refine (wgo_look w kb xb ⟨mb,0,none⟩ C _ (P := fun d er k' w' => d = false /\ er = 0 /\ k' = wkCome (wkNew kb (some ⟨xb,0,none⟩) client key level) kb sb r /\ Blk w' sb (snCells s') 164 /\ MemP w' mb S vs is mk F lo' st fl fe /\ Keeps (fun i => i = sb ∨ S i) w w')
    hW.b rfl hx hC rfl rfl hl (hlk.mono ?_)).mono ?_
   ·rintro e w' ⟨rfl,hb',hP⟩
    exact ⟨false,0,_,rfl,hb',rfl,rfl,rfl,hP⟩
   ·rintro e w' ⟨d,er,k',w2,rfl,hb',⟨rfl,rfl,rfl,hs2,hm2,hK⟩,hk2⟩
    exact ⟨.inl ⟨rfl,.inr ⟨j + 1,sb,s',rfl,⟨hb',rfl,⟨C,(hkx hK).kept hk2 hW.ne.1,hC⟩,⟨is,mk,F,lo',hm2.kept hk2 (fun i hi e => hW.ne.2.1 (e ▸ hi))⟩,hW.ne⟩,hs2.kept hk2 n1,hI',n1,n2,n3,n4,(hs2.kept hk2 n1).lt⟩⟩,hkB hK hk2⟩
  ·obtain ⟨rfl,hfd,hfl,hfh⟩ := h1.found hD
   have hlk := wlook_here w kb sb (wkCome (wkNew kb (some ⟨xb,0,none⟩) client key level) kb sb r)
    (P := fun sN w' => sN = s' /\ MemP w' mb S vs is mk F lo' st fl fe /\ Keeps (fun i => i = sb ∨ S i) w w') hW.b rfl
    (hSt.mono (fun e w' hP => ⟨hP.e,hkS hP.k,s',hP.b,hD.over,hD.e,hD.step,(fun e => by rw [hfh] at e;cases e),(by rw [hfl];exact hlv),rfl,hP.m,hP.k⟩)) n1
   refine (wgo_look w kb xb ⟨mb,0,none⟩ C _ (P := fun d er k' w' => d = true /\ er = (if n0.lv < level then 5 else 0) /\ ∃ hv hs,k' = wkSeen (wkCome (wkNew kb (some ⟨xb,0,none⟩) client key level) kb sb r) s'.found hv hs /\ ∃ w2,MemP w2 mb S vs is mk F lo' st fl fe /\ Keeps (fun i => i = sb ∨ S i) w w2 /\ Keeps (fun i => i = kb) w2 w')
    hW.b rfl hx hC rfl rfl hl (hlk.mono ?_)).mono ?_
   ·rintro e w' ⟨sN,rfl,hb',w2,⟨rfl,hm2,hK⟩,hk2⟩
    refine ⟨true,_,_,rfl,hb',rfl,?_,_,_,rfl,w2,hm2,hK,hk2⟩
    show (if sN.found.lv < level then (5 : Int) else 0) = _
    rw [hfl]
   ·rintro e w' ⟨d,er,k',w2,rfl,hb',⟨rfl,rfl,hv,hs,rfl,w1,hm1,hK,hk1⟩,hk2⟩
    have hk12 := hk1.trans hk2
    exact ⟨.inr ⟨_,rfl,_,⟨hb',rfl,⟨C,(hkx hK).kept hk12 hW.ne.1,hC⟩,⟨is,mk,F,lo',hm1.kept hk12 (fun i hi e => hW.ne.2.1 (e ▸ hi))⟩,hW.ne⟩,rfl,rfl,rfl,hfd,rfl⟩,hkB hK hk12⟩
theorem Ph.below {w w' : World} {B U kb xb mb : Nat} {S : Nat -> Prop} {vs : List Int} {st fl fe client key level r : Int} {i : Nat} (h : Ph w B U kb xb mb S vs st fl fe client key level r i) (hB : Below w.heap.size w w') : Ph w' B U kb xb mb S vs st fl fe client key level r i := by
 rcases h with ⟨rfl,hW⟩ | ⟨j,sb,s,rfl,hW,hs,hI,n⟩
 ·exact .inl ⟨rfl,hW.kept (Keeps.of_below' hB) (fun e => e) (fun e => e) (fun _ _ e => e)⟩
 ·exact .inr ⟨j,sb,s,rfl,hW.kept (Keeps.of_below' hB) (fun e => e) (fun e => e) (fun _ _ e => e),hs.kept (Keeps.of_below' hB) (fun e => e),hI,n⟩
theorem Ph.mem {w : World} {B U kb xb mb : Nat} {S : Nat -> Prop} {vs : List Int} {st fl fe client key level r : Int} {i : Nat} (h : Ph w B U kb xb mb S vs st fl fe client key level r i) : ∃ k,WkW w kb xb mb S vs st fl fe k := by
 rcases h with ⟨rfl,hW⟩ | ⟨j,sb,s,rfl,hW,_⟩
 ·exact ⟨_,hW⟩
 ·exact ⟨_,hW⟩
theorem WkW.stats {w : World} {kb xb mb : Nat} {S : Nat -> Prop} {vs : List Int} {st fl fe : Int} {k : Wk} (h : WkW w kb xb mb S vs st fl fe k) : ∃ lo,Calls Tryz.prog 20 #[.pointer (some ⟨mb,0,none⟩)] w fun e w' => e = .returned (.agg (statCells lo st fl fe)) /\ Below w.heap.size w w' := by
 obtain ⟨is,mk,F,lo,hm⟩ := h.m
 exact ⟨lo,stats_m hm⟩
theorem PhE.below {w w' : World} {kb xb mb : Nat} {S : Nat -> Prop} {vs : List Int} {st fl fe level r : Int} {n0 : Nd} (h : PhE w kb xb mb S vs st fl fe level r n0) (hB : Below w.heap.size w w') : PhE w' kb xb mb S vs st fl fe level r n0 := by
 obtain ⟨k,hW,q⟩ := h
 exact ⟨k,hW.kept (Keeps.of_below' hB) (fun e => e) (fun e => e) (fun _ _ e => e),q⟩
end Go.Proofs.YtodgfbjjjgohgaaGreat
