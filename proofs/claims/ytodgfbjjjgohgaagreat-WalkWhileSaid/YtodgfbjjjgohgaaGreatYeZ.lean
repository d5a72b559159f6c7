/-
 A WALK: look,where it goes on by Next,where it goes down;hop: contracts.
-/
import Derived.Test.YtodgfbjjjgohgaaGreatYcZ
import Derived.Test.YtodgfbjjjgohgaaGreatKsZ
namespace Go.Proofs.YtodgfbjjjgohgaaGreat
open Go.RowKit
attribute [local go_sem] Oper.semAt_some
set_option linter.unusedVariables false

/-! . -/
theorem nchild_v (n : Nd) (key : Int) (w : World) :
  Calls Tryz.prog 87 #[.agg (ndCells n),.int .u64 key] w fun e W' => e = .returned (.int .u64 (n.child key)) /\ Below w.heap.size w W' := by
 have HI := Lib.hid (info27 n)
 have hk1 : Blk (w.alloc (.cells (ndCells n) 46)) w.heap.size (ndCells n) 46 := Blk.new w _ _
 have HK1 := Lib.hid hk1
 have HL := Lib.hid (ndLoad hk1)
 have hg := last_ge n key
 have h8 := n.len_le
 have g2 : n.last key < 8 := by omega
 have HN := Lib.hid (fun w => nlast_calls n key w)
 have HCh := Lib.hid (show n.child key = if 0 <= n.last key then n.p (n.last key).toNat else n.fi from rfl)
 obtain ⟨nb,hnb⟩ : ∃ nb,w.heap.size = nb := ⟨_,rfl⟩
 have Hnb := Lib.hid (show nb < (w.alloc (.cells (ndCells n) 46)).heap.size from by rw [<- hnb];exact hk1.lt)
 rw [hnb] at HK1 HL
 obtain ⟨r,hr⟩ : ∃ r,n.last key = r := ⟨_,rfl⟩
 rw [hr] at hg g2 HN HCh
 obtain ⟨ch,hch⟩ : ∃ ch,n.child key = ch := ⟨_,rfl⟩
 rw [hch] at HCh ⊢
 have HB0 := Lib.hid ((Below.refl w.heap.size w).alloc (Nat.le_refl _) (.cells (ndCells n) 46))
 clear hk1 h8 hr hch
 obtain ⟨g1,_⟩ := hg
 rw [hnb] at HB0
 rcases Int.lt_or_le r 0 with hlt | hge
 ·have HC := Lib.hid (show ch = n.fi from by rw [HCh.out,if_neg (by omega)])
  have hneg : decide (0 <= r) = false := decide_eq_false (by omega)
  clear HCh g1 g2 hlt
  go_enter Tryz.func87,Tryz.ntmps87
  rw [hnb]
  go_wp2_with (with_reducible refine wpList_load_part (o := ⟨some 6,_,_,_,_,_⟩) rfl 46 _ rfl nb 0 rfl (ndCells n) _ HL.out Tryz.underlying46 rfl HI.out ?_)
  refine (HN.out _).mono ?_
  rintro e w1 ⟨rfl,hB⟩
  have c4 : w1.cell? ⟨nb,4,none⟩ = some (.int .u64 n.fi) := (hB.cell (p := ⟨nb,4,none⟩) Hnb.out).trans ((HK1.out.cell 4).trans rfl)
  have HB := Lib.hid (HB0.out.trans (hB.mono (by have := HB0.out.size;omega)))
  clear hB
  go_wp2_with (fail)
  go_ret
  exact ⟨by rw [HC.out];rfl,HB.out⟩
 ·obtain ⟨j,rfl⟩ : ∃ j : Nat,r = j := ⟨r.toNat,by omega⟩
  have HC := Lib.hid (show ch = n.p j from by rw [HCh.out,if_pos hge];congr 1)
  have hj8 : j < 8 := by omega
  clear HCh g1 hge
  go_enter Tryz.func87,Tryz.ntmps87
  rw [hnb]
  go_wp2_with (with_reducible refine wpList_load_part (o := ⟨some 6,_,_,_,_,_⟩) rfl 46 _ rfl nb 0 rfl (ndCells n) _ HL.out Tryz.underlying46 rfl HI.out ?_)
  refine (HN.out _).mono ?_
  rintro e w1 ⟨rfl,hB⟩
  have c4 : w1.cell? ⟨nb,13 + j,none⟩ = some (.int .u64 (n.p j)) := (hB.cell (p := ⟨nb,13 + j,none⟩) Hnb.out).trans ((HK1.out.cell (13 + j)).trans (ndCells_p n j hj8))
  have HB := Lib.hid (HB0.out.trans (hB.mono (by have := HB0.out.size;omega)))
  clear hB
  go_wp2_with (fail)
  go_ret
  exact ⟨by rw [HC.out];rfl,HB.out⟩
/-! . -/
def LaP (n0 mb : Nat) (k : Wk) (v : Value) (W : World) : Prop := ∃ lb g cap,v = .pointer (some ⟨lb,0,none⟩) /\ LsW W lb g cap (some ⟨mb,0,none⟩) k.client k.at_ /\ n0 <= lb /\ n0 <= g
def LaI (n0 mb : Nat) (k : Wk) (v : Value) (W : World) : Prop := ∃ lb g cap,v = .iface 168 (.pointer (some ⟨lb,0,none⟩)) /\ LsW W lb g cap (some ⟨mb,0,none⟩) k.client k.at_ /\ n0 <= lb /\ n0 <= g
theorem LsW.kept {w w' : World} {lb g cap : Nat} {mv : Option Addr} {c a : Int} {S : Nat -> Prop} (h : LsW w lb g cap mv c a) (hk : Keeps S w w') (h1 : ¬ S lb) (h2 : ¬ S g) : LsW w' lb g cap mv c a :=
 ⟨h.b.kept hk h1,(hk.cell (p := ⟨g,0,none⟩) h.gl h2).trans h.gc,by have := hk.size;have := h.gl;omega,h.ne,h.cap⟩
theorem LaP.kept {n0 kb mb : Nat} {k : Wk} {v : Value} {W W' : World} (h : LaP n0 mb k v W) (hn : kb < n0) (hk : Keeps (fun i => i = kb) W W') : LaP n0 mb k v W' := by
 obtain ⟨lb,g,cap,e,hL,h1,h2⟩ := h
 exact ⟨lb,g,cap,e,hL.kept hk (by omega) (by omega),h1,h2⟩
theorem LaI.kept {n0 kb mb : Nat} {k : Wk} {v : Value} {W W' : World} (h : LaI n0 mb k v W) (hn : kb < n0) (hk : Keeps (fun i => i = kb) W W') : LaI n0 mb k v W' := by
 obtain ⟨lb,g,cap,e,hL,h1,h2⟩ := h
 exact ⟨lb,g,cap,e,hL.kept hk (by omega) (by omega),h1,h2⟩
def nxL (kb : Nat) (k : Wk) (q : Bool) : Value := if q = true then .func (.func 86) #[.pointer (some ⟨kb,0,none⟩)] #[] else k.next
structure LkG (W0 : World) (kb : Nat) (k : Wk) (mb : Nat) (L : Nat -> Bool) (W : World) : Prop where
 kp : Keeps (fun i => i = kb) W0 W
 lt : kb < W0.heap.size
 u : ∃ un,Blk W kb (wkCells { k with under := un,next := nxL kb k (L 26) }) 70 /\ (L 23 = true -> LaI W0.heap.size mb k un W)
section
variable {W0 W : World} {kb mb : Nat} {k : Wk} {L : Nat -> Bool}
theorem LkG.start (h : Blk W0 kb (wkCells k) 70) : LkG W0 kb k mb (fun _ => false) W0.drew := ⟨(Keeps.refl _ _).drew,h.lt,k.under,h.drew,fun e => (by cases e)⟩
theorem LkG.keep {L' : Nat -> Bool} (h : LkG W0 kb k mb L W) (e1 : L' 23 = L 23) (e2 : L' 26 = L 26) : LkG W0 kb k mb L' W := ⟨h.kp,h.lt,by rw [e1,e2];exact h.u⟩
theorem LkG.klt (h : LkG W0 kb k mb L W) : kb < W.heap.size := by obtain ⟨un,hb,_⟩ := h.u;exact hb.lt
theorem LkG.below {W' : World} (h : LkG W0 kb k mb L W) (hB : Below W.heap.size W W') : LkG W0 kb k mb L W' := by
 obtain ⟨un,hb,hu⟩ := h.u
 exact ⟨h.kp.trans ((Keeps.of_below' hB).mono (fun _ _ e => e.elim)),h.lt,un,hb.kept (Keeps.of_below' hB) (fun e => e),fun e => (hu e).kept h.lt ((Keeps.of_below' hB).mono (fun _ _ e => e.elim))⟩
theorem LkG.cell0 {xb : Nat} (h : LkG W0 kb k mb L W) (e : k.s = some ⟨xb,0,none⟩) : W.cell? ⟨kb,0,none⟩ = some (.pointer (some ⟨xb,0,none⟩)) := by
 obtain ⟨un,hb,_⟩ := h.u
 exact (hb.cell 0).trans ((wk_hd _ 0 (by decide)).trans (by simp [wkHd,e]))
theorem LkG.cell1 (h : LkG W0 kb k mb L W) : W.cell? ⟨kb,1,none⟩ = some (.int .i64 k.client) := by
 obtain ⟨un,hb,_⟩ := h.u
 exact (hb.cell 1).trans ((wk_hd _ 1 (by decide)).trans rfl)
theorem LkG.cell4 (h : LkG W0 kb k mb L W) : W.cell? ⟨kb,4,none⟩ = some (.int .u64 k.at_) := by
 obtain ⟨un,hb,_⟩ := h.u
 exact (hb.cell 4).trans (wk_4 _)
theorem LkG.cell30 (h : LkG W0 kb k mb L W) : ∃ u,W.cell? ⟨kb,30,none⟩ = some u /\ W.frozen? ⟨kb,30,none⟩ = false := by
 obtain ⟨un,hb,_⟩ := h.u
 exact ⟨_,(hb.cell 30).trans ((wk_tl _ 2).trans rfl),hb.frozen 30⟩
theorem LkG.cell31 (h : LkG W0 kb k mb L W) : ∃ u,W.cell? ⟨kb,31,none⟩ = some u /\ W.frozen? ⟨kb,31,none⟩ = false := by
 obtain ⟨un,hb,_⟩ := h.u
 exact ⟨_,(hb.cell 31).trans ((wk_tl _ 3).trans rfl),hb.frozen 31⟩
theorem LkG.under (h : LkG W0 kb k mb L W) {lb g cap : Nat} (hL : LsW W lb g cap (some ⟨mb,0,none⟩) k.client k.at_) (h1 : W0.heap.size <= lb) (h2 : W0.heap.size <= g) : LkG W0 kb k mb (lset L 23) (W.setCell ⟨kb,30,none⟩ (.iface 168 (.pointer (some ⟨lb,0,none⟩)))) := by
 obtain ⟨un,hb,hu⟩ := h.u
 have hk : Keeps (fun i => i = kb) W (W.setCell ⟨kb,30,none⟩ (.iface 168 (.pointer (some ⟨lb,0,none⟩)))) := (Keeps.refl (fun i => i = kb) W).setCell (p := ⟨kb,30,none⟩) (.inl rfl) _
 have hb2 := hb.set 30 (.iface 168 (.pointer (some ⟨lb,0,none⟩)))
 rw [wk_setUnder] at hb2
 have hl := h.lt
 exact ⟨h.kp.trans hk,h.lt,_,hb2,fun _ => ⟨lb,g,cap,rfl,hL.kept hk (by omega) (by omega),h1,h2⟩⟩
theorem LkG.next (h : LkG W0 kb k mb L W) : LkG W0 kb k mb (lset L 26) (W.setCell ⟨kb,31,none⟩ (.func (.func 86) #[.pointer (some ⟨kb,0,none⟩)] #[])) := by
 obtain ⟨un,hb,hu⟩ := h.u
 have hk : Keeps (fun i => i = kb) W (W.setCell ⟨kb,31,none⟩ (.func (.func 86) #[.pointer (some ⟨kb,0,none⟩)] #[])) := (Keeps.refl (fun i => i = kb) W).setCell (p := ⟨kb,31,none⟩) (.inl rfl) _
 have hb2 := hb.set 31 (.func (.func 86) #[.pointer (some ⟨kb,0,none⟩)] #[])
 rw [wk_setNext] at hb2
 exact ⟨h.kp.trans hk,h.lt,un,hb2,fun e => (hu e).kept h.lt hk⟩
theorem LkG.end_ (h : LkG W0 kb k mb L W) (h1 : L 23 = true) (h2 : L 26 = true) : Keeps (fun i => i = kb) W0 W /\ ∃ lb g cap,LsW W lb g cap (some ⟨mb,0,none⟩) k.client k.at_ /\ W0.heap.size <= lb /\ W0.heap.size <= g /\ Blk W kb (wkCells { k with under := .iface 168 (.pointer (some ⟨lb,0,none⟩)),next := .func (.func 86) #[.pointer (some ⟨kb,0,none⟩)] #[] }) 70 := by
 obtain ⟨un,hb,hu⟩ := h.u
 obtain ⟨lb,g,cap,rfl,hL,h3,h4⟩ := hu h1
 rw [h2] at hb
 exact ⟨h.kp,lb,g,cap,hL,h3,h4,hb⟩
end
def laI (lb : Nat) : Value := .iface 168 (.pointer (some ⟨lb,0,none⟩))
def wkHop (k : Wk) (kb lb : Nat) : Wk := { k with under := laI lb,next := .func (.func 86) #[.pointer (some ⟨kb,0,none⟩)] #[] }
set_option maxRecDepth 100000 in
set_option maxHeartbeats 16000000 in
theorem wlook_next (w : World) (kb sb xb mb : Nat) (k : Wk) {P : Sn -> World -> Prop} (hb : Blk w kb (wkCells k) 70) (hu : k.under = snI sb) (hs0 : k.s = some ⟨xb,0,none⟩)
  (hS : Calls Tryz.prog 124 #[.pointer (some ⟨sb,0,none⟩)] w fun e w' => e = .returned (.tuple #[.bool true,.int .i64 0]) /\ Blk w' kb (wkCells k) 70 /\ ∃ s,Blk w' sb (snCells s) 164 /\ s.over = true /\ s.e = 0 /\ (∃ f,s.step = phV sb f) /\ (s.has = true /\ s.high <= k.key) /\ (∃ C,Blk w' xb C 88 /\ C[0]? = some (.pointer (some ⟨mb,0,none⟩))) /\ P s w')
  (hne : sb ≠ kb) (hxk : xb ≠ kb) :
  Calls Tryz.prog 72 #[.pointer (some ⟨kb,0,none⟩)] w fun e w' => ∃ s lb g cap,e = .returned (.tuple #[.bool false,.int .i64 0]) /\ Blk w' kb (wkCells (wkHop (wkSeen k s.found s.high true) kb lb)) 70 /\ LsW w' lb g cap (some ⟨mb,0,none⟩) k.client k.at_ /\ ∃ w2,P s w2 /\ Keeps (fun i => i = kb) w2 w' /\ w2.heap.size <= lb /\ w2.heap.size <= g := by
 have hs0' := Lib.hid hs0
 have hxk' := Lib.hid hxk
 clear hs0 hxk
 have HS := Lib.hid hS
 have HU := Lib.hid hu
 have c30 : w.cell? ⟨kb,30,none⟩ = some (.iface 151 (.pointer (some ⟨sb,0,none⟩))) := (hb.cell 30).trans ((wk_tl _ 2).trans (by rw [show (wkTl k)[2]? = some k.under from rfl,hu];rfl))
 clear hb hu hS
 go_enter Tryz.func72,Tryz.ntmps72
 go_wp2_with (fail)
 refine HS.out.mono ?_
 rintro e w2 ⟨rfl,hb2,s,hs2,ho,he,⟨f,hf⟩,hR,hP⟩
 have d30 : w2.cell? ⟨kb,30,none⟩ = some (.iface 151 (.pointer (some ⟨sb,0,none⟩))) := (hb2.cell 30).trans ((wk_tl _ 2).trans (by rw [show (wkTl k)[2]? = some k.under from rfl,HU.out];rfl))
 have hta := ta_sn sb
 have hnp : nodeP s = (s.found,0) := by unfold nodeP;rw [ho,if_neg (by decide),he,if_neg (fun h => h rfl)]
 have hhp : highP s = if s.has = true then (s.high,true) else (0,false) := by unfold highP;rw [hnp,if_pos rfl]
 have hno := node_v s sb f w2 hs2 hf
 rw [hnp] at hno
 have HNo := Lib.hid hno
 have HB2 := Lib.hid hb2
 have HS2 := Lib.hid hs2
 have HP := Lib.hid hP
 have HHp := Lib.hid hhp
 have HKh := Lib.hid hR
 clear hb2 hs2 hP hno HS ho he hnp hhp hR
 go_wp2_with (fail)
 refine HNo.out.mono ?_
 rintro e w3 ⟨rfl,hB3⟩
 have hb3 := HB2.out.below hB3 HB2.out.lt
 have hs3 := HS2.out.below hB3 HS2.out.lt
 have hb4 := Blk.mid (ndCells s.found).toList 5 hb3
 rw [wk_putN] at hb4
 have hk4 : Keeps (fun i => i = kb) w3 (w3.setCells kb 5 (ndCells s.found).toList) := keeps_setCells (S := fun i => i = kb) (.inl rfl) _ 5 (Keeps.refl _ _)
 have hs4 := hs3.kept hk4 hne
 have HB3 := Lib.hid hb3
 obtain ⟨w4,hw4⟩ : ∃ w4,w3.setCells kb 5 (ndCells s.found).toList = w4 := ⟨_,rfl⟩
 rw [hw4] at hb4 hk4 hs4
 have HW4 := Lib.hid hw4
 have HB4 := Lib.hid hb4
 have HK4 := Lib.hid (((Keeps.of_below' hB3).mono (fun _ _ h => h.elim)).trans hk4)
 have HHi := Lib.hid (high_v s sb f w4 hs4 hf)
 clear hb3 hs3 hb4 hk4 hs4 hw4 hB3 d30 hta
 go_upto_region 6 with ((with_reducible refine wpList_store_ndm (o := ⟨none,.store 46 (.tmp 45) (.tmp 41),_,_,_,_⟩) ?hgM (.tmp 45) (.tmp 41) ?hoM kb 5 s.found (ndCells s.found) ?CCM 70 ?hxM ?hyM ?hmM ?hbM ?hsM ?_);(case hgM => rfl);(case hoM => rfl);(case hxM => rfl);(case hyM => rfl);(case hmM => rfl);(case hbM => exact HB3.out);(case hsM => rw [wkCells_size];decide))
 rw [HW4.out]
 clear HW4 HB3
 simp [Act.put]
 go_wp2_with (fail)
 refine HHi.out.mono ?_
 rintro e w5 ⟨rfl,hB5⟩
 obtain ⟨hw,hs,hhp⟩ : ∃ hw hs,highP s = (hw,hs) := ⟨_,_,rfl⟩
 have HHw := Lib.hid (show (hw,hs) = if s.has = true then (s.high,true) else (0,false) from by rw [<- hhp];exact HHp.out)
 rw [hhp]
 have hb5 := HB4.out.below hB5 HB4.out.lt
 have c26 : w5.cell? ⟨kb,26,none⟩ = some (.int .u64 k.high) := (hb5.cell 26).trans (wk_26 _)
 have f26 : w5.frozen? ⟨kb,26,none⟩ = false := hb5.frozen 26
 have c27 : w5.cell? ⟨kb,27,none⟩ = some (.bool k.has) := (hb5.cell 27).trans (wk_27 _)
 have f27 : w5.frozen? ⟨kb,27,none⟩ = false := hb5.frozen 27
 have hb6 := (hb5.set 26 (.int .u64 hw)).set 27 (.bool hs)
 rw [wk_set26,wk_set27] at hb6
 have hk6 : Keeps (fun i => i = kb) w5 ((w5.setCell ⟨kb,26,none⟩ (.int .u64 hw)).setCell ⟨kb,27,none⟩ (.bool hs)) := ((Keeps.refl (fun i => i = kb) w5).setCell (p := ⟨kb,26,none⟩) (.inl rfl) _).setCell (p := ⟨kb,27,none⟩) (.inl rfl) _
 have HK6 := Lib.hid ((HK4.out.trans ((Keeps.of_below' hB5).mono (fun _ _ h => h.elim))).trans hk6)
 obtain ⟨k2,hk2⟩ : ∃ k2,wkSeen k s.found hw hs = k2 := ⟨_,rfl⟩
 have hb6' : Blk ((w5.setCell ⟨kb,26,none⟩ (.int .u64 hw)).setCell ⟨kb,27,none⟩ (.bool hs)) kb (wkCells k2) 70 := by rw [<- hk2];exact hb6
 have HB5 := Lib.hid hb6'
 have HQ := Lib.hid (show k2.has = hs /\ k2.key = k.key /\ k2.high = hw /\ k2.level = k.level /\ k2.n.lv = s.found.lv from by rw [<- hk2];exact ⟨rfl,rfl,rfl,rfl,rfl⟩)
 have HK2 := Lib.hid hk2
 clear hb5 hb6 hb6' hk6 hk2 hB5 HNo HHi HS2 HB2 HB4 HK4
 go_upto_region 8 with (fail)
 obtain ⟨w6,hw6⟩ : ∃ w6,(w5.setCell ⟨kb,26,none⟩ (.int .u64 hw)).setCell ⟨kb,27,none⟩ (.bool hs) = w6 := ⟨_,rfl⟩
 rw [hw6] at HB5 HK6 ⊢
 clear hw6 c26 f26 c27 f27
 obtain ⟨rfl,rfl⟩ : hs = true /\ hw = s.high := by
  have h := HHw.out
  rw [if_pos HKh.out.1] at h
  injection h with h1 h2
  exact ⟨h2,h1⟩
 obtain ⟨w5,rfl⟩ : ∃ w5,w5 = w6 := ⟨_,rfl⟩
 have Hhs := Lib.hid HQ.out.1
 have HGe := Lib.hid (show decide (k2.high <= k2.key) = true from decide_eq_true (by
  have h1 := HQ.out.2.1
  have h2 := HQ.out.2.2.1
  have h3 := HKh.out.2
  omega))
 refine wp_region_vals [Is (.pointer (some ⟨kb,0,none⟩)),Is (.pointer (some ⟨kb,0,none⟩)),Is (.pointer (some ⟨kb,4,none⟩)),Is (.pointer (some ⟨kb,27,none⟩)),Is (.bool true),Is (.bool true),Is (.pointer (some ⟨kb,0,none⟩)),Is (.pointer (some ⟨kb,0,none⟩)),Is (.pointer (some ⟨kb,2,none⟩)),Is (.int .u64 k2.key),Is (.pointer (some ⟨kb,0,none⟩)),Is (.pointer (some ⟨kb,0,none⟩)),Is (.pointer (some ⟨kb,4,none⟩)),Is (.pointer (some ⟨kb,26,none⟩)),Is (.int .u64 k2.high),Is (.bool true),Is (.bool true),Is (.bool true)]
  (fun _ _ _ => True) (fun _ W => Below w5.heap.size w5 W) (by kernel_rfl) (by kernel_rfl) (by kernel_rfl) ?hst ?h0 ⟨?o0,?o1,?o2,?o3,?o4,?o5,?o6,?o7,?o8,?o9,?o10,?o11,?o12,?o13,?o14,?o15,?o16,?o17,trivial⟩ ?he
 any_goals (intro L vs A W H hf hd K hK)
 case hst => repeat' (first | exact trivial | refine ⟨fun _ _ _ _ _ _ h _ => h,?_⟩)
 case h0 =>
  exact (Below.refl _ w5).drew
 case o0 => have e0 : A.tmps[0]?.getD undef = .pointer (some ⟨kb,0,none⟩) := H.old 0 (by kernel_rfl);go_simp;exact hK _ _ (trivial) rfl (H.glob)
 case o1 => have e60 := H.iz hd 0 60 rfl rfl rfl (by kernel_rfl);go_simp;exact hK _ _ (trivial) rfl (H.glob)
 case o2 => have e61 := H.iz hd 1 61 rfl rfl rfl (by kernel_rfl);go_simp;exact hK _ _ (trivial) rfl (H.glob)
 case o3 => have e62 := H.iz hd 2 62 rfl rfl rfl (by kernel_rfl);go_simp;exact hK _ _ (trivial) rfl (H.glob)
 case o4 => have e63 := H.iz hd 3 63 rfl rfl rfl (by kernel_rfl);have d : W.cell? ⟨kb,27,none⟩ = some (.bool true) := (H.glob.cell (p := ⟨kb,27,none⟩) HB5.out.lt).trans ((HB5.out.cell 27).trans ((wk_27 _).trans (by rw [Hhs.out])));go_simp;exact hK _ _ (trivial) rfl (H.glob)
 case o5 => have e64 := H.iz hd 4 64 rfl rfl rfl (by kernel_rfl);go_simp;exact hK _ _ (trivial) rfl (H.glob)
 case o6 => have e65 := H.iz hd 5 65 rfl rfl rfl (by kernel_rfl);refine if_wanted (j := 5) (s := 65) rfl rfl rfl e65 rfl ?_;have e0 : A.tmps[0]?.getD undef = .pointer (some ⟨kb,0,none⟩) := H.old 0 (by kernel_rfl);go_simp;exact hK _ _ (trivial) rfl (H.glob)
 case o7 => have e65 := H.iz hd 5 65 rfl rfl rfl (by kernel_rfl);refine if_wanted (j := 5) (s := 65) rfl rfl rfl e65 rfl ?_;have e66 := H.iz hd 6 66 rfl rfl rfl (by kernel_rfl);go_simp;exact hK _ _ (trivial) rfl (H.glob)
 case o8 => have e65 := H.iz hd 5 65 rfl rfl rfl (by kernel_rfl);refine if_wanted (j := 5) (s := 65) rfl rfl rfl e65 rfl ?_;have e67 := H.iz hd 7 67 rfl rfl rfl (by kernel_rfl);go_simp;exact hK _ _ (trivial) rfl (H.glob)
 case o9 => have e65 := H.iz hd 5 65 rfl rfl rfl (by kernel_rfl);refine if_wanted (j := 5) (s := 65) rfl rfl rfl e65 rfl ?_;have e68 := H.iz hd 8 68 rfl rfl rfl (by kernel_rfl);have d : W.cell? ⟨kb,2,none⟩ = some (.int .u64 k2.key) := (H.glob.cell (p := ⟨kb,2,none⟩) HB5.out.lt).trans ((HB5.out.cell 2).trans ((wk_hd _ 2 (by decide)).trans rfl));go_simp;exact hK _ _ (trivial) rfl (H.glob)
 case o10 => have e65 := H.iz hd 5 65 rfl rfl rfl (by kernel_rfl);refine if_wanted (j := 5) (s := 65) rfl rfl rfl e65 rfl ?_;have e0 : A.tmps[0]?.getD undef = .pointer (some ⟨kb,0,none⟩) := H.old 0 (by kernel_rfl);go_simp;exact hK _ _ (trivial) rfl (H.glob)
 case o11 => have e65 := H.iz hd 5 65 rfl rfl rfl (by kernel_rfl);refine if_wanted (j := 5) (s := 65) rfl rfl rfl e65 rfl ?_;have e70 := H.iz hd 10 70 rfl rfl rfl (by kernel_rfl);go_simp;exact hK _ _ (trivial) rfl (H.glob)
 case o12 => have e65 := H.iz hd 5 65 rfl rfl rfl (by kernel_rfl);refine if_wanted (j := 5) (s := 65) rfl rfl rfl e65 rfl ?_;have e71 := H.iz hd 11 71 rfl rfl rfl (by kernel_rfl);go_simp;exact hK _ _ (trivial) rfl (H.glob)
 case o13 => have e65 := H.iz hd 5 65 rfl rfl rfl (by kernel_rfl);refine if_wanted (j := 5) (s := 65) rfl rfl rfl e65 rfl ?_;have e72 := H.iz hd 12 72 rfl rfl rfl (by kernel_rfl);go_simp;exact hK _ _ (trivial) rfl (H.glob)
 case o14 => have e65 := H.iz hd 5 65 rfl rfl rfl (by kernel_rfl);refine if_wanted (j := 5) (s := 65) rfl rfl rfl e65 rfl ?_;have e73 := H.iz hd 13 73 rfl rfl rfl (by kernel_rfl);have d : W.cell? ⟨kb,26,none⟩ = some (.int .u64 k2.high) := (H.glob.cell (p := ⟨kb,26,none⟩) HB5.out.lt).trans ((HB5.out.cell 26).trans (wk_26 _));go_simp;exact hK _ _ (trivial) rfl (H.glob)
 case o15 => have e65 := H.iz hd 5 65 rfl rfl rfl (by kernel_rfl);refine if_wanted (j := 5) (s := 65) rfl rfl rfl e65 rfl ?_;have e69 := H.iz hd 9 69 rfl rfl rfl (by kernel_rfl);have e74 := H.iz hd 14 74 rfl rfl rfl (by kernel_rfl);have hq := HGe.out;go_simp;exact hK _ _ (trivial) rfl (H.glob)
 case o16 => have e65 := H.iz hd 5 65 rfl rfl rfl (by kernel_rfl);have e75 := H.iz hd 15 75 rfl rfl rfl (by kernel_rfl);go_simp;exact hK _ _ (trivial) rfl (H.glob)
 case o17 => have e76 := H.iz hd 16 76 rfl rfl rfl (by kernel_rfl);go_simp;exact hK _ _ (trivial) rfl (H.glob)
 case he =>
  intro vs W hlen hv
  match vs,hlen,hv with
  | [x0_,x1_,x2_,x3_,x4_,x5_,x6_,x7_,x8_,x9_,x10_,x11_,x12_,x13_,x14_,x15_,x16_,x17_],_,hv =>
  obtain rfl := isv hv 0 rfl rfl;obtain rfl := isv hv 1 rfl rfl;obtain rfl := isv hv 2 rfl rfl;obtain rfl := isv hv 3 rfl rfl;obtain rfl := isv hv 4 rfl rfl;obtain rfl := isv hv 5 rfl rfl;obtain rfl := isv hv 6 rfl rfl;obtain rfl := isv hv 7 rfl rfl;obtain rfl := isv hv 8 rfl rfl;obtain rfl := isv hv 9 rfl rfl;obtain rfl := isv hv 10 rfl rfl;obtain rfl := isv hv 11 rfl rfl;obtain rfl := isv hv 12 rfl rfl;obtain rfl := isv hv 13 rfl rfl;obtain rfl := isv hv 14 rfl rfl;obtain rfl := isv hv 15 rfl rfl;obtain rfl := isv hv 16 rfl rfl;obtain rfl := isv hv 17 rfl rfl
  intro L hall hG
  clear hv hlen
  have HB9 := Lib.hid hG
  clear hG hall
  simp only [fill,if_true]
  simp [Act.put]
  have HB7 := Lib.hid (HB5.out.below HB9.out HB5.out.lt)
  have HK7 := Lib.hid (HK6.out.trans ((Keeps.of_below' HB9.out).mono (fun _ _ h => h.elim)))
  obtain ⟨W7,rfl⟩ : ∃ W7,W7 = W := ⟨_,rfl⟩
  clear HB5 HK6 HB9
  have HSx := Lib.hid (show k2.s = some ⟨xb,0,none⟩ from by rw [<- HK2.out];exact hs0'.out)
  have HSm := Lib.hid (show ∀ W,Keeps (fun i => i = kb) W7 W -> Calls Tryz.prog 14 #[.pointer (some ⟨xb,0,none⟩)] W fun e w' => e = .returned (.pointer (some ⟨mb,0,none⟩)) /\ W = w' from fun W hk => by
   obtain ⟨⟨C,hx,hC⟩,_⟩ := HP.out
   exact smem_v W xb C _ ((hx.kept HK7.out hxk'.out).kept hk hxk'.out) hC)
  go_wp2_with (fail)
  refine wp_region_vals [Is (.pointer (some ⟨kb,0,none⟩)),Is (.pointer (some ⟨kb,0,none⟩)),Is (.pointer (some ⟨kb,0,none⟩)),Is (.pointer (some ⟨kb,0,none⟩)),Is (.pointer (some ⟨kb,0,none⟩)),Is (.pointer (some ⟨xb,0,none⟩)),Is (.pointer (some ⟨mb,0,none⟩)),Is (.pointer (some ⟨kb,0,none⟩)),Is (.pointer (some ⟨kb,0,none⟩)),Is (.pointer (some ⟨kb,1,none⟩)),Is (.int .i64 k2.client),Is (.pointer (some ⟨kb,0,none⟩)),Is (.pointer (some ⟨kb,0,none⟩)),Is (.pointer (some ⟨kb,4,none⟩)),Is (.pointer (some ⟨kb,4,none⟩)),Is (.int .u64 k2.at_),(fun v W => ∃ g,v = .slice (some ⟨g,0,none⟩) 1 1 /\ Blk W g #[.int .u64 k2.at_] 39 /\ g ≠ kb),(LaP W7.heap.size mb k2),(LaI W7.heap.size mb k2),Is (.pointer (some ⟨kb,0,none⟩)),Is (.func (.func 86) #[.pointer (some ⟨kb,0,none⟩)] #[]),Is (.pointer (some ⟨kb,0,none⟩)),Is (.pointer (some ⟨kb,30,none⟩)),Any,Is (.pointer (some ⟨kb,0,none⟩)),Is (.pointer (some ⟨kb,31,none⟩)),Any]
   (fun _ => Keeps (fun i => i = kb)) (fun L W => LkG W7 kb k2 mb L W) (by kernel_rfl) (by kernel_rfl) (by kernel_rfl) ?hst ?h0 ⟨?o0,?o1,?o2,?o3,?o4,?o5,?o6,?o7,?o8,?o9,?o10,?o11,?o12,?o13,?o14,?o15,?o16,?o17,?o18,?o19,?o20,?o21,?o22,?o23,?o24,?o25,?o26,trivial⟩ ?he
  any_goals (intro L vs A W H hf hd K hK)
  case hst =>
   exact ⟨(fun _ _ _ _ _ _ h _ => h),(fun _ _ _ _ _ _ h _ => h),(fun _ _ _ _ _ _ h _ => h),(fun _ _ _ _ _ _ h _ => h),(fun _ _ _ _ _ _ h _ => h),(fun _ _ _ _ _ _ h _ => h),(fun _ _ _ _ _ _ h _ => h),(fun _ _ _ _ _ _ h _ => h),(fun _ _ _ _ _ _ h _ => h),(fun _ _ _ _ _ _ h _ => h),(fun _ _ _ _ _ _ h _ => h),(fun _ _ _ _ _ _ h _ => h),(fun _ _ _ _ _ _ h _ => h),(fun _ _ _ _ _ _ h _ => h),(fun _ _ _ _ _ _ h _ => h),(fun _ _ _ _ _ _ h _ => h),(fun _ _ _ _ _ _ h hR => by obtain ⟨g,e,hb,hn⟩ := h;exact ⟨g,e,hb.kept hR hn,hn⟩),(fun _ _ _ _ _ _ h hR => h.kept HB7.out.lt hR),(fun _ _ _ _ _ _ h hR => h.kept HB7.out.lt hR),(fun _ _ _ _ _ _ h _ => h),(fun _ _ _ _ _ _ h _ => h),(fun _ _ _ _ _ _ h _ => h),(fun _ _ _ _ _ _ h _ => h),(fun _ _ _ _ _ _ h _ => h),(fun _ _ _ _ _ _ h _ => h),(fun _ _ _ _ _ _ h _ => h),(fun _ _ _ _ _ _ h _ => h),trivial⟩
  case h0 =>
   exact LkG.start HB7.out
  case o0 => have e0 : A.tmps[0]?.getD undef = .pointer (some ⟨kb,0,none⟩) := H.old 0 (by kernel_rfl);go_simp;exact hK _ _ (Keeps.refl _ _) rfl (H.glob.keep rfl rfl)
  case o1 => have e0 : A.tmps[0]?.getD undef = .pointer (some ⟨kb,0,none⟩) := H.old 0 (by kernel_rfl);go_simp;exact hK _ _ (Keeps.refl _ _) rfl (H.glob.keep rfl rfl)
  case o2 => have e0 : A.tmps[0]?.getD undef = .pointer (some ⟨kb,0,none⟩) := H.old 0 (by kernel_rfl);go_simp;exact hK _ _ (Keeps.refl _ _) rfl (H.glob.keep rfl rfl)
  case o3 => have e79 := H.iz hd 2 79 rfl rfl rfl (by kernel_rfl);go_simp;exact hK _ _ (Keeps.refl _ _) rfl (H.glob.keep rfl rfl)
  case o4 => have e80 := H.iz hd 3 80 rfl rfl rfl (by kernel_rfl);go_simp;exact hK _ _ (Keeps.refl _ _) rfl (H.glob.keep rfl rfl)
  case o5 => have e81 := H.iz hd 4 81 rfl rfl rfl (by kernel_rfl);have d : W.cell? ⟨kb,0,none⟩ = some (.pointer (some ⟨xb,0,none⟩)) := H.glob.cell0 HSx.out;go_simp;exact hK _ _ (Keeps.refl _ _) rfl (H.glob.keep rfl rfl)
  case o6 => have e82 := H.iz hd 5 82 rfl rfl rfl (by kernel_rfl);have hC := HSm.out W H.glob.kp;go_simp;refine hC.mono ?_;rintro e w' ⟨rfl,rfl⟩;go_simp;exact hK _ _ (Keeps.refl _ _) rfl (H.glob.keep rfl rfl)
  case o7 => have e0 : A.tmps[0]?.getD undef = .pointer (some ⟨kb,0,none⟩) := H.old 0 (by kernel_rfl);go_simp;exact hK _ _ (Keeps.refl _ _) rfl (H.glob.keep rfl rfl)
  case o8 => have e84 := H.iz hd 7 84 rfl rfl rfl (by kernel_rfl);go_simp;exact hK _ _ (Keeps.refl _ _) rfl (H.glob.keep rfl rfl)
  case o9 => have e85 := H.iz hd 8 85 rfl rfl rfl (by kernel_rfl);go_simp;exact hK _ _ (Keeps.refl _ _) rfl (H.glob.keep rfl rfl)
  case o10 => have e86 := H.iz hd 9 86 rfl rfl rfl (by kernel_rfl);have d : W.cell? ⟨kb,1,none⟩ = some (.int .i64 k2.client) := H.glob.cell1;go_simp;exact hK _ _ (Keeps.refl _ _) rfl (H.glob.keep rfl rfl)
  case o11 => have e0 : A.tmps[0]?.getD undef = .pointer (some ⟨kb,0,none⟩) := H.old 0 (by kernel_rfl);go_simp;exact hK _ _ (Keeps.refl _ _) rfl (H.glob.keep rfl rfl)
  case o12 => have e88 := H.iz hd 11 88 rfl rfl rfl (by kernel_rfl);go_simp;exact hK _ _ (Keeps.refl _ _) rfl (H.glob.keep rfl rfl)
  case o13 => have e89 := H.iz hd 12 89 rfl rfl rfl (by kernel_rfl);go_simp;exact hK _ _ (Keeps.refl _ _) rfl (H.glob.keep rfl rfl)
  case o14 => have e90 := H.iz hd 13 90 rfl rfl rfl (by kernel_rfl);go_simp;exact hK _ _ (Keeps.refl _ _) rfl (H.glob.keep rfl rfl)
  case o15 => have e91 := H.iz hd 14 91 rfl rfl rfl (by kernel_rfl);have d : W.cell? ⟨kb,4,none⟩ = some (.int .u64 k2.at_) := H.glob.cell4;go_simp;exact hK _ _ (Keeps.refl _ _) rfl (H.glob.keep rfl rfl)
  case o16 => have e92 := H.iz hd 15 92 rfl rfl rfl (by kernel_rfl);have hlt := H.glob.klt;go_simp;exact hK _ _ ((Keeps.refl _ _).alloc _) ⟨_,rfl,Blk.new _ _ _,by omega⟩ ((H.glob.below ((Below.refl _ _).alloc (Nat.le_refl _) _)).keep rfl rfl)
  case o17 => have e83 := H.iz hd 6 83 rfl rfl rfl (by kernel_rfl);have e87 := H.iz hd 10 87 rfl rfl rfl (by kernel_rfl);obtain ⟨v93,e93,q93⟩ := H.val 16 93 rfl rfl rfl (deps_of' hd 16 (by kernel_rfl)) (by kernel_rfl);obtain ⟨g,rfl,hbg,hgn⟩ := q93;have hlt := H.glob.klt;have hNL := newLast_v (some ⟨mb,0,none⟩) k2.client k2.at_ g W hbg;go_simp;refine hNL.mono ?_;rintro e w' ⟨lb,g',cap,rfl,hL,hl1,hl2,hB⟩;go_simp;exact hK _ _ ((Keeps.of_below' hB).mono (fun _ _ e => e.elim)) ⟨lb,g',cap,rfl,hL,Nat.le_trans H.glob.kp.size hl1,Nat.le_trans H.glob.kp.size hl2⟩ ((H.glob.below hB).keep rfl rfl)
  case o18 => obtain ⟨v94,e94,q94⟩ := H.val 17 94 rfl rfl rfl (deps_of' hd 17 (by kernel_rfl)) (by kernel_rfl);obtain ⟨lb,g',cap,rfl,hL,hl1,hl2⟩ := q94;go_simp;exact hK _ _ (Keeps.refl _ _) ⟨lb,g',cap,rfl,hL,hl1,hl2⟩ (H.glob.keep rfl rfl)
  case o19 => have e0 : A.tmps[0]?.getD undef = .pointer (some ⟨kb,0,none⟩) := H.old 0 (by kernel_rfl);go_simp;exact hK _ _ (Keeps.refl _ _) rfl (H.glob.keep rfl rfl)
  case o20 => have e96 := H.iz hd 19 96 rfl rfl rfl (by kernel_rfl);go_simp;exact hK _ _ (Keeps.refl _ _) rfl (H.glob.keep rfl rfl)
  case o21 => have e77 := H.iz hd 0 77 rfl rfl rfl (by kernel_rfl);go_simp;exact hK _ _ (Keeps.refl _ _) rfl (H.glob.keep rfl rfl)
  case o22 => have e98 := H.iz hd 21 98 rfl rfl rfl (by kernel_rfl);go_simp;exact hK _ _ (Keeps.refl _ _) rfl (H.glob.keep rfl rfl)
  case o23 => have e99 := H.iz hd 22 99 rfl rfl rfl (by kernel_rfl);obtain ⟨v95,e95,q95⟩ := H.val 18 95 rfl rfl rfl (deps_of' hd 18 (by kernel_rfl)) (by kernel_rfl);obtain ⟨lb,g',cap,rfl,hL,hl1,hl2⟩ := q95;obtain ⟨u0,d,f⟩ := H.glob.cell30;go_simp;exact hK undef _ ((Keeps.refl (fun i => i = kb) _).setCell (p := ⟨kb,30,none⟩) (.inl rfl) _) trivial (H.glob.under hL hl1 hl2)
  case o24 => have e78 := H.iz hd 1 78 rfl rfl rfl (by kernel_rfl);go_simp;exact hK _ _ (Keeps.refl _ _) rfl (H.glob.keep rfl rfl)
  case o25 => have e100 := H.iz hd 24 100 rfl rfl rfl (by kernel_rfl);go_simp;exact hK _ _ (Keeps.refl _ _) rfl (H.glob.keep rfl rfl)
  case o26 => have e101 := H.iz hd 25 101 rfl rfl rfl (by kernel_rfl);have e97 := H.iz hd 20 97 rfl rfl rfl (by kernel_rfl);obtain ⟨u0,d,f⟩ := H.glob.cell31;go_simp;exact hK undef _ ((Keeps.refl (fun i => i = kb) _).setCell (p := ⟨kb,31,none⟩) (.inl rfl) _) trivial H.glob.next
  case he =>
   intro vs W hlen hv
   match vs,hlen,hv with
   | [x0_,x1_,x2_,x3_,x4_,x5_,x6_,x7_,x8_,x9_,x10_,x11_,x12_,x13_,x14_,x15_,x16_,x17_,x18_,x19_,x20_,x21_,x22_,x23_,x24_,x25_,x26_],_,hv =>
   obtain rfl := isv hv 0 rfl rfl;obtain rfl := isv hv 1 rfl rfl;obtain rfl := isv hv 2 rfl rfl;obtain rfl := isv hv 3 rfl rfl;obtain rfl := isv hv 4 rfl rfl;obtain rfl := isv hv 5 rfl rfl;obtain rfl := isv hv 6 rfl rfl;obtain rfl := isv hv 7 rfl rfl;obtain rfl := isv hv 8 rfl rfl;obtain rfl := isv hv 9 rfl rfl;obtain rfl := isv hv 10 rfl rfl;obtain rfl := isv hv 11 rfl rfl;obtain rfl := isv hv 12 rfl rfl;obtain rfl := isv hv 13 rfl rfl;obtain rfl := isv hv 14 rfl rfl;obtain rfl := isv hv 15 rfl rfl
   have hx16 : ((fun v W => ∃ g,v = .slice (some ⟨g,0,none⟩) 1 1 /\ Blk W g #[.int .u64 k2.at_] 39 /\ g ≠ kb)) x16_ W := by obtain ⟨z,h1,h2⟩ := hv 16 _ rfl;cases h1;exact h2
   have hx17 : ((LaP W7.heap.size mb k2)) x17_ W := by obtain ⟨z,h1,h2⟩ := hv 17 _ rfl;cases h1;exact h2
   have hx18 : ((LaI W7.heap.size mb k2)) x18_ W := by obtain ⟨z,h1,h2⟩ := hv 18 _ rfl;cases h1;exact h2
   obtain rfl := isv hv 19 rfl rfl;obtain rfl := isv hv 20 rfl rfl;obtain rfl := isv hv 21 rfl rfl;obtain rfl := isv hv 22 rfl rfl;obtain rfl := isv hv 24 rfl rfl;obtain rfl := isv hv 25 rfl rfl
   intro L hall hG
   clear hv hlen
   have HG := Lib.hid (hG.end_ (hall 23 (by decide)) (hall 26 (by decide)))
   clear hG hall
   simp only [fill,if_true]
   obtain ⟨hkE,lb,g,cap,hLE,hl1,hl2,hbE⟩ := HG.out
   have HE := Lib.hid (show Blk W kb (wkCells (wkHop (wkSeen k s.found s.high true) kb lb)) 70 /\ LsW W lb g cap (some ⟨mb,0,none⟩) k.client k.at_ /\ ∃ w2,P s w2 /\ Keeps (fun i => i = kb) w2 W /\ w2.heap.size <= lb /\ w2.heap.size <= g from by
    have hsz := HK7.out.size
    refine ⟨?_,?_,w2,HP.out.2,HK7.out.trans hkE,by omega,by omega⟩
    ·rw [HK2.out];exact hbE
    ·rw [<- HK2.out] at hLE;exact hLE)
   clear HG hkE hLE hl1 hl2 hbE
   simp [Act.put]
   go_wp2_with (fail)
   go_ret2
   refine ⟨rfl,?_⟩
   exact ⟨s,lb,HE.out.1,g,⟨cap,HE.out.2.1⟩,HE.out.2.2⟩
/-! . -/
structure DnG (W0 : World) (kb : Nat) (k : Wk) (mb : Nat) (ch : Int) (L : Nat -> Bool) (W : World) : Prop where
 kp : Keeps (fun i => i = kb) W0 W
 n : L 11 = false -> Blk W kb (wkCells k) 70
 y : L 11 = true -> ∃ sb,Blk W sb (snCells (snNew sb (some ⟨mb,0,none⟩) ch)) 164 /\ W0.heap.size <= sb /\ Blk W kb (wkCells (wkCome k kb sb ch)) 70
theorem DnG.keep {W0 W : World} {kb mb : Nat} {k : Wk} {ch : Int} {L L' : Nat -> Bool} (h : DnG W0 kb k mb ch L W) (e : L' 11 = L 11) : DnG W0 kb k mb ch L' W := ⟨h.kp,by rw [e];exact h.n,by rw [e];exact h.y⟩
theorem DnG.below {W0 W W' : World} {kb mb : Nat} {k : Wk} {ch : Int} {L L' : Nat -> Bool} (h : DnG W0 kb k mb ch L W) (hB : Below W.heap.size W W') (e0 : L 11 = false) (e : L' 11 = false) : DnG W0 kb k mb ch L' W' :=
 ⟨h.kp.trans ((Keeps.of_below' hB).mono (fun _ _ e => e.elim)),fun _ => (h.n e0).kept (Keeps.of_below' hB) (fun e => e),fun e2 => by rw [e] at e2;cases e2⟩
set_option maxRecDepth 100000 in
set_option maxHeartbeats 16000000 in
theorem wlook_down (w : World) (kb sb xb mb : Nat) (k : Wk) {P : Sn -> World -> Prop} (hb : Blk w kb (wkCells k) 70) (hu : k.under = snI sb) (hs0 : k.s = some ⟨xb,0,none⟩)
  (hS : Calls Tryz.prog 124 #[.pointer (some ⟨sb,0,none⟩)] w fun e w' => e = .returned (.tuple #[.bool true,.int .i64 0]) /\ Blk w' kb (wkCells k) 70 /\ ∃ s,Blk w' sb (snCells s) 164 /\ s.over = true /\ s.e = 0 /\ (∃ f,s.step = phV sb f) /\ ((s.has = true -> k.key < s.high) /\ k.level < s.found.lv) /\ (∃ C,Blk w' xb C 88 /\ C[0]? = some (.pointer (some ⟨mb,0,none⟩))) /\ P s w')
  (hne : sb ≠ kb) (hxk : xb ≠ kb) :
  Calls Tryz.prog 72 #[.pointer (some ⟨kb,0,none⟩)] w fun e w' => ∃ s hw hs sb',e = .returned (.tuple #[.bool false,.int .i64 0]) /\ Blk w' kb (wkCells (wkCome (wkSeen k s.found hw hs) kb sb' (s.found.child k.key))) 70 /\ Blk w' sb' (snCells (snNew sb' (some ⟨mb,0,none⟩) (s.found.child k.key))) 164 /\ ∃ w2,P s w2 /\ Keeps (fun i => i = kb) w2 w' /\ w2.heap.size <= sb' := by
 have hs0' := Lib.hid hs0
 have hxk' := Lib.hid hxk
 clear hs0 hxk
 have HS := Lib.hid hS
 have HU := Lib.hid hu
 have c30 : w.cell? ⟨kb,30,none⟩ = some (.iface 151 (.pointer (some ⟨sb,0,none⟩))) := (hb.cell 30).trans ((wk_tl _ 2).trans (by rw [show (wkTl k)[2]? = some k.under from rfl,hu];rfl))
 clear hb hu hS
 go_enter Tryz.func72,Tryz.ntmps72
 go_wp2_with (fail)
 refine HS.out.mono ?_
 rintro e w2 ⟨rfl,hb2,s,hs2,ho,he,⟨f,hf⟩,hR,hP⟩
 have d30 : w2.cell? ⟨kb,30,none⟩ = some (.iface 151 (.pointer (some ⟨sb,0,none⟩))) := (hb2.cell 30).trans ((wk_tl _ 2).trans (by rw [show (wkTl k)[2]? = some k.under from rfl,HU.out];rfl))
 have hta := ta_sn sb
 have hnp : nodeP s = (s.found,0) := by unfold nodeP;rw [ho,if_neg (by decide),he,if_neg (fun h => h rfl)]
 have hhp : highP s = if s.has = true then (s.high,true) else (0,false) := by unfold highP;rw [hnp,if_pos rfl]
 have hno := node_v s sb f w2 hs2 hf
 rw [hnp] at hno
 have HNo := Lib.hid hno
 have HB2 := Lib.hid hb2
 have HS2 := Lib.hid hs2
 have HP := Lib.hid hP
 have HHp := Lib.hid hhp
 have HKh := Lib.hid hR
 clear hb2 hs2 hP hno HS ho he hnp hhp hR
 go_wp2_with (fail)
 refine HNo.out.mono ?_
 rintro e w3 ⟨rfl,hB3⟩
 have hb3 := HB2.out.below hB3 HB2.out.lt
 have hs3 := HS2.out.below hB3 HS2.out.lt
 have hb4 := Blk.mid (ndCells s.found).toList 5 hb3
 rw [wk_putN] at hb4
 have hk4 : Keeps (fun i => i = kb) w3 (w3.setCells kb 5 (ndCells s.found).toList) := keeps_setCells (S := fun i => i = kb) (.inl rfl) _ 5 (Keeps.refl _ _)
 have hs4 := hs3.kept hk4 hne
 have HB3 := Lib.hid hb3
 obtain ⟨w4,hw4⟩ : ∃ w4,w3.setCells kb 5 (ndCells s.found).toList = w4 := ⟨_,rfl⟩
 rw [hw4] at hb4 hk4 hs4
 have HW4 := Lib.hid hw4
 have HB4 := Lib.hid hb4
 have HK4 := Lib.hid (((Keeps.of_below' hB3).mono (fun _ _ h => h.elim)).trans hk4)
 have HHi := Lib.hid (high_v s sb f w4 hs4 hf)
 clear hb3 hs3 hb4 hk4 hs4 hw4 hB3 d30 hta
 go_upto_region 6 with ((with_reducible refine wpList_store_ndm (o := ⟨none,.store 46 (.tmp 45) (.tmp 41),_,_,_,_⟩) ?hgM (.tmp 45) (.tmp 41) ?hoM kb 5 s.found (ndCells s.found) ?CCM 70 ?hxM ?hyM ?hmM ?hbM ?hsM ?_);(case hgM => rfl);(case hoM => rfl);(case hxM => rfl);(case hyM => rfl);(case hmM => rfl);(case hbM => exact HB3.out);(case hsM => rw [wkCells_size];decide))
 rw [HW4.out]
 clear HW4 HB3
 simp [Act.put]
 go_wp2_with (fail)
 refine HHi.out.mono ?_
 rintro e w5 ⟨rfl,hB5⟩
 obtain ⟨hw,hs,hhp⟩ : ∃ hw hs,highP s = (hw,hs) := ⟨_,_,rfl⟩
 have HHw := Lib.hid (show (hw,hs) = if s.has = true then (s.high,true) else (0,false) from by rw [<- hhp];exact HHp.out)
 rw [hhp]
 have hb5 := HB4.out.below hB5 HB4.out.lt
 have c26 : w5.cell? ⟨kb,26,none⟩ = some (.int .u64 k.high) := (hb5.cell 26).trans (wk_26 _)
 have f26 : w5.frozen? ⟨kb,26,none⟩ = false := hb5.frozen 26
 have c27 : w5.cell? ⟨kb,27,none⟩ = some (.bool k.has) := (hb5.cell 27).trans (wk_27 _)
 have f27 : w5.frozen? ⟨kb,27,none⟩ = false := hb5.frozen 27
 have hb6 := (hb5.set 26 (.int .u64 hw)).set 27 (.bool hs)
 rw [wk_set26,wk_set27] at hb6
 have hk6 : Keeps (fun i => i = kb) w5 ((w5.setCell ⟨kb,26,none⟩ (.int .u64 hw)).setCell ⟨kb,27,none⟩ (.bool hs)) := ((Keeps.refl (fun i => i = kb) w5).setCell (p := ⟨kb,26,none⟩) (.inl rfl) _).setCell (p := ⟨kb,27,none⟩) (.inl rfl) _
 have HK6 := Lib.hid ((HK4.out.trans ((Keeps.of_below' hB5).mono (fun _ _ h => h.elim))).trans hk6)
 obtain ⟨k2,hk2⟩ : ∃ k2,wkSeen k s.found hw hs = k2 := ⟨_,rfl⟩
 have hb6' : Blk ((w5.setCell ⟨kb,26,none⟩ (.int .u64 hw)).setCell ⟨kb,27,none⟩ (.bool hs)) kb (wkCells k2) 70 := by rw [<- hk2];exact hb6
 have HB5 := Lib.hid hb6'
 have HQ := Lib.hid (show k2.has = hs /\ k2.key = k.key /\ k2.high = hw /\ k2.level = k.level /\ k2.n.lv = s.found.lv from by rw [<- hk2];exact ⟨rfl,rfl,rfl,rfl,rfl⟩)
 have HK2 := Lib.hid hk2
 clear hb5 hb6 hb6' hk6 hk2 hB5 HNo HHi HS2 HB2 HB4 HK4
 go_upto_region 8 with (fail)
 obtain ⟨w6,hw6⟩ : ∃ w6,(w5.setCell ⟨kb,26,none⟩ (.int .u64 hw)).setCell ⟨kb,27,none⟩ (.bool hs) = w6 := ⟨_,rfl⟩
 rw [hw6] at HB5 HK6 ⊢
 clear hw6 c26 f26 c27 f27
 have HLt := Lib.hid (show hs = true -> k.key < hw from fun e => by
  have h := HHw.out
  by_cases h1 : s.has = true
  ·rw [if_pos h1] at h
   injection h with h2 h3
   rw [h2];exact HKh.out.1 h1
  ·rw [if_neg h1] at h
   injection h with h2 h3
   rw [h3] at e;cases e)
 go_cut [59] (fun v59 wx => v59 = .bool false /\ Hid (Below w6.heap.size w6 wx))
 case first =>
  obtain ⟨w5,rfl⟩ : ∃ w5,w5 = w6 := ⟨_,rfl⟩
  cases hs with
  | false =>
   have Hhs := Lib.hid HQ.out.1
   refine wp_region_vals [Is (.pointer (some ⟨kb,0,none⟩)),Is (.pointer (some ⟨kb,0,none⟩)),Is (.pointer (some ⟨kb,4,none⟩)),Is (.pointer (some ⟨kb,27,none⟩)),Is (.bool false),Is (.bool false),Any,Any,Any,Any,Any,Any,Any,Any,Any,Any,Is (.bool false),Is (.bool false)]
    (fun _ _ _ => True) (fun _ W => Below w5.heap.size w5 W) (by kernel_rfl) (by kernel_rfl) (by kernel_rfl) ?hst ?h0 ⟨?o0,?o1,?o2,?o3,?o4,?o5,?o6,?o7,?o8,?o9,?o10,?o11,?o12,?o13,?o14,?o15,?o16,?o17,trivial⟩ ?he
   any_goals (intro L vs A W H hf hd K hK)
   case hst => repeat' (first | exact trivial | refine ⟨fun _ _ _ _ _ _ h _ => h,?_⟩)
   case h0 =>
    exact (Below.refl _ w5).drew
   case o0 => have e0 : A.tmps[0]?.getD undef = .pointer (some ⟨kb,0,none⟩) := H.old 0 (by kernel_rfl);go_simp;exact hK _ _ (trivial) rfl (H.glob)
   case o1 => have e60 := H.iz hd 0 60 rfl rfl rfl (by kernel_rfl);go_simp;exact hK _ _ (trivial) rfl (H.glob)
   case o2 => have e61 := H.iz hd 1 61 rfl rfl rfl (by kernel_rfl);go_simp;exact hK _ _ (trivial) rfl (H.glob)
   case o3 => have e62 := H.iz hd 2 62 rfl rfl rfl (by kernel_rfl);go_simp;exact hK _ _ (trivial) rfl (H.glob)
   case o4 => have e63 := H.iz hd 3 63 rfl rfl rfl (by kernel_rfl);have d0 : W.cell? ⟨kb,27,none⟩ = some (.bool false) := (H.glob.cell (p := ⟨kb,27,none⟩) HB5.out.lt).trans ((HB5.out.cell 27).trans ((wk_27 _).trans (by rw [Hhs.out])));go_simp;exact hK _ _ (trivial) rfl (H.glob)
   case o5 => have e64 := H.iz hd 4 64 rfl rfl rfl (by kernel_rfl);go_simp;exact hK _ _ (trivial) rfl (H.glob)
   case o6 => have e65 := H.iz hd 5 65 rfl rfl rfl (by kernel_rfl);refine if_unwanted (j := 5) (s := 65) rfl rfl rfl e65 rfl ?_;exact hK _ _ (trivial) trivial (H.glob)
   case o7 => have e65 := H.iz hd 5 65 rfl rfl rfl (by kernel_rfl);refine if_unwanted (j := 5) (s := 65) rfl rfl rfl e65 rfl ?_;exact hK _ _ (trivial) trivial (H.glob)
   case o8 => have e65 := H.iz hd 5 65 rfl rfl rfl (by kernel_rfl);refine if_unwanted (j := 5) (s := 65) rfl rfl rfl e65 rfl ?_;exact hK _ _ (trivial) trivial (H.glob)
   case o9 => have e65 := H.iz hd 5 65 rfl rfl rfl (by kernel_rfl);refine if_unwanted (j := 5) (s := 65) rfl rfl rfl e65 rfl ?_;exact hK _ _ (trivial) trivial (H.glob)
   case o10 => have e65 := H.iz hd 5 65 rfl rfl rfl (by kernel_rfl);refine if_unwanted (j := 5) (s := 65) rfl rfl rfl e65 rfl ?_;exact hK _ _ (trivial) trivial (H.glob)
   case o11 => have e65 := H.iz hd 5 65 rfl rfl rfl (by kernel_rfl);refine if_unwanted (j := 5) (s := 65) rfl rfl rfl e65 rfl ?_;exact hK _ _ (trivial) trivial (H.glob)
   case o12 => have e65 := H.iz hd 5 65 rfl rfl rfl (by kernel_rfl);refine if_unwanted (j := 5) (s := 65) rfl rfl rfl e65 rfl ?_;exact hK _ _ (trivial) trivial (H.glob)
   case o13 => have e65 := H.iz hd 5 65 rfl rfl rfl (by kernel_rfl);refine if_unwanted (j := 5) (s := 65) rfl rfl rfl e65 rfl ?_;exact hK _ _ (trivial) trivial (H.glob)
   case o14 => have e65 := H.iz hd 5 65 rfl rfl rfl (by kernel_rfl);refine if_unwanted (j := 5) (s := 65) rfl rfl rfl e65 rfl ?_;exact hK _ _ (trivial) trivial (H.glob)
   case o15 => have e65 := H.iz hd 5 65 rfl rfl rfl (by kernel_rfl);refine if_unwanted (j := 5) (s := 65) rfl rfl rfl e65 rfl ?_;exact hK _ _ (trivial) trivial (H.glob)
   case o16 => have e65 := H.iz hd 5 65 rfl rfl rfl (by kernel_rfl);obtain ⟨v75,e75,q75⟩ := H.val 15 75 rfl rfl rfl (deps_of' hd 15 (by kernel_rfl)) (by kernel_rfl);go_simp;exact hK _ _ (trivial) rfl (H.glob)
   case o17 => have e76 := H.iz hd 16 76 rfl rfl rfl (by kernel_rfl);go_simp;exact hK _ _ (trivial) rfl (H.glob)
   case he =>
    intro vs W hlen hv
    match vs,hlen,hv with
    | [x0_,x1_,x2_,x3_,x4_,x5_,x6_,x7_,x8_,x9_,x10_,x11_,x12_,x13_,x14_,x15_,x16_,x17_],_,hv =>
    obtain rfl := isv hv 0 rfl rfl;obtain rfl := isv hv 1 rfl rfl;obtain rfl := isv hv 2 rfl rfl;obtain rfl := isv hv 3 rfl rfl;obtain rfl := isv hv 4 rfl rfl;obtain rfl := isv hv 5 rfl rfl;obtain rfl := isv hv 16 rfl rfl;obtain rfl := isv hv 17 rfl rfl
    intro L hall hG
    clear hv hlen
    have HB9 := Lib.hid hG
    clear hG hall
    simp only [fill,if_true]
    simp [Act.put]
    go_wp2_with (fail)
    go_meet
    exact ⟨rfl,HB9⟩
  | true =>
   have Hhs := Lib.hid HQ.out.1
   obtain ⟨c1,hc1⟩ : ∃ c1,decide (k2.high <= k2.key) = c1 := ⟨_,rfl⟩
   have Hc1 := Lib.hid hc1
   have hcf : c1 = false := by
    rw [<- hc1]
    have h1 := HQ.out.2.1
    have h2 := HQ.out.2.2.1
    have h3 := HLt.out rfl
    exact decide_eq_false (by omega)
   have HCf := Lib.hid hcf
   clear hc1 hcf
   refine wp_region_vals [Is (.pointer (some ⟨kb,0,none⟩)),Is (.pointer (some ⟨kb,0,none⟩)),Is (.pointer (some ⟨kb,4,none⟩)),Is (.pointer (some ⟨kb,27,none⟩)),Is (.bool true),Is (.bool true),Is (.pointer (some ⟨kb,0,none⟩)),Is (.pointer (some ⟨kb,0,none⟩)),Is (.pointer (some ⟨kb,2,none⟩)),Is (.int .u64 k2.key),Is (.pointer (some ⟨kb,0,none⟩)),Is (.pointer (some ⟨kb,0,none⟩)),Is (.pointer (some ⟨kb,4,none⟩)),Is (.pointer (some ⟨kb,26,none⟩)),Is (.int .u64 k2.high),Is (.bool c1),Is (.bool c1),Is (.bool c1)]
    (fun _ _ _ => True) (fun _ W => Below w5.heap.size w5 W) (by kernel_rfl) (by kernel_rfl) (by kernel_rfl) ?hst ?h0 ⟨?o0,?o1,?o2,?o3,?o4,?o5,?o6,?o7,?o8,?o9,?o10,?o11,?o12,?o13,?o14,?o15,?o16,?o17,trivial⟩ ?he
   any_goals (intro L vs A W H hf hd K hK)
   case hst => repeat' (first | exact trivial | refine ⟨fun _ _ _ _ _ _ h _ => h,?_⟩)
   case h0 =>
    exact (Below.refl _ w5).drew
   case o0 => have e0 : A.tmps[0]?.getD undef = .pointer (some ⟨kb,0,none⟩) := H.old 0 (by kernel_rfl);go_simp;exact hK _ _ (trivial) rfl (H.glob)
   case o1 => have e60 := H.iz hd 0 60 rfl rfl rfl (by kernel_rfl);go_simp;exact hK _ _ (trivial) rfl (H.glob)
   case o2 => have e61 := H.iz hd 1 61 rfl rfl rfl (by kernel_rfl);go_simp;exact hK _ _ (trivial) rfl (H.glob)
   case o3 => have e62 := H.iz hd 2 62 rfl rfl rfl (by kernel_rfl);go_simp;exact hK _ _ (trivial) rfl (H.glob)
   case o4 => have e63 := H.iz hd 3 63 rfl rfl rfl (by kernel_rfl);have d0 : W.cell? ⟨kb,27,none⟩ = some (.bool true) := (H.glob.cell (p := ⟨kb,27,none⟩) HB5.out.lt).trans ((HB5.out.cell 27).trans ((wk_27 _).trans (by rw [Hhs.out])));go_simp;exact hK _ _ (trivial) rfl (H.glob)
   case o5 => have e64 := H.iz hd 4 64 rfl rfl rfl (by kernel_rfl);go_simp;exact hK _ _ (trivial) rfl (H.glob)
   case o6 => have e65 := H.iz hd 5 65 rfl rfl rfl (by kernel_rfl);refine if_wanted (j := 5) (s := 65) rfl rfl rfl e65 rfl ?_;have e0 : A.tmps[0]?.getD undef = .pointer (some ⟨kb,0,none⟩) := H.old 0 (by kernel_rfl);go_simp;exact hK _ _ (trivial) rfl (H.glob)
   case o7 => have e65 := H.iz hd 5 65 rfl rfl rfl (by kernel_rfl);refine if_wanted (j := 5) (s := 65) rfl rfl rfl e65 rfl ?_;have e66 := H.iz hd 6 66 rfl rfl rfl (by kernel_rfl);go_simp;exact hK _ _ (trivial) rfl (H.glob)
   case o8 => have e65 := H.iz hd 5 65 rfl rfl rfl (by kernel_rfl);refine if_wanted (j := 5) (s := 65) rfl rfl rfl e65 rfl ?_;have e67 := H.iz hd 7 67 rfl rfl rfl (by kernel_rfl);go_simp;exact hK _ _ (trivial) rfl (H.glob)
   case o9 => have e65 := H.iz hd 5 65 rfl rfl rfl (by kernel_rfl);refine if_wanted (j := 5) (s := 65) rfl rfl rfl e65 rfl ?_;have e68 := H.iz hd 8 68 rfl rfl rfl (by kernel_rfl);have d0 : W.cell? ⟨kb,2,none⟩ = some (.int .u64 k2.key) := (H.glob.cell (p := ⟨kb,2,none⟩) HB5.out.lt).trans ((HB5.out.cell 2).trans ((wk_hd _ 2 (by decide)).trans rfl));go_simp;exact hK _ _ (trivial) rfl (H.glob)
   case o10 => have e65 := H.iz hd 5 65 rfl rfl rfl (by kernel_rfl);refine if_wanted (j := 5) (s := 65) rfl rfl rfl e65 rfl ?_;have e0 : A.tmps[0]?.getD undef = .pointer (some ⟨kb,0,none⟩) := H.old 0 (by kernel_rfl);go_simp;exact hK _ _ (trivial) rfl (H.glob)
   case o11 => have e65 := H.iz hd 5 65 rfl rfl rfl (by kernel_rfl);refine if_wanted (j := 5) (s := 65) rfl rfl rfl e65 rfl ?_;have e70 := H.iz hd 10 70 rfl rfl rfl (by kernel_rfl);go_simp;exact hK _ _ (trivial) rfl (H.glob)
   case o12 => have e65 := H.iz hd 5 65 rfl rfl rfl (by kernel_rfl);refine if_wanted (j := 5) (s := 65) rfl rfl rfl e65 rfl ?_;have e71 := H.iz hd 11 71 rfl rfl rfl (by kernel_rfl);go_simp;exact hK _ _ (trivial) rfl (H.glob)
   case o13 => have e65 := H.iz hd 5 65 rfl rfl rfl (by kernel_rfl);refine if_wanted (j := 5) (s := 65) rfl rfl rfl e65 rfl ?_;have e72 := H.iz hd 12 72 rfl rfl rfl (by kernel_rfl);go_simp;exact hK _ _ (trivial) rfl (H.glob)
   case o14 => have e65 := H.iz hd 5 65 rfl rfl rfl (by kernel_rfl);refine if_wanted (j := 5) (s := 65) rfl rfl rfl e65 rfl ?_;have e73 := H.iz hd 13 73 rfl rfl rfl (by kernel_rfl);have d0 : W.cell? ⟨kb,26,none⟩ = some (.int .u64 k2.high) := (H.glob.cell (p := ⟨kb,26,none⟩) HB5.out.lt).trans ((HB5.out.cell 26).trans (wk_26 _));go_simp;exact hK _ _ (trivial) rfl (H.glob)
   case o15 => have e65 := H.iz hd 5 65 rfl rfl rfl (by kernel_rfl);refine if_wanted (j := 5) (s := 65) rfl rfl rfl e65 rfl ?_;have e69 := H.iz hd 9 69 rfl rfl rfl (by kernel_rfl);have e74 := H.iz hd 14 74 rfl rfl rfl (by kernel_rfl);have hq := Hc1.out;go_simp;exact hK _ _ (trivial) rfl (H.glob)
   case o16 => have e65 := H.iz hd 5 65 rfl rfl rfl (by kernel_rfl);have e75 := H.iz hd 15 75 rfl rfl rfl (by kernel_rfl);go_simp;exact hK _ _ (trivial) rfl (H.glob)
   case o17 => have e76 := H.iz hd 16 76 rfl rfl rfl (by kernel_rfl);go_simp;exact hK _ _ (trivial) rfl (H.glob)
   case he =>
    intro vs W hlen hv
    match vs,hlen,hv with
    | [x0_,x1_,x2_,x3_,x4_,x5_,x6_,x7_,x8_,x9_,x10_,x11_,x12_,x13_,x14_,x15_,x16_,x17_],_,hv =>
    obtain rfl := isv hv 0 rfl rfl;obtain rfl := isv hv 1 rfl rfl;obtain rfl := isv hv 2 rfl rfl;obtain rfl := isv hv 3 rfl rfl;obtain rfl := isv hv 4 rfl rfl;obtain rfl := isv hv 5 rfl rfl;obtain rfl := isv hv 6 rfl rfl;obtain rfl := isv hv 7 rfl rfl;obtain rfl := isv hv 8 rfl rfl;obtain rfl := isv hv 9 rfl rfl;obtain rfl := isv hv 10 rfl rfl;obtain rfl := isv hv 11 rfl rfl;obtain rfl := isv hv 12 rfl rfl;obtain rfl := isv hv 13 rfl rfl;obtain rfl := isv hv 14 rfl rfl;obtain rfl := isv hv 15 rfl rfl;obtain rfl := isv hv 16 rfl rfl;obtain rfl := isv hv 17 rfl rfl
    intro L hall hG
    clear hv hlen
    have HB9 := Lib.hid hG
    clear hG hall
    simp only [fill,if_true]
    simp [Act.put]
    go_wp2_with (fail)
    go_meet
    exact ⟨congrArg Value.bool HCf.out,HB9⟩
 case rest =>
  obtain ⟨rfl,HB9⟩ := hcut
  have HB6 := Lib.hid (HB5.out.below HB9.out HB5.out.lt)
  have HK7 := Lib.hid (HK6.out.trans ((Keeps.of_below' HB9.out).mono (fun _ _ h => h.elim)))
  obtain ⟨w6,rfl⟩ : ∃ w6,w6 = wc := ⟨_,rfl⟩
  clear HB5 HK6 HB9
  obtain ⟨c2,hc2⟩ : ∃ c2,decide (k2.level < k2.n.lv) = c2 := ⟨_,rfl⟩
  have Hc2 := Lib.hid hc2
  have hcf : c2 = true := by
   rw [<- hc2]
   have h1 := HQ.out.2.2.2.1
   have h2 := HQ.out.2.2.2.2
   have h3 := HKh.out.2
   exact decide_eq_true (by omega)
  have HCf := Lib.hid hcf
  clear hc2 hcf
  go_wp2_with (fail)
  refine wp_region_vals [Is (.pointer (some ⟨kb,0,none⟩)),Is (.pointer (some ⟨kb,0,none⟩)),Is (.pointer (some ⟨kb,4,none⟩)),Is (.pointer (some ⟨kb,5,none⟩)),Is (.pointer (some ⟨kb,5,none⟩)),Is (.int .i64 k2.n.lv),Is (.pointer (some ⟨kb,0,none⟩)),Is (.pointer (some ⟨kb,0,none⟩)),Is (.pointer (some ⟨kb,3,none⟩)),Is (.int .i64 k2.level),Is (.bool c2),Is (.bool c2)]
   (fun _ _ _ => True) (fun _ W => Below w6.heap.size w6 W) (by kernel_rfl) (by kernel_rfl) (by kernel_rfl) ?hst ?h0 ⟨?o0,?o1,?o2,?o3,?o4,?o5,?o6,?o7,?o8,?o9,?o10,?o11,trivial⟩ ?he
  any_goals (intro L vs A W H hf hd K hK)
  case hst => repeat' (first | exact trivial | refine ⟨fun _ _ _ _ _ _ h _ => h,?_⟩)
  case h0 =>
   exact (Below.refl _ w6).drew
  case o0 => have e0 : A.tmps[0]?.getD undef = .pointer (some ⟨kb,0,none⟩) := H.old 0 (by kernel_rfl);go_simp;exact hK _ _ (trivial) rfl (H.glob)
  case o1 => have e103 := H.iz hd 0 103 rfl rfl rfl (by kernel_rfl);go_simp;exact hK _ _ (trivial) rfl (H.glob)
  case o2 => have e104 := H.iz hd 1 104 rfl rfl rfl (by kernel_rfl);go_simp;exact hK _ _ (trivial) rfl (H.glob)
  case o3 => have e105 := H.iz hd 2 105 rfl rfl rfl (by kernel_rfl);go_simp;exact hK _ _ (trivial) rfl (H.glob)
  case o4 => have e106 := H.iz hd 3 106 rfl rfl rfl (by kernel_rfl);go_simp;exact hK _ _ (trivial) rfl (H.glob)
  case o5 => have e107 := H.iz hd 4 107 rfl rfl rfl (by kernel_rfl);have d0 : W.cell? ⟨kb,5,none⟩ = some (.int .i64 k2.n.lv) := (H.glob.cell (p := ⟨kb,5,none⟩) HB6.out.lt).trans ((HB6.out.cell 5).trans (wk_n _ 0 _ rfl));go_simp;exact hK _ _ (trivial) rfl (H.glob)
  case o6 => have e0 : A.tmps[0]?.getD undef = .pointer (some ⟨kb,0,none⟩) := H.old 0 (by kernel_rfl);go_simp;exact hK _ _ (trivial) rfl (H.glob)
  case o7 => have e109 := H.iz hd 6 109 rfl rfl rfl (by kernel_rfl);go_simp;exact hK _ _ (trivial) rfl (H.glob)
  case o8 => have e110 := H.iz hd 7 110 rfl rfl rfl (by kernel_rfl);go_simp;exact hK _ _ (trivial) rfl (H.glob)
  case o9 => have e111 := H.iz hd 8 111 rfl rfl rfl (by kernel_rfl);have d0 : W.cell? ⟨kb,3,none⟩ = some (.int .i64 k2.level) := (H.glob.cell (p := ⟨kb,3,none⟩) HB6.out.lt).trans ((HB6.out.cell 3).trans ((wk_hd _ 3 (by decide)).trans rfl));go_simp;exact hK _ _ (trivial) rfl (H.glob)
  case o10 => have e108 := H.iz hd 5 108 rfl rfl rfl (by kernel_rfl);have e112 := H.iz hd 9 112 rfl rfl rfl (by kernel_rfl);have hq := Hc2.out;go_simp;exact hK _ _ (trivial) rfl (H.glob)
  case o11 => have e113 := H.iz hd 10 113 rfl rfl rfl (by kernel_rfl);go_simp;exact hK _ _ (trivial) rfl (H.glob)
  case he =>
   intro vs W hlen hv
   match vs,hlen,hv with
   | [x0_,x1_,x2_,x3_,x4_,x5_,x6_,x7_,x8_,x9_,x10_,x11_],_,hv =>
   obtain rfl := isv hv 0 rfl rfl;obtain rfl := isv hv 1 rfl rfl;obtain rfl := isv hv 2 rfl rfl;obtain rfl := isv hv 3 rfl rfl;obtain rfl := isv hv 4 rfl rfl;obtain rfl := isv hv 5 rfl rfl;obtain rfl := isv hv 6 rfl rfl;obtain rfl := isv hv 7 rfl rfl;obtain rfl := isv hv 8 rfl rfl;obtain rfl := isv hv 9 rfl rfl;obtain rfl := isv hv 10 rfl rfl;obtain rfl := isv hv 11 rfl rfl
   intro L hall hG
   clear hv hlen
   have HB10 := Lib.hid hG
   clear hG hall
   simp only [fill,if_true]
   simp [Act.put]
   have hcf := HCf.out
   rw [hcf]
   clear hcf
   have HB7 := Lib.hid (HB6.out.below HB10.out HB6.out.lt)
   have HK8 := Lib.hid (HK7.out.trans ((Keeps.of_below' HB10.out).mono (fun _ _ h => h.elim)))
   obtain ⟨W7,rfl⟩ : ∃ W7,W7 = W := ⟨_,rfl⟩
   clear HB6 HK7 HB10
   have HSx := Lib.hid (show k2.s = some ⟨xb,0,none⟩ from by rw [<- HK2.out];exact hs0'.out)
   obtain ⟨ch,hch⟩ : ∃ ch,k2.n.child k2.key = ch := ⟨_,rfl⟩
   have HCe := Lib.hid (show s.found.child k.key = ch from by rw [<- hch,<- HK2.out];rfl)
   have HCh := Lib.hid (show ∀ W,Calls Tryz.prog 87 #[.agg (ndCells k2.n),.int .u64 k2.key] W fun e w' => e = .returned (.int .u64 ch) /\ Below W.heap.size W w' from fun W => by rw [<- hch];exact nchild_v _ _ W)
   have HCo := Lib.hid (show ∀ W,Blk W kb (wkCells k2) 70 -> Keeps (fun i => i = kb) W7 W -> Calls Tryz.prog 54 #[.pointer (some ⟨kb,0,none⟩),.int .u64 ch] W fun e w' => e = .returned (.tuple #[]) /\ (∃ sb',Blk w' sb' (snCells (snNew sb' (some ⟨mb,0,none⟩) ch)) 164 /\ W.heap.size <= sb' /\ Blk w' kb (wkCells (wkCome k2 kb sb' ch)) 70) /\ Keeps (fun i => i = kb) W w' from fun W hb hk => by
    obtain ⟨⟨C,hx,hC⟩,_⟩ := HP.out
    refine (wcome_v k2 kb xb (some ⟨mb,0,none⟩) ch C W hb HSx.out ((hx.kept HK8.out hxk'.out).kept hk hxk'.out) hC hxk'.out).mono ?_
    rintro e w' ⟨sb',rfl,h1,h2,h3,h4⟩
    exact ⟨rfl,⟨sb',h1,h2,h3⟩,h4⟩)
   clear hch
   go_wp2_with (fail)
   refine wp_region_vals [Is (.pointer (some ⟨kb,0,none⟩)),Is (.pointer (some ⟨kb,0,none⟩)),Is (.pointer (some ⟨kb,0,none⟩)),Is (.pointer (some ⟨kb,4,none⟩)),Is (.pointer (some ⟨kb,5,none⟩)),Is (.agg (ndCells k2.n)),Is (.pointer (some ⟨kb,0,none⟩)),Is (.pointer (some ⟨kb,0,none⟩)),Is (.pointer (some ⟨kb,2,none⟩)),Is (.int .u64 k2.key),Is (.int .u64 ch),Any]
    (fun _ _ _ => True) (fun L W => DnG W7 kb k2 mb ch L W) (by kernel_rfl) (by kernel_rfl) (by kernel_rfl) ?hst ?h0 ⟨?o0,?o1,?o2,?o3,?o4,?o5,?o6,?o7,?o8,?o9,?o10,?o11,trivial⟩ ?he
   any_goals (intro L vs A W H hf hd K hK)
   case hst => repeat' (first | exact trivial | refine ⟨fun _ _ _ _ _ _ h _ => h,?_⟩)
   case h0 =>
    exact ⟨(Keeps.refl _ _).drew,fun _ => HB7.out.drew,fun e => (by cases e)⟩
   case o0 => have e0 : A.tmps[0]?.getD undef = .pointer (some ⟨kb,0,none⟩) := H.old 0 (by kernel_rfl);go_simp;exact hK _ _ (trivial) rfl (H.glob.keep rfl)
   case o1 => have e0 : A.tmps[0]?.getD undef = .pointer (some ⟨kb,0,none⟩) := H.old 0 (by kernel_rfl);go_simp;exact hK _ _ (trivial) rfl (H.glob.keep rfl)
   case o2 => have e115 := H.iz hd 1 115 rfl rfl rfl (by kernel_rfl);go_simp;exact hK _ _ (trivial) rfl (H.glob.keep rfl)
   case o3 => have e116 := H.iz hd 2 116 rfl rfl rfl (by kernel_rfl);go_simp;exact hK _ _ (trivial) rfl (H.glob.keep rfl)
   case o4 => have e117 := H.iz hd 3 117 rfl rfl rfl (by kernel_rfl);go_simp;exact hK _ _ (trivial) rfl (H.glob.keep rfl)
   case o5 => have e118 := H.iz hd 4 118 rfl rfl rfl (by kernel_rfl);refine wp_ld_part 46 (.tmp 118) rfl kb 5 (ev_tmp e118) (ndCells k2.n) _ (fun j u hj => ?_) Tryz.underlying46 rfl (info27 k2.n) (hK _ _ trivial rfl (H.glob.keep rfl));exact ((H.glob.n (H.notYet 11 10 rfl (H.notYet 10 5 rfl hf (by kernel_rfl)) (by kernel_rfl))).cell (5 + j)).trans (wk_n k2 j u hj)
   case o6 => have e0 : A.tmps[0]?.getD undef = .pointer (some ⟨kb,0,none⟩) := H.old 0 (by kernel_rfl);go_simp;exact hK _ _ (trivial) rfl (H.glob.keep rfl)
   case o7 => have e120 := H.iz hd 6 120 rfl rfl rfl (by kernel_rfl);go_simp;exact hK _ _ (trivial) rfl (H.glob.keep rfl)
   case o8 => have e121 := H.iz hd 7 121 rfl rfl rfl (by kernel_rfl);go_simp;exact hK _ _ (trivial) rfl (H.glob.keep rfl)
   case o9 => have e122 := H.iz hd 8 122 rfl rfl rfl (by kernel_rfl);have d : W.cell? ⟨kb,2,none⟩ = some (.int .u64 k2.key) := ((H.glob.n (H.notYet 11 10 rfl (H.notYet 10 9 rfl hf (by kernel_rfl)) (by kernel_rfl))).cell 2).trans ((wk_hd _ 2 (by decide)).trans rfl);go_simp;exact hK _ _ (trivial) rfl (H.glob.keep rfl)
   case o10 => have e119 := H.iz hd 5 119 rfl rfl rfl (by kernel_rfl);have e123 := H.iz hd 9 123 rfl rfl rfl (by kernel_rfl);have n11 := H.notYet 11 10 rfl hf (by kernel_rfl);have hC := HCh.out W;go_simp;refine hC.mono ?_;rintro e w' ⟨rfl,hB⟩;go_simp;exact hK _ _ trivial rfl (H.glob.below hB n11 (by simpa [lset] using n11))
   case o11 => have e114 := H.iz hd 0 114 rfl rfl rfl (by kernel_rfl);have e124 := H.iz hd 10 124 rfl rfl rfl (by kernel_rfl);have hC := HCo.out W (H.glob.n hf) H.glob.kp;go_simp;refine hC.mono ?_;rintro e w' ⟨rfl,⟨sb',h1,h2,h3⟩,h4⟩;go_simp;exact hK _ _ trivial trivial ⟨H.glob.kp.trans h4,fun e => (by simp [lset] at e),fun _ => ⟨sb',h1,Nat.le_trans H.glob.kp.size h2,h3⟩⟩
   case he =>
    intro vs W hlen hv
    match vs,hlen,hv with
    | [x0_,x1_,x2_,x3_,x4_,x5_,x6_,x7_,x8_,x9_,x10_,x11_],_,hv =>
    obtain rfl := isv hv 0 rfl rfl;obtain rfl := isv hv 1 rfl rfl;obtain rfl := isv hv 2 rfl rfl;obtain rfl := isv hv 3 rfl rfl;obtain rfl := isv hv 4 rfl rfl;obtain rfl := isv hv 5 rfl rfl;obtain rfl := isv hv 6 rfl rfl;obtain rfl := isv hv 7 rfl rfl;obtain rfl := isv hv 8 rfl rfl;obtain rfl := isv hv 9 rfl rfl;obtain rfl := isv hv 10 rfl rfl
    intro L hall hG
    clear hv hlen
    have HG := Lib.hid (And.intro hG.kp (hG.y (hall 11 (by decide))))
    clear hG hall
    simp only [fill,if_true]
    obtain ⟨sb',hsE,hszE,hbE⟩ := HG.out.2
    have HE := Lib.hid (show Blk W kb (wkCells (wkCome (wkSeen k s.found hw hs) kb sb' (s.found.child k.key))) 70 /\ Blk W sb' (snCells (snNew sb' (some ⟨mb,0,none⟩) (s.found.child k.key))) 164 /\ ∃ w2,P s w2 /\ Keeps (fun i => i = kb) w2 W /\ w2.heap.size <= sb' from by
     have hsz := HK8.out.size
     rw [HCe.out,HK2.out]
     exact ⟨hbE,hsE,w2,HP.out.2,HK8.out.trans HG.out.1,by omega⟩)
    clear HG hsE hszE hbE
    simp [Act.put]
    go_wp2_with (fail)
    go_ret2
    exact ⟨s,hw,hs,sb',rfl,HE.out.1,HE.out.2.1,HE.out.2.2⟩
end Go.Proofs.YtodgfbjjjgohgaaGreat
