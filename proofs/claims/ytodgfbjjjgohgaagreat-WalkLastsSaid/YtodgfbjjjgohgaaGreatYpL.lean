/-
 THE LAW WalkLasts: a contract.
-/
import Derived.Test.YtodgfbjjjgohgaaGreatYoL
namespace Go.Proofs.YtodgfbjjjgohgaaGreat
open Go.RowKit
attribute [local go_sem] Oper.semAt_some
set_option linter.unusedVariables false

def JL (ℓ : Int) (st : Nat -> Nat) (k lv i : Nat) (F : Int -> List (Int × Int)) (fe : Int) : Prop := (fe = 0 -> F ℓ ≠ []) /\ (lv = 0 -> st 0 <= k -> k < i -> F ℓ = [])
set_option maxRecDepth 100000 in
set_option maxHeartbeats 16000000 in
theorem walklasts_v (w : World) (slabs per lag : Int) (A : Option Addr) (c : Nat) (l : List Int) (key which : Int) (hr : Reads w w.heap.size 1 A l.length (l.map (Value.int .u64))) (hu : ∀ x ∈ l, 0 <= x /\ x <= 18446744073709551615) (hk : 0 <= key) :
  Calls Tryz.prog 6 #[.agg (laidC slabs A l.length c per lag), .int .u64 key, .int .i64 which] w fun e w' => e = .returned (.bool true) /\ Below w.heap.size w w' := by
 have hb0 := Blk.new w (laidC slabs A l.length c per lag) 24
 have hB0 : Below w.heap.size w (w.alloc (.cells (laidC slabs A l.length c per lag) 24)) := (Below.refl _ w).alloc (Nat.le_refl _) _
 obtain ⟨bx, hbx⟩ : ∃ bx, w.heap.size = bx := ⟨_, rfl⟩
 rw [hbx] at hb0
 obtain ⟨w1, hw1⟩ : ∃ w1, w.alloc (.cells (laidC slabs A l.length c per lag) 24) = w1 := ⟨_, rfl⟩
 rw [hw1] at hb0 hB0
 have HW1 := Lib.hid hw1
 have HB1 := Lib.hid hB0
 have HLd := Lib.hid (show ∀ j v, (laidC slabs A l.length c per lag)[j]? = some v -> w1.cell? ⟨bx, 0 + j, none⟩ = some v from fun j v hj => by rw [Nat.zero_add, hb0.cell]; exact hj)
 have HInf := Lib.hid (show (Tryz.prog.info? 24).map (·.size) = some (laidC slabs A l.length c per lag).size from (show (Tryz.prog.info? 24).map (·.size) = some 4 by kernel_rfl))
 have HLay := Lib.hid (show Calls Tryz.prog 7 #[.agg (laidC slabs A l.length c per lag)] w1 fun e w' => LayQ w1 w' e l from
  (lay_v w1 A c slabs per lag l ((hr.below hB0).more hB0.size) hu).mono (fun e w' h => LayP.q hu h))
 have HKey := Lib.hid hk
 clear hb0 hB0 hw1 hr hu hk
 go_enter Tryz.func6, Tryz.ntmps6
 go_upto_region 1 with (fail)
 try rw [hbx]
 rw [HW1.out]
 clear HW1
 go_wp2_with ((with_reducible refine wpList_load_part (o := ⟨some 20, _, _, _, _, _⟩) ?hg 24 (.tmp 3) ?ho bx 0 ?hx (laidC slabs A l.length c per lag) ?dd ?hc ?hu ?hd ?hi ?_); (case hg => rfl); (case ho => rfl); (case hx => rfl); (case hc => exact HLd.out); (case hu => exact Tryz.underlying24); (case hd => rfl); (case hi => exact HInf.out))
 refine HLay.out.mono ?_
 rintro e w2 ⟨hB2, rfl | ⟨d, sl, pr, lg, l0, kd, cn, ab, gb, cb, g, cap, rfl, h1, h2, h8, hBt, hA⟩⟩
 ·have HB2 := Lib.hid (HB1.out.trans (hB2.mono HB1.out.size))
  have HKn := Lib.hid (known_v w2)
  clear hB2 HLay HB1 HLd HInf
  go_wp2_with (fail)
  refine HKn.out.mono ?_
  rintro e w3 ⟨rfl, hB3⟩
  have HBf := Lib.hid (HB2.out.trans (hB3.mono HB2.out.size))
  clear hB3
  go_wp2_with (fail)
  go_ret
  exact ⟨rfl, HBf.out⟩
 ·have HB2 := Lib.hid (HB1.out.trans (hB2.mono HB1.out.size))
  have HBt := Lib.hid hBt
  have HAr := Lib.hid hA
  have HP := Lib.hid (And.intro h1 (And.intro h2 h8))
  obtain ⟨nl, hnl⟩ : ∃ nl, d.lv.length = nl := ⟨_, rfl⟩
  have Hnl := Lib.hid hnl
  have c7 := hA.c7
  have hne := hBt.ne
  rw [hnl] at c7 hne
  obtain ⟨R, hR⟩ : ∃ R, d.lv[0]? = some R := ⟨_, List.getElem?_eq_getElem (by omega)⟩
  obtain ⟨rb, cr, hrc, hrow⟩ := hA.row 0 R hR
  obtain ⟨rn, hrn⟩ : ∃ rn, R.length = rn := ⟨_, rfl⟩
  rw [hrn] at hrc
  have HR := Lib.hid (And.intro hR hrn)
  have HRw := Lib.hid hrow
  have hnl0 : (0 : Int) < (nl : Int) := by omega
  clear hB2 HLay HB1 HLd HInf hBt hA h1 h2 h8 hnl hR hrn hrow
  by_cases h2 : rn < 2
  ·have q1 : decide (rn < 2) = true := decide_eq_true h2
   have q2 : decide ((rn : Int) < 2) = true := decide_eq_true (by omega)
   have HKn := Lib.hid (known_v w2)
   clear h2
   go_wp2_with (fail)
   refine HKn.out.mono ?_
   rintro e w3 ⟨rfl, hB3⟩
   have HBf := Lib.hid (HB2.out.trans (hB3.mono HB2.out.size))
   clear hB3
   go_wp2_with (fail)
   go_ret
   exact ⟨rfl, HBf.out⟩
  ·have q1 : decide (rn < 2) = false := decide_eq_false h2
   have q2 : decide ((rn : Int) < 2) = false := decide_eq_false (by omega)
   have H2 := Lib.hid (show 2 <= rn from by omega)
   clear h2
   obtain ⟨ln, hln⟩ : ∃ ln, d.L.length = ln := ⟨_, rfl⟩
   have c0 := HAr.out.b0
   have HOn := Lib.hid (show Calls Tryz.prog 9 #[.slice (some ⟨gb, 0, none⟩) ln cb, .int .i64 1] w2 fun e w' => OnP w2 w' e d.L sl from by
    rw [<- hln]
    refine on_v w2 gb cb d.L sl 1 ?_ HAr.out.cl HAr.out.gl HAr.out.by_ (by decide)
    have := HBt.out.i.n.i.img (by rw [HBt.out.sl]; exact HP.out.1)
    rw [HBt.out.sl] at this
    exact this)
   rw [hln] at c0
   clear hln
   go_upto_region 4 with (fail)
   go_wp2_with (fail)
   refine HOn.out.mono ?_
   rintro e w3 ⟨xb, mb, S, rfl, hO⟩
   have HO := Lib.hid hO
   have HS2 := Lib.hid (show ∀ i, S i -> w2.heap.size <= i from hO.lo)
   have HB3 := Lib.hid hO.b
   have HA3 := Lib.hid (HAr.out.below hO.b)
   have d7 : w3.cell? ⟨ab, 7, none⟩ = some (.slice (some ⟨g, 0, none⟩) nl cap) := (hO.b.cell (p := ⟨ab, 7, none⟩) HAr.out.lt.1).trans c7
   have dg : w3.cell? ⟨g, 0, none⟩ = some (.slice (some ⟨rb, 0, none⟩) rn cr) := (hO.b.cell (p := ⟨g, 0, none⟩) HAr.out.lt.2).trans hrc
   clear hO HOn c0 q1 q2 c7 hrc
   obtain ⟨m1, hm1, hm2, hm3⟩ : ∃ m1 : Int, IntKind.u64.wrap (wrap64 ((rn : Int) - 1)) = m1 /\ 0 < m1 /\ m1 = (rn : Int) - 1 := by
    have h2 := H2.out
    have hrl := HBt.out.rowLe HP.out.2.1 (by have := risR_len (most := 40) l [] (by decide); omega) 0 R HR.out.1
    rw [HR.out.2, if_pos rfl] at hrl
    exact ⟨(rn : Int) - 1, by rw [IntWalk.wrap64_in ((rn : Int) - 1) (by omega), IntWalk.u64_in ((rn : Int) - 1) (by omega)], by omega, rfl⟩
   obtain ⟨k, hk, hkl⟩ : ∃ k : Nat, wrap64 ((IntKind.u64.wrap which).tmod m1) = (k : Int) /\ k + 1 < rn := by
    have hrl := HBt.out.rowLe HP.out.2.1 (by have := risR_len (most := 40) l [] (by decide); omega) 0 R HR.out.1
    rw [HR.out.2, if_pos rfl] at hrl
    have h3 : 0 <= IntKind.u64.wrap which := by rw [IntKind.wrap_u64]; omega
    have h4 := Int.tmod_nonneg m1 h3
    have h5 := Int.tmod_lt_of_pos (IntKind.u64.wrap which) hm2
    refine ⟨((IntKind.u64.wrap which).tmod m1).toNat, ?_, by omega⟩
    rw [IntWalk.wrap64_in _ (by omega)]
    omega
   have hm0 : ¬ m1 = 0 := by omega
   clear hm3 hm2
   go_upto_region 9 with (fail)
   (try rw [hk])
   clear hm1 hm0
   have HKl := Lib.hid hkl
   clear hk hkl
   obtain ⟨xk, hxk⟩ : ∃ xk, R[k]? = some xk := ⟨_, List.getElem?_eq_getElem (by have := HKl.out; have := HR.out.2; omega)⟩
   obtain ⟨xn, hxn⟩ : ∃ xn, R[k + 1]? = some xn := ⟨_, List.getElem?_eq_getElem (by have := HKl.out; have := HR.out.2; omega)⟩
   have hat := HBt.out.at HR.out.1 (List.mem_of_getElem? hxk)
   have HAtk := Lib.hid hat
   obtain ⟨at_, hate⟩ : ∃ at_ : Int, (xk.1 : Int) + 16 = at_ := ⟨_, rfl⟩
   have hw16 : IntKind.u64.wrap ((xk.1 : Int) + 16) = at_ := by rw [<- hate]; exact IntWalk.u64_in _ (by have := hat.hi; omega)
   have HRwW := Lib.hid (show ∀ W, Below w3.heap.size w3 W -> (∀ i z, R[i]? = some z -> W.cell? ⟨rb, i * 22, none⟩ = some (.int .u64 ((z : Nat × Nd).1 : Int))) /\ W.cell? ⟨rb, k * 22 + 3, none⟩ = some (.int .u64 xk.2.nx) from fun W hB => by
    have hl := HRw.out.lt
    have h23 := HB3.out
    have hs := h23.size
    refine ⟨fun i z hz => ?_, ?_⟩
    ·have := HRw.out.cell (k := 0) hz (by decide)
     rw [Nat.add_zero] at this
     exact (hB.cell (p := ⟨rb, i * 22, none⟩) (by show rb < _; omega)).trans ((h23.cell (p := ⟨rb, i * 22, none⟩) hl).trans (this.trans rfl))
    ·exact (hB.cell (p := ⟨rb, k * 22 + 3, none⟩) (by show rb < _; omega)).trans ((h23.cell (p := ⟨rb, k * 22 + 3, none⟩) hl).trans ((HRw.out.cell hxk (by decide)).trans ((atC_succ _ _ 2).trans rfl))))
   obtain ⟨e1, e3⟩ := HRwW.out w3 (Below.refl _ _)
   have e1k := e1 k xk hxk
   have e1n := e1 (k + 1) xn hxn
   have b1 : (k : Int) < (rn : Int) := by have := HKl.out; omega
   have b2 : (k : Int) + 1 < (rn : Int) := by have := HKl.out; omega
   have b3 : (k : Int) <= 20 := by
    have hrl := HBt.out.rowLe HP.out.2.1 (by have := risR_len (most := 40) l [] (by decide); omega) 0 R HR.out.1
    rw [HR.out.2, if_pos rfl] at hrl
    omega
   obtain ⟨C, hx, hC⟩ := HO.out.x
   have hnxw : xk.2.nx = (memA d).getD (at_ / 8).toNat 0 := by
    have := hat.wd 2 (by decide)
    have h64 := hat.al
    rw [show (at_ / 8).toNat = xk.1 / 8 + 2 by omega, this]; rfl
   have hset : (memA d).set (at_ / 8).toNat xk.2.nx = memA d := by
    rw [hnxw]
    have hlt : (at_ / 8).toNat < (memA d).length := by have := hat.lt; have := hat.al; omega
    rw [List.getD_eq_getElem?_getD, List.getElem?_eq_getElem hlt]
    exact List.set_getElem_self hlt
   have hmz : MemZ w3 mb S (memA d) := by
    have := HO.out.m
    unfold memA
    rw [HBt.out.sl]
    exact this
   have ha0 : 0 <= at_ /\ at_ <= 18446744073709551615 := by have := hat.hi; omega
   have hae : atE (memA d).length at_ = 0 := by
    have h1 := hat.lt
    have h2 := hat.al
    unfold atE
    rw [if_neg (by omega)]
   have HA0 := Lib.hid (And.intro ha0 hae)
   have HSt := Lib.hid (show Calls Tryz.prog 15 #[.pointer (some ⟨mb, 0, none⟩), .int .u64 at_, .int .u64 xk.2.nx] w3 fun e w' => e = .returned (.int .i64 0) /\ MemG w3 mb S (memA d) (memA d) (fun _ _ => 0) (updF (fun _ => []) (lineOf at_) [(at_, xk.2.nx)]) 0 1 0 0 w' from by
    have := store_m hmz at_ xk.2.nx ha0.1 ha0.2 hae (by decide)
    rw [hset] at this
    exact this)
   have HX3 := Lib.hid (show ∃ C, Blk w3 xb C 88 /\ C[0]? = some (.pointer (some ⟨mb, 0, none⟩)) from ⟨C, hx, hC⟩)
   have HMm := Lib.hid (smem_v w3 xb C _ hx hC)
   have HXk := Lib.hid (And.intro hxk hxn)
   have Hat := Lib.hid hate
   obtain ⟨nxk, hnxk⟩ : ∃ nxk, xk.2.nx = nxk := ⟨_, rfl⟩
   rw [hnxk] at HSt e3
   obtain ⟨xa, hxa⟩ : ∃ xa, (xk.1 : Int) = xa := ⟨_, rfl⟩
   rw [hxa] at e1k hw16
   clear hat hate hnxw hset hmz ha0 hae hx hC hxk hxn e1 e1n hnxk hxa
   go_wp2_with (fail)
   refine HMm.out.mono ?_
   rintro e w4 ⟨rfl, rfl⟩
   go_wp2_with (fail)
   refine HSt.out.mono ?_
   rintro e w4 ⟨rfl, S4, hm4, hs4, hk4⟩
   obtain ⟨ℓ, hℓ⟩ : ∃ ℓ, lineOf at_ = ℓ := ⟨_, rfl⟩
   rw [hℓ] at hm4
   have Hℓ := Lib.hid hℓ
   have HB4 := Lib.hid (show Below w2.heap.size w2 w4 from ⟨hk4.os.trans HB3.out.os, hk4.tape.trans HB3.out.tape, hk4.output.trans HB3.out.output, Nat.le_trans HB3.out.size hk4.size, fun i hi => (hk4.block i (Nat.lt_of_lt_of_le hi HB3.out.size) (fun h => by have := HS2.out i h; omega)).trans (HB3.out.block i hi)⟩)
   have HX4 := Lib.hid (show ∃ C, Blk w4 xb C 88 /\ C[0]? = some (.pointer (some ⟨mb, 0, none⟩)) from by
    obtain ⟨C, hx, hC⟩ := HX3.out
    exact ⟨C, hx.kept hk4 HO.out.ne, hC⟩)
   have HN4 := Lib.hid (show ¬ S4 xb from fun e => by
    rcases hs4 _ e with h | h
    ·exact HO.out.ne h
    ·obtain ⟨C, hx, _⟩ := HX3.out
     have := hx.lt
     omega)
   have HS4 := Lib.hid (show ∀ i, S4 i -> w2.heap.size <= i from fun i hi => by
    rcases hs4 i hi with h | h
    ·exact HS2.out i h
    ·have := HB3.out.size; omega)
   have HM4 := Lib.hid hm4
   have HRw4 := Lib.hid (show ∀ W, Below w2.heap.size w2 W -> W.cell? ⟨rb, (k + 1) * 22, none⟩ = some (.int .u64 (xn.1 : Int)) from fun W hB => by
    have := HRw.out.cell (k := 0) HXk.out.2 (by decide)
    rw [Nat.add_zero] at this
    exact (hB.cell (p := ⟨rb, (k + 1) * 22, none⟩) HRw.out.lt).trans (this.trans rfl))
   clear hm4 hs4 hk4 HSt HMm HX3 d7 dg e1k e3 hw16 hℓ
   go_wp2_with (fail)
   refine (wnew_v (some ⟨xb, 0, none⟩) 0 key 0 w4).mono ?_
   rintro e w5 ⟨rfl, hb5, hB5⟩
   obtain ⟨kb, hkb⟩ : ∃ kb, w4.heap.size = kb := ⟨_, rfl⟩
   rw [hkb] at hb5 ⊢
   have h40 : (risR 40 [] l).length <= 40 := by have := risR_len (most := 40) l [] (by decide); omega
   have hlx : lineOf (xk.1 : Int) = ℓ := by
    have h1 := HAtk.out.al
    rw [<- Hℓ.out, <- Hat.out]
    unfold lineOf
    omega
   have HDo := Lib.hid (gdone_v (JJ := JL ℓ (stA d pr key) k) (Q0 := True) (HBt.out.tr HP.out.2.1 HP.out.2.2 key HKey.out) (show 0 < d.lv.length from HBt.out.ne) (show 0 <= 64 by decide) (show (1 : Int) <= 1000 by decide) (HBt.out.rem_le HP.out.2.1 HP.out.2.2 h40 key HKey.out) (Nat.le_refl _)
    (fun L F fe h => ⟨h.1, fun e1 e2 e3 => by subst e1; omega⟩)
    (fun L i R' x F fe F' hR' hx hl1 hl2 hJ hd hz hf0 => ⟨fun e => by omega, fun e1 e2 e3 => by
     subst e1
     obtain rfl : R' = R := Option.some.inj (hR'.symm.trans HR.out.1)
     rcases Nat.lt_or_ge k i with h | h
     ·obtain ⟨m, hm⟩ := hd ℓ
      rw [hm, hJ.2 rfl e2 h]
      exact List.drop_nil
     ·obtain rfl : i = k := by omega
      obtain rfl : x = xk := Option.some.inj (hx.symm.trans HXk.out.1)
      rw [<- hlx]
      exact hz trivial⟩) w5 w5.heap.size
    (start_m (vsT := fun _ => memA d) (level := 0) (N0 := 200) (JJ := JL ℓ (stA d pr key) k) (Q0 := True) HX4.out HM4.out HN4.out hkb hb5 hB5 ⟨fun _ => by unfold updF; rw [if_pos rfl]; simp, fun _ _ h => by omega⟩ (ofA d key) (stA d pr key)))
   have HB5 := Lib.hid (HB4.out.trans (hB5.mono HB4.out.size))
   have Hkb := Lib.hid (show w2.heap.size <= kb from by rw [<- hkb]; exact HB4.out.size)
   clear hb5 hB5 hkb HB4 h40 HO hlx
   go_wp2_with (fail)
   refine HDo.out.mono ?_
   rintro e w6 ⟨⟨cc, sm, rfl⟩, ⟨U, jj, hF6, R', x, lt, tt, sb, hw, hs, T, S6, is, mk, F, lo, fl, fe, hR', hx, hlt, hT6, hb6, hM6, hBn, hJ⟩, hk6⟩
   obtain rfl : R = R' := (Option.some.inj (hR'.symm.trans HR.out.1)).symm
   have HB6 := Lib.hid (show Below w2.heap.size w2 w6 from ⟨hk6.os.trans HB5.out.os, hk6.tape.trans HB5.out.tape, hk6.output.trans HB5.out.output, Nat.le_trans HB5.out.size hk6.size, fun i hi => (hk6.block i (Nat.lt_of_lt_of_le hi HB5.out.size) (fun h => by
    have h1 := HB5.out.size
    have h2 := Hkb.out
    rcases h with h | h | h
    ·omega
    ·have := HS4.out i h; omega
    ·omega)).trans (HB5.out.block i hi)⟩)
   obtain ⟨kq, hkq⟩ : ∃ kq : Wk, ({ wkSeen (wkCome (kB kb xb 0 key 0 lt tt) kb sb x.1) (ofV (rdW (WtS d x.1 T) 24)).1 hw hs with over := true, e := 0 } : Wk) = kq := ⟨_, rfl⟩
   have hb6' : Blk w6 kb (wkCells kq) 70 := by rw [<- hkq]; exact hb6
   have hq : kq.next = .func (.func 72) #[.pointer (some ⟨kb, 0, none⟩)] #[] /\ kq.over = true /\ kq.e = 0 /\ kq.low = lt /\ kq.tto = tt := by rw [<- hkq]; exact ⟨rfl, rfl, rfl, rfl, rfl⟩
   obtain ⟨nn, hnn⟩ : ∃ nn, kq.n = nn := ⟨_, rfl⟩
   have HAt := Lib.hid (show Calls Tryz.prog 17 #[.pointer (some ⟨kb, 0, none⟩)] w6 fun e w' => e = .returned (.tuple #[.int .u64 kq.at_, .agg (ndCells nn), .int .i64 0]) /\ Below w6.heap.size w6 w' from by
    have := wat_v w6 kb kq 0 hb6' hq.1 hq.2.1 (.inl hq.2.2.1)
    rw [hq.2.2.1, hnn] at this
    exact this)
   obtain ⟨hi, hHi⟩ : ∃ hi : Bool, decide (stA d pr key 0 < ofA d key 0) = hi := ⟨_, rfl⟩
   have hx1 : (x.1 : Int) ≠ 0 := by
    obtain ⟨l9, g9⟩ := HBt.out.i.rw 0 R HR.out.1
    have := (g9.w x (List.mem_of_getElem? hx)).2.1
    omega
   obtain ⟨bq, hbq⟩ : ∃ bq : Bool, (tt == (xn.1 : Int)) = bq := ⟨_, rfl⟩
   obtain ⟨pn, hpn⟩ : ∃ pn, (F ℓ).length = pn := ⟨_, rfl⟩
   have HHop := Lib.hid (show ∀ W, Below w6.heap.size w6 W -> Calls Tryz.prog 12 #[.pointer (some ⟨kb, 0, none⟩)] W fun e w' => e = .returned (.tuple #[.int .u64 lt, .int .u64 tt, .bool hi]) /\ Below W.heap.size W w' from fun W hB => by
    have hb := whop_v W kb kq (hb6'.kept (Keeps.of_below' hB) (fun e => e))
    rw [hq.2.2.2.1, hq.2.2.2.2] at hb
    unfold hopLT at hlt
    by_cases h : stA d pr key 0 < ofA d key 0
    ·rw [if_pos ⟨rfl, h⟩] at hlt
     injection hlt with g1 g2
     rw [decide_eq_true h] at hHi
     subst hHi g1 g2
     refine hb.mono ?_
     rintro e w' ⟨rfl, hB⟩
     exact ⟨by rw [if_neg hx1], hB⟩
    ·rw [if_neg (fun e => h e.2)] at hlt
     injection hlt with g1 g2
     rw [decide_eq_false h] at hHi
     subst hHi g1 g2
     refine hb.mono ?_
     rintro e w' ⟨rfl, hB⟩
     exact ⟨by rw [if_pos rfl], hB⟩)
   have HPe := Lib.hid (show ∀ W, Below w6.heap.size w6 W -> Calls Tryz.prog 19 #[.pointer (some ⟨mb, 0, none⟩), .int .u64 at_] W fun e w' => e = .returned (.int .i64 (pn : Int)) /\ Below W.heap.size W w' from fun W hB => by
    have := pend_m (hM6.m.below hB) at_ HA0.out.1.1 HA0.out.1.2 HA0.out.2
    rw [Hℓ.out, hpn] at this
    exact this)
   have HSt := Lib.hid (show ∀ W, Below w6.heap.size w6 W -> Calls Tryz.prog 20 #[.pointer (some ⟨mb, 0, none⟩)] W fun e w' => e = .returned (.agg (statCells lo 1 fl fe)) /\ Below W.heap.size W w' from fun W hB => stats_m (hM6.m.below hB))
   have HPl := Lib.hid (show (hi = true -> bq = true -> pn = 0) /\ (pn = 0 -> 0 < fe) from by
    refine ⟨fun h1 h2 => ?_, fun h1 => ?_⟩
    ·rw [h1] at hHi
     have hlt2 := of_decide_eq_true hHi
     unfold hopLT at hlt
     rw [if_pos ⟨rfl, hlt2⟩] at hlt
     injection hlt with g1 g2
     rw [h2] at hbq
     have hxe : (x.1 : Int) = xn.1 := by rw [<- g2]; exact eq_of_beq hbq
     have hof : ofA d key 0 = k + 1 := by
      obtain ⟨l9, g9⟩ := HBt.out.i.rw 0 R HR.out.1
      have n1 : (R.map (·.1))[ofA d key 0]? = some x.1 := by rw [List.getElem?_map, hx]; rfl
      have n2 : (R.map (·.1))[k + 1]? = some xn.1 := by rw [List.getElem?_map, HXk.out.2]; rfl
      have l1 := (List.getElem?_eq_some_iff.1 n1).1
      have l2 := (List.getElem?_eq_some_iff.1 n2).1
      have hnd := List.pairwise_iff_getElem.1 g9.nd
      have h' : x.1 = xn.1 := by omega
      rcases Nat.lt_trichotomy (ofA d key 0) (k + 1) with h1 | h1 | h1
      ·have := hnd _ _ l1 l2 h1
       rw [(List.getElem?_eq_some_iff.1 n1).2, (List.getElem?_eq_some_iff.1 n2).2] at this
       exact absurd h' this
      ·exact h1
      ·have := hnd _ _ l2 l1 h1
       rw [(List.getElem?_eq_some_iff.1 n1).2, (List.getElem?_eq_some_iff.1 n2).2] at this
       exact absurd h'.symm this
     rw [<- hpn, hJ.2 rfl (by omega) (by omega)]; rfl
    ·have h0 := hBn.fe0
     rcases Int.lt_or_eq_of_le h0 with h | h
     ·exact h
     ·have := hJ.1 h.symm
      rw [<- hpn] at h1
      exact absurd (List.length_eq_zero_iff.1 h1) this)
   obtain ⟨aq, haq⟩ : ∃ aq, kq.at_ = aq := ⟨_, rfl⟩
   rw [haq] at HAt
   have HBq := Lib.hid hbq
   clear hF6 hlt hT6 hb6 hM6 hk6 hBn hJ hkq hb6' hq hnn hHi hx1 hbq hpn haq HDo HB5 hR' hx b1
   go_wp2_with (fail)
   refine HAt.out.mono ?_
   rintro e w7 ⟨rfl, hB7⟩
   have hz := Blk.new w7 (ndCells nd0) 46
   have kx : Below w6.heap.size w6 ((w7.alloc (.cells (ndCells nd0) 46)).setRow w7.heap.size (ndCells nn)) := below_setRow (hB7.alloc hB7.size _) hB7.size _
   obtain ⟨x1, hx1⟩ : ∃ x1, w7.heap.size = x1 := ⟨_, rfl⟩
   rw [hx1] at hz kx
   have HX1z := Lib.hid hx1
   have HZ := Lib.hid hz
   obtain ⟨w8, hw8⟩ : ∃ w8, (w7.alloc (.cells (ndCells nd0) 46)).setRow x1 (ndCells nn) = w8 := ⟨_, rfl⟩
   have HW8 := Lib.hid hw8
   rw [hw8] at kx
   have HK8 := Lib.hid kx
   clear hz hx1 hw8 kx HAt hB7
   go_upto_region 16 with (first
    | ((with_reducible refine wpList_alloc_ndAt (o := ⟨some 15, _, _, _, _, _⟩) rfl rfl x1 ?hz ?_); (case hz => exact HX1z.out))
    | ((with_reducible refine wpList_store_ndc (o := ⟨none, .store 46 (.tmp 15) (.tmp 84), _, _, _, _⟩) ?hgc (.tmp 15) (.tmp 84) ?hoc x1 (ndCells nn) nn nd0 ?hxc ?hyc ?hbc ?hmc ?_); (case hgc => rfl); (case hoc => rfl); (case hxc => exact ev_tmp (by simp)); (case hyc => exact ev_tmp (by simp)); (case hmc => rfl); (case hbc => exact HZ.out)))
   rw [HW8.out]
   clear HW8 HZ HX1z
   go_wp2_with (fail)
   refine (HHop.out w8 HK8.out).mono ?_
   rintro e w9 ⟨rfl, hB9⟩
   have HK9 := Lib.hid (HK8.out.trans (hB9.mono HK8.out.size))
   have k9 := HRw4.out w9 (HB6.out.trans (HK9.out.mono HB6.out.size))
   have hbq := HBq.out
   obtain ⟨xnn, hxnn⟩ : ∃ xnn, (xn.1 : Int) = xnn := ⟨_, rfl⟩
   rw [hxnn] at k9 hbq
   clear hB9 HK8
   cases hi with
   | false =>
    obtain ⟨wZ, rfl⟩ : ∃ wZ, wZ = w9 := ⟨_, rfl⟩
    have HKZ := HK9
    go_wp2_with (fail)
    refine (HPe.out wZ HKZ.out).mono ?_
    rintro e wa ⟨rfl, hBa⟩
    have HKa := Lib.hid (HKZ.out.trans (hBa.mono HKZ.out.size))
    clear hBa
    go_wp2_with (fail)
    have HSw := Lib.hid (HSt.out wa HKa.out)
    unfold statCells at HSw
    refine HSw.out.mono ?_
    rintro e wb ⟨rfl, hBb⟩
    have HKb := Lib.hid (HKa.out.trans (hBb.mono HKa.out.size))
    have hf3 : ∀ w : World, (Instr.field 75 (.agg #[.int .u64 lo, .int .u64 1, .int .u64 fl, .int .u64 fe]) 3).run Tryz.prog w = .ok (.int .u64 fe) w := fun _ => by kernel_rfl
    clear hBb HSw
    by_cases hp : pn = 0
    ·subst hp
     have hfe : decide (0 < fe) = true := decide_eq_true (HPl.out.2 (by trivial))
     go_wp2_with (fail)
     refine (HPe.out wb HKb.out).mono ?_
     rintro e wc ⟨rfl, hBc⟩
     have HKc := Lib.hid (HKb.out.trans (hBc.mono HKb.out.size))
     have HKn := Lib.hid (known_v wc)
     clear hBc
     go_wp2_with (fail)
     refine HKn.out.mono ?_
     rintro e wd ⟨rfl, hBd⟩
     have HBf := Lib.hid (HB2.out.trans ((HB6.out.trans ((HKc.out.trans (hBd.mono HKc.out.size)).mono HB6.out.size)).mono HB2.out.size))
     clear hBd
     go_wp2_with (fail)
     go_ret
     exact ⟨rfl, HBf.out⟩
    ·have h1 : (pn == 0) = false := beq_eq_false_iff_ne.2 hp
     have h2 : ((pn : Int) == 0) = false := beq_eq_false_iff_ne.2 (by omega)
     cases hfe : decide (0 < fe) with
     | true =>
      go_wp2_with (fail)
      refine (HPe.out wb HKb.out).mono ?_
      rintro e wc ⟨rfl, hBc⟩
      have HKc := Lib.hid (HKb.out.trans (hBc.mono HKb.out.size))
      have HKn := Lib.hid (known_v wc)
      clear hBc
      go_wp2_with (fail)
      refine HKn.out.mono ?_
      rintro e wd ⟨rfl, hBd⟩
      have HBf := Lib.hid (HB2.out.trans ((HB6.out.trans ((HKc.out.trans (hBd.mono HKc.out.size)).mono HB6.out.size)).mono HB2.out.size))
      clear hBd
      go_wp2_with (fail)
      go_ret
      exact ⟨rfl, HBf.out⟩
     | false =>
      have HKn := Lib.hid (known_v wb)
      go_wp2_with (fail)
      refine HKn.out.mono ?_
      rintro e wd ⟨rfl, hBd⟩
      have HBf := Lib.hid (HB2.out.trans ((HB6.out.trans ((HKb.out.trans (hBd.mono HKb.out.size)).mono HB6.out.size)).mono HB2.out.size))
      clear hBd
      go_wp2_with (fail)
      go_ret
      exact ⟨rfl, HBf.out⟩
   | true =>
    cases bq with
    | false =>
     obtain ⟨wZ, rfl⟩ : ∃ wZ, wZ = w9 := ⟨_, rfl⟩
     have HKZ := HK9
     go_wp2_with (fail)
     refine (HPe.out wZ HKZ.out).mono ?_
     rintro e wa ⟨rfl, hBa⟩
     have HKa := Lib.hid (HKZ.out.trans (hBa.mono HKZ.out.size))
     clear hBa
     go_wp2_with (fail)
     have HSw := Lib.hid (HSt.out wa HKa.out)
     unfold statCells at HSw
     refine HSw.out.mono ?_
     rintro e wb ⟨rfl, hBb⟩
     have HKb := Lib.hid (HKa.out.trans (hBb.mono HKa.out.size))
     have hf3 : ∀ w : World, (Instr.field 75 (.agg #[.int .u64 lo, .int .u64 1, .int .u64 fl, .int .u64 fe]) 3).run Tryz.prog w = .ok (.int .u64 fe) w := fun _ => by kernel_rfl
     clear hBb HSw
     by_cases hp : pn = 0
     ·subst hp
      have hfe : decide (0 < fe) = true := decide_eq_true (HPl.out.2 (by trivial))
      go_wp2_with (fail)
      refine (HPe.out wb HKb.out).mono ?_
      rintro e wc ⟨rfl, hBc⟩
      have HKc := Lib.hid (HKb.out.trans (hBc.mono HKb.out.size))
      have HKn := Lib.hid (known_v wc)
      clear hBc
      go_wp2_with (fail)
      refine HKn.out.mono ?_
      rintro e wd ⟨rfl, hBd⟩
      have HBf := Lib.hid (HB2.out.trans ((HB6.out.trans ((HKc.out.trans (hBd.mono HKc.out.size)).mono HB6.out.size)).mono HB2.out.size))
      clear hBd
      go_wp2_with (fail)
      go_ret
      exact ⟨rfl, HBf.out⟩
     ·have h1 : (pn == 0) = false := beq_eq_false_iff_ne.2 hp
      have h2 : ((pn : Int) == 0) = false := beq_eq_false_iff_ne.2 (by omega)
      cases hfe : decide (0 < fe) with
      | true =>
       go_wp2_with (fail)
       refine (HPe.out wb HKb.out).mono ?_
       rintro e wc ⟨rfl, hBc⟩
       have HKc := Lib.hid (HKb.out.trans (hBc.mono HKb.out.size))
       have HKn := Lib.hid (known_v wc)
       clear hBc
       go_wp2_with (fail)
       refine HKn.out.mono ?_
       rintro e wd ⟨rfl, hBd⟩
       have HBf := Lib.hid (HB2.out.trans ((HB6.out.trans ((HKc.out.trans (hBd.mono HKc.out.size)).mono HB6.out.size)).mono HB2.out.size))
       clear hBd
       go_wp2_with (fail)
       go_ret
       exact ⟨rfl, HBf.out⟩
      | false =>
       have HKn := Lib.hid (known_v wb)
       go_wp2_with (fail)
       refine HKn.out.mono ?_
       rintro e wd ⟨rfl, hBd⟩
       have HBf := Lib.hid (HB2.out.trans ((HB6.out.trans ((HKb.out.trans (hBd.mono HKb.out.size)).mono HB6.out.size)).mono HB2.out.size))
       clear hBd
       go_wp2_with (fail)
       go_ret
       exact ⟨rfl, HBf.out⟩
    | true =>
     obtain rfl : pn = 0 := HPl.out.1 rfl rfl
     go_wp2_with (fail)
     refine (HPe.out w9 HK9.out).mono ?_
     rintro e wZ ⟨rfl, hBZ⟩
     have HKZ := Lib.hid (HK9.out.trans (hBZ.mono HK9.out.size))
     clear hBZ k9 HK9
     go_wp2_with (fail)
     refine (HPe.out wZ HKZ.out).mono ?_
     rintro e wa ⟨rfl, hBa⟩
     have HKa := Lib.hid (HKZ.out.trans (hBa.mono HKZ.out.size))
     clear hBa
     go_wp2_with (fail)
     have HSw := Lib.hid (HSt.out wa HKa.out)
     unfold statCells at HSw
     refine HSw.out.mono ?_
     rintro e wb ⟨rfl, hBb⟩
     have HKb := Lib.hid (HKa.out.trans (hBb.mono HKa.out.size))
     have hf3 : ∀ w : World, (Instr.field 75 (.agg #[.int .u64 lo, .int .u64 1, .int .u64 fl, .int .u64 fe]) 3).run Tryz.prog w = .ok (.int .u64 fe) w := fun _ => by kernel_rfl
     clear hBb HSw
     have hfe : decide (0 < fe) = true := decide_eq_true (HPl.out.2 (by trivial))
     go_wp2_with (fail)
     refine (HPe.out wb HKb.out).mono ?_
     rintro e wc ⟨rfl, hBc⟩
     have HKc := Lib.hid (HKb.out.trans (hBc.mono HKb.out.size))
     have HKn := Lib.hid (known_v wc)
     clear hBc
     go_wp2_with (fail)
     refine HKn.out.mono ?_
     rintro e wd ⟨rfl, hBd⟩
     have HBf := Lib.hid (HB2.out.trans ((HB6.out.trans ((HKc.out.trans (hBd.mono HKc.out.size)).mono HB6.out.size)).mono HB2.out.size))
     clear hBd
     go_wp2_with (fail)
     go_ret
     exact ⟨rfl, HBf.out⟩
end Go.Proofs.YtodgfbjjjgohgaaGreat
