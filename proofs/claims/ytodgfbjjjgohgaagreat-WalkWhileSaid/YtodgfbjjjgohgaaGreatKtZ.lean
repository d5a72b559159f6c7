/-
 A WALK: At: contracts;Step,At,High,Hop of nothing.
-/
import Derived.Test.YtodgfbjjjgohgaaGreatKyZ
namespace Go.Proofs.YtodgfbjjjgohgaaGreat
open Go.RowKit
attribute [local go_sem] Oper.semAt_some
set_option linter.unusedVariables false

theorem results_tnt {fn : Func} {w : World} {s t u : Nat} (hr : fn.results = #[.tmp t,.cell s 46,.tmp u]) (tmps : Array Value) (g : Nat) (n : Nd) (hs : tmps.getD s undef = .pointer (some ⟨g,0,none⟩)) (h : Blk w g (ndCells n) 46) :
  (results fn tmps).run Tryz.prog w = .ok (.tuple #[tmps.getD t undef,.agg (ndCells n),tmps.getD u undef]) w := by
 have hl := run_loadVar_part (P := Tryz.prog) w g 0 46 (ndCells n) _ (ndLoad h) Tryz.underlying46 rfl (info27 n)
 have hs' : tmps[s]?.getD undef = .pointer (some ⟨g,0,none⟩) := by rw [<- hs];simp
 simp [results,hr,hs',asAddr,Result.andThen,hl]
structure AtG (w1 : World) (nb : Nat) (n : Nd) (L : Nat -> Bool) (W : World) : Prop where
 kp : Keeps (fun i => i = nb) w1 W
 n0 : L 15 = false -> Blk W nb (ndCells nd0) 46
 y : L 15 = true -> Blk W nb (ndCells n) 46
theorem AtG.start {w1 : World} {nb : Nat} {n : Nd} (h : Blk w1 nb (ndCells nd0) 46) : AtG w1 nb n (fun _ => false) w1.drew := ⟨(Keeps.refl _ _).drew,fun _ => h.drew,fun h => (by cases h)⟩
theorem AtG.keep {w1 W : World} {nb : Nat} {n : Nd} {L L' : Nat -> Bool} (h : AtG w1 nb n L W) (e : L' 15 = L 15) : AtG w1 nb n L' W := ⟨h.kp,by rw [e];exact h.n0,by rw [e];exact h.y⟩
theorem AtG.store {w1 W : World} {nb : Nat} {n : Nd} {L : Nat -> Bool} (h : AtG w1 nb n L W) (hf : L 15 = false) : AtG w1 nb n (lset L 15) (W.setRow nb (ndCells n)) :=
 ⟨keeps_setRow h.kp (.inl rfl) _,fun e => (by simp [lset] at e),fun _ => (h.n0 hf).row _⟩
set_option maxRecDepth 100000 in
set_option maxHeartbeats 8000000 in
theorem wat_v (w : World) (kb : Nat) (k : Wk) (f : Nat) (hb : Blk w kb (wkCells k) 70) (hn : k.next = .func (.func 72) #[.pointer (some ⟨kb,0,none⟩)] #[]) (ho : k.over = true) (he : k.e = 0 ∨ k.e = 5) :
  Calls Tryz.prog 17 #[.pointer (some ⟨kb,0,none⟩)] w fun e w' => e = .returned (.tuple #[.int .u64 k.at_,.agg (ndCells k.n),.int .i64 k.e]) /\ Below w.heap.size w w' := by
 have hq2 := fn_eq 72
 have hb1 := hb.alloc (.cells (ndCells nd0) 46)
 have hn1 := Blk.new w (ndCells nd0) 46
 obtain ⟨nb,hnb⟩ : ∃ nb,w.heap.size = nb := ⟨_,rfl⟩
 have HNe := Lib.hid (show kb ≠ nb from by have := hb.lt;omega)
 rw [hnb] at hn1
 have hk1 : Below nb w (w.alloc (.cells (ndCells nd0) 46)) := by rw [<- hnb];exact (Below.refl _ w).alloc (Nat.le_refl _) _
 have Hnb := Lib.hid hnb
 have hq : (k.e != 0) = true -> (k.e != 5) = false := fun h => by
  rcases he with e | e
  ·rw [e] at h;cases h
  ·rw [e];rfl
 clear hb
 go_enter Tryz.func17,Tryz.ntmps17
 go_upto_region 1 with ((with_reducible refine wpList_alloc_ndAt (o := ⟨some 3,_,_,_,_,_⟩) ?ha ?hbb nb ?hz ?_);(case ha => rfl);(case hbb => rfl);(case hz => exact Hnb.out))
 obtain ⟨w1,hw1⟩ : ∃ w1,w.alloc (.cells (ndCells nd0) 46) = w1 := ⟨_,rfl⟩
 rw [hw1] at hb1 hn1 hk1 ⊢
 have HB1 := Lib.hid hb1
 have HN1 := Lib.hid hn1
 have HK1 := Lib.hid hk1
 have c31 : w1.cell? ⟨kb,31,none⟩ = some (.func (.func 72) #[.pointer (some ⟨kb,0,none⟩)] #[]) := (hb1.cell 31).trans ((wk_tl _ 3).trans (by rw [<- hn];rfl))
 have c32 : w1.cell? ⟨kb,32,none⟩ = some (.bool true) := (hb1.cell 32).trans ((wk_tl _ 4).trans (by rw [<- ho];rfl))
 have c33 : w1.cell? ⟨kb,33,none⟩ = some (.int .i64 k.e) := (hb1.cell 33).trans ((wk_tl _ 5).trans rfl)
 clear hb1 hn1 hk1 hw1 hnb hn ho
 rcases he with he | he
 all_goals
  rw [he] at c33
  clear hq he
  go_wp2_with (fail)
  refine wp_region_vals [Is (.pointer (some ⟨kb,0,none⟩)),Is (.pointer (some ⟨kb,0,none⟩)),Is (.pointer (some ⟨kb,4,none⟩)),Is (.pointer (some ⟨kb,4,none⟩)),Is (.int .u64 k.at_),Is (.pointer (some ⟨kb,0,none⟩)),Is (.pointer (some ⟨kb,0,none⟩)),Is (.pointer (some ⟨kb,4,none⟩)),Is (.pointer (some ⟨kb,5,none⟩)),Is (.agg (ndCells k.n)),Is (.pointer (some ⟨kb,0,none⟩)),Is (.pointer (some ⟨kb,0,none⟩)),Is (.pointer (some ⟨kb,33,none⟩)),Is (.int .i64 k.e),Is (.int .u64 k.at_),Is (undef),Is (.int .i64 k.e)]
   (fun _ _ _ => True) (fun L W => AtG w1 nb k.n L W) (by kernel_rfl) (by kernel_rfl) (by kernel_rfl) ?hst ?h0 ⟨?o0,?o1,?o2,?o3,?o4,?o5,?o6,?o7,?o8,?o9,?o10,?o11,?o12,?o13,?o14,?o15,?o16,trivial⟩ ?he
  any_goals (intro L vs A W H hf hd K hK)
  case hst => repeat' (first | exact trivial | refine ⟨fun _ _ _ _ _ _ h _ => h,?_⟩)
  case h0 =>
   exact AtG.start HN1.out
  case o0 => have e0 : A.tmps[0]?.getD undef = .pointer (some ⟨kb,0,none⟩) := H.old 0 (by kernel_rfl);go_simp;exact hK _ _ (trivial) rfl (H.glob.keep rfl)
  case o1 => have e41 := H.iz hd 0 41 rfl rfl rfl (by kernel_rfl);go_simp;exact hK _ _ (trivial) rfl (H.glob.keep rfl)
  case o2 => have e42 := H.iz hd 1 42 rfl rfl rfl (by kernel_rfl);go_simp;exact hK _ _ (trivial) rfl (H.glob.keep rfl)
  case o3 => have e43 := H.iz hd 2 43 rfl rfl rfl (by kernel_rfl);go_simp;exact hK _ _ (trivial) rfl (H.glob.keep rfl)
  case o4 => have e44 := H.iz hd 3 44 rfl rfl rfl (by kernel_rfl);have d0 : W.cell? ⟨kb,4,none⟩ = some (.int .u64 k.at_) := (H.glob.kp.cell (p := ⟨kb,4,none⟩) HB1.out.lt HNe.out).trans ((HB1.out.cell 4).trans (wk_4 _));go_simp;exact hK _ _ (trivial) rfl (H.glob.keep rfl)
  case o5 => have e0 : A.tmps[0]?.getD undef = .pointer (some ⟨kb,0,none⟩) := H.old 0 (by kernel_rfl);go_simp;exact hK _ _ (trivial) rfl (H.glob.keep rfl)
  case o6 => have e46 := H.iz hd 5 46 rfl rfl rfl (by kernel_rfl);go_simp;exact hK _ _ (trivial) rfl (H.glob.keep rfl)
  case o7 => have e47 := H.iz hd 6 47 rfl rfl rfl (by kernel_rfl);go_simp;exact hK _ _ (trivial) rfl (H.glob.keep rfl)
  case o8 => have e48 := H.iz hd 7 48 rfl rfl rfl (by kernel_rfl);go_simp;exact hK _ _ (trivial) rfl (H.glob.keep rfl)
  case o9 => have e49 := H.iz hd 8 49 rfl rfl rfl (by kernel_rfl);refine wp_ld_part 46 (.tmp 49) rfl kb 5 (ev_tmp e49) (ndCells k.n) _ (fun j u hj => ?_) Tryz.underlying46 rfl (info27 k.n) (hK _ _ trivial rfl (H.glob.keep rfl));rw [H.glob.kp.cell (p := ⟨kb,5 + j,none⟩) HB1.out.lt HNe.out];exact (HB1.out.cell (5 + j)).trans (wk_n k j u hj)
  case o10 => have e0 : A.tmps[0]?.getD undef = .pointer (some ⟨kb,0,none⟩) := H.old 0 (by kernel_rfl);go_simp;exact hK _ _ (trivial) rfl (H.glob.keep rfl)
  case o11 => have e51 := H.iz hd 10 51 rfl rfl rfl (by kernel_rfl);go_simp;exact hK _ _ (trivial) rfl (H.glob.keep rfl)
  case o12 => have e52 := H.iz hd 11 52 rfl rfl rfl (by kernel_rfl);go_simp;exact hK _ _ (trivial) rfl (H.glob.keep rfl)
  case o13 => have e53 := H.iz hd 12 53 rfl rfl rfl (by kernel_rfl);have d0 : W.cell? ⟨kb,33,none⟩ = some (.int .i64 k.e) := (H.glob.kp.cell (p := ⟨kb,33,none⟩) HB1.out.lt HNe.out).trans ((HB1.out.cell 33).trans ((wk_tl _ 5).trans rfl));go_simp;exact hK _ _ (trivial) rfl (H.glob.keep rfl)
  case o14 => have e45 := H.iz hd 4 45 rfl rfl rfl (by kernel_rfl);go_simp;exact hK _ _ (trivial) rfl (H.glob.keep rfl)
  case o15 => have e3 : A.tmps[3]?.getD undef = .pointer (some ⟨nb,0,none⟩) := H.old 3 (by kernel_rfl);have e50 := H.iz hd 9 50 rfl rfl rfl (by kernel_rfl);have hbn := H.glob.n0 hf;exact wp_store_nd (.tmp 3) (.tmp 50) rfl nb k.n nd0 (ev_tmp e3) (ev_tmp e50) hbn (hK _ _ trivial rfl (H.glob.store hf))
  case o16 => have e54 := H.iz hd 13 54 rfl rfl rfl (by kernel_rfl);go_simp;exact hK _ _ (trivial) rfl (H.glob.keep rfl)
  case he =>
   intro vs W hlen hv
   match vs,hlen,hv with
   | [x0_,x1_,x2_,x3_,x4_,x5_,x6_,x7_,x8_,x9_,x10_,x11_,x12_,x13_,x14_,x15_,x16_],_,hv =>
   obtain rfl := isv hv 0 rfl rfl;obtain rfl := isv hv 1 rfl rfl;obtain rfl := isv hv 2 rfl rfl;obtain rfl := isv hv 3 rfl rfl;obtain rfl := isv hv 4 rfl rfl;obtain rfl := isv hv 5 rfl rfl;obtain rfl := isv hv 6 rfl rfl;obtain rfl := isv hv 7 rfl rfl;obtain rfl := isv hv 8 rfl rfl;obtain rfl := isv hv 9 rfl rfl;obtain rfl := isv hv 10 rfl rfl;obtain rfl := isv hv 11 rfl rfl;obtain rfl := isv hv 12 rfl rfl;obtain rfl := isv hv 13 rfl rfl;obtain rfl := isv hv 14 rfl rfl;obtain rfl := isv hv 15 rfl rfl;obtain rfl := isv hv 16 rfl rfl
   intro L hall hG
   clear hv hlen
   have HN2 := Lib.hid (hG.y (hall 15 (by decide)))
   have HKt := Lib.hid hG.kp
   clear hG hall
   simp only [fill,if_true]
   simp [Act.put]
   have HKf := Lib.hid (show Below w.heap.size w W from by
    have h1 := HK1.out
    have h2 := HKt.out
    exact ⟨h2.os.trans h1.os,h2.tape.trans h1.tape,h2.output.trans h1.output,Nat.le_trans h1.size h2.size,fun i hi => (h2.block i (Nat.lt_of_lt_of_le hi h1.size) (by have := Hnb.out;omega)).trans (h1.block i (by have := Hnb.out;omega))⟩)
   clear c31 c32 c33
   go_wp2_with (fail)
   (try simp only [Exit.inBlock,Exit.then])
   refine bodyPost_ret (results_tnt (fn := Tryz.f17) rfl _ nb k.n rfl HN2.out) rfl ?_
   exact ⟨rfl,HKf.out⟩
/-! . -/
structure AtH (w1 : World) (nb : Nat) (L : Nat -> Bool) (W : World) : Prop where
 kp : Keeps (fun i => i = nb) w1 W
 b : Blk W nb (ndCells nd0) 46
end Go.Proofs.YtodgfbjjjgohgaaGreat
