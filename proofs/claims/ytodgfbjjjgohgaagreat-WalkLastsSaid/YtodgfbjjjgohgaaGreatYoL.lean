/-
 pmem.Mem.Pending: a contract; a walk begins over a memory that was stored to.
-/
import Derived.Test.YtodgfbjjjgohgaaGreatYjL
import Derived.Test.YtodgfbjjjgohgaaGreatYlL
namespace Go.Proofs.YtodgfbjjjgohgaaGreat
open Go.RowKit
attribute [local go_sem] Oper.semAt_some
set_option linter.unusedVariables false

/-! . -/
def fromJ (k : Nat -> Int) (len fr : Nat) (key : Int) : Nat -> Nat
 | 0 => fr
 | J + 1 => if J < len /\ k J <= key then fr + J + 1 else fromJ k len fr key J
structure UpQ (x : Nat × Nd) (R : List (Nat × Nd)) (fr : Nat) (key : Int) (s : Nat) : Prop where
 lt : fr < R.length
 fi : ∃ z, R[fr]? = some z /\ x.2.fi = (z.1 : Int)
 en : ∀ j, j < x.2.len -> ∃ z, R[fr + j + 1]? = some z /\ x.2.p j = (z.1 : Int) /\ x.2.p j ≠ 0
 nz : ∀ j, j < 8 -> x.2.len <= j -> x.2.p j = 0
 len : x.2.len <= 8
 fin : fromJ x.2.k x.2.len fr key 8 = s
/-! . -/
structure UpG (w0 : World) (ub : Nat) (p : Int) (m : Nd) (L : Nat -> Bool) (W : World) : Prop where
 k : Below w0.heap.size w0 W
 n : L 15 = false -> W.heap.size = ub
 b0 : L 15 = true -> L 16 = false -> Blk W ub (atC 0 nd0) 48
 b1 : L 16 = true -> Blk W ub (atC p m) 48
section
variable {w0 W : World} {ub : Nat} {p : Int} {m : Nd} {L L' : Nat -> Bool}
end
end Go.Proofs.YtodgfbjjjgohgaaGreat
namespace Go.Proofs.YtodgfbjjjgohgaaGreat
open Go.RowKit
attribute [local go_sem] Oper.semAt_some
set_option linter.unusedVariables false

theorem field_ln (s : Value) (f : Nat -> Int) (h1 : s.oneCell' = true) (w : World) : (Instr.field 95 (.agg (lnCells s f)) 0).run Tryz.prog w = .ok s w := by
 kernel_rfl
set_option maxRecDepth 100000 in
set_option maxHeartbeats 8000000 in
theorem pend_m {w : World} {mb : Nat} {S : Nat -> Prop} {vs is : List Int} {mk : Int -> Nat -> Int} {F : Int -> List (Int × Int)} {lo st fl fe : Int} (h : MemP w mb S vs is mk F lo st fl fe) (a : Int) (h0 : 0 <= a) (h1 : a <= 18446744073709551615) (he : atE vs.length a = 0) :
  Calls Tryz.prog 19 #[.pointer (some ⟨mb, 0, none⟩), .int .u64 a] w fun e w' => e = .returned (.int .i64 ((F (lineOf a)).length : Nat)) /\ Below w.heap.size w w' := by
 obtain ⟨N0, vv, vi, ml, D, sl, hm, hN, hS, hp, hl, hr⟩ := h
 have HAt := Lib.hid (mat_v w mb vs is vv vi ml lo st fl fe hm.m hp (by omega) a h0 h1)
 rw [he] at HAt
 have HBg := Lib.hid (fun W => begin_v a h0 h1 W)
 have ha0b : 0 <= lineOf a /\ lineOf a <= 18446744073709551615 := by unfold lineOf; omega
 obtain ⟨a0, ha0⟩ : ∃ a0, lineOf a = a0 := ⟨_, rfl⟩
 rw [ha0] at HBg ha0b ⊢
 obtain ⟨s0, hs0⟩ : ∃ s0, sl a0 = s0 := ⟨_, rfl⟩
 obtain ⟨f0, hf0⟩ : ∃ f0, mk a0 = f0 := ⟨_, rfl⟩
 have hE : hasL D a0 (.agg (lnCells s0 f0)) := by rw [<- hs0, <- hf0]; exact hm.e a0
 have hR : RowC w N0 s0 (F a0) := by rw [<- hs0]; exact hm.r a0
 have HC2 := Lib.hid (show w.drew.cell? ⟨mb, 2, none⟩ = some (.map (some ml)) from hm.m.c 2)
 have HL6 := Lib.hid (show (Instr.lookup 90 (.map (some ml)) (.int .u64 a0) false).run Tryz.prog w.drew = .ok (.agg (lnCells s0 f0)) w.drew from own_look (ownL_keeps hm.o (Keeps.refl NoB w).drew (fun h => h)) a0 ha0b.1 ha0b.2 hE)
 have HFd := Lib.hid (field_ln s0 f0 hR.one)
 obtain ⟨nn, hnn⟩ : ∃ nn, (F a0).length = nn := ⟨_, rfl⟩
 have HS0 := Lib.hid (show ∃ A C, s0 = .slice A nn C from by
  obtain ⟨A, C, e, _⟩ := hR.form
  exact ⟨A, C, by rw [<- hnn]; exact e⟩)
 rw [hnn]
 clear hm hN hS hp hl hr he h0 h1 ha0b ha0 hs0 hf0 hE hR hnn
 go_enter Tryz.func19, Tryz.ntmps19
 go_wp2_with (fail)
 refine HAt.out.mono ?_
 rintro e w' ⟨rfl, rfl⟩
 go_wp2_with (fail)
 refine wp_region_vals [Is (.pointer (some ⟨mb, 0, none⟩)), Is (.pointer (some ⟨mb, 0, none⟩)), Is (.pointer (some ⟨mb, 2, none⟩)), Is (.map (some ml)), Is (.int .u64 a), Is (.int .u64 a0), Is (.agg (lnCells s0 f0)), Is (s0), Is (.int .i64 (nn : Int)), Is (.int .i64 (nn : Int))]
  (fun _ _ _ => True) (fun _ W => W = w.drew) (by kernel_rfl) (by kernel_rfl) (by kernel_rfl) ?hst ?h0 ⟨?o0, ?o1, ?o2, ?o3, ?o4, ?o5, ?o6, ?o7, ?o8, ?o9, trivial⟩ ?he
 any_goals (intro L vs A W H hf hd K hK)
 case hst => repeat' (first | exact trivial | refine ⟨fun _ _ _ _ _ _ h _ => h, ?_⟩)
 case h0 =>
  exact rfl
 case o0 => have e0 : A.tmps[0]?.getD undef = .pointer (some ⟨mb, 0, none⟩) := H.old 0 (by kernel_rfl); go_simp; exact hK _ _ (trivial) rfl (H.glob)
 case o1 => have e9 := H.iz hd 0 9 rfl rfl rfl (by kernel_rfl); go_simp; exact hK _ _ (trivial) rfl (H.glob)
 case o2 => have e10 := H.iz hd 1 10 rfl rfl rfl (by kernel_rfl); go_simp; exact hK _ _ (trivial) rfl (H.glob)
 case o3 => have e11 := H.iz hd 2 11 rfl rfl rfl (by kernel_rfl); have d : W.cell? ⟨mb, 2, none⟩ = some (.map (some ml)) := (by rw [H.glob]; exact HC2.out); go_simp; exact hK _ _ (trivial) rfl (H.glob)
 case o4 => have e1 : A.tmps[1]?.getD undef = .int .u64 a := H.old 1 (by kernel_rfl); go_simp; exact hK _ _ (trivial) rfl (H.glob)
 case o5 => have e13 := H.iz hd 4 13 rfl rfl rfl (by kernel_rfl); have hC := HBg.out W; go_simp; refine hC.mono ?_; rintro e w' ⟨rfl, rfl⟩; go_simp; exact hK _ _ trivial rfl H.glob
 case o6 => have e12 := H.iz hd 3 12 rfl rfl rfl (by kernel_rfl); have e14 := H.iz hd 5 14 rfl rfl rfl (by kernel_rfl); have hl : (Instr.lookup 90 (.map (some ml)) (.int .u64 a0) false).run Tryz.prog W = .ok (.agg (lnCells s0 f0)) W := (by rw [H.glob]; exact HL6.out); go_simp; exact hK _ _ (trivial) rfl (H.glob)
 case o7 => have e15 := H.iz hd 6 15 rfl rfl rfl (by kernel_rfl); have hf2 := HFd.out W; go_simp; exact hK _ _ (trivial) rfl (H.glob)
 case o8 => have e16 := H.iz hd 7 16 rfl rfl rfl (by kernel_rfl); obtain ⟨A2, C2, hs2⟩ := HS0.out; subst hs2; go_simp; exact hK _ _ (trivial) rfl (H.glob)
 case o9 => have e17 := H.iz hd 8 17 rfl rfl rfl (by kernel_rfl); go_simp; exact hK _ _ (trivial) rfl (H.glob)
 case he =>
  intro vs W hlen hv
  match vs, hlen, hv with
  | [x0_, x1_, x2_, x3_, x4_, x5_, x6_, x7_, x8_, x9_], _, hv =>
  obtain rfl := isv hv 0 rfl rfl; obtain rfl := isv hv 1 rfl rfl; obtain rfl := isv hv 2 rfl rfl; obtain rfl := isv hv 3 rfl rfl; obtain rfl := isv hv 4 rfl rfl; obtain rfl := isv hv 5 rfl rfl; obtain rfl := isv hv 6 rfl rfl; obtain rfl := isv hv 7 rfl rfl; obtain rfl := isv hv 8 rfl rfl; obtain rfl := isv hv 9 rfl rfl
  intro L hall hG
  clear hv hlen
  have HW := hG
  clear hG hall
  subst HW
  simp only [fill, if_true]
  simp [Act.put]
  go_wp2_with (fail)
  go_ret
  exact ⟨rfl, (Below.refl _ w).drew⟩
theorem start_m {w2 w3 : World} {vsT : Nat -> List Int} {rows : List (List (Nat × Nd))} {Wt : Nat -> Nat -> Nat -> Int} {xb mb kb c : Nat} {S : Nat -> Prop} {key : Int} {level N0 : Nat} {JJ : Nat -> Nat -> (Int -> List (Int × Int)) -> Int -> Prop} {Q0 : Prop} {is : List Int} {mk : Int -> Nat -> Int} {F : Int -> List (Int × Int)} {lo st0 : Int}
  (hx : ∃ C, Blk w2 xb C 88 /\ C[0]? = some (.pointer (some ⟨mb, 0, none⟩))) (hm : MemP w2 mb S (vsT 0) is mk F lo st0 0 0) (hn : ¬ S xb) (hkb : w2.heap.size = kb) (hb : Blk w3 kb (wkCells (wkNew kb (some ⟨xb, 0, none⟩) c key level)) 70) (hBl : Below w2.heap.size w2 w3) (hJ : JJ (rows.length - 1) 0 F 0) (of st : Nat -> Nat) :
  StG2 rows of st Wt vsT key level c N0 st0 JJ Q0 w3 w3.heap.size w3.heap.size kb xb mb S 0 0 := by
 obtain ⟨C, hx, hC⟩ := hx
 have hxl := hx.lt
 have hkl := hb.lt
 have hsz := hBl.size
 have hSl : ∀ i, S i -> i < w2.heap.size := fun i hi => MemP.lt hm hi
 exact ⟨⟨⟨C, hx.below hBl hxl, hC⟩, ⟨hkl, by omega, by omega, fun e => by have := hSl _ e; omega, hn, fun i hi => by have := hSl i hi; omega⟩, Nat.le_refl _, Nat.le_refl _⟩, .inl ⟨S, _, _, _, _, 0, 0, rfl, hb, ⟨MemP.below hm hBl, fun i hi => .inl hi⟩, ⟨Int.le_refl _, Int.le_refl _, Int.le_refl _, Int.le_refl _⟩, hJ⟩⟩
end Go.Proofs.YtodgfbjjjgohgaaGreat
