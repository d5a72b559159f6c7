/-
 A LAW's WALK BEGINS: a walk over an arena that is laid; the law WalkHops.
-/
import Derived.Test.YtodgfbjjjgohgaaGreatYbH
import Derived.Test.YtodgfbjjjgohgaaGreatYkH
import Derived.Test.YtodgfbjjjgohgaaGreatKbH
import Derived.Test.YtodgfbjjjgohgaaGreatYjH
namespace Go.Proofs.YtodgfbjjjgohgaaGreat
open Go.RowKit Go.ChangeShapes Go.WideShapes Go.Deep
attribute [local go_sem] Oper.semAt_some
set_option linter.unusedVariables false

/-! . -/
def laidC (slabs : Int) (A : Option Addr) (n c : Nat) (per lag : Int) : Array Value := #[.int .i64 slabs, .slice A n c, .int .i64 per, .int .i64 lag]
set_option maxRecDepth 100000 in
theorem open_laid {H : Type} {enc : TypeId × Value -> H} {W : World} {base : Nat} {v : Value} {d : DataW H} {p : List MemPlace} (hv : Value.okWide Tryz.prog W .any base 24 v) (h : DataW.Trod enc Tryz.prog W 0 (fun _ => true) true 24 v d p) :
  ∃ (slabs per lag : Int) (A : Option Addr) (c : Nat) (l : List Int), v = .agg (laidC slabs A l.length c per lag) /\ Reads W W.heap.size 1 A l.length (l.map (Value.int .u64)) /\ (∀ x ∈ l, 0 <= x /\ x <= 18446744073709551615) := by
 obtain ⟨cs, rfl, hsz⟩ := okWide_struct Tryz.underlying24 hv
 have h4 : Tryz.prog.cellsOf 24 = 4 := by kernel_rfl
 rw [h4] at hsz
 obtain ⟨fuel, hf⟩ := h
 obtain ⟨xs, m, _, _, _, hl, hx⟩ := DataW.trod_struct Tryz.underlying24 hf
 have hs : ∀ i, i < 4 -> xs[i]? ≠ none := fun i hi => by
  have : i < xs.length := by rw [hl]; exact hi
  rw [List.getElem?_eq_getElem this]; simp
 obtain ⟨a, e0, w0⟩ := trod_int_at Tryz.underlying3 (by kernel_rfl) (hs 0 (by omega)) (hx 0 _ rfl)
 obtain ⟨b, e2, w2⟩ := trod_int_at Tryz.underlying3 (by kernel_rfl) (hs 2 (by omega)) (hx 2 _ rfl)
 obtain ⟨c, e3, w3⟩ := trod_int_at Tryz.underlying3 (by kernel_rfl) (hs 3 (by omega)) (hx 3 _ rfl)
 have e1 := hx 1 _ rfl
 obtain ⟨y, hy⟩ : ∃ y, xs[1]? = some y := by
  cases h : xs[1]? with
  | none => exact absurd h (hs 1 (by omega))
  | some y => exact ⟨y, rfl⟩
 rw [hy] at e1
 have hc1 : Tryz.prog.cellsOf 22 = 1 := by kernel_rfl
 have hce : Tryz.prog.cellsOf 25 = 1 := by kernel_rfl
 have hsl : ∃ (A : Option Addr) (cp : Nat) (l : List Int), cs[1]? = some (.slice A l.length cp) /\ Reads W W.heap.size 1 A l.length (l.map (Value.int .u64)) /\ (∀ x ∈ l, 0 <= x /\ x <= 18446744073709551615) := by
  obtain ⟨cl, hcl⟩ : ∃ cl : List Value, ((Value.agg cs).cells.toList.drop 1).take 1 = cl := ⟨_, rfl⟩
  have e1' : DataW.trod enc Tryz.prog W 0 (fun _ => true) true m 22 cl = some y := by
   rw [<- hcl]
   exact e1
  rcases open_ints Tryz.underlying22 Tryz.underlying25 hce e1' with ⟨hcs, _⟩ | ⟨a, len, cap, zs, hcs, _, hl2, hm, hlen, _, hc, hw⟩
  ·rw [hcs] at hcl
   have := take1 hcl
   simp only [Value.cells, Array.getElem?_toList] at this
   exact ⟨none, 0, [], this, ⟨rfl, fun h => absurd h (by decide)⟩, fun x hx => by cases hx⟩
  ·rw [hcs] at hcl
   have := take1 hcl
   simp only [Value.cells, Array.getElem?_toList] at this
   have hlz : len <= zs.length := by rw [hlen]; simp; exact hl2
   have htl : (zs.take len).length = len := by rw [List.length_take]; omega
   refine ⟨some a, cap, zs.take len, by rw [htl]; exact this, ⟨by rw [List.length_map, Nat.mul_one], fun hn => ?_⟩, fun x hx => u64_bounds (hw x (List.mem_of_mem_take hx))⟩
   rw [htl] at hn
   have h0 := hc 0 (by omega)
   rw [show a.add 0 = a by simp [Addr.add]] at h0
   refine ⟨a, rfl, World.block_lt_of_cell? W _ h0, fun j u hj => ?_⟩
   rw [List.getElem?_map] at hj
   have hjl : j < len := by
    rcases Nat.lt_or_ge j len with h | h
    ·exact h
    ·rw [List.getElem?_eq_none (by rw [htl]; exact h)] at hj; cases hj
   rw [hc j (by omega), <- hj, List.getElem?_take_of_lt hjl, List.getD_eq_getElem?_getD, List.getElem?_eq_getElem (by omega)]
   rfl
 obtain ⟨A, cp, l, e1, hr, hu⟩ := hsl
 refine ⟨a, b, c, A, cp, l, congrArg Value.agg ?_, hr, hu⟩
 simp only [Value.cells, Array.getElem?_toList] at e0 e2 e3
 apply Array.ext_getElem?
 intro i
 rcases Nat.lt_or_ge i 4 with hi | hi
 ·have hc : i = 0 ∨ i = 1 ∨ i = 2 ∨ i = 3 := by omega
  rcases hc with rfl | rfl | rfl | rfl
  ·exact e0
  ·exact e1
  ·exact e2
  ·exact e3
 ·rw [Array.getElem?_eq_none (by omega), Array.getElem?_eq_none (by simp [laidC]; omega)]
/-! . -/
structure ArR (w : World) (ab gb cb g cap : Nat) (d : AD) : Prop where
 b0 : w.cell? ⟨ab, 0, none⟩ = some (.slice (some ⟨gb, 0, none⟩) d.L.length cb)
 gl : gb < w.heap.size
 cl : d.L.length <= cb
 by_ : BytesAt w gb 0 d.L
 c7 : w.cell? ⟨ab, 7, none⟩ = some (.slice (some ⟨g, 0, none⟩) d.lv.length cap)
 lt : ab < w.heap.size /\ g < w.heap.size
 row : ∀ (i : Nat) (R : List (Nat × Nd)), d.lv[i]? = some R -> ∃ rb cr, w.cell? ⟨g, i, none⟩ = some (.slice (some ⟨rb, 0, none⟩) R.length cr) /\ RowAtB w rb R
theorem ArR.below {w w' : World} {ab gb cb g cap : Nat} {d : AD} (h : ArR w ab gb cb g cap d) (hB : Below w.heap.size w w') : ArR w' ab gb cb g cap d := by
 obtain ⟨l1, l2⟩ := h.lt
 have := hB.size
 refine ⟨(hB.cell (p := ⟨ab, 0, none⟩) l1).trans h.b0, by have := h.gl; omega, h.cl, fun i hi => (hB.cell (p := ⟨gb, 0 + i, none⟩) h.gl).trans (h.by_ i hi), (hB.cell (p := ⟨ab, 7, none⟩) l1).trans h.c7, ⟨by omega, by omega⟩, fun i R hR => ?_⟩
 obtain ⟨rb, cr, h1, h2⟩ := h.row i R hR
 exact ⟨rb, cr, (hB.cell (p := ⟨g, i, none⟩) l2).trans h1, h2.kept (Keeps.of_below' hB) (fun e => e)⟩
def LayQ (w w' : World) (e : Ending) (l : List Int) : Prop :=
 Below w.heap.size w w' /\ (e = .returned (.pointer none) ∨ ∃ (d : AD) (slabs per lag : Nat) (l0 : List (Int × Int)) (kd cn : Nat -> Nat) (ab gb cb g cap : Nat), e = .returned (.pointer (some ⟨ab, 0, none⟩)) /\ 1 <= slabs /\ 2 <= per /\ per <= 8 ∧
  Built d slabs per lag (risR 40 [] l) l0 kd cn /\ ArR w' ab gb cb g cap d)
theorem LayP.q {w w' : World} {e : Ending} {slabs per lag : Int} {l : List Int} (hu : ∀ x ∈ l, 0 <= x /\ x <= 18446744073709551615) (h : LayP w w' e slabs per lag l) : LayQ w w' e l := by
 obtain ⟨v, rfl, h1, hB⟩ := h
 refine ⟨hB, ?_⟩
 rcases h1 with ⟨_, rfl⟩ | ⟨h1, h2⟩
 ·exact .inl rfl
 ·have hb : 1 <= slabs /\ slabs <= 16 /\ 2 <= per /\ per <= 8 := by
   unfold layBad at h1
   simp only [Bool.or_eq_false_iff, decide_eq_false_iff_not] at h1
   omega
  rcases h2 with ⟨_, rfl⟩ | ⟨d, ab, gb, cb, vv, h3, rfl, hA, hL, hO, hN, _, _⟩
  ·exact .inl rfl
  ·obtain ⟨l0, kd, cn, hBt⟩ := buildA_st (by omega) (by omega) (by omega) (fun x hx => by
    rcases risR_mem _ _ x hx with h | h
    ·cases h
    ·exact hu x h) (risR_rise _ _ List.Pairwise.nil) h3
   obtain ⟨vs, ho, hr⟩ := hL.ex
   obtain ⟨g, cap, rfl, _, hg, _, _, _, hc, _⟩ := own_shape ho hBt.ne
   refine .inr ⟨d, slabs.toNat, per.toNat, lag.toNat, l0, kd, cn, ab, gb, cb, g, cap, rfl, by omega, by omega, by omega, hBt, ⟨(hA.a.cell 0).trans hA.c, hA.b.lt, hN, fun i hi => ?_, (hA.a.cell 7).trans rfl, ⟨hA.a.lt, hg⟩, fun i R hR => ?_⟩⟩
   ·rw [Nat.zero_add, hA.b.cell, bcA_get]; simp [hi]
   ·obtain ⟨rb, cr, hv0, _, _, _, _, hrow⟩ := hr i R hR
    exact ⟨rb, cr, (hc i (List.getElem?_eq_some_iff.1 hR).1).trans hv0, hrow⟩
/-! . -/
set_option maxRecDepth 100000 in
set_option maxHeartbeats 4000000 in
theorem aof_v (w : World) (ab gb cb g cap : Nat) (d : AD) (h : ArR w ab gb cb g cap d) (L : Nat) (R : List (Nat × Nd)) (hR : d.lv[L]? = some R) (key : Int) (h16 : d.lv.length <= 16) (hrl : R.length <= 1000) :
  Calls Tryz.prog 13 #[.pointer (some ⟨ab, 0, none⟩), .int .i64 (L : Int), .int .u64 key] w fun e w' => e = .returned (.int .i64 (ofA d key L : Nat)) /\ w = w' := by
 obtain ⟨rb, cr, hrc, hrow⟩ := h.row L R hR
 have hLl := (List.getElem?_eq_some_iff.1 hR).1
 have HOf := Lib.hid (show ofA d key L = ofK R key R.length from by unfold ofA; rw [rowK_get hR])
 obtain ⟨nl, hnl⟩ : ∃ nl, d.lv.length = nl := ⟨_, rfl⟩
 obtain ⟨rn, hrn⟩ : ∃ rn, R.length = rn := ⟨_, rfl⟩
 have c7 := h.c7
 rw [hnl] at c7 hLl h16
 rw [hrn] at hrc HOf hrl
 have HRow := Lib.hid hrow
 have HLt := Lib.hid (And.intro h.lt hrow.lt)
 have HGet := Lib.hid (show ∀ i, i < rn -> ∃ x, R[i]? = some x /\ loK R i = x.2.lo from fun i hi => ⟨_, List.getElem?_eq_getElem (by omega), loK_get (List.getElem?_eq_getElem (by omega))⟩)
 have q1 : (0 : Int) <= (L : Int) := by omega
 have q2 : (L : Int) < (nl : Int) := by omega
 have q3 : ((L : Int)).toNat = L := by omega
 have q4 : decide ((L : Int) < 0) = false := decide_eq_false (by omega)
 have q5 : decide ((nl : Int) <= (L : Int)) = false := decide_eq_false (by omega)
 have Hrl := Lib.hid hrl
 obtain ⟨ff, hff⟩ : ∃ ff : Nat -> Nat, (fun n => ofK R key n) = ff := ⟨_, rfl⟩
 have HF := Lib.hid (show ff 0 = 0 /\ (∀ n, ff (n + 1) = if loK R n <= key then n else ff n) /\ ∀ n, ff n <= n from by
  rw [<- hff]
  refine ⟨rfl, fun n => rfl, fun n => ?_⟩
  show ofK R key n <= n
  rcases Nat.eq_zero_or_pos n with e | e
  ·subst e; exact Nat.le_refl _
  ·have := (ofK_spec R key n e).1; omega)
 have HOe := Lib.hid (show ofA d key L = ff rn from by rw [HOf.out, <- hff])
 clear h hrow hnl hrn hrl HOf hff h16 hLl
 go_enter Tryz.func13, Tryz.ntmps13
 go_wp2_with (fail)
 go_loopw [8, 9] (fun av iv wr => ∃ k : Nat, k <= rn /\ iv = .int .i64 k /\ av = .int .i64 (ff k : Nat) /\ wr = w) (fun _ iv _ => rn - (intOf iv).toNat)
 case atStart => exact ⟨0, Nat.zero_le _, rfl, by rw [HF.out.1]; rfl, rfl⟩
 case round =>
  obtain ⟨k, hk, rfl, rfl, rfl⟩ := hrel
  by_cases hlt : k < rn
  ·obtain ⟨x, hx, hlo⟩ := HGet.out k hlt
   have d2 : wr.cell? ⟨rb, k * 22 + 2, none⟩ = some (.int .u64 x.2.lo) := ((HRow.out.cell hx (by decide)).trans ((atC_succ _ _ 1).trans rfl))
   have HN := Lib.hid (HF.out.2.1 k)
   have HFl := Lib.hid (HF.out.2.2 k)
   rw [hlo] at HN
   obtain ⟨lo, hlo2⟩ : ∃ lo, x.2.lo = lo := ⟨_, rfl⟩
   rw [hlo2] at d2 HN
   obtain ⟨fk, hfk⟩ : ∃ fk, ff k = fk := ⟨_, rfl⟩
   rw [hfk] at HN HFl
   have Hlt := Lib.hid hlt
   have b1 : (k : Int) < (rn : Int) := by omega
   have b2 : (0 : Int) <= (k : Int) := by omega
   have b3 : ((k : Int)).toNat = k := by omega
   have b4 : (k : Int) <= 1000 := by have := Hrl.out; omega
   rw [hfk]
   clear hx hlo hlo2 hfk
   have Hk := Lib.hid hk
   clear hk hlt
   by_cases hle : lo <= key
   ·have HN2 := Lib.hid (show ff (k + 1) = k from by rw [HN.out, if_pos hle])
    go_wp2_with (fail)
    go_roundw
    case rel => exact ⟨k + 1, Hlt.out, by go_num, by rw [HN2.out], trivial⟩
    case measure => have := Hlt.out; simp [intOf]; omega
   ·have HN2 := Lib.hid (show ff (k + 1) = fk from by rw [HN.out, if_neg hle])
    go_wp2_with (fail)
    go_roundw
    case rel => exact ⟨k + 1, Hlt.out, by go_num, by rw [HN2.out], trivial⟩
    case measure => have := Hlt.out; simp [intOf]; omega
  ·obtain rfl : k = rn := by omega
   go_wp2_with (fail)
   go_ret
   exact ⟨by rw [HOe.out]; rfl, rfl⟩
/-! . -/
set_option maxRecDepth 100000 in
set_option maxHeartbeats 4000000 in
theorem whop_v (w : World) (kb : Nat) (k : Wk) (hb : Blk w kb (wkCells k) 70) :
  Calls Tryz.prog 12 #[.pointer (some ⟨kb, 0, none⟩)] w fun e w' => e = .returned (if k.tto = 0 then .tuple #[.int .u64 0, .int .u64 0, .bool false] else .tuple #[.int .u64 k.low, .int .u64 k.tto, .bool true]) /\ Below w.heap.size w w' := by
 have c28 : w.cell? ⟨kb, 28, none⟩ = some (.int .u64 k.low) := (hb.cell 28).trans ((wk_tl _ 0).trans rfl)
 have c29 : w.cell? ⟨kb, 29, none⟩ = some (.int .u64 k.tto) := (hb.cell 29).trans ((wk_tl _ 1).trans rfl)
 have HB := Lib.hid hb
 obtain ⟨tt, htt⟩ : ∃ tt, k.tto = tt := ⟨_, rfl⟩
 rw [htt] at c29 ⊢
 clear hb
 by_cases h0 : tt = 0
 ·rw [if_pos h0]
  subst h0
  clear htt
  go_enter Tryz.func12, Tryz.ntmps12
  go_wp2_with (fail)
  (try simp only [Exit.inBlock, Exit.then])
  refine bodyPost_ret (results_ttt (fn := Tryz.f12) rfl _) rfl ?_
  exact ⟨rfl, Below.refl _ _⟩
 ·rw [if_neg h0]
  have Htt := Lib.hid htt
  clear htt
  go_enter Tryz.func12, Tryz.ntmps12
  go_upto_region 3 with (fail)
  clear c28 c29
  refine wp_region_vals [Is (.pointer (some ⟨kb, 0, none⟩)), Is (.pointer (some ⟨kb, 0, none⟩)), Is (.pointer (some ⟨kb, 28, none⟩)), Is (.int .u64 k.low), Is (.pointer (some ⟨kb, 0, none⟩)), Is (.pointer (some ⟨kb, 0, none⟩)), Is (.pointer (some ⟨kb, 29, none⟩)), Is (.int .u64 tt), Is (.int .u64 k.low), Is (.int .u64 tt), Is (.bool true)]
   (fun _ _ _ => True) (fun _ W => Below w.heap.size w W) (by kernel_rfl) (by kernel_rfl) (by kernel_rfl) ?hst ?h0 ⟨?o0, ?o1, ?o2, ?o3, ?o4, ?o5, ?o6, ?o7, ?o8, ?o9, ?o10, trivial⟩ ?he
  any_goals (intro L vs A W H hf hd K hK)
  case hst => repeat' (first | exact trivial | refine ⟨fun _ _ _ _ _ _ h _ => h, ?_⟩)
  case h0 =>
   exact (Below.refl _ w).drew
  case o0 => have e0 : A.tmps[0]?.getD undef = .pointer (some ⟨kb, 0, none⟩) := H.old 0 (by kernel_rfl); go_simp; exact hK _ _ (trivial) rfl (H.glob)
  case o1 => have e14 := H.iz hd 0 14 rfl rfl rfl (by kernel_rfl); go_simp; exact hK _ _ (trivial) rfl (H.glob)
  case o2 => have e15 := H.iz hd 1 15 rfl rfl rfl (by kernel_rfl); go_simp; exact hK _ _ (trivial) rfl (H.glob)
  case o3 => have e16 := H.iz hd 2 16 rfl rfl rfl (by kernel_rfl); have d : W.cell? ⟨kb, 28, none⟩ = some (.int .u64 k.low) := (H.glob.cell (p := ⟨kb, 28, none⟩) HB.out.lt).trans ((HB.out.cell 28).trans ((wk_tl _ 0).trans rfl)); go_simp; exact hK _ _ (trivial) rfl (H.glob)
  case o4 => have e0 : A.tmps[0]?.getD undef = .pointer (some ⟨kb, 0, none⟩) := H.old 0 (by kernel_rfl); go_simp; exact hK _ _ (trivial) rfl (H.glob)
  case o5 => have e18 := H.iz hd 4 18 rfl rfl rfl (by kernel_rfl); go_simp; exact hK _ _ (trivial) rfl (H.glob)
  case o6 => have e19 := H.iz hd 5 19 rfl rfl rfl (by kernel_rfl); go_simp; exact hK _ _ (trivial) rfl (H.glob)
  case o7 => have e20 := H.iz hd 6 20 rfl rfl rfl (by kernel_rfl); have d : W.cell? ⟨kb, 29, none⟩ = some (.int .u64 tt) := (H.glob.cell (p := ⟨kb, 29, none⟩) HB.out.lt).trans ((HB.out.cell 29).trans ((wk_tl _ 1).trans (by rw [<- Htt.out]; rfl))); go_simp; exact hK _ _ (trivial) rfl (H.glob)
  case o8 => have e17 := H.iz hd 3 17 rfl rfl rfl (by kernel_rfl); go_simp; exact hK _ _ (trivial) rfl (H.glob)
  case o9 => have e21 := H.iz hd 7 21 rfl rfl rfl (by kernel_rfl); go_simp; exact hK _ _ (trivial) rfl (H.glob)
  case o10 => go_simp; exact hK _ _ (trivial) rfl (H.glob)
  case he =>
   intro vs W hlen hv
   match vs, hlen, hv with
   | [x0_, x1_, x2_, x3_, x4_, x5_, x6_, x7_, x8_, x9_, x10_], _, hv =>
   obtain rfl := isv hv 0 rfl rfl; obtain rfl := isv hv 1 rfl rfl; obtain rfl := isv hv 2 rfl rfl; obtain rfl := isv hv 3 rfl rfl; obtain rfl := isv hv 4 rfl rfl; obtain rfl := isv hv 5 rfl rfl; obtain rfl := isv hv 6 rfl rfl; obtain rfl := isv hv 7 rfl rfl; obtain rfl := isv hv 8 rfl rfl; obtain rfl := isv hv 9 rfl rfl; obtain rfl := isv hv 10 rfl rfl
   intro L hall hG
   clear hv hlen
   have HB9 := Lib.hid hG
   clear hG hall
   simp only [fill, if_true]
   simp [Act.put]
   go_wp2_with (fail)
   (try simp only [Exit.inBlock, Exit.then])
   refine bodyPost_ret (results_ttt (fn := Tryz.f12) rfl _) rfl ?_
   exact ⟨rfl, HB9.out⟩
end Go.Proofs.YtodgfbjjjgohgaaGreat
namespace Go.Proofs.YtodgfbjjjgohgaaGreat
open Go.RowKit
attribute [local go_sem] Oper.semAt_some
set_option linter.unusedVariables false

theorem start_g {w1 w2 w3 : World} {d : AD} {slabs per lag : Nat} {keys : List Int} {l0 : List (Int × Int)} {kd cn : Nat -> Nat} {xb mb kb : Nat} {S : Nat -> Prop} {key : Int} {level N0 : Nat} {JJ : Nat -> Nat -> (Int -> List (Int × Int)) -> Int -> Prop} {Q0 : Prop}
  (hB : Built d slabs per lag keys l0 kd cn) (hO : OnS w1 w2 xb mb S d.L slabs) (hkb : w2.heap.size = kb) (hb : Blk w3 kb (wkCells (wkNew kb (some ⟨xb, 0, none⟩) 0 key level)) 70) (hBl : Below w2.heap.size w2 w3) (hJ : JJ (d.lv.length - 1) 0 (fun _ => []) 0) (of st : Nat -> Nat) :
  StG2 d.lv of st (WtS d) (fun _ => memA d) key level 0 N0 0 JJ Q0 w3 w3.heap.size w3.heap.size kb xb mb S 0 0 := by
 obtain ⟨C, hx, hC⟩ := hO.x
 have hxl := hx.lt
 have hkl := hb.lt
 have hsz := hBl.size
 have hSl : ∀ i, S i -> i < w2.heap.size := fun i hi => MemP.lt hO.m hi
 have hm : MemZ w2 mb S (memA d) := by
  have := hO.m
  unfold memA
  rw [hB.sl]
  exact this
 refine ⟨⟨⟨C, hx.below hBl hxl, hC⟩, ⟨hkl, by omega, by omega, fun e => by have := hSl _ e; omega, hO.ne, fun i hi => by have := hSl i hi; omega⟩, Nat.le_refl _, Nat.le_refl _⟩, .inl ⟨S, _, _, _, _, 0, 0, rfl, hb, ⟨MemP.below hm hBl, fun i hi => .inl hi⟩, ⟨Int.le_refl _, Int.le_refl _, Int.le_refl _, Int.le_refl _⟩, hJ⟩⟩
/-! . -/
def fromJ (k : Nat -> Int) (len fr : Nat) (key : Int) : Nat -> Nat
 | 0 => fr
 | J + 1 => if J < len /\ k J <= key then fr + J + 1 else fromJ k len fr key J
structure UpQ (x : Nat × Nd) (R : List (Nat × Nd)) (fr : Nat) (key : Int) (s : Nat) : Prop where
 lt : fr < R.length
 fi : ∃ z, R[fr]? = some z /\ x.2.fi = (z.1 : Int)
 en : ∀ j, j < x.2.len -> ∃ z, R[fr + j + 1]? = some z /\ x.2.p j = (z.1 : Int) /\ x.2.p j ≠ 0
 nz : ∀ j, j < 8 -> x.2.len <= j -> x.2.p j = 0
 len : x.2.len <= 8
 fin : fromJ x.2.k x.2.len fr key 8 = s
theorem up_q {d : AD} {slabs per lag : Nat} {keys : List Int} {l0 : List (Int × Int)} {kd cn : Nat -> Nat} (hB : Built d slabs per lag keys l0 kd cn) (hp : 2 <= per) (hp8 : per <= 8) (key : Int) {L : Nat} {R R2 : List (Nat × Nd)} (hR : d.lv[L]? = some R) (hR2 : d.lv[L + 1]? = some R2) {x : Nat × Nd} (hx : R2[ofA d key (L + 1)]? = some x) :
  ∃ fr, UpQ x R fr key (stA d per key L) := by
 obtain ⟨Rb, hRb, hC, hlen, hfi, hen, hfr⟩ := child_st hB.i hp hp8 hR2 hx key
 obtain rfl : Rb = R := Option.some.inj (hRb.symm.trans hR)
 obtain ⟨l2, g2⟩ := hB.i.rw _ _ hR2
 have hst : stA d per key L = ofA d key (L + 1) * per + (x.2.last key + 1).toNat := by
  unfold stA
  have hg : (rowK d (L + 1)).getD (ofA d key (L + 1)) (0, nd0) = x := by rw [rowK_get hR2, List.getD_eq_getElem?_getD, hx]; rfl
  rw [if_pos (List.getElem?_eq_some_iff.1 hR2).1, hg]
 obtain ⟨fr, hfe⟩ : ∃ fr, ofA d key (L + 1) * per = fr := ⟨_, rfl⟩
 obtain ⟨t, ht⟩ : ∃ t, (x.2.last key + 1).toNat = t := ⟨_, rfl⟩
 rw [hfe] at hC hlen hfi hen hfr hst
 rw [ht] at hC hst
 have hget : ∀ i, i < (parG Rb lag).length -> ∃ z, Rb[i]? = some z /\ eP (parG Rb lag) i = (z.1 : Int) /\ eP (parG Rb lag) i ≠ 0 := fun i hi => by
  obtain ⟨z, a, _, b⟩ := parG_get Rb lag hi
  obtain ⟨lb, gb⟩ := hB.i.rw _ _ hR
  have := (gb.w z (List.mem_of_getElem? a)).2.1
  exact ⟨z, a, b, by rw [b]; omega⟩
 obtain ⟨z0, hz0, hz1, _⟩ := hget fr hfr
 have hm := hC.m
 refine ⟨fr, (List.getElem?_eq_some_iff.1 hz0).1, ⟨z0, hz0, hfi.trans hz1⟩, fun j hj => ?_, fun j hj hl => ?_, x.2.len_le, ?_⟩
 ·obtain ⟨z, a, b, c⟩ := hget (fr + j + 1) (by omega)
  rw [(hen j hj).2]
  exact ⟨z, a, b, c⟩
 ·exact (g2.p.z g2.e hp8 hx j hl).2
 ·rw [hst]
  have hbelow : ∀ J, J <= t -> t <= J -> fromJ x.2.k x.2.len fr key J = fr + t := fun J h1 h2 => by
   obtain rfl : J = t := by omega
   cases J with
   | zero => rfl
   | succ J =>
    unfold fromJ
    rw [if_pos ⟨by omega, by
     rw [(hen J (by omega)).1]
     exact hC.up (by omega)⟩]
    rfl
  have hge : ∀ m, fromJ x.2.k x.2.len fr key (t + m) = fr + t := by
   intro m
   induction m with
   | zero => exact hbelow t (Nat.le_refl _) (Nat.le_refl _)
   | succ m ih =>
    rw [<- Nat.add_assoc]
    unfold fromJ
    rw [if_neg ?_]
    ·exact ih
    ·rintro ⟨h1, h2⟩
     rw [(hen _ h1).1] at h2
     have := hC.lo (t + m + 1) (by omega) (by omega) (by omega)
     rw [show fr + (t + m + 1) = fr + (t + m) + 1 by omega] at this
     omega
  have := hge (8 - t)
  rwa [show t + (8 - t) = 8 by omega] at this
/-! . -/
theorem run_idx_at (w : World) (g n cap k : Nat) (hk : k < n) : (Instr.indexAt 49 (.slice (some ⟨g, 0, none⟩) n cap) (.int .i64 k)).run Tryz.prog w = .ok (.pointer (some ⟨g, k * 22, none⟩)) w := by
 have h1 : (0 : Int) <= k := by omega
 have h2 : (k : Int) < n := by omega
 have hs : (sizeOf (Tryz.prog.elem 49)).run Tryz.prog w = .ok 22 w := by kernel_rfl
 rw [run_indexAt_slice w 49 ⟨g, 0, none⟩ n cap .i64 k (by kernel_rfl), if_pos ⟨h1, h2⟩, hs]
 have e : (⟨g, 0, none⟩ : Addr).add (k * 22) = ⟨g, k * 22, none⟩ := by unfold Addr.add; split <;> simp_all
 simp only [Result.andThen_ok, Int.toNat_natCast, e]
theorem wpList_idx_at {ops : Array Oper} {rest : List Oper} {o1 o2 : Oper} {a : Act} {w : World} {Q : Exit -> Act -> World -> Prop} (h1 : o1.guard = none) (h2 : o2.guard = none) (x y : Operand) (s : Tmp) (hd : o1.dst = some s)
  (ho1 : o1.op = .indexAddr 49 x y) (ho2 : o2.op = .load 48 (.tmp s)) (g n cap k : Nat) (p : Int) (m : Nd) (hx : a.eval x = .slice (some ⟨g, 0, none⟩) n cap) (hy : a.eval y = .int .i64 k) (hk : k < n) (hs : s < a.tmps.size)
  (hc : ∀ j v, (atC p m)[j]? = some v -> w.cell? ⟨g, k * 22 + j, none⟩ = some v) (h : wpList Tryz.prog ops Q rest ((a.put o1.dst (.pointer (some ⟨g, k * 22, none⟩))).put o2.dst (.agg (atC p m))) w) : wpList Tryz.prog ops Q (o1 :: o2 :: rest) a w := by
 refine wpList_plain h1 fun K hK => ?_
 unfold Oper.wp execOp
 simp only [ho1, hx, hy, Sem.run_bind, Sem.run_pure, Result.andThen_ok, run_idx_at w g n cap k hk]
 refine hK _ _ (wpList_load_part h2 48 (.tmp s) ho2 g (k * 22) ?_ (atC p m) _ hc Tryz.underlying48 rfl (infoAt p m) h)
 rw [hd]
 simp [Act.put, Act.eval, hs]
theorem wp_alloc_at {o : Oper} {a : Act} {w : World} {K : Act -> World -> Prop} {Q : Exit -> Act -> World -> Prop} (ho : o.op = .alloc 48) (b : Nat) (hb : w.heap.size = b)
  (h : K (a.put o.dst (.pointer (some ⟨b, 0, none⟩))) (w.alloc (.cells (atC 0 nd0) 48))) : Oper.wp Tryz.prog o a w K Q := by
 subst hb
 unfold Oper.wp execOp
 simp only [ho, Sem.run_bind, run_alloc_at, Result.andThen_ok, Sem.run_pure]
 exact h
theorem wp_store_at {o : Oper} {a : Act} {w : World} {K : Act -> World -> Prop} {Q : Exit -> Act -> World -> Prop} (x y : Operand) (ho : o.op = .store 48 x y)
  (g : Nat) (p : Int) (m : Nd) (p0 : Int) (n : Nd) (hx : a.eval x = .pointer (some ⟨g, 0, none⟩)) (hy : a.eval y = .agg (atC p m)) (hg : Blk w g (atC p0 n) 48) (h : K (a.put o.dst undef) (w.setRow g (atC p m))) : Oper.wp Tryz.prog o a w K Q :=
 wp_store_row 48 x y ho g (atC p m) hx hy 48 (atC p0 n) hg (infoAt p m) (by rw [atC_size, atC_size]) (atC_one p m) h
structure UpG (w0 : World) (ub : Nat) (p : Int) (m : Nd) (L : Nat -> Bool) (W : World) : Prop where
 k : Below w0.heap.size w0 W
 n : L 15 = false -> W.heap.size = ub
 b0 : L 15 = true -> L 16 = false -> Blk W ub (atC 0 nd0) 48
 b1 : L 16 = true -> Blk W ub (atC p m) 48
section
variable {w0 W : World} {ub : Nat} {p : Int} {m : Nd} {L L' : Nat -> Bool}
theorem UpG.start (h : w0.heap.size = ub) : UpG w0 ub p m (fun _ => false) w0.drew := ⟨(Below.refl _ _).drew, fun _ => h, fun e => (by cases e), fun e => (by cases e)⟩
theorem UpG.keep (h : UpG w0 ub p m L W) (e1 : L' 15 = L 15) (e2 : L' 16 = L 16) : UpG w0 ub p m L' W := ⟨h.k, by rw [e1]; exact h.n, by rw [e1, e2]; exact h.b0, by rw [e2]; exact h.b1⟩
theorem UpG.alloc (h : UpG w0 ub p m L W) (hf : L 15 = false) (h16 : L 16 = false) : UpG w0 ub p m (lset L 15) (W.alloc (.cells (atC 0 nd0) 48)) := by
 have e1 : lset L 15 15 = true := by simp [lset]
 have e2 : lset L 15 16 = false := by simp [lset, h16]
 refine ⟨h.k.alloc h.k.size _, fun e => (by rw [e1] at e; cases e), fun _ _ => ?_, fun e => (by rw [e2] at e; cases e)⟩
 rw [<- h.n hf]; exact Blk.new W _ _
theorem UpG.store (h : UpG w0 ub p m L W) (h15 : L 15 = true) (hf : L 16 = false) (hu : w0.heap.size = ub) : UpG w0 ub p m (lset L 16) (W.setRow ub (atC p m)) := by
 have e1 : lset L 16 15 = true := by simp [lset, h15]
 have e2 : lset L 16 16 = true := by simp [lset]
 exact ⟨below_setRow h.k (by omega) _, fun e => (by rw [e1] at e; cases e), fun _ e => (by rw [e2] at e; cases e), fun _ => (h.b0 h15 hf).row _⟩
end
end Go.Proofs.YtodgfbjjjgohgaaGreat
