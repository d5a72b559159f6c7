/-
  The law FastOnce.
-/
import Derived.Test.YtbpaefhihdhdeaaNw
import Derived.Test.YtbpaefhihdhdeaaAr
import Derived.Test.YtbpaefhihdhdeaaKo
import Derived.Test.YtbpaefhihdhdeaaNx
import Derived.Test.YtbpaefhihdhdeaaRd
import Derived.Deep.DeepCutAuto
import Derived.Test.YtbpaefhihdhdeaaPf
import Derived.Test.YtbpaefhihdhdeaaFa
import Derived.Test.YtbpaefhihdhdeaaBf
import Derived.Test.YtbpaefhihdhdeaaOn
import Derived.IntWalk
import Derived.Maps.AppendAt
namespace Go.Proofs.Ytbpaefhihdhdeaa
open Go.RowKit

theorem lit21 (n : Nd) : ndCells n = #[.int .i64 n.lv, .int .u64 n.lo, .int .u64 n.nx, .int .u64 n.ct, .int .u64 n.fi, .int .u64 (n.k 0), .int .u64 (n.k 1), .int .u64 (n.k 2), .int .u64 (n.k 3), .int .u64 (n.k 4), .int .u64 (n.k 5), .int .u64 (n.k 6), .int .u64 (n.k 7), .int .u64 (n.p 0), .int .u64 (n.p 1), .int .u64 (n.p 2), .int .u64 (n.p 3), .int .u64 (n.p 4), .int .u64 (n.p 5), .int .u64 (n.p 6), .int .u64 (n.p 7)] := rfl
theorem eq8_at (T e : TypeId) (hT : Try.prog.underlying T = some (.array 8 e)) (he : Try.prog.underlying e = some (.int .u64)) (ha : ∀ w, (isAgg e).run Try.prog w = .ok false w) (hz : ∀ w, (sizeOf e).run Try.prog w = .ok 1 w) (d : Nat) (a0 a1 a2 a3 a4 a5 a6 a7 : Int) (w : World) :
    (Op.equalIn (d + 2) T (.agg #[.int .u64 a0, .int .u64 a1, .int .u64 a2, .int .u64 a3, .int .u64 a4, .int .u64 a5, .int .u64 a6, .int .u64 a7]) (.agg #[.int .u64 a0, .int .u64 a1, .int .u64 a2, .int .u64 a3, .int .u64 a4, .int .u64 a5, .int .u64 a6, .int .u64 a7])).run Try.prog w = .ok true w := by
  rw [show d + 2 = (d + 1) + 1 from rfl, Op.equalIn]
  simp only [Sem.run_bind, run_underlying hT, Result.andThen_ok]
  simp only [Std.Legacy.Range.forIn_eq_forIn_range', Std.Legacy.Range.size, Nat.sub_zero, Nat.add_sub_cancel, Nat.div_one, List.range'_succ, List.range'_zero, List.forIn_cons, List.forIn_nil]
  go_simp
set_option maxRecDepth 100000 in
set_option maxHeartbeats 1600000 in
theorem eq_nd (n : Nd) (w : World) : (Op.equalIn 10000 27 (.agg (ndCells n)) (.agg (ndCells n))).run Try.prog w = .ok true w := by
  rw [lit21]
  have u3 := Try.underlying3
  have a3' := Try.isAgg3
  have z3 := Try.sizeOf3
  have u4 := Try.underlying22
  have a4' := Try.isAgg22
  have z4 := Try.sizeOf22
  have u5 := Try.underlying23
  have a5' := Try.isAgg23
  have z5 := Try.sizeOf23
  have k1 := fun w => eq8_at 24 22 Try.underlying24 u4 a4' z4 9997 (n.k 0) (n.k 1) (n.k 2) (n.k 3) (n.k 4) (n.k 5) (n.k 6) (n.k 7) w
  have k2 := fun w => eq8_at 25 23 Try.underlying25 u5 a5' z5 9997 (n.p 0) (n.p 1) (n.p 2) (n.p 3) (n.p 4) (n.p 5) (n.p 6) (n.p 7) w
  rw [show (10000 : Nat) = 9999 + 1 from rfl, Op.equalIn]
  simp only [Sem.run_bind, run_underlying Try.underlying27, Result.andThen_ok]
  go_simp
end Go.Proofs.Ytbpaefhihdhdeaa
namespace Go.Proofs.Ytbpaefhihdhdeaa
open Go.RowKit

/-- a node behind stores -/
def applyL (base : Int) : Nd → List (Int × Int) → Option Nd
  | n, [] => some n
  | n, p :: r => match putA base n p.1 p.2 with | some m => applyL base m r | none => none
theorem applyL_append (base : Int) : ∀ (l r : List (Int × Int)) (n : Nd), applyL base n (l ++ r) = (match applyL base n l with | some m => applyL base m r | none => none)
  | [], r, n => rfl
  | p :: l, r, n => by
    simp only [List.cons_append, applyL]
    cases putA base n p.1 p.2 with
    | none => rfl
    | some m => exact applyL_append base l r m
theorem applyL_snoc (base : Int) (l : List (Int × Int)) (n m : Nd) (p : Int × Int) (h : applyL base n l = some m) : applyL base n (l ++ [p]) = putA base m p.1 p.2 := by
  rw [applyL_append, h]
  simp only [applyL]
  cases putA base m p.1 p.2 <;> rfl
theorem take_ent (l : List (Int × Int)) (k : Nat) (h : k < l.length) : l.take (k + 1) = l.take k ++ [(eK l k, eP l k)] := by
  have e : l[k] = (eK l k, eP l k) := by simp [eK, eP, List.getD, h]
  rw [List.take_succ_eq_append_getElem h, e]
theorem applyL_next (base : Int) (l : List (Int × Int)) (n m : Nd) (k : Nat) (h : k < l.length) (ha : applyL base n (l.take k) = some m) : applyL base n (l.take (k + 1)) = putA base m (eK l k) (eP l k) := by
  rw [take_ent l k h, applyL_snoc base _ n m _ ha]
theorem applyL_bad (base : Int) (l : List (Int × Int)) (n : Nd) (k : Nat) (h : applyL base n (l.take k) = none) : applyL base n l = none := by
  have := applyL_append base (l.take k) (l.drop k) n
  rw [List.take_append_drop, h] at this
  exact this
/-- what Apply answers -/
def applyV (base : Int) (n : Nd) (l : List (Int × Int)) : Nd × Int := match applyL base n l with | some m => (m, 0) | none => (nd0, 2)

/-- the worlds on its way: the node's block, the answer's -/
def ApW (w : World) (m : Nd) (w' : World) : Prop := Blk w' w.heap.size (ndCells m) 27 ∧ Blk w' (w.heap.size + 1) (ndCells nd0) 27 ∧ Below w.heap.size w w'
theorem ApW.keep {w w1 w2 : World} {m : Nd} (h : ApW w m w1) (hB : Below w1.heap.size w1 w2) : ApW w m w2 :=
  ⟨h.1.below hB h.1.lt, h.2.1.below hB h.2.1.lt, h.2.2.trans (hB.mono h.2.2.size)⟩
theorem ApW.start (w : World) (m : Nd) : ApW w m ((w.alloc (.cells (ndCells m) 27)).alloc (.cells (ndCells nd0) 27)) := by
  have h1 := Blk.new w (ndCells m) 27
  have h2 := Blk.new (w.alloc (.cells (ndCells m) 27)) (ndCells nd0) 27
  have s1 : (w.alloc (.cells (ndCells m) 27)).heap.size = w.heap.size + 1 := by simp
  rw [s1] at h2
  exact ⟨h1.alloc _, h2, ((Below.refl w.heap.size w).alloc (Nat.le_refl _) _).alloc (by omega) _⟩
theorem ApW.set {w w1 : World} {m m' : Nd} (h : ApW w m w1) (i : Nat) (x : Int) (he : (ndCells m).setIfInBounds i (.int .u64 x) = ndCells m') : ApW w m' (w1.setCell ⟨w.heap.size, i, none⟩ (.int .u64 x)) := by
  refine ⟨?_, h.2.1.other i _ (by omega), h.2.2.setCell (p := ⟨w.heap.size, i, none⟩) (Nat.le_refl _) _⟩
  have := h.1.set i (.int .u64 x)
  rwa [he] at this

/-- a store's place, as the program reckons it -/
inductive WhereD (base at_ : Int) : Prop
  | below (e : at_ < base) (o : ∀ n x, putA base n at_ x = none)
  | above (e : base ≤ at_) (d : 192 ≤ at_ - base) (o : ∀ n x, putA base n at_ x = none)
  | odd (e : base ≤ at_) (d : at_ - base < 192) (r : (at_ - base) % 8 ≠ 0) (o : ∀ n x, putA base n at_ x = none)
  | low (e : at_ = base + 8)
  | next (e : at_ = base + 16)
  | count (e : at_ = base + 24)
  | first (e : at_ = base + 32)
  | head (d : Int) (e : at_ - base = d) (h : d = 0 ∨ d = 40 ∨ d = 48 ∨ d = 56) (o : ∀ n x, putA base n at_ x = none)
  | key (i : Nat) (h : i < 8) (e : at_ = base + 64 + 16 * (i : Int))
  | ptr (i : Nat) (h : i < 8) (e : at_ = base + 72 + 16 * (i : Int))
theorem whereD (base at_ : Int) : WhereD base at_ := by
  by_cases h0 : at_ < base
  · exact .below h0 (fun n x => by unfold putA; rw [if_pos (by omega)])
  by_cases h1 : 192 ≤ at_ - base
  · exact .above (by omega) h1 (fun n x => by unfold putA; rw [if_pos (by omega)])
  by_cases h2 : (at_ - base) % 8 ≠ 0
  · exact .odd (by omega) (by omega) h2 (fun n x => by unfold putA; rw [if_pos (by omega)])
  rcases where_ base at_ with ⟨i, h, e⟩ | ⟨i, h, e⟩ | ⟨e⟩ | ⟨e⟩ | ⟨e⟩ | ⟨e⟩ | ⟨e, h, h8⟩
  · exact .key i h e
  · exact .ptr i h e
  · exact .low e
  · exact .next e
  · exact .count e
  · exact .first e
  · refine .head (at_ - base) rfl ?_ e
    have k0 := h 0 (by omega)
    have k1 := h 1 (by omega)
    have k2 := h 2 (by omega)
    have k3 := h 3 (by omega)
    have k4 := h 4 (by omega)
    have k5 := h 5 (by omega)
    have k6 := h 6 (by omega)
    have k7 := h 7 (by omega)
    omega


set_option maxRecDepth 100000 in
set_option maxHeartbeats 6400000 in
theorem apply_no (base : Int) (n : Nd) (v : Value) (w : World) (hs : ¬ Stands base) :
    Calls Try.prog 10 #[.int .u64 base, .agg (ndCells n), v] w fun e w' => MkP nd0 2 w e w' := by
  have HS := Lib.hid (ApW.start w n)
  have HZ0 := Lib.hid (show (w.alloc (.cells (ndCells n) 27)).heap.size = w.heap.size + 1 by simp)
  have HSt := Lib.hid (fun w => stands_no base hs w)
  have HZ := Lib.hid HS.out.2.1
  have HBf := Lib.hid HS.out.2.2
  clear hs
  go_enter Try.func10, Try.ntmps10
  go_wp2_with (first | (with_reducible refine wpList_alloc_ndAt (o := ⟨some 6, _, _, _, _, _⟩) rfl rfl (w.heap.size + 1) ?hz ?_; (case hz => exact HZ0.out)) | (go_at_call 27; refine (HSt.out _).mono ?_; rintro e w' ⟨rfl, rfl⟩) | (refine wpList_store_ndc (o := ⟨none, .store 27 (.tmp 6) (.tmp 15), _, _, _, _⟩) rfl (.tmp 6) (.tmp 15) ?ho (w.heap.size + 1) ?cs nd0 nd0 ?hx ?hy HZ.out ?hm ?_; (case ho => rfl); (case hx => rfl); (case hy => rfl); (case hm => rfl)))
  exact bodyPost_ret (results_nd rfl _ (w.heap.size + 1) nd0 rfl (HZ.out.row _)) rfl ⟨rfl, below_setRow HBf.out (by omega) _⟩

set_option maxRecDepth 100000 in
set_option maxHeartbeats 6400000 in
theorem apply_v (base : Int) (n : Nd) (l : List (Int × Int)) (a : Option Addr) (g c : Nat) (w : World) (hs : Stands base) (hn : l.length ≤ 1000000) (ha : 0 < l.length → a = some ⟨g, 0, none⟩) (hE : EntsAt w g 0 l) (hu : ∀ i, i < l.length → 0 ≤ eK l i ∧ eK l i < 18446744073709551616) :
    Calls Try.prog 10 #[.int .u64 base, .agg (ndCells n), .slice a l.length c] w fun e w' => MkP (applyV base n l).1 (applyV base n l).2 w e w' := by
  have HS := Lib.hid (ApW.start w n)
  have HZ0 := Lib.hid (show (w.alloc (.cells (ndCells n) 27)).heap.size = w.heap.size + 1 by simp)
  have HSt := Lib.hid (fun w => stands_yes base hs w)
  have HE := Lib.hid hE
  have HA := Lib.hid ha
  have HU := Lib.hid hu
  obtain ⟨s1, s2, -⟩ := hs
  clear hE ha hu
  go_enter Try.func10, Try.ntmps10
  go_wp2_with (first | (with_reducible refine wpList_alloc_ndAt (o := ⟨some 6, _, _, _, _, _⟩) rfl rfl (w.heap.size + 1) ?hz ?_; (case hz => exact HZ0.out)) | (go_at_call 27; refine (HSt.out _).mono ?_; rintro e w' ⟨rfl, rfl⟩))
  generalize (w.alloc (.cells (ndCells n) 27)).alloc (.cells (ndCells nd0) 27) = w0 at *
  go_loopw [18] (fun iv wr => ∃ (k : Nat) (m : Nd), k ≤ l.length ∧ iv = .int .i64 k ∧ Hid (applyL base n (l.take k) = some m) ∧ Hid (ApW w m wr)) (fun iv _ => l.length - (intOf iv).toNat)
  case atStart => exact ⟨0, n, by omega, rfl, Lib.hid rfl, HS⟩
  case round =>
    obtain ⟨k, m, hk, rfl, HAp, HR⟩ := hrel
    clear HS
    by_cases hlt : k < l.length
    · obtain rfl := HA.out (by omega)
      have hgw : g < w.heap.size := HE.out.lt (by omega)
      obtain ⟨c1, c2⟩ := HE.out.below HR.out.2.2 hgw k hlt
      obtain ⟨u1, u2⟩ := HU.out k hlt
      have HN := Lib.hid (applyL_next base l n m k hlt HAp.out)
      obtain ⟨at_, hat⟩ : ∃ z, eK l k = z := ⟨_, rfl⟩
      obtain ⟨x, hx⟩ : ∃ z, eP l k = z := ⟨_, rfl⟩
      rw [hat, Nat.zero_add] at c1
      rw [hx, Nat.zero_add] at c2
      rw [hat] at u1 u2
      rw [hat, hx] at HN
      have HWD := Lib.hid (whereD base at_)
      have b1 : (k : Int) < (l.length : Int) := by omega
      have HX := Lib.hid (Blk.new wr #[.int .u64 at_, .int .u64 x] 36)
      have HR1 := Lib.hid (HR.out.keep ((Below.refl wr.heap.size wr).alloc (Nat.le_refl _) (.cells #[.int .u64 at_, .int .u64 x] 36)))
      clear hat hx hgw
      rcases HWD.out with ⟨e, o⟩ | ⟨e, d, o⟩ | ⟨e, d, r, o⟩ | ⟨e⟩ | ⟨e⟩ | ⟨e⟩ | ⟨e⟩ | ⟨d, e, h, o⟩ | ⟨i, h, e⟩ | ⟨i, h, e⟩
      · have HF := Lib.hid (show applyV base n l = (nd0, 2) by unfold applyV; rw [applyL_bad base l n (k + 1) (HN.out.trans (o m x))])
        have HZ := Lib.hid HR1.out.2.1
        have HBf := Lib.hid HR1.out.2.2
        have hx0 := HX.out.cell 0
        rw [show (#[Value.int .u64 at_, .int .u64 x] : Array Value)[0]? = some (.int .u64 at_) from rfl] at hx0
        have e1 : decide (at_ < base) = true := decide_eq_true e
        clear e
        clear o
        go_wp2_with (refine wpList_store_ndc (o := ⟨none, .store 27 (.tmp 6) (.tmp 39), _, _, _, _⟩) rfl (.tmp 6) (.tmp 39) ?hoa (w.heap.size + 1) ?csa nd0 nd0 ?hxa ?hya HZ.out ?hma ?_; (case hoa => rfl); (case hxa => rfl); (case hya => rfl); (case hma => rfl))
        rw [HF.out]
        exact bodyPost_ret (results_nd rfl _ (w.heap.size + 1) nd0 rfl (HZ.out.row _)) rfl ⟨rfl, below_setRow HBf.out (by omega) _⟩
      · have HF := Lib.hid (show applyV base n l = (nd0, 2) by unfold applyV; rw [applyL_bad base l n (k + 1) (HN.out.trans (o m x))])
        have HZ := Lib.hid HR1.out.2.1
        have HBf := Lib.hid HR1.out.2.2
        have hx0 := HX.out.cell 0
        rw [show (#[Value.int .u64 at_, .int .u64 x] : Array Value)[0]? = some (.int .u64 at_) from rfl] at hx0
        obtain ⟨dd, hd⟩ : ∃ d, at_ - base = d := ⟨_, rfl⟩
        have e1 : decide (at_ < base) = false := decide_eq_false (by omega)
        have e2 : decide (192 ≤ dd) = true := decide_eq_true (by omega)
        clear d
        clear o
        go_wp2_with (refine wpList_store_ndc (o := ⟨none, .store 27 (.tmp 6) (.tmp 39), _, _, _, _⟩) rfl (.tmp 6) (.tmp 39) ?hob (w.heap.size + 1) ?csb nd0 nd0 ?hxb ?hyb HZ.out ?hmb ?_; (case hob => rfl); (case hxb => rfl); (case hyb => rfl); (case hmb => rfl))
        rw [HF.out]
        exact bodyPost_ret (results_nd rfl _ (w.heap.size + 1) nd0 rfl (HZ.out.row _)) rfl ⟨rfl, below_setRow HBf.out (by omega) _⟩
      · have HF := Lib.hid (show applyV base n l = (nd0, 2) by unfold applyV; rw [applyL_bad base l n (k + 1) (HN.out.trans (o m x))])
        have HZ := Lib.hid HR1.out.2.1
        have HBf := Lib.hid HR1.out.2.2
        have hx0 := HX.out.cell 0
        rw [show (#[Value.int .u64 at_, .int .u64 x] : Array Value)[0]? = some (.int .u64 at_) from rfl] at hx0
        obtain ⟨dd, hd⟩ : ∃ d, at_ - base = d := ⟨_, rfl⟩
        have e1 : decide (at_ < base) = false := decide_eq_false (by omega)
        have e2 : decide (192 ≤ dd) = false := decide_eq_false (by omega)
        have e3 : (dd % 8 != 0) = true := by rw [bne, beq_eq_false_iff_ne.2 (by omega)]; rfl
        have d0 : 0 ≤ dd := by omega
        clear d r
        clear o
        go_wp2_with (refine wpList_store_ndc (o := ⟨none, .store 27 (.tmp 6) (.tmp 39), _, _, _, _⟩) rfl (.tmp 6) (.tmp 39) ?hoc (w.heap.size + 1) ?csc nd0 nd0 ?hxc ?hyc HZ.out ?hmc ?_; (case hoc => rfl); (case hxc => rfl); (case hyc => rfl); (case hmc => rfl))
        rw [HF.out]
        exact bodyPost_ret (results_nd rfl _ (w.heap.size + 1) nd0 rfl (HZ.out.row _)) rfl ⟨rfl, below_setRow HBf.out (by omega) _⟩
      · have hd : at_ - base = 8 := by omega
        have e1 : decide (at_ < base) = false := decide_eq_false (by omega)
        have HM := Lib.hid (HN.out.trans (show putA base m at_ x = some { m with lo := x } by rw [e, putA_8]))
        have HW2 := Lib.hid (HR1.out.set 1 x (ndCells_set1 m x))
        have hc0 := HR1.out.1.cell 1
        rw [ndCells_1] at hc0
        have hf0 := HR1.out.1.frozen 1
        have hx1 := HX.out.cell 1
        have hx0 := HX.out.cell 0
        rw [show (#[Value.int .u64 at_, .int .u64 x] : Array Value)[1]? = some (.int .u64 x) from rfl] at hx1
        rw [show (#[Value.int .u64 at_, .int .u64 x] : Array Value)[0]? = some (.int .u64 at_) from rfl] at hx0
        clear e
        go_wp2_with (fail)
        go_roundw
        case rel => exact ⟨k + 1, { m with lo := x }, by omega, by go_num, HM, HW2⟩
        case measure => simp [intOf]; omega
      · have hd : at_ - base = 16 := by omega
        have e1 : decide (at_ < base) = false := decide_eq_false (by omega)
        have HM := Lib.hid (HN.out.trans (show putA base m at_ x = some { m with nx := x } by rw [e, putA_16]))
        have HW2 := Lib.hid (HR1.out.set 2 x (ndCells_set2 m x))
        have hc0 := HR1.out.1.cell 2
        rw [ndCells_2] at hc0
        have hf0 := HR1.out.1.frozen 2
        have hx1 := HX.out.cell 1
        have hx0 := HX.out.cell 0
        rw [show (#[Value.int .u64 at_, .int .u64 x] : Array Value)[1]? = some (.int .u64 x) from rfl] at hx1
        rw [show (#[Value.int .u64 at_, .int .u64 x] : Array Value)[0]? = some (.int .u64 at_) from rfl] at hx0
        clear e
        go_wp2_with (fail)
        go_roundw
        case rel => exact ⟨k + 1, { m with nx := x }, by omega, by go_num, HM, HW2⟩
        case measure => simp [intOf]; omega
      · have hd : at_ - base = 24 := by omega
        have e1 : decide (at_ < base) = false := decide_eq_false (by omega)
        have HM := Lib.hid (HN.out.trans (show putA base m at_ x = some { m with ct := x } by rw [e, putA_24]))
        have HW2 := Lib.hid (HR1.out.set 3 x (ndCells_set3 m x))
        have hc0 := HR1.out.1.cell 3
        rw [ndCells_3] at hc0
        have hf0 := HR1.out.1.frozen 3
        have hx1 := HX.out.cell 1
        have hx0 := HX.out.cell 0
        rw [show (#[Value.int .u64 at_, .int .u64 x] : Array Value)[1]? = some (.int .u64 x) from rfl] at hx1
        rw [show (#[Value.int .u64 at_, .int .u64 x] : Array Value)[0]? = some (.int .u64 at_) from rfl] at hx0
        clear e
        go_wp2_with (fail)
        go_roundw
        case rel => exact ⟨k + 1, { m with ct := x }, by omega, by go_num, HM, HW2⟩
        case measure => simp [intOf]; omega
      · have hd : at_ - base = 32 := by omega
        have e1 : decide (at_ < base) = false := decide_eq_false (by omega)
        have HM := Lib.hid (HN.out.trans (show putA base m at_ x = some { m with fi := x } by rw [e, putA_32]))
        have HW2 := Lib.hid (HR1.out.set 4 x (ndCells_set4 m x))
        have hc0 := HR1.out.1.cell 4
        rw [ndCells_4] at hc0
        have hf0 := HR1.out.1.frozen 4
        have hx1 := HX.out.cell 1
        have hx0 := HX.out.cell 0
        rw [show (#[Value.int .u64 at_, .int .u64 x] : Array Value)[1]? = some (.int .u64 x) from rfl] at hx1
        rw [show (#[Value.int .u64 at_, .int .u64 x] : Array Value)[0]? = some (.int .u64 at_) from rfl] at hx0
        clear e
        go_wp2_with (fail)
        go_roundw
        case rel => exact ⟨k + 1, { m with fi := x }, by omega, by go_num, HM, HW2⟩
        case measure => simp [intOf]; omega
      · have HF := Lib.hid (show applyV base n l = (nd0, 2) by unfold applyV; rw [applyL_bad base l n (k + 1) (HN.out.trans (o m x))])
        have HZ := Lib.hid HR1.out.2.1
        have HBf := Lib.hid HR1.out.2.2
        have hx0 := HX.out.cell 0
        rw [show (#[Value.int .u64 at_, .int .u64 x] : Array Value)[0]? = some (.int .u64 at_) from rfl] at hx0
        have e1 : decide (at_ < base) = false := decide_eq_false (by omega)
        have e2 : decide (192 ≤ d) = false := decide_eq_false (by omega)
        have e3 : (d % 8 != 0) = false := by rw [bne, beq_iff_eq.2 (by omega)]; rfl
        have e4 : (d == 8) = false := beq_eq_false_iff_ne.2 (by omega)
        have e5 : (d == 16) = false := beq_eq_false_iff_ne.2 (by omega)
        have e6 : (d == 24) = false := beq_eq_false_iff_ne.2 (by omega)
        have e7 : (d == 32) = false := beq_eq_false_iff_ne.2 (by omega)
        have e8 : decide (d < 64) = true := decide_eq_true (by omega)
        have d0 : 0 ≤ d := by omega
        have d1 : d < 192 := by omega
        clear h
        clear o
        go_wp2_with (refine wpList_store_ndc (o := ⟨none, .store 27 (.tmp 6) (.tmp 69), _, _, _, _⟩) rfl (.tmp 6) (.tmp 69) ?hoh (w.heap.size + 1) ?csh nd0 nd0 ?hxh ?hyh HZ.out ?hmh ?_; (case hoh => rfl); (case hxh => rfl); (case hyh => rfl); (case hmh => rfl))
        rw [HF.out]
        exact bodyPost_ret (results_nd rfl _ (w.heap.size + 1) nd0 rfl (HZ.out.row _)) rfl ⟨rfl, below_setRow HBf.out (by omega) _⟩
      · obtain ⟨d, hd⟩ : ∃ d, at_ - base = d := ⟨_, rfl⟩
        obtain ⟨q, hq⟩ : ∃ q, d - 64 = q := ⟨_, rfl⟩
        have e1 : decide (at_ < base) = false := decide_eq_false (by omega)
        have e2 : decide (192 ≤ d) = false := decide_eq_false (by omega)
        have e3 : (d % 8 != 0) = false := by rw [bne, beq_iff_eq.2 (by omega)]; rfl
        have e4 : (d == 8) = false := beq_eq_false_iff_ne.2 (by omega)
        have e5 : (d == 16) = false := beq_eq_false_iff_ne.2 (by omega)
        have e6 : (d == 24) = false := beq_eq_false_iff_ne.2 (by omega)
        have e7 : (d == 32) = false := beq_eq_false_iff_ne.2 (by omega)
        have e8 : decide (d < 64) = false := decide_eq_false (by omega)
        have e9 : (d % 16 == 0) = true := beq_iff_eq.2 (by omega)
        have e10 : q / 16 = (i : Int) := by omega
        have d0 : 0 ≤ d := by omega
        have d1 : d < 192 := by omega
        have q0 : 0 ≤ q := by omega
        have q1 : q < 128 := by omega
        have i1 : (i : Int) < 8 := by omega
        have HM := Lib.hid (HN.out.trans (show putA base m at_ x = some (m.withK i x) by rw [e, putA_key base m i x h]))
        have HW2 := Lib.hid (HR1.out.set (5 + i) x (ndCells_setk m i h x))
        have hc0 := HR1.out.1.cell (5 + i)
        rw [ndCells_k m i h] at hc0
        have hf0 := HR1.out.1.frozen (5 + i)
        have hx1 := HX.out.cell 1
        have hx0 := HX.out.cell 0
        rw [show (#[Value.int .u64 at_, .int .u64 x] : Array Value)[1]? = some (.int .u64 x) from rfl] at hx1
        rw [show (#[Value.int .u64 at_, .int .u64 x] : Array Value)[0]? = some (.int .u64 at_) from rfl] at hx0
        clear e
        go_wp2_with (fail)
        go_roundw
        case rel => exact ⟨k + 1, m.withK i x, by omega, by go_num, HM, HW2⟩
        case measure => simp [intOf]; omega
      · obtain ⟨d, hd⟩ : ∃ d, at_ - base = d := ⟨_, rfl⟩
        obtain ⟨q, hq⟩ : ∃ q, d - 64 = q := ⟨_, rfl⟩
        have e1 : decide (at_ < base) = false := decide_eq_false (by omega)
        have e2 : decide (192 ≤ d) = false := decide_eq_false (by omega)
        have e3 : (d % 8 != 0) = false := by rw [bne, beq_iff_eq.2 (by omega)]; rfl
        have e4 : (d == 8) = false := beq_eq_false_iff_ne.2 (by omega)
        have e5 : (d == 16) = false := beq_eq_false_iff_ne.2 (by omega)
        have e6 : (d == 24) = false := beq_eq_false_iff_ne.2 (by omega)
        have e7 : (d == 32) = false := beq_eq_false_iff_ne.2 (by omega)
        have e8 : decide (d < 64) = false := decide_eq_false (by omega)
        have e9 : (d % 16 == 0) = false := beq_eq_false_iff_ne.2 (by omega)
        have e10 : q / 16 = (i : Int) := by omega
        have d0 : 0 ≤ d := by omega
        have d1 : d < 192 := by omega
        have q0 : 0 ≤ q := by omega
        have q1 : q < 128 := by omega
        have i1 : (i : Int) < 8 := by omega
        have HM := Lib.hid (HN.out.trans (show putA base m at_ x = some (m.withP i x) by rw [e, putA_ptr base m i x h]))
        have HW2 := Lib.hid (HR1.out.set (13 + i) x (ndCells_setp m i h x))
        have hc0 := HR1.out.1.cell (13 + i)
        rw [ndCells_p m i h] at hc0
        have hf0 := HR1.out.1.frozen (13 + i)
        have hx1 := HX.out.cell 1
        have hx0 := HX.out.cell 0
        rw [show (#[Value.int .u64 at_, .int .u64 x] : Array Value)[1]? = some (.int .u64 x) from rfl] at hx1
        rw [show (#[Value.int .u64 at_, .int .u64 x] : Array Value)[0]? = some (.int .u64 at_) from rfl] at hx0
        clear e
        go_wp2_with (fail)
        go_roundw
        case rel => exact ⟨k + 1, m.withP i x, by omega, by go_num, HM, HW2⟩
        case measure => simp [intOf]; omega
    · have hkl : k = l.length := by omega
      have HF := Lib.hid (show applyV base n l = (m, 0) by
        have := HAp.out
        rw [hkl, List.take_length] at this
        unfold applyV; rw [this])
      have HL := Lib.hid (ndLoad HR.out.1)
      have HI := Lib.hid (info27 m)
      have HZ := Lib.hid HR.out.2.1
      have HBf := Lib.hid HR.out.2.2
      clear hkl
      go_wp2_with (first | (with_reducible refine wpList_load_part (o := ⟨some 88, _, _, _, _, _⟩) rfl 27 _ rfl w.heap.size 0 rfl (ndCells m) _ HL.out Try.underlying27 rfl HI.out ?_) | (refine wpList_store_ndc (o := ⟨none, .store 27 (.tmp 6) (.tmp 88), _, _, _, _⟩) rfl (.tmp 6) (.tmp 88) ?hok (w.heap.size + 1) ?csk m nd0 ?hxk ?hyk HZ.out ?hmk ?_; (case hok => rfl); (case hxk => rfl); (case hyk => rfl); (case hmk => rfl)))
      rw [HF.out]
      exact bodyPost_ret (results_nd rfl _ (w.heap.size + 1) m rfl (HZ.out.row _)) rfl ⟨rfl, below_setRow HBf.out (by omega) _⟩
end Go.Proofs.Ytbpaefhihdhdeaa
namespace Go.Proofs.Ytbpaefhihdhdeaa
open Go.RowKit

/-- stores that came in -/
def PutsIn (w : World) (a : Option Addr) (l : List (Int × Int)) : Prop := 0 < l.length → ∃ g o, a = some ⟨g, o, none⟩ ∧ g < w.heap.size ∧ EntsAt w g o l
theorem ecells_one (l : List (Int × Int)) : ∀ u ∈ ecells l, u.oneCell' = true := by
  intro u hu
  unfold ecells at hu
  obtain ⟨p, _, h⟩ := List.mem_flatMap.1 hu
  simp only [List.mem_cons, List.not_mem_nil, or_false] at h
  rcases h with rfl | rfl <;> rfl
theorem PutsIn.reads {w : World} {a : Option Addr} {l : List (Int × Int)} (h : PutsIn w a l) : Reads w w.heap.size 2 a l.length (ecells l) := by
  refine ⟨ecells_len l, fun hn => ?_⟩
  obtain ⟨g, o, rfl, hg, hE⟩ := h hn
  refine ⟨_, rfl, hg, fun j u hu => ?_⟩
  have hj : j < (ecells l).length := (List.getElem?_eq_some_iff.1 hu).1
  rw [ecells_len] at hj
  obtain ⟨h1, h2⟩ := hE (j / 2) (by omega)
  obtain ⟨g1, g2⟩ := ecells_get l (j / 2) (by omega)
  have ha : (⟨g, o, none⟩ : Addr).add j = ⟨g, o + j, none⟩ := by unfold Addr.add; split <;> simp_all
  rw [ha]
  by_cases hp : j % 2 = 0
  · rw [show j / 2 * 2 = j by omega] at h1 g1
    rw [g1] at hu; cases hu
    exact h1
  · rw [show o + j / 2 * 2 + 1 = o + j by omega] at h2
    rw [show j / 2 * 2 + 1 = j by omega] at g2
    rw [g2] at hu; cases hu
    exact h2

def standsB (base : Int) : Bool := decide (Stands base)
theorem standsB_eq (base : Int) (h0 : 0 ≤ base) : standsB base = !((base == 0) || decide (1099511627776 < base) || (base % 64 != 0)) := by
  by_cases h : Stands base
  · rw [show standsB base = true from decide_eq_true h]
    obtain ⟨h1, h2, h3⟩ := h
    rw [beq_eq_false_iff_ne.2 (by omega : base ≠ 0), decide_eq_false (by omega : ¬ 1099511627776 < base), h3]
    rfl
  · rw [show standsB base = false from decide_eq_false h]
    by_cases a : base = 0
    · simp [a]
    by_cases b : 1099511627776 < base
    · simp [b]
    have : base % 64 ≠ 0 := fun e => h ⟨by omega, by omega, e⟩
    rw [show (base % 64 != 0) = true from bne_iff_ne.2 this]
    simp
theorem applies_out (base : Int) (n : Nd) (a : Option Addr) (k c : Nat) (w : World) (hk : 40 < k) :
    Calls Try.prog 3 #[.int .u64 base, .agg (ndCells n), .slice a k c] w fun e w' => e = .returned (.bool true) ∧ Below w.heap.size w w' := by
  have hk' : (40 : Int) < (k : Int) := by omega
  have HK := Lib.hid (fun w => known_v w)
  have HB0 := Lib.hid ((Below.refl w.heap.size w).alloc (Nat.le_refl _) (.cells (ndCells n) 27))
  go_enter Try.func3, Try.ntmps3
  go_wp2_with (go_at_call 9; refine (HK.out _).mono ?_; rintro e w1 ⟨rfl, hB⟩; have HB1 := Lib.hid (HB0.out.trans (hB.mono HB0.out.size)); clear hB)
  go_ret
  exact ⟨rfl, HB1.out⟩

/-- a new block with a node in it -/
def newNd (w : World) (m : Nd) : World := (w.alloc (.cells (ndCells nd0) 27)).setRow w.heap.size (ndCells m)
theorem newNd_blk (w : World) (m : Nd) : Blk (newNd w m) w.heap.size (ndCells m) 27 := (Blk.new w (ndCells nd0) 27).row _
theorem newNd_below (w : World) (m : Nd) : Below w.heap.size w (newNd w m) := below_setRow ((Below.refl w.heap.size w).alloc (Nat.le_refl _) _) (Nat.le_refl _) _
def appV (base : Int) (n : Nd) (l : List (Int × Int)) : Nd × Int := if standsB base = true then applyV base n l else (nd0, 2)
theorem apply_any (base : Int) (n : Nd) (l : List (Int × Int)) (a : Option Addr) (c b : Nat) (w : World) (hn : l.length ≤ 1000000) (ho : w.ownsRow b 36 2 (.slice a l.length c) l.length (ecells l)) (hu : ∀ i, i < l.length → 0 ≤ eK l i ∧ eK l i < 18446744073709551616) :
    Calls Try.prog 10 #[.int .u64 base, .agg (ndCells n), .slice a l.length c] w fun e w' => MkP (appV base n l).1 (appV base n l).2 w e w' := by
  unfold appV standsB
  by_cases hs : Stands base
  · rw [if_pos (decide_eq_true hs)]
    by_cases hp : 0 < l.length
    · obtain ⟨g, cap, e, _, _, _, _, hE⟩ := own_ents ho rfl hp
      have ha : a = some ⟨g, 0, none⟩ := by cases e; rfl
      exact apply_v base n l a g c w hs hn (fun _ => ha) hE hu
    · exact apply_v base n l a 0 c w hs hn (fun h => absurd h hp) (fun i hi => absurd hi (by omega)) hu
  · rw [if_neg (by simp [hs])]
    exact apply_no base n _ w hs
/-- the law's loop: the node, and the error, after so many -/
def ApSt (base : Int) (n : Nd) (l : List (Int × Int)) (k : Nat) (m : Nd) (f : Int) : Prop :=
  (standsB base = false ∧ f = 2) ∨ (standsB base = true ∧ ((f = 0 ∧ applyL base n (l.take k) = some m) ∨ (f = 2 ∧ applyL base n l = none)))
/-- its worlds -/
structure LpW (w : World) (b8 b10 : Nat) (n v m : Nd) (w' : World) : Prop where
  n : Blk w' w.heap.size (ndCells n) 27
  v : Blk w' b8 (ndCells v) 27
  m : Blk w' b10 (ndCells m) 27
  b : Below w.heap.size w w'
  lt : w.heap.size ≤ b8 ∧ b8 < b10

theorem below_of_keeps {S : Nat → Prop} {a w : World} {B : Nat} (h : Keeps S a w) (hB : B ≤ a.heap.size) (hS : ∀ k, k < B → ¬ S k) : Below B a w :=
  ⟨h.os, h.tape, h.output, h.size, fun k hk => h.block k (by omega) (hS k hk)⟩
theorem LpW.next {w wr W : World} {b8 b10 : Nat} {n v m m' : Nd} (h : LpW w b8 b10 n v m wr) (hk : Keeps (fun i => i = b10) wr W) (hb : Blk W b10 (ndCells m') 27) : LpW w b8 b10 n v m' W :=
  ⟨h.n.kept hk (by have := h.lt; omega), h.v.kept hk (by have := h.lt; omega), hb, h.b.trans (below_of_keeps hk h.b.size (fun k hk e => by have := h.lt; omega)), h.lt⟩
theorem apSt_next {base : Int} {n m m' : Nd} {l : List (Int × Int)} {k : Nat} {f f' : Int} {at_ x : Int} (_h : ApSt base n l k m f) (hs : standsB base = true) (hk : k < l.length) (ha : applyL base n (l.take k) = some m) (he : putA base m (eK l k) (eP l k) = putA base m at_ x)
    (hm : (putV base m at_ x).1 = m') (hf : (putV base m at_ x).2 = f') : ApSt base n l (k + 1) m' f' := by
  have hn := applyL_next base l n m k hk ha
  rw [he] at hn
  unfold putV at hm hf
  refine .inr ⟨hs, ?_⟩
  cases hp : putA base m at_ x with
  | none =>
    rw [hp] at hm hf hn
    exact .inr ⟨hf.symm, applyL_bad base l n (k + 1) hn⟩
  | some z =>
    rw [hp] at hm hf hn
    refine .inl ⟨hf.symm, ?_⟩
    rw [hn]; exact congrArg some hm
theorem apSt_end {base : Int} {n m : Nd} {l : List (Int × Int)} {k : Nat} {f : Int} (h : ApSt base n l k m f) (hk : k ≤ l.length) (hc : (decide (k < l.length) && (f == 0)) = false) :
    appV base n l = (if f = 0 then m else nd0, f) := by
  unfold appV
  rcases h with ⟨h1, h2⟩ | ⟨h1, ⟨h2, h3⟩ | ⟨h2, h3⟩⟩
  · subst h2; rw [h1]; rfl
  · subst h2
    have : k = l.length := by simp at hc; omega
    rw [this, List.take_length] at h3
    rw [h1, if_pos rfl, if_pos rfl]
    unfold applyV; rw [h3]
  · subst h2
    rw [h1, if_pos rfl]
    unfold applyV; rw [h3]; rfl

set_option maxRecDepth 100000 in
set_option maxHeartbeats 6400000 in
theorem applies_in (base : Int) (h0 : 0 ≤ base) (n : Nd) (a : Option Addr) (l : List (Int × Int)) (c : Nat) (w : World) (hk : l.length ≤ 40) (hl : PutsIn w a l) (hu : ∀ i, i < l.length → 0 ≤ eK l i ∧ eK l i < 18446744073709551616) :
    Calls Try.prog 3 #[.int .u64 base, .agg (ndCells n), .slice a l.length c] w fun e w' => e = .returned (.bool true) ∧ Below w.heap.size w w' := by
  obtain ⟨i0, hi, hz0, hz1, hz2⟩ := info_parts Try.info36
  have hk' : ¬ (40 : Int) < (l.length : Int) := by omega
  have HI := Lib.hid (info27 n)
  have hb0 := Blk.new w (ndCells n) 27
  have HB0 := Lib.hid ((Below.refl w.heap.size w).alloc (Nat.le_refl _) (.cells (ndCells n) 27))
  have HRd := Lib.hid (hl.reads.alloc (Nat.le_refl _) (.cells (ndCells n) 27))
  have HIn := Lib.hid hl
  have HU := Lib.hid hu
  have HK0 := Lib.hid hb0
  clear hl hu hb0
  go_enter Try.func3, Try.ntmps3
  go_upto_region 4 with (at_builtin; refine wpList_append_any _ rfl (.const (.slice none 0 0)) (.tmp 17) _ rfl (w.alloc (.cells (ndCells n) 27)).heap.size 36 i0 _ 2 16 Try.underlying28 hi hz0 hz1 hz2 rfl (by omega) (.slice none 0 0) 0 [] rfl (World.ownsRow_nil _ _ _ _) w.heap.size _ l.length c _ rfl HRd.out (ecells_one l) (by unfold maxLen; omega) (by omega) (Nat.le_refl _) ?_; intro v1 w1 hown1 hg1 hat1; have hB1 := (Below.refl (w.alloc (.cells (ndCells n) 27)).heap.size (w.alloc (.cells (ndCells n) 27))).grown hg1 (Nat.le_refl _) (fun r e => by simp [Value.ownBlock] at e); obtain ⟨a1, n1, c1, rfl⟩ := own_slice hown1; have hn1 := own_len hown1; simp [lenOf] at hn1; subst hn1; have HO := Lib.hid hown1; have HB := Lib.hid hB1; clear hown1 hg1 hat1 hB1)
  have HA := Lib.hid (apply_any base n l a1 c1 _ w1 (by omega) (by simpa using HO.out) HU.out)
  have HB1 := Lib.hid (HB0.out.trans (HB.out.mono (by simp)))
  have HK1 := Lib.hid (HK0.out.below HB.out HK0.out.lt)
  have HL1 := Lib.hid (ndLoad HK1.out)
  obtain ⟨m8, hm8⟩ : ∃ x, (appV base n l).1 = x := ⟨_, rfl⟩
  obtain ⟨f8, hf8⟩ : ∃ x, (appV base n l).2 = x := ⟨_, rfl⟩
  rw [hm8, hf8] at HA
  have HV := Lib.hid (show appV base n l = (m8, f8) by rw [← hm8, ← hf8])
  clear hm8 hf8 HRd HO HB HK0 HB0
  go_wp2_with (with_reducible refine wpList_load_part (o := ⟨some 21, _, _, _, _, _⟩) rfl 27 _ rfl w.heap.size 0 rfl (ndCells n) _ HL1.out Try.underlying27 rfl HI.out ?_)
  refine HA.out.mono ?_
  rintro e w2 ⟨rfl, hB2⟩
  have HB2 := Lib.hid (HB1.out.trans (hB2.mono HB1.out.size))
  have HK2 := Lib.hid (HK1.out.below hB2 HK1.out.lt)
  clear hB2 HA
  go_upto_region 5 with (first | (with_reducible refine wpList_alloc_nd (o := ⟨some 8, _, _, _, _, _⟩) rfl rfl ?_) | (refine wpList_store_ndc (o := ⟨none, .store 27 (.tmp 8) (.tmp 24), _, _, _, _⟩) rfl (.tmp 8) (.tmp 24) ?ho w2.heap.size ?cs m8 nd0 ?hx ?hy (Blk.new w2 _ _) ?hm ?_; (case ho => rfl); (case hx => rfl); (case hy => rfl); (case hm => rfl); rw [show (w2.alloc (.cells (ndCells nd0) 27)).setRow w2.heap.size (ndCells m8) = newNd w2 m8 from rfl]))
  go_simp
  have hk3 := HK2.out.below (newNd_below w2 m8) HK2.out.lt
  have hv3 := newNd_blk w2 m8
  have hB3 := HB2.out.trans ((newNd_below w2 m8).mono HB2.out.size)
  have hs3 := hv3.lt
  have hs2 := HB2.out.size
  obtain ⟨b8, hb8⟩ : ∃ x, w2.heap.size = x := ⟨_, rfl⟩
  rw [hb8] at hv3 hs3 hs2 ⊢
  clear hb8 HB2 HK2 HB1 HK1 HL1
  generalize newNd w2 m8 = w3 at *
  have HL3 := Lib.hid (ndLoad hk3)
  have HW4 := Lib.hid (show LpW w b8 w3.heap.size n m8 n (newNd w3 n) from ⟨hk3.below (newNd_below w3 n) hk3.lt, hv3.below (newNd_below w3 n) hv3.lt, newNd_blk w3 n, hB3.trans ((newNd_below w3 n).mono hB3.size), hs2, hs3⟩)
  clear hk3 hv3 hB3
  go_upto_region 6 with (first | (with_reducible refine wpList_load_part (o := ⟨some 26, _, _, _, _, _⟩) rfl 27 _ rfl w.heap.size 0 rfl (ndCells n) _ HL3.out Try.underlying27 rfl HI.out ?_) | (with_reducible refine wpList_alloc_nd (o := ⟨some 10, _, _, _, _, _⟩) rfl rfl ?_) | (refine wpList_store_ndc (o := ⟨none, .store 27 (.tmp 10) (.tmp 26), _, _, _, _⟩) rfl (.tmp 10) (.tmp 26) ?hob w3.heap.size ?csb n nd0 ?hxb ?hyb (Blk.new w3 _ _) ?hmb ?_; (case hob => rfl); (case hxb => rfl); (case hyb => rfl); (case hmb => rfl); rw [show (w3.alloc (.cells (ndCells nd0) 27)).setRow w3.heap.size (ndCells n) = newNd w3 n from rfl]))
  go_simp
  obtain ⟨b10, hb10⟩ : ∃ x, w3.heap.size = x := ⟨_, rfl⟩
  rw [hb10] at HW4 ⊢
  clear hb10 HL3 hs3 hs2
  generalize newNd w3 n = w4 at *
  clear w3 w2 w1
  obtain ⟨sb, hsb⟩ : ∃ x, standsB base = x := ⟨_, rfl⟩
  have HSB := Lib.hid hsb
  go_cut [37] (fun s37 wx => s37 = .bool (!sb) ∧ wx = w4)
  case first =>
    rw [standsB_eq base h0] at hsb
    cases q1 : (base == 0)
    case true =>
      have hX := Lib.hid (show sb = false by rw [← hsb, q1]; rfl)
      clear hsb
      go_wp2_with (fail)
      go_meet
      exact ⟨by rw [hX.out]; rfl, rfl⟩
    case false =>
    cases q2 : decide (1099511627776 < base)
    case true =>
      have hX := Lib.hid (show sb = false by rw [← hsb, q1, q2]; rfl)
      clear hsb
      go_wp2_with (fail)
      go_meet
      exact ⟨by rw [hX.out]; rfl, rfl⟩
    case false =>
    cases q3 : (base % 64 != 0)
    case true =>
      have hX := Lib.hid (show sb = false by rw [← hsb, q1, q2, q3]; rfl)
      clear hsb
      go_wp2_with (fail)
      go_meet
      exact ⟨by rw [hX.out]; rfl, rfl⟩
    case false =>
      have hX := Lib.hid (show sb = true by rw [← hsb, q1, q2, q3]; rfl)
      clear hsb
      go_wp2_with (fail)
      go_meet
      exact ⟨by rw [hX.out]; rfl, rfl⟩
  case rest =>
    obtain ⟨rfl, rfl⟩ := hcut
    go_upto_if 37 with (fail)
    go_cut [11] (fun s11 wx => ∃ f : Int, s11 = .int .i64 f ∧ Hid (ApSt base n l 0 n f) ∧ wx = wc)
    case first =>
      cases sb
      · go_wp2_with (fail)
        go_meet
        exact ⟨2, rfl, Lib.hid (.inl ⟨HSB.out, rfl⟩), rfl⟩
      · go_wp2_with (fail)
        go_meet
        exact ⟨0, rfl, Lib.hid (.inr ⟨HSB.out, .inl ⟨rfl, rfl⟩⟩), rfl⟩
    case rest =>
      obtain ⟨f0, rfl, HSt0, rfl⟩ := hcut
      go_wp2_with (fail)
      go_loopw [11, 12] (fun fv iv wr => ∃ (k : Nat) (m : Nd) (f : Int), k ≤ l.length ∧ iv = .int .i64 k ∧ fv = .int .i64 f ∧ Hid (ApSt base n l k m f) ∧ Hid (LpW w b8 b10 n m8 m wr)) (fun _ iv _ => l.length - (intOf iv).toNat)
      case atStart => exact ⟨0, n, f0, by omega, rfl, rfl, HSt0, HW4⟩
      case round =>
        obtain ⟨k, m, f, hk1, rfl, rfl, HSt, HW⟩ := hrel
        clear HW4 HSt0
        cases hc : (decide (k < l.length) && (f == 0))
        case true =>
          simp only [Bool.and_eq_true, decide_eq_true_eq] at hc
          obtain ⟨hlt, hf0⟩ := hc
          have hlt' : (k : Int) < (l.length : Int) := by omega
          go_wp2_with (fail)
          have hst : standsB base = true := by
            rcases HSt.out with ⟨h1, h2⟩ | ⟨h1, h2⟩
            · subst h2; simp at hf0
            · exact h1
          have hS : Stands base := of_decide_eq_true hst
          have hap : applyL base n (l.take k) = some m := by
            rcases HSt.out with ⟨h1, h2⟩ | ⟨h1, ⟨_, h2⟩ | ⟨h2, _⟩⟩
            · subst h2; simp at hf0
            · exact h2
            · subst h2; simp at hf0
          obtain ⟨g, o, rfl, hg, hE⟩ := HIn.out (by omega)
          obtain ⟨c1, c2⟩ := hE.below HW.out.b hg k hlt
          obtain ⟨at_, hat⟩ : ∃ x, eK l k = x := ⟨_, rfl⟩
          obtain ⟨x, hx⟩ : ∃ x, eP l k = x := ⟨_, rfl⟩
          obtain ⟨m', hm'⟩ : ∃ z, (putV base m at_ x).1 = z := ⟨_, rfl⟩
          obtain ⟨f', hf'⟩ : ∃ z, (putV base m at_ x).2 = z := ⟨_, rfl⟩
          rw [hat] at c1
          rw [hx] at c2
          have HGB := Lib.hid (show ¬ g = b10 from fun e => by have := HW.out.lt; omega)
          --GEN r_applies
          refine wp_region_vals [Is (.int .u64 base), Is (.agg (ndCells m)), Is (.slice (some ⟨g, o, none⟩) l.length c), Is (.int .i64 k), Is (.pointer (some ⟨g, o + k * 2, none⟩)), Is (.agg #[.int .u64 at_, .int .u64 x]), Is (.tuple #[.agg (ndCells m'), .int .i64 f']), Is (.tuple #[.agg (ndCells m'), .int .i64 f']), Is (.agg (ndCells m')), Is (.int .i64 f'), Any, Is (.int .i64 f')]
            (fun _ => Keeps (fun i => i = b10)) (fun L W => Keeps (fun i => i = b10) wr W ∧ Blk W b10 (ndCells (if L 10 = true then m' else m)) 27) (by kernel_rfl) (by kernel_rfl) (by kernel_rfl) ?hst ?h0 ⟨?o0, ?o1, ?o2, ?o3, ?o4, ?o5, ?o6, ?o7, ?o8, ?o9, ?o10, ?o11, trivial⟩ ?he
          case hst =>
            exact ⟨(fun _ _ _ _ _ _ h _ => h), (fun _ _ _ _ _ _ h _ => h), (fun _ _ _ _ _ _ h _ => h), (fun _ _ _ _ _ _ h _ => h), (fun _ _ _ _ _ _ h _ => h), (fun _ _ _ _ _ _ h _ => h), (fun _ _ _ _ _ _ h _ => h), (fun _ _ _ _ _ _ h _ => h), (fun _ _ _ _ _ _ h _ => h), (fun _ _ _ _ _ _ h _ => h), (fun _ _ _ _ _ _ h _ => h), (fun _ _ _ _ _ _ h _ => h), trivial⟩
          case h0 =>
            exact ⟨(Keeps.refl _ _).drew, HW.out.m.drew⟩
          case o0 =>
            intro L vs A W H hf hd K hK
            have e0 : A.tmps[0]?.getD undef = .int .u64 base := H.old 0 (by kernel_rfl)
            go_simp
            exact hK _ _ (Keeps.refl _ _) rfl (H.glob)
          case o1 =>
            intro L vs A W H hf hd K hK
            have e10 : A.tmps[10]?.getD undef = .pointer (some ⟨b10, 0, none⟩) := H.old 10 (by kernel_rfl)
            have n10 := H.notYet 10 1 rfl hf (by kernel_rfl)
            have hb := H.glob.2
            rw [n10] at hb
            rw [if_pos (show Region.wanted _ _ = true from rfl)]
            exact wp_load_nd _ rfl b10 m (ev_tmp e10) hb (hK _ _ (Keeps.refl _ _) rfl H.glob)
          case o2 =>
            intro L vs A W H hf hd K hK
            have e2 : A.tmps[2]?.getD undef = .slice (some ⟨g, o, none⟩) l.length c := H.old 2 (by kernel_rfl)
            go_simp
            exact hK _ _ (Keeps.refl _ _) rfl (H.glob)
          case o3 =>
            intro L vs A W H hf hd K hK
            have e12 : A.tmps[12]?.getD undef = .int .i64 k := H.old 12 (by kernel_rfl)
            go_simp
            exact hK _ _ (Keeps.refl _ _) rfl (H.glob)
          case o4 =>
            intro L vs A W H hf hd K hK
            have e51 := H.is 2 51 rfl rfl rfl (deps_of' hd 2 (by kernel_rfl)) (by kernel_rfl)
            have e52 := H.is 3 52 rfl rfl rfl (deps_of' hd 3 (by kernel_rfl)) (by kernel_rfl)
            go_simp
            exact hK _ _ (Keeps.refl _ _) rfl (H.glob)
          case o5 =>
            intro L vs A W H hf hd K hK
            have e53 := H.is 4 53 rfl rfl rfl (deps_of' hd 4 (by kernel_rfl)) (by kernel_rfl)
            have d1 := (H.glob.1.cell (p := ⟨g, o + k * 2, none⟩) (by have := HW.out.b.size; exact Nat.lt_of_lt_of_le hg this) HGB.out).trans c1
            have d2 := (H.glob.1.cell (p := ⟨g, o + k * 2 + 1, none⟩) (by have := HW.out.b.size; exact Nat.lt_of_lt_of_le hg this) HGB.out).trans c2
            go_simp
            exact hK _ _ (Keeps.refl _ _) rfl (H.glob)
          case o6 =>
            intro L vs A W H hf hd K hK
            have e49 := H.is 0 49 rfl rfl rfl (deps_of' hd 0 (by kernel_rfl)) (by kernel_rfl)
            have e50 := H.is 1 50 rfl rfl rfl (deps_of' hd 1 (by kernel_rfl)) (by kernel_rfl)
            have e54 := H.is 5 54 rfl rfl rfl (deps_of' hd 5 (by kernel_rfl)) (by kernel_rfl)
            rw [if_pos (show Region.wanted _ _ = true from rfl)]
            go_wp2_with (fail)
            refine (rapply_v base m at_ x _ hS).mono ?_
            rw [hm', hf']
            rintro e W2 ⟨rfl, hB⟩
            exact hK _ _ (Keeps.of_belowS hB) rfl ⟨H.glob.1.trans (Keeps.of_belowS hB), H.glob.2.below hB H.glob.2.lt⟩
          case o7 =>
            intro L vs A W H hf hd K hK
            have e55 := H.is 6 55 rfl rfl rfl (deps_of' hd 6 (by kernel_rfl)) (by kernel_rfl)
            go_simp
            exact hK _ _ (Keeps.refl _ _) rfl (H.glob)
          case o8 =>
            intro L vs A W H hf hd K hK
            have e48 := H.is 7 48 rfl rfl rfl (deps_of' hd 7 (by kernel_rfl)) (by kernel_rfl)
            go_simp
            exact hK _ _ (Keeps.refl _ _) rfl (H.glob)
          case o9 =>
            intro L vs A W H hf hd K hK
            have e48 := H.is 7 48 rfl rfl rfl (deps_of' hd 7 (by kernel_rfl)) (by kernel_rfl)
            go_simp
            exact hK _ _ (Keeps.refl _ _) rfl (H.glob)
          case o10 =>
            intro L vs A W H hf hd K hK
            have e10 : A.tmps[10]?.getD undef = .pointer (some ⟨b10, 0, none⟩) := H.old 10 (by kernel_rfl)
            have e56 := H.is 8 56 rfl rfl rfl (deps_of' hd 8 (by kernel_rfl)) (by kernel_rfl)
            have hb := H.glob.2
            rw [show L 10 = false from hf] at hb
            rw [if_pos (show Region.wanted _ _ = true from rfl)]
            exact wp_store_nd _ _ rfl b10 m' m (ev_tmp e10) (ev_tmp e56) hb (hK _ _ (keeps_setRow (S := fun i => i = b10) (Keeps.refl _ _) (.inl rfl) _) trivial ⟨keeps_setRow H.glob.1 (.inl rfl) _, hb.row _⟩)
          case o11 =>
            intro L vs A W H hf hd K hK
            have e57 := H.is 9 57 rfl rfl rfl (deps_of' hd 9 (by kernel_rfl)) (by kernel_rfl)
            go_simp
            exact hK _ _ (Keeps.refl _ _) rfl (H.glob)
          case he =>
            intro vs W hlen hv
            match vs, hlen, hv with
            | [x0_, x1_, x2_, x3_, x4_, x5_, x6_, x7_, x8_, x9_, x10_, x11_], _, hv =>
            obtain rfl : (.int .u64 base) = x0_ := by obtain ⟨z, h1, h2⟩ := hv 0 _ rfl; cases h1; exact h2.symm
            obtain rfl : (.agg (ndCells m)) = x1_ := by obtain ⟨z, h1, h2⟩ := hv 1 _ rfl; cases h1; exact h2.symm
            obtain rfl : (.slice (some ⟨g, o, none⟩) l.length c) = x2_ := by obtain ⟨z, h1, h2⟩ := hv 2 _ rfl; cases h1; exact h2.symm
            obtain rfl : (.int .i64 k) = x3_ := by obtain ⟨z, h1, h2⟩ := hv 3 _ rfl; cases h1; exact h2.symm
            obtain rfl : (.pointer (some ⟨g, o + k * 2, none⟩)) = x4_ := by obtain ⟨z, h1, h2⟩ := hv 4 _ rfl; cases h1; exact h2.symm
            obtain rfl : (.agg #[.int .u64 at_, .int .u64 x]) = x5_ := by obtain ⟨z, h1, h2⟩ := hv 5 _ rfl; cases h1; exact h2.symm
            obtain rfl : (.tuple #[.agg (ndCells m'), .int .i64 f']) = x6_ := by obtain ⟨z, h1, h2⟩ := hv 6 _ rfl; cases h1; exact h2.symm
            obtain rfl : (.tuple #[.agg (ndCells m'), .int .i64 f']) = x7_ := by obtain ⟨z, h1, h2⟩ := hv 7 _ rfl; cases h1; exact h2.symm
            obtain rfl : (.agg (ndCells m')) = x8_ := by obtain ⟨z, h1, h2⟩ := hv 8 _ rfl; cases h1; exact h2.symm
            obtain rfl : (.int .i64 f') = x9_ := by obtain ⟨z, h1, h2⟩ := hv 9 _ rfl; cases h1; exact h2.symm
            obtain rfl : (.int .i64 f') = x11_ := by obtain ⟨z, h1, h2⟩ := hv 11 _ rfl; cases h1; exact h2.symm
            intro L hall hG
            clear hv hlen
            have h10 := hall 10 (by decide)
            have HW2 := Lib.hid (HW.out.next hG.1 (show Blk W b10 (ndCells m') 27 by have := hG.2; rwa [h10] at this))
            have HSt2 := Lib.hid (apSt_next HSt.out hst hlt hap (hat ▸ hx ▸ rfl : putA base m (eK l k) (eP l k) = putA base m at_ x) hm' hf')
            clear hG hall h10 hf0 hm' hf' hap hst hat hx c1 c2
            simp only [fill, if_true]
            go_simp
            go_wp2_with (fail)
            go_roundw
            case rel => exact ⟨k + 1, m', f', by omega, by go_num, rfl, HSt2, HW2⟩
            case measure => simp [intOf]; omega
          --END
        case false =>
          have hend := apSt_end HSt.out hk1 hc
          rw [HV.out] at hend
          obtain ⟨h1, h2⟩ := Prod.mk.inj hend
          subst h2
          have hEq := fun w => eq_nd m8 w
          have HKn := Lib.hid (fun w => known_v w)
          have HLv := Lib.hid (ndLoad HW.out.v)
          have HIv := Lib.hid (info27 m8)
          have hcs : decide (k < l.length) = false ∨ (decide (k < l.length) = true ∧ (f8 == 0) = false) := by
            cases h : decide (k < l.length)
            · exact .inl rfl
            · rw [h] at hc; exact .inr ⟨rfl, by simpa using hc⟩
          have q2 : (f8 == f8) = true := beq_self_eq_true f8
          clear hend hc HSt
          cases q1 : (f8 == 0)
          case true =>
            have q1' : (f8 != 0) = false := by rw [bne, q1]; rfl
            have hm : m8 = m := by rw [h1, if_pos (by simpa using q1)]
            subst hm
            have hlt : ¬ (k : Int) < (l.length : Int) := by
              rcases hcs with h | ⟨_, h⟩
              · simp at h; omega
              · rw [q1] at h; cases h
            have HLm := Lib.hid (ndLoad HW.out.m)
            clear h1 hcs
            go_wp2_with (first | (with_reducible refine wpList_load_part (o := ⟨some 61, _, _, _, _, _⟩) rfl 27 _ rfl b8 0 rfl (ndCells m8) _ HLv.out Try.underlying27 rfl HIv.out ?_) | (with_reducible refine wpList_load_part (o := ⟨some 62, _, _, _, _, _⟩) rfl 27 _ rfl b10 0 rfl (ndCells m8) _ HLm.out Try.underlying27 rfl HIv.out ?_) | (go_at_call 9; refine (HKn.out _).mono ?_; rintro e w5 ⟨rfl, hB⟩; have HB5 := Lib.hid (HW.out.b.trans (hB.mono HW.out.b.size)); clear hB))
            go_ret
            exact ⟨rfl, HB5.out⟩
          case false =>
            have q1' : (f8 != 0) = true := by rw [bne, q1]; rfl
            have hm : m8 = nd0 := by rw [h1, if_neg (by simpa using q1)]
            have HZ := Lib.hid hm
            clear hm
            have HW2 := Lib.hid (show LpW w b8 b10 n m8 m8 (wr.setRow b10 (ndCells m8)) from HW.out.next (keeps_setRow (S := fun i => i = b10) (Keeps.refl _ _) (.inl rfl) _) (HW.out.m.row _))
            have HLw := Lib.hid (ndLoad HW2.out.v)
            have HLm := Lib.hid (ndLoad HW2.out.m)
            have hcs' : (¬ (k : Int) < (l.length : Int)) ∨ (k : Int) < (l.length : Int) := by omega
            clear h1 hcs
            rcases hcs' with hlt | hlt
            · go_upto_region 13 with (fail)
              go_upto_region 14 with (refine wpList_store_ndc (o := ⟨none, .store 27 (.tmp 10) (.tmp 60), _, _, _, _⟩) rfl (.tmp 10) (.tmp 60) ?hoy b10 ?csy m8 m ?hxy ?hyy HW.out.m ?hmy ?_; (case hoy => rfl); (case hxy => rfl); (case hyy => rfl); (case hmy => rw [HZ.out]; rfl))
              go_simp
              go_wp2_with (first | (with_reducible refine wpList_load_part (o := ⟨some 61, _, _, _, _, _⟩) rfl 27 _ rfl b8 0 rfl (ndCells m8) _ HLw.out Try.underlying27 rfl HIv.out ?_) | (with_reducible refine wpList_load_part (o := ⟨some 62, _, _, _, _, _⟩) rfl 27 _ rfl b10 0 rfl (ndCells m8) _ HLm.out Try.underlying27 rfl HIv.out ?_) | (go_at_call 9; refine (HKn.out _).mono ?_; rintro e w5 ⟨rfl, hB⟩; have HB5 := Lib.hid (HW2.out.b.trans (hB.mono HW2.out.b.size)); clear hB))
              go_ret
              exact ⟨rfl, HB5.out⟩
            · go_upto_region 13 with (fail)
              go_upto_region 14 with (refine wpList_store_ndc (o := ⟨none, .store 27 (.tmp 10) (.tmp 60), _, _, _, _⟩) rfl (.tmp 10) (.tmp 60) ?hoz b10 ?csz m8 m ?hxz ?hyz HW.out.m ?hmz ?_; (case hoz => rfl); (case hxz => rfl); (case hyz => rfl); (case hmz => rw [HZ.out]; rfl))
              go_simp
              go_wp2_with (first | (with_reducible refine wpList_load_part (o := ⟨some 61, _, _, _, _, _⟩) rfl 27 _ rfl b8 0 rfl (ndCells m8) _ HLw.out Try.underlying27 rfl HIv.out ?_) | (with_reducible refine wpList_load_part (o := ⟨some 62, _, _, _, _, _⟩) rfl 27 _ rfl b10 0 rfl (ndCells m8) _ HLm.out Try.underlying27 rfl HIv.out ?_) | (go_at_call 9; refine (HKn.out _).mono ?_; rintro e w5 ⟨rfl, hB⟩; have HB5 := Lib.hid (HW2.out.b.trans (hB.mono HW2.out.b.size)); clear hB))
              go_ret
              exact ⟨rfl, HB5.out⟩
end Go.Proofs.Ytbpaefhihdhdeaa
namespace Go.Proofs.Ytbpaefhihdhdeaa
open Go.RowKit
set_option linter.unusedVariables false

theorem wp_alloc_nd {o : Oper} {a : Act} {w : World} {K : Act → World → Prop} {Q : Exit → Act → World → Prop} (ho : o.op = .alloc 27)
    (h : K (a.put o.dst (.pointer (some ⟨w.heap.size, 0, none⟩))) (w.alloc (.cells (ndCells nd0) 27))) : Oper.wp Try.prog o a w K Q := by
  unfold Oper.wp execOp
  simp only [ho, Sem.run_bind, run_alloc_nd, Result.andThen_ok, Sem.run_pure]
  exact h
/-- the block that operation i lays, its pointer in slot s, and that operation j stores to -/
def NewG (B s i j : Nat) (m' : Nd) (L : Nat → Bool) (a : Act) (W : World) : Prop :=
  L i = true → ∃ H x, a.tmps[s]?.getD undef = .pointer (some ⟨H, 0, none⟩) ∧ B ≤ H ∧ Blk W H (ndCells x) 27 ∧ (L j = true → x = m')
theorem NewG.keep {B s i j : Nat} {m' : Nd} {L L' : Nat → Bool} {a : Act} {W W' : World} {d : Option Tmp} {v : Value} (h : NewG B s i j m' L a W) (h1 : L' i = L i) (h2 : L' j = L j) (hd : d ≠ some s) (hB : Below W.heap.size W W') : NewG B s i j m' L' (a.put d v) W' := by
  intro hi
  rw [h1] at hi
  obtain ⟨H, x, e, hH, hb, hx⟩ := h hi
  refine ⟨H, x, ?_, hH, hb.below hB hb.lt, fun hj => hx (by rw [← h2]; exact hj)⟩
  have := getD_put_ne (a := a) (v := v) hd
  simp only [Array.getD_eq_getD_getElem?] at this
  rw [this]; exact e
theorem NewG.none {B s i j : Nat} {m' : Nd} {a : Act} {W : World} : NewG B s i j m' (fun _ => false) a W := fun h => by cases h

/-! ### the phases -/
def PhA (base : Int) (was now : List (Int × Int)) (m : Nd) (rest : List (Int × Int)) : Prop :=
  ∃ L1 s L2 m1 m2 m3, rest = L1 ++ s :: L2 ∧ Stay base was m L1 m1 ∧ putA base m1 s.1 s.2 = some m2 ∧ m2.mayB 0 false = true ∧ m2.valid = now ∧ Stay base now m2 L2 m3 ∧ Full m3 now ∧ Fine m3 now
def PhB (base : Int) (now : List (Int × Int)) (m : Nd) (rest : List (Int × Int)) : Prop := ∃ m3, Stay base now m rest m3 ∧ Full m3 now ∧ Fine m3 now
theorem PhB.step {base : Int} {now : List (Int × Int)} {m : Nd} {x : Int × Int} {r : List (Int × Int)} (h : PhB base now m (x :: r)) :
    ∃ m', putA base m x.1 x.2 = some m' ∧ m'.mayB 0 false = true ∧ m'.valid = now ∧ PhB base now m' r := by
  obtain ⟨m3, ⟨q, a, b, c, d⟩, e⟩ := h
  exact ⟨q, a, b, c, m3, d, e⟩
theorem PhB.done {base : Int} {now : List (Int × Int)} {m : Nd} (h : PhB base now m []) : m.valid = now ∧ m.inval = -1 ∧ m.mayB 0 false = true := by
  obtain ⟨m3, rfl, a, b⟩ := h
  exact ⟨a.valid b, by rw [← inval_eq]; exact a.inv b, a.may b⟩
theorem PhA.step {base : Int} {was now : List (Int × Int)} {m : Nd} {x : Int × Int} {r : List (Int × Int)} (h : PhA base was now m (x :: r)) :
    ∃ m', putA base m x.1 x.2 = some m' ∧ m'.mayB 0 false = true ∧ ((m'.valid = was ∧ PhA base was now m' r) ∨ (m'.valid = now ∧ PhB base now m' r)) := by
  obtain ⟨L1, s, L2, m1, m2, m3, e, h1, h2, h3, h4, h5, h6⟩ := h
  cases L1 with
  | nil =>
    cases h1
    rw [List.nil_append] at e
    obtain ⟨rfl, rfl⟩ := List.cons.inj e
    exact ⟨m2, h2, h3, .inr ⟨h4, m3, h5, h6⟩⟩
  | cons y L1 =>
    rw [List.cons_append] at e
    obtain ⟨rfl, rfl⟩ := List.cons.inj e
    obtain ⟨q, a, b, c, d⟩ := h1
    exact ⟨q, a, b, .inl ⟨c, L1, s, L2, m1, m2, m3, rfl, d, h2, h3, h4, h5, h6⟩⟩
theorem PhA.ne {base : Int} {was now : List (Int × Int)} {m : Nd} : ¬ PhA base was now m [] := by
  rintro ⟨L1, s, L2, m1, m2, m3, e, _⟩
  simp at e
/-- where a run stands -/
def PhS (base : Int) (was now : List (Int × Int)) (d : Bool) (m : Nd) (rest : List (Int × Int)) : Prop := (d = false ∧ PhA base was now m rest) ∨ PhB base now m rest
theorem phS_start {base : Int} {n : Nd} {was now L : List (Int × Int)} {e : Option Nat} (h : Traj base n was now L e) : PhS base was now false n L := by
  cases e with
  | none =>
    obtain ⟨m3, a, rfl, b⟩ := h
    exact .inr ⟨m3, a, b⟩
  | some t =>
    obtain ⟨L1, s, L2, m1, m2, m3, e, _, h1, h2, h3, h4, _, h5, h6⟩ := h
    exact .inl ⟨rfl, L1, s, L2, m1, m2, m3, e, h1, h2, h3, h4, h5, h6⟩
/-- one store on: three ways -/
theorem phS_step {base : Int} {was now : List (Int × Int)} {d : Bool} {m : Nd} {x : Int × Int} {r : List (Int × Int)} (h : PhS base was now d m (x :: r)) :
    ∃ m', putA base m x.1 x.2 = some m' ∧ m'.mayB 0 false = true ∧
      ((d = false ∧ (m'.valid == was) = true ∧ PhS base was now false m' r) ∨ (d = false ∧ (m'.valid == was) = false ∧ (m'.valid == now) = true ∧ PhS base was now true m' r) ∨ (d = true ∧ (m'.valid == now) = true ∧ PhS base was now true m' r)) := by
  rcases h with ⟨rfl, h⟩ | h
  · obtain ⟨m', a, b, c⟩ := h.step
    refine ⟨m', a, b, ?_⟩
    rcases c with ⟨c, p⟩ | ⟨c, p⟩
    · exact .inl ⟨rfl, by rw [c]; exact beq_self_eq_true _, .inl ⟨rfl, p⟩⟩
    · cases hq : (m'.valid == was)
      · exact .inr (.inl ⟨rfl, rfl, by rw [c]; exact beq_self_eq_true _, .inr p⟩)
      · exact .inl ⟨rfl, rfl, .inr p⟩
  · obtain ⟨m', a, b, c, p⟩ := h.step
    refine ⟨m', a, b, ?_⟩
    cases d
    · cases hq : (m'.valid == was)
      · exact .inr (.inl ⟨rfl, rfl, by rw [c]; exact beq_self_eq_true _, .inr p⟩)
      · exact .inl ⟨rfl, rfl, .inr p⟩
    · exact .inr (.inr ⟨rfl, by rw [c]; exact beq_self_eq_true _, .inr p⟩)
theorem phS_done {base : Int} {was now : List (Int × Int)} {d : Bool} {m : Nd} (h : PhS base was now d m []) : m.valid = now ∧ m.inval = -1 ∧ m.mayB 0 false = true := by
  rcases h with ⟨_, h⟩ | h
  · exact absurd h PhA.ne
  · exact h.done
theorem drop_ent (L : List (Int × Int)) {k : Nat} (h : k < L.length) : L.drop k = (eK L k, eP L k) :: L.drop (k + 1) := by
  rw [List.drop_eq_getElem_cons h, ent_get h]
end Go.Proofs.Ytbpaefhihdhdeaa
namespace Go.Proofs.Ytbpaefhihdhdeaa
open Go.RowKit
set_option linter.unusedVariables false

theorem newG_alloc {B s i j : Nat} {m' : Nd} {L : Nat → Bool} {a : Act} {W : World} (hz : s < a.tmps.size) (hB : B ≤ W.heap.size) (hj : L j = false) (hij : j ≠ i) :
    NewG B s i j m' (lset L i) (a.put (some s) (.pointer (some ⟨W.heap.size, 0, none⟩))) (W.alloc (.cells (ndCells nd0) 27)) :=
  fun _ => ⟨W.heap.size, nd0, by simp [Act.put, hz], hB, Blk.new _ _ _, fun h => by unfold lset at h; rw [if_neg hij, hj] at h; cases h⟩
theorem made_pos {base : Int} {n : Nd} {kd key ptr : Int} (hk : kd = 0 ∨ kd = 1 ∨ kd = 2 ∨ kd = 3 ∨ kd = 4 ∨ kd = 5) (hc : madeC base n kd key ptr = 0) : 0 < (madeL base n kd key ptr).length := by
  rcases hk with rfl | rfl | rfl | rfl | rfl | rfl
  · show 0 < (insP base n key ptr).length
    unfold insP; rw [if_pos (show insE base n key ptr = 0 from hc)]; unfold insL; simp
  · show 0 < (delP base n key).length
    unfold delP; rw [if_pos (show delE base n key = 0 from hc)]; unfold delL; simp
  · show 0 < (repP base n).length
    unfold repP; rw [if_pos (show repE base n = 0 from hc)]; unfold repL; simp
  · show 0 < (swapP base n key ptr).length
    unfold swapP; rw [if_pos (show swapE base n key ptr = 0 from hc)]; simp
  · show 0 < (cutP base n key).length
    unfold cutP; rw [if_pos (show cutE base n key = 0 from hc)]; simp
  · show 0 < (linkP base n ptr).length
    unfold linkP; rw [if_pos (show mayE base n = 0 from hc)]; simp
theorem made_len9 (base : Int) (n : Nd) (kd key ptr : Int) : (madeL base n kd key ptr).length ≤ 40 := by
  have h8 := n.len_le
  unfold madeL
  split
  · unfold insP
    split
    · unfold insL
      have : (n.last key + 1).toNat ≤ n.len := by have := last_ge n key; omega
      have h2 := shiftL_len base n n.len (n.len - (n.last key + 1).toNat)
      simp only [List.length_append, h2]
      split <;> simp <;> omega
    · simp
  split
  · unfold delP
    split
    · unfold delL; simp only [List.length_append, gapL_len]; simp; omega
    · simp
  split
  · unfold repP
    split
    · unfold repL; simp only [List.length_append, gapL_len]; simp; omega
    · simp
  split
  · unfold swapP; split <;> simp
  split
  · unfold cutP; split <;> simp
  · unfold linkP; split <;> simp
/-- the worlds of the loop -/
structure HoW (w : World) (B b4 gL : Nat) (L : List (Int × Int)) (v1 v2 : Value) (was now : List (Int × Int)) (m : Nd) (W : World) : Prop where
  n : Blk W b4 (ndCells m) 27
  l : EntsAt W gL 0 L
  r1 : RowV B was v1 W
  r2 : RowV B now v2 W
  b : Below w.heap.size w W
  lb : w.heap.size ≤ b4
  lB : b4 < B
  lg : B ≤ gL
theorem RowV.other {B b : Nat} {l : List (Int × Int)} {v : Value} {W : World} (h : RowV B l v W) (hb : b < B) (C : Array Value) : RowV B l v (W.setRow b C) := by
  obtain ⟨hl, h0 | ⟨g, cap, cur, hv, hg, hh, h1⟩⟩ := h
  · exact ⟨hl, .inl h0⟩
  · exact ⟨hl, .inr ⟨g, cap, cur, hv, hg, by rw [setRow_other W b g C (by omega)]; exact hh, h1⟩⟩
section
variable {w W W' : World} {B b4 gL : Nat} {L : List (Int × Int)} {v1 v2 : Value} {was now : List (Int × Int)} {m m' : Nd}
theorem HoW.keep (h : HoW w B b4 gL L v1 v2 was now m W) (hB : Below W.heap.size W W') : HoW w B b4 gL L v1 v2 was now m W' :=
  ⟨h.n.below hB h.n.lt, fun i hi => (h.l.below hB (h.l.lt (by omega))) i hi, own_below h.r1 hB, own_below h.r2 hB, h.b.trans (hB.mono h.b.size), h.lb, h.lB, h.lg⟩
theorem HoW.set (h : HoW w B b4 gL L v1 v2 was now m W) : HoW w B b4 gL L v1 v2 was now m' (W.setRow b4 (ndCells m')) :=
  ⟨h.n.row _, fun i hi => by
    have hne : gL ≠ b4 := by have := h.lB; have := h.lg; omega
    obtain ⟨a, b⟩ := h.l i hi
    exact ⟨(World.cell?_of_block (w := W) (a := ⟨gL, 0 + i * 2, none⟩) (setRow_other W b4 gL _ hne)).trans a, (World.cell?_of_block (w := W) (a := ⟨gL, 0 + i * 2 + 1, none⟩) (setRow_other W b4 gL _ hne)).trans b⟩,
   h.r1.other h.lB _, h.r2.other h.lB _, below_setRow h.b h.lb _, h.lb, h.lB, h.lg⟩
end

theorem traj_now {base : Int} {n : Nd} {was now L : List (Int × Int)} {e : Option Nat} (h : Traj base n was now L e) : now.length ≤ 8 := by
  cases e with
  | none =>
    obtain ⟨m3, _, _, h1, _⟩ := h
    exact h1.le
  | some t =>
    obtain ⟨L1, s, L2, m1, m2, m3, _, _, _, _, _, _, _, _, h5, _⟩ := h
    exact h5.le
/-- the loop -/
def HoRel (base : Int) (w : World) (B b4 gL : Nat) (Ls : List (Int × Int)) (v1 v2 : Value) (was now : List (Int × Int)) (dv iv : Value) (W : World) : Prop :=
  ∃ (k : Nat) (m : Nd) (d : Bool), k ≤ Ls.length ∧ iv = .int .i64 k ∧ dv = .bool d ∧ PhS base was now d m (Ls.drop k) ∧ HoW w B b4 gL Ls v1 v2 was now m W
set_option maxRecDepth 100000 in
set_option maxHeartbeats 1600000 in
theorem holds_err (base : Int) (n : Nd) (kind key ptr : Int) (w : World) (hc : madeC base n (kdOf kind) key ptr ≠ 0) :
    Calls Try.prog 5 #[.int .u64 base, .agg (ndCells n), .agg (askC kind key ptr)] w fun e w' => e = .returned (.bool true) ∧ Below w.heap.size w w' := by
  have HI := Lib.hid (info27 n)
  have hk0 : Blk ((w.alloc (.cells (ndCells n) 27)).alloc (.cells (askC kind key ptr) 39)) w.heap.size (ndCells n) 27 := (Blk.new w _ _).alloc _
  have hg0 : Blk ((w.alloc (.cells (ndCells n) 27)).alloc (.cells (askC kind key ptr) 39)) (w.heap.size + 1) (askC kind key ptr) 39 := by
    have := Blk.new (w.alloc (.cells (ndCells n) 27)) (askC kind key ptr) 39
    simpa using this
  have HL0 := Lib.hid (ndLoad hk0)
  have HB0 := Lib.hid (((Below.refl w.heap.size w).alloc (Nat.le_refl _) (.cells (ndCells n) 27)).alloc (by simp) (.cells (askC kind key ptr) 39))
  have HMd := Lib.hid (fun w => made_v base n kind key ptr w)
  obtain ⟨C, hC⟩ : ∃ l, madeC base n (kdOf kind) key ptr = l := ⟨_, rfl⟩
  rw [hC] at HMd hc
  have q1 : (C != 0) = true := bne_iff_ne.2 hc
  clear hk0 hg0 hC hc
  unfold askC at *
  go_enter Try.func5, Try.ntmps5
  go_wp2_with (with_reducible refine wpList_load_part (o := ⟨some 18, _, _, _, _, _⟩) rfl 27 _ rfl w.heap.size 0 rfl (ndCells n) _ HL0.out Try.underlying27 rfl HI.out ?_)
  refine (HMd.out _).mono ?_
  rintro e w1 ⟨a1, m1, c1, rfl, hm1, ho1, hB⟩
  have HB1 := Lib.hid (HB0.out.trans (hB.mono HB0.out.size))
  clear hB hm1 ho1
  go_wp2_with (fail)
  refine (known_v _).mono ?_
  rintro e w2 ⟨rfl, hB⟩
  have HB2 := Lib.hid (HB1.out.trans (hB.mono HB1.out.size))
  clear hB
  go_wp2_with (fail)
  go_ret
  exact ⟨rfl, HB2.out⟩

set_option maxRecDepth 100000 in
set_option maxHeartbeats 6400000 in
theorem holds_ok (base : Int) (n : Nd) (kind key ptr : Int) (w : World) (hc : madeC base n (kdOf kind) key ptr = 0) :
    Calls Try.prog 5 #[.int .u64 base, .agg (ndCells n), .agg (askC kind key ptr)] w fun e w' => e = .returned (.bool true) ∧ Below w.heap.size w w' := by
  have HT := Lib.hid (phS_start (traj_all (kdOf_lt kind) hc))
  have HWas := Lib.hid (show n.valid.length ≤ 100 ∧ (behL (kdOf kind) key ptr n.valid).length ≤ 100 from ⟨by have := plN_len n; simp [Nd.valid]; omega, by have := traj_now (traj_all (kdOf_lt kind) hc); omega⟩)
  have hS := made_stands (kdOf_lt kind) hc
  have hpos := made_pos (kdOf_lt kind) hc
  have HI := Lib.hid (info27 n)
  have hk0 : Blk ((w.alloc (.cells (ndCells n) 27)).alloc (.cells (askC kind key ptr) 39)) w.heap.size (ndCells n) 27 := (Blk.new w _ _).alloc _
  have hg0 : Blk ((w.alloc (.cells (ndCells n) 27)).alloc (.cells (askC kind key ptr) 39)) (w.heap.size + 1) (askC kind key ptr) 39 := by
    have := Blk.new (w.alloc (.cells (ndCells n) 27)) (askC kind key ptr) 39
    simpa using this
  have HK0 := Lib.hid hk0
  have HG0 := Lib.hid hg0
  have HL0 := Lib.hid (ndLoad hk0)
  have HB0 := Lib.hid (((Below.refl w.heap.size w).alloc (Nat.le_refl _) (.cells (ndCells n) 27)).alloc (by simp) (.cells (askC kind key ptr) 39))
  have HMd := Lib.hid (fun w => made_v base n kind key ptr w)
  have HVa := Lib.hid (fun w => rvalid_calls n w)
  have HBh := Lib.hid (fun w => behind_v n kind key ptr w)
  obtain ⟨Ls, hL⟩ : ∃ l, madeL base n (kdOf kind) key ptr = l := ⟨_, rfl⟩
  obtain ⟨was, hwas⟩ : ∃ l, n.valid = l := ⟨_, rfl⟩
  obtain ⟨now, hnow⟩ : ∃ l, behL (kdOf kind) key ptr was = l := ⟨_, rfl⟩
  rw [hwas] at HT HVa HBh HWas
  rw [hnow] at HT HBh HWas
  rw [hL] at HT HMd hpos
  rw [hc] at HMd
  have HS := Lib.hid hS
  have HLn := Lib.hid (show Ls.length ≤ 1000 by rw [← hL]; have := made_len9 base n (kdOf kind) key ptr; omega)
  clear hk0 hg0 hL hc hwas hnow hS
  unfold askC at *
  obtain ⟨w0, hw0⟩ : ∃ x, (w.alloc (.cells (ndCells n) 27)).alloc (.cells #[.int .i64 kind, .int .u64 key, .int .u64 ptr] 39) = x := ⟨_, rfl⟩
  have HB00 := Lib.hid (show w.heap.size < w0.heap.size by rw [← hw0]; simp; omega)
  have HW0 := Lib.hid hw0
  clear hw0
  go_enter Try.func5, Try.ntmps5
  go_wp2_with (with_reducible refine wpList_load_part (o := ⟨some 18, _, _, _, _, _⟩) rfl 27 _ rfl w.heap.size 0 rfl (ndCells n) _ HL0.out Try.underlying27 rfl HI.out ?_)
  rw [HW0.out] at HL0 HB0 HK0 HG0 ⊢
  refine (HMd.out _).mono ?_
  rintro e w1 ⟨a1, m1, cL, rfl, hm1, ho1, hB⟩
  have HB1 := Lib.hid (HB0.out.trans (hB.mono HB0.out.size))
  have HK1 := Lib.hid (HK0.out.below hB HK0.out.lt)
  have HG1 := Lib.hid (HG0.out.below hB HG0.out.lt)
  have HB01 := Lib.hid hB.size
  subst hm1
  obtain ⟨gL, cp, ev, hg1, hg2, _, _, hEL⟩ := own_ents ho1 rfl hpos
  cases ev
  have HEL := Lib.hid hEL
  have HgL := Lib.hid hg2
  have HgL2 := Lib.hid hg1
  clear hB ho1 hEL hg1 hg2 HMd HL0 HB0 HK0 HG0
  go_upto_region 4 with (fail)
  --GEN r_ho4
  refine wp_region_vals [Is (.agg (ndCells n)), RowV w1.heap.size was, Is (.agg (ndCells n)), Is (.agg #[.int .i64 kind, .int .u64 key, .int .u64 ptr]), RowV w1.heap.size now, RowV w1.heap.size was, RowV w1.heap.size now]
    (fun _ W W' => Below W.heap.size W W') (fun _ W => Below w1.heap.size w1 W) (by kernel_rfl) (by kernel_rfl) (by kernel_rfl) ?hst ?h0 ⟨?o0, ?o1, ?o2, ?o3, ?o4, ?o5, ?o6, trivial⟩ ?he
  case hst =>
    exact ⟨(fun _ _ _ _ _ _ h _ => h), (fun _ _ _ _ _ _ h hR => own_below h hR), (fun _ _ _ _ _ _ h _ => h), (fun _ _ _ _ _ _ h _ => h), (fun _ _ _ _ _ _ h hR => own_below h hR), (fun _ _ _ _ _ _ h hR => own_below h hR), (fun _ _ _ _ _ _ h hR => own_below h hR), trivial⟩
  case h0 =>
    exact (Below.refl _ _).drew
  case o0 =>
    intro L vs A W H hf hd K hK
    have e4 : A.tmps[4]?.getD undef = .pointer (some ⟨w.heap.size, 0, none⟩) := H.old 4 (by kernel_rfl)
    rw [if_pos (show Region.wanted _ _ = true from rfl)]
    exact wp_load_nd _ rfl w.heap.size n (ev_tmp e4) (HK1.out.below H.glob HK1.out.lt) (hK _ _ (Below.refl _ _) rfl H.glob)
  case o1 =>
    intro L vs A W H hf hd K hK
    have e26 := H.is 0 26 rfl rfl rfl (deps_of' hd 0 (by kernel_rfl)) (by kernel_rfl)
    rw [if_pos (show Region.wanted _ _ = true from rfl)]
    go_wp2_with (fail)
    refine (HVa.out _).mono ?_
    rintro e W2 ⟨v, rfl, hv, hB⟩
    exact hK _ _ hB (RowV.mono hv H.glob.size) (H.glob.trans (hB.mono H.glob.size))
  case o2 =>
    intro L vs A W H hf hd K hK
    have e4 : A.tmps[4]?.getD undef = .pointer (some ⟨w.heap.size, 0, none⟩) := H.old 4 (by kernel_rfl)
    rw [if_pos (show Region.wanted _ _ = true from rfl)]
    exact wp_load_nd _ rfl w.heap.size n (ev_tmp e4) (HK1.out.below H.glob HK1.out.lt) (hK _ _ (Below.refl _ _) rfl H.glob)
  case o3 =>
    intro L vs A W H hf hd K hK
    have e5 : A.tmps[5]?.getD undef = .pointer (some ⟨w.heap.size + 1, 0, none⟩) := H.old 5 (by kernel_rfl)
    have hg := HG1.out.below H.glob HG1.out.lt
    have d0 : W.cell? ⟨w.heap.size + 1, 0, none⟩ = some (.int .i64 kind) := by rw [hg.cell]; rfl
    have d1 : W.cell? ⟨w.heap.size + 1, 1, none⟩ = some (.int .u64 key) := by rw [hg.cell]; rfl
    have d2 : W.cell? ⟨w.heap.size + 1, 2, none⟩ = some (.int .u64 ptr) := by rw [hg.cell]; rfl
    go_simp
    exact hK _ _ (Below.refl _ _) rfl (H.glob)
  case o4 =>
    intro L vs A W H hf hd K hK
    have e28 := H.is 2 28 rfl rfl rfl (deps_of' hd 2 (by kernel_rfl)) (by kernel_rfl)
    have e29 := H.is 3 29 rfl rfl rfl (deps_of' hd 3 (by kernel_rfl)) (by kernel_rfl)
    rw [if_pos (show Region.wanted _ _ = true from rfl)]
    go_wp2_with (fail)
    refine (HBh.out _).mono ?_
    rintro e W2 ⟨v, rfl, hv, hB⟩
    exact hK _ _ hB (RowV.mono hv H.glob.size) (H.glob.trans (hB.mono H.glob.size))
  case o5 =>
    intro L vs A W H hf hd K hK
    obtain ⟨v27, e27, q27⟩ := H.val 1 27 rfl rfl rfl (deps_of' hd 1 (by kernel_rfl)) (by kernel_rfl)
    rw [if_pos (show Region.wanted _ _ = true from rfl)]
    go_simp
    exact hK _ _ (Below.refl _ _) q27 H.glob
  case o6 =>
    intro L vs A W H hf hd K hK
    obtain ⟨v30, e30, q30⟩ := H.val 4 30 rfl rfl rfl (deps_of' hd 4 (by kernel_rfl)) (by kernel_rfl)
    rw [if_pos (show Region.wanted _ _ = true from rfl)]
    go_simp
    exact hK _ _ (Below.refl _ _) q30 H.glob
  case he =>
    intro vs W hlen hv
    match vs, hlen, hv with
    | [x0_, x1_, x2_, x3_, x4_, x5_, x6_], _, hv =>
    obtain rfl : (.agg (ndCells n)) = x0_ := by obtain ⟨z, h1, h2⟩ := hv 0 _ rfl; cases h1; exact h2.symm
    have hx1 : (RowV w1.heap.size was) x1_ W := by obtain ⟨z, h1, h2⟩ := hv 1 _ rfl; cases h1; exact h2
    obtain rfl : (.agg (ndCells n)) = x2_ := by obtain ⟨z, h1, h2⟩ := hv 2 _ rfl; cases h1; exact h2.symm
    obtain rfl : (.agg #[.int .i64 kind, .int .u64 key, .int .u64 ptr]) = x3_ := by obtain ⟨z, h1, h2⟩ := hv 3 _ rfl; cases h1; exact h2.symm
    have hx4 : (RowV w1.heap.size now) x4_ W := by obtain ⟨z, h1, h2⟩ := hv 4 _ rfl; cases h1; exact h2
    have hx5 : (RowV w1.heap.size was) x5_ W := by obtain ⟨z, h1, h2⟩ := hv 5 _ rfl; cases h1; exact h2
    have hx6 : (RowV w1.heap.size now) x6_ W := by obtain ⟨z, h1, h2⟩ := hv 6 _ rfl; cases h1; exact h2
    intro L hall hG
    clear hv hlen
    obtain ⟨v1, rfl⟩ : ∃ v, v = x5_ := ⟨_, rfl⟩
    obtain ⟨v2, rfl⟩ : ∃ v, v = x6_ := ⟨_, rfl⟩
    have HW := Lib.hid (show HoW w w0.heap.size w.heap.size gL Ls v1 v2 was now n W from ⟨HK1.out.below hG HK1.out.lt, HEL.out.below hG HgL.out, hx5.mono HB01.out, hx6.mono HB01.out, HB1.out.trans (hG.mono HB1.out.size), Nat.le_refl _, HB00.out, HgL2.out⟩)
    clear hG hall hx1 hx4 hx5 hx6
    simp only [fill, if_true]
    go_simp
  --END
    obtain ⟨b4, hb4⟩ : ∃ x, w.heap.size = x := ⟨_, rfl⟩
    rw [hb4] at HW ⊢
    clear hb4 HK1 HG1 HEL HB1 HVa HBh HB01 HgL HgL2 HB00
    have HKn := Lib.hid (fun w => known_v w)
    go_wp2_with (fail)
    go_loopw [11, 12] (fun dv iv wr => HoRel base w w0.heap.size b4 gL Ls v1 v2 was now dv iv wr) (fun _ iv _ => Ls.length - (intOf iv).toNat)
    case atStart => exact ⟨0, n, false, Nat.zero_le _, rfl, rfl, HT.out, HW.out⟩
    case round =>
      obtain ⟨k, m, d, hk, rfl, rfl, hP, hW⟩ := hrel
      clear HW HT HI
      have HP := Lib.hid hP
      have HW := Lib.hid hW
      clear hP hW
      by_cases hlt : k < Ls.length
      · have b1 : (k : Int) < (Ls.length : Int) := by omega
        have b2 : ((k : Int)).toNat = k := by omega
        have HLt := Lib.hid hlt
        have hls := HLn.out
        obtain ⟨c1, c2⟩ := HW.out.l k hlt
        have hp2 := HP.out
        rw [drop_ent Ls hlt] at hp2
        obtain ⟨at_, hat⟩ : ∃ x, eK Ls k = x := ⟨_, rfl⟩
        obtain ⟨x, hx⟩ : ∃ x, eP Ls k = x := ⟨_, rfl⟩
        rw [hat, hx] at hp2
        rw [hat, Nat.zero_add] at c1
        rw [hx, Nat.zero_add] at c2
        obtain ⟨m', hput, hmay, hways⟩ := phS_step hp2
        have hput : putA base m at_ x = some m' := hput
        have HAp := Lib.hid (show ∀ w, Calls Try.prog 11 #[.int .u64 base, .agg (ndCells m), .agg #[.int .u64 at_, .int .u64 x]] w fun e w' => MkP m' 0 w e w' from fun w => by
          have := rapply_v base m at_ x w HS.out
          unfold putV at this
          rwa [hput] at this)
        have HgW := Lib.hid (show gL < wr.heap.size from HW.out.l.lt (by omega))
        have HMy := Lib.hid (show ∀ w, Calls Try.prog 17 #[.agg (ndCells m'), .int .u64 0, .bool false] w fun e W' => e = .returned (.bool true) ∧ Below w.heap.size w W' from fun w => by have := rmay_calls m' 0 false w; rwa [hmay] at this)
        have HVm := Lib.hid (fun w => rvalid_calls m' w)
        have HWays := Lib.hid hways
        have HI' := Lib.hid (info27 m')
        clear hat hx hp2 hput hmay hways
        go_upto_region 9 with (fail)
        --GEN r_ho9
        refine wp_region_valsA [Is (.int .u64 base), Is (.agg (ndCells m)), Is (.slice (some ⟨gL, 0, none⟩) Ls.length cL), Is (.int .i64 k), Is (.pointer (some ⟨gL, k * 2, none⟩)), Is (.agg #[.int .u64 at_, .int .u64 x]), Is (.tuple #[.agg (ndCells m'), .int .i64 0]), Is (.tuple #[.agg (ndCells m'), .int .i64 0]), Is (.agg (ndCells m')), Is (.int .i64 0), Any, Any, Is (.int .i64 0)]
          (fun _ W W' => Below wr.heap.size W W') (fun L a W => Below wr.heap.size wr W ∧ NewG wr.heap.size 13 10 11 m' L a W) (by kernel_rfl) (by kernel_rfl) (by kernel_rfl) ?hst ?h0 ⟨?o0, ?o1, ?o2, ?o3, ?o4, ?o5, ?o6, ?o7, ?o8, ?o9, ?o10, ?o11, ?o12, trivial⟩ ?he
        case hst =>
          exact ⟨(fun _ _ _ _ _ _ h _ => h), (fun _ _ _ _ _ _ h _ => h), (fun _ _ _ _ _ _ h _ => h), (fun _ _ _ _ _ _ h _ => h), (fun _ _ _ _ _ _ h _ => h), (fun _ _ _ _ _ _ h _ => h), (fun _ _ _ _ _ _ h _ => h), (fun _ _ _ _ _ _ h _ => h), (fun _ _ _ _ _ _ h _ => h), (fun _ _ _ _ _ _ h _ => h), (fun _ _ _ _ _ _ h _ => h), (fun _ _ _ _ _ _ h _ => h), (fun _ _ _ _ _ _ h _ => h), trivial⟩
        case h0 =>
          exact ⟨(Below.refl _ _).drew, NewG.none⟩
        case o0 =>
          intro L vs A W H hf hd K hK
          have e0 : A.tmps[0]?.getD undef = .int .u64 base := H.old 0 (by kernel_rfl)
          go_simp
          exact hK _ _ (Below.refl _ _) rfl (⟨H.glob.1, H.glob.2.keep rfl rfl (by simp) (Below.refl _ _)⟩)
        case o1 =>
          intro L vs A W H hf hd K hK
          have e4 : A.tmps[4]?.getD undef = .pointer (some ⟨b4, 0, none⟩) := H.old 4 (by kernel_rfl)
          rw [if_pos (show Region.wanted _ _ = true from rfl)]
          exact wp_load_nd _ rfl b4 m (ev_tmp e4) (HW.out.n.below H.glob.1 HW.out.n.lt) (hK _ _ (Below.refl _ _) rfl ⟨H.glob.1, H.glob.2.keep rfl rfl (by simp) (Below.refl _ _)⟩)
        case o2 =>
          intro L vs A W H hf hd K hK
          have e7 : A.tmps[7]?.getD undef = .slice (some ⟨gL, 0, none⟩) Ls.length cL := H.old 7 (by kernel_rfl)
          go_simp
          exact hK _ _ (Below.refl _ _) rfl (⟨H.glob.1, H.glob.2.keep rfl rfl (by simp) (Below.refl _ _)⟩)
        case o3 =>
          intro L vs A W H hf hd K hK
          have e12 : A.tmps[12]?.getD undef = .int .i64 k := H.old 12 (by kernel_rfl)
          go_simp
          exact hK _ _ (Below.refl _ _) rfl (⟨H.glob.1, H.glob.2.keep rfl rfl (by simp) (Below.refl _ _)⟩)
        case o4 =>
          intro L vs A W H hf hd K hK
          have e40 := H.is 2 40 rfl rfl rfl (deps_of' hd 2 (by kernel_rfl)) (by kernel_rfl)
          have e41 := H.is 3 41 rfl rfl rfl (deps_of' hd 3 (by kernel_rfl)) (by kernel_rfl)
          go_simp
          exact hK _ _ (Below.refl _ _) rfl (⟨H.glob.1, H.glob.2.keep rfl rfl (by simp) (Below.refl _ _)⟩)
        case o5 =>
          intro L vs A W H hf hd K hK
          have e42 := H.is 4 42 rfl rfl rfl (deps_of' hd 4 (by kernel_rfl)) (by kernel_rfl)
          have d1 := (H.glob.1.cell (p := ⟨gL, k * 2, none⟩) HgW.out).trans c1
          have d2 := (H.glob.1.cell (p := ⟨gL, k * 2 + 1, none⟩) HgW.out).trans c2
          go_simp
          exact hK _ _ (Below.refl _ _) rfl (⟨H.glob.1, H.glob.2.keep rfl rfl (by simp) (Below.refl _ _)⟩)
        case o6 =>
          intro L vs A W H hf hd K hK
          have e38 := H.is 0 38 rfl rfl rfl (deps_of' hd 0 (by kernel_rfl)) (by kernel_rfl)
          have e39 := H.is 1 39 rfl rfl rfl (deps_of' hd 1 (by kernel_rfl)) (by kernel_rfl)
          have e43 := H.is 5 43 rfl rfl rfl (deps_of' hd 5 (by kernel_rfl)) (by kernel_rfl)
          rw [if_pos (show Region.wanted _ _ = true from rfl)]
          go_wp2_with (fail)
          refine (HAp.out _).mono ?_
          rintro e W2 ⟨rfl, hB⟩
          exact hK _ _ (hB.mono H.glob.1.size) rfl ⟨H.glob.1.trans (hB.mono H.glob.1.size), H.glob.2.keep rfl rfl (by simp) hB⟩
        case o7 =>
          intro L vs A W H hf hd K hK
          have e44 := H.is 6 44 rfl rfl rfl (deps_of' hd 6 (by kernel_rfl)) (by kernel_rfl)
          go_simp
          exact hK _ _ (Below.refl _ _) rfl (⟨H.glob.1, H.glob.2.keep rfl rfl (by simp) (Below.refl _ _)⟩)
        case o8 =>
          intro L vs A W H hf hd K hK
          have e37 := H.is 7 37 rfl rfl rfl (deps_of' hd 7 (by kernel_rfl)) (by kernel_rfl)
          go_simp
          exact hK _ _ (Below.refl _ _) rfl (⟨H.glob.1, H.glob.2.keep rfl rfl (by simp) (Below.refl _ _)⟩)
        case o9 =>
          intro L vs A W H hf hd K hK
          have e37 := H.is 7 37 rfl rfl rfl (deps_of' hd 7 (by kernel_rfl)) (by kernel_rfl)
          go_simp
          exact hK _ _ (Below.refl _ _) rfl (⟨H.glob.1, H.glob.2.keep rfl rfl (by simp) (Below.refl _ _)⟩)
        case o10 =>
          intro L vs A W H hf hd K hK
          rw [if_pos (show Region.wanted _ _ = true from rfl)]
          have n11 := H.notYet 11 10 rfl hf (by kernel_rfl)
          have hgs := H.glob.1.size
          have hz : 13 < A.tmps.size := by rw [H.frame, fill_size]; exact of_decide_eq_true (by kernel_rfl)
          refine wp_alloc_nd rfl ?_
          exact hK _ _ ((Below.refl _ _).alloc hgs _) trivial ⟨H.glob.1.alloc hgs _, newG_alloc hz hgs n11 (by decide)⟩
        case o11 =>
          intro L vs A W H hf hd K hK
          obtain ⟨v13, e13, q13⟩ := H.val 10 13 rfl rfl rfl (deps_of' hd 10 (by kernel_rfl)) (by kernel_rfl)
          have e45 := H.is 8 45 rfl rfl rfl (deps_of' hd 8 (by kernel_rfl)) (by kernel_rfl)
          rw [if_pos (show Region.wanted _ _ = true from rfl)]
          have h10 : L 10 = true := deps_of' hd 10 (by kernel_rfl)
          obtain ⟨H2, x2, e13, hH, hb, _⟩ := H.glob.2 h10
          exact wp_store_nd _ _ rfl H2 m' x2 (ev_tmp e13) (ev_tmp e45) hb (hK _ _ (below_setRow (Below.refl _ _) hH _) trivial ⟨below_setRow H.glob.1 hH _, fun _ => ⟨H2, m', e13, hH, hb.row _, fun _ => rfl⟩⟩)
        case o12 =>
          intro L vs A W H hf hd K hK
          have e46 := H.is 9 46 rfl rfl rfl (deps_of' hd 9 (by kernel_rfl)) (by kernel_rfl)
          go_simp
          exact hK _ _ (Below.refl _ _) rfl (⟨H.glob.1, H.glob.2.keep rfl rfl (by simp) (Below.refl _ _)⟩)
        case he =>
          intro vs W hlen hv
          match vs, hlen, hv with
          | [x0_, x1_, x2_, x3_, x4_, x5_, x6_, x7_, x8_, x9_, x10_, x11_, x12_], _, hv =>
          obtain rfl : (.int .u64 base) = x0_ := by obtain ⟨z, h1, h2⟩ := hv 0 _ rfl; cases h1; exact h2.symm
          obtain rfl : (.agg (ndCells m)) = x1_ := by obtain ⟨z, h1, h2⟩ := hv 1 _ rfl; cases h1; exact h2.symm
          obtain rfl : (.slice (some ⟨gL, 0, none⟩) Ls.length cL) = x2_ := by obtain ⟨z, h1, h2⟩ := hv 2 _ rfl; cases h1; exact h2.symm
          obtain rfl : (.int .i64 k) = x3_ := by obtain ⟨z, h1, h2⟩ := hv 3 _ rfl; cases h1; exact h2.symm
          obtain rfl : (.pointer (some ⟨gL, k * 2, none⟩)) = x4_ := by obtain ⟨z, h1, h2⟩ := hv 4 _ rfl; cases h1; exact h2.symm
          obtain rfl : (.agg #[.int .u64 at_, .int .u64 x]) = x5_ := by obtain ⟨z, h1, h2⟩ := hv 5 _ rfl; cases h1; exact h2.symm
          obtain rfl : (.tuple #[.agg (ndCells m'), .int .i64 0]) = x6_ := by obtain ⟨z, h1, h2⟩ := hv 6 _ rfl; cases h1; exact h2.symm
          obtain rfl : (.tuple #[.agg (ndCells m'), .int .i64 0]) = x7_ := by obtain ⟨z, h1, h2⟩ := hv 7 _ rfl; cases h1; exact h2.symm
          obtain rfl : (.agg (ndCells m')) = x8_ := by obtain ⟨z, h1, h2⟩ := hv 8 _ rfl; cases h1; exact h2.symm
          obtain rfl : (.int .i64 0) = x9_ := by obtain ⟨z, h1, h2⟩ := hv 9 _ rfl; cases h1; exact h2.symm
          obtain rfl : (.int .i64 0) = x12_ := by obtain ⟨z, h1, h2⟩ := hv 12 _ rfl; cases h1; exact h2.symm
          intro L hall hG
          clear hv hlen
          obtain ⟨H2, x2, e13, hH, hb, hx⟩ := hG.2 (hall 10 (by decide))
          have hb2 : Blk W H2 (ndCells m') 27 := by rw [← hx (hall 11 (by decide))]; exact hb
          simp [fill, Act.put] at e13
          subst e13
          have HH := Lib.hid hb2
          have HW2 := Lib.hid (HW.out.keep hG.1)
          have HwH := Lib.hid hH
          clear hG hall hx hH hb hb2 c1 c2
          simp only [fill, if_true]
          go_simp
        --END
          have HLh := Lib.hid (ndLoad HH.out)
          go_wp2_with ((with_reducible refine wpList_load_gd (o := ⟨some 50, .load 27 (.tmp 13), _, _, _, _⟩) 27 (.tmp 13) ?hoq H2 0 ?hxq (ndCells m') _ HLh.out Try.underlying27 rfl HI'.out ?hwq ?_); (case hoq => rfl); (case hxq => rfl); (case hwq => rfl))
          refine (HMy.out _).mono ?_
          rintro e w3 ⟨rfl, hB⟩
          have HW3 := Lib.hid (HW2.out.keep hB)
          have HH3 := Lib.hid (HH.out.below hB HH.out.lt)
          have HLh3 := Lib.hid (ndLoad HH3.out)
          clear hB HLh HH HW2 HMy
          have hv8 : m'.valid.length ≤ 100 := by have := plN_len m'; simp [Nd.valid]; omega
          have HSw := Lib.hid (fun (v : Value) (B1 : Nat) (W : World) (h1 : W.ownsRow B1 60 2 v m'.valid.length (ecells m'.valid)) (h2 : RowV w0.heap.size was v1 W) => rsame_calls m'.valid was v v1 B1 w0.heap.size W (by omega) h1 h2)
          have HSn := Lib.hid (fun (v : Value) (B1 : Nat) (W : World) (h1 : W.ownsRow B1 60 2 v m'.valid.length (ecells m'.valid)) (h2 : RowV w0.heap.size now v2 W) => rsame_calls m'.valid now v v2 B1 w0.heap.size W (by omega) h1 h2)
          clear hv8
          rcases HWays.out with ⟨rfl, hsb, hP2⟩ | ⟨rfl, hsb, hsn, hP2⟩ | ⟨rfl, hsn, hP2⟩
          · rw [hsb] at HSw
            have HP2 := Lib.hid hP2
            clear hsb hP2 HWays
            go_upto_region 12 with (fail)
            go_upto_region 13 with (first | (with_reducible refine wpList_load_part (o := ⟨some 54, _, _, _, _, _⟩) rfl 27 _ rfl H2 0 rfl (ndCells m') _ HLh3.out Try.underlying27 rfl HI'.out ?_) | ((with_reducible refine wpList_store_ndc (o := ⟨none, .store 27 (.tmp 4) (.tmp 54), _, _, _, _⟩) ?hga (.tmp 4) (.tmp 54) ?hoa b4 ?csa m' m ?hxa ?hya HW3.out.n ?hma ?_); (case hga => rfl); (case hoa => rfl); (case hxa => rfl); (case hya => rfl); (case hma => rfl)))
            have HW4 := Lib.hid (HoW.set (m' := m') HW3.out)
            generalize w3.setRow b4 (ndCells m') = w4 at *
            go_simp
            have HL4 := Lib.hid (ndLoad HW4.out.n)
            go_wp2_with (with_reducible refine wpList_load_part (o := ⟨some 55, _, _, _, _, _⟩) rfl 27 _ rfl b4 0 rfl (ndCells m') _ HL4.out Try.underlying27 rfl HI'.out ?_)
            refine (HVm.out _).mono ?_
            rintro e w5 ⟨v5, rfl, hv5, hB⟩
            have HW5 := Lib.hid (HW4.out.keep hB)
            have HV5 := Lib.hid hv5
            clear hv5 hB HL4
            go_wp2_with (fail)
            refine (HSw.out _ _ _ HV5.out HW5.out.r1).mono ?_
            rintro e w6 ⟨rfl, hB⟩
            have HW6 := Lib.hid (HW5.out.keep hB)
            have hB6 := hB
            clear hB
            go_wp2_with (fail)
            go_roundw
            case rel => exact ⟨k + 1, m', false, by have := HLt.out; omega, by go_num, rfl, HP2.out, HW6.out⟩
            case measure => simp [intOf]; have := HLt.out; omega
          · rw [hsb] at HSw
            rw [hsn] at HSn
            have HP2 := Lib.hid hP2
            clear hsb hsn hP2 HWays
            go_upto_region 12 with (fail)
            go_upto_region 13 with (first | (with_reducible refine wpList_load_part (o := ⟨some 54, _, _, _, _, _⟩) rfl 27 _ rfl H2 0 rfl (ndCells m') _ HLh3.out Try.underlying27 rfl HI'.out ?_) | ((with_reducible refine wpList_store_ndc (o := ⟨none, .store 27 (.tmp 4) (.tmp 54), _, _, _, _⟩) ?hgb (.tmp 4) (.tmp 54) ?hob b4 ?csb m' m ?hxb ?hyb HW3.out.n ?hmb ?_); (case hgb => rfl); (case hob => rfl); (case hxb => rfl); (case hyb => rfl); (case hmb => rfl)))
            have HW4 := Lib.hid (HoW.set (m' := m') HW3.out)
            generalize w3.setRow b4 (ndCells m') = w4 at *
            go_simp
            have HL4 := Lib.hid (ndLoad HW4.out.n)
            go_wp2_with (with_reducible refine wpList_load_part (o := ⟨some 55, _, _, _, _, _⟩) rfl 27 _ rfl b4 0 rfl (ndCells m') _ HL4.out Try.underlying27 rfl HI'.out ?_)
            refine (HVm.out _).mono ?_
            rintro e w5 ⟨v5, rfl, hv5, hB⟩
            have HW5 := Lib.hid (HW4.out.keep hB)
            have HV5 := Lib.hid hv5
            clear hv5 hB HL4
            go_wp2_with (fail)
            refine (HSw.out _ _ _ HV5.out HW5.out.r1).mono ?_
            rintro e w6 ⟨rfl, hB⟩
            have HW6 := Lib.hid (HW5.out.keep hB)
            have hB6 := hB
            clear hB
            have HV6 := Lib.hid (own_below HV5.out hB6)
            go_wp2_with (fail)
            refine (HSn.out _ _ _ HV6.out HW6.out.r2).mono ?_
            rintro e w7 ⟨rfl, hB⟩
            have HW7 := Lib.hid (HW6.out.keep hB)
            clear hB
            go_wp2_with (fail)
            go_roundw
            case rel => exact ⟨k + 1, m', true, by have := HLt.out; omega, by go_num, rfl, HP2.out, HW7.out⟩
            case measure => simp [intOf]; have := HLt.out; omega
          · rw [hsn] at HSn
            have HP2 := Lib.hid hP2
            clear hsn hP2 HWays
            go_upto_region 12 with (fail)
            go_upto_region 13 with (first | (with_reducible refine wpList_load_part (o := ⟨some 54, _, _, _, _, _⟩) rfl 27 _ rfl H2 0 rfl (ndCells m') _ HLh3.out Try.underlying27 rfl HI'.out ?_) | ((with_reducible refine wpList_store_ndc (o := ⟨none, .store 27 (.tmp 4) (.tmp 54), _, _, _, _⟩) ?hgc (.tmp 4) (.tmp 54) ?hoc b4 ?csc m' m ?hxc ?hyc HW3.out.n ?hmc ?_); (case hgc => rfl); (case hoc => rfl); (case hxc => rfl); (case hyc => rfl); (case hmc => rfl)))
            have HW4 := Lib.hid (HoW.set (m' := m') HW3.out)
            generalize w3.setRow b4 (ndCells m') = w4 at *
            go_simp
            have HL4 := Lib.hid (ndLoad HW4.out.n)
            go_wp2_with (with_reducible refine wpList_load_part (o := ⟨some 55, _, _, _, _, _⟩) rfl 27 _ rfl b4 0 rfl (ndCells m') _ HL4.out Try.underlying27 rfl HI'.out ?_)
            refine (HVm.out _).mono ?_
            rintro e w5 ⟨v5, rfl, hv5, hB⟩
            have HW5 := Lib.hid (HW4.out.keep hB)
            have HV5 := Lib.hid hv5
            clear hv5 hB HL4
            go_wp2_with (fail)
            refine (HSn.out _ _ _ HV5.out HW5.out.r2).mono ?_
            rintro e w6 ⟨rfl, hB⟩
            have HW6 := Lib.hid (HW5.out.keep hB)
            have hB6 := hB
            clear hB
            go_wp2_with (fail)
            go_roundw
            case rel => exact ⟨k + 1, m', true, by have := HLt.out; omega, by go_num, rfl, HP2.out, HW6.out⟩
            case measure => simp [intOf]; have := HLt.out; omega
      · have hkl : Ls.drop k = [] := List.drop_eq_nil_of_le (by omega)
        have hp := HP.out
        rw [hkl] at hp
        obtain ⟨e1, e2, _⟩ := phS_done hp
        have HVm := Lib.hid (show ∀ w, Calls Try.prog 15 #[.agg (ndCells m)] w fun e W' => ∃ v, e = .returned v ∧ W'.ownsRow w.heap.size 60 2 v now.length (ecells now) ∧ Below w.heap.size w W' from fun w => by have := rvalid_calls m w; rwa [e1] at this)
        have HIv := Lib.hid (show ∀ w, Calls Try.prog 19 #[.agg (ndCells m)] w fun e W' => e = .returned (.int .i64 (-1)) ∧ Below w.heap.size w W' from fun w => by have := rinvalid_calls m w; rwa [e2] at this)
        have HSn := Lib.hid (fun (v : Value) (B1 : Nat) (W : World) (h1 : W.ownsRow B1 60 2 v now.length (ecells now)) (h2 : RowV w0.heap.size now v2 W) => show Calls Try.prog 18 #[v, v2] W fun e W' => e = .returned (.bool true) ∧ Below W.heap.size W W' from by have := rsame_calls now now v v2 B1 w0.heap.size W (by have := HWas.out.2; omega) h1 h2; rwa [beq_self_eq_true] at this)
        have HI' := Lib.hid (info27 m)
        have HLm := Lib.hid (ndLoad HW.out.n)
        have b1 : ¬ (k : Int) < (Ls.length : Int) := by omega
        clear hkl hp e1 e2
        go_wp2_with (with_reducible refine wpList_load_part (o := ⟨some 72, _, _, _, _, _⟩) rfl 27 _ rfl b4 0 rfl (ndCells m) _ HLm.out Try.underlying27 rfl HI'.out ?_)
        refine (HVm.out _).mono ?_
        rintro e w3 ⟨v3, rfl, hv3, hB⟩
        have HW3 := Lib.hid (HW.out.keep hB)
        have HV3 := Lib.hid hv3
        clear hB hv3
        go_wp2_with (fail)
        refine (HSn.out _ _ _ HV3.out HW3.out.r2).mono ?_
        rintro e w4 ⟨rfl, hB⟩
        have HW4 := Lib.hid (HW3.out.keep hB)
        have HL4 := Lib.hid (ndLoad HW4.out.n)
        clear hB
        go_wp2_with ((with_reducible refine wpList_load_gd (o := ⟨some 77, .load 27 (.tmp 4), _, _, _, _⟩) 27 (.tmp 4) ?hor b4 0 ?hxr (ndCells m) _ HL4.out Try.underlying27 rfl HI'.out ?hwr ?_); (case hor => rfl); (case hxr => rfl); (case hwr => rfl))
        refine (HIv.out _).mono ?_
        rintro e w5 ⟨rfl, hB⟩
        have HW5 := Lib.hid (HW4.out.keep hB)
        clear hB
        go_wp2_with (fail)
        refine (HKn.out _).mono ?_
        rintro e w6 ⟨rfl, hB⟩
        have HB6 := Lib.hid (HW5.out.b.trans (hB.mono HW5.out.b.size))
        clear hB
        go_wp2_with (fail)
        go_ret
        exact ⟨rfl, HB6.out⟩

theorem holds_law (base : Int) (n : Nd) (kind key ptr : Int) (w : World) :
    Calls Try.prog 5 #[.int .u64 base, .agg (ndCells n), .agg (askC kind key ptr)] w fun e w' => e = .returned (.bool true) ∧ Below w.heap.size w w' := by
  by_cases hc : madeC base n (kdOf kind) key ptr = 0
  · exact holds_ok base n kind key ptr w hc
  · exact holds_err base n kind key ptr w hc
end Go.Proofs.Ytbpaefhihdhdeaa
namespace Go.Proofs.Ytbpaefhihdhdeaa
open Go.RowKit
set_option linter.unusedVariables false

theorem Stay.apply {base : Int} {v : List (Int × Int)} : ∀ {L : List (Int × Int)} {m m' : Nd}, Stay base v m L m' → applyL base m L = some m'
  | [], m, m', h => by cases h; rfl
  | s :: r, m, m', ⟨q, a, _, _, d⟩ => by
    unfold applyL
    rw [a]
    exact Stay.apply d
theorem putA_addr {base : Int} {m q : Nd} {at_ x : Int} (h : putA base m at_ x = some q) : base ≤ at_ ∧ at_ < base + 192 := by
  unfold putA at h
  split at h
  · cases h
  · rename_i h1; omega
theorem Stay.addr {base : Int} {v : List (Int × Int)} : ∀ {L : List (Int × Int)} {m m' : Nd}, Stay base v m L m' → ∀ s ∈ L, base ≤ s.1 ∧ s.1 < base + 192
  | [], m, m', _, s, hs => by cases hs
  | t :: r, m, m', ⟨q, a, _, _, d⟩, s, hs => by
    rcases List.mem_cons.1 hs with rfl | hs
    · exact putA_addr a
    · exact Stay.addr d s hs
theorem traj_apply {base : Int} {n : Nd} {was now L : List (Int × Int)} {e : Option Nat} (h : Traj base n was now L e) : ∃ m3, applyL base n L = some m3 ∧ Full m3 now ∧ Fine m3 now ∧ ∀ s ∈ L, base ≤ s.1 ∧ s.1 < base + 192 := by
  cases e with
  | none =>
    obtain ⟨m3, a, _, b, c⟩ := h
    exact ⟨m3, a.apply, b, c, a.addr⟩
  | some t =>
    obtain ⟨L1, s, L2, m1, m2, m3, rfl, _, h1, h2, _, _, _, h5, h6, h7⟩ := h
    refine ⟨m3, ?_, h6, h7, fun x hx => ?_⟩
    · rw [applyL_append, h1.apply]
      show applyL base m1 (s :: L2) = _
      unfold applyL
      rw [h2]
      exact h5.apply
    · rcases List.mem_append.1 hx with hx | hx
      · exact h1.addr x hx
      · rcases List.mem_cons.1 hx with rfl | hx
        · exact putA_addr h2
        · exact h5.addr x hx
/-- a change's stores, applied -/
theorem apply_traj {base : Int} {n : Nd} {was now L : List (Int × Int)} {e : Option Nat} (h : Traj base n was now L e) (hS : Stands base) (hn : L.length ≤ 1000) :
    ∃ m3, Full m3 now ∧ Fine m3 now ∧ ∀ (a : Option Addr) (c b : Nat) (w : World), w.ownsRow b 36 2 (.slice a L.length c) L.length (ecells L) → Calls Try.prog 10 #[.int .u64 base, .agg (ndCells n), .slice a L.length c] w fun e w' => MkP m3 0 w e w' := by
  obtain ⟨m3, h1, h2, h3, h4⟩ := traj_apply h
  refine ⟨m3, h2, h3, fun a c b w ho => ?_⟩
  have := apply_any base n L a c b w (by omega) ho (fun i hi => by
    obtain ⟨q1, q2⟩ := h4 _ (ent_mem hi)
    obtain ⟨s1, s2, _⟩ := hS
    simp only at q1 q2
    omega)
  unfold appV standsB at this
  rw [if_pos (decide_eq_true hS)] at this
  unfold applyV at this
  rw [h1] at this
  exact this
theorem rep_code {base : Int} {m : Nd} (hS : Stands base) (hm : m.mayB 0 false = true) (hi : 0 ≤ m.invalid) : repE base m = 0 := by
  have h7 : mayE base m = 7 := by unfold mayE; rw [if_pos ⟨hS, hm⟩, if_pos hi]
  unfold repE
  rw [h7]; rfl
theorem rep_len (base : Int) (m : Nd) : (repP base m).length ≤ 18 := by
  have h8 := m.len_le
  unfold repP
  split
  · unfold repL; simp only [List.length_append, gapL_len]; simp; omega
  · simp
/-- the node that a change that is made is made of may be -/
theorem made_may {base : Int} {n : Nd} {kd key ptr : Int} (hk : kd = 0 ∨ kd = 1 ∨ kd = 2 ∨ kd = 3 ∨ kd = 4 ∨ kd = 5) (hc : madeC base n kd key ptr = 0) : n.mayB 0 false = true := by
  have of0 : mayE base n = 0 → n.mayB 0 false = true := fun h => (mayE_stands h).2.1
  rcases hk with rfl | rfl | rfl | rfl | rfl | rfl
  · exact of0 (insE_parts (show insE base n key ptr = 0 from hc)).1
  · have hE : delE base n key = 0 := hc
    unfold delE at hE
    split at hE
    · omega
    · exact of0 (by omega)
  · have hE : repE base n = 0 := hc
    rcases mayE_val base n with h | h | h
    · exact of0 h
    · unfold repE at hE; rw [if_pos h] at hE; omega
    · exact h.2.2.1
  · exact of0 (swapE_parts (show swapE base n key ptr = 0 from hc)).1
  · have hE : cutE base n key = 0 := hc
    unfold cutE at hE
    split at hE
    · omega
    · exact of0 (by omega)
  · exact of0 hc
end Go.Proofs.Ytbpaefhihdhdeaa
namespace Go.Proofs.Ytbpaefhihdhdeaa
open Go.RowKit

def wdList (f : Nat → Int) : List Value := (List.range 24).map (fun i => Value.int .u64 (f i))
def wdCells (f : Nat → Int) : Array Value := (wdList f).toArray
theorem wdList_get (f : Nat → Int) (i : Nat) : (wdList f)[i]? = if i < 24 then some (.int .u64 (f i)) else none := by
  unfold wdList
  by_cases h : i < 24 <;> simp [h]
theorem wdList_len (f : Nat → Int) : (wdList f).length = 24 := by simp [wdList]
theorem wdCells_size (f : Nat → Int) : (wdCells f).size = 24 := by simp [wdCells, wdList_len]
theorem wdCells_get (f : Nat → Int) (i : Nat) (h : i < 24) : (wdCells f)[i]? = some (.int .u64 (f i)) := by
  unfold wdCells; simp [wdList_get, h]
def wset (f : Nat → Int) (i : Nat) (x : Int) : Nat → Int := fun j => if j = i then x else f j
theorem wdCells_set (f : Nat → Int) (i : Nat) (x : Int) : (wdCells f).setIfInBounds i (.int .u64 x) = wdCells (wset f i x) := by
  apply Array.ext_getElem?
  intro j
  rcases Nat.lt_or_ge j 24 with hj | hj
  · rw [wdCells_get _ _ hj]
    by_cases e : i = j
    · subst e
      rw [Array.getElem?_setIfInBounds_self_of_lt (by rw [wdCells_size]; exact hj)]
      simp [wset]
    · rw [Array.getElem?_setIfInBounds_ne e, wdCells_get _ _ hj]
      unfold wset; rw [if_neg (fun h => e h.symm)]
  · rw [Array.getElem?_eq_none (by rw [Array.size_setIfInBounds, wdCells_size]; exact hj), Array.getElem?_eq_none (by rw [wdCells_size]; exact hj)]
theorem wdCells_one (f : Nat → Int) : (wdCells f).all (·.oneCell') = true := by
  rw [Array.all_eq_true_iff_forall_mem]
  intro v hv
  unfold wdCells wdList at hv
  simp only [List.mem_toArray, List.mem_map] at hv
  obtain ⟨_, _, rfl⟩ := hv
  rfl
theorem wdCells_congr {f g : Nat → Int} (h : ∀ i, i < 24 → f i = g i) : wdCells f = wdCells g := by
  unfold wdCells wdList
  congr 1
  exact List.map_congr_left (fun i hi => by rw [h i (List.mem_range.1 hi)])
theorem infoWd (f : Nat → Int) : (Try.prog.info? 54).map (·.size) = some (wdCells f).size := by rw [wdCells_size]; kernel_rfl
theorem run_alloc_wd (w : World) : (Instr.alloc 54 true (.tuple #[])).run Try.prog w = .ok (.pointer (some ⟨w.heap.size, 0, none⟩)) (w.alloc (.cells (wdCells (fun _ => 0)) 54)) := by kernel_rfl
theorem wpList_alloc_wdAt {ops : Array Oper} {rest : List Oper} {o : Oper} {a : Act} {w : World} {Q : Exit → Act → World → Prop} (hgd : o.guard = none) (ho : o.op = .alloc 54) (H : Nat) (hH : w.heap.size = H)
    (h : wpList Try.prog ops Q rest (a.put o.dst (.pointer (some ⟨H, 0, none⟩))) (w.alloc (.cells (wdCells (fun _ => 0)) 54))) : wpList Try.prog ops Q (o :: rest) a w := by
  subst hH
  exact wpList_plain hgd fun _ hK => by
    unfold Oper.wp execOp
    simp only [ho, Sem.run_bind, run_alloc_wd, Result.andThen_ok, Sem.run_pure]
    exact hK _ _ h
theorem wpList_store_wd {ops : Array Oper} {rest : List Oper} {o : Oper} {a : Act} {w : World} {Q : Exit → Act → World → Prop} (hgd : o.guard = none) (x y : Operand) (ho : o.op = .store 54 x y)
    (g : Nat) (f f' : Nat → Int) (hx : a.eval x = .pointer (some ⟨g, 0, none⟩)) (hy : a.eval y = .agg (wdCells f)) (hg : Blk w g (wdCells f') 54)
    (h : wpList Try.prog ops Q rest (a.put o.dst undef) (w.setRow g (wdCells f))) : wpList Try.prog ops Q (o :: rest) a w :=
  wpList_store_row hgd 54 x y ho g (wdCells f) hx hy 54 (wdCells f') hg (infoWd f) (by rw [wdCells_size, wdCells_size]) (wdCells_one f) h
theorem wdLoad {w : World} {b : Nat} {f : Nat → Int} {t : TypeId} (hb : Blk w b (wdCells f) t) : ∀ j v, (wdCells f)[j]? = some v → w.cell? ⟨b, 0 + j, none⟩ = some v := by
  intro j v hv; rw [Nat.zero_add, hb.cell]; exact hv
theorem Blk.setw {w : World} {g : Nat} {f : Nat → Int} {t : TypeId} (h : Blk w g (wdCells f) t) (i : Nat) (x : Int) : Blk (w.setCell ⟨g, i, none⟩ (.int .u64 x)) g (wdCells (wset f i x)) t := by
  have := h.set i (.int .u64 x); rwa [wdCells_set] at this
theorem results_wd {fn : Func} {w : World} {s : Nat} (hr : fn.results = #[.cell s 54]) (tmps : Array Value) (g : Nat) (f : Nat → Int) (hs : tmps.getD s undef = .pointer (some ⟨g, 0, none⟩)) (h : Blk w g (wdCells f) 54) :
    (results fn tmps).run Try.prog w = .ok (.agg (wdCells f)) w := by
  have hl := run_loadVar_part (P := Try.prog) w g 0 54 (wdCells f) _ (wdLoad h) Try.underlying54 rfl (infoWd f)
  have hs' : tmps[s]?.getD undef = .pointer (some ⟨g, 0, none⟩) := by rw [← hs]; simp
  simp [results, hr, hs', asAddr, hl]
theorem wdLit (f : Nat → Int) : wdCells f = #[.int .u64 (f 0), .int .u64 (f 1), .int .u64 (f 2), .int .u64 (f 3), .int .u64 (f 4), .int .u64 (f 5), .int .u64 (f 6), .int .u64 (f 7), .int .u64 (f 8), .int .u64 (f 9), .int .u64 (f 10), .int .u64 (f 11), .int .u64 (f 12), .int .u64 (f 13), .int .u64 (f 14), .int .u64 (f 15), .int .u64 (f 16), .int .u64 (f 17), .int .u64 (f 18), .int .u64 (f 19), .int .u64 (f 20), .int .u64 (f 21), .int .u64 (f 22), .int .u64 (f 23)] := rfl
set_option maxRecDepth 100000 in
set_option maxHeartbeats 1600000 in
theorem eq_wd (f : Nat → Int) (w : World) : (Op.equalIn 10000 54 (.agg (wdCells f)) (.agg (wdCells f))).run Try.prog w = .ok true w := by
  rw [wdLit]
  have u4 := Try.underlying22
  have a4' := Try.isAgg22
  have z4 := Try.sizeOf22
  rw [show (10000 : Nat) = 9999 + 1 from rfl, Op.equalIn]
  simp only [Sem.run_bind, run_underlying Try.underlying54, Result.andThen_ok]
  simp only [Std.Legacy.Range.forIn_eq_forIn_range', Std.Legacy.Range.size, Nat.sub_zero, Nat.add_sub_cancel, Nat.div_one, List.range'_succ, List.range'_zero, List.forIn_cons, List.forIn_nil]
  go_simp
end Go.Proofs.Ytbpaefhihdhdeaa
namespace Go.Proofs.Ytbpaefhihdhdeaa
open Go.RowKit

def tagM : Int := 5495893775785918464
/-- a node's word -/
def fullW (n : Nd) (i : Nat) : Int :=
  if i = 0 then tagM + n.lv else if i = 1 then n.lo else if i = 2 then n.nx else if i = 3 then n.ct else if i = 4 then n.fi else if i < 8 then 0
  else if i % 2 = 0 then n.k ((i - 8) / 2) else n.p ((i - 9) / 2)
def wTo (n : Nd) (k : Nat) (i : Nat) : Int := if i < 8 + 2 * k then fullW n i else 0
def wordsF (n : Nd) : Nat → Int := if n.lv < 0 ∨ 15 < n.lv then fun _ => 0 else wTo n 8
def contW (n : Nd) (L : Nat → Bool) : Nat → Int := fun i => if i < 5 ∧ L (13 + 2 * i) = true then fullW n i else 0
def contK (n : Nd) (k : Nat) (L : Nat → Bool) : Nat → Int := fun i => if i = 8 + 2 * k ∧ L 15 = true then n.k k else if i = 9 + 2 * k ∧ L 17 = true then n.p k else wTo n k i
theorem fullW_lt5 (n : Nd) (i : Nat) (h : i < 5) : fullW n i = if i = 0 then tagM + n.lv else if i = 1 then n.lo else if i = 2 then n.nx else if i = 3 then n.ct else n.fi := by
  have : i = 0 ∨ i = 1 ∨ i = 2 ∨ i = 3 ∨ i = 4 := by omega
  rcases this with rfl | rfl | rfl | rfl | rfl <;> rfl
theorem contW_set (n : Nd) (L : Nat → Bool) (i : Nat) (hi : i < 5) : wset (contW n L) i (if i = 0 then tagM + n.lv else if i = 1 then n.lo else if i = 2 then n.nx else if i = 3 then n.ct else n.fi) = contW n (lset L (13 + 2 * i)) := by
  funext j
  unfold wset contW
  by_cases h : j = i
  · subst h
    have t : lset L (13 + 2 * j) (13 + 2 * j) = true := by simp [lset]
    simp only [t, hi, and_self, if_true]
    exact (fullW_lt5 n j hi).symm
  · rw [if_neg h]
    have : lset L (13 + 2 * i) (13 + 2 * j) = L (13 + 2 * j) := by unfold lset; rw [if_neg (by omega)]
    rw [this]
theorem contW_all (n : Nd) (L : Nat → Bool) (h : ∀ i, i < 5 → L (13 + 2 * i) = true) : contW n L = wTo n 0 := by
  funext j
  unfold contW wTo
  by_cases h5 : j < 5
  · rw [if_pos ⟨h5, h j h5⟩, if_pos (by omega)]
  · rw [if_neg (fun e => h5 e.1)]
    by_cases h8 : j < 8 + 2 * 0
    · rw [if_pos h8]
      unfold fullW
      rw [if_neg (by omega), if_neg (by omega), if_neg (by omega), if_neg (by omega), if_neg (by omega), if_pos (by omega)]
    · rw [if_neg h8]
theorem contK_set15 (n : Nd) (k : Nat) (L : Nat → Bool) {e1 : Nat} (he : e1 = 8 + 2 * k) : wset (contK n k L) e1 (n.k k) = contK n k (lset L 15) := by
  subst he
  funext j
  unfold wset contK
  have h17 : lset L 15 17 = L 17 := by simp [lset]
  rw [h17]
  by_cases h : j = 8 + 2 * k
  · rw [if_pos h, if_pos ⟨h, by simp [lset]⟩]
  · simp only [h, false_and, if_false]
theorem contK_set17 (n : Nd) (k : Nat) (L : Nat → Bool) {e2 : Nat} (he : e2 = 9 + 2 * k) : wset (contK n k L) e2 (n.p k) = contK n k (lset L 17) := by
  subst he
  funext j
  unfold wset contK
  have h15 : lset L 17 15 = L 15 := by simp [lset]
  rw [h15]
  by_cases h : j = 9 + 2 * k
  · rw [if_pos h, if_neg (by omega), if_pos ⟨h, by simp [lset]⟩]
  · rw [if_neg h]
    by_cases h2 : j = 8 + 2 * k ∧ L 15 = true
    · rw [if_pos h2, if_pos h2]
    · rw [if_neg h2, if_neg h2, if_neg (fun e => h e.1), if_neg (fun e => h e.1)]
theorem contK_all (n : Nd) (k : Nat) (L : Nat → Bool) (h1 : L 15 = true) (h2 : L 17 = true) : ∀ i, i < 24 → contK n k L i = wTo n (k + 1) i := by
  intro i _
  unfold contK wTo
  by_cases a : i = 8 + 2 * k
  · rw [if_pos ⟨a, h1⟩, if_pos (by omega)]
    unfold fullW
    rw [if_neg (by omega), if_neg (by omega), if_neg (by omega), if_neg (by omega), if_neg (by omega), if_neg (by omega), if_pos (by omega)]
    congr 1; omega
  · rw [if_neg (fun e => a e.1)]
    by_cases b : i = 9 + 2 * k
    · rw [if_pos ⟨b, h2⟩, if_pos (by omega)]
      unfold fullW
      rw [if_neg (by omega), if_neg (by omega), if_neg (by omega), if_neg (by omega), if_neg (by omega), if_neg (by omega), if_neg (by omega)]
      congr 1; omega
    · rw [if_neg (fun e => b e.1)]
      by_cases c : i < 8 + 2 * k
      · rw [if_pos c, if_pos (by omega)]
      · rw [if_neg c, if_neg (by omega)]
end Go.Proofs.Ytbpaefhihdhdeaa
namespace Go.Proofs.Ytbpaefhihdhdeaa
open Go.RowKit

theorem wset5 (n : Nd) : wset (wset (wset (wset (wset (fun _ => 0) 0 (tagM + n.lv)) 1 n.lo) 2 n.nx) 3 n.ct) 4 n.fi = wTo n 0 := by
  funext j
  unfold wset wTo fullW
  by_cases h4 : j = 4
  · subst h4; rfl
  by_cases h3 : j = 3
  · subst h3; rfl
  by_cases h2 : j = 2
  · subst h2; rfl
  by_cases h1 : j = 1
  · subst h1; rfl
  by_cases h0 : j = 0
  · subst h0; rfl
  rw [if_neg h4, if_neg h3, if_neg h2, if_neg h1, if_neg h0]
  by_cases h8 : j < 8 + 2 * 0
  · rw [if_pos h8, if_neg h0, if_neg h1, if_neg h2, if_neg h3, if_neg h4, if_pos (by omega)]
  · rw [if_neg h8]
theorem wset_next (n : Nd) (k : Nat) : wset (wset (wTo n k) (8 + 2 * k) (n.k k)) (9 + 2 * k) (n.p k) = wTo n (k + 1) := by
  funext j
  unfold wset wTo
  by_cases b : j = 9 + 2 * k
  · rw [if_pos b, if_pos (by omega)]
    unfold fullW
    rw [if_neg (by omega), if_neg (by omega), if_neg (by omega), if_neg (by omega), if_neg (by omega), if_neg (by omega), if_neg (by omega)]
    congr 1; omega
  · rw [if_neg b]
    by_cases a : j = 8 + 2 * k
    · rw [if_pos a, if_pos (by omega)]
      unfold fullW
      rw [if_neg (by omega), if_neg (by omega), if_neg (by omega), if_neg (by omega), if_neg (by omega), if_neg (by omega), if_pos (by omega)]
      congr 1; omega
    · rw [if_neg a]
      by_cases c : j < 8 + 2 * k
      · rw [if_pos c, if_pos (by omega)]
      · rw [if_neg c, if_neg (by omega)]
structure WrW (w : World) (n : Nd) (b1 b2 b3 : Nat) (f : Nat → Int) (w' : World) : Prop where
  n : Blk w' b1 (ndCells n) 27
  r : Blk w' b2 (wdCells (fun _ => 0)) 54
  f : Blk w' b3 (wdCells f) 54
  b : Below w.heap.size w w'
  lt : w.heap.size ≤ b1 ∧ b1 < b2 ∧ b2 < b3
theorem WrW.set {w w' : World} {n : Nd} {b1 b2 b3 : Nat} {f : Nat → Int} (h : WrW w n b1 b2 b3 f w') (i : Nat) (x : Int) : WrW w n b1 b2 b3 (wset f i x) (w'.setCell ⟨b3, i, none⟩ (.int .u64 x)) :=
  ⟨h.n.other i _ (by have := h.lt; omega), h.r.other i _ (by have := h.lt; omega), h.f.setw i x, h.b.setCell (p := ⟨b3, i, none⟩) (by have := h.lt; simp; omega) _, h.lt⟩

set_option maxRecDepth 100000 in
set_option maxHeartbeats 6400000 in
theorem rwords_lv (n : Nd) (hw : (Lit.int .i64 n.lv).wf = true) (w : World) :
    Calls Try.prog 20 #[.agg (ndCells n)] w fun e w' => e = .returned (.agg (wdCells (wordsF n))) ∧ Below w.heap.size w w' := by
  have hk0 : Blk (w.alloc (.cells (ndCells n) 27)) w.heap.size (ndCells n) 27 := Blk.new w _ _
  have hs1 : (w.alloc (.cells (ndCells n) 27)).heap.size = w.heap.size + 1 := by simp
  have hb2 := Blk.new (w.alloc (.cells (ndCells n) 27)) (wdCells (fun _ => 0)) 54
  have hs2 : ((w.alloc (.cells (ndCells n) 27)).alloc (.cells (wdCells (fun _ => 0)) 54)).heap.size = w.heap.size + 2 := by simp
  have hb3 := Blk.new ((w.alloc (.cells (ndCells n) 27)).alloc (.cells (wdCells (fun _ => 0)) 54)) (wdCells (fun _ => 0)) 54
  rw [hs1] at hb2
  rw [hs2] at hb3
  have HZ := Lib.hid hs1
  have HZ2 := Lib.hid hs2
  have HW0 := Lib.hid (show WrW w n w.heap.size (w.heap.size + 1) (w.heap.size + 2) (fun _ => 0) (((w.alloc (.cells (ndCells n) 27)).alloc (.cells (wdCells (fun _ => 0)) 54)).alloc (.cells (wdCells (fun _ => 0)) 54)) from
    ⟨(hk0.alloc _).alloc _, hb2.alloc _, hb3, (((Below.refl w.heap.size w).alloc (Nat.le_refl _) _).alloc (by omega) _).alloc (by omega) _, by omega⟩)
  have hlb := i64_bounds hw
  clear hk0 hs1 hb2 hs2 hb3
  go_enter Try.func20, Try.ntmps20
  go_upto_region 2 with (first | (with_reducible refine wpList_alloc_wdAt (o := ⟨some 2, _, _, _, _, _⟩) rfl rfl (w.heap.size + 1) ?hz ?_; (case hz => exact HZ.out)) | (with_reducible refine wpList_alloc_wdAt (o := ⟨some 3, _, _, _, _, _⟩) rfl rfl (w.heap.size + 2) ?hy ?_; (case hy => exact HZ2.out)))
  go_simp
  obtain ⟨b1, hb1⟩ : ∃ x, w.heap.size = x := ⟨_, rfl⟩
  obtain ⟨b2, hb2⟩ : ∃ x, b1 + 1 = x := ⟨_, rfl⟩
  obtain ⟨b3, hb3⟩ : ∃ x, b1 + 2 = x := ⟨_, rfl⟩
  rw [hb1, hb2, hb3] at HW0 ⊢
  clear HZ HZ2
  generalize ((w.alloc (.cells (ndCells n) 27)).alloc (.cells (wdCells (fun _ => 0)) 54)).alloc (.cells (wdCells (fun _ => 0)) 54) = w0 at *
  have c0 : w0.cell? ⟨b1, 0, none⟩ = some (.int .i64 n.lv) := by rw [HW0.out.n.cell, ndCells_0]
  by_cases hl : n.lv < 0 ∨ 15 < n.lv
  · have HF := Lib.hid (show wordsF n = fun _ => 0 by unfold wordsF; rw [if_pos hl])
    have HLd := Lib.hid (wdLoad HW0.out.f)
    have HIw := Lib.hid (infoWd (fun _ => 0))
    rcases hl with hl | hl
    · go_upto_region 3 with (fail)
      go_wp2_with (first | (with_reducible refine wpList_load_part (o := ⟨some 13, _, _, _, _, _⟩) rfl 54 _ rfl b3 0 rfl (wdCells (fun _ => 0)) _ HLd.out Try.underlying54 rfl HIw.out ?_) | (refine wpList_store_wd (o := ⟨none, .store 54 (.tmp 2) (.tmp 13), _, _, _, _⟩) rfl (.tmp 2) (.tmp 13) ?hoa b2 (fun _ => 0) (fun _ => 0) ?hxa ?hya HW0.out.r ?_; (case hoa => rfl); (case hxa => rfl); (case hya => rfl)))
      rw [HF.out]
      exact bodyPost_ret (results_wd rfl _ b2 (fun _ => 0) rfl (HW0.out.r.row _)) rfl ⟨rfl, below_setRow HW0.out.b (by have := HW0.out.lt; omega) _⟩
    · have d1 : decide (n.lv < 0) = false := decide_eq_false (by omega)
      go_upto_region 3 with (fail)
      go_wp2_with (first | (with_reducible refine wpList_load_part (o := ⟨some 13, _, _, _, _, _⟩) rfl 54 _ rfl b3 0 rfl (wdCells (fun _ => 0)) _ HLd.out Try.underlying54 rfl HIw.out ?_) | (refine wpList_store_wd (o := ⟨none, .store 54 (.tmp 2) (.tmp 13), _, _, _, _⟩) rfl (.tmp 2) (.tmp 13) ?hob b2 (fun _ => 0) (fun _ => 0) ?hxb ?hyb HW0.out.r ?_; (case hob => rfl); (case hxb => rfl); (case hyb => rfl)))
      rw [HF.out]
      exact bodyPost_ret (results_wd rfl _ b2 (fun _ => 0) rfl (HW0.out.r.row _)) rfl ⟨rfl, below_setRow HW0.out.b (by have := HW0.out.lt; omega) _⟩
  · have HF := Lib.hid (show wordsF n = wTo n 8 by unfold wordsF; rw [if_neg hl])
    have d1 : decide (n.lv < 0) = false := decide_eq_false (by omega)
    have d2 : decide (15 < n.lv) = false := decide_eq_false (by omega)
    have c1 : w0.cell? ⟨b1, 1, none⟩ = some (.int .u64 n.lo) := by rw [HW0.out.n.cell, ndCells_1]
    have c2 : w0.cell? ⟨b1, 2, none⟩ = some (.int .u64 n.nx) := by rw [HW0.out.n.cell, ndCells_2]
    have c3 : w0.cell? ⟨b1, 3, none⟩ = some (.int .u64 n.ct) := by rw [HW0.out.n.cell, ndCells_3]
    have c4 : w0.cell? ⟨b1, 4, none⟩ = some (.int .u64 n.fi) := by rw [HW0.out.n.cell, ndCells_4]
    have z0 : w0.cell? ⟨b3, 0, none⟩ = some (.int .u64 0) := by rw [HW0.out.f.cell, wdCells_get _ 0 (by omega)]
    have z1 : w0.cell? ⟨b3, 1, none⟩ = some (.int .u64 0) := by rw [HW0.out.f.cell, wdCells_get _ 1 (by omega)]
    have z2 : w0.cell? ⟨b3, 2, none⟩ = some (.int .u64 0) := by rw [HW0.out.f.cell, wdCells_get _ 2 (by omega)]
    have z3 : w0.cell? ⟨b3, 3, none⟩ = some (.int .u64 0) := by rw [HW0.out.f.cell, wdCells_get _ 3 (by omega)]
    have z4 : w0.cell? ⟨b3, 4, none⟩ = some (.int .u64 0) := by rw [HW0.out.f.cell, wdCells_get _ 4 (by omega)]
    have f0 := HW0.out.f.frozen 0
    have f1 := HW0.out.f.frozen 1
    have f2 := HW0.out.f.frozen 2
    have f3 := HW0.out.f.frozen 3
    have f4 := HW0.out.f.frozen 4
    have hne : b1 ≠ b3 := by omega
    have hne' : b3 ≠ b1 := by omega
    have wv : IntKind.u64.wrap n.lv = n.lv := by rw [IntKind.wrap_u64]; omega
    obtain ⟨tg, htg⟩ : ∃ t, tagM + n.lv = t := ⟨_, rfl⟩
    have wt : IntKind.u64.wrap (5495893775785918464 + n.lv) = tg := by rw [IntKind.wrap_u64, ← htg]; unfold tagM; omega
    have wtt : IntKind.u64.wrap tg = tg := by rw [IntKind.wrap_u64, ← htg]; unfold tagM; omega
    have wt2 : (5495893775785918464 : Int) + n.lv = tg := by rw [← htg]; rfl
    have HW1 := Lib.hid (show WrW w n b1 b2 b3 (wTo n 0) (((((w0.setCell ⟨b3, 0, none⟩ (.int .u64 tg)).setCell ⟨b3, 1, none⟩ (.int .u64 n.lo)).setCell ⟨b3, 2, none⟩ (.int .u64 n.nx)).setCell ⟨b3, 3, none⟩ (.int .u64 n.ct)).setCell ⟨b3, 4, none⟩ (.int .u64 n.fi)) by
      have := ((((HW0.out.set 0 tg).set 1 n.lo).set 2 n.nx).set 3 n.ct).set 4 n.fi
      rw [← htg, wset5] at this
      rw [← htg]; exact this)
    have HWT := Lib.hid wt
    clear hl htg
    go_wp2_with (fail)
    generalize ((((w0.setCell ⟨b3, 0, none⟩ (.int .u64 tg)).setCell ⟨b3, 1, none⟩ (.int .u64 n.lo)).setCell ⟨b3, 2, none⟩ (.int .u64 n.nx)).setCell ⟨b3, 3, none⟩ (.int .u64 n.ct)).setCell ⟨b3, 4, none⟩ (.int .u64 n.fi) = w1 at *
    clear c0 c1 c2 c3 c4 z0 z1 z2 z3 z4 f0 f1 f2 f3 f4 wv wt wtt wt2 HW0
    go_loopw [4] (fun iv wr => ∃ k : Nat, k ≤ 8 ∧ iv = .int .i64 k ∧ Hid (WrW w n b1 b2 b3 (wTo n k) wr)) (fun iv _ => 8 - (intOf iv).toNat)
    case atStart => exact ⟨0, by omega, rfl, HW1⟩
    case round =>
      obtain ⟨k, hk, rfl, HW⟩ := hrel
      by_cases hlt : k < 8
      · have ck : wr.cell? ⟨b1, 5 + k, none⟩ = some (.int .u64 (n.k k)) := by rw [HW.out.n.cell, ndCells_k n k hlt]
        have cp : wr.cell? ⟨b1, 13 + k, none⟩ = some (.int .u64 (n.p k)) := by rw [HW.out.n.cell, ndCells_p n k hlt]
        obtain ⟨e1, he1⟩ : ∃ e1, e1 = 8 + 2 * k := ⟨_, rfl⟩
        obtain ⟨e2, he2⟩ : ∃ e2, e2 = 9 + 2 * k := ⟨_, rfl⟩
        have z1 : wr.cell? ⟨b3, e1, none⟩ = some (.int .u64 (wTo n k e1)) := by rw [HW.out.f.cell, wdCells_get _ e1 (by omega)]
        have z2 : wr.cell? ⟨b3, e2, none⟩ = some (.int .u64 (wTo n k e2)) := by rw [HW.out.f.cell, wdCells_get _ e2 (by omega)]
        have f1 := HW.out.f.frozen e1
        have f2 := HW.out.f.frozen e2
        have h12 : e1 ≠ e2 := by omega
        have HWn := Lib.hid (show WrW w n b1 b2 b3 (wTo n (k + 1)) ((wr.setCell ⟨b3, e1, none⟩ (.int .u64 (n.k k))).setCell ⟨b3, e2, none⟩ (.int .u64 (n.p k))) by
          have := (HW.out.set e1 (n.k k)).set e2 (n.p k)
          rw [he1, he2, wset_next] at this
          rw [he1, he2]; exact this)
        have g0 : (8 : Int) + 2 * (k : Int) = (e1 : Int) := by omega
        have g0' : (9 : Int) + 2 * (k : Int) = (e2 : Int) := by omega
        have g4 : (k : Int) < 8 := by omega
        have g5 : (e1 : Int) < 24 := by omega
        have g6 : (e2 : Int) < 24 := by omega
        clear he1 he2
        go_wp2_with (fail)
        go_roundw
        case rel => exact ⟨k + 1, by omega, by go_num, HWn⟩
        case measure => simp [intOf]; omega
      · have hk8 : k = 8 := by omega
        have HW2 := Lib.hid (show WrW w n b1 b2 b3 (wTo n 8) wr by have := HW.out; rwa [hk8] at this)
        have HLd := Lib.hid (wdLoad HW2.out.f)
        have HIw := Lib.hid (infoWd (wTo n 8))
        clear hk8 HW
        go_upto_region 14 with (fail)
        go_wp2_with (first | (with_reducible refine wpList_load_part (o := ⟨some 51, _, _, _, _, _⟩) rfl 54 _ rfl b3 0 rfl (wdCells (wTo n 8)) _ HLd.out Try.underlying54 rfl HIw.out ?_) | (refine wpList_store_wd (o := ⟨none, .store 54 (.tmp 2) (.tmp 51), _, _, _, _⟩) rfl (.tmp 2) (.tmp 51) ?hoc b2 (wTo n 8) (fun _ => 0) ?hxc ?hyc HW2.out.r ?_; (case hoc => rfl); (case hxc => rfl); (case hyc => rfl)))
        rw [HF.out]
        exact bodyPost_ret (results_wd rfl _ b2 (wTo n 8) rfl (HW2.out.r.row _)) rfl ⟨rfl, below_setRow HW2.out.b (by have := HW2.out.lt; omega) _⟩
theorem rwords_v (n : Nd) (hw : n.Wf) (w : World) :
    Calls Try.prog 20 #[.agg (ndCells n)] w fun e w' => e = .returned (.agg (wdCells (wordsF n))) ∧ Below w.heap.size w w' := rwords_lv n hw.lv w
end Go.Proofs.Ytbpaefhihdhdeaa
namespace Go.Proofs.Ytbpaefhihdhdeaa
open Go.RowKit
set_option linter.unusedVariables false

/-- what is stored at an address, in order -/
def hist (a : Int) (L : List (Int × Int)) : List Int := L.filterMap (fun s => if s.1 = a then some s.2 else none)
theorem hist_app (a : Int) (L M : List (Int × Int)) : hist a (L ++ M) = hist a L ++ hist a M := List.filterMap_append
theorem hist_nil (a : Int) : hist a [] = [] := rfl
theorem hist_cons (a : Int) (s : Int × Int) (L : List (Int × Int)) : hist a (s :: L) = (if s.1 = a then [s.2] else []) ++ hist a L := by
  unfold hist
  by_cases h : s.1 = a
  · rw [List.filterMap_cons_some (b := s.2) (by rw [if_pos h]), if_pos h]; rfl
  · rw [List.filterMap_cons_none (by rw [if_neg h]), if_neg h]; rfl
theorem hist_one (a b x : Int) : hist a [(b, x)] = if b = a then [x] else [] := by rw [hist_cons, hist_nil, List.append_nil]

theorem hist_gap_ptr (base : Int) (n : Nd) (p u : Nat) : ∀ j, hist (base + 64 + 16 * (u : Int) + 8) (gapL base n p j) = if p ≤ u ∧ u < p + j then [n.p (u + 1)] else []
  | 0 => by rw [gapL, hist_nil, if_neg (by omega)]
  | j + 1 => by
    rw [gapL, hist_app, hist_gap_ptr base n p u j, hist_cons, hist_one, if_neg (c := base + 64 + 16 * ((p + j : Nat) : Int) = _) (by omega)]
    by_cases h : p + j = u
    · subst h
      rw [if_neg (by omega), if_pos (by omega), if_pos (by omega)]; rfl
    · rw [if_neg (c := base + 64 + 16 * ((p + j : Nat) : Int) + 8 = _) (by omega)]
      by_cases h2 : p ≤ u ∧ u < p + j
      · rw [if_pos h2, if_pos (by omega)]; rfl
      · rw [if_neg h2, if_neg (by omega)]; rfl
theorem hist_gap_key (base : Int) (n : Nd) (p u : Nat) : ∀ j, hist (base + 64 + 16 * (u : Int)) (gapL base n p j) = if p ≤ u ∧ u < p + j then [n.k (u + 1)] else []
  | 0 => by rw [gapL, hist_nil, if_neg (by omega)]
  | j + 1 => by
    rw [gapL, hist_app, hist_gap_key base n p u j, hist_cons, hist_one]
    by_cases h : p + j = u
    · subst h
      rw [if_neg (by omega), if_pos (by omega), if_neg (by omega), if_pos (by omega)]; rfl
    · rw [if_neg (c := base + 64 + 16 * ((p + j : Nat) : Int) = _) (by omega), if_neg (c := base + 64 + 16 * ((p + j : Nat) : Int) + 8 = _) (by omega)]
      by_cases h2 : p ≤ u ∧ u < p + j
      · rw [if_pos h2, if_pos (by omega)]; rfl
      · rw [if_neg h2, if_neg (by omega)]; rfl
theorem hist_gap_low (base : Int) (n : Nd) (p : Nat) {a : Int} (ha : a < base + 64) : ∀ j, hist a (gapL base n p j) = []
  | 0 => by rw [gapL, hist_nil]
  | j + 1 => by rw [gapL, hist_app, hist_gap_low base n p ha j, hist_cons, hist_one, if_neg (by omega), if_neg (by omega)]; rfl
theorem hist_shift_ptr (base : Int) (n : Nd) (m u : Nat) : ∀ j, j ≤ m → hist (base + 64 + 16 * (u : Int) + 8) (shiftL base n m j) = if m - j < u ∧ u ≤ m then [n.p (u - 1)] else []
  | 0, _ => by rw [shiftL, hist_nil, if_neg (by omega)]
  | j + 1, hj => by
    rw [shiftL, hist_app, hist_shift_ptr base n m u j (by omega), hist_cons, hist_one]
    by_cases h : m - j = u
    · subst h
      rw [if_neg (by omega), if_pos (by omega), if_neg (by omega), if_pos (by omega)]; rfl
    · rw [if_neg (c := base + 64 + 16 * ((m - j : Nat) : Int) + 8 = _) (by omega), if_neg (c := base + 64 + 16 * ((m - j : Nat) : Int) = _) (by omega)]
      by_cases h2 : m - j < u ∧ u ≤ m
      · rw [if_pos h2, if_pos (by omega)]; rfl
      · rw [if_neg h2, if_neg (by omega)]; rfl
theorem hist_shift_key (base : Int) (n : Nd) (m u : Nat) : ∀ j, j ≤ m → hist (base + 64 + 16 * (u : Int)) (shiftL base n m j) = if m - j < u ∧ u ≤ m then [n.k (u - 1)] else []
  | 0, _ => by rw [shiftL, hist_nil, if_neg (by omega)]
  | j + 1, hj => by
    rw [shiftL, hist_app, hist_shift_key base n m u j (by omega), hist_cons, hist_one]
    by_cases h : m - j = u
    · subst h
      rw [if_neg (by omega), if_neg (by omega), if_pos (by omega), if_pos (by omega)]; rfl
    · rw [if_neg (c := base + 64 + 16 * ((m - j : Nat) : Int) + 8 = _) (by omega), if_neg (c := base + 64 + 16 * ((m - j : Nat) : Int) = _) (by omega)]
      by_cases h2 : m - j < u ∧ u ≤ m
      · rw [if_pos h2, if_pos (by omega)]; rfl
      · rw [if_neg h2, if_neg (by omega)]; rfl
theorem hist_shift_low (base : Int) (n : Nd) (m : Nat) {a : Int} (ha : a < base + 64) : ∀ j, hist a (shiftL base n m j) = []
  | 0 => by rw [shiftL, hist_nil]
  | j + 1 => by rw [shiftL, hist_app, hist_shift_low base n m ha j, hist_cons, hist_one, if_neg (by omega), if_neg (by omega)]; rfl

/-- a word's history that never comes back -/
def Okh (v : Int) (h : List Int) : Prop := h = [] ∨ (∃ x, h = [x]) ∨ ∃ x y, h = [x, y] ∧ (y ≠ v ∨ y = x)
theorem okh_nil (v : Int) : Okh v [] := .inl rfl
theorem okh_one (v x : Int) : Okh v [x] := .inr (.inl ⟨x, rfl⟩)
theorem okh_two {v x y : Int} (h : y ≠ v ∨ y = x) : Okh v [x, y] := .inr (.inr ⟨x, y, rfl, h⟩)
/-- what lies between the two stores of the count: each word's history there -/
structure MidOk (base : Int) (n : Nd) (mid : List (Int × Int)) : Prop where
  ct : hist (base + 24) mid = []
  low : ∀ a, a < base + 64 → ∀ v, Okh v (hist a mid)
  key : ∀ u : Nat, u < 8 → ∀ v, Okh v (hist (base + 64 + 16 * (u : Int)) mid)
  ptr : ∀ u : Nat, u < 8 → Okh (n.p u) (hist (base + 64 + 16 * (u : Int) + 8) mid)

theorem mid_one_ptr (base : Int) (n : Nd) (i : Nat) (x : Int) : MidOk base n [(base + 64 + 16 * (i : Int) + 8, x)] where
  ct := by rw [hist_one, if_neg (by omega)]
  low a ha v := by rw [hist_one, if_neg (by omega)]; exact okh_nil v
  key u hu v := by rw [hist_one, if_neg (by omega)]; exact okh_nil v
  ptr u hu := by
    rw [hist_one]
    split
    · exact okh_one _ _
    · exact okh_nil _
theorem mid_next (base : Int) (n : Nd) (x : Int) : MidOk base n [(base + 16, x)] where
  ct := by rw [hist_one, if_neg (by omega)]
  low a ha v := by
    rw [hist_one]
    split
    · exact okh_one _ _
    · exact okh_nil _
  key u hu v := by rw [hist_one, if_neg (by omega)]; exact okh_nil v
  ptr u hu := by rw [hist_one, if_neg (by omega)]; exact okh_nil _
theorem mid_rep (base : Int) (n : Nd) (p q : Nat) : MidOk base n (gapL base n p (q - p) ++ [(base + 64 + 16 * (q : Int) + 8, 0)]) where
  ct := by rw [hist_app, hist_gap_low base n p (by omega), hist_one, if_neg (by omega)]; rfl
  low a ha v := by rw [hist_app, hist_gap_low base n p ha, hist_one, if_neg (by omega)]; exact okh_nil v
  key u hu v := by
    rw [hist_app, hist_gap_key, hist_one, if_neg (c := base + 64 + 16 * (q : Int) + 8 = _) (by omega), List.append_nil]
    split
    · exact okh_one _ _
    · exact okh_nil _
  ptr u hu := by
    rw [hist_app, hist_gap_ptr, hist_one]
    by_cases h : q = u
    · subst h
      rw [if_neg (by omega), if_pos (by omega)]; exact okh_one _ _
    · rw [if_neg (c := base + 64 + 16 * (q : Int) + 8 = _) (by omega), List.append_nil]
      split
      · exact okh_one _ _
      · exact okh_nil _
theorem mid_del {A : List (Int × Int)} {base : Int} {n : Nd} {i q : Nat} (h : Full n A) (hf : Fine n A) (hi : i < A.length) (hq : A.length = q + 1) :
    MidOk base n ([(base + 64 + 16 * (i : Int) + 8, n.ahead i)] ++ gapL base n i (q - i) ++ [(base + 64 + 16 * (q : Int) + 8, 0)]) where
  ct := by rw [hist_app, hist_app, hist_one, if_neg (by omega), hist_gap_low base n i (by omega), hist_one, if_neg (by omega)]; rfl
  low a ha v := by rw [hist_app, hist_app, hist_one, if_neg (by omega), hist_gap_low base n i ha, hist_one, if_neg (by omega)]; exact okh_nil v
  key u hu v := by
    rw [hist_app, hist_app, hist_one, if_neg (by omega), hist_gap_key, hist_one, if_neg (c := base + 64 + 16 * (q : Int) + 8 = _) (by omega), List.append_nil, List.nil_append]
    split
    · exact okh_one _ _
    · exact okh_nil _
  ptr u hu := by
    rw [hist_app, hist_app, hist_one, hist_gap_ptr, hist_one]
    by_cases hu1 : i = u
    · subst hu1
      rw [if_pos (by omega)]
      by_cases h2 : q = i
      · subst h2
        rw [if_neg (by omega), if_pos (by omega)]
        refine okh_two (.inl ?_)
        rw [(h.ent q hi).2]
        exact fun e => hf.n0 hi e.symm
      · rw [if_pos (by omega), if_neg (by omega)]
        refine okh_two (.inl ?_)
        rw [(h.ent i hi).2, (h.ent (i + 1) (by omega)).2]
        exact hf.ne (by omega) (by omega)
    · rw [if_neg (c := base + 64 + 16 * (i : Int) + 8 = _) (by omega), List.nil_append]
      by_cases h2 : q = u
      · subst h2
        rw [if_neg (by omega), if_pos (by omega)]; exact okh_one _ _
      · rw [if_neg (c := base + 64 + 16 * (q : Int) + 8 = _) (by omega), List.append_nil]
        split
        · exact okh_one _ _
        · exact okh_nil _
theorem mid_ins {A : List (Int × Int)} {base : Int} {n : Nd} {at_ : Nat} {key ptr : Int} (h : Full n A) (hf : Fine n A) (h8 : A.length < 8) (ha : at_ ≤ A.length) (hp : freshB n ptr = true) :
    MidOk base n ((if A.length + 1 < 8 then [(base + 64 + 16 * ((A.length + 1 : Nat) : Int) + 8, 0)] else []) ++ shiftL base n A.length (A.length - at_) ++
      [(base + 64 + 16 * (at_ : Int) + 8, n.ahead at_), (base + 64 + 16 * (at_ : Int), key), (base + 64 + 16 * (at_ : Int) + 8, ptr)]) := by
  generalize hX : (if A.length + 1 < 8 then [(base + 64 + 16 * ((A.length + 1 : Nat) : Int) + 8, (0 : Int))] else []) = X
  have x0 : ∀ a, a ≠ base + 64 + 16 * ((A.length + 1 : Nat) : Int) + 8 → hist a X = [] := fun a hne => by
    rw [← hX]
    split
    · rw [hist_one, if_neg (fun e => hne e.symm)]
    · rfl
  have x1 : ∀ a v, Okh v (hist a X) := fun a v => by
    rw [← hX]
    split
    · rw [hist_one]
      split
      · exact okh_one _ _
      · exact okh_nil _
    · exact okh_nil _
  constructor
  · rw [hist_app, hist_app, x0 _ (by omega), hist_shift_low base n _ (by omega), hist_cons, hist_cons, hist_one, if_neg (by omega), if_neg (by omega), if_neg (by omega)]; rfl
  · intro a hal v
    rw [hist_app, hist_app, x0 _ (by omega), hist_shift_low base n _ hal, hist_cons, hist_cons, hist_one, if_neg (by omega), if_neg (by omega), if_neg (by omega)]; exact okh_nil v
  · intro u hu v
    rw [hist_app, hist_app, x0 _ (by omega), hist_shift_key base n _ u _ (by omega), hist_cons, hist_cons, hist_one, if_neg (c := base + 64 + 16 * (at_ : Int) + 8 = _) (by omega), if_neg (c := base + 64 + 16 * (at_ : Int) + 8 = _) (by omega)]
    by_cases hu1 : at_ = u
    · subst hu1
      rw [if_neg (by omega), if_pos (by omega)]; exact okh_one _ _
    · rw [if_neg (c := base + 64 + 16 * (at_ : Int) = _) (by omega)]
      by_cases h2 : A.length - (A.length - at_) < u ∧ u ≤ A.length
      · rw [if_pos h2]; exact okh_one _ _
      · rw [if_neg h2]; exact okh_nil _
  · intro u hu
    rw [hist_app, hist_app, hist_shift_ptr base n _ u _ (by omega), hist_cons, hist_cons, hist_one, if_neg (c := base + 64 + 16 * (at_ : Int) = _) (by omega)]
    by_cases hu1 : at_ = u
    · subst hu1
      rw [x0 _ (by omega), if_neg (by omega), if_pos (by omega), if_pos (by omega)]
      refine okh_two (.inl ?_)
      obtain ⟨f1, f2, f3⟩ := fresh_split h hf hp
      by_cases hlt : at_ < A.length
      · rw [(h.ent at_ hlt).2]
        exact fun e => f3 _ (ent_mem hlt) e.symm
      · have e : at_ = A.length := by omega
        rw [e, h.fin h8]; exact f1
    · rw [if_neg (c := base + 64 + 16 * (at_ : Int) + 8 = _) (by omega), if_neg (c := base + 64 + 16 * (at_ : Int) + 8 = _) (by omega)]
      by_cases h2 : A.length - (A.length - at_) < u ∧ u ≤ A.length
      · rw [if_pos h2, x0 _ (by omega)]; exact okh_one _ _
      · rw [if_neg h2, List.append_nil, List.append_nil, List.append_nil, List.append_nil]
        exact x1 _ _
/-- every change that is made: the count, what lies between, the count -/
theorem once_all {base : Int} {n : Nd} {kd key ptr : Int} (hk : kd = 0 ∨ kd = 1 ∨ kd = 2 ∨ kd = 3 ∨ kd = 4 ∨ kd = 5) (hc : madeC base n kd key ptr = 0) :
    ∃ mid, madeL base n kd key ptr = (base + 24, cOne n) :: (mid ++ [(base + 24, cTwo n)]) ∧ MidOk base n mid := by
  rcases hk with rfl | rfl | rfl | rfl | rfl | rfl
  · have hE : insE base n key ptr = 0 := hc
    obtain ⟨hm, hfr, hb, h8⟩ := insE_parts hE
    obtain ⟨hF, hf⟩ := mayE_full hm
    obtain ⟨k1, k2, k3⟩ := badKey_no hb
    have k1 : ¬ 0 ≤ n.find key := of_decide_eq_false k1
    obtain ⟨at_, e, ha, h1, h2⟩ := last_split hF hf key
    have hl := hF.len hf
    have hlt : n.valid.length < 8 := by have := n.len_le; omega
    have hn : ∀ j, j < n.valid.length → eK n.valid j ≠ key := by
      rcases find_split hF hf key with ⟨_, h⟩ | ⟨i, hi, _⟩
      · exact h
      · exact absurd (by omega) k1
    have hL : madeL base n 0 key ptr = insL base n key ptr at_ := by
      show insP base n key ptr = _
      unfold insP
      rw [if_pos hE, e]
    refine ⟨_, ?_, mid_ins (key := key) (ptr := ptr) hF hf hlt ha hfr⟩
    rw [hL]
    unfold insL
    rw [hl]
    simp only [List.append_assoc, List.cons_append, List.nil_append]
  · have hE : delE base n key = 0 := hc
    have hm : mayE base n = 0 := by
      unfold delE at hE
      split at hE
      · omega
      · omega
    obtain ⟨hF, hf⟩ := mayE_full hm
    have hl := hF.len hf
    have hfd : ¬ n.find key < 0 := by
      unfold delE at hE
      rw [if_neg (by omega)] at hE
      split at hE
      · omega
      · assumption
    rcases find_split hF hf key with ⟨h, _⟩ | ⟨i, hi, hil, hik⟩
    · exact absurd h hfd
    have hL : madeL base n 1 key ptr = [(base + 24, cOne n)] ++ [(base + 64 + 16 * (i : Int) + 8, n.ahead i)] ++ gapL base n i (n.len - 1 - i) ++ [(base + 64 + 16 * ((n.len - 1 : Nat) : Int) + 8, 0)] ++ [(base + 24, cTwo n)] := by
      show delP base n key = _
      unfold delP delL
      rw [if_pos hE, hi]
      rfl
    refine ⟨_, ?_, mid_del (base := base) hF hf hil (q := n.len - 1) (by omega)⟩
    rw [hL]
    simp only [List.append_assoc, List.cons_append, List.nil_append]
  · have hE : repE base n = 0 := hc
    have hm : mayE base n = 7 := by
      unfold repE at hE
      rcases mayE_val base n with h | h | h
      · rw [if_neg (by omega), if_pos h] at hE; omega
      · rw [if_pos h] at hE; omega
      · exact h.1
    obtain ⟨_, hmy, hiv⟩ : Stands base ∧ n.mayB 0 false = true ∧ 0 ≤ n.invalid := by
      rcases mayE_val base n with h | h | h
      · omega
      · omega
      · exact h.2
    obtain ⟨p, hp, hG⟩ := rep_gap hmy hiv
    have hf := may_fine hmy
    have hl := hG.len hf
    have hL : madeL base n 2 key ptr = [(base + 24, cOne n)] ++ gapL base n p (n.len - 1 - p) ++ [(base + 64 + 16 * ((n.len - 1 : Nat) : Int) + 8, 0)] ++ [(base + 24, cTwo n)] := by
      show repP base n = _
      unfold repP repL
      rw [if_pos hE, hp]
      rfl
    refine ⟨_, ?_, mid_rep base n p (n.len - 1)⟩
    rw [hL]
    simp only [List.append_assoc, List.cons_append, List.nil_append]
  · have hE : swapE base n key ptr = 0 := hc
    obtain ⟨hm, hfr, hfd⟩ := swapE_parts hE
    obtain ⟨hF, hf⟩ := mayE_full hm
    rcases find_split hF hf key with ⟨h, _⟩ | ⟨i, hi, hil, hik⟩
    · omega
    have hL : madeL base n 3 key ptr = [(base + 24, cOne n), (base + 64 + 16 * (i : Int) + 8, ptr), (base + 24, cTwo n)] := by
      show swapP base n key ptr = _
      unfold swapP
      rw [if_pos hE, hi]
    exact ⟨_, hL, mid_one_ptr base n i ptr⟩
  · have hE : cutE base n key = 0 := hc
    have hm : mayE base n = 0 := by
      unfold cutE at hE
      split at hE
      · omega
      · omega
    obtain ⟨hF, hf⟩ := mayE_full hm
    have hl := hF.len hf
    have hfd : ¬ n.cutAt key < 0 := by
      unfold cutE at hE
      rw [if_neg (by omega)] at hE
      split at hE
      · omega
      · assumption
    rcases firstF_spec (fun j => decide (key ≤ n.k j)) n.len 0 with ⟨e, _⟩ | ⟨i, e, _, h2, h3, h4⟩
    · unfold Nd.cutAt at hfd; omega
    have hil : i < n.valid.length := by omega
    have hik : key ≤ eK n.valid i := by rw [← (hF.ent i hil).1]; exact of_decide_eq_true h3
    have hlow : ∀ j, j < i → eK n.valid j < key := fun j hj => by
      have : decide (key ≤ n.k j) = false := h4 j (Nat.zero_le _) hj
      rw [(hF.ent j (by omega)).1] at this
      have := of_decide_eq_false this
      omega
    have hL : madeL base n 4 key ptr = [(base + 24, cOne n), (base + 64 + 16 * (i : Int) + 8, 0), (base + 24, cTwo n)] := by
      show cutP base n key = _
      unfold cutP
      rw [if_pos hE, show n.cutAt key = (i : Int) from e]
    exact ⟨_, hL, mid_one_ptr base n i 0⟩
  · have hm : mayE base n = 0 := hc
    obtain ⟨hF, hf⟩ := mayE_full hm
    have hL : madeL base n 5 key ptr = [(base + 24, cOne n), (base + 16, ptr), (base + 24, cTwo n)] := by
      show linkP base n ptr = _
      unfold linkP
      rw [if_pos hm]
    exact ⟨_, hL, mid_next base n ptr⟩
end Go.Proofs.Ytbpaefhihdhdeaa
namespace Go.Proofs.Ytbpaefhihdhdeaa
open Go.RowKit
set_option linter.unusedVariables false

theorem words_full {m : Nd} (h : 0 ≤ m.lv ∧ m.lv ≤ 15) {k : Nat} (hk : k < 24) : wordsF m k = fullW m k := by
  unfold wordsF
  rw [if_neg (by omega)]
  unfold wTo
  rw [if_pos (by omega)]
theorem fullW_key (m : Nd) (u : Nat) : fullW m (8 + 2 * u) = m.k u := by
  unfold fullW
  rw [if_neg (by omega), if_neg (by omega), if_neg (by omega), if_neg (by omega), if_neg (by omega), if_neg (by omega), if_pos (by omega)]
  congr 1; omega
theorem fullW_ptr (m : Nd) (u : Nat) : fullW m (9 + 2 * u) = m.p u := by
  unfold fullW
  rw [if_neg (by omega), if_neg (by omega), if_neg (by omega), if_neg (by omega), if_neg (by omega), if_neg (by omega), if_neg (by omega)]
  congr 1; omega
theorem word_cases {k : Nat} (hk : k < 24) : k < 8 ∨ (∃ u, u < 8 ∧ k = 8 + 2 * u) ∨ ∃ u, u < 8 ∧ k = 9 + 2 * u := by
  rcases Nat.lt_or_ge k 8 with h | h
  · exact .inl h
  · rcases Nat.mod_two_eq_zero_or_one k with h2 | h2
    · exact .inr (.inl ⟨(k - 8) / 2, by omega, by omega⟩)
    · exact .inr (.inr ⟨(k - 9) / 2, by omega, by omega⟩)
theorem low_cases {k : Nat} (hk : k < 8) : k = 0 ∨ k = 1 ∨ k = 2 ∨ k = 3 ∨ k = 4 ∨ k = 5 ∨ k = 6 ∨ k = 7 := by omega
theorem putA_lv {base : Int} {m q : Nd} {at_ x : Int} (h : putA base m at_ x = some q) : q.lv = m.lv := by
  unfold putA at h
  repeat' split at h
  all_goals first | (cases h; rfl) | cases h
/-- a store sets one word -/
theorem putA_word {base : Int} {m q : Nd} {at_ x : Int} (h : putA base m at_ x = some q) {k : Nat} (hk : k < 24) :
    fullW q k = if at_ = base + 8 * (k : Int) then x else fullW m k := by
  unfold putA at h
  split at h
  · cases h
  rename_i h0
  split at h
  · cases h
    rcases word_cases hk with h8 | ⟨u, hu, rfl⟩ | ⟨u, hu, rfl⟩
    · rcases low_cases h8 with rfl | rfl | rfl | rfl | rfl | rfl | rfl | rfl <;> first | (rw [if_neg (by omega)]; rfl) | (rw [if_pos (by omega)]; rfl)
    · rw [if_neg (by omega), fullW_key, fullW_key]
    · rw [if_neg (by omega), fullW_ptr, fullW_ptr]
  split at h
  · cases h
    rcases word_cases hk with h8 | ⟨u, hu, rfl⟩ | ⟨u, hu, rfl⟩
    · rcases low_cases h8 with rfl | rfl | rfl | rfl | rfl | rfl | rfl | rfl <;> first | (rw [if_neg (by omega)]; rfl) | (rw [if_pos (by omega)]; rfl)
    · rw [if_neg (by omega), fullW_key, fullW_key]
    · rw [if_neg (by omega), fullW_ptr, fullW_ptr]
  split at h
  · cases h
    rcases word_cases hk with h8 | ⟨u, hu, rfl⟩ | ⟨u, hu, rfl⟩
    · rcases low_cases h8 with rfl | rfl | rfl | rfl | rfl | rfl | rfl | rfl <;> first | (rw [if_neg (by omega)]; rfl) | (rw [if_pos (by omega)]; rfl)
    · rw [if_neg (by omega), fullW_key, fullW_key]
    · rw [if_neg (by omega), fullW_ptr, fullW_ptr]
  split at h
  · cases h
    rcases word_cases hk with h8 | ⟨u, hu, rfl⟩ | ⟨u, hu, rfl⟩
    · rcases low_cases h8 with rfl | rfl | rfl | rfl | rfl | rfl | rfl | rfl <;> first | (rw [if_neg (by omega)]; rfl) | (rw [if_pos (by omega)]; rfl)
    · rw [if_neg (by omega), fullW_key, fullW_key]
    · rw [if_neg (by omega), fullW_ptr, fullW_ptr]
  split at h
  · cases h
  rename_i h64
  split at h
  · rename_i hm
    cases h
    rcases word_cases hk with h8 | ⟨u, hu, rfl⟩ | ⟨u, hu, rfl⟩
    · rw [if_neg (by omega)]
      rcases low_cases h8 with rfl | rfl | rfl | rfl | rfl | rfl | rfl | rfl <;> rfl
    · rw [fullW_key, fullW_key]
      by_cases e : u = ((at_ - base - 64) / 16).toNat
      · rw [if_pos (by omega), e]; exact withK_eq _ _ _
      · rw [if_neg (by omega)]; exact withK_ne _ _ e
    · rw [if_neg (by omega), fullW_ptr, fullW_ptr]; rfl
  · rename_i hm
    cases h
    rcases word_cases hk with h8 | ⟨u, hu, rfl⟩ | ⟨u, hu, rfl⟩
    · rw [if_neg (by omega)]
      rcases low_cases h8 with rfl | rfl | rfl | rfl | rfl | rfl | rfl | rfl <;> rfl
    · rw [if_neg (by omega), fullW_key, fullW_key]; rfl
    · rw [fullW_ptr, fullW_ptr]
      by_cases e : u = ((at_ - base - 64) / 16).toNat
      · rw [if_pos (by omega), e]; exact withP_eq _ _ _
      · rw [if_neg (by omega)]; exact withP_ne _ _ e
/-- what a word is behind stores of that history -/
def valAt (v : Int) (h : List Int) : Int := h.getLast?.getD v
theorem applyL_word {base : Int} : ∀ {L : List (Int × Int)} {m q : Nd}, applyL base m L = some q → ∀ {k : Nat}, k < 24 → fullW q k = valAt (fullW m k) (hist (base + 8 * (k : Int)) L) ∧ q.lv = m.lv
  | [], m, q, h, k, hk => by cases h; exact ⟨rfl, rfl⟩
  | s :: L, m, q, h, k, hk => by
    unfold applyL at h
    cases hp : putA base m s.1 s.2 with
    | none => rw [hp] at h; cases h
    | some r =>
      rw [hp] at h
      obtain ⟨h1, h2⟩ := applyL_word (L := L) h hk
      refine ⟨?_, h2.trans (putA_lv hp)⟩
      rw [h1, putA_word hp hk, hist_cons]
      unfold valAt
      by_cases e : s.1 = base + 8 * (k : Int)
      · rw [if_pos e, if_pos e]
        cases hist (base + 8 * (k : Int)) L with
        | nil => rfl
        | cons a r => simp [List.getLast?_cons]
      · rw [if_neg e, if_neg e]; rfl
theorem no_back {H p r : List Int} {v x : Int} (h : Okh v H) (e : H = p ++ x :: r) (hne : x ≠ valAt v p) : ∀ p' r', p = p' ++ r' → valAt v p' ≠ x := by
  intro p' r' e'
  rcases h with rfl | ⟨y, rfl⟩ | ⟨y, z, rfl, hz⟩
  · cases p <;> cases e
  · cases p with
    | nil =>
      cases p' with
      | nil => exact fun q => hne q.symm
      | cons a b => cases e'
    | cons a b => cases b <;> cases e
  · cases p with
    | nil =>
      cases p' with
      | nil => exact fun q => hne q.symm
      | cons a b => cases e'
    | cons a b =>
      cases b with
      | cons c d => cases d <;> cases e
      | nil =>
        cases e
        cases p' with
        | nil => exact fun q => hz.elim (fun h1 => h1 q.symm) (fun h1 => hne h1)
        | cons c d =>
          cases d with
          | cons f g => cases e'
          | nil => cases e'; exact fun q => hne q.symm

/-- the node behind so many stores -/
def ndAt (base : Int) (n : Nd) (L : List (Int × Int)) (t : Nat) : Nd := (applyL base n (L.take t)).getD nd0
theorem ndAt_zero (base : Int) (n : Nd) (L : List (Int × Int)) : ndAt base n L 0 = n := rfl
theorem ndAt_some {base : Int} {n m3 : Nd} {L : List (Int × Int)} (h : applyL base n L = some m3) (t : Nat) : applyL base n (L.take t) = some (ndAt base n L t) := by
  unfold ndAt
  cases he : applyL base n (L.take t) with
  | some m => rfl
  | none => rw [applyL_bad base L n t he] at h; cases h
theorem ndAt_next {base : Int} {n m3 : Nd} {L : List (Int × Int)} (h : applyL base n L = some m3) (t : Nat) (ht : t < L.length) : putA base (ndAt base n L t) (eK L t) (eP L t) = some (ndAt base n L (t + 1)) := by
  rw [← applyL_next base L n _ t ht (ndAt_some h t)]
  exact ndAt_some h (t + 1)
theorem ndAt_word {base : Int} {n m3 : Nd} {L : List (Int × Int)} (h : applyL base n L = some m3) (hl : 0 ≤ n.lv ∧ n.lv ≤ 15) (t : Nat) {k : Nat} (hk : k < 24) :
    wordsF (ndAt base n L t) k = valAt (fullW n k) (hist (base + 8 * (k : Int)) (L.take t)) := by
  obtain ⟨h1, h2⟩ := applyL_word (ndAt_some h t) hk
  rw [words_full (by rw [h2]; exact hl) hk, h1]
/-- a word that a store changes was never what it is then -/
theorem never_back {base : Int} {n m3 : Nd} {L : List (Int × Int)} (h : applyL base n L = some m3) (hl : 0 ≤ n.lv ∧ n.lv ≤ 15) {k : Nat} (hk : k < 24) (ho : Okh (fullW n k) (hist (base + 8 * (k : Int)) L))
    {t : Nat} (ht : t < L.length) (hne : wordsF (ndAt base n L (t + 1)) k ≠ wordsF (ndAt base n L t) k) : ∀ j, j ≤ t → wordsF (ndAt base n L j) k ≠ wordsF (ndAt base n L (t + 1)) k := by
  intro j hj
  rw [ndAt_word h hl _ hk, ndAt_word h hl _ hk] at hne ⊢
  have e1 : hist (base + 8 * (k : Int)) (L.take (t + 1)) = hist (base + 8 * (k : Int)) (L.take t) ++ (if eK L t = base + 8 * (k : Int) then [eP L t] else []) := by
    rw [take_ent L t ht, hist_app, hist_one]
  by_cases he : eK L t = base + 8 * (k : Int)
  · rw [if_pos he] at e1
    have e2 : hist (base + 8 * (k : Int)) L = hist (base + 8 * (k : Int)) (L.take t) ++ eP L t :: hist (base + 8 * (k : Int)) (L.drop (t + 1)) := by
      conv => lhs; rw [← List.take_append_drop (t + 1) L, hist_app, e1]
      simp
    have e3 : valAt (fullW n k) (hist (base + 8 * (k : Int)) (L.take (t + 1))) = eP L t := by rw [e1]; unfold valAt; simp
    rw [e3] at hne ⊢
    have e4 : hist (base + 8 * (k : Int)) (L.take t) = hist (base + 8 * (k : Int)) (L.take j) ++ hist (base + 8 * (k : Int)) ((L.take t).drop j) := by
      conv => lhs; rw [← List.take_append_drop j (L.take t), hist_app, List.take_take, Nat.min_eq_left hj]
    exact no_back ho e2 hne _ _ e4
  · rw [if_neg he, List.append_nil] at e1
    exact absurd (by rw [e1]) hne

theorem mid_okh {base : Int} {n : Nd} (hw : n.Wf) {mid : List (Int × Int)} (h : MidOk base n mid) {k : Nat} (hk : k < 24) : Okh (fullW n k) (hist (base + 8 * (k : Int)) ((base + 24, cOne n) :: (mid ++ [(base + 24, cTwo n)]))) := by
  rw [hist_cons, hist_app, hist_one]
  by_cases h3 : k = 3
  · subst h3
    rw [if_pos (by omega), if_pos (by omega), show base + 8 * ((3 : Nat) : Int) = base + 24 from by omega, h.ct]
    refine okh_two (.inl ?_)
    have := u64_bounds hw.ct
    show cTwo n ≠ n.ct
    unfold cTwo
    rw [IntKind.wrap_u64]
    omega
  · rw [if_neg (by omega), if_neg (by omega), List.append_nil, List.nil_append]
    rcases word_cases hk with h8 | ⟨u, hu, rfl⟩ | ⟨u, hu, rfl⟩
    · exact h.low _ (by omega) _
    · rw [show base + 8 * ((8 + 2 * u : Nat) : Int) = base + 64 + 16 * (u : Int) from by omega]; exact h.key u hu _
    · rw [show base + 8 * ((9 + 2 * u : Nat) : Int) = base + 64 + 16 * (u : Int) + 8 from by omega, fullW_ptr]; exact h.ptr u hu

/-- all that FastOnce asks of a change that is made -/
theorem once_plain {base : Int} {n : Nd} (hw : n.Wf) {kd key ptr : Int} (hk : kd = 0 ∨ kd = 1 ∨ kd = 2 ∨ kd = 3 ∨ kd = 4 ∨ kd = 5) (hc : madeC base n kd key ptr = 0) {m3 : Nd} (h : applyL base n (madeL base n kd key ptr) = some m3) (hl : 0 ≤ n.lv ∧ n.lv ≤ 15) :
    (∀ t, t < (madeL base n kd key ptr).length → (ndAt base n (madeL base n kd key ptr) (t + 1)).ct = if t + 1 < (madeL base n kd key ptr).length then cOne n else cTwo n) ∧
    ∀ t k, t < (madeL base n kd key ptr).length → k < 24 → wordsF (ndAt base n (madeL base n kd key ptr) (t + 1)) k ≠ wordsF (ndAt base n (madeL base n kd key ptr) t) k →
      ∀ j, j ≤ t → wordsF (ndAt base n (madeL base n kd key ptr) j) k ≠ wordsF (ndAt base n (madeL base n kd key ptr) (t + 1)) k := by
  obtain ⟨mid, e, hm⟩ := once_all hk hc
  refine ⟨fun t ht => ?_, fun t k ht hk2 hne => never_back h hl hk2 (by rw [e]; exact mid_okh hw hm hk2) ht hne⟩
  have h1 := (applyL_word (ndAt_some h (t + 1)) (k := 3) (by omega)).1
  have h2 : fullW (ndAt base n (madeL base n kd key ptr) (t + 1)) 3 = (ndAt base n (madeL base n kd key ptr) (t + 1)).ct := rfl
  rw [← h2, h1, show base + 8 * ((3 : Nat) : Int) = base + 24 from by omega]
  rw [e] at ht ⊢
  have hlen : ((base + 24, cOne n) :: (mid ++ [(base + 24, cTwo n)])).length = mid.length + 2 := by simp
  rw [hlen] at ht ⊢
  by_cases hlt : t + 1 < mid.length + 2
  · rw [if_pos hlt]
    have ht3 : List.take (t + 1) ((base + 24, cOne n) :: (mid ++ [(base + 24, cTwo n)])) = (base + 24, cOne n) :: mid.take t := by
      rw [List.take_succ_cons, List.take_append_of_le_length (by omega)]
    have h0 : hist (base + 24) (mid.take t) = [] := by
      have := hm.ct
      rw [← List.take_append_drop t mid, hist_app] at this
      exact (List.append_eq_nil_iff.1 this).1
    rw [ht3, hist_cons, if_pos rfl, h0]
    rfl
  · rw [if_neg hlt, List.take_of_length_le (by rw [hlen]; omega), hist_cons, hist_app, hist_one, if_pos rfl, if_pos rfl, hm.ct]
    rfl
end Go.Proofs.Ytbpaefhihdhdeaa
namespace Go.Proofs.Ytbpaefhihdhdeaa
open Go.RowKit
set_option linter.unusedVariables false

def wcs (f : Nat → Nat → Int) (t : Nat) : List Value := (List.range t).flatMap (fun j => wdList (f j))
theorem wcs_zero (f : Nat → Nat → Int) : wcs f 0 = [] := rfl
theorem wcs_succ (f : Nat → Nat → Int) (t : Nat) : wcs f (t + 1) = wcs f t ++ wdList (f t) := by
  unfold wcs; rw [List.range_succ, List.flatMap_append]; simp
theorem wcs_len (f : Nat → Nat → Int) : ∀ t, (wcs f t).length = t * 24
  | 0 => rfl
  | t + 1 => by rw [wcs_succ, List.length_append, wcs_len f t, wdList_len]; omega
theorem wcs_get (f : Nat → Nat → Int) : ∀ t j k, j < t → k < 24 → (wcs f t)[j * 24 + k]? = some (.int .u64 (f j k))
  | 0, j, k, hj, hk => by omega
  | t + 1, j, k, hj, hk => by
    rw [wcs_succ]
    by_cases h : j < t
    · rw [List.getElem?_append_left (by rw [wcs_len]; omega)]
      exact wcs_get f t j k h hk
    · have e : j = t := by omega
      subst e
      rw [List.getElem?_append_right (by rw [wcs_len]; omega), wcs_len, wdList_get, show j * 24 + k - j * 24 = k from by omega, if_pos hk]
theorem wdList_one (f : Nat → Int) : ∀ u ∈ wdList f, u.oneCell' = true := by
  intro u hu
  unfold wdList at hu
  simp only [List.mem_map] at hu
  obtain ⟨_, _, rfl⟩ := hu
  rfl
/-- what the slice's places hold -/
def WordsAt (W : World) (g : Nat) (f : Nat → Nat → Int) (t : Nat) : Prop := ∀ j k, j < t → k < 24 → W.cell? ⟨g, j * 24 + k, none⟩ = some (.int .u64 (f j k))
theorem own_words {w : World} {base : Nat} {e : TypeId} {v : Value} {t : Nat} {f : Nat → Nat → Int} (h : w.ownsRow base e 24 v t (wcs f t)) (hp : 0 < t) :
    ∃ g cap, v = .slice (some ⟨g, 0, none⟩) t cap ∧ base ≤ g ∧ g < w.heap.size ∧ t ≤ cap ∧ cap ≤ maxLen ∧ WordsAt w g f t := by
  obtain ⟨g, cap, h1, h2, h3, h4, h5, _, h7, _⟩ := own_shapeK h hp
  exact ⟨g, cap, h1, h2, h3, h4, h5, fun j k hj hk => (h7 (j * 24 + k) (by omega)).trans (wcs_get f t j k hj hk)⟩
theorem own_wcs_zero (w : World) (B : Nat) (e : TypeId) (f : Nat → Nat → Int) : w.ownsRow B e 24 (.slice none 0 0) 0 (wcs f 0) := World.ownsRow_nil w B e 24
theorem WordsAt.below {W W' : World} {g t B : Nat} {f : Nat → Nat → Int} (h : WordsAt W g f t) (hB : Below B W W') (hg : g < B) : WordsAt W' g f t :=
  fun j k hj hk => (hB.cell (p := ⟨g, j * 24 + k, none⟩) hg).trans (h j k hj hk)
set_option maxRecDepth 100000 in
theorem run_buildSlice_wd (f : Nat → Int) (w : World) : (Instr.buildSlice 53 1 #[(0, .agg (wdCells f))]).run Try.prog w = .ok (.slice (some ⟨w.heap.size, 0, none⟩) 1 1) (w.alloc (.cells (wdCells f) 54)) := by
  rw [wdLit]
  kernel_rfl
theorem wpList_buildSlice_wd {ops : Array Oper} {rest : List Oper} {o : Oper} {a : Act} {w : World} {Q : Exit → Act → World → Prop} (hgd : o.guard = none) (x : Operand) (ho : o.op = .buildSlice 53 1 #[(0, x)]) (f : Nat → Int) (hx : a.eval x = .agg (wdCells f)) (H : Nat) (hH : w.heap.size = H)
    (h : wpList Try.prog ops Q rest (a.put o.dst (.slice (some ⟨H, 0, none⟩) 1 1)) (w.alloc (.cells (wdCells f) 54))) : wpList Try.prog ops Q (o :: rest) a w := by
  subst hH
  exact wpList_plain hgd fun _ hK => by
    unfold Oper.wp execOp
    simp only [ho, List.map_toArray, List.map_cons, List.map_nil, hx, Sem.run_bind, run_buildSlice_wd, Result.andThen_ok, Sem.run_pure]
    exact hK _ _ h
theorem infoW24 : ∃ i, Try.prog.info? 54 = some i ∧ i.zero = some (.agg (wdCells (fun _ => 0))) ∧ i.size = 24 ∧ i.bytes = 192 := by
  have h1 : ((Try.prog.info? 54).map (·.size)) = some 24 := by kernel_rfl
  have h2 : ((Try.prog.info? 54).map (·.bytes)) = some 192 := by kernel_rfl
  have h3 : ((Try.prog.info? 54).bind (·.zero)) = some (.agg (wdCells (fun _ => 0))) := by kernel_rfl
  cases h : Try.prog.info? 54 with
  | none => rw [h] at h1; cases h1
  | some i =>
    rw [h] at h1 h2 h3
    exact ⟨i, rfl, h3, Option.some.inj h1, Option.some.inj h2⟩
theorem wpList_append_wd {ops : Array Oper} {rest : List Oper} {o : Oper} {a : Act} {w : World} {Q : Exit → Act → World → Prop} (hgd : o.guard = none) (s x : Operand)
    (ho : o.op = .call { callee := .builtin .append, args := #[s, x], argTypes := #[53, 53] }) (B : Nat) (v : Value) (t : Nat) (f : Nat → Nat → Int) (hs : a.eval s = v) (hown : w.ownsRow B 54 24 v t (wcs f t))
    (H : Nat) (hx : a.eval x = .slice (some ⟨H, 0, none⟩) 1 1) (hb : Blk w H (wdCells (f t)) 54) (ht : t ≤ 1000) (hB : B ≤ w.heap.size)
    (h : ∀ v' w', w'.ownsRow B 54 24 v' (t + 1) (wcs f (t + 1)) → w.grownBy w' v.ownBlock → wpList Try.prog ops Q rest (a.put o.dst v') w') : wpList Try.prog ops Q (o :: rest) a w := by
  obtain ⟨i0, hi, hz0, hz1, hz2⟩ := infoW24
  refine wpList_append_own_at w hgd s x 53 ho B 54 i0 _ 24 192 Try.underlying53 hi hz0 hz1 hz2 (by rfl) (by decide) v t (wcs f t) hs hown ⟨H, 0, none⟩ 1 1 (wdList (f t)) hx (by rw [wdList_len])
    (fun j u hj => ?_) (wdList_one (f t)) (by unfold maxLen; omega) (by omega) hB (fun v' w' h1 h2 _ _ => h v' w' (by rw [wcs_succ]; exact h1) h2)
  have := wdLoad hb j u (by unfold wdCells; simpa using hj)
  rw [Nat.zero_add] at this
  unfold Addr.add
  by_cases h0 : j = 0
  · subst h0; simpa using this
  · simpa [h0] using this
end Go.Proofs.Ytbpaefhihdhdeaa
namespace Go.Proofs.Ytbpaefhihdhdeaa
open Go.RowKit
set_option linter.unusedVariables false

theorem fold_wd (f : Nat → Int) : Array.foldl (fun (cs : Array Value) (x : Value × Nat) => cs.setIfInBounds x.snd x.fst) #[Value.int .u64 0, Value.int .u64 0, Value.int .u64 0, Value.int .u64 0, Value.int .u64 0, Value.int .u64 0, Value.int .u64 0, Value.int .u64 0, Value.int .u64 0, Value.int .u64 0, Value.int .u64 0, Value.int .u64 0, Value.int .u64 0, Value.int .u64 0, Value.int .u64 0, Value.int .u64 0, Value.int .u64 0, Value.int .u64 0, Value.int .u64 0, Value.int .u64 0, Value.int .u64 0, Value.int .u64 0, Value.int .u64 0, Value.int .u64 0] (wdCells f).zipIdx 0 (wdCells f).size = wdCells f := by
  rw [wdLit]; kernel_rfl
theorem own_rowOther {B b k : Nat} {e : TypeId} {v : Value} {n : Nat} {xs : List Value} {W : World} (h : W.ownsRow B e k v n xs) (hb : b < B) (C : Array Value) : (W.setRow b C).ownsRow B e k v n xs := by
  obtain ⟨hl, h0 | ⟨g, cap, cur, hv, hg, hh, h1⟩⟩ := h
  · exact ⟨hl, .inl h0⟩
  · exact ⟨hl, .inr ⟨g, cap, cur, hv, hg, by rw [setRow_other W b g C (by omega)]; exact hh, h1⟩⟩
theorem own_words_at {W : World} {B g t cap : Nat} {e : TypeId} {f : Nat → Nat → Int} (h : W.ownsRow B e 24 (.slice (some ⟨g, 0, none⟩) t cap) t (wcs f t)) (hp : 0 < t) : WordsAt W g f t ∧ B ≤ g ∧ g < W.heap.size ∧ t ≤ maxLen := by
  obtain ⟨g', cap', hv, h1, h2, h3, h4, h5⟩ := own_words h hp
  injection hv with a b c
  injection a with a
  injection a with a
  subst a
  exact ⟨h5, h1, h2, Nat.le_trans h3 h4⟩
theorem wcLoad {W : World} {g t k : Nat} {f : Nat → Nat → Int} (h : WordsAt W g f t) (hk : k < t) : ∀ j v, (wdCells (f k))[j]? = some v → W.cell? ⟨g, k * 24 + j, none⟩ = some v := by
  intro j v hv
  by_cases hj : j < 24
  · rw [wdCells_get _ _ hj] at hv
    rw [← hv]
    exact h k j hk hj
  · rw [Array.getElem?_eq_none (by rw [wdCells_size]; omega)] at hv
    cases hv

/-- the worlds of the law -/
structure OnW (w : World) (b4 gL B : Nat) (L : List (Int × Int)) (m : Nd) (v : Value) (f : Nat → Nat → Int) (t : Nat) (W : World) : Prop where
  n : Blk W b4 (ndCells m) 27
  l : EntsAt W gL 0 L
  s : W.ownsRow B 54 24 v t (wcs f t)
  b : Below w.heap.size w W
  lb : w.heap.size ≤ b4
  lg : b4 < gL
  gb : gL < B
  sz : B ≤ W.heap.size
section
variable {w W W' : World} {b4 gL B : Nat} {L : List (Int × Int)} {m m' : Nd} {v v' : Value} {f : Nat → Nat → Int} {t : Nat}
theorem OnW.keep (h : OnW w b4 gL B L m v f t W) (hB : Below W.heap.size W W') : OnW w b4 gL B L m v f t W' :=
  ⟨h.n.below hB h.n.lt, h.l.below hB (by have := h.gb; have := h.sz; omega), own_below h.s hB, h.b.trans (hB.mono h.b.size), h.lb, h.lg, h.gb, Nat.le_trans h.sz hB.size⟩
theorem OnW.set (h : OnW w b4 gL B L m v f t W) : OnW w b4 gL B L m' v f t (W.setRow b4 (ndCells m')) :=
  ⟨h.n.row _, fun i hi => by
    have hne : gL ≠ b4 := by have := h.lg; omega
    obtain ⟨a, b⟩ := h.l i hi
    exact ⟨(World.cell?_of_block (w := W) (a := ⟨gL, 0 + i * 2, none⟩) (setRow_other W b4 gL _ hne)).trans a, (World.cell?_of_block (w := W) (a := ⟨gL, 0 + i * 2 + 1, none⟩) (setRow_other W b4 gL _ hne)).trans b⟩,
   own_rowOther h.s (by have := h.lg; have := h.gb; omega) _, below_setRow h.b h.lb _, h.lb, h.lg, h.gb, by rw [setRow_size]; exact h.sz⟩
theorem OnW.app {C : Array Value} {T : TypeId} (h : OnW w b4 gL B L m v f t W) (ho : W'.ownsRow B 54 24 v' (t + 1) (wcs f (t + 1))) (hg : (W.alloc (.cells C T)).grownBy W' v.ownBlock) : OnW w b4 gL B L m v' f (t + 1) W' := by
  have hB : Below B W W' := ((Below.refl B W).alloc h.sz _).grown hg (by simp; have := h.sz; omega) (fun r e => own_base h.s r e)
  have h1 := h.lb
  have h2 := h.lg
  have h3 := h.gb
  exact ⟨h.n.below hB (by omega), h.l.below hB h.gb, ho, h.b.trans (hB.mono (by omega)), h.lb, h.lg, h.gb, Nat.le_trans h.sz hB.size⟩
/-- the worlds of the inner loops: the words of now and of the last time, too -/
structure OnI (w : World) (b4 gL B : Nat) (L : List (Int × Int)) (m : Nd) (v : Value) (f : Nat → Nat → Int) (t : Nat) (H1 H2 : Nat) (x y : Nat → Int) (W : World) : Prop where
  o : OnW w b4 gL B L m v f t W
  x : Blk W H1 (wdCells x) 54
  y : Blk W H2 (wdCells y) 54
variable {H1 H2 : Nat} {x y : Nat → Int}
theorem OnI.keep (h : OnI w b4 gL B L m v f t H1 H2 x y W) (hB : Below W.heap.size W W') : OnI w b4 gL B L m v f t H1 H2 x y W' :=
  ⟨h.o.keep hB, h.x.below hB h.x.lt, h.y.below hB h.y.lt⟩
end
theorem wdCell {w : World} {b : Nat} {f : Nat → Int} {t : TypeId} (hb : Blk w b (wdCells f) t) {j : Nat} (hj : j < 24) : w.cell? ⟨b, j, none⟩ = some (.int .u64 (f j)) := by
  have := wdLoad hb j _ (wdCells_get f j hj)
  rwa [Nat.zero_add] at this
theorem c12_ne (c : Int) : IntKind.u64.wrap (c + 1) ≠ IntKind.u64.wrap (c + 2) := by
  intro h
  simp [IntKind.wrap, IntKind.signed, IntKind.bits] at h
  omega
/-- the loops -/
def OnRel (base : Int) (n : Nd) (w : World) (b4 gL B : Nat) (Ls : List (Int × Int)) (f : Nat → Nat → Int) (sv iv : Value) (W : World) : Prop :=
  ∃ k g cap, k ≤ Ls.length ∧ iv = .int .i64 ((k : Nat) : Int) ∧ sv = .slice (some ⟨g, 0, none⟩) (k + 1) cap ∧ OnW w b4 gL B Ls (ndAt base n Ls k) sv f (k + 1) W
def OnQ (w : World) (b4 gL B : Nat) (L : List (Int × Int)) (m : Nd) (v : Value) (f : Nat → Nat → Int) (t : Nat) (H1 H2 : Nat) (x y : Nat → Int) (bound : Nat) (qv : Value) (W : World) : Prop :=
  ∃ q : Nat, q ≤ bound ∧ qv = .int .i64 (q : Int) ∧ OnI w b4 gL B L m v f t H1 H2 x y W
end Go.Proofs.Ytbpaefhihdhdeaa
namespace Go.Proofs.Ytbpaefhihdhdeaa
open Go.RowKit
set_option linter.unusedVariables false

set_option maxRecDepth 100000 in
set_option maxHeartbeats 1600000 in
theorem once_err (base : Int) (n : Nd) (kind key ptr : Int) (w : World) (hc : madeC base n (kdOf kind) key ptr ≠ 0) :
    Calls Try.prog 7 #[.int .u64 base, .agg (ndCells n), .agg (askC kind key ptr)] w fun e w' => e = .returned (.bool true) ∧ Below w.heap.size w w' := by
  have HI := Lib.hid (info27 n)
  have hk0 : Blk ((w.alloc (.cells (ndCells n) 27)).alloc (.cells (askC kind key ptr) 39)) w.heap.size (ndCells n) 27 := (Blk.new w _ _).alloc _
  have hg0 : Blk ((w.alloc (.cells (ndCells n) 27)).alloc (.cells (askC kind key ptr) 39)) (w.heap.size + 1) (askC kind key ptr) 39 := by
    have := Blk.new (w.alloc (.cells (ndCells n) 27)) (askC kind key ptr) 39
    simpa using this
  have HL0 := Lib.hid (ndLoad hk0)
  have HB0 := Lib.hid (((Below.refl w.heap.size w).alloc (Nat.le_refl _) (.cells (ndCells n) 27)).alloc (by simp) (.cells (askC kind key ptr) 39))
  have HMd := Lib.hid (fun w => made_v base n kind key ptr w)
  obtain ⟨C, hC⟩ : ∃ l, madeC base n (kdOf kind) key ptr = l := ⟨_, rfl⟩
  rw [hC] at HMd hc
  have q1 : (C != 0) = true := bne_iff_ne.2 hc
  clear hk0 hg0 hC hc
  unfold askC at *
  go_enter Try.func7, Try.ntmps7
  go_wp2_with (with_reducible refine wpList_load_part (o := ⟨some 20, _, _, _, _, _⟩) rfl 27 _ rfl w.heap.size 0 rfl (ndCells n) _ HL0.out Try.underlying27 rfl HI.out ?_)
  refine (HMd.out _).mono ?_
  rintro e w1 ⟨a1, m1, c1, rfl, hm1, ho1, hB⟩
  have HB1 := Lib.hid (HB0.out.trans (hB.mono HB0.out.size))
  clear hB hm1 ho1
  go_wp2_with (fail)
  refine (known_v _).mono ?_
  rintro e w2 ⟨rfl, hB⟩
  have HB2 := Lib.hid (HB1.out.trans (hB.mono HB1.out.size))
  clear hB
  go_wp2_with (fail)
  go_ret
  exact ⟨rfl, HB2.out⟩


set_option maxRecDepth 100000 in
set_option maxHeartbeats 6400000 in
theorem once_ok (base : Int) (n : Nd) (hw : n.Wf) (kind key ptr : Int) (w : World) (hc : madeC base n (kdOf kind) key ptr = 0) :
    Calls Try.prog 7 #[.int .u64 base, .agg (ndCells n), .agg (askC kind key ptr)] w fun e w' => e = .returned (.bool true) ∧ Below w.heap.size w w' := by
  obtain ⟨m3, hap, _, _, _⟩ := traj_apply (traj_all (kdOf_lt kind) hc)
  have hmy := made_may (kdOf_lt kind) hc
  obtain ⟨lv0, lv15, _, _, _⟩ := may_parts hmy
  obtain ⟨hct, hback⟩ := once_plain hw (kdOf_lt kind) hc hap ⟨lv0, lv15⟩
  have hS := made_stands (kdOf_lt kind) hc
  have hpos := made_pos (kdOf_lt kind) hc
  have HI := Lib.hid (info27 n)
  have hk0 : Blk ((w.alloc (.cells (ndCells n) 27)).alloc (.cells (askC kind key ptr) 39)) w.heap.size (ndCells n) 27 := (Blk.new w _ _).alloc _
  have HK0 := Lib.hid hk0
  have HL0 := Lib.hid (ndLoad hk0)
  have HB0 := Lib.hid (((Below.refl w.heap.size w).alloc (Nat.le_refl _) (.cells (ndCells n) 27)).alloc (by simp) (.cells (askC kind key ptr) 39))
  have HMd := Lib.hid (fun w => made_v base n kind key ptr w)
  have HLn := Lib.hid (show (madeL base n (kdOf kind) key ptr).length ≤ 100 by have := made_len9 base n (kdOf kind) key ptr; omega)
  obtain ⟨Ls, hL⟩ : ∃ l, madeL base n (kdOf kind) key ptr = l := ⟨_, rfl⟩
  rw [hL] at HMd hpos HLn hct hback hap
  rw [hc] at HMd
  have HS := Lib.hid hS
  have HCt := Lib.hid hct
  have HBack := Lib.hid hback
  have HApL := Lib.hid hap
  have HWd := Lib.hid (fun w => rwords_v n hw w)
  have HAsk := Lib.hid (show askC kind key ptr = #[.int .i64 kind, .int .u64 key, .int .u64 ptr] from rfl)
  clear hk0 hL hc hS hct hback hap hmy lv0 lv15
  rw [HAsk.out] at HMd HL0 HB0 HK0 ⊢
  obtain ⟨w0, hw0⟩ : ∃ x, (w.alloc (.cells (ndCells n) 27)).alloc (.cells #[.int .i64 kind, .int .u64 key, .int .u64 ptr] 39) = x := ⟨_, rfl⟩
  have HB00 := Lib.hid (show w.heap.size < w0.heap.size by rw [← hw0]; simp; omega)
  have HW0 := Lib.hid hw0
  clear hw0
  go_enter Try.func7, Try.ntmps7
  go_wp2_with (with_reducible refine wpList_load_part (o := ⟨some 20, _, _, _, _, _⟩) rfl 27 _ rfl w.heap.size 0 rfl (ndCells n) _ HL0.out Try.underlying27 rfl HI.out ?_)
  rw [HW0.out] at HL0 HB0 HK0 ⊢
  refine (HMd.out _).mono ?_
  rintro e w1 ⟨a1, m1, cL, rfl, hm1, ho1, hB⟩
  subst hm1
  obtain ⟨gL, cp, ev, hg1, hg2, _, _, hEL⟩ := own_ents ho1 rfl hpos
  cases ev
  have HK1 := Lib.hid (HK0.out.below hB HK0.out.lt)
  have HE1 := Lib.hid hEL
  have HB1 := Lib.hid (HB0.out.trans (hB.mono HB0.out.size))
  have HG1 := Lib.hid (show w.heap.size < gL from Nat.lt_of_lt_of_le HB00.out hg1)
  have HG2 := Lib.hid hg2
  have HLe := Lib.hid (Nat.le_refl w.heap.size)
  obtain ⟨b4, hb4⟩ : ∃ x, w.heap.size = x := ⟨_, rfl⟩
  rw [hb4] at HK1 HG1 ⊢
  have HLb := Lib.hid (show w.heap.size ≤ b4 by omega)
  have HL1 := Lib.hid (ndLoad HK1.out)
  have c3 : w1.cell? ⟨b4, 3, none⟩ = some (.int .u64 n.ct) := by rw [HK1.out.cell]; rfl
  clear hB ho1 hEL hg1 hg2 HMd HL0 HB0 HK0 hb4 HB00 HLe
  have HKn := Lib.hid (fun w => known_v w)
  have q00 : ((0 : Int) != 0) = false := rfl
  obtain ⟨f, hf⟩ : ∃ z, (fun j => wordsF (ndAt base n Ls j)) = z := ⟨_, rfl⟩
  have HF := Lib.hid (show ∀ j, f j = wordsF (ndAt base n Ls j) from fun j => by rw [← hf])
  have hf0 : wordsF n = f 0 := by rw [HF.out]; rfl
  rw [hf0] at HWd
  obtain ⟨B, hBz⟩ : ∃ x, w1.heap.size = x := ⟨_, rfl⟩
  rw [hBz] at HG2
  have HBz := Lib.hid hBz
  clear hf hf0 hBz
  go_wp2_with (with_reducible refine wpList_load_part (o := ⟨some 31, _, _, _, _, _⟩) rfl 27 _ rfl b4 0 rfl (ndCells n) _ HL1.out Try.underlying27 rfl HI.out ?_)
  refine (HWd.out _).mono ?_
  rintro e w2 ⟨rfl, hB⟩
  rw [HBz.out] at hB
  have HK2 := Lib.hid (HK1.out.below hB (by have := HG1.out; have := HG2.out; omega))
  have HE2 := Lib.hid (HE1.out.below hB HG2.out)
  have HB2 := Lib.hid (HB1.out.trans (hB.mono (by rw [← HBz.out]; exact HB1.out.size)))
  have hs2 : B ≤ w2.heap.size := by have := hB.size; rw [HBz.out] at this; exact this
  have HS2 := Lib.hid hs2
  have HBn := Lib.hid (Blk.new w2 (wdCells (f 0)) 54)
  clear hB hs2 c3 HL1
  go_upto_region 7 with (first | (with_reducible refine wpList_buildSlice_wd (o := ⟨some 33, _, _, _, _, _⟩) ?g1 (.tmp 32) ?g2 (f 0) ?g3 w2.heap.size rfl ?_; (case g1 => rfl); (case g2 => rfl); (case g3 => rfl)) | (with_reducible refine wpList_append_wd (o := ⟨some 34, _, _, _, _, _⟩) ?k1 (.tmp 30) (.tmp 33) ?k2 B (.slice none 0 0) 0 f ?k3 ?k4 w2.heap.size ?k5 ?k8 ?k6 ?k7 ?_; (case k1 => rfl); (case k2 => rfl); (case k3 => exact ev_tmp (by simp)); (case k4 => exact own_wcs_zero _ _ _ _); (case k5 => exact ev_tmp (by simp)); (case k6 => omega)))
  case inl h =>
    have hs := wdCells_size (f 0)
    rcases h with h | h
    · exact absurd hs (of_decide_eq_true h)
    · omega
  case k8 => rw [fold_wd]; exact HBn.out
  case k7 => have := HS2.out; simp; omega
  case inr =>
    intro sv w3 hown hgrow
    rw [fold_wd] at hgrow
    have HW := Lib.hid (OnW.app (show OnW w b4 gL B Ls n (.slice none 0 0) f 0 w2 from ⟨HK2.out, HE2.out, own_wcs_zero _ _ _ _, HB2.out, HLb.out, HG1.out, HG2.out, HS2.out⟩) hown hgrow)
    obtain ⟨g0, cap0, rfl, _, _, _, _, _⟩ := own_words hown (by omega)
    clear hown hgrow HK1 HE1 HG1 HB1 HBz HK2 HE2 HB2 HS2 HBn HWd HLb HG2 HAsk
    go_wp2_with (fail)
    go_loopw [10, 11] (fun sv iv wr => OnRel base n w b4 gL B Ls f sv iv wr) (fun _ iv _ => Ls.length - (intOf iv).toNat)
    case atStart => exact ⟨0, g0, cap0, Nat.zero_le _, rfl, rfl, HW.out⟩
    case round =>
      obtain ⟨k, g, cap, hk, rfl, rfl, hW⟩ := hrel
      clear HW HI
      have HW := Lib.hid hW
      clear hW
      by_cases hlt : k < Ls.length
      · have b1 : (k : Int) < (Ls.length : Int) := by omega
        have b2 : ((k : Int)).toNat = k := by omega
        have HLt := Lib.hid hlt
        have hls := HLn.out
        obtain ⟨c1, c2⟩ := HW.out.l k hlt
        have hput := ndAt_next HApL.out k hlt
        obtain ⟨hct1, hbk⟩ : (ndAt base n Ls (k + 1)).ct = (if k + 1 < Ls.length then cOne n else cTwo n) ∧ ∀ q, q < 24 → f (k + 1) q ≠ f k q → ∀ j, j ≤ k → f j q ≠ f (k + 1) q := by
          refine ⟨HCt.out k hlt, fun q hq hne j hj => ?_⟩
          rw [HF.out, HF.out] at hne ⊢
          exact HBack.out k q hlt hq hne j hj
        have hf1 : wordsF (ndAt base n Ls (k + 1)) = f (k + 1) := (HF.out _).symm
        obtain ⟨at_, hat⟩ : ∃ x, eK Ls k = x := ⟨_, rfl⟩
        obtain ⟨x, hx⟩ : ∃ x, eP Ls k = x := ⟨_, rfl⟩
        have hwf' : (Lit.int .i64 (ndAt base n Ls (k + 1)).lv).wf = true := by rw [(applyL_word (ndAt_some HApL.out (k + 1)) (k := 0) (by omega)).2]; exact hw.lv
        rw [hat, hx] at hput
        rw [hat, Nat.zero_add] at c1
        rw [hx, Nat.zero_add] at c2
        have HN1 := Lib.hid (show ndAt base n Ls (k + 1) = ndAt base n Ls (k + 1) from rfl)
        obtain ⟨m', hm'⟩ : ∃ z, ndAt base n Ls (k + 1) = z := ⟨_, rfl⟩
        obtain ⟨m, hm⟩ : ∃ z, ndAt base n Ls k = z := ⟨_, rfl⟩
        rw [hm, hm'] at hput
        rw [hm'] at hct1 hf1 hwf'
        rw [hm] at HW
        have HM' := Lib.hid hm'
        have HAp := Lib.hid (show ∀ w, Calls Try.prog 11 #[.int .u64 base, .agg (ndCells m), .agg #[.int .u64 at_, .int .u64 x]] w fun e w' => MkP m' 0 w e w' from fun w => by
          have := rapply_v base m at_ x w HS.out
          unfold putV at this
          rwa [hput] at this)
        have HgW := Lib.hid (show gL < wr.heap.size from HW.out.l.lt (by omega))
        have HWm := Lib.hid (show ∀ w, Calls Try.prog 20 #[.agg (ndCells m')] w fun e w' => e = .returned (.agg (wdCells (f (k + 1)))) ∧ Below w.heap.size w w' from fun w => by have := rwords_lv m' hwf' w; rwa [hf1] at this)
        have HCx := Lib.hid hct1
        have HBk := Lib.hid hbk
        have HI' := Lib.hid (info27 m')
        clear hat hx hput hct1 hbk hf1 hwf' hm hm' HN1
        go_upto_region 10 with (fail)
        --GEN r_on10
        refine wp_region_valsA [Is (.int .u64 base), Is (.agg (ndCells m)), Is (.slice (some ⟨gL, 0, none⟩) Ls.length cL), Is (.int .i64 k), Is (.pointer (some ⟨gL, k * 2, none⟩)), Is (.agg #[.int .u64 at_, .int .u64 x]), Is (.tuple #[.agg (ndCells m'), .int .i64 0]), Is (.tuple #[.agg (ndCells m'), .int .i64 0]), Is (.agg (ndCells m')), Is (.int .i64 0), Any, Any, Is (.int .i64 0)]
          (fun _ W W' => Below wr.heap.size W W') (fun L a W => Below wr.heap.size wr W ∧ NewG wr.heap.size 12 10 11 m' L a W) (by kernel_rfl) (by kernel_rfl) (by kernel_rfl) ?hst ?h0 ⟨?o0, ?o1, ?o2, ?o3, ?o4, ?o5, ?o6, ?o7, ?o8, ?o9, ?o10, ?o11, ?o12, trivial⟩ ?he
        case hst =>
          exact ⟨(fun _ _ _ _ _ _ h _ => h), (fun _ _ _ _ _ _ h _ => h), (fun _ _ _ _ _ _ h _ => h), (fun _ _ _ _ _ _ h _ => h), (fun _ _ _ _ _ _ h _ => h), (fun _ _ _ _ _ _ h _ => h), (fun _ _ _ _ _ _ h _ => h), (fun _ _ _ _ _ _ h _ => h), (fun _ _ _ _ _ _ h _ => h), (fun _ _ _ _ _ _ h _ => h), (fun _ _ _ _ _ _ h _ => h), (fun _ _ _ _ _ _ h _ => h), (fun _ _ _ _ _ _ h _ => h), trivial⟩
        case h0 =>
          exact ⟨(Below.refl _ _).drew, NewG.none⟩
        case o0 =>
          intro L vs A W H hf hd K hK
          have e0 : A.tmps[0]?.getD undef = .int .u64 base := H.old 0 (by kernel_rfl)
          go_simp
          exact hK _ _ (Below.refl _ _) rfl (⟨H.glob.1, H.glob.2.keep rfl rfl (by simp) (Below.refl _ _)⟩)
        case o1 =>
          intro L vs A W H hf hd K hK
          have e4 : A.tmps[4]?.getD undef = .pointer (some ⟨b4, 0, none⟩) := H.old 4 (by kernel_rfl)
          rw [if_pos (show Region.wanted _ _ = true from rfl)]
          exact wp_load_nd _ rfl b4 m (ev_tmp e4) (HW.out.n.below H.glob.1 HW.out.n.lt) (hK _ _ (Below.refl _ _) rfl ⟨H.glob.1, H.glob.2.keep rfl rfl (by simp) (Below.refl _ _)⟩)
        case o2 =>
          intro L vs A W H hf hd K hK
          have e7 : A.tmps[7]?.getD undef = .slice (some ⟨gL, 0, none⟩) Ls.length cL := H.old 7 (by kernel_rfl)
          go_simp
          exact hK _ _ (Below.refl _ _) rfl (⟨H.glob.1, H.glob.2.keep rfl rfl (by simp) (Below.refl _ _)⟩)
        case o3 =>
          intro L vs A W H hf hd K hK
          have e11 : A.tmps[11]?.getD undef = .int .i64 k := H.old 11 (by kernel_rfl)
          go_simp
          exact hK _ _ (Below.refl _ _) rfl (⟨H.glob.1, H.glob.2.keep rfl rfl (by simp) (Below.refl _ _)⟩)
        case o4 =>
          intro L vs A W H hf hd K hK
          have e44 := H.is 2 44 rfl rfl rfl (deps_of' hd 2 (by kernel_rfl)) (by kernel_rfl)
          have e45 := H.is 3 45 rfl rfl rfl (deps_of' hd 3 (by kernel_rfl)) (by kernel_rfl)
          go_simp
          exact hK _ _ (Below.refl _ _) rfl (⟨H.glob.1, H.glob.2.keep rfl rfl (by simp) (Below.refl _ _)⟩)
        case o5 =>
          intro L vs A W H hf hd K hK
          have e46 := H.is 4 46 rfl rfl rfl (deps_of' hd 4 (by kernel_rfl)) (by kernel_rfl)
          have d1 := (H.glob.1.cell (p := ⟨gL, k * 2, none⟩) HgW.out).trans c1
          have d2 := (H.glob.1.cell (p := ⟨gL, k * 2 + 1, none⟩) HgW.out).trans c2
          go_simp
          exact hK _ _ (Below.refl _ _) rfl (⟨H.glob.1, H.glob.2.keep rfl rfl (by simp) (Below.refl _ _)⟩)
        case o6 =>
          intro L vs A W H hf hd K hK
          have e42 := H.is 0 42 rfl rfl rfl (deps_of' hd 0 (by kernel_rfl)) (by kernel_rfl)
          have e43 := H.is 1 43 rfl rfl rfl (deps_of' hd 1 (by kernel_rfl)) (by kernel_rfl)
          have e47 := H.is 5 47 rfl rfl rfl (deps_of' hd 5 (by kernel_rfl)) (by kernel_rfl)
          rw [if_pos (show Region.wanted _ _ = true from rfl)]
          go_wp2_with (fail)
          refine (HAp.out _).mono ?_
          rintro e W2 ⟨rfl, hB⟩
          exact hK _ _ (hB.mono H.glob.1.size) rfl ⟨H.glob.1.trans (hB.mono H.glob.1.size), H.glob.2.keep rfl rfl (by simp) hB⟩
        case o7 =>
          intro L vs A W H hf hd K hK
          have e48 := H.is 6 48 rfl rfl rfl (deps_of' hd 6 (by kernel_rfl)) (by kernel_rfl)
          go_simp
          exact hK _ _ (Below.refl _ _) rfl (⟨H.glob.1, H.glob.2.keep rfl rfl (by simp) (Below.refl _ _)⟩)
        case o8 =>
          intro L vs A W H hf hd K hK
          have e41 := H.is 7 41 rfl rfl rfl (deps_of' hd 7 (by kernel_rfl)) (by kernel_rfl)
          go_simp
          exact hK _ _ (Below.refl _ _) rfl (⟨H.glob.1, H.glob.2.keep rfl rfl (by simp) (Below.refl _ _)⟩)
        case o9 =>
          intro L vs A W H hf hd K hK
          have e41 := H.is 7 41 rfl rfl rfl (deps_of' hd 7 (by kernel_rfl)) (by kernel_rfl)
          go_simp
          exact hK _ _ (Below.refl _ _) rfl (⟨H.glob.1, H.glob.2.keep rfl rfl (by simp) (Below.refl _ _)⟩)
        case o10 =>
          intro L vs A W H hf hd K hK
          rw [if_pos (show Region.wanted _ _ = true from rfl)]
          have n11 := H.notYet 11 10 rfl hf (by kernel_rfl)
          have hgs := H.glob.1.size
          have hz : 12 < A.tmps.size := by rw [H.frame, fill_size]; exact of_decide_eq_true (by kernel_rfl)
          refine wp_alloc_nd rfl ?_
          exact hK _ _ ((Below.refl _ _).alloc hgs _) trivial ⟨H.glob.1.alloc hgs _, newG_alloc hz hgs n11 (by decide)⟩
        case o11 =>
          intro L vs A W H hf hd K hK
          obtain ⟨v12, e12, q12⟩ := H.val 10 12 rfl rfl rfl (deps_of' hd 10 (by kernel_rfl)) (by kernel_rfl)
          have e49 := H.is 8 49 rfl rfl rfl (deps_of' hd 8 (by kernel_rfl)) (by kernel_rfl)
          rw [if_pos (show Region.wanted _ _ = true from rfl)]
          have h10 : L 10 = true := deps_of' hd 10 (by kernel_rfl)
          obtain ⟨H2, x2, e12, hH, hb, _⟩ := H.glob.2 h10
          exact wp_store_nd _ _ rfl H2 m' x2 (ev_tmp e12) (ev_tmp e49) hb (hK _ _ (below_setRow (Below.refl _ _) hH _) trivial ⟨below_setRow H.glob.1 hH _, fun _ => ⟨H2, m', e12, hH, hb.row _, fun _ => rfl⟩⟩)
        case o12 =>
          intro L vs A W H hf hd K hK
          have e50 := H.is 9 50 rfl rfl rfl (deps_of' hd 9 (by kernel_rfl)) (by kernel_rfl)
          go_simp
          exact hK _ _ (Below.refl _ _) rfl (⟨H.glob.1, H.glob.2.keep rfl rfl (by simp) (Below.refl _ _)⟩)
        case he =>
          intro vs W hlen hv
          match vs, hlen, hv with
          | [x0_, x1_, x2_, x3_, x4_, x5_, x6_, x7_, x8_, x9_, x10_, x11_, x12_], _, hv =>
          obtain rfl : (.int .u64 base) = x0_ := by obtain ⟨z, h1, h2⟩ := hv 0 _ rfl; cases h1; exact h2.symm
          obtain rfl : (.agg (ndCells m)) = x1_ := by obtain ⟨z, h1, h2⟩ := hv 1 _ rfl; cases h1; exact h2.symm
          obtain rfl : (.slice (some ⟨gL, 0, none⟩) Ls.length cL) = x2_ := by obtain ⟨z, h1, h2⟩ := hv 2 _ rfl; cases h1; exact h2.symm
          obtain rfl : (.int .i64 k) = x3_ := by obtain ⟨z, h1, h2⟩ := hv 3 _ rfl; cases h1; exact h2.symm
          obtain rfl : (.pointer (some ⟨gL, k * 2, none⟩)) = x4_ := by obtain ⟨z, h1, h2⟩ := hv 4 _ rfl; cases h1; exact h2.symm
          obtain rfl : (.agg #[.int .u64 at_, .int .u64 x]) = x5_ := by obtain ⟨z, h1, h2⟩ := hv 5 _ rfl; cases h1; exact h2.symm
          obtain rfl : (.tuple #[.agg (ndCells m'), .int .i64 0]) = x6_ := by obtain ⟨z, h1, h2⟩ := hv 6 _ rfl; cases h1; exact h2.symm
          obtain rfl : (.tuple #[.agg (ndCells m'), .int .i64 0]) = x7_ := by obtain ⟨z, h1, h2⟩ := hv 7 _ rfl; cases h1; exact h2.symm
          obtain rfl : (.agg (ndCells m')) = x8_ := by obtain ⟨z, h1, h2⟩ := hv 8 _ rfl; cases h1; exact h2.symm
          obtain rfl : (.int .i64 0) = x9_ := by obtain ⟨z, h1, h2⟩ := hv 9 _ rfl; cases h1; exact h2.symm
          obtain rfl : (.int .i64 0) = x12_ := by obtain ⟨z, h1, h2⟩ := hv 12 _ rfl; cases h1; exact h2.symm
          intro L hall hG
          clear hv hlen
          obtain ⟨H2, x2, e12, hH, hb, hx⟩ := hG.2 (hall 10 (by decide))
          have hb2 : Blk W H2 (ndCells m') 27 := by rw [← hx (hall 11 (by decide))]; exact hb
          simp [fill, Act.put] at e12
          subst e12
          have HH := Lib.hid hb2
          have HW2 := Lib.hid (HW.out.keep hG.1)
          have HwH := Lib.hid hH
          clear hG hall hx hH hb hb2 c1 c2
          simp only [fill, if_true]
          go_simp
        --END
          have c3 : W.cell? ⟨H2, 3, none⟩ = some (.int .u64 m'.ct) := by rw [HH.out.cell]; rfl
          obtain ⟨ct', hct'⟩ : ∃ z, m'.ct = z := ⟨_, rfl⟩
          have hcx := HCx.out
          rw [hct'] at c3 hcx
          have HCw := Lib.hid (show IntKind.u64.wrap (n.ct + 1) ≠ IntKind.u64.wrap (n.ct + 2) from c12_ne n.ct)
          have hL2 := HW2.out
          clear hct' HAp
          go_upto_region 11 with (fail)
          go_cut [80] (fun s80 wx => s80 = .bool false ∧ wx = W)
          case first =>
            by_cases hlast : k + 1 < Ls.length
            · rw [if_pos hlast] at hcx
              have b3 : (k : Int) + 1 < (Ls.length : Int) := by omega
              have b5 : ¬ (k : Int) + 1 = (Ls.length : Int) := by omega
              have b6 : (((k : Int) + 1) == (Ls.length : Int)) = false := beq_eq_false_iff_ne.2 b5
              have q1 : (ct' != IntKind.u64.wrap (n.ct + 1)) = false := by rw [hcx]; exact bne_self_eq_false _
              have q2 : (ct' != IntKind.u64.wrap (n.ct + 2)) = true := by rw [hcx]; exact bne_iff_ne.2 HCw.out
              clear hcx
              go_wp2_with (fail)
              go_meet
              exact ⟨rfl, rfl⟩
            · rw [if_neg hlast] at hcx
              have b3 : ¬ (k : Int) + 1 < (Ls.length : Int) := by omega
              have b5 : (k : Int) + 1 = (Ls.length : Int) := by omega
              have b6 : (((k : Int) + 1) == (Ls.length : Int)) = true := beq_iff_eq.2 b5
              have q1 : (ct' != IntKind.u64.wrap (n.ct + 1)) = true := by rw [hcx]; exact bne_iff_ne.2 (fun e => HCw.out e.symm)
              have q2 : (ct' != IntKind.u64.wrap (n.ct + 2)) = false := by rw [hcx]; exact bne_self_eq_false _
              clear hcx
              go_wp2_with (fail)
              go_meet
              exact ⟨rfl, rfl⟩
          case rest =>
            obtain ⟨rfl, rfl⟩ := hcut
            clear hcx c3 HCw hL2
            have HLh := Lib.hid (ndLoad HH.out)
            go_upto_region 13 with (fail)
            go_upto_region 14 with (first | (with_reducible refine wpList_load_part (o := ⟨some 81, _, _, _, _, _⟩) rfl 27 _ rfl H2 0 rfl (ndCells m') _ HLh.out Try.underlying27 rfl HI'.out ?_) | ((with_reducible refine wpList_store_ndc (o := ⟨none, .store 27 (.tmp 4) (.tmp 81), _, _, _, _⟩) ?hg (.tmp 4) (.tmp 81) ?ho b4 ?cs m' m ?hx ?hy HW2.out.n ?hm ?_); (case hg => rfl); (case ho => rfl); (case hx => rfl); (case hy => rfl); (case hm => rfl)))
            have HW3 := Lib.hid (OnW.set (m' := m') HW2.out)
            obtain ⟨w4, hw4⟩ : ∃ x, wc.setRow b4 (ndCells m') = x := ⟨_, rfl⟩
            rw [hw4] at HW3 ⊢
            clear hw4 HLh HH HW2
            go_simp
            have HL4 := Lib.hid (ndLoad HW3.out.n)
            go_wp2_with (with_reducible refine wpList_load_part (o := ⟨some 82, _, _, _, _, _⟩) rfl 27 _ rfl b4 0 rfl (ndCells m') _ HL4.out Try.underlying27 rfl HI'.out ?_)
            refine (HWm.out _).mono ?_
            rintro e w5 ⟨rfl, hB⟩
            have HW5 := Lib.hid (HW3.out.keep hB)
            obtain ⟨H1, hH1⟩ : ∃ x, w5.heap.size = x := ⟨_, rfl⟩
            have HZ1 := Lib.hid hH1
            have HX0 := Lib.hid (Blk.new w5 (wdCells (fun _ => 0)) 54)
            rw [hH1] at HX0
            have HW6 := Lib.hid (HW5.out.keep (below_setRow ((Below.refl _ w5).alloc (Nat.le_refl _) (.cells (wdCells (fun _ => 0)) 54)) (Nat.le_of_eq hH1) (wdCells (f (k + 1)))))
            clear hB hH1 HL4 HW3
            go_upto_region 15 with (first | (with_reducible refine wpList_alloc_wdAt (o := ⟨some 14, _, _, _, _, _⟩) rfl rfl H1 ?hz ?_; (case hz => exact HZ1.out)) | ((with_reducible refine wpList_store_wd (o := ⟨none, .store 54 (.tmp 14) (.tmp 83), _, _, _, _⟩) ?sg (.tmp 14) (.tmp 83) ?so H1 (f (k + 1)) (fun _ => 0) ?sx ?sy HX0.out ?_); (case sg => rfl); (case so => rfl); (case sx => exact ev_tmp (by simp [Act.put])); (case sy => exact ev_tmp (by simp [Act.put]))))
            have HX6 := Lib.hid ((HX0.out).row (wdCells (f (k + 1))))
            obtain ⟨w6, hw6⟩ : ∃ x, (w5.alloc (.cells (wdCells (fun _ => 0)) 54)).setRow H1 (wdCells (f (k + 1))) = x := ⟨_, rfl⟩
            rw [hw6] at HW6 HX6 ⊢
            clear hw6 HZ1 HX0 HW5
            go_simp
            obtain ⟨hws, _, _, _⟩ := own_words_at HW6.out.s (by omega)
            have HLw := Lib.hid (wcLoad hws (show k < k + 1 by omega))
            have HIw := Lib.hid (infoWd (f k))
            obtain ⟨H3, hH3⟩ : ∃ x, w6.heap.size = x := ⟨_, rfl⟩
            have HZ1 := Lib.hid hH3
            have HX0 := Lib.hid (Blk.new w6 (wdCells (fun _ => 0)) 54)
            rw [hH3] at HX0
            have hbw := below_setRow ((Below.refl _ w6).alloc (Nat.le_refl _) (.cells (wdCells (fun _ => 0)) 54)) (Nat.le_of_eq hH3) (wdCells (f k))
            have HW7 := Lib.hid (HW6.out.keep hbw)
            have HX7 := Lib.hid (HX6.out.below hbw HX6.out.lt)
            clear hH3 hws hbw
            go_upto_region 16 with (first | (with_reducible refine wpList_load_part (o := ⟨some 89, _, _, _, _, _⟩) ?lg 54 (.tmp 88) ?lo g (k * 24) ?lx (wdCells (f k)) _ HLw.out Try.underlying54 ?lu HIw.out ?_; (case lg => rfl); (case lo => rfl); (case lx => exact ev_tmp (by simp)); (case lu => rfl)) | (with_reducible refine wpList_alloc_wdAt (o := ⟨some 15, _, _, _, _, _⟩) rfl rfl H3 ?hz ?_; (case hz => exact HZ1.out)) | ((with_reducible refine wpList_store_wd (o := ⟨none, .store 54 (.tmp 15) (.tmp 89), _, _, _, _⟩) ?sg (.tmp 15) (.tmp 89) ?so H3 (f k) (fun _ => 0) ?sx ?sy HX0.out ?_); (case sg => rfl); (case so => rfl); (case sx => exact ev_tmp (by simp [Act.put])); (case sy => exact ev_tmp (by simp [Act.put]))))
            have HY7 := Lib.hid ((HX0.out).row (wdCells (f k)))
            obtain ⟨w7, hw7⟩ : ∃ x, (w6.alloc (.cells (wdCells (fun _ => 0)) 54)).setRow H3 (wdCells (f k)) = x := ⟨_, rfl⟩
            obtain ⟨t, ht⟩ : ∃ x, k + 1 = x := ⟨_, rfl⟩
            have HT1 := Lib.hid ht
            have HT := Lib.hid (show 0 < t by omega)
            have htl : t ≤ 100 := by omega
            rw [hw7] at HW7 HX7 HY7 ⊢
            rw [ht] at HW7 HX7 HBk ⊢
            clear hw7 HZ1 HX0 HW6 HX6 HLw HIw ht
            have HJ := Lib.hid (show OnI w b4 gL B Ls m' (.slice (some ⟨g, 0, none⟩) t cap) f t H1 H3 (f t) (f k) w7 from ⟨HW7.out, HX7.out, HY7.out⟩)
            clear HW7 HX7 HY7
            go_simp
            go_wp2_with (fail)
            go_loopw [16] (fun qv wr => OnQ w b4 gL B Ls m' (.slice (some ⟨g, 0, none⟩) t cap) f t H1 H3 (f t) (f k) 24 qv wr) (fun qv _ => 24 - (intOf qv).toNat)
            case atStart => exact ⟨0, by omega, rfl, HJ.out⟩
            case round =>
              obtain ⟨q, hq, rfl, hJ⟩ := hrel
              clear HJ
              have HJ := Lib.hid hJ
              clear hJ
              by_cases hq24 : q < 24
              · have bq1 : (q : Int) < 24 := by omega
                have HQ := Lib.hid hq24
                go_wp2_with (fail)
                go_loopw [17] (fun jv wr => OnQ w b4 gL B Ls m' (.slice (some ⟨g, 0, none⟩) t cap) f t H1 H3 (f t) (f k) t jv wr) (fun jv _ => t - (intOf jv).toNat)
                case atStart => exact ⟨0, by omega, rfl, HJ.out⟩
                case round =>
                  obtain ⟨j, hj, rfl, hJ⟩ := hrel
                  clear HJ
                  have HJ := Lib.hid hJ
                  clear hJ
                  by_cases hjt : j < t
                  · have bj : (j : Int) < (t : Int) := by omega
                    have HJt := Lib.hid hjt
                    obtain ⟨nb, hnb⟩ : ∃ x, (f t q != f k q) = x := ⟨_, rfl⟩
                    have HNb := Lib.hid hnb
                    go_upto_region 20 with (fail)
                    --GEN r_on20a
                    refine wp_region_vals [Is (.int .i64 j), Is (.slice (some ⟨g, 0, none⟩) t cap), Is (.int .i64 t), Is (.bool true), Is (.bool true), Is (.int .i64 q), Is (.pointer (some ⟨H1, q, none⟩)), Is (.int .u64 (f t q)), Is (.int .i64 q), Is (.pointer (some ⟨H3, q, none⟩)), Is (.int .u64 (f k q)), Is (.bool nb), Is (.bool nb)]
                      (fun _ W W' => Below W.heap.size W W') (fun _ W => Below wr.heap.size wr W) (by kernel_rfl) (by kernel_rfl) (by kernel_rfl) ?hst ?h0 ⟨?o0, ?o1, ?o2, ?o3, ?o4, ?o5, ?o6, ?o7, ?o8, ?o9, ?o10, ?o11, ?o12, trivial⟩ ?he
                    case hst =>
                      exact ⟨(fun _ _ _ _ _ _ h _ => h), (fun _ _ _ _ _ _ h _ => h), (fun _ _ _ _ _ _ h _ => h), (fun _ _ _ _ _ _ h _ => h), (fun _ _ _ _ _ _ h _ => h), (fun _ _ _ _ _ _ h _ => h), (fun _ _ _ _ _ _ h _ => h), (fun _ _ _ _ _ _ h _ => h), (fun _ _ _ _ _ _ h _ => h), (fun _ _ _ _ _ _ h _ => h), (fun _ _ _ _ _ _ h _ => h), (fun _ _ _ _ _ _ h _ => h), (fun _ _ _ _ _ _ h _ => h), trivial⟩
                    case h0 =>
                      exact (Below.refl _ _).drew
                    case o0 =>
                      intro L vs A W H hf hd K hK
                      have e17 : A.tmps[17]?.getD undef = .int .i64 j := H.old 17 (by kernel_rfl)
                      go_simp
                      exact hK _ _ (Below.refl _ _) rfl (H.glob)
                    case o1 =>
                      intro L vs A W H hf hd K hK
                      have e10 : A.tmps[10]?.getD undef = .slice (some ⟨g, 0, none⟩) t cap := H.old 10 (by kernel_rfl)
                      go_simp
                      exact hK _ _ (Below.refl _ _) rfl (H.glob)
                    case o2 =>
                      intro L vs A W H hf hd K hK
                      have e95 := H.is 1 95 rfl rfl rfl (deps_of' hd 1 (by kernel_rfl)) (by kernel_rfl)
                      go_simp
                      exact hK _ _ (Below.refl _ _) rfl (H.glob)
                    case o3 =>
                      intro L vs A W H hf hd K hK
                      have e94 := H.is 0 94 rfl rfl rfl (deps_of' hd 0 (by kernel_rfl)) (by kernel_rfl)
                      have e96 := H.is 2 96 rfl rfl rfl (deps_of' hd 2 (by kernel_rfl)) (by kernel_rfl)
                      go_simp
                      exact hK _ _ (Below.refl _ _) rfl (H.glob)
                    case o4 =>
                      intro L vs A W H hf hd K hK
                      have e97 := H.is 3 97 rfl rfl rfl (deps_of' hd 3 (by kernel_rfl)) (by kernel_rfl)
                      go_simp
                      exact hK _ _ (Below.refl _ _) rfl (H.glob)
                    case o5 =>
                      intro L vs A W H hf hd K hK
                      have e98 := H.is 4 98 rfl rfl rfl (deps_of' hd 4 (by kernel_rfl)) (by kernel_rfl)
                      refine if_wanted (j := 4) (s := 98) rfl rfl rfl e98 rfl ?_
                      have e16 : A.tmps[16]?.getD undef = .int .i64 q := H.old 16 (by kernel_rfl)
                      go_simp
                      exact hK _ _ (Below.refl _ _) rfl (H.glob)
                    case o6 =>
                      intro L vs A W H hf hd K hK
                      have e98 := H.is 4 98 rfl rfl rfl (deps_of' hd 4 (by kernel_rfl)) (by kernel_rfl)
                      refine if_wanted (j := 4) (s := 98) rfl rfl rfl e98 rfl ?_
                      have e14 : A.tmps[14]?.getD undef = .pointer (some ⟨H1, 0, none⟩) := H.old 14 (by kernel_rfl)
                      have e99 := H.is 5 99 rfl rfl rfl (deps_of' hd 5 (by kernel_rfl)) (by kernel_rfl)
                      go_simp
                      exact hK _ _ (Below.refl _ _) rfl (H.glob)
                    case o7 =>
                      intro L vs A W H hf hd K hK
                      have e98 := H.is 4 98 rfl rfl rfl (deps_of' hd 4 (by kernel_rfl)) (by kernel_rfl)
                      refine if_wanted (j := 4) (s := 98) rfl rfl rfl e98 rfl ?_
                      have e100 := H.is 6 100 rfl rfl rfl (deps_of' hd 6 (by kernel_rfl)) (by kernel_rfl)
                      have dx := wdCell (HJ.out.x.below H.glob HJ.out.x.lt) HQ.out
                      go_simp
                      exact hK _ _ (Below.refl _ _) rfl (H.glob)
                    case o8 =>
                      intro L vs A W H hf hd K hK
                      have e98 := H.is 4 98 rfl rfl rfl (deps_of' hd 4 (by kernel_rfl)) (by kernel_rfl)
                      refine if_wanted (j := 4) (s := 98) rfl rfl rfl e98 rfl ?_
                      have e16 : A.tmps[16]?.getD undef = .int .i64 q := H.old 16 (by kernel_rfl)
                      go_simp
                      exact hK _ _ (Below.refl _ _) rfl (H.glob)
                    case o9 =>
                      intro L vs A W H hf hd K hK
                      have e98 := H.is 4 98 rfl rfl rfl (deps_of' hd 4 (by kernel_rfl)) (by kernel_rfl)
                      refine if_wanted (j := 4) (s := 98) rfl rfl rfl e98 rfl ?_
                      have e15 : A.tmps[15]?.getD undef = .pointer (some ⟨H3, 0, none⟩) := H.old 15 (by kernel_rfl)
                      have e102 := H.is 8 102 rfl rfl rfl (deps_of' hd 8 (by kernel_rfl)) (by kernel_rfl)
                      go_simp
                      exact hK _ _ (Below.refl _ _) rfl (H.glob)
                    case o10 =>
                      intro L vs A W H hf hd K hK
                      have e98 := H.is 4 98 rfl rfl rfl (deps_of' hd 4 (by kernel_rfl)) (by kernel_rfl)
                      refine if_wanted (j := 4) (s := 98) rfl rfl rfl e98 rfl ?_
                      have e103 := H.is 9 103 rfl rfl rfl (deps_of' hd 9 (by kernel_rfl)) (by kernel_rfl)
                      have dy := wdCell (HJ.out.y.below H.glob HJ.out.y.lt) HQ.out
                      go_simp
                      exact hK _ _ (Below.refl _ _) rfl (H.glob)
                    case o11 =>
                      intro L vs A W H hf hd K hK
                      have e98 := H.is 4 98 rfl rfl rfl (deps_of' hd 4 (by kernel_rfl)) (by kernel_rfl)
                      refine if_wanted (j := 4) (s := 98) rfl rfl rfl e98 rfl ?_
                      have e101 := H.is 7 101 rfl rfl rfl (deps_of' hd 7 (by kernel_rfl)) (by kernel_rfl)
                      have e104 := H.is 10 104 rfl rfl rfl (deps_of' hd 10 (by kernel_rfl)) (by kernel_rfl)
                      go_simp
                      exact hK _ _ (Below.refl _ _) rfl (H.glob)
                    case o12 =>
                      intro L vs A W H hf hd K hK
                      have e98 := H.is 4 98 rfl rfl rfl (deps_of' hd 4 (by kernel_rfl)) (by kernel_rfl)
                      have e105 := H.is 11 105 rfl rfl rfl (deps_of' hd 11 (by kernel_rfl)) (by kernel_rfl)
                      go_simp
                      exact hK _ _ (Below.refl _ _) rfl (H.glob)
                    case he =>
                      intro vs W hlen hv
                      match vs, hlen, hv with
                      | [x0_, x1_, x2_, x3_, x4_, x5_, x6_, x7_, x8_, x9_, x10_, x11_, x12_], _, hv =>
                      obtain rfl : (.int .i64 j) = x0_ := by obtain ⟨z, h1, h2⟩ := hv 0 _ rfl; cases h1; exact h2.symm
                      obtain rfl : (.slice (some ⟨g, 0, none⟩) t cap) = x1_ := by obtain ⟨z, h1, h2⟩ := hv 1 _ rfl; cases h1; exact h2.symm
                      obtain rfl : (.int .i64 t) = x2_ := by obtain ⟨z, h1, h2⟩ := hv 2 _ rfl; cases h1; exact h2.symm
                      obtain rfl : (.bool true) = x3_ := by obtain ⟨z, h1, h2⟩ := hv 3 _ rfl; cases h1; exact h2.symm
                      obtain rfl : (.bool true) = x4_ := by obtain ⟨z, h1, h2⟩ := hv 4 _ rfl; cases h1; exact h2.symm
                      obtain rfl : (.int .i64 q) = x5_ := by obtain ⟨z, h1, h2⟩ := hv 5 _ rfl; cases h1; exact h2.symm
                      obtain rfl : (.pointer (some ⟨H1, q, none⟩)) = x6_ := by obtain ⟨z, h1, h2⟩ := hv 6 _ rfl; cases h1; exact h2.symm
                      obtain rfl : (.int .u64 (f t q)) = x7_ := by obtain ⟨z, h1, h2⟩ := hv 7 _ rfl; cases h1; exact h2.symm
                      obtain rfl : (.int .i64 q) = x8_ := by obtain ⟨z, h1, h2⟩ := hv 8 _ rfl; cases h1; exact h2.symm
                      obtain rfl : (.pointer (some ⟨H3, q, none⟩)) = x9_ := by obtain ⟨z, h1, h2⟩ := hv 9 _ rfl; cases h1; exact h2.symm
                      obtain rfl : (.int .u64 (f k q)) = x10_ := by obtain ⟨z, h1, h2⟩ := hv 10 _ rfl; cases h1; exact h2.symm
                      obtain rfl : (.bool nb) = x11_ := by obtain ⟨z, h1, h2⟩ := hv 11 _ rfl; cases h1; exact h2.symm
                      obtain rfl : (.bool nb) = x12_ := by obtain ⟨z, h1, h2⟩ := hv 12 _ rfl; cases h1; exact h2.symm
                      intro L hall hG
                      clear hv hlen
                      have HJ2 := Lib.hid (HJ.out.keep hG)
                      clear hG hall
                      simp only [fill, if_true]
                      go_simp
                    --END
                      have hk1 := HT1.out
                      cases nb with
                      | true =>
                        have hne : f t q ≠ f k q := bne_iff_ne.1 HNb.out
                        have hjq : (f j q == f t q) = false := beq_eq_false_iff_ne.2 (HBk.out q HQ.out hne j (by omega))
                        clear hne hnb HJ
                        have HJ := Lib.hid HJ2.out
                        clear HJ2
                        obtain ⟨wr, hwr⟩ : ∃ x, W = x := ⟨_, rfl⟩
                        rw [hwr] at HJ ⊢
                        clear hwr
                        go_upto_region 22 with (fail)
                        --GEN r_on22
                        refine wp_region_vals [Is (.slice (some ⟨g, 0, none⟩) t cap), Is (.int .i64 j), Is (.int .i64 q), Is (.pointer (some ⟨g, j * 24, none⟩)), Is (.pointer (some ⟨g, j * 24 + q, none⟩)), Is (.int .u64 (f j q)), Is (.int .i64 q), Is (.pointer (some ⟨H1, q, none⟩)), Is (.int .u64 (f t q)), Is (.bool false), Is (.bool false), Any, Any, Is (.bool false)]
                          (fun _ W W' => Below W.heap.size W W') (fun _ W => Below wr.heap.size wr W) (by kernel_rfl) (by kernel_rfl) (by kernel_rfl) ?hst ?h0 ⟨?o0, ?o1, ?o2, ?o3, ?o4, ?o5, ?o6, ?o7, ?o8, ?o9, ?o10, ?o11, ?o12, ?o13, trivial⟩ ?he
                        case hst =>
                          exact ⟨(fun _ _ _ _ _ _ h _ => h), (fun _ _ _ _ _ _ h _ => h), (fun _ _ _ _ _ _ h _ => h), (fun _ _ _ _ _ _ h _ => h), (fun _ _ _ _ _ _ h _ => h), (fun _ _ _ _ _ _ h _ => h), (fun _ _ _ _ _ _ h _ => h), (fun _ _ _ _ _ _ h _ => h), (fun _ _ _ _ _ _ h _ => h), (fun _ _ _ _ _ _ h _ => h), (fun _ _ _ _ _ _ h _ => h), (fun _ _ _ _ _ _ h _ => h), (fun _ _ _ _ _ _ h _ => h), (fun _ _ _ _ _ _ h _ => h), trivial⟩
                        case h0 =>
                          exact (Below.refl _ _).drew
                        case o0 =>
                          intro L vs A W H hf hd K hK
                          have e10 : A.tmps[10]?.getD undef = .slice (some ⟨g, 0, none⟩) t cap := H.old 10 (by kernel_rfl)
                          go_simp
                          exact hK _ _ (Below.refl _ _) rfl (H.glob)
                        case o1 =>
                          intro L vs A W H hf hd K hK
                          have e17 : A.tmps[17]?.getD undef = .int .i64 j := H.old 17 (by kernel_rfl)
                          go_simp
                          exact hK _ _ (Below.refl _ _) rfl (H.glob)
                        case o2 =>
                          intro L vs A W H hf hd K hK
                          have e16 : A.tmps[16]?.getD undef = .int .i64 q := H.old 16 (by kernel_rfl)
                          go_simp
                          exact hK _ _ (Below.refl _ _) rfl (H.glob)
                        case o3 =>
                          intro L vs A W H hf hd K hK
                          have e109 := H.is 0 109 rfl rfl rfl (deps_of' hd 0 (by kernel_rfl)) (by kernel_rfl)
                          have e110 := H.is 1 110 rfl rfl rfl (deps_of' hd 1 (by kernel_rfl)) (by kernel_rfl)
                          go_simp
                          exact hK _ _ (Below.refl _ _) rfl (H.glob)
                        case o4 =>
                          intro L vs A W H hf hd K hK
                          have e112 := H.is 3 112 rfl rfl rfl (deps_of' hd 3 (by kernel_rfl)) (by kernel_rfl)
                          have e111 := H.is 2 111 rfl rfl rfl (deps_of' hd 2 (by kernel_rfl)) (by kernel_rfl)
                          go_simp
                          exact hK _ _ (Below.refl _ _) rfl (H.glob)
                        case o5 =>
                          intro L vs A W H hf hd K hK
                          have e113 := H.is 4 113 rfl rfl rfl (deps_of' hd 4 (by kernel_rfl)) (by kernel_rfl)
                          have ds := ((own_words_at HJ.out.o.s HT.out).1.below H.glob (own_words_at HJ.out.o.s HT.out).2.2.1) j q HJt.out HQ.out
                          go_simp
                          exact hK _ _ (Below.refl _ _) rfl (H.glob)
                        case o6 =>
                          intro L vs A W H hf hd K hK
                          have e16 : A.tmps[16]?.getD undef = .int .i64 q := H.old 16 (by kernel_rfl)
                          go_simp
                          exact hK _ _ (Below.refl _ _) rfl (H.glob)
                        case o7 =>
                          intro L vs A W H hf hd K hK
                          have e14 : A.tmps[14]?.getD undef = .pointer (some ⟨H1, 0, none⟩) := H.old 14 (by kernel_rfl)
                          have e115 := H.is 6 115 rfl rfl rfl (deps_of' hd 6 (by kernel_rfl)) (by kernel_rfl)
                          go_simp
                          exact hK _ _ (Below.refl _ _) rfl (H.glob)
                        case o8 =>
                          intro L vs A W H hf hd K hK
                          have e116 := H.is 7 116 rfl rfl rfl (deps_of' hd 7 (by kernel_rfl)) (by kernel_rfl)
                          have dx := wdCell (HJ.out.x.below H.glob HJ.out.x.lt) HQ.out
                          go_simp
                          exact hK _ _ (Below.refl _ _) rfl (H.glob)
                        case o9 =>
                          intro L vs A W H hf hd K hK
                          have e114 := H.is 5 114 rfl rfl rfl (deps_of' hd 5 (by kernel_rfl)) (by kernel_rfl)
                          have e117 := H.is 8 117 rfl rfl rfl (deps_of' hd 8 (by kernel_rfl)) (by kernel_rfl)
                          go_simp
                          exact hK _ _ (Below.refl _ _) rfl (H.glob)
                        case o10 =>
                          intro L vs A W H hf hd K hK
                          have e118 := H.is 9 118 rfl rfl rfl (deps_of' hd 9 (by kernel_rfl)) (by kernel_rfl)
                          go_simp
                          exact hK _ _ (Below.refl _ _) rfl (H.glob)
                        case o11 =>
                          intro L vs A W H hf hd K hK
                          have e119 := H.is 10 119 rfl rfl rfl (deps_of' hd 10 (by kernel_rfl)) (by kernel_rfl)
                          refine if_unwanted (j := 10) (s := 119) rfl rfl rfl e119 rfl ?_
                          exact hK _ _ (Below.refl _ _) trivial (H.glob)
                        case o12 =>
                          intro L vs A W H hf hd K hK
                          have e119 := H.is 10 119 rfl rfl rfl (deps_of' hd 10 (by kernel_rfl)) (by kernel_rfl)
                          refine if_unwanted (j := 10) (s := 119) rfl rfl rfl e119 rfl ?_
                          exact hK _ _ (Below.refl _ _) trivial (H.glob)
                        case o13 =>
                          intro L vs A W H hf hd K hK
                          have e119 := H.is 10 119 rfl rfl rfl (deps_of' hd 10 (by kernel_rfl)) (by kernel_rfl)
                          obtain ⟨v121, e121, q121⟩ := H.val 12 121 rfl rfl rfl (deps_of' hd 12 (by kernel_rfl)) (by kernel_rfl)
                          go_simp
                          exact hK _ _ (Below.refl _ _) rfl (H.glob)
                        case he =>
                          intro vs W hlen hv
                          match vs, hlen, hv with
                          | [x0_, x1_, x2_, x3_, x4_, x5_, x6_, x7_, x8_, x9_, x10_, x11_, x12_, x13_], _, hv =>
                          obtain rfl : (.slice (some ⟨g, 0, none⟩) t cap) = x0_ := by obtain ⟨z, h1, h2⟩ := hv 0 _ rfl; cases h1; exact h2.symm
                          obtain rfl : (.int .i64 j) = x1_ := by obtain ⟨z, h1, h2⟩ := hv 1 _ rfl; cases h1; exact h2.symm
                          obtain rfl : (.int .i64 q) = x2_ := by obtain ⟨z, h1, h2⟩ := hv 2 _ rfl; cases h1; exact h2.symm
                          obtain rfl : (.pointer (some ⟨g, j * 24, none⟩)) = x3_ := by obtain ⟨z, h1, h2⟩ := hv 3 _ rfl; cases h1; exact h2.symm
                          obtain rfl : (.pointer (some ⟨g, j * 24 + q, none⟩)) = x4_ := by obtain ⟨z, h1, h2⟩ := hv 4 _ rfl; cases h1; exact h2.symm
                          obtain rfl : (.int .u64 (f j q)) = x5_ := by obtain ⟨z, h1, h2⟩ := hv 5 _ rfl; cases h1; exact h2.symm
                          obtain rfl : (.int .i64 q) = x6_ := by obtain ⟨z, h1, h2⟩ := hv 6 _ rfl; cases h1; exact h2.symm
                          obtain rfl : (.pointer (some ⟨H1, q, none⟩)) = x7_ := by obtain ⟨z, h1, h2⟩ := hv 7 _ rfl; cases h1; exact h2.symm
                          obtain rfl : (.int .u64 (f t q)) = x8_ := by obtain ⟨z, h1, h2⟩ := hv 8 _ rfl; cases h1; exact h2.symm
                          obtain rfl : (.bool false) = x9_ := by obtain ⟨z, h1, h2⟩ := hv 9 _ rfl; cases h1; exact h2.symm
                          obtain rfl : (.bool false) = x10_ := by obtain ⟨z, h1, h2⟩ := hv 10 _ rfl; cases h1; exact h2.symm
                          obtain rfl : (.bool false) = x13_ := by obtain ⟨z, h1, h2⟩ := hv 13 _ rfl; cases h1; exact h2.symm
                          intro L hall hG
                          clear hv hlen
                          have HJ2 := Lib.hid (HJ.out.keep hG)
                          clear hG hall
                          simp only [fill, if_true]
                          go_simp
                        --END
                          clear HJ
                          have HJ := Lib.hid HJ2.out
                          clear HJ2
                          obtain ⟨wr, hwr⟩ : ∃ x, W = x := ⟨_, rfl⟩
                          rw [hwr] at HJ ⊢
                          clear hwr
                          go_upto_region 24 with (fail)
                          --GEN r_on24
                          refine wp_region_vals [Is (.slice (some ⟨g, 0, none⟩) t cap), Is (.int .i64 j), Is (.int .i64 q), Is (.pointer (some ⟨g, j * 24, none⟩)), Is (.pointer (some ⟨g, j * 24 + q, none⟩)), Is (.int .u64 (f j q)), Is (.int .i64 q), Is (.pointer (some ⟨H1, q, none⟩)), Is (.int .u64 (f t q)), Is (.bool false), Is (.bool false), Any, Any, Is (.bool false), Is (.bool false), Any, Any, Is (.bool false)]
                            (fun _ W W' => Below W.heap.size W W') (fun _ W => Below wr.heap.size wr W) (by kernel_rfl) (by kernel_rfl) (by kernel_rfl) ?hst ?h0 ⟨?o0, ?o1, ?o2, ?o3, ?o4, ?o5, ?o6, ?o7, ?o8, ?o9, ?o10, ?o11, ?o12, ?o13, ?o14, ?o15, ?o16, ?o17, trivial⟩ ?he
                          case hst =>
                            exact ⟨(fun _ _ _ _ _ _ h _ => h), (fun _ _ _ _ _ _ h _ => h), (fun _ _ _ _ _ _ h _ => h), (fun _ _ _ _ _ _ h _ => h), (fun _ _ _ _ _ _ h _ => h), (fun _ _ _ _ _ _ h _ => h), (fun _ _ _ _ _ _ h _ => h), (fun _ _ _ _ _ _ h _ => h), (fun _ _ _ _ _ _ h _ => h), (fun _ _ _ _ _ _ h _ => h), (fun _ _ _ _ _ _ h _ => h), (fun _ _ _ _ _ _ h _ => h), (fun _ _ _ _ _ _ h _ => h), (fun _ _ _ _ _ _ h _ => h), (fun _ _ _ _ _ _ h _ => h), (fun _ _ _ _ _ _ h _ => h), (fun _ _ _ _ _ _ h _ => h), (fun _ _ _ _ _ _ h _ => h), trivial⟩
                          case h0 =>
                            exact (Below.refl _ _).drew
                          case o0 =>
                            intro L vs A W H hf hd K hK
                            have e10 : A.tmps[10]?.getD undef = .slice (some ⟨g, 0, none⟩) t cap := H.old 10 (by kernel_rfl)
                            go_simp
                            exact hK _ _ (Below.refl _ _) rfl (H.glob)
                          case o1 =>
                            intro L vs A W H hf hd K hK
                            have e17 : A.tmps[17]?.getD undef = .int .i64 j := H.old 17 (by kernel_rfl)
                            go_simp
                            exact hK _ _ (Below.refl _ _) rfl (H.glob)
                          case o2 =>
                            intro L vs A W H hf hd K hK
                            have e16 : A.tmps[16]?.getD undef = .int .i64 q := H.old 16 (by kernel_rfl)
                            go_simp
                            exact hK _ _ (Below.refl _ _) rfl (H.glob)
                          case o3 =>
                            intro L vs A W H hf hd K hK
                            have e123 := H.is 0 123 rfl rfl rfl (deps_of' hd 0 (by kernel_rfl)) (by kernel_rfl)
                            have e124 := H.is 1 124 rfl rfl rfl (deps_of' hd 1 (by kernel_rfl)) (by kernel_rfl)
                            go_simp
                            exact hK _ _ (Below.refl _ _) rfl (H.glob)
                          case o4 =>
                            intro L vs A W H hf hd K hK
                            have e126 := H.is 3 126 rfl rfl rfl (deps_of' hd 3 (by kernel_rfl)) (by kernel_rfl)
                            have e125 := H.is 2 125 rfl rfl rfl (deps_of' hd 2 (by kernel_rfl)) (by kernel_rfl)
                            go_simp
                            exact hK _ _ (Below.refl _ _) rfl (H.glob)
                          case o5 =>
                            intro L vs A W H hf hd K hK
                            have e127 := H.is 4 127 rfl rfl rfl (deps_of' hd 4 (by kernel_rfl)) (by kernel_rfl)
                            have ds := ((own_words_at HJ.out.o.s HT.out).1.below H.glob (own_words_at HJ.out.o.s HT.out).2.2.1) j q HJt.out HQ.out
                            go_simp
                            exact hK _ _ (Below.refl _ _) rfl (H.glob)
                          case o6 =>
                            intro L vs A W H hf hd K hK
                            have e16 : A.tmps[16]?.getD undef = .int .i64 q := H.old 16 (by kernel_rfl)
                            go_simp
                            exact hK _ _ (Below.refl _ _) rfl (H.glob)
                          case o7 =>
                            intro L vs A W H hf hd K hK
                            have e14 : A.tmps[14]?.getD undef = .pointer (some ⟨H1, 0, none⟩) := H.old 14 (by kernel_rfl)
                            have e129 := H.is 6 129 rfl rfl rfl (deps_of' hd 6 (by kernel_rfl)) (by kernel_rfl)
                            go_simp
                            exact hK _ _ (Below.refl _ _) rfl (H.glob)
                          case o8 =>
                            intro L vs A W H hf hd K hK
                            have e130 := H.is 7 130 rfl rfl rfl (deps_of' hd 7 (by kernel_rfl)) (by kernel_rfl)
                            have dx := wdCell (HJ.out.x.below H.glob HJ.out.x.lt) HQ.out
                            go_simp
                            exact hK _ _ (Below.refl _ _) rfl (H.glob)
                          case o9 =>
                            intro L vs A W H hf hd K hK
                            have e128 := H.is 5 128 rfl rfl rfl (deps_of' hd 5 (by kernel_rfl)) (by kernel_rfl)
                            have e131 := H.is 8 131 rfl rfl rfl (deps_of' hd 8 (by kernel_rfl)) (by kernel_rfl)
                            go_simp
                            exact hK _ _ (Below.refl _ _) rfl (H.glob)
                          case o10 =>
                            intro L vs A W H hf hd K hK
                            have e132 := H.is 9 132 rfl rfl rfl (deps_of' hd 9 (by kernel_rfl)) (by kernel_rfl)
                            go_simp
                            exact hK _ _ (Below.refl _ _) rfl (H.glob)
                          case o11 =>
                            intro L vs A W H hf hd K hK
                            have e133 := H.is 10 133 rfl rfl rfl (deps_of' hd 10 (by kernel_rfl)) (by kernel_rfl)
                            refine if_unwanted (j := 10) (s := 133) rfl rfl rfl e133 rfl ?_
                            exact hK _ _ (Below.refl _ _) trivial (H.glob)
                          case o12 =>
                            intro L vs A W H hf hd K hK
                            have e133 := H.is 10 133 rfl rfl rfl (deps_of' hd 10 (by kernel_rfl)) (by kernel_rfl)
                            refine if_unwanted (j := 10) (s := 133) rfl rfl rfl e133 rfl ?_
                            exact hK _ _ (Below.refl _ _) trivial (H.glob)
                          case o13 =>
                            intro L vs A W H hf hd K hK
                            have e133 := H.is 10 133 rfl rfl rfl (deps_of' hd 10 (by kernel_rfl)) (by kernel_rfl)
                            obtain ⟨v135, e135, q135⟩ := H.val 12 135 rfl rfl rfl (deps_of' hd 12 (by kernel_rfl)) (by kernel_rfl)
                            go_simp
                            exact hK _ _ (Below.refl _ _) rfl (H.glob)
                          case o14 =>
                            intro L vs A W H hf hd K hK
                            have e136 := H.is 13 136 rfl rfl rfl (deps_of' hd 13 (by kernel_rfl)) (by kernel_rfl)
                            go_simp
                            exact hK _ _ (Below.refl _ _) rfl (H.glob)
                          case o15 =>
                            intro L vs A W H hf hd K hK
                            have e137 := H.is 14 137 rfl rfl rfl (deps_of' hd 14 (by kernel_rfl)) (by kernel_rfl)
                            refine if_unwanted (j := 14) (s := 137) rfl rfl rfl e137 rfl ?_
                            exact hK _ _ (Below.refl _ _) trivial (H.glob)
                          case o16 =>
                            intro L vs A W H hf hd K hK
                            have e137 := H.is 14 137 rfl rfl rfl (deps_of' hd 14 (by kernel_rfl)) (by kernel_rfl)
                            refine if_unwanted (j := 14) (s := 137) rfl rfl rfl e137 rfl ?_
                            exact hK _ _ (Below.refl _ _) trivial (H.glob)
                          case o17 =>
                            intro L vs A W H hf hd K hK
                            have e137 := H.is 14 137 rfl rfl rfl (deps_of' hd 14 (by kernel_rfl)) (by kernel_rfl)
                            obtain ⟨v139, e139, q139⟩ := H.val 16 139 rfl rfl rfl (deps_of' hd 16 (by kernel_rfl)) (by kernel_rfl)
                            go_simp
                            exact hK _ _ (Below.refl _ _) rfl (H.glob)
                          case he =>
                            intro vs W hlen hv
                            match vs, hlen, hv with
                            | [x0_, x1_, x2_, x3_, x4_, x5_, x6_, x7_, x8_, x9_, x10_, x11_, x12_, x13_, x14_, x15_, x16_, x17_], _, hv =>
                            obtain rfl : (.slice (some ⟨g, 0, none⟩) t cap) = x0_ := by obtain ⟨z, h1, h2⟩ := hv 0 _ rfl; cases h1; exact h2.symm
                            obtain rfl : (.int .i64 j) = x1_ := by obtain ⟨z, h1, h2⟩ := hv 1 _ rfl; cases h1; exact h2.symm
                            obtain rfl : (.int .i64 q) = x2_ := by obtain ⟨z, h1, h2⟩ := hv 2 _ rfl; cases h1; exact h2.symm
                            obtain rfl : (.pointer (some ⟨g, j * 24, none⟩)) = x3_ := by obtain ⟨z, h1, h2⟩ := hv 3 _ rfl; cases h1; exact h2.symm
                            obtain rfl : (.pointer (some ⟨g, j * 24 + q, none⟩)) = x4_ := by obtain ⟨z, h1, h2⟩ := hv 4 _ rfl; cases h1; exact h2.symm
                            obtain rfl : (.int .u64 (f j q)) = x5_ := by obtain ⟨z, h1, h2⟩ := hv 5 _ rfl; cases h1; exact h2.symm
                            obtain rfl : (.int .i64 q) = x6_ := by obtain ⟨z, h1, h2⟩ := hv 6 _ rfl; cases h1; exact h2.symm
                            obtain rfl : (.pointer (some ⟨H1, q, none⟩)) = x7_ := by obtain ⟨z, h1, h2⟩ := hv 7 _ rfl; cases h1; exact h2.symm
                            obtain rfl : (.int .u64 (f t q)) = x8_ := by obtain ⟨z, h1, h2⟩ := hv 8 _ rfl; cases h1; exact h2.symm
                            obtain rfl : (.bool false) = x9_ := by obtain ⟨z, h1, h2⟩ := hv 9 _ rfl; cases h1; exact h2.symm
                            obtain rfl : (.bool false) = x10_ := by obtain ⟨z, h1, h2⟩ := hv 10 _ rfl; cases h1; exact h2.symm
                            obtain rfl : (.bool false) = x13_ := by obtain ⟨z, h1, h2⟩ := hv 13 _ rfl; cases h1; exact h2.symm
                            obtain rfl : (.bool false) = x14_ := by obtain ⟨z, h1, h2⟩ := hv 14 _ rfl; cases h1; exact h2.symm
                            obtain rfl : (.bool false) = x17_ := by obtain ⟨z, h1, h2⟩ := hv 17 _ rfl; cases h1; exact h2.symm
                            intro L hall hG
                            clear hv hlen
                            have HJ2 := Lib.hid (HJ.out.keep hG)
                            clear hG hall
                            simp only [fill, if_true]
                            go_simp
                          --END
                            go_wp2_with (fail)
                            go_roundw
                            case rel => exact ⟨j + 1, by have := HJt.out; omega, by go_num, HJ2.out⟩
                            case measure => simp [intOf]; have := HJt.out; omega
                      | false =>
                        clear HJ hnb
                        go_wp2_with (fail)
                        go_roundw
                        case rel => exact ⟨q + 1, by have := HQ.out; omega, by go_num, HJ2.out⟩
                        case measure => simp [intOf]; have := HQ.out; omega
                  · have bj : ¬ (j : Int) < (t : Int) := by omega
                    go_upto_region 20 with (fail)
                    --GEN r_on20b
                    refine wp_region_vals [Is (.int .i64 j), Is (.slice (some ⟨g, 0, none⟩) t cap), Is (.int .i64 t), Is (.bool false), Is (.bool false), Any, Any, Any, Any, Any, Any, Any, Is (.bool false)]
                      (fun _ W W' => Below W.heap.size W W') (fun _ W => Below wr.heap.size wr W) (by kernel_rfl) (by kernel_rfl) (by kernel_rfl) ?hst ?h0 ⟨?o0, ?o1, ?o2, ?o3, ?o4, ?o5, ?o6, ?o7, ?o8, ?o9, ?o10, ?o11, ?o12, trivial⟩ ?he
                    case hst =>
                      exact ⟨(fun _ _ _ _ _ _ h _ => h), (fun _ _ _ _ _ _ h _ => h), (fun _ _ _ _ _ _ h _ => h), (fun _ _ _ _ _ _ h _ => h), (fun _ _ _ _ _ _ h _ => h), (fun _ _ _ _ _ _ h _ => h), (fun _ _ _ _ _ _ h _ => h), (fun _ _ _ _ _ _ h _ => h), (fun _ _ _ _ _ _ h _ => h), (fun _ _ _ _ _ _ h _ => h), (fun _ _ _ _ _ _ h _ => h), (fun _ _ _ _ _ _ h _ => h), (fun _ _ _ _ _ _ h _ => h), trivial⟩
                    case h0 =>
                      exact (Below.refl _ _).drew
                    case o0 =>
                      intro L vs A W H hf hd K hK
                      have e17 : A.tmps[17]?.getD undef = .int .i64 j := H.old 17 (by kernel_rfl)
                      go_simp
                      exact hK _ _ (Below.refl _ _) rfl (H.glob)
                    case o1 =>
                      intro L vs A W H hf hd K hK
                      have e10 : A.tmps[10]?.getD undef = .slice (some ⟨g, 0, none⟩) t cap := H.old 10 (by kernel_rfl)
                      go_simp
                      exact hK _ _ (Below.refl _ _) rfl (H.glob)
                    case o2 =>
                      intro L vs A W H hf hd K hK
                      have e95 := H.is 1 95 rfl rfl rfl (deps_of' hd 1 (by kernel_rfl)) (by kernel_rfl)
                      go_simp
                      exact hK _ _ (Below.refl _ _) rfl (H.glob)
                    case o3 =>
                      intro L vs A W H hf hd K hK
                      have e94 := H.is 0 94 rfl rfl rfl (deps_of' hd 0 (by kernel_rfl)) (by kernel_rfl)
                      have e96 := H.is 2 96 rfl rfl rfl (deps_of' hd 2 (by kernel_rfl)) (by kernel_rfl)
                      go_simp
                      exact hK _ _ (Below.refl _ _) rfl (H.glob)
                    case o4 =>
                      intro L vs A W H hf hd K hK
                      have e97 := H.is 3 97 rfl rfl rfl (deps_of' hd 3 (by kernel_rfl)) (by kernel_rfl)
                      go_simp
                      exact hK _ _ (Below.refl _ _) rfl (H.glob)
                    case o5 =>
                      intro L vs A W H hf hd K hK
                      have e98 := H.is 4 98 rfl rfl rfl (deps_of' hd 4 (by kernel_rfl)) (by kernel_rfl)
                      refine if_unwanted (j := 4) (s := 98) rfl rfl rfl e98 rfl ?_
                      exact hK _ _ (Below.refl _ _) trivial (H.glob)
                    case o6 =>
                      intro L vs A W H hf hd K hK
                      have e98 := H.is 4 98 rfl rfl rfl (deps_of' hd 4 (by kernel_rfl)) (by kernel_rfl)
                      refine if_unwanted (j := 4) (s := 98) rfl rfl rfl e98 rfl ?_
                      exact hK _ _ (Below.refl _ _) trivial (H.glob)
                    case o7 =>
                      intro L vs A W H hf hd K hK
                      have e98 := H.is 4 98 rfl rfl rfl (deps_of' hd 4 (by kernel_rfl)) (by kernel_rfl)
                      refine if_unwanted (j := 4) (s := 98) rfl rfl rfl e98 rfl ?_
                      exact hK _ _ (Below.refl _ _) trivial (H.glob)
                    case o8 =>
                      intro L vs A W H hf hd K hK
                      have e98 := H.is 4 98 rfl rfl rfl (deps_of' hd 4 (by kernel_rfl)) (by kernel_rfl)
                      refine if_unwanted (j := 4) (s := 98) rfl rfl rfl e98 rfl ?_
                      exact hK _ _ (Below.refl _ _) trivial (H.glob)
                    case o9 =>
                      intro L vs A W H hf hd K hK
                      have e98 := H.is 4 98 rfl rfl rfl (deps_of' hd 4 (by kernel_rfl)) (by kernel_rfl)
                      refine if_unwanted (j := 4) (s := 98) rfl rfl rfl e98 rfl ?_
                      exact hK _ _ (Below.refl _ _) trivial (H.glob)
                    case o10 =>
                      intro L vs A W H hf hd K hK
                      have e98 := H.is 4 98 rfl rfl rfl (deps_of' hd 4 (by kernel_rfl)) (by kernel_rfl)
                      refine if_unwanted (j := 4) (s := 98) rfl rfl rfl e98 rfl ?_
                      exact hK _ _ (Below.refl _ _) trivial (H.glob)
                    case o11 =>
                      intro L vs A W H hf hd K hK
                      have e98 := H.is 4 98 rfl rfl rfl (deps_of' hd 4 (by kernel_rfl)) (by kernel_rfl)
                      refine if_unwanted (j := 4) (s := 98) rfl rfl rfl e98 rfl ?_
                      exact hK _ _ (Below.refl _ _) trivial (H.glob)
                    case o12 =>
                      intro L vs A W H hf hd K hK
                      have e98 := H.is 4 98 rfl rfl rfl (deps_of' hd 4 (by kernel_rfl)) (by kernel_rfl)
                      obtain ⟨v105, e105, q105⟩ := H.val 11 105 rfl rfl rfl (deps_of' hd 11 (by kernel_rfl)) (by kernel_rfl)
                      go_simp
                      exact hK _ _ (Below.refl _ _) rfl (H.glob)
                    case he =>
                      intro vs W hlen hv
                      match vs, hlen, hv with
                      | [x0_, x1_, x2_, x3_, x4_, x5_, x6_, x7_, x8_, x9_, x10_, x11_, x12_], _, hv =>
                      obtain rfl : (.int .i64 j) = x0_ := by obtain ⟨z, h1, h2⟩ := hv 0 _ rfl; cases h1; exact h2.symm
                      obtain rfl : (.slice (some ⟨g, 0, none⟩) t cap) = x1_ := by obtain ⟨z, h1, h2⟩ := hv 1 _ rfl; cases h1; exact h2.symm
                      obtain rfl : (.int .i64 t) = x2_ := by obtain ⟨z, h1, h2⟩ := hv 2 _ rfl; cases h1; exact h2.symm
                      obtain rfl : (.bool false) = x3_ := by obtain ⟨z, h1, h2⟩ := hv 3 _ rfl; cases h1; exact h2.symm
                      obtain rfl : (.bool false) = x4_ := by obtain ⟨z, h1, h2⟩ := hv 4 _ rfl; cases h1; exact h2.symm
                      obtain rfl : (.bool false) = x12_ := by obtain ⟨z, h1, h2⟩ := hv 12 _ rfl; cases h1; exact h2.symm
                      intro L hall hG
                      clear hv hlen
                      have HJ2 := Lib.hid (HJ.out.keep hG)
                      clear hG hall
                      simp only [fill, if_true]
                      go_simp
                    --END
                      go_wp2_with (fail)
                      go_roundw
                      case rel => exact ⟨q + 1, by have := HQ.out; omega, by go_num, HJ2.out⟩
                      case measure => simp [intOf]; have := HQ.out; omega
              · have bq1 : ¬ (q : Int) < 24 := by omega
                have hsz := HJ.out.o.sz
                have HLd := Lib.hid (wdLoad HJ.out.x)
                have HIw := Lib.hid (infoWd (f t))
                have HBn := Lib.hid (Blk.new wr (wdCells (f t)) 54)
                go_upto_region 9 with (first | (with_reducible refine wpList_load_part (o := ⟨some 142, _, _, _, _, _⟩) ?lg 54 (.tmp 14) ?lo H1 0 ?lx (wdCells (f t)) _ HLd.out Try.underlying54 ?lu HIw.out ?_; (case lg => rfl); (case lo => rfl); (case lx => exact ev_tmp (by simp)); (case lu => rfl)) | (with_reducible refine wpList_append_wd (o := ⟨some 144, _, _, _, _, _⟩) ?k1 (.tmp 141) (.tmp 143) ?k2 B (.slice (some ⟨g, 0, none⟩) t cap) t f ?k3 ?k4 wr.heap.size ?k5 ?k8 ?k6 ?k7 ?_; (case k1 => rfl); (case k2 => rfl); (case k3 => exact ev_tmp (by simp)); (case k5 => exact ev_tmp (by simp)); (case k6 => omega)))
                case k4 => exact HJ.out.o.s.alloc _
                case k8 => rw [fold_wd]; exact HBn.out
                case k7 => simp; omega
                case inr =>
                  intro sv w8 hown hgrow
                  rw [fold_wd] at hgrow
                  have HW8 := Lib.hid (HJ.out.o.app hown hgrow)
                  obtain ⟨g8, cap8, rfl, _, _, _, _, _⟩ := own_words hown (by omega)
                  clear hown hgrow HBn HLd HIw HJ
                  go_wp2_with (fail)
                  go_roundw
                  case rel => exact ⟨t, g8, cap8, by have := HLt.out; have := HT1.out; omega, by have := HT1.out; go_num, rfl, by have h1 := HM'.out; rw [HT1.out] at h1; rw [h1]; exact HW8.out⟩
                  case measure => simp [intOf]; have := HLt.out; omega
      · have b1 : ¬ (k : Int) < (Ls.length : Int) := by omega
        go_wp2_with (fail)
        refine (HKn.out _).mono ?_
        rintro e w6 ⟨rfl, hB⟩
        have HB6 := Lib.hid (HW.out.b.trans (hB.mono HW.out.b.size))
        clear hB
        go_wp2_with (fail)
        go_ret
        exact ⟨rfl, HB6.out⟩

theorem once_law (base : Int) (n : Nd) (hw : n.Wf) (kind key ptr : Int) (w : World) :
    Calls Try.prog 7 #[.int .u64 base, .agg (ndCells n), .agg (askC kind key ptr)] w fun e w' => e = .returned (.bool true) ∧ Below w.heap.size w w' := by
  by_cases hc : madeC base n (kdOf kind) key ptr = 0
  · exact once_ok base n hw kind key ptr w hc
  · exact once_err base n kind key ptr w hc
end Go.Proofs.Ytbpaefhihdhdeaa
