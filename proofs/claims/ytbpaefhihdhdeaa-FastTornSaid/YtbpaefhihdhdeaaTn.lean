/-
  The law FastTorn.
-/
import Derived.Test.YtbpaefhihdhdeaaNw
import Derived.Test.YtbpaefhihdhdeaaAr
import Derived.Test.YtbpaefhihdhdeaaKo
import Derived.Test.YtbpaefhihdhdeaaNx
import Derived.Test.YtbpaefhihdhdeaaRd
import Derived.Deep.DeepCutAuto
import Derived.Test.YtbpaefhihdhdeaaPf
import Derived.Test.YtbpaefhihdhdeaaFa
import Derived.Test.YtbpaefhihdhdeaaBf
import Derived.Test.YtbpaefhihdhdeaaLs
namespace Go.Proofs.Ytbpaefhihdhdeaa
open Go.RowKit

theorem lit21 (n : Nd) : ndCells n = #[.int .i64 n.lv, .int .u64 n.lo, .int .u64 n.nx, .int .u64 n.ct, .int .u64 n.fi, .int .u64 (n.k 0), .int .u64 (n.k 1), .int .u64 (n.k 2), .int .u64 (n.k 3), .int .u64 (n.k 4), .int .u64 (n.k 5), .int .u64 (n.k 6), .int .u64 (n.k 7), .int .u64 (n.p 0), .int .u64 (n.p 1), .int .u64 (n.p 2), .int .u64 (n.p 3), .int .u64 (n.p 4), .int .u64 (n.p 5), .int .u64 (n.p 6), .int .u64 (n.p 7)] := rfl
theorem eq8_at (T e : TypeId) (hT : Try.prog.underlying T = some (.array 8 e)) (he : Try.prog.underlying e = some (.int .u64)) (ha : ∀ w, (isAgg e).run Try.prog w = .ok false w) (hz : ∀ w, (sizeOf e).run Try.prog w = .ok 1 w) (d : Nat) (a0 a1 a2 a3 a4 a5 a6 a7 : Int) (w : World) :
    (Op.equalIn (d + 2) T (.agg #[.int .u64 a0, .int .u64 a1, .int .u64 a2, .int .u64 a3, .int .u64 a4, .int .u64 a5, .int .u64 a6, .int .u64 a7]) (.agg #[.int .u64 a0, .int .u64 a1, .int .u64 a2, .int .u64 a3, .int .u64 a4, .int .u64 a5, .int .u64 a6, .int .u64 a7])).run Try.prog w = .ok true w := by
  rw [show d + 2 = (d + 1) + 1 from rfl, Op.equalIn]
  simp only [Sem.run_bind, run_underlying hT, Result.andThen_ok]
  simp only [Std.Legacy.Range.forIn_eq_forIn_range', Std.Legacy.Range.size, Nat.sub_zero, Nat.add_sub_cancel, Nat.div_one, List.range'_succ, List.range'_zero, List.forIn_cons, List.forIn_nil]
  go_simp
set_option maxRecDepth 100000 in
set_option maxHeartbeats 1600000 in
theorem eq_nd (n : Nd) (w : World) : (Op.equalIn 10000 27 (.agg (ndCells n)) (.agg (ndCells n))).run Try.prog w = .ok true w := by
  rw [lit21]
  have u3 := Try.underlying3
  have a3' := Try.isAgg3
  have z3 := Try.sizeOf3
  have u4 := Try.underlying22
  have a4' := Try.isAgg22
  have z4 := Try.sizeOf22
  have u5 := Try.underlying23
  have a5' := Try.isAgg23
  have z5 := Try.sizeOf23
  have k1 := fun w => eq8_at 24 22 Try.underlying24 u4 a4' z4 9997 (n.k 0) (n.k 1) (n.k 2) (n.k 3) (n.k 4) (n.k 5) (n.k 6) (n.k 7) w
  have k2 := fun w => eq8_at 25 23 Try.underlying25 u5 a5' z5 9997 (n.p 0) (n.p 1) (n.p 2) (n.p 3) (n.p 4) (n.p 5) (n.p 6) (n.p 7) w
  rw [show (10000 : Nat) = 9999 + 1 from rfl, Op.equalIn]
  simp only [Sem.run_bind, run_underlying Try.underlying27, Result.andThen_ok]
  go_simp
end Go.Proofs.Ytbpaefhihdhdeaa
namespace Go.Proofs.Ytbpaefhihdhdeaa
open Go.RowKit

/-- a node behind stores -/
def applyL (base : Int) : Nd → List (Int × Int) → Option Nd
  | n, [] => some n
  | n, p :: r => match putA base n p.1 p.2 with | some m => applyL base m r | none => none
theorem applyL_append (base : Int) : ∀ (l r : List (Int × Int)) (n : Nd), applyL base n (l ++ r) = (match applyL base n l with | some m => applyL base m r | none => none)
  | [], r, n => rfl
  | p :: l, r, n => by
    simp only [List.cons_append, applyL]
    cases putA base n p.1 p.2 with
    | none => rfl
    | some m => exact applyL_append base l r m
theorem applyL_snoc (base : Int) (l : List (Int × Int)) (n m : Nd) (p : Int × Int) (h : applyL base n l = some m) : applyL base n (l ++ [p]) = putA base m p.1 p.2 := by
  rw [applyL_append, h]
  simp only [applyL]
  cases putA base m p.1 p.2 <;> rfl
theorem take_ent (l : List (Int × Int)) (k : Nat) (h : k < l.length) : l.take (k + 1) = l.take k ++ [(eK l k, eP l k)] := by
  have e : l[k] = (eK l k, eP l k) := by simp [eK, eP, List.getD, h]
  rw [List.take_succ_eq_append_getElem h, e]
theorem applyL_next (base : Int) (l : List (Int × Int)) (n m : Nd) (k : Nat) (h : k < l.length) (ha : applyL base n (l.take k) = some m) : applyL base n (l.take (k + 1)) = putA base m (eK l k) (eP l k) := by
  rw [take_ent l k h, applyL_snoc base _ n m _ ha]
theorem applyL_bad (base : Int) (l : List (Int × Int)) (n : Nd) (k : Nat) (h : applyL base n (l.take k) = none) : applyL base n l = none := by
  have := applyL_append base (l.take k) (l.drop k) n
  rw [List.take_append_drop, h] at this
  exact this
/-- what Apply answers -/
def applyV (base : Int) (n : Nd) (l : List (Int × Int)) : Nd × Int := match applyL base n l with | some m => (m, 0) | none => (nd0, 2)

/-- the worlds on its way: the node's block, the answer's -/
def ApW (w : World) (m : Nd) (w' : World) : Prop := Blk w' w.heap.size (ndCells m) 27 ∧ Blk w' (w.heap.size + 1) (ndCells nd0) 27 ∧ Below w.heap.size w w'
theorem ApW.keep {w w1 w2 : World} {m : Nd} (h : ApW w m w1) (hB : Below w1.heap.size w1 w2) : ApW w m w2 :=
  ⟨h.1.below hB h.1.lt, h.2.1.below hB h.2.1.lt, h.2.2.trans (hB.mono h.2.2.size)⟩
theorem ApW.start (w : World) (m : Nd) : ApW w m ((w.alloc (.cells (ndCells m) 27)).alloc (.cells (ndCells nd0) 27)) := by
  have h1 := Blk.new w (ndCells m) 27
  have h2 := Blk.new (w.alloc (.cells (ndCells m) 27)) (ndCells nd0) 27
  have s1 : (w.alloc (.cells (ndCells m) 27)).heap.size = w.heap.size + 1 := by simp
  rw [s1] at h2
  exact ⟨h1.alloc _, h2, ((Below.refl w.heap.size w).alloc (Nat.le_refl _) _).alloc (by omega) _⟩
theorem ApW.set {w w1 : World} {m m' : Nd} (h : ApW w m w1) (i : Nat) (x : Int) (he : (ndCells m).setIfInBounds i (.int .u64 x) = ndCells m') : ApW w m' (w1.setCell ⟨w.heap.size, i, none⟩ (.int .u64 x)) := by
  refine ⟨?_, h.2.1.other i _ (by omega), h.2.2.setCell (p := ⟨w.heap.size, i, none⟩) (Nat.le_refl _) _⟩
  have := h.1.set i (.int .u64 x)
  rwa [he] at this

/-- a store's place, as the program reckons it -/
inductive WhereD (base at_ : Int) : Prop
  | below (e : at_ < base) (o : ∀ n x, putA base n at_ x = none)
  | above (e : base ≤ at_) (d : 192 ≤ at_ - base) (o : ∀ n x, putA base n at_ x = none)
  | odd (e : base ≤ at_) (d : at_ - base < 192) (r : (at_ - base) % 8 ≠ 0) (o : ∀ n x, putA base n at_ x = none)
  | low (e : at_ = base + 8)
  | next (e : at_ = base + 16)
  | count (e : at_ = base + 24)
  | first (e : at_ = base + 32)
  | head (d : Int) (e : at_ - base = d) (h : d = 0 ∨ d = 40 ∨ d = 48 ∨ d = 56) (o : ∀ n x, putA base n at_ x = none)
  | key (i : Nat) (h : i < 8) (e : at_ = base + 64 + 16 * (i : Int))
  | ptr (i : Nat) (h : i < 8) (e : at_ = base + 72 + 16 * (i : Int))
theorem whereD (base at_ : Int) : WhereD base at_ := by
  by_cases h0 : at_ < base
  · exact .below h0 (fun n x => by unfold putA; rw [if_pos (by omega)])
  by_cases h1 : 192 ≤ at_ - base
  · exact .above (by omega) h1 (fun n x => by unfold putA; rw [if_pos (by omega)])
  by_cases h2 : (at_ - base) % 8 ≠ 0
  · exact .odd (by omega) (by omega) h2 (fun n x => by unfold putA; rw [if_pos (by omega)])
  rcases where_ base at_ with ⟨i, h, e⟩ | ⟨i, h, e⟩ | ⟨e⟩ | ⟨e⟩ | ⟨e⟩ | ⟨e⟩ | ⟨e, h, h8⟩
  · exact .key i h e
  · exact .ptr i h e
  · exact .low e
  · exact .next e
  · exact .count e
  · exact .first e
  · refine .head (at_ - base) rfl ?_ e
    have k0 := h 0 (by omega)
    have k1 := h 1 (by omega)
    have k2 := h 2 (by omega)
    have k3 := h 3 (by omega)
    have k4 := h 4 (by omega)
    have k5 := h 5 (by omega)
    have k6 := h 6 (by omega)
    have k7 := h 7 (by omega)
    omega


set_option maxRecDepth 100000 in
set_option maxHeartbeats 6400000 in
theorem apply_no (base : Int) (n : Nd) (v : Value) (w : World) (hs : ¬ Stands base) :
    Calls Try.prog 10 #[.int .u64 base, .agg (ndCells n), v] w fun e w' => MkP nd0 2 w e w' := by
  have HS := Lib.hid (ApW.start w n)
  have HZ0 := Lib.hid (show (w.alloc (.cells (ndCells n) 27)).heap.size = w.heap.size + 1 by simp)
  have HSt := Lib.hid (fun w => stands_no base hs w)
  have HZ := Lib.hid HS.out.2.1
  have HBf := Lib.hid HS.out.2.2
  clear hs
  go_enter Try.func10, Try.ntmps10
  go_wp2_with (first | (with_reducible refine wpList_alloc_ndAt (o := ⟨some 6, _, _, _, _, _⟩) rfl rfl (w.heap.size + 1) ?hz ?_; (case hz => exact HZ0.out)) | (go_at_call 27; refine (HSt.out _).mono ?_; rintro e w' ⟨rfl, rfl⟩) | (refine wpList_store_ndc (o := ⟨none, .store 27 (.tmp 6) (.tmp 15), _, _, _, _⟩) rfl (.tmp 6) (.tmp 15) ?ho (w.heap.size + 1) ?cs nd0 nd0 ?hx ?hy HZ.out ?hm ?_; (case ho => rfl); (case hx => rfl); (case hy => rfl); (case hm => rfl)))
  exact bodyPost_ret (results_nd rfl _ (w.heap.size + 1) nd0 rfl (HZ.out.row _)) rfl ⟨rfl, below_setRow HBf.out (by omega) _⟩

set_option maxRecDepth 100000 in
set_option maxHeartbeats 6400000 in
theorem apply_v (base : Int) (n : Nd) (l : List (Int × Int)) (a : Option Addr) (g c : Nat) (w : World) (hs : Stands base) (hn : l.length ≤ 1000000) (ha : 0 < l.length → a = some ⟨g, 0, none⟩) (hE : EntsAt w g 0 l) (hu : ∀ i, i < l.length → 0 ≤ eK l i ∧ eK l i < 18446744073709551616) :
    Calls Try.prog 10 #[.int .u64 base, .agg (ndCells n), .slice a l.length c] w fun e w' => MkP (applyV base n l).1 (applyV base n l).2 w e w' := by
  have HS := Lib.hid (ApW.start w n)
  have HZ0 := Lib.hid (show (w.alloc (.cells (ndCells n) 27)).heap.size = w.heap.size + 1 by simp)
  have HSt := Lib.hid (fun w => stands_yes base hs w)
  have HE := Lib.hid hE
  have HA := Lib.hid ha
  have HU := Lib.hid hu
  obtain ⟨s1, s2, -⟩ := hs
  clear hE ha hu
  go_enter Try.func10, Try.ntmps10
  go_wp2_with (first | (with_reducible refine wpList_alloc_ndAt (o := ⟨some 6, _, _, _, _, _⟩) rfl rfl (w.heap.size + 1) ?hz ?_; (case hz => exact HZ0.out)) | (go_at_call 27; refine (HSt.out _).mono ?_; rintro e w' ⟨rfl, rfl⟩))
  generalize (w.alloc (.cells (ndCells n) 27)).alloc (.cells (ndCells nd0) 27) = w0 at *
  go_loopw [18] (fun iv wr => ∃ (k : Nat) (m : Nd), k ≤ l.length ∧ iv = .int .i64 k ∧ Hid (applyL base n (l.take k) = some m) ∧ Hid (ApW w m wr)) (fun iv _ => l.length - (intOf iv).toNat)
  case atStart => exact ⟨0, n, by omega, rfl, Lib.hid rfl, HS⟩
  case round =>
    obtain ⟨k, m, hk, rfl, HAp, HR⟩ := hrel
    clear HS
    by_cases hlt : k < l.length
    · obtain rfl := HA.out (by omega)
      have hgw : g < w.heap.size := HE.out.lt (by omega)
      obtain ⟨c1, c2⟩ := HE.out.below HR.out.2.2 hgw k hlt
      obtain ⟨u1, u2⟩ := HU.out k hlt
      have HN := Lib.hid (applyL_next base l n m k hlt HAp.out)
      obtain ⟨at_, hat⟩ : ∃ z, eK l k = z := ⟨_, rfl⟩
      obtain ⟨x, hx⟩ : ∃ z, eP l k = z := ⟨_, rfl⟩
      rw [hat, Nat.zero_add] at c1
      rw [hx, Nat.zero_add] at c2
      rw [hat] at u1 u2
      rw [hat, hx] at HN
      have HWD := Lib.hid (whereD base at_)
      have b1 : (k : Int) < (l.length : Int) := by omega
      have HX := Lib.hid (Blk.new wr #[.int .u64 at_, .int .u64 x] 36)
      have HR1 := Lib.hid (HR.out.keep ((Below.refl wr.heap.size wr).alloc (Nat.le_refl _) (.cells #[.int .u64 at_, .int .u64 x] 36)))
      clear hat hx hgw
      rcases HWD.out with ⟨e, o⟩ | ⟨e, d, o⟩ | ⟨e, d, r, o⟩ | ⟨e⟩ | ⟨e⟩ | ⟨e⟩ | ⟨e⟩ | ⟨d, e, h, o⟩ | ⟨i, h, e⟩ | ⟨i, h, e⟩
      · have HF := Lib.hid (show applyV base n l = (nd0, 2) by unfold applyV; rw [applyL_bad base l n (k + 1) (HN.out.trans (o m x))])
        have HZ := Lib.hid HR1.out.2.1
        have HBf := Lib.hid HR1.out.2.2
        have hx0 := HX.out.cell 0
        rw [show (#[Value.int .u64 at_, .int .u64 x] : Array Value)[0]? = some (.int .u64 at_) from rfl] at hx0
        have e1 : decide (at_ < base) = true := decide_eq_true e
        clear e
        clear o
        go_wp2_with (refine wpList_store_ndc (o := ⟨none, .store 27 (.tmp 6) (.tmp 39), _, _, _, _⟩) rfl (.tmp 6) (.tmp 39) ?hoa (w.heap.size + 1) ?csa nd0 nd0 ?hxa ?hya HZ.out ?hma ?_; (case hoa => rfl); (case hxa => rfl); (case hya => rfl); (case hma => rfl))
        rw [HF.out]
        exact bodyPost_ret (results_nd rfl _ (w.heap.size + 1) nd0 rfl (HZ.out.row _)) rfl ⟨rfl, below_setRow HBf.out (by omega) _⟩
      · have HF := Lib.hid (show applyV base n l = (nd0, 2) by unfold applyV; rw [applyL_bad base l n (k + 1) (HN.out.trans (o m x))])
        have HZ := Lib.hid HR1.out.2.1
        have HBf := Lib.hid HR1.out.2.2
        have hx0 := HX.out.cell 0
        rw [show (#[Value.int .u64 at_, .int .u64 x] : Array Value)[0]? = some (.int .u64 at_) from rfl] at hx0
        obtain ⟨dd, hd⟩ : ∃ d, at_ - base = d := ⟨_, rfl⟩
        have e1 : decide (at_ < base) = false := decide_eq_false (by omega)
        have e2 : decide (192 ≤ dd) = true := decide_eq_true (by omega)
        clear d
        clear o
        go_wp2_with (refine wpList_store_ndc (o := ⟨none, .store 27 (.tmp 6) (.tmp 39), _, _, _, _⟩) rfl (.tmp 6) (.tmp 39) ?hob (w.heap.size + 1) ?csb nd0 nd0 ?hxb ?hyb HZ.out ?hmb ?_; (case hob => rfl); (case hxb => rfl); (case hyb => rfl); (case hmb => rfl))
        rw [HF.out]
        exact bodyPost_ret (results_nd rfl _ (w.heap.size + 1) nd0 rfl (HZ.out.row _)) rfl ⟨rfl, below_setRow HBf.out (by omega) _⟩
      · have HF := Lib.hid (show applyV base n l = (nd0, 2) by unfold applyV; rw [applyL_bad base l n (k + 1) (HN.out.trans (o m x))])
        have HZ := Lib.hid HR1.out.2.1
        have HBf := Lib.hid HR1.out.2.2
        have hx0 := HX.out.cell 0
        rw [show (#[Value.int .u64 at_, .int .u64 x] : Array Value)[0]? = some (.int .u64 at_) from rfl] at hx0
        obtain ⟨dd, hd⟩ : ∃ d, at_ - base = d := ⟨_, rfl⟩
        have e1 : decide (at_ < base) = false := decide_eq_false (by omega)
        have e2 : decide (192 ≤ dd) = false := decide_eq_false (by omega)
        have e3 : (dd % 8 != 0) = true := by rw [bne, beq_eq_false_iff_ne.2 (by omega)]; rfl
        have d0 : 0 ≤ dd := by omega
        clear d r
        clear o
        go_wp2_with (refine wpList_store_ndc (o := ⟨none, .store 27 (.tmp 6) (.tmp 39), _, _, _, _⟩) rfl (.tmp 6) (.tmp 39) ?hoc (w.heap.size + 1) ?csc nd0 nd0 ?hxc ?hyc HZ.out ?hmc ?_; (case hoc => rfl); (case hxc => rfl); (case hyc => rfl); (case hmc => rfl))
        rw [HF.out]
        exact bodyPost_ret (results_nd rfl _ (w.heap.size + 1) nd0 rfl (HZ.out.row _)) rfl ⟨rfl, below_setRow HBf.out (by omega) _⟩
      · have hd : at_ - base = 8 := by omega
        have e1 : decide (at_ < base) = false := decide_eq_false (by omega)
        have HM := Lib.hid (HN.out.trans (show putA base m at_ x = some { m with lo := x } by rw [e, putA_8]))
        have HW2 := Lib.hid (HR1.out.set 1 x (ndCells_set1 m x))
        have hc0 := HR1.out.1.cell 1
        rw [ndCells_1] at hc0
        have hf0 := HR1.out.1.frozen 1
        have hx1 := HX.out.cell 1
        have hx0 := HX.out.cell 0
        rw [show (#[Value.int .u64 at_, .int .u64 x] : Array Value)[1]? = some (.int .u64 x) from rfl] at hx1
        rw [show (#[Value.int .u64 at_, .int .u64 x] : Array Value)[0]? = some (.int .u64 at_) from rfl] at hx0
        clear e
        go_wp2_with (fail)
        go_roundw
        case rel => exact ⟨k + 1, { m with lo := x }, by omega, by go_num, HM, HW2⟩
        case measure => simp [intOf]; omega
      · have hd : at_ - base = 16 := by omega
        have e1 : decide (at_ < base) = false := decide_eq_false (by omega)
        have HM := Lib.hid (HN.out.trans (show putA base m at_ x = some { m with nx := x } by rw [e, putA_16]))
        have HW2 := Lib.hid (HR1.out.set 2 x (ndCells_set2 m x))
        have hc0 := HR1.out.1.cell 2
        rw [ndCells_2] at hc0
        have hf0 := HR1.out.1.frozen 2
        have hx1 := HX.out.cell 1
        have hx0 := HX.out.cell 0
        rw [show (#[Value.int .u64 at_, .int .u64 x] : Array Value)[1]? = some (.int .u64 x) from rfl] at hx1
        rw [show (#[Value.int .u64 at_, .int .u64 x] : Array Value)[0]? = some (.int .u64 at_) from rfl] at hx0
        clear e
        go_wp2_with (fail)
        go_roundw
        case rel => exact ⟨k + 1, { m with nx := x }, by omega, by go_num, HM, HW2⟩
        case measure => simp [intOf]; omega
      · have hd : at_ - base = 24 := by omega
        have e1 : decide (at_ < base) = false := decide_eq_false (by omega)
        have HM := Lib.hid (HN.out.trans (show putA base m at_ x = some { m with ct := x } by rw [e, putA_24]))
        have HW2 := Lib.hid (HR1.out.set 3 x (ndCells_set3 m x))
        have hc0 := HR1.out.1.cell 3
        rw [ndCells_3] at hc0
        have hf0 := HR1.out.1.frozen 3
        have hx1 := HX.out.cell 1
        have hx0 := HX.out.cell 0
        rw [show (#[Value.int .u64 at_, .int .u64 x] : Array Value)[1]? = some (.int .u64 x) from rfl] at hx1
        rw [show (#[Value.int .u64 at_, .int .u64 x] : Array Value)[0]? = some (.int .u64 at_) from rfl] at hx0
        clear e
        go_wp2_with (fail)
        go_roundw
        case rel => exact ⟨k + 1, { m with ct := x }, by omega, by go_num, HM, HW2⟩
        case measure => simp [intOf]; omega
      · have hd : at_ - base = 32 := by omega
        have e1 : decide (at_ < base) = false := decide_eq_false (by omega)
        have HM := Lib.hid (HN.out.trans (show putA base m at_ x = some { m with fi := x } by rw [e, putA_32]))
        have HW2 := Lib.hid (HR1.out.set 4 x (ndCells_set4 m x))
        have hc0 := HR1.out.1.cell 4
        rw [ndCells_4] at hc0
        have hf0 := HR1.out.1.frozen 4
        have hx1 := HX.out.cell 1
        have hx0 := HX.out.cell 0
        rw [show (#[Value.int .u64 at_, .int .u64 x] : Array Value)[1]? = some (.int .u64 x) from rfl] at hx1
        rw [show (#[Value.int .u64 at_, .int .u64 x] : Array Value)[0]? = some (.int .u64 at_) from rfl] at hx0
        clear e
        go_wp2_with (fail)
        go_roundw
        case rel => exact ⟨k + 1, { m with fi := x }, by omega, by go_num, HM, HW2⟩
        case measure => simp [intOf]; omega
      · have HF := Lib.hid (show applyV base n l = (nd0, 2) by unfold applyV; rw [applyL_bad base l n (k + 1) (HN.out.trans (o m x))])
        have HZ := Lib.hid HR1.out.2.1
        have HBf := Lib.hid HR1.out.2.2
        have hx0 := HX.out.cell 0
        rw [show (#[Value.int .u64 at_, .int .u64 x] : Array Value)[0]? = some (.int .u64 at_) from rfl] at hx0
        have e1 : decide (at_ < base) = false := decide_eq_false (by omega)
        have e2 : decide (192 ≤ d) = false := decide_eq_false (by omega)
        have e3 : (d % 8 != 0) = false := by rw [bne, beq_iff_eq.2 (by omega)]; rfl
        have e4 : (d == 8) = false := beq_eq_false_iff_ne.2 (by omega)
        have e5 : (d == 16) = false := beq_eq_false_iff_ne.2 (by omega)
        have e6 : (d == 24) = false := beq_eq_false_iff_ne.2 (by omega)
        have e7 : (d == 32) = false := beq_eq_false_iff_ne.2 (by omega)
        have e8 : decide (d < 64) = true := decide_eq_true (by omega)
        have d0 : 0 ≤ d := by omega
        have d1 : d < 192 := by omega
        clear h
        clear o
        go_wp2_with (refine wpList_store_ndc (o := ⟨none, .store 27 (.tmp 6) (.tmp 69), _, _, _, _⟩) rfl (.tmp 6) (.tmp 69) ?hoh (w.heap.size + 1) ?csh nd0 nd0 ?hxh ?hyh HZ.out ?hmh ?_; (case hoh => rfl); (case hxh => rfl); (case hyh => rfl); (case hmh => rfl))
        rw [HF.out]
        exact bodyPost_ret (results_nd rfl _ (w.heap.size + 1) nd0 rfl (HZ.out.row _)) rfl ⟨rfl, below_setRow HBf.out (by omega) _⟩
      · obtain ⟨d, hd⟩ : ∃ d, at_ - base = d := ⟨_, rfl⟩
        obtain ⟨q, hq⟩ : ∃ q, d - 64 = q := ⟨_, rfl⟩
        have e1 : decide (at_ < base) = false := decide_eq_false (by omega)
        have e2 : decide (192 ≤ d) = false := decide_eq_false (by omega)
        have e3 : (d % 8 != 0) = false := by rw [bne, beq_iff_eq.2 (by omega)]; rfl
        have e4 : (d == 8) = false := beq_eq_false_iff_ne.2 (by omega)
        have e5 : (d == 16) = false := beq_eq_false_iff_ne.2 (by omega)
        have e6 : (d == 24) = false := beq_eq_false_iff_ne.2 (by omega)
        have e7 : (d == 32) = false := beq_eq_false_iff_ne.2 (by omega)
        have e8 : decide (d < 64) = false := decide_eq_false (by omega)
        have e9 : (d % 16 == 0) = true := beq_iff_eq.2 (by omega)
        have e10 : q / 16 = (i : Int) := by omega
        have d0 : 0 ≤ d := by omega
        have d1 : d < 192 := by omega
        have q0 : 0 ≤ q := by omega
        have q1 : q < 128 := by omega
        have i1 : (i : Int) < 8 := by omega
        have HM := Lib.hid (HN.out.trans (show putA base m at_ x = some (m.withK i x) by rw [e, putA_key base m i x h]))
        have HW2 := Lib.hid (HR1.out.set (5 + i) x (ndCells_setk m i h x))
        have hc0 := HR1.out.1.cell (5 + i)
        rw [ndCells_k m i h] at hc0
        have hf0 := HR1.out.1.frozen (5 + i)
        have hx1 := HX.out.cell 1
        have hx0 := HX.out.cell 0
        rw [show (#[Value.int .u64 at_, .int .u64 x] : Array Value)[1]? = some (.int .u64 x) from rfl] at hx1
        rw [show (#[Value.int .u64 at_, .int .u64 x] : Array Value)[0]? = some (.int .u64 at_) from rfl] at hx0
        clear e
        go_wp2_with (fail)
        go_roundw
        case rel => exact ⟨k + 1, m.withK i x, by omega, by go_num, HM, HW2⟩
        case measure => simp [intOf]; omega
      · obtain ⟨d, hd⟩ : ∃ d, at_ - base = d := ⟨_, rfl⟩
        obtain ⟨q, hq⟩ : ∃ q, d - 64 = q := ⟨_, rfl⟩
        have e1 : decide (at_ < base) = false := decide_eq_false (by omega)
        have e2 : decide (192 ≤ d) = false := decide_eq_false (by omega)
        have e3 : (d % 8 != 0) = false := by rw [bne, beq_iff_eq.2 (by omega)]; rfl
        have e4 : (d == 8) = false := beq_eq_false_iff_ne.2 (by omega)
        have e5 : (d == 16) = false := beq_eq_false_iff_ne.2 (by omega)
        have e6 : (d == 24) = false := beq_eq_false_iff_ne.2 (by omega)
        have e7 : (d == 32) = false := beq_eq_false_iff_ne.2 (by omega)
        have e8 : decide (d < 64) = false := decide_eq_false (by omega)
        have e9 : (d % 16 == 0) = false := beq_eq_false_iff_ne.2 (by omega)
        have e10 : q / 16 = (i : Int) := by omega
        have d0 : 0 ≤ d := by omega
        have d1 : d < 192 := by omega
        have q0 : 0 ≤ q := by omega
        have q1 : q < 128 := by omega
        have i1 : (i : Int) < 8 := by omega
        have HM := Lib.hid (HN.out.trans (show putA base m at_ x = some (m.withP i x) by rw [e, putA_ptr base m i x h]))
        have HW2 := Lib.hid (HR1.out.set (13 + i) x (ndCells_setp m i h x))
        have hc0 := HR1.out.1.cell (13 + i)
        rw [ndCells_p m i h] at hc0
        have hf0 := HR1.out.1.frozen (13 + i)
        have hx1 := HX.out.cell 1
        have hx0 := HX.out.cell 0
        rw [show (#[Value.int .u64 at_, .int .u64 x] : Array Value)[1]? = some (.int .u64 x) from rfl] at hx1
        rw [show (#[Value.int .u64 at_, .int .u64 x] : Array Value)[0]? = some (.int .u64 at_) from rfl] at hx0
        clear e
        go_wp2_with (fail)
        go_roundw
        case rel => exact ⟨k + 1, m.withP i x, by omega, by go_num, HM, HW2⟩
        case measure => simp [intOf]; omega
    · have hkl : k = l.length := by omega
      have HF := Lib.hid (show applyV base n l = (m, 0) by
        have := HAp.out
        rw [hkl, List.take_length] at this
        unfold applyV; rw [this])
      have HL := Lib.hid (ndLoad HR.out.1)
      have HI := Lib.hid (info27 m)
      have HZ := Lib.hid HR.out.2.1
      have HBf := Lib.hid HR.out.2.2
      clear hkl
      go_wp2_with (first | (with_reducible refine wpList_load_part (o := ⟨some 88, _, _, _, _, _⟩) rfl 27 _ rfl w.heap.size 0 rfl (ndCells m) _ HL.out Try.underlying27 rfl HI.out ?_) | (refine wpList_store_ndc (o := ⟨none, .store 27 (.tmp 6) (.tmp 88), _, _, _, _⟩) rfl (.tmp 6) (.tmp 88) ?hok (w.heap.size + 1) ?csk m nd0 ?hxk ?hyk HZ.out ?hmk ?_; (case hok => rfl); (case hxk => rfl); (case hyk => rfl); (case hmk => rfl)))
      rw [HF.out]
      exact bodyPost_ret (results_nd rfl _ (w.heap.size + 1) m rfl (HZ.out.row _)) rfl ⟨rfl, below_setRow HBf.out (by omega) _⟩
end Go.Proofs.Ytbpaefhihdhdeaa
namespace Go.Proofs.Ytbpaefhihdhdeaa
open Go.RowKit

/-- stores that came in -/
def PutsIn (w : World) (a : Option Addr) (l : List (Int × Int)) : Prop := 0 < l.length → ∃ g o, a = some ⟨g, o, none⟩ ∧ g < w.heap.size ∧ EntsAt w g o l
theorem ecells_one (l : List (Int × Int)) : ∀ u ∈ ecells l, u.oneCell' = true := by
  intro u hu
  unfold ecells at hu
  obtain ⟨p, _, h⟩ := List.mem_flatMap.1 hu
  simp only [List.mem_cons, List.not_mem_nil, or_false] at h
  rcases h with rfl | rfl <;> rfl
theorem PutsIn.reads {w : World} {a : Option Addr} {l : List (Int × Int)} (h : PutsIn w a l) : Reads w w.heap.size 2 a l.length (ecells l) := by
  refine ⟨ecells_len l, fun hn => ?_⟩
  obtain ⟨g, o, rfl, hg, hE⟩ := h hn
  refine ⟨_, rfl, hg, fun j u hu => ?_⟩
  have hj : j < (ecells l).length := (List.getElem?_eq_some_iff.1 hu).1
  rw [ecells_len] at hj
  obtain ⟨h1, h2⟩ := hE (j / 2) (by omega)
  obtain ⟨g1, g2⟩ := ecells_get l (j / 2) (by omega)
  have ha : (⟨g, o, none⟩ : Addr).add j = ⟨g, o + j, none⟩ := by unfold Addr.add; split <;> simp_all
  rw [ha]
  by_cases hp : j % 2 = 0
  · rw [show j / 2 * 2 = j by omega] at h1 g1
    rw [g1] at hu; cases hu
    exact h1
  · rw [show o + j / 2 * 2 + 1 = o + j by omega] at h2
    rw [show j / 2 * 2 + 1 = j by omega] at g2
    rw [g2] at hu; cases hu
    exact h2

def standsB (base : Int) : Bool := decide (Stands base)
theorem standsB_eq (base : Int) (h0 : 0 ≤ base) : standsB base = !((base == 0) || decide (1099511627776 < base) || (base % 64 != 0)) := by
  by_cases h : Stands base
  · rw [show standsB base = true from decide_eq_true h]
    obtain ⟨h1, h2, h3⟩ := h
    rw [beq_eq_false_iff_ne.2 (by omega : base ≠ 0), decide_eq_false (by omega : ¬ 1099511627776 < base), h3]
    rfl
  · rw [show standsB base = false from decide_eq_false h]
    by_cases a : base = 0
    · simp [a]
    by_cases b : 1099511627776 < base
    · simp [b]
    have : base % 64 ≠ 0 := fun e => h ⟨by omega, by omega, e⟩
    rw [show (base % 64 != 0) = true from bne_iff_ne.2 this]
    simp
theorem applies_out (base : Int) (n : Nd) (a : Option Addr) (k c : Nat) (w : World) (hk : 40 < k) :
    Calls Try.prog 3 #[.int .u64 base, .agg (ndCells n), .slice a k c] w fun e w' => e = .returned (.bool true) ∧ Below w.heap.size w w' := by
  have hk' : (40 : Int) < (k : Int) := by omega
  have HK := Lib.hid (fun w => known_v w)
  have HB0 := Lib.hid ((Below.refl w.heap.size w).alloc (Nat.le_refl _) (.cells (ndCells n) 27))
  go_enter Try.func3, Try.ntmps3
  go_wp2_with (go_at_call 9; refine (HK.out _).mono ?_; rintro e w1 ⟨rfl, hB⟩; have HB1 := Lib.hid (HB0.out.trans (hB.mono HB0.out.size)); clear hB)
  go_ret
  exact ⟨rfl, HB1.out⟩

/-- a new block with a node in it -/
def newNd (w : World) (m : Nd) : World := (w.alloc (.cells (ndCells nd0) 27)).setRow w.heap.size (ndCells m)
theorem newNd_blk (w : World) (m : Nd) : Blk (newNd w m) w.heap.size (ndCells m) 27 := (Blk.new w (ndCells nd0) 27).row _
theorem newNd_below (w : World) (m : Nd) : Below w.heap.size w (newNd w m) := below_setRow ((Below.refl w.heap.size w).alloc (Nat.le_refl _) _) (Nat.le_refl _) _
def appV (base : Int) (n : Nd) (l : List (Int × Int)) : Nd × Int := if standsB base = true then applyV base n l else (nd0, 2)
theorem apply_any (base : Int) (n : Nd) (l : List (Int × Int)) (a : Option Addr) (c b : Nat) (w : World) (hn : l.length ≤ 1000000) (ho : w.ownsRow b 36 2 (.slice a l.length c) l.length (ecells l)) (hu : ∀ i, i < l.length → 0 ≤ eK l i ∧ eK l i < 18446744073709551616) :
    Calls Try.prog 10 #[.int .u64 base, .agg (ndCells n), .slice a l.length c] w fun e w' => MkP (appV base n l).1 (appV base n l).2 w e w' := by
  unfold appV standsB
  by_cases hs : Stands base
  · rw [if_pos (decide_eq_true hs)]
    by_cases hp : 0 < l.length
    · obtain ⟨g, cap, e, _, _, _, _, hE⟩ := own_ents ho rfl hp
      have ha : a = some ⟨g, 0, none⟩ := by cases e; rfl
      exact apply_v base n l a g c w hs hn (fun _ => ha) hE hu
    · exact apply_v base n l a 0 c w hs hn (fun h => absurd h hp) (fun i hi => absurd hi (by omega)) hu
  · rw [if_neg (by simp [hs])]
    exact apply_no base n _ w hs
/-- the law's loop: the node, and the error, after so many -/
def ApSt (base : Int) (n : Nd) (l : List (Int × Int)) (k : Nat) (m : Nd) (f : Int) : Prop :=
  (standsB base = false ∧ f = 2) ∨ (standsB base = true ∧ ((f = 0 ∧ applyL base n (l.take k) = some m) ∨ (f = 2 ∧ applyL base n l = none)))
/-- its worlds -/
structure LpW (w : World) (b8 b10 : Nat) (n v m : Nd) (w' : World) : Prop where
  n : Blk w' w.heap.size (ndCells n) 27
  v : Blk w' b8 (ndCells v) 27
  m : Blk w' b10 (ndCells m) 27
  b : Below w.heap.size w w'
  lt : w.heap.size ≤ b8 ∧ b8 < b10

theorem below_of_keeps {S : Nat → Prop} {a w : World} {B : Nat} (h : Keeps S a w) (hB : B ≤ a.heap.size) (hS : ∀ k, k < B → ¬ S k) : Below B a w :=
  ⟨h.os, h.tape, h.output, h.size, fun k hk => h.block k (by omega) (hS k hk)⟩
theorem LpW.next {w wr W : World} {b8 b10 : Nat} {n v m m' : Nd} (h : LpW w b8 b10 n v m wr) (hk : Keeps (fun i => i = b10) wr W) (hb : Blk W b10 (ndCells m') 27) : LpW w b8 b10 n v m' W :=
  ⟨h.n.kept hk (by have := h.lt; omega), h.v.kept hk (by have := h.lt; omega), hb, h.b.trans (below_of_keeps hk h.b.size (fun k hk e => by have := h.lt; omega)), h.lt⟩
theorem apSt_next {base : Int} {n m m' : Nd} {l : List (Int × Int)} {k : Nat} {f f' : Int} {at_ x : Int} (_h : ApSt base n l k m f) (hs : standsB base = true) (hk : k < l.length) (ha : applyL base n (l.take k) = some m) (he : putA base m (eK l k) (eP l k) = putA base m at_ x)
    (hm : (putV base m at_ x).1 = m') (hf : (putV base m at_ x).2 = f') : ApSt base n l (k + 1) m' f' := by
  have hn := applyL_next base l n m k hk ha
  rw [he] at hn
  unfold putV at hm hf
  refine .inr ⟨hs, ?_⟩
  cases hp : putA base m at_ x with
  | none =>
    rw [hp] at hm hf hn
    exact .inr ⟨hf.symm, applyL_bad base l n (k + 1) hn⟩
  | some z =>
    rw [hp] at hm hf hn
    refine .inl ⟨hf.symm, ?_⟩
    rw [hn]; exact congrArg some hm
theorem apSt_end {base : Int} {n m : Nd} {l : List (Int × Int)} {k : Nat} {f : Int} (h : ApSt base n l k m f) (hk : k ≤ l.length) (hc : (decide (k < l.length) && (f == 0)) = false) :
    appV base n l = (if f = 0 then m else nd0, f) := by
  unfold appV
  rcases h with ⟨h1, h2⟩ | ⟨h1, ⟨h2, h3⟩ | ⟨h2, h3⟩⟩
  · subst h2; rw [h1]; rfl
  · subst h2
    have : k = l.length := by simp at hc; omega
    rw [this, List.take_length] at h3
    rw [h1, if_pos rfl, if_pos rfl]
    unfold applyV; rw [h3]
  · subst h2
    rw [h1, if_pos rfl]
    unfold applyV; rw [h3]; rfl

set_option maxRecDepth 100000 in
set_option maxHeartbeats 6400000 in
theorem applies_in (base : Int) (h0 : 0 ≤ base) (n : Nd) (a : Option Addr) (l : List (Int × Int)) (c : Nat) (w : World) (hk : l.length ≤ 40) (hl : PutsIn w a l) (hu : ∀ i, i < l.length → 0 ≤ eK l i ∧ eK l i < 18446744073709551616) :
    Calls Try.prog 3 #[.int .u64 base, .agg (ndCells n), .slice a l.length c] w fun e w' => e = .returned (.bool true) ∧ Below w.heap.size w w' := by
  obtain ⟨i0, hi, hz0, hz1, hz2⟩ := info_parts Try.info36
  have hk' : ¬ (40 : Int) < (l.length : Int) := by omega
  have HI := Lib.hid (info27 n)
  have hb0 := Blk.new w (ndCells n) 27
  have HB0 := Lib.hid ((Below.refl w.heap.size w).alloc (Nat.le_refl _) (.cells (ndCells n) 27))
  have HRd := Lib.hid (hl.reads.alloc (Nat.le_refl _) (.cells (ndCells n) 27))
  have HIn := Lib.hid hl
  have HU := Lib.hid hu
  have HK0 := Lib.hid hb0
  clear hl hu hb0
  go_enter Try.func3, Try.ntmps3
  go_upto_region 4 with (at_builtin; refine wpList_append_any _ rfl (.const (.slice none 0 0)) (.tmp 17) _ rfl (w.alloc (.cells (ndCells n) 27)).heap.size 36 i0 _ 2 16 Try.underlying28 hi hz0 hz1 hz2 rfl (by omega) (.slice none 0 0) 0 [] rfl (World.ownsRow_nil _ _ _ _) w.heap.size _ l.length c _ rfl HRd.out (ecells_one l) (by unfold maxLen; omega) (by omega) (Nat.le_refl _) ?_; intro v1 w1 hown1 hg1 hat1; have hB1 := (Below.refl (w.alloc (.cells (ndCells n) 27)).heap.size (w.alloc (.cells (ndCells n) 27))).grown hg1 (Nat.le_refl _) (fun r e => by simp [Value.ownBlock] at e); obtain ⟨a1, n1, c1, rfl⟩ := own_slice hown1; have hn1 := own_len hown1; simp [lenOf] at hn1; subst hn1; have HO := Lib.hid hown1; have HB := Lib.hid hB1; clear hown1 hg1 hat1 hB1)
  have HA := Lib.hid (apply_any base n l a1 c1 _ w1 (by omega) (by simpa using HO.out) HU.out)
  have HB1 := Lib.hid (HB0.out.trans (HB.out.mono (by simp)))
  have HK1 := Lib.hid (HK0.out.below HB.out HK0.out.lt)
  have HL1 := Lib.hid (ndLoad HK1.out)
  obtain ⟨m8, hm8⟩ : ∃ x, (appV base n l).1 = x := ⟨_, rfl⟩
  obtain ⟨f8, hf8⟩ : ∃ x, (appV base n l).2 = x := ⟨_, rfl⟩
  rw [hm8, hf8] at HA
  have HV := Lib.hid (show appV base n l = (m8, f8) by rw [← hm8, ← hf8])
  clear hm8 hf8 HRd HO HB HK0 HB0
  go_wp2_with (with_reducible refine wpList_load_part (o := ⟨some 21, _, _, _, _, _⟩) rfl 27 _ rfl w.heap.size 0 rfl (ndCells n) _ HL1.out Try.underlying27 rfl HI.out ?_)
  refine HA.out.mono ?_
  rintro e w2 ⟨rfl, hB2⟩
  have HB2 := Lib.hid (HB1.out.trans (hB2.mono HB1.out.size))
  have HK2 := Lib.hid (HK1.out.below hB2 HK1.out.lt)
  clear hB2 HA
  go_upto_region 5 with (first | (with_reducible refine wpList_alloc_nd (o := ⟨some 8, _, _, _, _, _⟩) rfl rfl ?_) | (refine wpList_store_ndc (o := ⟨none, .store 27 (.tmp 8) (.tmp 24), _, _, _, _⟩) rfl (.tmp 8) (.tmp 24) ?ho w2.heap.size ?cs m8 nd0 ?hx ?hy (Blk.new w2 _ _) ?hm ?_; (case ho => rfl); (case hx => rfl); (case hy => rfl); (case hm => rfl); rw [show (w2.alloc (.cells (ndCells nd0) 27)).setRow w2.heap.size (ndCells m8) = newNd w2 m8 from rfl]))
  go_simp
  have hk3 := HK2.out.below (newNd_below w2 m8) HK2.out.lt
  have hv3 := newNd_blk w2 m8
  have hB3 := HB2.out.trans ((newNd_below w2 m8).mono HB2.out.size)
  have hs3 := hv3.lt
  have hs2 := HB2.out.size
  obtain ⟨b8, hb8⟩ : ∃ x, w2.heap.size = x := ⟨_, rfl⟩
  rw [hb8] at hv3 hs3 hs2 ⊢
  clear hb8 HB2 HK2 HB1 HK1 HL1
  generalize newNd w2 m8 = w3 at *
  have HL3 := Lib.hid (ndLoad hk3)
  have HW4 := Lib.hid (show LpW w b8 w3.heap.size n m8 n (newNd w3 n) from ⟨hk3.below (newNd_below w3 n) hk3.lt, hv3.below (newNd_below w3 n) hv3.lt, newNd_blk w3 n, hB3.trans ((newNd_below w3 n).mono hB3.size), hs2, hs3⟩)
  clear hk3 hv3 hB3
  go_upto_region 6 with (first | (with_reducible refine wpList_load_part (o := ⟨some 26, _, _, _, _, _⟩) rfl 27 _ rfl w.heap.size 0 rfl (ndCells n) _ HL3.out Try.underlying27 rfl HI.out ?_) | (with_reducible refine wpList_alloc_nd (o := ⟨some 10, _, _, _, _, _⟩) rfl rfl ?_) | (refine wpList_store_ndc (o := ⟨none, .store 27 (.tmp 10) (.tmp 26), _, _, _, _⟩) rfl (.tmp 10) (.tmp 26) ?hob w3.heap.size ?csb n nd0 ?hxb ?hyb (Blk.new w3 _ _) ?hmb ?_; (case hob => rfl); (case hxb => rfl); (case hyb => rfl); (case hmb => rfl); rw [show (w3.alloc (.cells (ndCells nd0) 27)).setRow w3.heap.size (ndCells n) = newNd w3 n from rfl]))
  go_simp
  obtain ⟨b10, hb10⟩ : ∃ x, w3.heap.size = x := ⟨_, rfl⟩
  rw [hb10] at HW4 ⊢
  clear hb10 HL3 hs3 hs2
  generalize newNd w3 n = w4 at *
  clear w3 w2 w1
  obtain ⟨sb, hsb⟩ : ∃ x, standsB base = x := ⟨_, rfl⟩
  have HSB := Lib.hid hsb
  go_cut [37] (fun s37 wx => s37 = .bool (!sb) ∧ wx = w4)
  case first =>
    rw [standsB_eq base h0] at hsb
    cases q1 : (base == 0)
    case true =>
      have hX := Lib.hid (show sb = false by rw [← hsb, q1]; rfl)
      clear hsb
      go_wp2_with (fail)
      go_meet
      exact ⟨by rw [hX.out]; rfl, rfl⟩
    case false =>
    cases q2 : decide (1099511627776 < base)
    case true =>
      have hX := Lib.hid (show sb = false by rw [← hsb, q1, q2]; rfl)
      clear hsb
      go_wp2_with (fail)
      go_meet
      exact ⟨by rw [hX.out]; rfl, rfl⟩
    case false =>
    cases q3 : (base % 64 != 0)
    case true =>
      have hX := Lib.hid (show sb = false by rw [← hsb, q1, q2, q3]; rfl)
      clear hsb
      go_wp2_with (fail)
      go_meet
      exact ⟨by rw [hX.out]; rfl, rfl⟩
    case false =>
      have hX := Lib.hid (show sb = true by rw [← hsb, q1, q2, q3]; rfl)
      clear hsb
      go_wp2_with (fail)
      go_meet
      exact ⟨by rw [hX.out]; rfl, rfl⟩
  case rest =>
    obtain ⟨rfl, rfl⟩ := hcut
    go_upto_if 37 with (fail)
    go_cut [11] (fun s11 wx => ∃ f : Int, s11 = .int .i64 f ∧ Hid (ApSt base n l 0 n f) ∧ wx = wc)
    case first =>
      cases sb
      · go_wp2_with (fail)
        go_meet
        exact ⟨2, rfl, Lib.hid (.inl ⟨HSB.out, rfl⟩), rfl⟩
      · go_wp2_with (fail)
        go_meet
        exact ⟨0, rfl, Lib.hid (.inr ⟨HSB.out, .inl ⟨rfl, rfl⟩⟩), rfl⟩
    case rest =>
      obtain ⟨f0, rfl, HSt0, rfl⟩ := hcut
      go_wp2_with (fail)
      go_loopw [11, 12] (fun fv iv wr => ∃ (k : Nat) (m : Nd) (f : Int), k ≤ l.length ∧ iv = .int .i64 k ∧ fv = .int .i64 f ∧ Hid (ApSt base n l k m f) ∧ Hid (LpW w b8 b10 n m8 m wr)) (fun _ iv _ => l.length - (intOf iv).toNat)
      case atStart => exact ⟨0, n, f0, by omega, rfl, rfl, HSt0, HW4⟩
      case round =>
        obtain ⟨k, m, f, hk1, rfl, rfl, HSt, HW⟩ := hrel
        clear HW4 HSt0
        cases hc : (decide (k < l.length) && (f == 0))
        case true =>
          simp only [Bool.and_eq_true, decide_eq_true_eq] at hc
          obtain ⟨hlt, hf0⟩ := hc
          have hlt' : (k : Int) < (l.length : Int) := by omega
          go_wp2_with (fail)
          have hst : standsB base = true := by
            rcases HSt.out with ⟨h1, h2⟩ | ⟨h1, h2⟩
            · subst h2; simp at hf0
            · exact h1
          have hS : Stands base := of_decide_eq_true hst
          have hap : applyL base n (l.take k) = some m := by
            rcases HSt.out with ⟨h1, h2⟩ | ⟨h1, ⟨_, h2⟩ | ⟨h2, _⟩⟩
            · subst h2; simp at hf0
            · exact h2
            · subst h2; simp at hf0
          obtain ⟨g, o, rfl, hg, hE⟩ := HIn.out (by omega)
          obtain ⟨c1, c2⟩ := hE.below HW.out.b hg k hlt
          obtain ⟨at_, hat⟩ : ∃ x, eK l k = x := ⟨_, rfl⟩
          obtain ⟨x, hx⟩ : ∃ x, eP l k = x := ⟨_, rfl⟩
          obtain ⟨m', hm'⟩ : ∃ z, (putV base m at_ x).1 = z := ⟨_, rfl⟩
          obtain ⟨f', hf'⟩ : ∃ z, (putV base m at_ x).2 = z := ⟨_, rfl⟩
          rw [hat] at c1
          rw [hx] at c2
          have HGB := Lib.hid (show ¬ g = b10 from fun e => by have := HW.out.lt; omega)
          --GEN r_applies
          refine wp_region_vals [Is (.int .u64 base), Is (.agg (ndCells m)), Is (.slice (some ⟨g, o, none⟩) l.length c), Is (.int .i64 k), Is (.pointer (some ⟨g, o + k * 2, none⟩)), Is (.agg #[.int .u64 at_, .int .u64 x]), Is (.tuple #[.agg (ndCells m'), .int .i64 f']), Is (.tuple #[.agg (ndCells m'), .int .i64 f']), Is (.agg (ndCells m')), Is (.int .i64 f'), Any, Is (.int .i64 f')]
            (fun _ => Keeps (fun i => i = b10)) (fun L W => Keeps (fun i => i = b10) wr W ∧ Blk W b10 (ndCells (if L 10 = true then m' else m)) 27) (by kernel_rfl) (by kernel_rfl) (by kernel_rfl) ?hst ?h0 ⟨?o0, ?o1, ?o2, ?o3, ?o4, ?o5, ?o6, ?o7, ?o8, ?o9, ?o10, ?o11, trivial⟩ ?he
          case hst =>
            exact ⟨(fun _ _ _ _ _ _ h _ => h), (fun _ _ _ _ _ _ h _ => h), (fun _ _ _ _ _ _ h _ => h), (fun _ _ _ _ _ _ h _ => h), (fun _ _ _ _ _ _ h _ => h), (fun _ _ _ _ _ _ h _ => h), (fun _ _ _ _ _ _ h _ => h), (fun _ _ _ _ _ _ h _ => h), (fun _ _ _ _ _ _ h _ => h), (fun _ _ _ _ _ _ h _ => h), (fun _ _ _ _ _ _ h _ => h), (fun _ _ _ _ _ _ h _ => h), trivial⟩
          case h0 =>
            exact ⟨(Keeps.refl _ _).drew, HW.out.m.drew⟩
          case o0 =>
            intro L vs A W H hf hd K hK
            have e0 : A.tmps[0]?.getD undef = .int .u64 base := H.old 0 (by kernel_rfl)
            go_simp
            exact hK _ _ (Keeps.refl _ _) rfl (H.glob)
          case o1 =>
            intro L vs A W H hf hd K hK
            have e10 : A.tmps[10]?.getD undef = .pointer (some ⟨b10, 0, none⟩) := H.old 10 (by kernel_rfl)
            have n10 := H.notYet 10 1 rfl hf (by kernel_rfl)
            have hb := H.glob.2
            rw [n10] at hb
            rw [if_pos (show Region.wanted _ _ = true from rfl)]
            exact wp_load_nd _ rfl b10 m (ev_tmp e10) hb (hK _ _ (Keeps.refl _ _) rfl H.glob)
          case o2 =>
            intro L vs A W H hf hd K hK
            have e2 : A.tmps[2]?.getD undef = .slice (some ⟨g, o, none⟩) l.length c := H.old 2 (by kernel_rfl)
            go_simp
            exact hK _ _ (Keeps.refl _ _) rfl (H.glob)
          case o3 =>
            intro L vs A W H hf hd K hK
            have e12 : A.tmps[12]?.getD undef = .int .i64 k := H.old 12 (by kernel_rfl)
            go_simp
            exact hK _ _ (Keeps.refl _ _) rfl (H.glob)
          case o4 =>
            intro L vs A W H hf hd K hK
            have e51 := H.is 2 51 rfl rfl rfl (deps_of' hd 2 (by kernel_rfl)) (by kernel_rfl)
            have e52 := H.is 3 52 rfl rfl rfl (deps_of' hd 3 (by kernel_rfl)) (by kernel_rfl)
            go_simp
            exact hK _ _ (Keeps.refl _ _) rfl (H.glob)
          case o5 =>
            intro L vs A W H hf hd K hK
            have e53 := H.is 4 53 rfl rfl rfl (deps_of' hd 4 (by kernel_rfl)) (by kernel_rfl)
            have d1 := (H.glob.1.cell (p := ⟨g, o + k * 2, none⟩) (by have := HW.out.b.size; exact Nat.lt_of_lt_of_le hg this) HGB.out).trans c1
            have d2 := (H.glob.1.cell (p := ⟨g, o + k * 2 + 1, none⟩) (by have := HW.out.b.size; exact Nat.lt_of_lt_of_le hg this) HGB.out).trans c2
            go_simp
            exact hK _ _ (Keeps.refl _ _) rfl (H.glob)
          case o6 =>
            intro L vs A W H hf hd K hK
            have e49 := H.is 0 49 rfl rfl rfl (deps_of' hd 0 (by kernel_rfl)) (by kernel_rfl)
            have e50 := H.is 1 50 rfl rfl rfl (deps_of' hd 1 (by kernel_rfl)) (by kernel_rfl)
            have e54 := H.is 5 54 rfl rfl rfl (deps_of' hd 5 (by kernel_rfl)) (by kernel_rfl)
            rw [if_pos (show Region.wanted _ _ = true from rfl)]
            go_wp2_with (fail)
            refine (rapply_v base m at_ x _ hS).mono ?_
            rw [hm', hf']
            rintro e W2 ⟨rfl, hB⟩
            exact hK _ _ (Keeps.of_belowS hB) rfl ⟨H.glob.1.trans (Keeps.of_belowS hB), H.glob.2.below hB H.glob.2.lt⟩
          case o7 =>
            intro L vs A W H hf hd K hK
            have e55 := H.is 6 55 rfl rfl rfl (deps_of' hd 6 (by kernel_rfl)) (by kernel_rfl)
            go_simp
            exact hK _ _ (Keeps.refl _ _) rfl (H.glob)
          case o8 =>
            intro L vs A W H hf hd K hK
            have e48 := H.is 7 48 rfl rfl rfl (deps_of' hd 7 (by kernel_rfl)) (by kernel_rfl)
            go_simp
            exact hK _ _ (Keeps.refl _ _) rfl (H.glob)
          case o9 =>
            intro L vs A W H hf hd K hK
            have e48 := H.is 7 48 rfl rfl rfl (deps_of' hd 7 (by kernel_rfl)) (by kernel_rfl)
            go_simp
            exact hK _ _ (Keeps.refl _ _) rfl (H.glob)
          case o10 =>
            intro L vs A W H hf hd K hK
            have e10 : A.tmps[10]?.getD undef = .pointer (some ⟨b10, 0, none⟩) := H.old 10 (by kernel_rfl)
            have e56 := H.is 8 56 rfl rfl rfl (deps_of' hd 8 (by kernel_rfl)) (by kernel_rfl)
            have hb := H.glob.2
            rw [show L 10 = false from hf] at hb
            rw [if_pos (show Region.wanted _ _ = true from rfl)]
            exact wp_store_nd _ _ rfl b10 m' m (ev_tmp e10) (ev_tmp e56) hb (hK _ _ (keeps_setRow (S := fun i => i = b10) (Keeps.refl _ _) (.inl rfl) _) trivial ⟨keeps_setRow H.glob.1 (.inl rfl) _, hb.row _⟩)
          case o11 =>
            intro L vs A W H hf hd K hK
            have e57 := H.is 9 57 rfl rfl rfl (deps_of' hd 9 (by kernel_rfl)) (by kernel_rfl)
            go_simp
            exact hK _ _ (Keeps.refl _ _) rfl (H.glob)
          case he =>
            intro vs W hlen hv
            match vs, hlen, hv with
            | [x0_, x1_, x2_, x3_, x4_, x5_, x6_, x7_, x8_, x9_, x10_, x11_], _, hv =>
            obtain rfl : (.int .u64 base) = x0_ := by obtain ⟨z, h1, h2⟩ := hv 0 _ rfl; cases h1; exact h2.symm
            obtain rfl : (.agg (ndCells m)) = x1_ := by obtain ⟨z, h1, h2⟩ := hv 1 _ rfl; cases h1; exact h2.symm
            obtain rfl : (.slice (some ⟨g, o, none⟩) l.length c) = x2_ := by obtain ⟨z, h1, h2⟩ := hv 2 _ rfl; cases h1; exact h2.symm
            obtain rfl : (.int .i64 k) = x3_ := by obtain ⟨z, h1, h2⟩ := hv 3 _ rfl; cases h1; exact h2.symm
            obtain rfl : (.pointer (some ⟨g, o + k * 2, none⟩)) = x4_ := by obtain ⟨z, h1, h2⟩ := hv 4 _ rfl; cases h1; exact h2.symm
            obtain rfl : (.agg #[.int .u64 at_, .int .u64 x]) = x5_ := by obtain ⟨z, h1, h2⟩ := hv 5 _ rfl; cases h1; exact h2.symm
            obtain rfl : (.tuple #[.agg (ndCells m'), .int .i64 f']) = x6_ := by obtain ⟨z, h1, h2⟩ := hv 6 _ rfl; cases h1; exact h2.symm
            obtain rfl : (.tuple #[.agg (ndCells m'), .int .i64 f']) = x7_ := by obtain ⟨z, h1, h2⟩ := hv 7 _ rfl; cases h1; exact h2.symm
            obtain rfl : (.agg (ndCells m')) = x8_ := by obtain ⟨z, h1, h2⟩ := hv 8 _ rfl; cases h1; exact h2.symm
            obtain rfl : (.int .i64 f') = x9_ := by obtain ⟨z, h1, h2⟩ := hv 9 _ rfl; cases h1; exact h2.symm
            obtain rfl : (.int .i64 f') = x11_ := by obtain ⟨z, h1, h2⟩ := hv 11 _ rfl; cases h1; exact h2.symm
            intro L hall hG
            clear hv hlen
            have h10 := hall 10 (by decide)
            have HW2 := Lib.hid (HW.out.next hG.1 (show Blk W b10 (ndCells m') 27 by have := hG.2; rwa [h10] at this))
            have HSt2 := Lib.hid (apSt_next HSt.out hst hlt hap (hat ▸ hx ▸ rfl : putA base m (eK l k) (eP l k) = putA base m at_ x) hm' hf')
            clear hG hall h10 hf0 hm' hf' hap hst hat hx c1 c2
            simp only [fill, if_true]
            go_simp
            go_wp2_with (fail)
            go_roundw
            case rel => exact ⟨k + 1, m', f', by omega, by go_num, rfl, HSt2, HW2⟩
            case measure => simp [intOf]; omega
          --END
        case false =>
          have hend := apSt_end HSt.out hk1 hc
          rw [HV.out] at hend
          obtain ⟨h1, h2⟩ := Prod.mk.inj hend
          subst h2
          have hEq := fun w => eq_nd m8 w
          have HKn := Lib.hid (fun w => known_v w)
          have HLv := Lib.hid (ndLoad HW.out.v)
          have HIv := Lib.hid (info27 m8)
          have hcs : decide (k < l.length) = false ∨ (decide (k < l.length) = true ∧ (f8 == 0) = false) := by
            cases h : decide (k < l.length)
            · exact .inl rfl
            · rw [h] at hc; exact .inr ⟨rfl, by simpa using hc⟩
          have q2 : (f8 == f8) = true := beq_self_eq_true f8
          clear hend hc HSt
          cases q1 : (f8 == 0)
          case true =>
            have q1' : (f8 != 0) = false := by rw [bne, q1]; rfl
            have hm : m8 = m := by rw [h1, if_pos (by simpa using q1)]
            subst hm
            have hlt : ¬ (k : Int) < (l.length : Int) := by
              rcases hcs with h | ⟨_, h⟩
              · simp at h; omega
              · rw [q1] at h; cases h
            have HLm := Lib.hid (ndLoad HW.out.m)
            clear h1 hcs
            go_wp2_with (first | (with_reducible refine wpList_load_part (o := ⟨some 61, _, _, _, _, _⟩) rfl 27 _ rfl b8 0 rfl (ndCells m8) _ HLv.out Try.underlying27 rfl HIv.out ?_) | (with_reducible refine wpList_load_part (o := ⟨some 62, _, _, _, _, _⟩) rfl 27 _ rfl b10 0 rfl (ndCells m8) _ HLm.out Try.underlying27 rfl HIv.out ?_) | (go_at_call 9; refine (HKn.out _).mono ?_; rintro e w5 ⟨rfl, hB⟩; have HB5 := Lib.hid (HW.out.b.trans (hB.mono HW.out.b.size)); clear hB))
            go_ret
            exact ⟨rfl, HB5.out⟩
          case false =>
            have q1' : (f8 != 0) = true := by rw [bne, q1]; rfl
            have hm : m8 = nd0 := by rw [h1, if_neg (by simpa using q1)]
            have HZ := Lib.hid hm
            clear hm
            have HW2 := Lib.hid (show LpW w b8 b10 n m8 m8 (wr.setRow b10 (ndCells m8)) from HW.out.next (keeps_setRow (S := fun i => i = b10) (Keeps.refl _ _) (.inl rfl) _) (HW.out.m.row _))
            have HLw := Lib.hid (ndLoad HW2.out.v)
            have HLm := Lib.hid (ndLoad HW2.out.m)
            have hcs' : (¬ (k : Int) < (l.length : Int)) ∨ (k : Int) < (l.length : Int) := by omega
            clear h1 hcs
            rcases hcs' with hlt | hlt
            · go_upto_region 13 with (fail)
              go_upto_region 14 with (refine wpList_store_ndc (o := ⟨none, .store 27 (.tmp 10) (.tmp 60), _, _, _, _⟩) rfl (.tmp 10) (.tmp 60) ?hoy b10 ?csy m8 m ?hxy ?hyy HW.out.m ?hmy ?_; (case hoy => rfl); (case hxy => rfl); (case hyy => rfl); (case hmy => rw [HZ.out]; rfl))
              go_simp
              go_wp2_with (first | (with_reducible refine wpList_load_part (o := ⟨some 61, _, _, _, _, _⟩) rfl 27 _ rfl b8 0 rfl (ndCells m8) _ HLw.out Try.underlying27 rfl HIv.out ?_) | (with_reducible refine wpList_load_part (o := ⟨some 62, _, _, _, _, _⟩) rfl 27 _ rfl b10 0 rfl (ndCells m8) _ HLm.out Try.underlying27 rfl HIv.out ?_) | (go_at_call 9; refine (HKn.out _).mono ?_; rintro e w5 ⟨rfl, hB⟩; have HB5 := Lib.hid (HW2.out.b.trans (hB.mono HW2.out.b.size)); clear hB))
              go_ret
              exact ⟨rfl, HB5.out⟩
            · go_upto_region 13 with (fail)
              go_upto_region 14 with (refine wpList_store_ndc (o := ⟨none, .store 27 (.tmp 10) (.tmp 60), _, _, _, _⟩) rfl (.tmp 10) (.tmp 60) ?hoz b10 ?csz m8 m ?hxz ?hyz HW.out.m ?hmz ?_; (case hoz => rfl); (case hxz => rfl); (case hyz => rfl); (case hmz => rw [HZ.out]; rfl))
              go_simp
              go_wp2_with (first | (with_reducible refine wpList_load_part (o := ⟨some 61, _, _, _, _, _⟩) rfl 27 _ rfl b8 0 rfl (ndCells m8) _ HLw.out Try.underlying27 rfl HIv.out ?_) | (with_reducible refine wpList_load_part (o := ⟨some 62, _, _, _, _, _⟩) rfl 27 _ rfl b10 0 rfl (ndCells m8) _ HLm.out Try.underlying27 rfl HIv.out ?_) | (go_at_call 9; refine (HKn.out _).mono ?_; rintro e w5 ⟨rfl, hB⟩; have HB5 := Lib.hid (HW2.out.b.trans (hB.mono HW2.out.b.size)); clear hB))
              go_ret
              exact ⟨rfl, HB5.out⟩
end Go.Proofs.Ytbpaefhihdhdeaa
namespace Go.Proofs.Ytbpaefhihdhdeaa
open Go.RowKit
set_option linter.unusedVariables false

theorem wp_alloc_nd {o : Oper} {a : Act} {w : World} {K : Act → World → Prop} {Q : Exit → Act → World → Prop} (ho : o.op = .alloc 27)
    (h : K (a.put o.dst (.pointer (some ⟨w.heap.size, 0, none⟩))) (w.alloc (.cells (ndCells nd0) 27))) : Oper.wp Try.prog o a w K Q := by
  unfold Oper.wp execOp
  simp only [ho, Sem.run_bind, run_alloc_nd, Result.andThen_ok, Sem.run_pure]
  exact h
/-- the block that operation i lays, its pointer in slot s, and that operation j stores to -/
def NewG (B s i j : Nat) (m' : Nd) (L : Nat → Bool) (a : Act) (W : World) : Prop :=
  L i = true → ∃ H x, a.tmps[s]?.getD undef = .pointer (some ⟨H, 0, none⟩) ∧ B ≤ H ∧ Blk W H (ndCells x) 27 ∧ (L j = true → x = m')
theorem NewG.keep {B s i j : Nat} {m' : Nd} {L L' : Nat → Bool} {a : Act} {W W' : World} {d : Option Tmp} {v : Value} (h : NewG B s i j m' L a W) (h1 : L' i = L i) (h2 : L' j = L j) (hd : d ≠ some s) (hB : Below W.heap.size W W') : NewG B s i j m' L' (a.put d v) W' := by
  intro hi
  rw [h1] at hi
  obtain ⟨H, x, e, hH, hb, hx⟩ := h hi
  refine ⟨H, x, ?_, hH, hb.below hB hb.lt, fun hj => hx (by rw [← h2]; exact hj)⟩
  have := getD_put_ne (a := a) (v := v) hd
  simp only [Array.getD_eq_getD_getElem?] at this
  rw [this]; exact e
theorem NewG.none {B s i j : Nat} {m' : Nd} {a : Act} {W : World} : NewG B s i j m' (fun _ => false) a W := fun h => by cases h

/-! ### the phases -/
def PhA (base : Int) (was now : List (Int × Int)) (m : Nd) (rest : List (Int × Int)) : Prop :=
  ∃ L1 s L2 m1 m2 m3, rest = L1 ++ s :: L2 ∧ Stay base was m L1 m1 ∧ putA base m1 s.1 s.2 = some m2 ∧ m2.mayB 0 false = true ∧ m2.valid = now ∧ Stay base now m2 L2 m3 ∧ Full m3 now ∧ Fine m3 now
def PhB (base : Int) (now : List (Int × Int)) (m : Nd) (rest : List (Int × Int)) : Prop := ∃ m3, Stay base now m rest m3 ∧ Full m3 now ∧ Fine m3 now
theorem PhB.step {base : Int} {now : List (Int × Int)} {m : Nd} {x : Int × Int} {r : List (Int × Int)} (h : PhB base now m (x :: r)) :
    ∃ m', putA base m x.1 x.2 = some m' ∧ m'.mayB 0 false = true ∧ m'.valid = now ∧ PhB base now m' r := by
  obtain ⟨m3, ⟨q, a, b, c, d⟩, e⟩ := h
  exact ⟨q, a, b, c, m3, d, e⟩
theorem PhB.done {base : Int} {now : List (Int × Int)} {m : Nd} (h : PhB base now m []) : m.valid = now ∧ m.inval = -1 ∧ m.mayB 0 false = true := by
  obtain ⟨m3, rfl, a, b⟩ := h
  exact ⟨a.valid b, by rw [← inval_eq]; exact a.inv b, a.may b⟩
theorem PhA.step {base : Int} {was now : List (Int × Int)} {m : Nd} {x : Int × Int} {r : List (Int × Int)} (h : PhA base was now m (x :: r)) :
    ∃ m', putA base m x.1 x.2 = some m' ∧ m'.mayB 0 false = true ∧ ((m'.valid = was ∧ PhA base was now m' r) ∨ (m'.valid = now ∧ PhB base now m' r)) := by
  obtain ⟨L1, s, L2, m1, m2, m3, e, h1, h2, h3, h4, h5, h6⟩ := h
  cases L1 with
  | nil =>
    cases h1
    rw [List.nil_append] at e
    obtain ⟨rfl, rfl⟩ := List.cons.inj e
    exact ⟨m2, h2, h3, .inr ⟨h4, m3, h5, h6⟩⟩
  | cons y L1 =>
    rw [List.cons_append] at e
    obtain ⟨rfl, rfl⟩ := List.cons.inj e
    obtain ⟨q, a, b, c, d⟩ := h1
    exact ⟨q, a, b, .inl ⟨c, L1, s, L2, m1, m2, m3, rfl, d, h2, h3, h4, h5, h6⟩⟩
theorem PhA.ne {base : Int} {was now : List (Int × Int)} {m : Nd} : ¬ PhA base was now m [] := by
  rintro ⟨L1, s, L2, m1, m2, m3, e, _⟩
  simp at e
/-- where a run stands -/
def PhS (base : Int) (was now : List (Int × Int)) (d : Bool) (m : Nd) (rest : List (Int × Int)) : Prop := (d = false ∧ PhA base was now m rest) ∨ PhB base now m rest
theorem phS_start {base : Int} {n : Nd} {was now L : List (Int × Int)} {e : Option Nat} (h : Traj base n was now L e) : PhS base was now false n L := by
  cases e with
  | none =>
    obtain ⟨m3, a, rfl, b⟩ := h
    exact .inr ⟨m3, a, b⟩
  | some t =>
    obtain ⟨L1, s, L2, m1, m2, m3, e, _, h1, h2, h3, h4, _, h5, h6⟩ := h
    exact .inl ⟨rfl, L1, s, L2, m1, m2, m3, e, h1, h2, h3, h4, h5, h6⟩
/-- one store on: three ways -/
theorem phS_step {base : Int} {was now : List (Int × Int)} {d : Bool} {m : Nd} {x : Int × Int} {r : List (Int × Int)} (h : PhS base was now d m (x :: r)) :
    ∃ m', putA base m x.1 x.2 = some m' ∧ m'.mayB 0 false = true ∧
      ((d = false ∧ (m'.valid == was) = true ∧ PhS base was now false m' r) ∨ (d = false ∧ (m'.valid == was) = false ∧ (m'.valid == now) = true ∧ PhS base was now true m' r) ∨ (d = true ∧ (m'.valid == now) = true ∧ PhS base was now true m' r)) := by
  rcases h with ⟨rfl, h⟩ | h
  · obtain ⟨m', a, b, c⟩ := h.step
    refine ⟨m', a, b, ?_⟩
    rcases c with ⟨c, p⟩ | ⟨c, p⟩
    · exact .inl ⟨rfl, by rw [c]; exact beq_self_eq_true _, .inl ⟨rfl, p⟩⟩
    · cases hq : (m'.valid == was)
      · exact .inr (.inl ⟨rfl, rfl, by rw [c]; exact beq_self_eq_true _, .inr p⟩)
      · exact .inl ⟨rfl, rfl, .inr p⟩
  · obtain ⟨m', a, b, c, p⟩ := h.step
    refine ⟨m', a, b, ?_⟩
    cases d
    · cases hq : (m'.valid == was)
      · exact .inr (.inl ⟨rfl, rfl, by rw [c]; exact beq_self_eq_true _, .inr p⟩)
      · exact .inl ⟨rfl, rfl, .inr p⟩
    · exact .inr (.inr ⟨rfl, by rw [c]; exact beq_self_eq_true _, .inr p⟩)
theorem phS_done {base : Int} {was now : List (Int × Int)} {d : Bool} {m : Nd} (h : PhS base was now d m []) : m.valid = now ∧ m.inval = -1 ∧ m.mayB 0 false = true := by
  rcases h with ⟨_, h⟩ | h
  · exact absurd h PhA.ne
  · exact h.done
theorem drop_ent (L : List (Int × Int)) {k : Nat} (h : k < L.length) : L.drop k = (eK L k, eP L k) :: L.drop (k + 1) := by
  rw [List.drop_eq_getElem_cons h, ent_get h]
end Go.Proofs.Ytbpaefhihdhdeaa
namespace Go.Proofs.Ytbpaefhihdhdeaa
open Go.RowKit
set_option linter.unusedVariables false

theorem newG_alloc {B s i j : Nat} {m' : Nd} {L : Nat → Bool} {a : Act} {W : World} (hz : s < a.tmps.size) (hB : B ≤ W.heap.size) (hj : L j = false) (hij : j ≠ i) :
    NewG B s i j m' (lset L i) (a.put (some s) (.pointer (some ⟨W.heap.size, 0, none⟩))) (W.alloc (.cells (ndCells nd0) 27)) :=
  fun _ => ⟨W.heap.size, nd0, by simp [Act.put, hz], hB, Blk.new _ _ _, fun h => by unfold lset at h; rw [if_neg hij, hj] at h; cases h⟩
theorem made_pos {base : Int} {n : Nd} {kd key ptr : Int} (hk : kd = 0 ∨ kd = 1 ∨ kd = 2 ∨ kd = 3 ∨ kd = 4 ∨ kd = 5) (hc : madeC base n kd key ptr = 0) : 0 < (madeL base n kd key ptr).length := by
  rcases hk with rfl | rfl | rfl | rfl | rfl | rfl
  · show 0 < (insP base n key ptr).length
    unfold insP; rw [if_pos (show insE base n key ptr = 0 from hc)]; unfold insL; simp
  · show 0 < (delP base n key).length
    unfold delP; rw [if_pos (show delE base n key = 0 from hc)]; unfold delL; simp
  · show 0 < (repP base n).length
    unfold repP; rw [if_pos (show repE base n = 0 from hc)]; unfold repL; simp
  · show 0 < (swapP base n key ptr).length
    unfold swapP; rw [if_pos (show swapE base n key ptr = 0 from hc)]; simp
  · show 0 < (cutP base n key).length
    unfold cutP; rw [if_pos (show cutE base n key = 0 from hc)]; simp
  · show 0 < (linkP base n ptr).length
    unfold linkP; rw [if_pos (show mayE base n = 0 from hc)]; simp
theorem made_len9 (base : Int) (n : Nd) (kd key ptr : Int) : (madeL base n kd key ptr).length ≤ 40 := by
  have h8 := n.len_le
  unfold madeL
  split
  · unfold insP
    split
    · unfold insL
      have : (n.last key + 1).toNat ≤ n.len := by have := last_ge n key; omega
      have h2 := shiftL_len base n n.len (n.len - (n.last key + 1).toNat)
      simp only [List.length_append, h2]
      split <;> simp <;> omega
    · simp
  split
  · unfold delP
    split
    · unfold delL; simp only [List.length_append, gapL_len]; simp; omega
    · simp
  split
  · unfold repP
    split
    · unfold repL; simp only [List.length_append, gapL_len]; simp; omega
    · simp
  split
  · unfold swapP; split <;> simp
  split
  · unfold cutP; split <;> simp
  · unfold linkP; split <;> simp
/-- the worlds of the loop -/
structure HoW (w : World) (B b4 gL : Nat) (L : List (Int × Int)) (v1 v2 : Value) (was now : List (Int × Int)) (m : Nd) (W : World) : Prop where
  n : Blk W b4 (ndCells m) 27
  l : EntsAt W gL 0 L
  r1 : RowV B was v1 W
  r2 : RowV B now v2 W
  b : Below w.heap.size w W
  lb : w.heap.size ≤ b4
  lB : b4 < B
  lg : B ≤ gL
theorem RowV.other {B b : Nat} {l : List (Int × Int)} {v : Value} {W : World} (h : RowV B l v W) (hb : b < B) (C : Array Value) : RowV B l v (W.setRow b C) := by
  obtain ⟨hl, h0 | ⟨g, cap, cur, hv, hg, hh, h1⟩⟩ := h
  · exact ⟨hl, .inl h0⟩
  · exact ⟨hl, .inr ⟨g, cap, cur, hv, hg, by rw [setRow_other W b g C (by omega)]; exact hh, h1⟩⟩
section
variable {w W W' : World} {B b4 gL : Nat} {L : List (Int × Int)} {v1 v2 : Value} {was now : List (Int × Int)} {m m' : Nd}
theorem HoW.keep (h : HoW w B b4 gL L v1 v2 was now m W) (hB : Below W.heap.size W W') : HoW w B b4 gL L v1 v2 was now m W' :=
  ⟨h.n.below hB h.n.lt, fun i hi => (h.l.below hB (h.l.lt (by omega))) i hi, own_below h.r1 hB, own_below h.r2 hB, h.b.trans (hB.mono h.b.size), h.lb, h.lB, h.lg⟩
theorem HoW.set (h : HoW w B b4 gL L v1 v2 was now m W) : HoW w B b4 gL L v1 v2 was now m' (W.setRow b4 (ndCells m')) :=
  ⟨h.n.row _, fun i hi => by
    have hne : gL ≠ b4 := by have := h.lB; have := h.lg; omega
    obtain ⟨a, b⟩ := h.l i hi
    exact ⟨(World.cell?_of_block (w := W) (a := ⟨gL, 0 + i * 2, none⟩) (setRow_other W b4 gL _ hne)).trans a, (World.cell?_of_block (w := W) (a := ⟨gL, 0 + i * 2 + 1, none⟩) (setRow_other W b4 gL _ hne)).trans b⟩,
   h.r1.other h.lB _, h.r2.other h.lB _, below_setRow h.b h.lb _, h.lb, h.lB, h.lg⟩
end

theorem traj_now {base : Int} {n : Nd} {was now L : List (Int × Int)} {e : Option Nat} (h : Traj base n was now L e) : now.length ≤ 8 := by
  cases e with
  | none =>
    obtain ⟨m3, _, _, h1, _⟩ := h
    exact h1.le
  | some t =>
    obtain ⟨L1, s, L2, m1, m2, m3, _, _, _, _, _, _, _, _, h5, _⟩ := h
    exact h5.le
/-- the loop -/
def HoRel (base : Int) (w : World) (B b4 gL : Nat) (Ls : List (Int × Int)) (v1 v2 : Value) (was now : List (Int × Int)) (dv iv : Value) (W : World) : Prop :=
  ∃ (k : Nat) (m : Nd) (d : Bool), k ≤ Ls.length ∧ iv = .int .i64 k ∧ dv = .bool d ∧ PhS base was now d m (Ls.drop k) ∧ HoW w B b4 gL Ls v1 v2 was now m W
set_option maxRecDepth 100000 in
set_option maxHeartbeats 1600000 in
theorem holds_err (base : Int) (n : Nd) (kind key ptr : Int) (w : World) (hc : madeC base n (kdOf kind) key ptr ≠ 0) :
    Calls Try.prog 5 #[.int .u64 base, .agg (ndCells n), .agg (askC kind key ptr)] w fun e w' => e = .returned (.bool true) ∧ Below w.heap.size w w' := by
  have HI := Lib.hid (info27 n)
  have hk0 : Blk ((w.alloc (.cells (ndCells n) 27)).alloc (.cells (askC kind key ptr) 39)) w.heap.size (ndCells n) 27 := (Blk.new w _ _).alloc _
  have hg0 : Blk ((w.alloc (.cells (ndCells n) 27)).alloc (.cells (askC kind key ptr) 39)) (w.heap.size + 1) (askC kind key ptr) 39 := by
    have := Blk.new (w.alloc (.cells (ndCells n) 27)) (askC kind key ptr) 39
    simpa using this
  have HL0 := Lib.hid (ndLoad hk0)
  have HB0 := Lib.hid (((Below.refl w.heap.size w).alloc (Nat.le_refl _) (.cells (ndCells n) 27)).alloc (by simp) (.cells (askC kind key ptr) 39))
  have HMd := Lib.hid (fun w => made_v base n kind key ptr w)
  obtain ⟨C, hC⟩ : ∃ l, madeC base n (kdOf kind) key ptr = l := ⟨_, rfl⟩
  rw [hC] at HMd hc
  have q1 : (C != 0) = true := bne_iff_ne.2 hc
  clear hk0 hg0 hC hc
  unfold askC at *
  go_enter Try.func5, Try.ntmps5
  go_wp2_with (with_reducible refine wpList_load_part (o := ⟨some 18, _, _, _, _, _⟩) rfl 27 _ rfl w.heap.size 0 rfl (ndCells n) _ HL0.out Try.underlying27 rfl HI.out ?_)
  refine (HMd.out _).mono ?_
  rintro e w1 ⟨a1, m1, c1, rfl, hm1, ho1, hB⟩
  have HB1 := Lib.hid (HB0.out.trans (hB.mono HB0.out.size))
  clear hB hm1 ho1
  go_wp2_with (fail)
  refine (known_v _).mono ?_
  rintro e w2 ⟨rfl, hB⟩
  have HB2 := Lib.hid (HB1.out.trans (hB.mono HB1.out.size))
  clear hB
  go_wp2_with (fail)
  go_ret
  exact ⟨rfl, HB2.out⟩

set_option maxRecDepth 100000 in
set_option maxHeartbeats 6400000 in
theorem holds_ok (base : Int) (n : Nd) (kind key ptr : Int) (w : World) (hc : madeC base n (kdOf kind) key ptr = 0) :
    Calls Try.prog 5 #[.int .u64 base, .agg (ndCells n), .agg (askC kind key ptr)] w fun e w' => e = .returned (.bool true) ∧ Below w.heap.size w w' := by
  have HT := Lib.hid (phS_start (traj_all (kdOf_lt kind) hc))
  have HWas := Lib.hid (show n.valid.length ≤ 100 ∧ (behL (kdOf kind) key ptr n.valid).length ≤ 100 from ⟨by have := plN_len n; simp [Nd.valid]; omega, by have := traj_now (traj_all (kdOf_lt kind) hc); omega⟩)
  have hS := made_stands (kdOf_lt kind) hc
  have hpos := made_pos (kdOf_lt kind) hc
  have HI := Lib.hid (info27 n)
  have hk0 : Blk ((w.alloc (.cells (ndCells n) 27)).alloc (.cells (askC kind key ptr) 39)) w.heap.size (ndCells n) 27 := (Blk.new w _ _).alloc _
  have hg0 : Blk ((w.alloc (.cells (ndCells n) 27)).alloc (.cells (askC kind key ptr) 39)) (w.heap.size + 1) (askC kind key ptr) 39 := by
    have := Blk.new (w.alloc (.cells (ndCells n) 27)) (askC kind key ptr) 39
    simpa using this
  have HK0 := Lib.hid hk0
  have HG0 := Lib.hid hg0
  have HL0 := Lib.hid (ndLoad hk0)
  have HB0 := Lib.hid (((Below.refl w.heap.size w).alloc (Nat.le_refl _) (.cells (ndCells n) 27)).alloc (by simp) (.cells (askC kind key ptr) 39))
  have HMd := Lib.hid (fun w => made_v base n kind key ptr w)
  have HVa := Lib.hid (fun w => rvalid_calls n w)
  have HBh := Lib.hid (fun w => behind_v n kind key ptr w)
  obtain ⟨Ls, hL⟩ : ∃ l, madeL base n (kdOf kind) key ptr = l := ⟨_, rfl⟩
  obtain ⟨was, hwas⟩ : ∃ l, n.valid = l := ⟨_, rfl⟩
  obtain ⟨now, hnow⟩ : ∃ l, behL (kdOf kind) key ptr was = l := ⟨_, rfl⟩
  rw [hwas] at HT HVa HBh HWas
  rw [hnow] at HT HBh HWas
  rw [hL] at HT HMd hpos
  rw [hc] at HMd
  have HS := Lib.hid hS
  have HLn := Lib.hid (show Ls.length ≤ 1000 by rw [← hL]; have := made_len9 base n (kdOf kind) key ptr; omega)
  clear hk0 hg0 hL hc hwas hnow hS
  unfold askC at *
  obtain ⟨w0, hw0⟩ : ∃ x, (w.alloc (.cells (ndCells n) 27)).alloc (.cells #[.int .i64 kind, .int .u64 key, .int .u64 ptr] 39) = x := ⟨_, rfl⟩
  have HB00 := Lib.hid (show w.heap.size < w0.heap.size by rw [← hw0]; simp; omega)
  have HW0 := Lib.hid hw0
  clear hw0
  go_enter Try.func5, Try.ntmps5
  go_wp2_with (with_reducible refine wpList_load_part (o := ⟨some 18, _, _, _, _, _⟩) rfl 27 _ rfl w.heap.size 0 rfl (ndCells n) _ HL0.out Try.underlying27 rfl HI.out ?_)
  rw [HW0.out] at HL0 HB0 HK0 HG0 ⊢
  refine (HMd.out _).mono ?_
  rintro e w1 ⟨a1, m1, cL, rfl, hm1, ho1, hB⟩
  have HB1 := Lib.hid (HB0.out.trans (hB.mono HB0.out.size))
  have HK1 := Lib.hid (HK0.out.below hB HK0.out.lt)
  have HG1 := Lib.hid (HG0.out.below hB HG0.out.lt)
  have HB01 := Lib.hid hB.size
  subst hm1
  obtain ⟨gL, cp, ev, hg1, hg2, _, _, hEL⟩ := own_ents ho1 rfl hpos
  cases ev
  have HEL := Lib.hid hEL
  have HgL := Lib.hid hg2
  have HgL2 := Lib.hid hg1
  clear hB ho1 hEL hg1 hg2 HMd HL0 HB0 HK0 HG0
  go_upto_region 4 with (fail)
  --GEN r_ho4
  refine wp_region_vals [Is (.agg (ndCells n)), RowV w1.heap.size was, Is (.agg (ndCells n)), Is (.agg #[.int .i64 kind, .int .u64 key, .int .u64 ptr]), RowV w1.heap.size now, RowV w1.heap.size was, RowV w1.heap.size now]
    (fun _ W W' => Below W.heap.size W W') (fun _ W => Below w1.heap.size w1 W) (by kernel_rfl) (by kernel_rfl) (by kernel_rfl) ?hst ?h0 ⟨?o0, ?o1, ?o2, ?o3, ?o4, ?o5, ?o6, trivial⟩ ?he
  case hst =>
    exact ⟨(fun _ _ _ _ _ _ h _ => h), (fun _ _ _ _ _ _ h hR => own_below h hR), (fun _ _ _ _ _ _ h _ => h), (fun _ _ _ _ _ _ h _ => h), (fun _ _ _ _ _ _ h hR => own_below h hR), (fun _ _ _ _ _ _ h hR => own_below h hR), (fun _ _ _ _ _ _ h hR => own_below h hR), trivial⟩
  case h0 =>
    exact (Below.refl _ _).drew
  case o0 =>
    intro L vs A W H hf hd K hK
    have e4 : A.tmps[4]?.getD undef = .pointer (some ⟨w.heap.size, 0, none⟩) := H.old 4 (by kernel_rfl)
    rw [if_pos (show Region.wanted _ _ = true from rfl)]
    exact wp_load_nd _ rfl w.heap.size n (ev_tmp e4) (HK1.out.below H.glob HK1.out.lt) (hK _ _ (Below.refl _ _) rfl H.glob)
  case o1 =>
    intro L vs A W H hf hd K hK
    have e26 := H.is 0 26 rfl rfl rfl (deps_of' hd 0 (by kernel_rfl)) (by kernel_rfl)
    rw [if_pos (show Region.wanted _ _ = true from rfl)]
    go_wp2_with (fail)
    refine (HVa.out _).mono ?_
    rintro e W2 ⟨v, rfl, hv, hB⟩
    exact hK _ _ hB (RowV.mono hv H.glob.size) (H.glob.trans (hB.mono H.glob.size))
  case o2 =>
    intro L vs A W H hf hd K hK
    have e4 : A.tmps[4]?.getD undef = .pointer (some ⟨w.heap.size, 0, none⟩) := H.old 4 (by kernel_rfl)
    rw [if_pos (show Region.wanted _ _ = true from rfl)]
    exact wp_load_nd _ rfl w.heap.size n (ev_tmp e4) (HK1.out.below H.glob HK1.out.lt) (hK _ _ (Below.refl _ _) rfl H.glob)
  case o3 =>
    intro L vs A W H hf hd K hK
    have e5 : A.tmps[5]?.getD undef = .pointer (some ⟨w.heap.size + 1, 0, none⟩) := H.old 5 (by kernel_rfl)
    have hg := HG1.out.below H.glob HG1.out.lt
    have d0 : W.cell? ⟨w.heap.size + 1, 0, none⟩ = some (.int .i64 kind) := by rw [hg.cell]; rfl
    have d1 : W.cell? ⟨w.heap.size + 1, 1, none⟩ = some (.int .u64 key) := by rw [hg.cell]; rfl
    have d2 : W.cell? ⟨w.heap.size + 1, 2, none⟩ = some (.int .u64 ptr) := by rw [hg.cell]; rfl
    go_simp
    exact hK _ _ (Below.refl _ _) rfl (H.glob)
  case o4 =>
    intro L vs A W H hf hd K hK
    have e28 := H.is 2 28 rfl rfl rfl (deps_of' hd 2 (by kernel_rfl)) (by kernel_rfl)
    have e29 := H.is 3 29 rfl rfl rfl (deps_of' hd 3 (by kernel_rfl)) (by kernel_rfl)
    rw [if_pos (show Region.wanted _ _ = true from rfl)]
    go_wp2_with (fail)
    refine (HBh.out _).mono ?_
    rintro e W2 ⟨v, rfl, hv, hB⟩
    exact hK _ _ hB (RowV.mono hv H.glob.size) (H.glob.trans (hB.mono H.glob.size))
  case o5 =>
    intro L vs A W H hf hd K hK
    obtain ⟨v27, e27, q27⟩ := H.val 1 27 rfl rfl rfl (deps_of' hd 1 (by kernel_rfl)) (by kernel_rfl)
    rw [if_pos (show Region.wanted _ _ = true from rfl)]
    go_simp
    exact hK _ _ (Below.refl _ _) q27 H.glob
  case o6 =>
    intro L vs A W H hf hd K hK
    obtain ⟨v30, e30, q30⟩ := H.val 4 30 rfl rfl rfl (deps_of' hd 4 (by kernel_rfl)) (by kernel_rfl)
    rw [if_pos (show Region.wanted _ _ = true from rfl)]
    go_simp
    exact hK _ _ (Below.refl _ _) q30 H.glob
  case he =>
    intro vs W hlen hv
    match vs, hlen, hv with
    | [x0_, x1_, x2_, x3_, x4_, x5_, x6_], _, hv =>
    obtain rfl : (.agg (ndCells n)) = x0_ := by obtain ⟨z, h1, h2⟩ := hv 0 _ rfl; cases h1; exact h2.symm
    have hx1 : (RowV w1.heap.size was) x1_ W := by obtain ⟨z, h1, h2⟩ := hv 1 _ rfl; cases h1; exact h2
    obtain rfl : (.agg (ndCells n)) = x2_ := by obtain ⟨z, h1, h2⟩ := hv 2 _ rfl; cases h1; exact h2.symm
    obtain rfl : (.agg #[.int .i64 kind, .int .u64 key, .int .u64 ptr]) = x3_ := by obtain ⟨z, h1, h2⟩ := hv 3 _ rfl; cases h1; exact h2.symm
    have hx4 : (RowV w1.heap.size now) x4_ W := by obtain ⟨z, h1, h2⟩ := hv 4 _ rfl; cases h1; exact h2
    have hx5 : (RowV w1.heap.size was) x5_ W := by obtain ⟨z, h1, h2⟩ := hv 5 _ rfl; cases h1; exact h2
    have hx6 : (RowV w1.heap.size now) x6_ W := by obtain ⟨z, h1, h2⟩ := hv 6 _ rfl; cases h1; exact h2
    intro L hall hG
    clear hv hlen
    obtain ⟨v1, rfl⟩ : ∃ v, v = x5_ := ⟨_, rfl⟩
    obtain ⟨v2, rfl⟩ : ∃ v, v = x6_ := ⟨_, rfl⟩
    have HW := Lib.hid (show HoW w w0.heap.size w.heap.size gL Ls v1 v2 was now n W from ⟨HK1.out.below hG HK1.out.lt, HEL.out.below hG HgL.out, hx5.mono HB01.out, hx6.mono HB01.out, HB1.out.trans (hG.mono HB1.out.size), Nat.le_refl _, HB00.out, HgL2.out⟩)
    clear hG hall hx1 hx4 hx5 hx6
    simp only [fill, if_true]
    go_simp
  --END
    obtain ⟨b4, hb4⟩ : ∃ x, w.heap.size = x := ⟨_, rfl⟩
    rw [hb4] at HW ⊢
    clear hb4 HK1 HG1 HEL HB1 HVa HBh HB01 HgL HgL2 HB00
    have HKn := Lib.hid (fun w => known_v w)
    go_wp2_with (fail)
    go_loopw [11, 12] (fun dv iv wr => HoRel base w w0.heap.size b4 gL Ls v1 v2 was now dv iv wr) (fun _ iv _ => Ls.length - (intOf iv).toNat)
    case atStart => exact ⟨0, n, false, Nat.zero_le _, rfl, rfl, HT.out, HW.out⟩
    case round =>
      obtain ⟨k, m, d, hk, rfl, rfl, hP, hW⟩ := hrel
      clear HW HT HI
      have HP := Lib.hid hP
      have HW := Lib.hid hW
      clear hP hW
      by_cases hlt : k < Ls.length
      · have b1 : (k : Int) < (Ls.length : Int) := by omega
        have b2 : ((k : Int)).toNat = k := by omega
        have HLt := Lib.hid hlt
        have hls := HLn.out
        obtain ⟨c1, c2⟩ := HW.out.l k hlt
        have hp2 := HP.out
        rw [drop_ent Ls hlt] at hp2
        obtain ⟨at_, hat⟩ : ∃ x, eK Ls k = x := ⟨_, rfl⟩
        obtain ⟨x, hx⟩ : ∃ x, eP Ls k = x := ⟨_, rfl⟩
        rw [hat, hx] at hp2
        rw [hat, Nat.zero_add] at c1
        rw [hx, Nat.zero_add] at c2
        obtain ⟨m', hput, hmay, hways⟩ := phS_step hp2
        have hput : putA base m at_ x = some m' := hput
        have HAp := Lib.hid (show ∀ w, Calls Try.prog 11 #[.int .u64 base, .agg (ndCells m), .agg #[.int .u64 at_, .int .u64 x]] w fun e w' => MkP m' 0 w e w' from fun w => by
          have := rapply_v base m at_ x w HS.out
          unfold putV at this
          rwa [hput] at this)
        have HgW := Lib.hid (show gL < wr.heap.size from HW.out.l.lt (by omega))
        have HMy := Lib.hid (show ∀ w, Calls Try.prog 17 #[.agg (ndCells m'), .int .u64 0, .bool false] w fun e W' => e = .returned (.bool true) ∧ Below w.heap.size w W' from fun w => by have := rmay_calls m' 0 false w; rwa [hmay] at this)
        have HVm := Lib.hid (fun w => rvalid_calls m' w)
        have HWays := Lib.hid hways
        have HI' := Lib.hid (info27 m')
        clear hat hx hp2 hput hmay hways
        go_upto_region 9 with (fail)
        --GEN r_ho9
        refine wp_region_valsA [Is (.int .u64 base), Is (.agg (ndCells m)), Is (.slice (some ⟨gL, 0, none⟩) Ls.length cL), Is (.int .i64 k), Is (.pointer (some ⟨gL, k * 2, none⟩)), Is (.agg #[.int .u64 at_, .int .u64 x]), Is (.tuple #[.agg (ndCells m'), .int .i64 0]), Is (.tuple #[.agg (ndCells m'), .int .i64 0]), Is (.agg (ndCells m')), Is (.int .i64 0), Any, Any, Is (.int .i64 0)]
          (fun _ W W' => Below wr.heap.size W W') (fun L a W => Below wr.heap.size wr W ∧ NewG wr.heap.size 13 10 11 m' L a W) (by kernel_rfl) (by kernel_rfl) (by kernel_rfl) ?hst ?h0 ⟨?o0, ?o1, ?o2, ?o3, ?o4, ?o5, ?o6, ?o7, ?o8, ?o9, ?o10, ?o11, ?o12, trivial⟩ ?he
        case hst =>
          exact ⟨(fun _ _ _ _ _ _ h _ => h), (fun _ _ _ _ _ _ h _ => h), (fun _ _ _ _ _ _ h _ => h), (fun _ _ _ _ _ _ h _ => h), (fun _ _ _ _ _ _ h _ => h), (fun _ _ _ _ _ _ h _ => h), (fun _ _ _ _ _ _ h _ => h), (fun _ _ _ _ _ _ h _ => h), (fun _ _ _ _ _ _ h _ => h), (fun _ _ _ _ _ _ h _ => h), (fun _ _ _ _ _ _ h _ => h), (fun _ _ _ _ _ _ h _ => h), (fun _ _ _ _ _ _ h _ => h), trivial⟩
        case h0 =>
          exact ⟨(Below.refl _ _).drew, NewG.none⟩
        case o0 =>
          intro L vs A W H hf hd K hK
          have e0 : A.tmps[0]?.getD undef = .int .u64 base := H.old 0 (by kernel_rfl)
          go_simp
          exact hK _ _ (Below.refl _ _) rfl (⟨H.glob.1, H.glob.2.keep rfl rfl (by simp) (Below.refl _ _)⟩)
        case o1 =>
          intro L vs A W H hf hd K hK
          have e4 : A.tmps[4]?.getD undef = .pointer (some ⟨b4, 0, none⟩) := H.old 4 (by kernel_rfl)
          rw [if_pos (show Region.wanted _ _ = true from rfl)]
          exact wp_load_nd _ rfl b4 m (ev_tmp e4) (HW.out.n.below H.glob.1 HW.out.n.lt) (hK _ _ (Below.refl _ _) rfl ⟨H.glob.1, H.glob.2.keep rfl rfl (by simp) (Below.refl _ _)⟩)
        case o2 =>
          intro L vs A W H hf hd K hK
          have e7 : A.tmps[7]?.getD undef = .slice (some ⟨gL, 0, none⟩) Ls.length cL := H.old 7 (by kernel_rfl)
          go_simp
          exact hK _ _ (Below.refl _ _) rfl (⟨H.glob.1, H.glob.2.keep rfl rfl (by simp) (Below.refl _ _)⟩)
        case o3 =>
          intro L vs A W H hf hd K hK
          have e12 : A.tmps[12]?.getD undef = .int .i64 k := H.old 12 (by kernel_rfl)
          go_simp
          exact hK _ _ (Below.refl _ _) rfl (⟨H.glob.1, H.glob.2.keep rfl rfl (by simp) (Below.refl _ _)⟩)
        case o4 =>
          intro L vs A W H hf hd K hK
          have e40 := H.is 2 40 rfl rfl rfl (deps_of' hd 2 (by kernel_rfl)) (by kernel_rfl)
          have e41 := H.is 3 41 rfl rfl rfl (deps_of' hd 3 (by kernel_rfl)) (by kernel_rfl)
          go_simp
          exact hK _ _ (Below.refl _ _) rfl (⟨H.glob.1, H.glob.2.keep rfl rfl (by simp) (Below.refl _ _)⟩)
        case o5 =>
          intro L vs A W H hf hd K hK
          have e42 := H.is 4 42 rfl rfl rfl (deps_of' hd 4 (by kernel_rfl)) (by kernel_rfl)
          have d1 := (H.glob.1.cell (p := ⟨gL, k * 2, none⟩) HgW.out).trans c1
          have d2 := (H.glob.1.cell (p := ⟨gL, k * 2 + 1, none⟩) HgW.out).trans c2
          go_simp
          exact hK _ _ (Below.refl _ _) rfl (⟨H.glob.1, H.glob.2.keep rfl rfl (by simp) (Below.refl _ _)⟩)
        case o6 =>
          intro L vs A W H hf hd K hK
          have e38 := H.is 0 38 rfl rfl rfl (deps_of' hd 0 (by kernel_rfl)) (by kernel_rfl)
          have e39 := H.is 1 39 rfl rfl rfl (deps_of' hd 1 (by kernel_rfl)) (by kernel_rfl)
          have e43 := H.is 5 43 rfl rfl rfl (deps_of' hd 5 (by kernel_rfl)) (by kernel_rfl)
          rw [if_pos (show Region.wanted _ _ = true from rfl)]
          go_wp2_with (fail)
          refine (HAp.out _).mono ?_
          rintro e W2 ⟨rfl, hB⟩
          exact hK _ _ (hB.mono H.glob.1.size) rfl ⟨H.glob.1.trans (hB.mono H.glob.1.size), H.glob.2.keep rfl rfl (by simp) hB⟩
        case o7 =>
          intro L vs A W H hf hd K hK
          have e44 := H.is 6 44 rfl rfl rfl (deps_of' hd 6 (by kernel_rfl)) (by kernel_rfl)
          go_simp
          exact hK _ _ (Below.refl _ _) rfl (⟨H.glob.1, H.glob.2.keep rfl rfl (by simp) (Below.refl _ _)⟩)
        case o8 =>
          intro L vs A W H hf hd K hK
          have e37 := H.is 7 37 rfl rfl rfl (deps_of' hd 7 (by kernel_rfl)) (by kernel_rfl)
          go_simp
          exact hK _ _ (Below.refl _ _) rfl (⟨H.glob.1, H.glob.2.keep rfl rfl (by simp) (Below.refl _ _)⟩)
        case o9 =>
          intro L vs A W H hf hd K hK
          have e37 := H.is 7 37 rfl rfl rfl (deps_of' hd 7 (by kernel_rfl)) (by kernel_rfl)
          go_simp
          exact hK _ _ (Below.refl _ _) rfl (⟨H.glob.1, H.glob.2.keep rfl rfl (by simp) (Below.refl _ _)⟩)
        case o10 =>
          intro L vs A W H hf hd K hK
          rw [if_pos (show Region.wanted _ _ = true from rfl)]
          have n11 := H.notYet 11 10 rfl hf (by kernel_rfl)
          have hgs := H.glob.1.size
          have hz : 13 < A.tmps.size := by rw [H.frame, fill_size]; exact of_decide_eq_true (by kernel_rfl)
          refine wp_alloc_nd rfl ?_
          exact hK _ _ ((Below.refl _ _).alloc hgs _) trivial ⟨H.glob.1.alloc hgs _, newG_alloc hz hgs n11 (by decide)⟩
        case o11 =>
          intro L vs A W H hf hd K hK
          obtain ⟨v13, e13, q13⟩ := H.val 10 13 rfl rfl rfl (deps_of' hd 10 (by kernel_rfl)) (by kernel_rfl)
          have e45 := H.is 8 45 rfl rfl rfl (deps_of' hd 8 (by kernel_rfl)) (by kernel_rfl)
          rw [if_pos (show Region.wanted _ _ = true from rfl)]
          have h10 : L 10 = true := deps_of' hd 10 (by kernel_rfl)
          obtain ⟨H2, x2, e13, hH, hb, _⟩ := H.glob.2 h10
          exact wp_store_nd _ _ rfl H2 m' x2 (ev_tmp e13) (ev_tmp e45) hb (hK _ _ (below_setRow (Below.refl _ _) hH _) trivial ⟨below_setRow H.glob.1 hH _, fun _ => ⟨H2, m', e13, hH, hb.row _, fun _ => rfl⟩⟩)
        case o12 =>
          intro L vs A W H hf hd K hK
          have e46 := H.is 9 46 rfl rfl rfl (deps_of' hd 9 (by kernel_rfl)) (by kernel_rfl)
          go_simp
          exact hK _ _ (Below.refl _ _) rfl (⟨H.glob.1, H.glob.2.keep rfl rfl (by simp) (Below.refl _ _)⟩)
        case he =>
          intro vs W hlen hv
          match vs, hlen, hv with
          | [x0_, x1_, x2_, x3_, x4_, x5_, x6_, x7_, x8_, x9_, x10_, x11_, x12_], _, hv =>
          obtain rfl : (.int .u64 base) = x0_ := by obtain ⟨z, h1, h2⟩ := hv 0 _ rfl; cases h1; exact h2.symm
          obtain rfl : (.agg (ndCells m)) = x1_ := by obtain ⟨z, h1, h2⟩ := hv 1 _ rfl; cases h1; exact h2.symm
          obtain rfl : (.slice (some ⟨gL, 0, none⟩) Ls.length cL) = x2_ := by obtain ⟨z, h1, h2⟩ := hv 2 _ rfl; cases h1; exact h2.symm
          obtain rfl : (.int .i64 k) = x3_ := by obtain ⟨z, h1, h2⟩ := hv 3 _ rfl; cases h1; exact h2.symm
          obtain rfl : (.pointer (some ⟨gL, k * 2, none⟩)) = x4_ := by obtain ⟨z, h1, h2⟩ := hv 4 _ rfl; cases h1; exact h2.symm
          obtain rfl : (.agg #[.int .u64 at_, .int .u64 x]) = x5_ := by obtain ⟨z, h1, h2⟩ := hv 5 _ rfl; cases h1; exact h2.symm
          obtain rfl : (.tuple #[.agg (ndCells m'), .int .i64 0]) = x6_ := by obtain ⟨z, h1, h2⟩ := hv 6 _ rfl; cases h1; exact h2.symm
          obtain rfl : (.tuple #[.agg (ndCells m'), .int .i64 0]) = x7_ := by obtain ⟨z, h1, h2⟩ := hv 7 _ rfl; cases h1; exact h2.symm
          obtain rfl : (.agg (ndCells m')) = x8_ := by obtain ⟨z, h1, h2⟩ := hv 8 _ rfl; cases h1; exact h2.symm
          obtain rfl : (.int .i64 0) = x9_ := by obtain ⟨z, h1, h2⟩ := hv 9 _ rfl; cases h1; exact h2.symm
          obtain rfl : (.int .i64 0) = x12_ := by obtain ⟨z, h1, h2⟩ := hv 12 _ rfl; cases h1; exact h2.symm
          intro L hall hG
          clear hv hlen
          obtain ⟨H2, x2, e13, hH, hb, hx⟩ := hG.2 (hall 10 (by decide))
          have hb2 : Blk W H2 (ndCells m') 27 := by rw [← hx (hall 11 (by decide))]; exact hb
          simp [fill, Act.put] at e13
          subst e13
          have HH := Lib.hid hb2
          have HW2 := Lib.hid (HW.out.keep hG.1)
          have HwH := Lib.hid hH
          clear hG hall hx hH hb hb2 c1 c2
          simp only [fill, if_true]
          go_simp
        --END
          have HLh := Lib.hid (ndLoad HH.out)
          go_wp2_with ((with_reducible refine wpList_load_gd (o := ⟨some 50, .load 27 (.tmp 13), _, _, _, _⟩) 27 (.tmp 13) ?hoq H2 0 ?hxq (ndCells m') _ HLh.out Try.underlying27 rfl HI'.out ?hwq ?_); (case hoq => rfl); (case hxq => rfl); (case hwq => rfl))
          refine (HMy.out _).mono ?_
          rintro e w3 ⟨rfl, hB⟩
          have HW3 := Lib.hid (HW2.out.keep hB)
          have HH3 := Lib.hid (HH.out.below hB HH.out.lt)
          have HLh3 := Lib.hid (ndLoad HH3.out)
          clear hB HLh HH HW2 HMy
          have hv8 : m'.valid.length ≤ 100 := by have := plN_len m'; simp [Nd.valid]; omega
          have HSw := Lib.hid (fun (v : Value) (B1 : Nat) (W : World) (h1 : W.ownsRow B1 60 2 v m'.valid.length (ecells m'.valid)) (h2 : RowV w0.heap.size was v1 W) => rsame_calls m'.valid was v v1 B1 w0.heap.size W (by omega) h1 h2)
          have HSn := Lib.hid (fun (v : Value) (B1 : Nat) (W : World) (h1 : W.ownsRow B1 60 2 v m'.valid.length (ecells m'.valid)) (h2 : RowV w0.heap.size now v2 W) => rsame_calls m'.valid now v v2 B1 w0.heap.size W (by omega) h1 h2)
          clear hv8
          rcases HWays.out with ⟨rfl, hsb, hP2⟩ | ⟨rfl, hsb, hsn, hP2⟩ | ⟨rfl, hsn, hP2⟩
          · rw [hsb] at HSw
            have HP2 := Lib.hid hP2
            clear hsb hP2 HWays
            go_upto_region 12 with (fail)
            go_upto_region 13 with (first | (with_reducible refine wpList_load_part (o := ⟨some 54, _, _, _, _, _⟩) rfl 27 _ rfl H2 0 rfl (ndCells m') _ HLh3.out Try.underlying27 rfl HI'.out ?_) | ((with_reducible refine wpList_store_ndc (o := ⟨none, .store 27 (.tmp 4) (.tmp 54), _, _, _, _⟩) ?hga (.tmp 4) (.tmp 54) ?hoa b4 ?csa m' m ?hxa ?hya HW3.out.n ?hma ?_); (case hga => rfl); (case hoa => rfl); (case hxa => rfl); (case hya => rfl); (case hma => rfl)))
            have HW4 := Lib.hid (HoW.set (m' := m') HW3.out)
            generalize w3.setRow b4 (ndCells m') = w4 at *
            go_simp
            have HL4 := Lib.hid (ndLoad HW4.out.n)
            go_wp2_with (with_reducible refine wpList_load_part (o := ⟨some 55, _, _, _, _, _⟩) rfl 27 _ rfl b4 0 rfl (ndCells m') _ HL4.out Try.underlying27 rfl HI'.out ?_)
            refine (HVm.out _).mono ?_
            rintro e w5 ⟨v5, rfl, hv5, hB⟩
            have HW5 := Lib.hid (HW4.out.keep hB)
            have HV5 := Lib.hid hv5
            clear hv5 hB HL4
            go_wp2_with (fail)
            refine (HSw.out _ _ _ HV5.out HW5.out.r1).mono ?_
            rintro e w6 ⟨rfl, hB⟩
            have HW6 := Lib.hid (HW5.out.keep hB)
            have hB6 := hB
            clear hB
            go_wp2_with (fail)
            go_roundw
            case rel => exact ⟨k + 1, m', false, by have := HLt.out; omega, by go_num, rfl, HP2.out, HW6.out⟩
            case measure => simp [intOf]; have := HLt.out; omega
          · rw [hsb] at HSw
            rw [hsn] at HSn
            have HP2 := Lib.hid hP2
            clear hsb hsn hP2 HWays
            go_upto_region 12 with (fail)
            go_upto_region 13 with (first | (with_reducible refine wpList_load_part (o := ⟨some 54, _, _, _, _, _⟩) rfl 27 _ rfl H2 0 rfl (ndCells m') _ HLh3.out Try.underlying27 rfl HI'.out ?_) | ((with_reducible refine wpList_store_ndc (o := ⟨none, .store 27 (.tmp 4) (.tmp 54), _, _, _, _⟩) ?hgb (.tmp 4) (.tmp 54) ?hob b4 ?csb m' m ?hxb ?hyb HW3.out.n ?hmb ?_); (case hgb => rfl); (case hob => rfl); (case hxb => rfl); (case hyb => rfl); (case hmb => rfl)))
            have HW4 := Lib.hid (HoW.set (m' := m') HW3.out)
            generalize w3.setRow b4 (ndCells m') = w4 at *
            go_simp
            have HL4 := Lib.hid (ndLoad HW4.out.n)
            go_wp2_with (with_reducible refine wpList_load_part (o := ⟨some 55, _, _, _, _, _⟩) rfl 27 _ rfl b4 0 rfl (ndCells m') _ HL4.out Try.underlying27 rfl HI'.out ?_)
            refine (HVm.out _).mono ?_
            rintro e w5 ⟨v5, rfl, hv5, hB⟩
            have HW5 := Lib.hid (HW4.out.keep hB)
            have HV5 := Lib.hid hv5
            clear hv5 hB HL4
            go_wp2_with (fail)
            refine (HSw.out _ _ _ HV5.out HW5.out.r1).mono ?_
            rintro e w6 ⟨rfl, hB⟩
            have HW6 := Lib.hid (HW5.out.keep hB)
            have hB6 := hB
            clear hB
            have HV6 := Lib.hid (own_below HV5.out hB6)
            go_wp2_with (fail)
            refine (HSn.out _ _ _ HV6.out HW6.out.r2).mono ?_
            rintro e w7 ⟨rfl, hB⟩
            have HW7 := Lib.hid (HW6.out.keep hB)
            clear hB
            go_wp2_with (fail)
            go_roundw
            case rel => exact ⟨k + 1, m', true, by have := HLt.out; omega, by go_num, rfl, HP2.out, HW7.out⟩
            case measure => simp [intOf]; have := HLt.out; omega
          · rw [hsn] at HSn
            have HP2 := Lib.hid hP2
            clear hsn hP2 HWays
            go_upto_region 12 with (fail)
            go_upto_region 13 with (first | (with_reducible refine wpList_load_part (o := ⟨some 54, _, _, _, _, _⟩) rfl 27 _ rfl H2 0 rfl (ndCells m') _ HLh3.out Try.underlying27 rfl HI'.out ?_) | ((with_reducible refine wpList_store_ndc (o := ⟨none, .store 27 (.tmp 4) (.tmp 54), _, _, _, _⟩) ?hgc (.tmp 4) (.tmp 54) ?hoc b4 ?csc m' m ?hxc ?hyc HW3.out.n ?hmc ?_); (case hgc => rfl); (case hoc => rfl); (case hxc => rfl); (case hyc => rfl); (case hmc => rfl)))
            have HW4 := Lib.hid (HoW.set (m' := m') HW3.out)
            generalize w3.setRow b4 (ndCells m') = w4 at *
            go_simp
            have HL4 := Lib.hid (ndLoad HW4.out.n)
            go_wp2_with (with_reducible refine wpList_load_part (o := ⟨some 55, _, _, _, _, _⟩) rfl 27 _ rfl b4 0 rfl (ndCells m') _ HL4.out Try.underlying27 rfl HI'.out ?_)
            refine (HVm.out _).mono ?_
            rintro e w5 ⟨v5, rfl, hv5, hB⟩
            have HW5 := Lib.hid (HW4.out.keep hB)
            have HV5 := Lib.hid hv5
            clear hv5 hB HL4
            go_wp2_with (fail)
            refine (HSn.out _ _ _ HV5.out HW5.out.r2).mono ?_
            rintro e w6 ⟨rfl, hB⟩
            have HW6 := Lib.hid (HW5.out.keep hB)
            have hB6 := hB
            clear hB
            go_wp2_with (fail)
            go_roundw
            case rel => exact ⟨k + 1, m', true, by have := HLt.out; omega, by go_num, rfl, HP2.out, HW6.out⟩
            case measure => simp [intOf]; have := HLt.out; omega
      · have hkl : Ls.drop k = [] := List.drop_eq_nil_of_le (by omega)
        have hp := HP.out
        rw [hkl] at hp
        obtain ⟨e1, e2, _⟩ := phS_done hp
        have HVm := Lib.hid (show ∀ w, Calls Try.prog 15 #[.agg (ndCells m)] w fun e W' => ∃ v, e = .returned v ∧ W'.ownsRow w.heap.size 60 2 v now.length (ecells now) ∧ Below w.heap.size w W' from fun w => by have := rvalid_calls m w; rwa [e1] at this)
        have HIv := Lib.hid (show ∀ w, Calls Try.prog 19 #[.agg (ndCells m)] w fun e W' => e = .returned (.int .i64 (-1)) ∧ Below w.heap.size w W' from fun w => by have := rinvalid_calls m w; rwa [e2] at this)
        have HSn := Lib.hid (fun (v : Value) (B1 : Nat) (W : World) (h1 : W.ownsRow B1 60 2 v now.length (ecells now)) (h2 : RowV w0.heap.size now v2 W) => show Calls Try.prog 18 #[v, v2] W fun e W' => e = .returned (.bool true) ∧ Below W.heap.size W W' from by have := rsame_calls now now v v2 B1 w0.heap.size W (by have := HWas.out.2; omega) h1 h2; rwa [beq_self_eq_true] at this)
        have HI' := Lib.hid (info27 m)
        have HLm := Lib.hid (ndLoad HW.out.n)
        have b1 : ¬ (k : Int) < (Ls.length : Int) := by omega
        clear hkl hp e1 e2
        go_wp2_with (with_reducible refine wpList_load_part (o := ⟨some 72, _, _, _, _, _⟩) rfl 27 _ rfl b4 0 rfl (ndCells m) _ HLm.out Try.underlying27 rfl HI'.out ?_)
        refine (HVm.out _).mono ?_
        rintro e w3 ⟨v3, rfl, hv3, hB⟩
        have HW3 := Lib.hid (HW.out.keep hB)
        have HV3 := Lib.hid hv3
        clear hB hv3
        go_wp2_with (fail)
        refine (HSn.out _ _ _ HV3.out HW3.out.r2).mono ?_
        rintro e w4 ⟨rfl, hB⟩
        have HW4 := Lib.hid (HW3.out.keep hB)
        have HL4 := Lib.hid (ndLoad HW4.out.n)
        clear hB
        go_wp2_with ((with_reducible refine wpList_load_gd (o := ⟨some 77, .load 27 (.tmp 4), _, _, _, _⟩) 27 (.tmp 4) ?hor b4 0 ?hxr (ndCells m) _ HL4.out Try.underlying27 rfl HI'.out ?hwr ?_); (case hor => rfl); (case hxr => rfl); (case hwr => rfl))
        refine (HIv.out _).mono ?_
        rintro e w5 ⟨rfl, hB⟩
        have HW5 := Lib.hid (HW4.out.keep hB)
        clear hB
        go_wp2_with (fail)
        refine (HKn.out _).mono ?_
        rintro e w6 ⟨rfl, hB⟩
        have HB6 := Lib.hid (HW5.out.b.trans (hB.mono HW5.out.b.size))
        clear hB
        go_wp2_with (fail)
        go_ret
        exact ⟨rfl, HB6.out⟩

theorem holds_law (base : Int) (n : Nd) (kind key ptr : Int) (w : World) :
    Calls Try.prog 5 #[.int .u64 base, .agg (ndCells n), .agg (askC kind key ptr)] w fun e w' => e = .returned (.bool true) ∧ Below w.heap.size w w' := by
  by_cases hc : madeC base n (kdOf kind) key ptr = 0
  · exact holds_ok base n kind key ptr w hc
  · exact holds_err base n kind key ptr w hc
end Go.Proofs.Ytbpaefhihdhdeaa
namespace Go.Proofs.Ytbpaefhihdhdeaa
open Go.RowKit
set_option linter.unusedVariables false

theorem Stay.apply {base : Int} {v : List (Int × Int)} : ∀ {L : List (Int × Int)} {m m' : Nd}, Stay base v m L m' → applyL base m L = some m'
  | [], m, m', h => by cases h; rfl
  | s :: r, m, m', ⟨q, a, _, _, d⟩ => by
    unfold applyL
    rw [a]
    exact Stay.apply d
theorem putA_addr {base : Int} {m q : Nd} {at_ x : Int} (h : putA base m at_ x = some q) : base ≤ at_ ∧ at_ < base + 192 := by
  unfold putA at h
  split at h
  · cases h
  · rename_i h1; omega
theorem Stay.addr {base : Int} {v : List (Int × Int)} : ∀ {L : List (Int × Int)} {m m' : Nd}, Stay base v m L m' → ∀ s ∈ L, base ≤ s.1 ∧ s.1 < base + 192
  | [], m, m', _, s, hs => by cases hs
  | t :: r, m, m', ⟨q, a, _, _, d⟩, s, hs => by
    rcases List.mem_cons.1 hs with rfl | hs
    · exact putA_addr a
    · exact Stay.addr d s hs
theorem traj_apply {base : Int} {n : Nd} {was now L : List (Int × Int)} {e : Option Nat} (h : Traj base n was now L e) : ∃ m3, applyL base n L = some m3 ∧ Full m3 now ∧ Fine m3 now ∧ ∀ s ∈ L, base ≤ s.1 ∧ s.1 < base + 192 := by
  cases e with
  | none =>
    obtain ⟨m3, a, _, b, c⟩ := h
    exact ⟨m3, a.apply, b, c, a.addr⟩
  | some t =>
    obtain ⟨L1, s, L2, m1, m2, m3, rfl, _, h1, h2, _, _, _, h5, h6, h7⟩ := h
    refine ⟨m3, ?_, h6, h7, fun x hx => ?_⟩
    · rw [applyL_append, h1.apply]
      show applyL base m1 (s :: L2) = _
      unfold applyL
      rw [h2]
      exact h5.apply
    · rcases List.mem_append.1 hx with hx | hx
      · exact h1.addr x hx
      · rcases List.mem_cons.1 hx with rfl | hx
        · exact putA_addr h2
        · exact h5.addr x hx
/-- a change's stores, applied -/
theorem apply_traj {base : Int} {n : Nd} {was now L : List (Int × Int)} {e : Option Nat} (h : Traj base n was now L e) (hS : Stands base) (hn : L.length ≤ 1000) :
    ∃ m3, Full m3 now ∧ Fine m3 now ∧ ∀ (a : Option Addr) (c b : Nat) (w : World), w.ownsRow b 36 2 (.slice a L.length c) L.length (ecells L) → Calls Try.prog 10 #[.int .u64 base, .agg (ndCells n), .slice a L.length c] w fun e w' => MkP m3 0 w e w' := by
  obtain ⟨m3, h1, h2, h3, h4⟩ := traj_apply h
  refine ⟨m3, h2, h3, fun a c b w ho => ?_⟩
  have := apply_any base n L a c b w (by omega) ho (fun i hi => by
    obtain ⟨q1, q2⟩ := h4 _ (ent_mem hi)
    obtain ⟨s1, s2, _⟩ := hS
    simp only at q1 q2
    omega)
  unfold appV standsB at this
  rw [if_pos (decide_eq_true hS)] at this
  unfold applyV at this
  rw [h1] at this
  exact this
theorem rep_code {base : Int} {m : Nd} (hS : Stands base) (hm : m.mayB 0 false = true) (hi : 0 ≤ m.invalid) : repE base m = 0 := by
  have h7 : mayE base m = 7 := by unfold mayE; rw [if_pos ⟨hS, hm⟩, if_pos hi]
  unfold repE
  rw [h7]; rfl
theorem rep_len (base : Int) (m : Nd) : (repP base m).length ≤ 18 := by
  have h8 := m.len_le
  unfold repP
  split
  · unfold repL; simp only [List.length_append, gapL_len]; simp; omega
  · simp
/-- the node that a change that is made is made of may be -/
theorem made_may {base : Int} {n : Nd} {kd key ptr : Int} (hk : kd = 0 ∨ kd = 1 ∨ kd = 2 ∨ kd = 3 ∨ kd = 4 ∨ kd = 5) (hc : madeC base n kd key ptr = 0) : n.mayB 0 false = true := by
  have of0 : mayE base n = 0 → n.mayB 0 false = true := fun h => (mayE_stands h).2.1
  rcases hk with rfl | rfl | rfl | rfl | rfl | rfl
  · exact of0 (insE_parts (show insE base n key ptr = 0 from hc)).1
  · have hE : delE base n key = 0 := hc
    unfold delE at hE
    split at hE
    · omega
    · exact of0 (by omega)
  · have hE : repE base n = 0 := hc
    rcases mayE_val base n with h | h | h
    · exact of0 h
    · unfold repE at hE; rw [if_pos h] at hE; omega
    · exact h.2.2.1
  · exact of0 (swapE_parts (show swapE base n key ptr = 0 from hc)).1
  · have hE : cutE base n key = 0 := hc
    unfold cutE at hE
    split at hE
    · omega
    · exact of0 (by omega)
  · exact of0 hc
end Go.Proofs.Ytbpaefhihdhdeaa
namespace Go.Proofs.Ytbpaefhihdhdeaa
open Go.RowKit
set_option linter.unusedVariables false

/-- the worlds of the law -/
structure TnW (w : World) (b6 b9 gL : Nat) (L : List (Int × Int)) (kind2 key2 ptr2 : Int) (m : Nd) (W : World) : Prop where
  n : Blk W b6 (ndCells m) 27
  a : Blk W b9 (askC kind2 key2 ptr2) 39
  l : EntsAt W gL 0 L
  b : Below w.heap.size w W
  lb : w.heap.size ≤ b6
  l9 : b6 < b9
  lg : b6 < gL
section
variable {w W W' : World} {b6 b9 gL : Nat} {L : List (Int × Int)} {kind2 key2 ptr2 : Int} {m m' : Nd}
theorem TnW.keep (h : TnW w b6 b9 gL L kind2 key2 ptr2 m W) (hB : Below W.heap.size W W') : TnW w b6 b9 gL L kind2 key2 ptr2 m W' :=
  ⟨h.n.below hB h.n.lt, h.a.below hB h.a.lt, fun i hi => (h.l.below hB (h.l.lt (by omega))) i hi, h.b.trans (hB.mono h.b.size), h.lb, h.l9, h.lg⟩
theorem TnW.next (h : TnW w b6 b9 gL L kind2 key2 ptr2 m W) (hk : Keeps (fun i => i = b6) W W') (hb : Blk W' b6 (ndCells m') 27) : TnW w b6 b9 gL L kind2 key2 ptr2 m' W' :=
  ⟨hb, h.a.kept hk (by have := h.l9; omega), fun i hi => by
    obtain ⟨a, b⟩ := h.l i hi
    have hg : gL < W.heap.size := h.l.lt (by omega)
    have hne : ¬ gL = b6 := by have := h.lg; omega
    exact ⟨(hk.cell (p := ⟨gL, 0 + i * 2, none⟩) hg hne).trans a, (hk.cell (p := ⟨gL, 0 + i * 2 + 1, none⟩) hg hne).trans b⟩,
   h.b.trans (below_of_keeps hk h.b.size (fun k hk2 e => by have := h.lb; omega)), h.lb, h.l9, h.lg⟩
theorem TnW.set (h : TnW w b6 b9 gL L kind2 key2 ptr2 m W) : TnW w b6 b9 gL L kind2 key2 ptr2 m' (W.setRow b6 (ndCells m')) :=
  h.next (keeps_setRow (S := fun i => i = b6) (Keeps.refl _ _) (.inl rfl) _) (h.n.row _)
end
/-- the loop -/
def TnRel (base : Int) (w : World) (b6 b9 gL : Nat) (Ls : List (Int × Int)) (kind2 key2 ptr2 : Int) (was now : List (Int × Int)) (iv : Value) (W : World) : Prop :=
  ∃ (k : Nat) (m : Nd) (d : Bool), k ≤ Ls.length ∧ iv = .int .i64 k ∧ PhS base was now d m (Ls.drop k) ∧ m.mayB 0 false = true ∧ TnW w b6 b9 gL Ls kind2 key2 ptr2 m W

set_option maxRecDepth 100000 in
set_option maxHeartbeats 1600000 in
theorem torn_err (base : Int) (n : Nd) (kind key ptr stop kind2 key2 ptr2 : Int) (w : World) (hc : madeC base n (kdOf kind) key ptr ≠ 0) :
    Calls Try.prog 8 #[.int .u64 base, .agg (ndCells n), .agg (askC kind key ptr), .int .i64 stop, .agg (askC kind2 key2 ptr2)] w fun e w' => e = .returned (.bool true) ∧ Below w.heap.size w w' := by
  have HMd := Lib.hid (fun w => made_v base n kind key ptr w)
  obtain ⟨C, hC⟩ : ∃ l, madeC base n (kdOf kind) key ptr = l := ⟨_, rfl⟩
  rw [hC] at HMd hc
  have q1 : (C != 0) = true := bne_iff_ne.2 hc
  clear hC hc
  have HI := Lib.hid (info27 n)
  have HAsk := Lib.hid (show askC kind key ptr = #[.int .i64 kind, .int .u64 key, .int .u64 ptr] ∧ askC kind2 key2 ptr2 = #[.int .i64 kind2, .int .u64 key2, .int .u64 ptr2] from ⟨rfl, rfl⟩)
  obtain ⟨w0, hw0⟩ : ∃ x, ((w.alloc (.cells (ndCells n) 27)).alloc (.cells (askC kind key ptr) 39)).alloc (.cells (askC kind2 key2 ptr2) 39) = x := ⟨_, rfl⟩
  have hk0 : Blk w0 w.heap.size (ndCells n) 27 := by rw [← hw0]; exact ((Blk.new w _ _).alloc _).alloc _
  have hg0 : Blk w0 (w.heap.size + 1) (askC kind key ptr) 39 := by
    rw [← hw0]
    have := (Blk.new (w.alloc (.cells (ndCells n) 27)) (askC kind key ptr) 39).alloc (.cells (askC kind2 key2 ptr2) 39)
    simpa using this
  have hh0 : Blk w0 (w.heap.size + 2) (askC kind2 key2 ptr2) 39 := by
    rw [← hw0]
    have := Blk.new ((w.alloc (.cells (ndCells n) 27)).alloc (.cells (askC kind key ptr) 39)) (askC kind2 key2 ptr2) 39
    simpa using this
  have hb0 : Below w.heap.size w w0 := by rw [← hw0]; exact (((Below.refl w.heap.size w).alloc (Nat.le_refl _) _).alloc (by simp) _).alloc (by simp; omega) _
  have HS0 := Lib.hid (show w0.heap.size = w.heap.size + 3 by rw [← hw0]; simp)
  have HL0 := Lib.hid (show ∀ j v, (ndCells n)[j]? = some v → (((w.alloc (.cells (ndCells n) 27)).alloc (.cells (askC kind key ptr) 39)).alloc (.cells (askC kind2 key2 ptr2) 39)).cell? ⟨w.heap.size, 0 + j, none⟩ = some v by rw [hw0]; exact ndLoad hk0)
  have HW0 := Lib.hid hw0
  have HK0 := Lib.hid hk0
  have HG0 := Lib.hid hg0
  have HH0 := Lib.hid hh0
  have HB0 := Lib.hid hb0
  clear hk0 hg0 hh0 hb0 hw0
  rw [HAsk.out.1] at HMd
  rw [HAsk.out.1, HAsk.out.2] at HL0 HW0 ⊢
  go_enter Try.func8, Try.ntmps8
  go_wp2_with (with_reducible refine wpList_load_part (o := ⟨some 27, _, _, _, _, _⟩) rfl 27 _ rfl w.heap.size 0 rfl (ndCells n) _ HL0.out Try.underlying27 rfl HI.out ?_)
  rw [HW0.out]
  refine (HMd.out _).mono ?_
  rintro e w1 ⟨a1, m1, cL, rfl, hm1, ho1, hB⟩
  have HB1 := Lib.hid (HB0.out.trans (hB.mono HB0.out.size))
  clear hB hm1 ho1
  go_wp2_with (fail)
  refine (known_v _).mono ?_
  rintro e w2 ⟨rfl, hB⟩
  have HB2 := Lib.hid (HB1.out.trans (hB.mono HB1.out.size))
  clear hB
  go_wp2_with (fail)
  go_ret
  exact ⟨rfl, HB2.out⟩

set_option maxRecDepth 100000 in
set_option maxHeartbeats 6400000 in
theorem torn_ok (base : Int) (n : Nd) (kind key ptr stop kind2 key2 ptr2 : Int) (w : World) (hc : madeC base n (kdOf kind) key ptr = 0) :
    Calls Try.prog 8 #[.int .u64 base, .agg (ndCells n), .agg (askC kind key ptr), .int .i64 stop, .agg (askC kind2 key2 ptr2)] w fun e w' => e = .returned (.bool true) ∧ Below w.heap.size w w' := by
  have HT := Lib.hid (phS_start (traj_all (kdOf_lt kind) hc))
  have HMy := Lib.hid (made_may (kdOf_lt kind) hc)
  have hS := made_stands (kdOf_lt kind) hc
  have hpos := made_pos (kdOf_lt kind) hc
  have HMd := Lib.hid (fun w => made_v base n kind key ptr w)
  have HLn := Lib.hid (show (madeL base n (kdOf kind) key ptr).length ≤ 1000 by have := made_len9 base n (kdOf kind) key ptr; omega)
  obtain ⟨Ls, hL⟩ : ∃ l, madeL base n (kdOf kind) key ptr = l := ⟨_, rfl⟩
  obtain ⟨was, hwas⟩ : ∃ l, n.valid = l := ⟨_, rfl⟩
  obtain ⟨now, hnow⟩ : ∃ l, behL (kdOf kind) key ptr was = l := ⟨_, rfl⟩
  rw [hwas] at HT
  rw [hnow] at HT
  rw [hL] at HT HMd hpos HLn
  rw [hc] at HMd
  have HS := Lib.hid hS
  clear hL hc hwas hnow hS
  have HI := Lib.hid (info27 n)
  have HAsk := Lib.hid (show askC kind key ptr = #[.int .i64 kind, .int .u64 key, .int .u64 ptr] ∧ askC kind2 key2 ptr2 = #[.int .i64 kind2, .int .u64 key2, .int .u64 ptr2] from ⟨rfl, rfl⟩)
  obtain ⟨w0, hw0⟩ : ∃ x, ((w.alloc (.cells (ndCells n) 27)).alloc (.cells (askC kind key ptr) 39)).alloc (.cells (askC kind2 key2 ptr2) 39) = x := ⟨_, rfl⟩
  have hk0 : Blk w0 w.heap.size (ndCells n) 27 := by rw [← hw0]; exact ((Blk.new w _ _).alloc _).alloc _
  have hg0 : Blk w0 (w.heap.size + 1) (askC kind key ptr) 39 := by
    rw [← hw0]
    have := (Blk.new (w.alloc (.cells (ndCells n) 27)) (askC kind key ptr) 39).alloc (.cells (askC kind2 key2 ptr2) 39)
    simpa using this
  have hh0 : Blk w0 (w.heap.size + 2) (askC kind2 key2 ptr2) 39 := by
    rw [← hw0]
    have := Blk.new ((w.alloc (.cells (ndCells n) 27)).alloc (.cells (askC kind key ptr) 39)) (askC kind2 key2 ptr2) 39
    simpa using this
  have hb0 : Below w.heap.size w w0 := by rw [← hw0]; exact (((Below.refl w.heap.size w).alloc (Nat.le_refl _) _).alloc (by simp) _).alloc (by simp; omega) _
  have HS0 := Lib.hid (show w0.heap.size = w.heap.size + 3 by rw [← hw0]; simp)
  have HL0 := Lib.hid (show ∀ j v, (ndCells n)[j]? = some v → (((w.alloc (.cells (ndCells n) 27)).alloc (.cells (askC kind key ptr) 39)).alloc (.cells (askC kind2 key2 ptr2) 39)).cell? ⟨w.heap.size, 0 + j, none⟩ = some v by rw [hw0]; exact ndLoad hk0)
  have HW0 := Lib.hid hw0
  have HK0 := Lib.hid hk0
  have HG0 := Lib.hid hg0
  have HH0 := Lib.hid hh0
  have HB0 := Lib.hid hb0
  clear hk0 hg0 hh0 hb0 hw0
  rw [HAsk.out.1] at HMd
  rw [HAsk.out.1, HAsk.out.2] at HL0 HW0 ⊢
  go_enter Try.func8, Try.ntmps8
  go_wp2_with (with_reducible refine wpList_load_part (o := ⟨some 27, _, _, _, _, _⟩) rfl 27 _ rfl w.heap.size 0 rfl (ndCells n) _ HL0.out Try.underlying27 rfl HI.out ?_)
  rw [HW0.out]
  refine (HMd.out _).mono ?_
  rintro e w1 ⟨a1, m1, cL, rfl, hm1, ho1, hB⟩
  subst hm1
  obtain ⟨gL, cp, ev, hg1, hg2, _, _, hEL⟩ := own_ents ho1 rfl hpos
  cases ev
  have HW := Lib.hid (show TnW w w.heap.size (w.heap.size + 2) gL Ls kind2 key2 ptr2 n w1 from ⟨HK0.out.below hB HK0.out.lt, HH0.out.below hB HH0.out.lt, hEL, HB0.out.trans (hB.mono HB0.out.size), Nat.le_refl _, by omega, by have := HS0.out; omega⟩)
  obtain ⟨b6, hb6⟩ : ∃ x, w.heap.size = x := ⟨_, rfl⟩
  obtain ⟨b9, hb9⟩ : ∃ x, w.heap.size + 2 = x := ⟨_, rfl⟩
  rw [hb9, hb6] at HW
  rw [hb9, hb6]
  clear hB ho1 hEL hg1 hg2 HMd HL0 HB0 HK0 HG0 HH0 hb6 hb9
  obtain ⟨us, hus⟩ : ∃ u, IntKind.u64.wrap stop = u := ⟨_, rfl⟩
  have hus0 : 0 ≤ us := by rw [← hus, IntKind.wrap_u64]; omega
  have hls := HLn.out
  obtain ⟨qs, hqs⟩ : ∃ u, us % ((Ls.length : Int) + 1) = u := ⟨_, rfl⟩
  have hq0 : 0 ≤ qs ∧ qs ≤ 1000 := by
    rw [← hqs]
    exact ⟨Int.emod_nonneg _ (by omega), by have := Int.emod_lt_of_pos us (show 0 < (Ls.length : Int) + 1 by omega); omega⟩
  obtain ⟨hq0, hq1⟩ := hq0
  have wk1 : IntKind.u64.wrap ((Ls.length : Int) + 1) = (Ls.length : Int) + 1 := by rw [IntKind.wrap_u64]; omega
  have wk2 : IntKind.i64.wrap qs = qs := IntWalk.i64_in _ (by omega)
  go_wp2_with (fail)
  go_loopw [13] (fun iv wr => TnRel base w b6 b9 gL Ls kind2 key2 ptr2 was now iv wr) (fun iv _ => Ls.length - (intOf iv).toNat)
  case atStart => exact ⟨0, n, false, Nat.zero_le _, rfl, HT.out, HMy.out, HW.out⟩
  case round =>
    obtain ⟨k, m, d, hk, rfl, hP, hMy, hW⟩ := hrel
    clear HW HT HI HMy
    have HP := Lib.hid hP
    have HW := Lib.hid hW
    have HMy := Lib.hid hMy
    clear hP hW hMy
    by_cases hgo : k < Ls.length ∧ (k : Int) < qs
    · obtain ⟨hlt, hlq⟩ := hgo
      have b1 : (k : Int) < (Ls.length : Int) := by omega
      have b2 : ((k : Int)).toNat = k := by omega
      have HLt := Lib.hid hlt
      obtain ⟨c1, c2⟩ := HW.out.l k hlt
      have hp2 := HP.out
      rw [drop_ent Ls hlt] at hp2
      obtain ⟨at_, hat⟩ : ∃ x, eK Ls k = x := ⟨_, rfl⟩
      obtain ⟨x, hx⟩ : ∃ x, eP Ls k = x := ⟨_, rfl⟩
      rw [hat, hx] at hp2
      rw [hat, Nat.zero_add] at c1
      rw [hx, Nat.zero_add] at c2
      obtain ⟨m', hput, hmay, hways⟩ := phS_step hp2
      have hput : putA base m at_ x = some m' := hput
      obtain ⟨d', hP2⟩ : ∃ d', PhS base was now d' m' (Ls.drop (k + 1)) := by
        rcases hways with ⟨_, _, h⟩ | ⟨_, _, _, h⟩ | ⟨_, _, h⟩ <;> exact ⟨_, h⟩
      have HAp := Lib.hid (show ∀ w, Calls Try.prog 11 #[.int .u64 base, .agg (ndCells m), .agg #[.int .u64 at_, .int .u64 x]] w fun e w' => MkP m' 0 w e w' from fun w => by
        have := rapply_v base m at_ x w HS.out
        unfold putV at this
        rwa [hput] at this)
      have HgW := Lib.hid (show gL < wr.heap.size from HW.out.l.lt (by omega))
      have HGB := Lib.hid (show ¬ gL = b6 by have := HW.out.lg; omega)
      have HP2 := Lib.hid hP2
      have HMy2 := Lib.hid hmay
      clear hat hx hp2 hput hways hmay hP2
      go_upto_region 7 with (fail)
      --GEN r_tn7
      refine wp_region_vals [Is (.int .u64 base), Is (.agg (ndCells m)), Is (.slice (some ⟨gL, 0, none⟩) Ls.length cL), Is (.int .i64 k), Is (.pointer (some ⟨gL, k * 2, none⟩)), Is (.agg #[.int .u64 at_, .int .u64 x]), Is (.tuple #[.agg (ndCells m'), .int .i64 0]), Is (.tuple #[.agg (ndCells m'), .int .i64 0]), Is (.agg (ndCells m')), Is (.int .i64 0), Any]
        (fun _ => Keeps (fun i => i = b6)) (fun L W => Keeps (fun i => i = b6) wr W ∧ Blk W b6 (ndCells (if L 10 = true then m' else m)) 27) (by kernel_rfl) (by kernel_rfl) (by kernel_rfl) ?hst ?h0 ⟨?o0, ?o1, ?o2, ?o3, ?o4, ?o5, ?o6, ?o7, ?o8, ?o9, ?o10, trivial⟩ ?he
      case hst =>
        exact ⟨(fun _ _ _ _ _ _ h _ => h), (fun _ _ _ _ _ _ h _ => h), (fun _ _ _ _ _ _ h _ => h), (fun _ _ _ _ _ _ h _ => h), (fun _ _ _ _ _ _ h _ => h), (fun _ _ _ _ _ _ h _ => h), (fun _ _ _ _ _ _ h _ => h), (fun _ _ _ _ _ _ h _ => h), (fun _ _ _ _ _ _ h _ => h), (fun _ _ _ _ _ _ h _ => h), (fun _ _ _ _ _ _ h _ => h), trivial⟩
      case h0 =>
        exact ⟨(Keeps.refl _ _).drew, HW.out.n.drew⟩
      case o0 =>
        intro L vs A W H hf hd K hK
        have e0 : A.tmps[0]?.getD undef = .int .u64 base := H.old 0 (by kernel_rfl)
        go_simp
        exact hK _ _ (Keeps.refl _ _) rfl (H.glob)
      case o1 =>
        intro L vs A W H hf hd K hK
        have e6 : A.tmps[6]?.getD undef = .pointer (some ⟨b6, 0, none⟩) := H.old 6 (by kernel_rfl)
        have n10 := H.notYet 10 1 rfl hf (by kernel_rfl)
        have hb := H.glob.2
        rw [n10] at hb
        rw [if_pos (show Region.wanted _ _ = true from rfl)]
        exact wp_load_nd _ rfl b6 m (ev_tmp e6) hb (hK _ _ (Keeps.refl _ _) rfl H.glob)
      case o2 =>
        intro L vs A W H hf hd K hK
        have e11 : A.tmps[11]?.getD undef = .slice (some ⟨gL, 0, none⟩) Ls.length cL := H.old 11 (by kernel_rfl)
        go_simp
        exact hK _ _ (Keeps.refl _ _) rfl (H.glob)
      case o3 =>
        intro L vs A W H hf hd K hK
        have e13 : A.tmps[13]?.getD undef = .int .i64 k := H.old 13 (by kernel_rfl)
        go_simp
        exact hK _ _ (Keeps.refl _ _) rfl (H.glob)
      case o4 =>
        intro L vs A W H hf hd K hK
        have e56 := H.is 2 56 rfl rfl rfl (deps_of' hd 2 (by kernel_rfl)) (by kernel_rfl)
        have e57 := H.is 3 57 rfl rfl rfl (deps_of' hd 3 (by kernel_rfl)) (by kernel_rfl)
        go_simp
        exact hK _ _ (Keeps.refl _ _) rfl (H.glob)
      case o5 =>
        intro L vs A W H hf hd K hK
        have e58 := H.is 4 58 rfl rfl rfl (deps_of' hd 4 (by kernel_rfl)) (by kernel_rfl)
        have d1 := (H.glob.1.cell (p := ⟨gL, k * 2, none⟩) HgW.out HGB.out).trans c1
        have d2 := (H.glob.1.cell (p := ⟨gL, k * 2 + 1, none⟩) HgW.out HGB.out).trans c2
        go_simp
        exact hK _ _ (Keeps.refl _ _) rfl (H.glob)
      case o6 =>
        intro L vs A W H hf hd K hK
        have e54 := H.is 0 54 rfl rfl rfl (deps_of' hd 0 (by kernel_rfl)) (by kernel_rfl)
        have e55 := H.is 1 55 rfl rfl rfl (deps_of' hd 1 (by kernel_rfl)) (by kernel_rfl)
        have e59 := H.is 5 59 rfl rfl rfl (deps_of' hd 5 (by kernel_rfl)) (by kernel_rfl)
        rw [if_pos (show Region.wanted _ _ = true from rfl)]
        go_wp2_with (fail)
        refine (HAp.out _).mono ?_
        rintro e W2 ⟨rfl, hB⟩
        exact hK _ _ (Keeps.of_belowS hB) rfl ⟨H.glob.1.trans (Keeps.of_belowS hB), H.glob.2.below hB H.glob.2.lt⟩
      case o7 =>
        intro L vs A W H hf hd K hK
        have e60 := H.is 6 60 rfl rfl rfl (deps_of' hd 6 (by kernel_rfl)) (by kernel_rfl)
        go_simp
        exact hK _ _ (Keeps.refl _ _) rfl (H.glob)
      case o8 =>
        intro L vs A W H hf hd K hK
        have e53 := H.is 7 53 rfl rfl rfl (deps_of' hd 7 (by kernel_rfl)) (by kernel_rfl)
        go_simp
        exact hK _ _ (Keeps.refl _ _) rfl (H.glob)
      case o9 =>
        intro L vs A W H hf hd K hK
        have e53 := H.is 7 53 rfl rfl rfl (deps_of' hd 7 (by kernel_rfl)) (by kernel_rfl)
        go_simp
        exact hK _ _ (Keeps.refl _ _) rfl (H.glob)
      case o10 =>
        intro L vs A W H hf hd K hK
        have e6 : A.tmps[6]?.getD undef = .pointer (some ⟨b6, 0, none⟩) := H.old 6 (by kernel_rfl)
        have e61 := H.is 8 61 rfl rfl rfl (deps_of' hd 8 (by kernel_rfl)) (by kernel_rfl)
        have hb := H.glob.2
        rw [show L 10 = false from hf] at hb
        rw [if_pos (show Region.wanted _ _ = true from rfl)]
        exact wp_store_nd _ _ rfl b6 m' m (ev_tmp e6) (ev_tmp e61) hb (hK _ _ (keeps_setRow (S := fun i => i = b6) (Keeps.refl _ _) (.inl rfl) _) trivial ⟨keeps_setRow H.glob.1 (.inl rfl) _, hb.row _⟩)
      case he =>
        intro vs W hlen hv
        match vs, hlen, hv with
        | [x0_, x1_, x2_, x3_, x4_, x5_, x6_, x7_, x8_, x9_, x10_], _, hv =>
        obtain rfl : (.int .u64 base) = x0_ := by obtain ⟨z, h1, h2⟩ := hv 0 _ rfl; cases h1; exact h2.symm
        obtain rfl : (.agg (ndCells m)) = x1_ := by obtain ⟨z, h1, h2⟩ := hv 1 _ rfl; cases h1; exact h2.symm
        obtain rfl : (.slice (some ⟨gL, 0, none⟩) Ls.length cL) = x2_ := by obtain ⟨z, h1, h2⟩ := hv 2 _ rfl; cases h1; exact h2.symm
        obtain rfl : (.int .i64 k) = x3_ := by obtain ⟨z, h1, h2⟩ := hv 3 _ rfl; cases h1; exact h2.symm
        obtain rfl : (.pointer (some ⟨gL, k * 2, none⟩)) = x4_ := by obtain ⟨z, h1, h2⟩ := hv 4 _ rfl; cases h1; exact h2.symm
        obtain rfl : (.agg #[.int .u64 at_, .int .u64 x]) = x5_ := by obtain ⟨z, h1, h2⟩ := hv 5 _ rfl; cases h1; exact h2.symm
        obtain rfl : (.tuple #[.agg (ndCells m'), .int .i64 0]) = x6_ := by obtain ⟨z, h1, h2⟩ := hv 6 _ rfl; cases h1; exact h2.symm
        obtain rfl : (.tuple #[.agg (ndCells m'), .int .i64 0]) = x7_ := by obtain ⟨z, h1, h2⟩ := hv 7 _ rfl; cases h1; exact h2.symm
        obtain rfl : (.agg (ndCells m')) = x8_ := by obtain ⟨z, h1, h2⟩ := hv 8 _ rfl; cases h1; exact h2.symm
        obtain rfl : (.int .i64 0) = x9_ := by obtain ⟨z, h1, h2⟩ := hv 9 _ rfl; cases h1; exact h2.symm
        intro L hall hG
        clear hv hlen
        have h10 := hall 10 (by decide)
        have HW2 := Lib.hid (HW.out.next hG.1 (show Blk W b6 (ndCells m') 27 by have := hG.2; rwa [h10] at this))
        clear hG hall h10 c1 c2
        simp only [fill, if_true]
        go_simp
        go_wp2_with (fail)
        go_roundw
        case rel => exact ⟨k + 1, m', d', by have := HLt.out; omega, by go_num, HP2.out, HMy2.out, HW2.out⟩
        case measure => simp [intOf]; have := HLt.out; omega
      --END
    · have hgo2 : (k < Ls.length ∧ ¬ (k : Int) < qs) ∨ ¬ k < Ls.length := by omega
      clear hgo
      go_upto_region 5 with (fail)
      go_cut [50] (fun s50 wx => s50 = .bool false ∧ wx = wr)
      case first =>
        rcases hgo2 with ⟨hlt, hnq⟩ | hlt
        · have b1 : (k : Int) < (Ls.length : Int) := by omega
          go_wp2_with (fail)
          go_meet
          exact ⟨rfl, rfl⟩
        · have b1 : ¬ (k : Int) < (Ls.length : Int) := by omega
          go_wp2_with (fail)
          go_meet
          exact ⟨rfl, rfl⟩
      case rest =>
        obtain ⟨rfl, rfl⟩ := hcut
        clear wk1 wk2 hgo2 hk hq0 hq1 hqs hus hus0
        have HLc := Lib.hid (ndLoad HW.out.n)
        have HI := Lib.hid (info27 m)
        have HVa := Lib.hid (fun w => rvalid_calls m w)
        have HIv := Lib.hid (fun w => rinvalid_calls m w)
        go_upto_region 8 with (fail)
        go_wp2_with (with_reducible refine wpList_load_part (o := ⟨some 63, _, _, _, _, _⟩) rfl 27 _ rfl b6 0 rfl (ndCells m) _ HLc.out Try.underlying27 rfl HI.out ?_)
        refine (HVa.out _).mono ?_
        rintro e w2 ⟨v14, rfl, hv14, hB⟩
        have HW2 := Lib.hid (HW.out.keep hB)
        have HV14 := Lib.hid hv14
        have HL2 := Lib.hid (ndLoad HW2.out.n)
        clear hv14 hB HLc HW HVa
        go_wp2_with (with_reducible refine wpList_load_part (o := ⟨some 65, _, _, _, _, _⟩) rfl 27 _ rfl b6 0 rfl (ndCells m) _ HL2.out Try.underlying27 rfl HI.out ?_)
        refine (HIv.out _).mono ?_
        rintro e w3 ⟨rfl, hB⟩
        have HW3 := Lib.hid (HW2.out.keep hB)
        have HV3 := Lib.hid (own_below HV14.out hB)
        obtain ⟨B14, hB14⟩ : ∃ x, wc.heap.size = x := ⟨_, rfl⟩
        rw [hB14] at HV3
        clear hB HL2 HW2 HIv HV14 hB14
        have hin : (m.inval < 0) ∨ (0 ≤ m.inval) := by omega
        obtain ⟨iv, hiv⟩ : ∃ z, m.inval = z := ⟨_, rfl⟩
        have HIN := Lib.hid hiv
        rw [hiv] at hin ⊢
        clear hiv
        go_upto_if 67 with (fail)
        go_cut [15] (fun _ wx => ∃ N : Nd, Hid (TnW w b6 b9 gL Ls kind2 key2 ptr2 N wx))
        case first =>
          rcases hin with hin | hin
          · go_wp2_with (fail)
            go_meet
            exact ⟨m, HW3⟩
          · have hinv : 0 ≤ m.invalid := by rw [inval_eq, HIN.out]; exact hin
            have hE := rep_code HS.out HMy.out hinv
            obtain ⟨m3, hF3, hf3, hap⟩ := apply_traj (base := base) (traj_all (base := base) (n := m) (kd := 2) (key := 0) (ptr := 0) (by omega) hE) HS.out (by have := rep_len base m; show (repP base m).length ≤ 1000; omega)
            rw [behL_same (.inl rfl)] at hF3 hf3
            have HRp := Lib.hid (show ∀ w, Calls Try.prog 21 #[.int .u64 base, .agg (ndCells m)] w fun e w' => MadeP (repP base m) 0 w e w' from fun w => by have := repair_v base m w; rwa [hE] at this)
            have HAp := Lib.hid (show ∀ (a : Option Addr) (c b : Nat) (w : World), w.ownsRow b 36 2 (.slice a (repP base m).length c) (repP base m).length (ecells (repP base m)) → Calls Try.prog 10 #[.int .u64 base, .agg (ndCells m), .slice a (repP base m).length c] w fun e w' => MkP m3 0 w e w' from hap)
            have hrl := rep_len base m
            obtain ⟨R, hR⟩ : ∃ l, repP base m = l := ⟨_, rfl⟩
            rw [hR] at HRp HAp hrl
            have HNi := Lib.hid (show ∀ w, Calls Try.prog 22 #[.agg (ndCells m3)] w fun e W' => e = .returned (.int .i64 (-1)) ∧ Below w.heap.size w W' from fun w => by have := invalid_calls m3 w; rwa [hF3.inv hf3] at this)
            have HNv := Lib.hid (show ∀ w, Calls Try.prog 23 #[.agg (ndCells m3)] w fun e W' => ∃ v, e = .returned v ∧ W'.ownsRow w.heap.size 60 2 v m.valid.length (ecells m.valid) ∧ Below w.heap.size w W' from fun w => by have := valid_calls m3 w; rwa [hF3.valid hf3] at this)
            have hv8 : m.valid.length ≤ 100 := by have := plN_len m; simp [Nd.valid]; omega
            have HSs := Lib.hid (show ∀ (v : Value) (B1 : Nat) (W : World), W.ownsRow B1 60 2 v m.valid.length (ecells m.valid) → W.ownsRow B14 60 2 v14 m.valid.length (ecells m.valid) → Calls Try.prog 18 #[v, v14] W fun e W' => e = .returned (.bool true) ∧ Below W.heap.size W W' from fun v B1 W h1 h2 => by have := rsame_calls m.valid m.valid v v14 B1 B14 W (by omega) h1 h2; rwa [beq_self_eq_true] at this)
            have HI3 := Lib.hid (info27 m3)
            have HL3 := Lib.hid (ndLoad HW3.out.n)
            clear hinv hE hF3 hf3 hap hR hv8
            go_wp2_with (with_reducible refine wpList_load_part (o := ⟨some 70, _, _, _, _, _⟩) rfl 27 _ rfl b6 0 rfl (ndCells m) _ HL3.out Try.underlying27 rfl HI.out ?_)
            refine (HRp.out _).mono ?_
            rintro e w4 ⟨a15, m15, c15, rfl, hm15, ho15, hB⟩
            subst hm15
            have HW4 := Lib.hid (HW3.out.keep hB)
            have HV4 := Lib.hid (own_below HV3.out hB)
            have HO4 := Lib.hid ho15
            have HL4 := Lib.hid (ndLoad HW4.out.n)
            clear hB ho15 HL3 HRp
            go_wp2_with (with_reducible refine wpList_load_part (o := ⟨some 76, _, _, _, _, _⟩) rfl 27 _ rfl b6 0 rfl (ndCells m) _ HL4.out Try.underlying27 rfl HI.out ?_)
            refine (HAp.out _ _ _ _ HO4.out).mono ?_
            rintro e w5 ⟨rfl, hB⟩
            have HW5 := Lib.hid (HW4.out.keep hB)
            have HV5 := Lib.hid (own_below HV4.out hB)
            have HN5 := Lib.hid (Blk.new w5 (ndCells nd0) 27)
            clear hB HL4 HAp HO4
            go_upto_region 12 with (first | (with_reducible refine wpList_alloc_nd (o := ⟨some 17, _, _, _, _, _⟩) rfl rfl ?_) | ((with_reducible refine wpList_store_ndc (o := ⟨none, .store 27 (.tmp 17) (.tmp 79), _, _, _, _⟩) ?hga (.tmp 17) (.tmp 79) ?hoa w5.heap.size ?csa m3 nd0 ?hxa ?hya HN5.out ?hma ?_); (case hga => rfl); (case hoa => rfl); (case hxa => rfl); (case hya => rfl); (case hma => rfl)))
            go_simp
            have hk6 := newNd_blk w5 m3
            have hW6 := HW5.out.keep (newNd_below w5 m3)
            have hV6 := own_below HV5.out (newNd_below w5 m3)
            unfold newNd at hk6 hW6 hV6
            obtain ⟨b17, hb17⟩ : ∃ x, w5.heap.size = x := ⟨_, rfl⟩
            rw [hb17] at hk6 hW6 hV6 ⊢
            clear hb17 HN5 HW5 HV5
            generalize (w5.alloc (.cells (ndCells nd0) 27)).setRow b17 (ndCells m3) = w6 at *
            have HK6 := Lib.hid hk6
            have HW6 := Lib.hid hW6
            have HV6 := Lib.hid hV6
            have HL6 := Lib.hid (ndLoad hk6)
            clear hk6 hW6 hV6
            go_wp2_with ((with_reducible refine wpList_load_gd (o := ⟨some 88, .load 27 (.tmp 17), _, _, _, _⟩) 27 (.tmp 17) ?hob b17 0 ?hxb (ndCells m3) _ HL6.out Try.underlying27 rfl HI3.out ?hwb ?_); (case hob => rfl); (case hxb => rfl); (case hwb => rfl))
            refine (HNi.out _).mono ?_
            rintro e w7 ⟨rfl, hB⟩
            have HK7 := Lib.hid (HK6.out.below hB HK6.out.lt)
            have HW7 := Lib.hid (HW6.out.keep hB)
            have HV7 := Lib.hid (own_below HV6.out hB)
            have HL7 := Lib.hid (ndLoad HK7.out)
            clear hB HL6 HK6 HW6 HV6
            go_wp2_with ((with_reducible refine wpList_load_gd (o := ⟨some 93, .load 27 (.tmp 17), _, _, _, _⟩) 27 (.tmp 17) ?hoc b17 0 ?hxc (ndCells m3) _ HL7.out Try.underlying27 rfl HI3.out ?hwc ?_); (case hoc => rfl); (case hxc => rfl); (case hwc => rfl))
            refine (HNv.out _).mono ?_
            rintro e w8 ⟨v8, rfl, hv8, hB⟩
            have HK8 := Lib.hid (HK7.out.below hB HK7.out.lt)
            have HW8 := Lib.hid (HW7.out.keep hB)
            have HV8 := Lib.hid (own_below HV7.out hB)
            have HVn := Lib.hid hv8
            clear hB hv8 HL7 HK7 HW7 HV7
            go_wp2_with (fail)
            refine (HSs.out _ _ _ HVn.out HV8.out).mono ?_
            rintro e w9 ⟨rfl, hB⟩
            have HK9 := Lib.hid (HK8.out.below hB HK8.out.lt)
            have HW9 := Lib.hid (HW8.out.keep hB)
            have HL9 := Lib.hid (ndLoad HK9.out)
            have bR : ¬ (18 : Int) < (R.length : Int) := by omega
            clear hB HK8 HW8 HV8 HVn
            go_upto_region 14 with (fail)
            go_wp2_with (first | (with_reducible refine wpList_load_part (o := ⟨some 104, _, _, _, _, _⟩) rfl 27 _ rfl b17 0 rfl (ndCells m3) _ HL9.out Try.underlying27 rfl HI3.out ?_) | ((with_reducible refine wpList_store_ndc (o := ⟨none, .store 27 (.tmp 6) (.tmp 104), _, _, _, _⟩) ?hgd (.tmp 6) (.tmp 104) ?hod b6 ?csd m3 m ?hxd ?hyd HW9.out.n ?hmd ?_); (case hgd => rfl); (case hod => rfl); (case hxd => rfl); (case hyd => rfl); (case hmd => rfl)))
            go_meet
            exact ⟨m3, Lib.hid HW9.out.set⟩
        case rest =>
          obtain ⟨N, HWN⟩ := hcut
          clear hin HIN HW3 HV3 HMy HP HI
          have h0 : 0 ≤ base := by have := HS.out.1; omega
          have HI := Lib.hid (info27 N)
          have HMd := Lib.hid (fun w => made_v base N kind2 key2 ptr2 w)
          have HWt := Lib.hid (fun w => want_v base N kind2 key2 ptr2 h0 w)
          have HKn := Lib.hid (fun w => known_v w)
          have HBh := Lib.hid (fun w => behind_v N kind2 key2 ptr2 w)
          obtain ⟨C2, hC2⟩ : ∃ z, madeC base N (kdOf kind2) key2 ptr2 = z := ⟨_, rfl⟩
          have HC2 := Lib.hid hC2
          have HLen := Lib.hid (show (madeL base N (kdOf kind2) key2 ptr2).length ≤ 1000 by have := made_len9 base N (kdOf kind2) key2 ptr2; omega)
          rw [hC2] at HMd HWt
          obtain ⟨L2, hL2⟩ : ∃ l, madeL base N (kdOf kind2) key2 ptr2 = l := ⟨_, rfl⟩
          have HL2e := Lib.hid hL2
          rw [hL2] at HMd HWt HLen
          rw [HAsk.out.2] at HMd HWt HBh
          have qC : (C2 != C2) = false := by simp
          have HLn1 := Lib.hid (ndLoad HWN.out.n)
          have d0 : wc.cell? ⟨b9, 0, none⟩ = some (.int .i64 kind2) := by rw [HWN.out.a.cell]; rfl
          have d1 : wc.cell? ⟨b9, 1, none⟩ = some (.int .u64 key2) := by rw [HWN.out.a.cell]; rfl
          have d2 : wc.cell? ⟨b9, 2, none⟩ = some (.int .u64 ptr2) := by rw [HWN.out.a.cell]; rfl
          clear hC2 hL2 h0
          go_wp2_with (with_reducible refine wpList_load_part (o := ⟨some 107, _, _, _, _, _⟩) rfl 27 _ rfl b6 0 rfl (ndCells N) _ HLn1.out Try.underlying27 rfl HI.out ?_)
          refine (HMd.out _).mono ?_
          rintro e y1 ⟨a19, m19, c19, rfl, hm19, ho19, hB⟩
          subst hm19
          have HY1 := Lib.hid (HWN.out.keep hB)
          have HO1 := Lib.hid ho19
          have HL1 := Lib.hid (ndLoad HY1.out.n)
          clear hB ho19 d0 d1 d2 HLn1 HWN
          have d0 : y1.cell? ⟨b9, 0, none⟩ = some (.int .i64 kind2) := by rw [HY1.out.a.cell]; rfl
          have d1 : y1.cell? ⟨b9, 1, none⟩ = some (.int .u64 key2) := by rw [HY1.out.a.cell]; rfl
          have d2 : y1.cell? ⟨b9, 2, none⟩ = some (.int .u64 ptr2) := by rw [HY1.out.a.cell]; rfl
          go_wp2_with (with_reducible refine wpList_load_part (o := ⟨some 114, _, _, _, _, _⟩) rfl 27 _ rfl b6 0 rfl (ndCells N) _ HL1.out Try.underlying27 rfl HI.out ?_)
          refine (HWt.out _).mono ?_
          rintro e y2 ⟨a21, m21, c21, rfl, hm21, ho21, hB⟩
          subst hm21
          have HY2 := Lib.hid (HY1.out.keep hB)
          have HO2 := Lib.hid (own_below HO1.out hB)
          have HL2 := Lib.hid (ndLoad HY2.out.n)
          clear hB ho21 d0 d1 d2 HL1 HY1 HO1
          by_cases hz : C2 = 0
          · subst hz
            obtain ⟨m4, hF4, hf4, hap⟩ := apply_traj (base := base) (traj_all (kdOf_lt kind2) HC2.out) HS.out (by rw [HL2e.out]; exact HLen.out)
            rw [HL2e.out] at hap
            obtain ⟨l4, hl4⟩ : ∃ l, behL (kdOf kind2) key2 ptr2 N.valid = l := ⟨_, rfl⟩
            rw [hl4] at hF4 hf4 HBh
            have HAp := Lib.hid hap
            have HV4 := Lib.hid (show ∀ w, Calls Try.prog 23 #[.agg (ndCells m4)] w fun e W' => ∃ v, e = .returned v ∧ W'.ownsRow w.heap.size 60 2 v l4.length (ecells l4) ∧ Below w.heap.size w W' from fun w => by have := valid_calls m4 w; rwa [hF4.valid hf4] at this)
            have h48 := hF4.le
            have HS4 := Lib.hid (show ∀ (v v2 : Value) (B1 B2 : Nat) (W : World), RowV B1 l4 v W → RowV B2 l4 v2 W → Calls Try.prog 18 #[v, v2] W fun e W' => e = .returned (.bool true) ∧ Below W.heap.size W W' from fun v v2 B1 B2 W h1 h2 => by have := rsame_calls l4 l4 v v2 B1 B2 W (by omega) h1 h2; rwa [beq_self_eq_true] at this)
            clear hF4 hf4 hap hl4 h48
            go_wp2_with (with_reducible refine wpList_load_part (o := ⟨some 127, _, _, _, _, _⟩) rfl 27 _ rfl b6 0 rfl (ndCells N) _ HL2.out Try.underlying27 rfl HI.out ?_)
            refine (HAp.out _ _ _ _ HO2.out).mono ?_
            rintro e y3 ⟨rfl, hB⟩
            have HY3 := Lib.hid (HY2.out.keep hB)
            have HN3 := Lib.hid (Blk.new y3 (ndCells nd0) 27)
            clear hB HY2 HO2 HL2
            go_upto_region 22 with (first | (with_reducible refine wpList_alloc_nd (o := ⟨some 23, _, _, _, _, _⟩) rfl rfl ?_) | ((with_reducible refine wpList_store_ndc (o := ⟨none, .store 27 (.tmp 23) (.tmp 130), _, _, _, _⟩) ?hge (.tmp 23) (.tmp 130) ?hoe y3.heap.size ?cse m4 nd0 ?hxe ?hye HN3.out ?hme ?_); (case hge => rfl); (case hoe => rfl); (case hxe => rfl); (case hye => rfl); (case hme => rfl)))
            go_simp
            have hk4 := newNd_blk y3 m4
            have hW4 := HY3.out.keep (newNd_below y3 m4)
            unfold newNd at hk4 hW4
            obtain ⟨b23, hb23⟩ : ∃ x, y3.heap.size = x := ⟨_, rfl⟩
            rw [hb23] at hk4 hW4 ⊢
            clear hb23 HN3 HY3
            generalize (y3.alloc (.cells (ndCells nd0) 27)).setRow b23 (ndCells m4) = wz at *
            have H23 := Lib.hid hk4
            have HWz := Lib.hid hW4
            clear hk4 hW4
            --GEN r_tn22
            refine wp_region_vals [Is (.int .i64 0), Is (.bool true), Is (.bool true), Is (.agg (ndCells m4)), RowV wz.heap.size l4, Is (.agg (ndCells N)), Is (.agg #[.int .i64 kind2, .int .u64 key2, .int .u64 ptr2]), RowV wz.heap.size l4, Is (.bool true), Is (.bool true), Is (.bool true), Is (.bool true), Is (.bool true), Is (.bool true)]
              (fun _ W W' => Below W.heap.size W W') (fun _ W => Below wz.heap.size wz W) (by kernel_rfl) (by kernel_rfl) (by kernel_rfl) ?hst ?h0 ⟨?o0, ?o1, ?o2, ?o3, ?o4, ?o5, ?o6, ?o7, ?o8, ?o9, ?o10, ?o11, ?o12, ?o13, trivial⟩ ?he
            case hst =>
              exact ⟨(fun _ _ _ _ _ _ h _ => h), (fun _ _ _ _ _ _ h _ => h), (fun _ _ _ _ _ _ h _ => h), (fun _ _ _ _ _ _ h _ => h), (fun _ _ _ _ _ _ h hR => own_below h hR), (fun _ _ _ _ _ _ h _ => h), (fun _ _ _ _ _ _ h _ => h), (fun _ _ _ _ _ _ h hR => own_below h hR), (fun _ _ _ _ _ _ h _ => h), (fun _ _ _ _ _ _ h _ => h), (fun _ _ _ _ _ _ h _ => h), (fun _ _ _ _ _ _ h _ => h), (fun _ _ _ _ _ _ h _ => h), (fun _ _ _ _ _ _ h _ => h), trivial⟩
            case h0 =>
              exact (Below.refl _ _).drew
            case o0 =>
              intro L vs A W H hf hd K hK
              have e24 : A.tmps[24]?.getD undef = .int .i64 0 := H.old 24 (by kernel_rfl)
              go_simp
              exact hK _ _ (Below.refl _ _) rfl (H.glob)
            case o1 =>
              intro L vs A W H hf hd K hK
              have e132 := H.is 0 132 rfl rfl rfl (deps_of' hd 0 (by kernel_rfl)) (by kernel_rfl)
              go_simp
              exact hK _ _ (Below.refl _ _) rfl (H.glob)
            case o2 =>
              intro L vs A W H hf hd K hK
              have e133 := H.is 1 133 rfl rfl rfl (deps_of' hd 1 (by kernel_rfl)) (by kernel_rfl)
              go_simp
              exact hK _ _ (Below.refl _ _) rfl (H.glob)
            case o3 =>
              intro L vs A W H hf hd K hK
              have e134 := H.is 2 134 rfl rfl rfl (deps_of' hd 2 (by kernel_rfl)) (by kernel_rfl)
              refine if_wanted (j := 2) (s := 134) rfl rfl rfl e134 rfl ?_
              have e23 : A.tmps[23]?.getD undef = .pointer (some ⟨b23, 0, none⟩) := H.old 23 (by kernel_rfl)
              exact wp_load_nd _ rfl b23 m4 (ev_tmp e23) (H23.out.below H.glob H23.out.lt) (hK _ _ (Below.refl _ _) rfl H.glob)
            case o4 =>
              intro L vs A W H hf hd K hK
              have e134 := H.is 2 134 rfl rfl rfl (deps_of' hd 2 (by kernel_rfl)) (by kernel_rfl)
              refine if_wanted (j := 2) (s := 134) rfl rfl rfl e134 rfl ?_
              have e135 := H.is 3 135 rfl rfl rfl (deps_of' hd 3 (by kernel_rfl)) (by kernel_rfl)
              go_wp2_with (fail)
              refine (HV4.out _).mono ?_
              rintro e W2 ⟨v, rfl, hv, hB⟩
              exact hK _ _ hB (RowV.mono hv H.glob.size) (H.glob.trans (hB.mono H.glob.size))
            case o5 =>
              intro L vs A W H hf hd K hK
              have e134 := H.is 2 134 rfl rfl rfl (deps_of' hd 2 (by kernel_rfl)) (by kernel_rfl)
              refine if_wanted (j := 2) (s := 134) rfl rfl rfl e134 rfl ?_
              have e6 : A.tmps[6]?.getD undef = .pointer (some ⟨b6, 0, none⟩) := H.old 6 (by kernel_rfl)
              exact wp_load_nd _ rfl b6 N (ev_tmp e6) (HWz.out.n.below H.glob HWz.out.n.lt) (hK _ _ (Below.refl _ _) rfl H.glob)
            case o6 =>
              intro L vs A W H hf hd K hK
              have e134 := H.is 2 134 rfl rfl rfl (deps_of' hd 2 (by kernel_rfl)) (by kernel_rfl)
              refine if_wanted (j := 2) (s := 134) rfl rfl rfl e134 rfl ?_
              have e9 : A.tmps[9]?.getD undef = .pointer (some ⟨b9, 0, none⟩) := H.old 9 (by kernel_rfl)
              have hg := HWz.out.a.below H.glob HWz.out.a.lt
              have d0 : W.cell? ⟨b9, 0, none⟩ = some (.int .i64 kind2) := by rw [hg.cell]; rfl
              have d1 : W.cell? ⟨b9, 1, none⟩ = some (.int .u64 key2) := by rw [hg.cell]; rfl
              have d2 : W.cell? ⟨b9, 2, none⟩ = some (.int .u64 ptr2) := by rw [hg.cell]; rfl
              go_simp
              exact hK _ _ (Below.refl _ _) rfl (H.glob)
            case o7 =>
              intro L vs A W H hf hd K hK
              have e134 := H.is 2 134 rfl rfl rfl (deps_of' hd 2 (by kernel_rfl)) (by kernel_rfl)
              refine if_wanted (j := 2) (s := 134) rfl rfl rfl e134 rfl ?_
              have e137 := H.is 5 137 rfl rfl rfl (deps_of' hd 5 (by kernel_rfl)) (by kernel_rfl)
              have e138 := H.is 6 138 rfl rfl rfl (deps_of' hd 6 (by kernel_rfl)) (by kernel_rfl)
              go_wp2_with (fail)
              refine (HBh.out _).mono ?_
              rintro e W2 ⟨v, rfl, hv, hB⟩
              exact hK _ _ hB (RowV.mono hv H.glob.size) (H.glob.trans (hB.mono H.glob.size))
            case o8 =>
              intro L vs A W H hf hd K hK
              have e134 := H.is 2 134 rfl rfl rfl (deps_of' hd 2 (by kernel_rfl)) (by kernel_rfl)
              refine if_wanted (j := 2) (s := 134) rfl rfl rfl e134 rfl ?_
              obtain ⟨v136, e136, q136⟩ := H.val 4 136 rfl rfl rfl (deps_of' hd 4 (by kernel_rfl)) (by kernel_rfl)
              obtain ⟨v139, e139, q139⟩ := H.val 7 139 rfl rfl rfl (deps_of' hd 7 (by kernel_rfl)) (by kernel_rfl)
              go_wp2_with (fail)
              refine (HS4.out _ _ _ _ _ q136 q139).mono ?_
              rintro e W2 ⟨rfl, hB⟩
              exact hK _ _ hB rfl (H.glob.trans (hB.mono H.glob.size))
            case o9 =>
              intro L vs A W H hf hd K hK
              have e134 := H.is 2 134 rfl rfl rfl (deps_of' hd 2 (by kernel_rfl)) (by kernel_rfl)
              have e140 := H.is 8 140 rfl rfl rfl (deps_of' hd 8 (by kernel_rfl)) (by kernel_rfl)
              go_simp
              exact hK _ _ (Below.refl _ _) rfl (H.glob)
            case o10 =>
              intro L vs A W H hf hd K hK
              have e141 := H.is 9 141 rfl rfl rfl (deps_of' hd 9 (by kernel_rfl)) (by kernel_rfl)
              go_simp
              exact hK _ _ (Below.refl _ _) rfl (H.glob)
            case o11 =>
              intro L vs A W H hf hd K hK
              have e142 := H.is 10 142 rfl rfl rfl (deps_of' hd 10 (by kernel_rfl)) (by kernel_rfl)
              refine if_wanted (j := 10) (s := 142) rfl rfl rfl e142 rfl ?_
              go_wp2_with (fail)
              refine (known_v _).mono ?_
              rintro e W2 ⟨rfl, hB⟩
              exact hK _ _ hB rfl (H.glob.trans (hB.mono H.glob.size))
            case o12 =>
              intro L vs A W H hf hd K hK
              have e142 := H.is 10 142 rfl rfl rfl (deps_of' hd 10 (by kernel_rfl)) (by kernel_rfl)
              have e143 := H.is 11 143 rfl rfl rfl (deps_of' hd 11 (by kernel_rfl)) (by kernel_rfl)
              go_simp
              exact hK _ _ (Below.refl _ _) rfl (H.glob)
            case o13 =>
              intro L vs A W H hf hd K hK
              have e144 := H.is 12 144 rfl rfl rfl (deps_of' hd 12 (by kernel_rfl)) (by kernel_rfl)
              go_simp
              exact hK _ _ (Below.refl _ _) rfl (H.glob)
            case he =>
              intro vs W hlen hv
              match vs, hlen, hv with
              | [x0_, x1_, x2_, x3_, x4_, x5_, x6_, x7_, x8_, x9_, x10_, x11_, x12_, x13_], _, hv =>
              obtain rfl : (.int .i64 0) = x0_ := by obtain ⟨z, h1, h2⟩ := hv 0 _ rfl; cases h1; exact h2.symm
              obtain rfl : (.bool true) = x1_ := by obtain ⟨z, h1, h2⟩ := hv 1 _ rfl; cases h1; exact h2.symm
              obtain rfl : (.bool true) = x2_ := by obtain ⟨z, h1, h2⟩ := hv 2 _ rfl; cases h1; exact h2.symm
              obtain rfl : (.agg (ndCells m4)) = x3_ := by obtain ⟨z, h1, h2⟩ := hv 3 _ rfl; cases h1; exact h2.symm
              have hx4 : (RowV wz.heap.size l4) x4_ W := by obtain ⟨z, h1, h2⟩ := hv 4 _ rfl; cases h1; exact h2
              obtain rfl : (.agg (ndCells N)) = x5_ := by obtain ⟨z, h1, h2⟩ := hv 5 _ rfl; cases h1; exact h2.symm
              obtain rfl : (.agg #[.int .i64 kind2, .int .u64 key2, .int .u64 ptr2]) = x6_ := by obtain ⟨z, h1, h2⟩ := hv 6 _ rfl; cases h1; exact h2.symm
              have hx7 : (RowV wz.heap.size l4) x7_ W := by obtain ⟨z, h1, h2⟩ := hv 7 _ rfl; cases h1; exact h2
              obtain rfl : (.bool true) = x8_ := by obtain ⟨z, h1, h2⟩ := hv 8 _ rfl; cases h1; exact h2.symm
              obtain rfl : (.bool true) = x9_ := by obtain ⟨z, h1, h2⟩ := hv 9 _ rfl; cases h1; exact h2.symm
              obtain rfl : (.bool true) = x10_ := by obtain ⟨z, h1, h2⟩ := hv 10 _ rfl; cases h1; exact h2.symm
              obtain rfl : (.bool true) = x11_ := by obtain ⟨z, h1, h2⟩ := hv 11 _ rfl; cases h1; exact h2.symm
              obtain rfl : (.bool true) = x12_ := by obtain ⟨z, h1, h2⟩ := hv 12 _ rfl; cases h1; exact h2.symm
              obtain rfl : (.bool true) = x13_ := by obtain ⟨z, h1, h2⟩ := hv 13 _ rfl; cases h1; exact h2.symm
              intro L hall hG
              clear hv hlen
              have HB := Lib.hid (HWz.out.b.trans (hG.mono HWz.out.b.size))
              clear hG hall hx4 hx7
              simp only [fill, if_true]
              go_simp
              go_wp2_with (fail)
              go_ret
              exact ⟨rfl, HB.out⟩
            --END
          · have q2 : (C2 != 0) = true := bne_iff_ne.2 hz
            clear hz
            go_wp2_with (fail)
            refine (HKn.out _).mono ?_
            rintro e y3 ⟨rfl, hB⟩
            have HB3 := Lib.hid (HY2.out.b.trans (hB.mono HY2.out.b.size))
            clear hB
            go_wp2_with (fail)
            go_ret
            exact ⟨rfl, HB3.out⟩

theorem torn_law (base : Int) (n : Nd) (kind key ptr stop kind2 key2 ptr2 : Int) (h0 : 0 ≤ base) (w : World) :
    Calls Try.prog 8 #[.int .u64 base, .agg (ndCells n), .agg (askC kind key ptr), .int .i64 stop, .agg (askC kind2 key2 ptr2)] w fun e w' => e = .returned (.bool true) ∧ Below w.heap.size w w' := by
  by_cases hc : madeC base n (kdOf kind) key ptr = 0
  · exact torn_ok base n kind key ptr stop kind2 key2 ptr2 w hc
  · exact torn_err base n kind key ptr stop kind2 key2 ptr2 w hc
end Go.Proofs.Ytbpaefhihdhdeaa
