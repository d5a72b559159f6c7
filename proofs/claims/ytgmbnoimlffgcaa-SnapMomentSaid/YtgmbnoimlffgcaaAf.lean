/-
  fast.Apply: a contract.
-/
import Derived.Test.YtgmbnoimlffgcaaPaN
namespace Go.Proofs.Ytgmbnoimlffgcaa
open Go.RowKit

/-- a node behind stores -/
def applyL (base : Int) : Nd → List (Int × Int) → Option Nd
  | n, [] => some n
  | n, p :: r => match putA base n p.1 p.2 with | some m => applyL base m r | none => none
theorem applyL_append (base : Int) : ∀ (l r : List (Int × Int)) (n : Nd), applyL base n (l ++ r) = (match applyL base n l with | some m => applyL base m r | none => none)
  | [], r, n => rfl
  | p :: l, r, n => by
    simp only [List.cons_append, applyL]
    cases putA base n p.1 p.2 with
    | none => rfl
    | some m => exact applyL_append base l r m
theorem applyL_snoc (base : Int) (l : List (Int × Int)) (n m : Nd) (p : Int × Int) (h : applyL base n l = some m) : applyL base n (l ++ [p]) = putA base m p.1 p.2 := by
  rw [applyL_append, h]
  simp only [applyL]
  cases putA base m p.1 p.2 <;> rfl
theorem take_ent (l : List (Int × Int)) (k : Nat) (h : k < l.length) : l.take (k + 1) = l.take k ++ [(eK l k, eP l k)] := by
  have e : l[k] = (eK l k, eP l k) := by simp [eK, eP, List.getD, h]
  rw [List.take_succ_eq_append_getElem h, e]
theorem applyL_next (base : Int) (l : List (Int × Int)) (n m : Nd) (k : Nat) (h : k < l.length) (ha : applyL base n (l.take k) = some m) : applyL base n (l.take (k + 1)) = putA base m (eK l k) (eP l k) := by
  rw [take_ent l k h, applyL_snoc base _ n m _ ha]
theorem applyL_bad (base : Int) (l : List (Int × Int)) (n : Nd) (k : Nat) (h : applyL base n (l.take k) = none) : applyL base n l = none := by
  have := applyL_append base (l.take k) (l.drop k) n
  rw [List.take_append_drop, h] at this
  exact this
/-- what Apply answers -/
def applyV (base : Int) (n : Nd) (l : List (Int × Int)) : Nd × Int := match applyL base n l with | some m => (m, 0) | none => (nd0, 2)

/-- the worlds on its way: the node's block, the answer's -/
def ApW (w : World) (m : Nd) (w' : World) : Prop := Blk w' w.heap.size (ndCells m) 40 ∧ Blk w' (w.heap.size + 1) (ndCells nd0) 40 ∧ Below w.heap.size w w'
theorem ApW.keep {w w1 w2 : World} {m : Nd} (h : ApW w m w1) (hB : Below w1.heap.size w1 w2) : ApW w m w2 :=
  ⟨h.1.below hB h.1.lt, h.2.1.below hB h.2.1.lt, h.2.2.trans (hB.mono h.2.2.size)⟩
theorem ApW.start (w : World) (m : Nd) : ApW w m ((w.alloc (.cells (ndCells m) 40)).alloc (.cells (ndCells nd0) 40)) := by
  have h1 := Blk.new w (ndCells m) 40
  have h2 := Blk.new (w.alloc (.cells (ndCells m) 40)) (ndCells nd0) 40
  have s1 : (w.alloc (.cells (ndCells m) 40)).heap.size = w.heap.size + 1 := by simp
  rw [s1] at h2
  exact ⟨h1.alloc _, h2, ((Below.refl w.heap.size w).alloc (Nat.le_refl _) _).alloc (by omega) _⟩
theorem ApW.set {w w1 : World} {m m' : Nd} (h : ApW w m w1) (i : Nat) (x : Int) (he : (ndCells m).setIfInBounds i (.int .u64 x) = ndCells m') : ApW w m' (w1.setCell ⟨w.heap.size, i, none⟩ (.int .u64 x)) := by
  refine ⟨?_, h.2.1.other i _ (by omega), h.2.2.setCell (p := ⟨w.heap.size, i, none⟩) (Nat.le_refl _) _⟩
  have := h.1.set i (.int .u64 x)
  rwa [he] at this

/-- a store's place, as the program reckons it -/
inductive WhereD (base at_ : Int) : Prop
  | below (e : at_ < base) (o : ∀ n x, putA base n at_ x = none)
  | above (e : base ≤ at_) (d : 192 ≤ at_ - base) (o : ∀ n x, putA base n at_ x = none)
  | odd (e : base ≤ at_) (d : at_ - base < 192) (r : (at_ - base) % 8 ≠ 0) (o : ∀ n x, putA base n at_ x = none)
  | low (e : at_ = base + 8)
  | next (e : at_ = base + 16)
  | count (e : at_ = base + 24)
  | first (e : at_ = base + 32)
  | head (d : Int) (e : at_ - base = d) (h : d = 0 ∨ d = 40 ∨ d = 48 ∨ d = 56) (o : ∀ n x, putA base n at_ x = none)
  | key (i : Nat) (h : i < 8) (e : at_ = base + 64 + 16 * (i : Int))
  | ptr (i : Nat) (h : i < 8) (e : at_ = base + 72 + 16 * (i : Int))
theorem whereD (base at_ : Int) : WhereD base at_ := by
  by_cases h0 : at_ < base
  · exact .below h0 (fun n x => by unfold putA; rw [if_pos (by omega)])
  by_cases h1 : 192 ≤ at_ - base
  · exact .above (by omega) h1 (fun n x => by unfold putA; rw [if_pos (by omega)])
  by_cases h2 : (at_ - base) % 8 ≠ 0
  · exact .odd (by omega) (by omega) h2 (fun n x => by unfold putA; rw [if_pos (by omega)])
  rcases where_ base at_ with ⟨i, h, e⟩ | ⟨i, h, e⟩ | ⟨e⟩ | ⟨e⟩ | ⟨e⟩ | ⟨e⟩ | ⟨e, h, h8⟩
  · exact .key i h e
  · exact .ptr i h e
  · exact .low e
  · exact .next e
  · exact .count e
  · exact .first e
  · refine .head (at_ - base) rfl ?_ e
    have k0 := h 0 (by omega)
    have k1 := h 1 (by omega)
    have k2 := h 2 (by omega)
    have k3 := h 3 (by omega)
    have k4 := h 4 (by omega)
    have k5 := h 5 (by omega)
    have k6 := h 6 (by omega)
    have k7 := h 7 (by omega)
    omega


set_option maxRecDepth 100000 in
set_option maxHeartbeats 6400000 in
theorem apply_v (base : Int) (n : Nd) (l : List (Int × Int)) (a : Option Addr) (g c : Nat) (w : World) (hs : Stands base) (hn : l.length ≤ 1000000) (ha : 0 < l.length → a = some ⟨g, 0, none⟩) (hE : EntsAt w g 0 l) (hu : ∀ i, i < l.length → 0 ≤ eK l i ∧ eK l i < 18446744073709551616) :
    Calls Try.prog 46 #[.int .u64 base, .agg (ndCells n), .slice a l.length c] w fun e w' => MkP (applyV base n l).1 (applyV base n l).2 w e w' := by
  have HS := Lib.hid (ApW.start w n)
  have HZ0 := Lib.hid (show (w.alloc (.cells (ndCells n) 40)).heap.size = w.heap.size + 1 by simp)
  have HSt := Lib.hid (fun w => stands_yes base hs w)
  have HE := Lib.hid hE
  have HA := Lib.hid ha
  have HU := Lib.hid hu
  obtain ⟨s1, s2, -⟩ := hs
  clear hE ha hu
  go_enter Try.func46, Try.ntmps46
  go_wp2_with (first | (with_reducible refine wpList_alloc_ndAt (o := ⟨some 6, _, _, _, _, _⟩) rfl rfl (w.heap.size + 1) ?hz ?_; (case hz => exact HZ0.out)) | (go_at_call 64; refine (HSt.out _).mono ?_; rintro e w' ⟨rfl, rfl⟩))
  generalize (w.alloc (.cells (ndCells n) 40)).alloc (.cells (ndCells nd0) 40) = w0 at *
  go_loopw [18] (fun iv wr => ∃ (k : Nat) (m : Nd), k ≤ l.length ∧ iv = .int .i64 k ∧ Hid (applyL base n (l.take k) = some m) ∧ Hid (ApW w m wr)) (fun iv _ => l.length - (intOf iv).toNat)
  case atStart => exact ⟨0, n, by omega, rfl, Lib.hid rfl, HS⟩
  case round =>
    obtain ⟨k, m, hk, rfl, HAp, HR⟩ := hrel
    clear HS
    by_cases hlt : k < l.length
    · obtain rfl := HA.out (by omega)
      have hgw : g < w.heap.size := HE.out.lt (by omega)
      obtain ⟨c1, c2⟩ := HE.out.below HR.out.2.2 hgw k hlt
      obtain ⟨u1, u2⟩ := HU.out k hlt
      have HN := Lib.hid (applyL_next base l n m k hlt HAp.out)
      obtain ⟨at_, hat⟩ : ∃ z, eK l k = z := ⟨_, rfl⟩
      obtain ⟨x, hx⟩ : ∃ z, eP l k = z := ⟨_, rfl⟩
      rw [hat, Nat.zero_add] at c1
      rw [hx, Nat.zero_add] at c2
      rw [hat] at u1 u2
      rw [hat, hx] at HN
      have HWD := Lib.hid (whereD base at_)
      have b1 : (k : Int) < (l.length : Int) := by omega
      have HX := Lib.hid (Blk.new wr #[.int .u64 at_, .int .u64 x] 32)
      have HR1 := Lib.hid (HR.out.keep ((Below.refl wr.heap.size wr).alloc (Nat.le_refl _) (.cells #[.int .u64 at_, .int .u64 x] 32)))
      clear hat hx hgw
      rcases HWD.out with ⟨e, o⟩ | ⟨e, d, o⟩ | ⟨e, d, r, o⟩ | ⟨e⟩ | ⟨e⟩ | ⟨e⟩ | ⟨e⟩ | ⟨d, e, h, o⟩ | ⟨i, h, e⟩ | ⟨i, h, e⟩
      · have HF := Lib.hid (show applyV base n l = (nd0, 2) by unfold applyV; rw [applyL_bad base l n (k + 1) (HN.out.trans (o m x))])
        have HZ := Lib.hid HR1.out.2.1
        have HBf := Lib.hid HR1.out.2.2
        have hx0 := HX.out.cell 0
        rw [show (#[Value.int .u64 at_, .int .u64 x] : Array Value)[0]? = some (.int .u64 at_) from rfl] at hx0
        have e1 : decide (at_ < base) = true := decide_eq_true e
        clear e
        clear o
        go_wp2_with (refine wpList_store_ndc (o := ⟨none, .store 40 (.tmp 6) (.tmp 39), _, _, _, _⟩) rfl (.tmp 6) (.tmp 39) ?hoa (w.heap.size + 1) ?csa nd0 nd0 ?hxa ?hya HZ.out ?hma ?_; (case hoa => rfl); (case hxa => rfl); (case hya => rfl); (case hma => rfl))
        rw [HF.out]
        exact bodyPost_ret (results_nd rfl _ (w.heap.size + 1) nd0 rfl (HZ.out.row _)) rfl ⟨rfl, below_setRow HBf.out (by omega) _⟩
      · have HF := Lib.hid (show applyV base n l = (nd0, 2) by unfold applyV; rw [applyL_bad base l n (k + 1) (HN.out.trans (o m x))])
        have HZ := Lib.hid HR1.out.2.1
        have HBf := Lib.hid HR1.out.2.2
        have hx0 := HX.out.cell 0
        rw [show (#[Value.int .u64 at_, .int .u64 x] : Array Value)[0]? = some (.int .u64 at_) from rfl] at hx0
        obtain ⟨dd, hd⟩ : ∃ d, at_ - base = d := ⟨_, rfl⟩
        have e1 : decide (at_ < base) = false := decide_eq_false (by omega)
        have e2 : decide (192 ≤ dd) = true := decide_eq_true (by omega)
        clear d
        clear o
        go_wp2_with (refine wpList_store_ndc (o := ⟨none, .store 40 (.tmp 6) (.tmp 39), _, _, _, _⟩) rfl (.tmp 6) (.tmp 39) ?hob (w.heap.size + 1) ?csb nd0 nd0 ?hxb ?hyb HZ.out ?hmb ?_; (case hob => rfl); (case hxb => rfl); (case hyb => rfl); (case hmb => rfl))
        rw [HF.out]
        exact bodyPost_ret (results_nd rfl _ (w.heap.size + 1) nd0 rfl (HZ.out.row _)) rfl ⟨rfl, below_setRow HBf.out (by omega) _⟩
      · have HF := Lib.hid (show applyV base n l = (nd0, 2) by unfold applyV; rw [applyL_bad base l n (k + 1) (HN.out.trans (o m x))])
        have HZ := Lib.hid HR1.out.2.1
        have HBf := Lib.hid HR1.out.2.2
        have hx0 := HX.out.cell 0
        rw [show (#[Value.int .u64 at_, .int .u64 x] : Array Value)[0]? = some (.int .u64 at_) from rfl] at hx0
        obtain ⟨dd, hd⟩ : ∃ d, at_ - base = d := ⟨_, rfl⟩
        have e1 : decide (at_ < base) = false := decide_eq_false (by omega)
        have e2 : decide (192 ≤ dd) = false := decide_eq_false (by omega)
        have e3 : (dd % 8 != 0) = true := by rw [bne, beq_eq_false_iff_ne.2 (by omega)]; rfl
        have d0 : 0 ≤ dd := by omega
        clear d r
        clear o
        go_wp2_with (refine wpList_store_ndc (o := ⟨none, .store 40 (.tmp 6) (.tmp 39), _, _, _, _⟩) rfl (.tmp 6) (.tmp 39) ?hoc (w.heap.size + 1) ?csc nd0 nd0 ?hxc ?hyc HZ.out ?hmc ?_; (case hoc => rfl); (case hxc => rfl); (case hyc => rfl); (case hmc => rfl))
        rw [HF.out]
        exact bodyPost_ret (results_nd rfl _ (w.heap.size + 1) nd0 rfl (HZ.out.row _)) rfl ⟨rfl, below_setRow HBf.out (by omega) _⟩
      · have hd : at_ - base = 8 := by omega
        have e1 : decide (at_ < base) = false := decide_eq_false (by omega)
        have HM := Lib.hid (HN.out.trans (show putA base m at_ x = some { m with lo := x } by rw [e, putA_8]))
        have HW2 := Lib.hid (HR1.out.set 1 x (ndCells_set1 m x))
        have hc0 := HR1.out.1.cell 1
        rw [ndCells_1] at hc0
        have hf0 := HR1.out.1.frozen 1
        have hx1 := HX.out.cell 1
        have hx0 := HX.out.cell 0
        rw [show (#[Value.int .u64 at_, .int .u64 x] : Array Value)[1]? = some (.int .u64 x) from rfl] at hx1
        rw [show (#[Value.int .u64 at_, .int .u64 x] : Array Value)[0]? = some (.int .u64 at_) from rfl] at hx0
        clear e
        go_wp2_with (fail)
        go_roundw
        case rel => exact ⟨k + 1, { m with lo := x }, by omega, by go_num, HM, HW2⟩
        case measure => simp [intOf]; omega
      · have hd : at_ - base = 16 := by omega
        have e1 : decide (at_ < base) = false := decide_eq_false (by omega)
        have HM := Lib.hid (HN.out.trans (show putA base m at_ x = some { m with nx := x } by rw [e, putA_16]))
        have HW2 := Lib.hid (HR1.out.set 2 x (ndCells_set2 m x))
        have hc0 := HR1.out.1.cell 2
        rw [ndCells_2] at hc0
        have hf0 := HR1.out.1.frozen 2
        have hx1 := HX.out.cell 1
        have hx0 := HX.out.cell 0
        rw [show (#[Value.int .u64 at_, .int .u64 x] : Array Value)[1]? = some (.int .u64 x) from rfl] at hx1
        rw [show (#[Value.int .u64 at_, .int .u64 x] : Array Value)[0]? = some (.int .u64 at_) from rfl] at hx0
        clear e
        go_wp2_with (fail)
        go_roundw
        case rel => exact ⟨k + 1, { m with nx := x }, by omega, by go_num, HM, HW2⟩
        case measure => simp [intOf]; omega
      · have hd : at_ - base = 24 := by omega
        have e1 : decide (at_ < base) = false := decide_eq_false (by omega)
        have HM := Lib.hid (HN.out.trans (show putA base m at_ x = some { m with ct := x } by rw [e, putA_24]))
        have HW2 := Lib.hid (HR1.out.set 3 x (ndCells_set3 m x))
        have hc0 := HR1.out.1.cell 3
        rw [ndCells_3] at hc0
        have hf0 := HR1.out.1.frozen 3
        have hx1 := HX.out.cell 1
        have hx0 := HX.out.cell 0
        rw [show (#[Value.int .u64 at_, .int .u64 x] : Array Value)[1]? = some (.int .u64 x) from rfl] at hx1
        rw [show (#[Value.int .u64 at_, .int .u64 x] : Array Value)[0]? = some (.int .u64 at_) from rfl] at hx0
        clear e
        go_wp2_with (fail)
        go_roundw
        case rel => exact ⟨k + 1, { m with ct := x }, by omega, by go_num, HM, HW2⟩
        case measure => simp [intOf]; omega
      · have hd : at_ - base = 32 := by omega
        have e1 : decide (at_ < base) = false := decide_eq_false (by omega)
        have HM := Lib.hid (HN.out.trans (show putA base m at_ x = some { m with fi := x } by rw [e, putA_32]))
        have HW2 := Lib.hid (HR1.out.set 4 x (ndCells_set4 m x))
        have hc0 := HR1.out.1.cell 4
        rw [ndCells_4] at hc0
        have hf0 := HR1.out.1.frozen 4
        have hx1 := HX.out.cell 1
        have hx0 := HX.out.cell 0
        rw [show (#[Value.int .u64 at_, .int .u64 x] : Array Value)[1]? = some (.int .u64 x) from rfl] at hx1
        rw [show (#[Value.int .u64 at_, .int .u64 x] : Array Value)[0]? = some (.int .u64 at_) from rfl] at hx0
        clear e
        go_wp2_with (fail)
        go_roundw
        case rel => exact ⟨k + 1, { m with fi := x }, by omega, by go_num, HM, HW2⟩
        case measure => simp [intOf]; omega
      · have HF := Lib.hid (show applyV base n l = (nd0, 2) by unfold applyV; rw [applyL_bad base l n (k + 1) (HN.out.trans (o m x))])
        have HZ := Lib.hid HR1.out.2.1
        have HBf := Lib.hid HR1.out.2.2
        have hx0 := HX.out.cell 0
        rw [show (#[Value.int .u64 at_, .int .u64 x] : Array Value)[0]? = some (.int .u64 at_) from rfl] at hx0
        have e1 : decide (at_ < base) = false := decide_eq_false (by omega)
        have e2 : decide (192 ≤ d) = false := decide_eq_false (by omega)
        have e3 : (d % 8 != 0) = false := by rw [bne, beq_iff_eq.2 (by omega)]; rfl
        have e4 : (d == 8) = false := beq_eq_false_iff_ne.2 (by omega)
        have e5 : (d == 16) = false := beq_eq_false_iff_ne.2 (by omega)
        have e6 : (d == 24) = false := beq_eq_false_iff_ne.2 (by omega)
        have e7 : (d == 32) = false := beq_eq_false_iff_ne.2 (by omega)
        have e8 : decide (d < 64) = true := decide_eq_true (by omega)
        have d0 : 0 ≤ d := by omega
        have d1 : d < 192 := by omega
        clear h
        clear o
        go_wp2_with (refine wpList_store_ndc (o := ⟨none, .store 40 (.tmp 6) (.tmp 69), _, _, _, _⟩) rfl (.tmp 6) (.tmp 69) ?hoh (w.heap.size + 1) ?csh nd0 nd0 ?hxh ?hyh HZ.out ?hmh ?_; (case hoh => rfl); (case hxh => rfl); (case hyh => rfl); (case hmh => rfl))
        rw [HF.out]
        exact bodyPost_ret (results_nd rfl _ (w.heap.size + 1) nd0 rfl (HZ.out.row _)) rfl ⟨rfl, below_setRow HBf.out (by omega) _⟩
      · obtain ⟨d, hd⟩ : ∃ d, at_ - base = d := ⟨_, rfl⟩
        obtain ⟨q, hq⟩ : ∃ q, d - 64 = q := ⟨_, rfl⟩
        have e1 : decide (at_ < base) = false := decide_eq_false (by omega)
        have e2 : decide (192 ≤ d) = false := decide_eq_false (by omega)
        have e3 : (d % 8 != 0) = false := by rw [bne, beq_iff_eq.2 (by omega)]; rfl
        have e4 : (d == 8) = false := beq_eq_false_iff_ne.2 (by omega)
        have e5 : (d == 16) = false := beq_eq_false_iff_ne.2 (by omega)
        have e6 : (d == 24) = false := beq_eq_false_iff_ne.2 (by omega)
        have e7 : (d == 32) = false := beq_eq_false_iff_ne.2 (by omega)
        have e8 : decide (d < 64) = false := decide_eq_false (by omega)
        have e9 : (d % 16 == 0) = true := beq_iff_eq.2 (by omega)
        have e10 : q / 16 = (i : Int) := by omega
        have d0 : 0 ≤ d := by omega
        have d1 : d < 192 := by omega
        have q0 : 0 ≤ q := by omega
        have q1 : q < 128 := by omega
        have i1 : (i : Int) < 8 := by omega
        have HM := Lib.hid (HN.out.trans (show putA base m at_ x = some (m.withK i x) by rw [e, putA_key base m i x h]))
        have HW2 := Lib.hid (HR1.out.set (5 + i) x (ndCells_setk m i h x))
        have hc0 := HR1.out.1.cell (5 + i)
        rw [ndCells_k m i h] at hc0
        have hf0 := HR1.out.1.frozen (5 + i)
        have hx1 := HX.out.cell 1
        have hx0 := HX.out.cell 0
        rw [show (#[Value.int .u64 at_, .int .u64 x] : Array Value)[1]? = some (.int .u64 x) from rfl] at hx1
        rw [show (#[Value.int .u64 at_, .int .u64 x] : Array Value)[0]? = some (.int .u64 at_) from rfl] at hx0
        clear e
        go_wp2_with (fail)
        go_roundw
        case rel => exact ⟨k + 1, m.withK i x, by omega, by go_num, HM, HW2⟩
        case measure => simp [intOf]; omega
      · obtain ⟨d, hd⟩ : ∃ d, at_ - base = d := ⟨_, rfl⟩
        obtain ⟨q, hq⟩ : ∃ q, d - 64 = q := ⟨_, rfl⟩
        have e1 : decide (at_ < base) = false := decide_eq_false (by omega)
        have e2 : decide (192 ≤ d) = false := decide_eq_false (by omega)
        have e3 : (d % 8 != 0) = false := by rw [bne, beq_iff_eq.2 (by omega)]; rfl
        have e4 : (d == 8) = false := beq_eq_false_iff_ne.2 (by omega)
        have e5 : (d == 16) = false := beq_eq_false_iff_ne.2 (by omega)
        have e6 : (d == 24) = false := beq_eq_false_iff_ne.2 (by omega)
        have e7 : (d == 32) = false := beq_eq_false_iff_ne.2 (by omega)
        have e8 : decide (d < 64) = false := decide_eq_false (by omega)
        have e9 : (d % 16 == 0) = false := beq_eq_false_iff_ne.2 (by omega)
        have e10 : q / 16 = (i : Int) := by omega
        have d0 : 0 ≤ d := by omega
        have d1 : d < 192 := by omega
        have q0 : 0 ≤ q := by omega
        have q1 : q < 128 := by omega
        have i1 : (i : Int) < 8 := by omega
        have HM := Lib.hid (HN.out.trans (show putA base m at_ x = some (m.withP i x) by rw [e, putA_ptr base m i x h]))
        have HW2 := Lib.hid (HR1.out.set (13 + i) x (ndCells_setp m i h x))
        have hc0 := HR1.out.1.cell (13 + i)
        rw [ndCells_p m i h] at hc0
        have hf0 := HR1.out.1.frozen (13 + i)
        have hx1 := HX.out.cell 1
        have hx0 := HX.out.cell 0
        rw [show (#[Value.int .u64 at_, .int .u64 x] : Array Value)[1]? = some (.int .u64 x) from rfl] at hx1
        rw [show (#[Value.int .u64 at_, .int .u64 x] : Array Value)[0]? = some (.int .u64 at_) from rfl] at hx0
        clear e
        go_wp2_with (fail)
        go_roundw
        case rel => exact ⟨k + 1, m.withP i x, by omega, by go_num, HM, HW2⟩
        case measure => simp [intOf]; omega
    · have hkl : k = l.length := by omega
      have HF := Lib.hid (show applyV base n l = (m, 0) by
        have := HAp.out
        rw [hkl, List.take_length] at this
        unfold applyV; rw [this])
      have HL := Lib.hid (ndLoad HR.out.1)
      have HI := Lib.hid (info27 m)
      have HZ := Lib.hid HR.out.2.1
      have HBf := Lib.hid HR.out.2.2
      clear hkl
      go_wp2_with (first | (with_reducible refine wpList_load_part (o := ⟨some 88, _, _, _, _, _⟩) rfl 40 _ rfl w.heap.size 0 rfl (ndCells m) _ HL.out Try.underlying40 rfl HI.out ?_) | (refine wpList_store_ndc (o := ⟨none, .store 40 (.tmp 6) (.tmp 88), _, _, _, _⟩) rfl (.tmp 6) (.tmp 88) ?hok (w.heap.size + 1) ?csk m nd0 ?hxk ?hyk HZ.out ?hmk ?_; (case hok => rfl); (case hxk => rfl); (case hyk => rfl); (case hmk => rfl)))
      rw [HF.out]
      exact bodyPost_ret (results_nd rfl _ (w.heap.size + 1) m rfl (HZ.out.row _)) rfl ⟨rfl, below_setRow HBf.out (by omega) _⟩
end Go.Proofs.Ytgmbnoimlffgcaa
