/-
  leveelaw28.played: calls that the map answers one behind the other.
-/
import Derived.Test.YtdmcakoaakinnaaLra
import Derived.Test.YtdmcakoaakinnaaQg
import Derived.Test.YtdmcakoaakinnaaQt
import Derived.Deep.QuietTactic
import Derived.BigQuiet
import Derived.Deep.MidRow
namespace Go.Proofs.Ytdmcakoaakinnaa
open Go.RowKit
attribute [local go_sem] Oper.semAt_some
set_option linter.unusedVariables false
set_option linter.unusedSimpArgs false

/-- what was put, or taken out -/
structure Pt where
  mkPt ::
  key : Int
  val : ByteArray
  gone : Bool
def ptCells (p : Pt) : Array Value := #[.int .u64 p.key, .string p.val, .bool p.gone]
def ptZ : Pt := ⟨0, ⟨#[]⟩, false⟩
def tcells (l : List Pt) : List Value := l.flatMap fun d => (ptCells d).toList
theorem tcells_app (l : List Pt) (d : Pt) : tcells (l ++ [d]) = tcells l ++ (ptCells d).toList := by unfold tcells; rw [List.flatMap_append]; simp
theorem tcells_len (l : List Pt) : (tcells l).length = l.length * 3 := by
  induction l with
  | nil => rfl
  | cons d r ih => show ((ptCells d).toList ++ tcells r).length = _; rw [List.length_append, ih]; show 3 + _ = _; rw [List.length_cons]; omega
theorem tcells_get : ∀ (l : List Pt) (i j : Nat), i < l.length → j < 3 → (tcells l)[i * 3 + j]? = (ptCells (l.getD i ptZ))[j]?
  | d :: r, 0, j, _, hj => by
    show ((ptCells d).toList ++ tcells r)[0 * 3 + j]? = _
    rw [List.getElem?_append_left (by show 0 * 3 + j < 3; omega), Nat.zero_mul, Nat.zero_add]
    rw [Array.getElem?_toList]
    rfl
  | d :: r, i + 1, j, hi, hj => by
    show ((ptCells d).toList ++ tcells r)[(i + 1) * 3 + j]? = _
    rw [List.getElem?_append_right (by show 3 ≤ _; omega), show (i + 1) * 3 + j - (ptCells d).toList.length = i * 3 + j from by show (i + 1) * 3 + j - 3 = _; omega]
    rw [tcells_get r i j (by simpa using hi) hj]
    rfl
def PtsAt (w : World) (a : Option Addr) (l : List Pt) : Prop := RowAt w a l.length 3 (fun i => ptCells (l.getD i ptZ))
theorem own_pts {w : World} {B : Nat} {e : TypeId} {v : Value} {l : List Pt} (h : w.ownsRow B e 3 v l.length (tcells l)) : ∃ a c, v = .slice a l.length c ∧ PtsAt w a l := by
  obtain ⟨a, n, c, rfl⟩ := own_slice h
  obtain rfl : n = l.length := own_len h
  refine ⟨a, c, rfl, fun hp => ?_⟩
  obtain ⟨g, cap, hv, _, hlt, _, _, _, hc, _⟩ := own_shapeK h hp
  have he : a = some ⟨g, 0, none⟩ := by injection hv
  refine ⟨g, 0, he, hlt, fun i hi j hj => ?_⟩
  rw [show 0 + i * 3 + j = i * 3 + j by omega, hc (i * 3 + j) (by omega), tcells_get l i j hi hj]
theorem PtsAt.at_ {w : World} {a : Option Addr} {l : List Pt} (h : PtsAt w a l) {k : Nat} (hk : k < l.length) : ∃ g o, a = some ⟨g, o, none⟩ ∧ g < w.heap.size ∧ ∀ j v, (ptCells (l.getD k ptZ))[j]? = some v → w.cell? ⟨g, o + k * 3 + j, none⟩ = some v := by
  obtain ⟨g, o, e, hg, hc⟩ := h (by omega)
  refine ⟨g, o, e, hg, fun j v hj => ?_⟩
  have hjn : j < 3 := by have := (Array.getElem?_eq_some_iff.1 hj).1; exact this
  rw [hc k hk j hjn]; exact hj
theorem PtsAt.below {w w' : World} {a : Option Addr} {l : List Pt} (h : PtsAt w a l) (hB : Below w.heap.size w w') : PtsAt w' a l := RowAt.below h hB

/-! ### the plain functions -/
def findN (l : List Pt) (key : Int) : Nat → Int
  | 0 => -1
  | i + 1 => if ((l.getD i ptZ).key == key) = true then (if (l.getD i ptZ).gone = true then -1 else (i : Int)) else findN l key i
def findP (l : List Pt) (key : Int) : Int := findN l key l.length
/-- what a key has -/
def curP (l : List Pt) (key : Int) : ByteArray × Bool := if findP l key < 0 then (⟨#[]⟩, false) else ((l.getD (findP l key).toNat ptZ).val, true)
def mayC (c : Dn) : Int := if (decide (c.op < 1) || decide (4 < c.op)) = true then 2 else if (decide (c.op = 4) && (decide (c.hi < c.key) || decide (c.lim < 1) || decide (256 < c.lim))) = true then 2 else if (decide (c.op = 1) && decide (120 < (c.val.size : Int))) = true then 10 else 0
theorem findN_lt (l : List Pt) (key : Int) : ∀ n, findN l key n < n
  | 0 => by show (-1 : Int) < 0; omega
  | n + 1 => by
    have := findN_lt l key n
    unfold findN
    split
    · split <;> omega
    · omega
theorem findP_lt (l : List Pt) (key : Int) : findP l key < l.length := findN_lt l key l.length
theorem findN_key (l : List Pt) (key : Int) : ∀ n, 0 ≤ findN l key n → (l.getD (findN l key n).toNat ptZ).key = key ∧ (l.getD (findN l key n).toNat ptZ).gone = false
  | 0, h => by exact absurd h (by show ¬ (0 : Int) ≤ -1; omega)
  | n + 1, h => by
    unfold findN at h ⊢
    split
    · rename_i hk
      rw [if_pos hk] at h
      split
      · rename_i hg
        rw [if_pos hg] at h; omega
      · rename_i hg
        simp only [Int.toNat_natCast]
        exact ⟨beq_iff_eq.1 hk, by simpa using hg⟩
    · rename_i hk
      rw [if_neg hk] at h
      exact findN_key l key n h
/-- whether an entry is the last one of its key, and there -/
theorem findP_app (l : List Pt) (p : Pt) (key : Int) : findP (l ++ [p]) key = if p.key = key then (if p.gone = true then -1 else (l.length : Int)) else findP l key := by
  unfold findP
  rw [List.length_append, List.length_singleton]
  have e : ∀ n, n ≤ l.length → findN (l ++ [p]) key n = findN l key n := by
    intro n
    induction n with
    | zero => intro _; rfl
    | succ n ih =>
      intro hn
      have hg : (l ++ [p]).getD n ptZ = l.getD n ptZ := by rw [List.getD_eq_getElem?_getD, List.getD_eq_getElem?_getD, List.getElem?_append_left (by omega)]
      unfold findN
      rw [hg, ih (by omega)]
  show findN (l ++ [p]) key (l.length + 1) = _
  have hg : (l ++ [p]).getD l.length ptZ = p := by rw [List.getD_eq_getElem?_getD, List.getElem?_append_right (Nat.le_refl _)]; simp
  rw [show findN (l ++ [p]) key (l.length + 1) = if (((l ++ [p]).getD l.length ptZ).key == key) = true then (if ((l ++ [p]).getD l.length ptZ).gone = true then -1 else ((l.length : Nat) : Int)) else findN (l ++ [p]) key l.length from rfl]
  rw [hg, e l.length (Nat.le_refl _)]
  by_cases h : p.key = key
  · rw [if_pos h, if_pos (beq_iff_eq.2 h)]
  · rw [if_neg h, if_neg (fun e => h (beq_iff_eq.1 e))]
theorem curP_app (l : List Pt) (p : Pt) (key : Int) : curP (l ++ [p]) key = if p.key = key then (if p.gone = true then (⟨#[]⟩, false) else (p.val, true)) else curP l key := by
  unfold curP
  rw [findP_app]
  by_cases h : p.key = key
  · rw [if_pos h, if_pos h]
    cases p.gone with
    | true => simp
    | false =>
      have h1 : ¬ (l.length : Int) < 0 := by omega
      simp [h1]
  · rw [if_neg h, if_neg h]
    by_cases h2 : findP l key < 0
    · rw [if_pos h2, if_pos h2]
    · rw [if_neg h2, if_neg h2]
      have := findP_lt l key
      rw [List.getD_eq_getElem?_getD, List.getD_eq_getElem?_getD, List.getElem?_append_left (by omega)]
set_option maxRecDepth 100000 in
set_option maxHeartbeats 1600000 in
theorem find_v (l : List Pt) (key : Int) (a : Option Addr) (c bm : Nat) (w : World) (hn : l.length ≤ 1000000) (hb : Blk w bm #[.slice a l.length c] 37) (hP : PtsAt w a l) :
    Calls Try.prog 51 #[.pointer (some ⟨bm, 0, none⟩), .int .u64 key] w fun e w' => e = .returned (.int .i64 (findP l key)) ∧ w = w' := by
  have HP := Lib.hid hP
  have d0 : w.cell? ⟨bm, 0, none⟩ = some (.slice a l.length c) := by rw [hb.cell]; rfl
  have hn6 : (l.length : Int) ≤ 1000000 := by omega
  clear hP hb
  go_enter Try.func51, Try.ntmps51
  go_wp2_with (fail)
  go_loop [5] (fun iv => ∃ (j : Nat) (z : Int), j ≤ l.length ∧ iv = .int .i64 z ∧ z = (j : Int) - 1 ∧ Hid (findP l key = findN l key j)) (fun iv => (intOf iv + 1).toNat)
  case atStart => exact ⟨l.length, _, Nat.le_refl _, rfl, rfl, Lib.hid rfl⟩
  case round =>
    obtain ⟨j, z, hj, rfl, hz, hR⟩ := hrel
    cases j with
    | zero =>
      obtain rfl : z = -1 := by omega
      have HF := Lib.hid (show findP l key = -1 from hR.out)
      clear hz hR hj
      go_wp2_with (fail)
      go_ret
      exact ⟨by rw [HF.out]; rfl, rfl⟩
    | succ q =>
      obtain rfl : z = (q : Int) := by omega
      obtain ⟨g, o, rfl, hg, hc⟩ := HP.out.at_ (k := q) (by omega)
      obtain ⟨p, hp⟩ : ∃ p, l.getD q ptZ = p := ⟨_, rfl⟩
      rw [hp] at hc
      have x0 : w.cell? ⟨g, o + q * 3, none⟩ = some (.int .u64 p.key) := hc 0 _ rfl
      have x2 : w.cell? ⟨g, o + q * 3 + 2, none⟩ = some (.bool p.gone) := hc 2 _ rfl
      have HF := Lib.hid (show findP l key = if (p.key == key) = true then (if p.gone = true then -1 else (q : Int)) else findN l key q from by rw [hR.out]; show (if _ then _ else _) = _; rw [hp])
      have hqb : (q : Int) < (l.length : Int) := by omega
      have hq0 : (0 : Int) ≤ (q : Int) := by omega
      have HQ := Lib.hid hj
      clear hc hp hz hR hj
      cases h1 : (p.key == key) with
      | false =>
        have HF2 := Lib.hid (show findP l key = findN l key q from by rw [HF.out, h1]; rfl)
        go_wp2_with (fail)
        go_round
        case rel => exact ⟨q, _, by have := HQ.out; omega, rfl, rfl, HF2⟩
        case measure => first | (simp [intOf]; done) | (simp [intOf]; omega)
      | true =>
        cases h2 : p.gone with
        | true =>
          have HF2 := Lib.hid (show findP l key = -1 from by rw [HF.out, h1, h2]; rfl)
          rw [h2] at x2
          go_wp2_with (fail)
          go_ret
          exact ⟨by rw [HF2.out]; rfl, rfl⟩
        | false =>
          have HF2 := Lib.hid (show findP l key = (q : Int) from by rw [HF.out, h1, h2]; rfl)
          rw [h2] at x2
          go_wp2_with (fail)
          go_ret
          exact ⟨by rw [HF2.out]; rfl, rfl⟩
set_option maxRecDepth 100000 in
set_option maxHeartbeats 1600000 in
theorem mayC_v (c : Dn) (w : World) : Calls Try.prog 50 #[.agg (caCells c)] w fun e w' => e = .returned (.int .i64 (mayC c)) ∧ Below w.heap.size w w' := by
  have HB := Lib.hid ((Below.refl w.heap.size w).alloc (Nat.le_refl _) (.cells (caCells c) 41))
  unfold caCells at HB ⊢
  go_enter Try.func50, Try.ntmps50
  cases h1 : decide (c.op < 1) with
  | true =>
    have HF := Lib.hid (show mayC c = 2 from by unfold mayC; simp only [h1, Bool.true_or]; rfl)
    go_wp2_with (fail)
    go_ret
    exact ⟨by rw [HF.out]; rfl, HB.out⟩
  | false =>
  cases h2 : decide (4 < c.op) with
  | true =>
    have HF := Lib.hid (show mayC c = 2 from by unfold mayC; simp only [h1, h2, Bool.false_or]; rfl)
    go_wp2_with (fail)
    go_ret
    exact ⟨by rw [HF.out]; rfl, HB.out⟩
  | false =>
  by_cases h3 : c.op = 4
  · have e4 : (c.op == 4) = true := beq_iff_eq.2 h3
    have e1 : (c.op == 1) = false := by rw [h3]; rfl
    have d4 : decide (c.op = 4) = true := decide_eq_true h3
    have d1 : decide (c.op = 1) = false := by rw [h3]; rfl
    clear h3
    cases h5 : decide (c.hi < c.key) with
    | true =>
      have HF := Lib.hid (show mayC c = 2 from by unfold mayC; simp only [h1, h2, d4, h5, Bool.true_or, Bool.or_false, Bool.and_self]; rfl)
      go_wp2_with (fail)
      go_ret
      exact ⟨by rw [HF.out]; rfl, HB.out⟩
    | false =>
    cases h6 : decide (c.lim < 1) with
    | true =>
      have HF := Lib.hid (show mayC c = 2 from by unfold mayC; simp only [h1, h2, d4, h5, h6, Bool.true_or, Bool.or_false, Bool.or_true, Bool.and_self]; rfl)
      go_wp2_with (fail)
      go_ret
      exact ⟨by rw [HF.out]; rfl, HB.out⟩
    | false =>
    cases h7 : decide (256 < c.lim) with
    | true =>
      have HF := Lib.hid (show mayC c = 2 from by unfold mayC; simp only [h1, h2, d4, h5, h6, h7, Bool.true_or, Bool.or_false, Bool.or_true, Bool.and_self]; rfl)
      go_wp2_with (fail)
      go_ret
      exact ⟨by rw [HF.out]; rfl, HB.out⟩
    | false =>
      have HF := Lib.hid (show mayC c = 0 from by unfold mayC; simp only [h1, h2, d4, d1, h5, h6, h7, Bool.or_false, Bool.and_false, Bool.false_and]; rfl)
      go_wp2_with (fail)
      go_ret
      exact ⟨by rw [HF.out]; rfl, HB.out⟩
  · have e4 : (c.op == 4) = false := beq_eq_false_iff_ne.2 h3
    have d4 : decide (c.op = 4) = false := decide_eq_false h3
    clear h3
    by_cases h8 : c.op = 1
    · have e1 : (c.op == 1) = true := beq_iff_eq.2 h8
      have d1 : decide (c.op = 1) = true := decide_eq_true h8
      clear h8
      cases h9 : decide (120 < (c.val.size : Int)) with
      | true =>
        have HF := Lib.hid (show mayC c = 10 from by unfold mayC; simp only [h1, h2, d4, d1, h9, Bool.or_false, Bool.false_and, Bool.and_self]; rfl)
        go_wp2_with (fail)
        go_ret
        exact ⟨by rw [HF.out]; rfl, HB.out⟩
      | false =>
        have HF := Lib.hid (show mayC c = 0 from by unfold mayC; simp only [h1, h2, d4, d1, h9, Bool.or_false, Bool.false_and, Bool.and_false]; rfl)
        go_wp2_with (fail)
        go_ret
        exact ⟨by rw [HF.out]; rfl, HB.out⟩
    · have e1 : (c.op == 1) = false := beq_eq_false_iff_ne.2 h8
      have d1 : decide (c.op = 1) = false := decide_eq_false h8
      clear h8
      have HF := Lib.hid (show mayC c = 0 from by unfold mayC; simp only [h1, h2, d4, d1, Bool.or_false, Bool.false_and]; rfl)
      go_wp2_with (fail)
      go_ret
      exact ⟨by rw [HF.out]; rfl, HB.out⟩
end Go.Proofs.Ytdmcakoaakinnaa
namespace Go.Proofs.Ytdmcakoaakinnaa
open Go.RowKit
attribute [local go_sem] Oper.semAt_some
set_option linter.unusedVariables false
set_option linter.unusedSimpArgs false

theorem pcells_app (l : List Pr) (d : Pr) : pcells (l ++ [d]) = pcells l ++ (prCells d).toList := by unfold pcells; rw [List.flatMap_append]; simp
def RowPr (B : Nat) (l : List Pr) (v : Value) (W : World) : Prop := W.ownsRow B 59 2 v l.length (pcells l)
def OnePr (v0 : Value) (p : Pr) (v : Value) (W : World) : Prop := ∃ H, v = .slice (some ⟨H, 0, none⟩) 1 1 ∧ Blk W H (prCells p) 59 ∧ v0.ownBlock ≠ some H
theorem row_push_pr {W : World} {B : Nat} {l : List Pr} {p : Pr} {v : Value} (h : W.ownsRow B 59 2 v (l.length + 1) (pcells l ++ (prCells p).toList)) : RowPr B (l ++ [p]) v W := by
  unfold RowPr
  rw [List.length_append, pcells_app]; exact h
theorem reads_one_pr {w : World} {H : Nat} {p : Pr} (h : Blk w H (prCells p) 59) : Reads w w.heap.size 2 (some ⟨H, 0, none⟩) 1 (prCells p).toList :=
  ⟨rfl, fun _ => ⟨_, rfl, h.lt, fun j u hu => by
    have hadd : (⟨H, 0, none⟩ : Addr).add j = ⟨H, j, none⟩ := by unfold Addr.add; split <;> simp_all
    rw [hadd, h.cell, ← hu, Array.getElem?_toList]⟩⟩
theorem one_cells_pr (p : Pr) : ∀ u ∈ (prCells p).toList, u.oneCell' = true := by intro u hu; simp [prCells] at hu; rcases hu with rfl | rfl <;> rfl
theorem info_pr : ∃ i, Try.prog.info? 59 = some i ∧ i.zero = some (.agg (prCells prZ)) ∧ i.size = 2 ∧ i.bytes = 24 := by
  have h1 : ((Try.prog.info? 59).map (·.size)) = some 2 := by kernel_rfl
  have h2 : ((Try.prog.info? 59).map (·.bytes)) = some 24 := by kernel_rfl
  have h3 : ((Try.prog.info? 59).bind (·.zero)) = some (.agg (prCells prZ)) := by kernel_rfl
  cases h : Try.prog.info? 59 with
  | none => rw [h] at h1; cases h1
  | some i =>
    rw [h] at h1 h2 h3
    exact ⟨i, rfl, by simpa using h3, by simpa using h1, by simpa using h2⟩
def RowPt (B : Nat) (l : List Pt) (v : Value) (W : World) : Prop := W.ownsRow B 97 3 v l.length (tcells l)
def OnePt (v0 : Value) (p : Pt) (v : Value) (W : World) : Prop := ∃ H, v = .slice (some ⟨H, 0, none⟩) 1 1 ∧ Blk W H (ptCells p) 97 ∧ v0.ownBlock ≠ some H
theorem row_push_pt {W : World} {B : Nat} {l : List Pt} {p : Pt} {v : Value} (h : W.ownsRow B 97 3 v (l.length + 1) (tcells l ++ (ptCells p).toList)) : RowPt B (l ++ [p]) v W := by
  unfold RowPt
  rw [List.length_append, tcells_app]; exact h
theorem reads_one_pt {w : World} {H : Nat} {p : Pt} (h : Blk w H (ptCells p) 97) : Reads w w.heap.size 3 (some ⟨H, 0, none⟩) 1 (ptCells p).toList :=
  ⟨rfl, fun _ => ⟨_, rfl, h.lt, fun j u hu => by
    have hadd : (⟨H, 0, none⟩ : Addr).add j = ⟨H, j, none⟩ := by unfold Addr.add; split <;> simp_all
    rw [hadd, h.cell, ← hu, Array.getElem?_toList]⟩⟩
theorem one_cells_pt (p : Pt) : ∀ u ∈ (ptCells p).toList, u.oneCell' = true := by intro u hu; simp [ptCells] at hu; rcases hu with rfl | rfl | rfl <;> rfl
theorem info_pt : ∃ i, Try.prog.info? 97 = some i ∧ i.zero = some (.agg (ptCells ptZ)) ∧ i.size = 3 ∧ i.bytes = 32 := by
  have h1 : ((Try.prog.info? 97).map (·.size)) = some 3 := by kernel_rfl
  have h2 : ((Try.prog.info? 97).map (·.bytes)) = some 32 := by kernel_rfl
  have h3 : ((Try.prog.info? 97).bind (·.zero)) = some (.agg (ptCells ptZ)) := by kernel_rfl
  cases h : Try.prog.info? 97 with
  | none => rw [h] at h1; cases h1
  | some i =>
    rw [h] at h1 h2 h3
    exact ⟨i, rfl, by simpa using h3, by simpa using h1, by simpa using h2⟩
theorem own_prs {w : World} {B : Nat} {e : TypeId} {v : Value} {l : List Pr} (h : w.ownsRow B e 2 v l.length (pcells l)) : ∃ a c, v = .slice a l.length c ∧ PrsAt w a l := by
  obtain ⟨a, n, c, rfl⟩ := own_slice h
  obtain rfl : n = l.length := own_len h
  refine ⟨a, c, rfl, fun hp => ?_⟩
  obtain ⟨g, cap, hv, _, hlt, _, _, _, hc, _⟩ := own_shapeK h hp
  have he : a = some ⟨g, 0, none⟩ := by injection hv
  refine ⟨g, 0, he, hlt, fun i hi j hj => ?_⟩
  rw [show 0 + i * 2 + j = i * 2 + j by omega, hc (i * 2 + j) (by omega), pcells_get l i j hi hj]

/-! ### all pairs, plain -/
theorem riseP_app (l : List Pr) (p : Pr) (h : riseP l = true) (hp : ∀ q ∈ l, q.key < p.key) : riseP (l ++ [p]) = true := by
  rw [riseP_pair]
  intro i hi k hk
  rw [List.length_append, List.length_singleton] at hi
  have h1 : ∀ j, j < l.length → (l ++ [p]).getD j prZ = l.getD j prZ := fun j hj => by rw [List.getD_eq_getElem?_getD, List.getD_eq_getElem?_getD, List.getElem?_append_left hj]
  rw [h1 k (by omega)]
  by_cases e : i = l.length
  · subst e
    have h2 : (l ++ [p]).getD l.length prZ = p := by rw [List.getD_eq_getElem?_getD, List.getElem?_append_right (Nat.le_refl _)]; simp
    rw [h2]
    exact hp _ (getD_memL l k prZ hk)
  · rw [h1 i (by omega)]
    exact (riseP_pair l).1 h i (by omega) k hk
/-- a beginning of all pairs -/
structure PSt (L : List Pt) (ps : List Pr) : Prop where
  r : riseP ps = true
  v : ∀ p ∈ ps, curP L p.key = (p.val, true)
  a : ∀ k, 0 ≤ findP L k → (∃ p ∈ ps, k ≤ p.key) → ∃ p ∈ ps, p.key = k
  m : ∀ p ∈ ps, ∃ q ∈ L, p.key = q.key ∧ p.val = q.val
theorem PSt.len {L : List Pt} {ps : List Pr} (h : PSt L ps) : ps.length ≤ L.length := by
  have hnd : (ps.map (·.key)).Nodup := by
    rw [List.nodup_iff_pairwise_ne, List.pairwise_map]
    rw [List.pairwise_iff_getElem]
    intro i j hi hj hij
    have := (riseP_pair ps).1 h.r j hj i hij
    rw [getD_eq ps i prZ hi, getD_eq ps j prZ hj] at this
    omega
  have := hnd.length_le_of_subset (l₂ := L.map (·.key)) (fun k hk => by
    obtain ⟨p, hp, rfl⟩ := List.mem_map.1 hk
    obtain ⟨q, hq, e, _⟩ := h.m p hp
    rw [e]; exact List.mem_map.2 ⟨q, hq, rfl⟩)
  simpa using this
/-- an entry that comes behind these -/
def goodI (L : List Pt) (ps : List Pr) (i : Nat) : Prop := findP L (L.getD i ptZ).key = (i : Int) ∧ ∀ p ∈ ps, p.key < (L.getD i ptZ).key
theorem good_of {L : List Pt} {ps : List Pr} {k : Int} (h : 0 ≤ findP L k) (hk : ∀ p ∈ ps, p.key < k) : (findP L k).toNat < L.length ∧ goodI L ps (findP L k).toNat ∧ (L.getD (findP L k).toNat ptZ).key = k := by
  have h1 := findP_lt L k
  have h2 := (findN_key L k L.length h).1
  have h3 : (L.getD (findP L k).toNat ptZ).key = k := h2
  refine ⟨by omega, ⟨?_, fun p hp => by rw [h3]; exact hk p hp⟩, h3⟩
  rw [h3]; omega
theorem PSt.push {L : List Pt} {ps : List Pr} (h : PSt L ps) {t : Nat} (ht : t < L.length) (hg : goodI L ps t) (hl : ∀ j, j < L.length → goodI L ps j → (L.getD t ptZ).key ≤ (L.getD j ptZ).key) : PSt L (ps ++ [⟨(L.getD t ptZ).key, (L.getD t ptZ).val⟩]) := by
  refine ⟨riseP_app _ _ h.r hg.2, fun p hp => ?_, fun k hk hx => ?_, fun p hp => ?_⟩
  · rcases List.mem_append.1 hp with hp | hp
    · exact h.v p hp
    · obtain rfl := List.mem_singleton.1 hp
      unfold curP
      simp only
      rw [hg.1, if_neg (by omega)]
      simp
  · by_cases hall : ∃ p ∈ ps, k ≤ p.key
    · obtain ⟨p, hp, e⟩ := h.a k hk hall
      exact ⟨p, List.mem_append.2 (.inl hp), e⟩
    · have hlt : ∀ p ∈ ps, p.key < k := fun p hp => by
        by_cases e : p.key < k
        · exact e
        · exact absurd ⟨p, hp, by omega⟩ hall
      obtain ⟨h1, h2, h3⟩ := good_of hk hlt
      have h4 := hl _ h1 h2
      rw [h3] at h4
      obtain ⟨p, hp, hpk⟩ := hx
      rcases List.mem_append.1 hp with hp | hp
      · exact absurd ⟨p, hp, hpk⟩ hall
      · obtain rfl := List.mem_singleton.1 hp
        refine ⟨_, List.mem_append.2 (.inr (List.mem_singleton.2 rfl)), ?_⟩
        simp only at hpk ⊢
        omega
  · rcases List.mem_append.1 hp with hp | hp
    · exact h.m p hp
    · obtain rfl := List.mem_singleton.1 hp
      exact ⟨_, getD_memL L t ptZ ht, rfl, rfl⟩
structure PairsOk (L : List Pt) (ps : List Pr) : Prop where
  s : PSt L ps
  c : ∀ k, valueP ps k = curP L k
theorem PSt.done {L : List Pt} {ps : List Pr} (h : PSt L ps) (hn : ∀ j, j < L.length → ¬ goodI L ps j) : PairsOk L ps := by
  refine ⟨h, fun k => ?_⟩
  have hv : ∀ p ∈ ps, p.key = k → valueP ps k = (p.val, true) := fun p hp e => by
    unfold valueP
    cases hf : ps.find? (fun p => p.key == k) with
    | none =>
      have := List.find?_eq_none.1 hf p hp
      simp [e] at this
    | some q =>
      have hq := List.mem_of_find?_eq_some hf
      have hqk : q.key = k := by have := List.find?_some hf; simpa using this
      have h1 := h.v p hp
      have h2 := h.v q hq
      rw [e] at h1
      rw [hqk, h1] at h2
      simp only [Prod.mk.injEq, and_true] at h2 ⊢
      exact h2.symm
  by_cases hk : findP L k < 0
  · have hno : ∀ p ∈ ps, p.key ≠ k := fun p hp e => by
      have h1 := h.v p hp
      rw [e] at h1
      unfold curP at h1
      rw [if_pos hk] at h1
      simp at h1
    unfold curP valueP
    rw [if_pos hk]
    cases hf : ps.find? (fun p => p.key == k) with
    | none => rfl
    | some q =>
      have := List.find?_some hf
      exact absurd (by simpa using this) (hno q (List.mem_of_find?_eq_some hf))
  · by_cases hall : ∃ p ∈ ps, k ≤ p.key
    · obtain ⟨p, hp, e⟩ := h.a k (by omega) hall
      rw [hv p hp e, ← e, h.v p hp]
    · obtain ⟨h1, h2, _⟩ := good_of (ps := ps) (by omega : 0 ≤ findP L k) (fun p hp => by
        by_cases e : p.key < k
        · exact e
        · exact absurd ⟨p, hp, by omega⟩ hall)
      exact absurd h2 (hn _ h1)
/-- all of these lie ahead of a key, by the last one of them -/
theorem rise_last {ps : List Pr} (h : riseP ps = true) {q : Nat} (hq : ps.length = q + 1) (k : Int) : (∀ p ∈ ps, p.key < k) ↔ (ps.getD q prZ).key < k := by
  constructor
  · intro hp
    exact hp _ (getD_memL ps q prZ (by omega))
  · intro hl p hp
    obtain ⟨i, hi, rfl⟩ := List.mem_iff_getElem.1 hp
    by_cases e : i = q
    · subst e; rw [getD_eq ps i prZ hi] at hl; exact hl
    · have := (riseP_pair ps).1 h q (by omega) i (by omega)
      rw [getD_eq ps i prZ hi] at this
      omega
/-- the least one of those that come behind, among the first i -/
def LeastB (L : List Pt) (ps : List Pr) (i : Nat) (z : Int) : Prop :=
  (z = -1 ∧ ∀ j, j < i → ¬ goodI L ps j) ∨ ∃ t : Nat, z = (t : Int) ∧ t < i ∧ goodI L ps t ∧ ∀ j, j < i → goodI L ps j → (L.getD t ptZ).key ≤ (L.getD j ptZ).key
section
variable {L : List Pt} {ps : List Pr} {i : Nat} {z : Int}
theorem LeastB.skip (h : LeastB L ps i z) (hg : ¬ goodI L ps i) : LeastB L ps (i + 1) z := by
  rcases h with ⟨h1, h2⟩ | ⟨t, h1, h2, h3, h4⟩
  · exact .inl ⟨h1, fun j hj => by
      by_cases e : j = i
      · subst e; exact hg
      · exact h2 j (by omega)⟩
  · exact .inr ⟨t, h1, by omega, h3, fun j hj hgj => by
      by_cases e : j = i
      · subst e; exact absurd hgj hg
      · exact h4 j (by omega) hgj⟩
theorem LeastB.first (h : ∀ j, j < i → ¬ goodI L ps j) (hg : goodI L ps i) : LeastB L ps (i + 1) (i : Int) :=
  .inr ⟨i, rfl, by omega, hg, fun j hj hgj => by
    by_cases e : j = i
    · subst e; exact Int.le_refl _
    · exact absurd hgj (h j (by omega))⟩
theorem LeastB.less {t : Nat} (h4 : ∀ j, j < i → goodI L ps j → (L.getD t ptZ).key ≤ (L.getD j ptZ).key) (hg : goodI L ps i) (hl : (L.getD i ptZ).key < (L.getD t ptZ).key) : LeastB L ps (i + 1) (i : Int) :=
  .inr ⟨i, rfl, by omega, hg, fun j hj hgj => by
    by_cases e : j = i
    · subst e; exact Int.le_refl _
    · have := h4 j (by omega) hgj; omega⟩
theorem LeastB.stay {t : Nat} (ht : t < i) (h3 : goodI L ps t) (h4 : ∀ j, j < i → goodI L ps j → (L.getD t ptZ).key ≤ (L.getD j ptZ).key) (hl : ¬ (L.getD i ptZ).key < (L.getD t ptZ).key) : LeastB L ps (i + 1) (t : Int) :=
  .inr ⟨t, rfl, by omega, h3, fun j hj hgj => by
    by_cases e : j = i
    · subst e; omega
    · exact h4 j (by omega) hgj⟩
end
def PairsQ (L : List Pt) (w : World) (e : Ending) (w' : World) : Prop := ∃ v ps, e = .returned v ∧ RowPr w.heap.size ps v w' ∧ PairsOk L ps ∧ Below w.heap.size w w'
set_option maxRecDepth 100000 in
set_option maxHeartbeats 8000000 in
theorem pairs_v (L : List Pt) (a : Option Addr) (c bm : Nat) (w : World) (hn : L.length ≤ 100000) (hb : Blk w bm #[.slice a L.length c] 37) (hP : PtsAt w a L) :
    Calls Try.prog 31 #[.pointer (some ⟨bm, 0, none⟩)] w (PairsQ L w) := by
  obtain ⟨i0, hi0, hz0, hz1, hz2⟩ := info_pr
  have HFd := Lib.hid (fun k W (hW : Below w.heap.size w W) => find_v L k a c bm W (by omega) (hb.kept (Keeps.of_below' hW) (fun h => h)) (hP.below hW))
  have HP := Lib.hid hP
  obtain ⟨ln, hln⟩ : ∃ ln, L.length = ln := ⟨_, rfl⟩
  have HM0 := Lib.hid (show bm < w.heap.size ∧ w.cell? ⟨bm, 0, none⟩ = some (.slice a ln c) from ⟨hb.lt, by rw [hb.cell, hln]; rfl⟩)
  have HLN := Lib.hid hln
  have hln6 : (ln : Int) ≤ 100000 := by omega
  clear hb hP hln hn
  go_enter Try.func31, Try.ntmps31
  go_wp2_with (fail)
  go_loopw [3] (fun ov wr => ∃ ps, RowPr w.heap.size ps ov wr ∧ Hid (PSt L ps) ∧ Below w.heap.size w wr) (fun ov _ => ln + 1 - lenOf ov)
  case atStart => exact ⟨[], World.ownsRow_nil _ _ _ _, Lib.hid ⟨rfl, (fun p h => by cases h), (fun k _ h => by obtain ⟨p, h, _⟩ := h; cases h), (fun p h => by cases h)⟩, Below.refl _ _⟩
  case round =>
    obtain ⟨ps, hO, hS, hB⟩ := hrel
    have HB := Lib.hid hB
    have HO := Lib.hid hO
    obtain ⟨oa, oc, rfl, hps⟩ := own_prs hO
    obtain ⟨pn, hpn⟩ : ∃ pn, ps.length = pn := ⟨_, rfl⟩
    have HPs := Lib.hid hps
    have HPl := Lib.hid (show ps.length ≤ 100000 from by have := hS.out.len; have := HLN.out; omega)
    have HPn := Lib.hid (show pn ≤ ln from by have := hS.out.len; have := HLN.out; omega)
    have HPN := Lib.hid hpn
    rw [hpn]
    have d0 : wr.cell? ⟨bm, 0, none⟩ = some (.slice a ln c) := (hB.cell (p := ⟨bm, 0, none⟩) HM0.out.1).trans HM0.out.2
    have hpn6 : (pn : Int) ≤ 100000 := by have := HPn.out; omega
    clear hO hps hpn hB
    go_upto_region 3 with (fail)
    go_wp2_with (fail)
    go_loop [4, 5] (fun tv iv => ∃ (i : Nat) (z : Int), i ≤ ln ∧ iv = .int .i64 i ∧ tv = .int .i64 z ∧ Hid (LeastB L ps i z)) (fun _ iv => ln - (intOf iv).toNat)
    case atStart => exact ⟨0, _, Nat.zero_le _, rfl, rfl, Lib.hid (.inl ⟨rfl, fun j h => absurd h (by omega)⟩)⟩
    case round =>
      obtain ⟨i, z, hi, rfl, rfl, HLs⟩ := hrel
      by_cases hit : i < ln
      · obtain ⟨g, o, rfl, hg, hc⟩ := (HP.out.below HB.out).at_ (k := i) (by have := HLN.out; omega)
        obtain ⟨ki, hki⟩ : ∃ ki, (L.getD i ptZ).key = ki := ⟨_, rfl⟩
        have x0 : wr.cell? ⟨g, o + i * 3, none⟩ = some (.int .u64 ki) := by rw [← hki]; exact hc 0 _ rfl
        have HKi := Lib.hid hki
        obtain ⟨fi, hfi⟩ : ∃ fi, findP L ki = fi := ⟨_, rfl⟩
        have HFi := Lib.hid (HFd.out ki wr HB.out)
        rw [hfi] at HFi
        have HFe := Lib.hid hfi
        have HIt := Lib.hid hit
        have hib : (i : Int) < (ln : Int) := by omega
        clear hc hki hfi hit hi
        go_upto_region 7 with (fail)
        go_wp2_with (fail)
        refine HFi.out.mono ?_
        rintro e1 w1 ⟨rfl, rfl⟩
        cases h1 : (fi == (i : Int)) with
        | false =>
          have HGn := Lib.hid (show ¬ goodI L ps i from fun h => by
            have h2 := h.1
            rw [HKi.out, HFe.out] at h2
            rw [h2] at h1
            simp at h1)
          as_aux_lemma =>
            go_wp2_with (fail)
            go_round
            case rel => exact ⟨i + 1, _, HIt.out, by go_num, rfl, Lib.hid (LeastB.skip HLs.out HGn.out)⟩
            case measure => have := HIt.out; simp [intOf]; omega
        | true =>
          have HFt := Lib.hid (show findP L (L.getD i ptZ).key = (i : Int) from by rw [HKi.out, HFe.out]; exact beq_iff_eq.1 h1)
          by_cases hp0 : pn = 0
          · subst hp0
            have HGd := Lib.hid (show goodI L ps i from ⟨HFt.out, fun p hp => by
              have := HPN.out
              have h9 : ps = [] := List.eq_nil_of_length_eq_zero this
              rw [h9] at hp; cases hp⟩)
            rcases HLs.out with ⟨rfl, hno⟩ | ⟨t, rfl, ht, hgt, hlt4⟩
            · have HNo := Lib.hid hno
              clear hno
              as_aux_lemma =>
                go_wp2_with (fail)
                go_round
                case rel => exact ⟨i + 1, _, HIt.out, by go_num, rfl, Lib.hid (LeastB.first HNo.out HGd.out)⟩
                case measure => have := HIt.out; simp [intOf]; omega
            · obtain ⟨g3, o3, he3, _, hc3⟩ := (HP.out.below HB.out).at_ (k := t) (by have := HIt.out; have := HLN.out; omega)
              cases he3
              obtain ⟨kt, hkt⟩ : ∃ kt, (L.getD t ptZ).key = kt := ⟨_, rfl⟩
              have xt : wr.cell? ⟨g, o + t * 3, none⟩ = some (.int .u64 kt) := by rw [← hkt]; exact hc3 0 _ rfl
              have HT4 := Lib.hid (And.intro ht (And.intro hgt hlt4))
              have HKt := Lib.hid hkt
              have htn : (t : Int) < (ln : Int) := by have := HIt.out; omega
              have ht0 : decide ((t : Int) < 0) = false := decide_eq_false (by omega)
              have ht1 : (0 : Int) ≤ (t : Int) := by omega
              clear hc3 hkt ht hgt hlt4
              cases h3 : decide (ki < kt) with
              | true =>
                have HL3 := Lib.hid (show (L.getD i ptZ).key < (L.getD t ptZ).key from by rw [HKi.out, HKt.out]; exact of_decide_eq_true h3)
                as_aux_lemma =>
                  go_wp2_with (fail)
                  go_round
                  case rel => exact ⟨i + 1, _, HIt.out, by go_num, rfl, Lib.hid (LeastB.less HT4.out.2.2 HGd.out HL3.out)⟩
                  case measure => have := HIt.out; simp [intOf]; omega
              | false =>
                have HL3 := Lib.hid (show ¬ (L.getD i ptZ).key < (L.getD t ptZ).key from by rw [HKi.out, HKt.out]; exact of_decide_eq_false h3)
                as_aux_lemma =>
                  go_wp2_with (fail)
                  go_round
                  case rel => exact ⟨i + 1, _, HIt.out, by go_num, rfl, Lib.hid (LeastB.stay HT4.out.1 HT4.out.2.1 HT4.out.2.2 (by have h9 := HL3.out; omega))⟩
                  case measure => have := HIt.out; simp [intOf]; omega
          · obtain ⟨q, hq⟩ : ∃ q, pn = q + 1 := ⟨pn - 1, by omega⟩
            obtain ⟨g2, o2, rfl, hg2, hc2⟩ := HPs.out (by have := HPN.out; omega)
            obtain ⟨kq, hkq⟩ : ∃ kq, (ps.getD q prZ).key = kq := ⟨_, rfl⟩
            have xq : wr.cell? ⟨g2, o2 + q * 2, none⟩ = some (.int .u64 kq) := by rw [← hkq]; exact hc2 q (by have := HPN.out; omega) 0 (by decide)
            have HRl := Lib.hid (show (∀ p ∈ ps, p.key < ki) ↔ kq < ki from by rw [← hkq]; exact rise_last hS.out.r (by have := HPN.out; omega) ki)
            have hq0 : ((pn : Int) == 0) = false := by rw [beq_eq_false_iff_ne]; omega
            have hq1 : (pn : Int) - 1 = (q : Int) := by omega
            have hq2 : (q : Int) < (pn : Int) := by omega
            have HQ := Lib.hid hq
            clear hc2 hkq hq hp0
            cases h2 : decide (kq < ki) with
            | false =>
              have HGn := Lib.hid (show ¬ goodI L ps i from fun h => by
                have h9 := h.2
                rw [HKi.out] at h9
                exact of_decide_eq_false h2 (HRl.out.1 h9))
              as_aux_lemma =>
                go_wp2_with (fail)
                go_round
                case rel => exact ⟨i + 1, _, HIt.out, by go_num, rfl, Lib.hid (LeastB.skip HLs.out HGn.out)⟩
                case measure => have := HIt.out; simp [intOf]; omega
            | true =>
              have HGd := Lib.hid (show goodI L ps i from ⟨HFt.out, by rw [HKi.out]; exact HRl.out.2 (of_decide_eq_true h2)⟩)
              rcases HLs.out with ⟨rfl, hno⟩ | ⟨t, rfl, ht, hgt, hlt4⟩
              · have HNo := Lib.hid hno
                clear hno
                as_aux_lemma =>
                  go_wp2_with (fail)
                  go_round
                  case rel => exact ⟨i + 1, _, HIt.out, by go_num, rfl, Lib.hid (LeastB.first HNo.out HGd.out)⟩
                  case measure => have := HIt.out; simp [intOf]; omega
              · obtain ⟨g3, o3, he3, _, hc3⟩ := (HP.out.below HB.out).at_ (k := t) (by have := HIt.out; have := HLN.out; omega)
                cases he3
                obtain ⟨kt, hkt⟩ : ∃ kt, (L.getD t ptZ).key = kt := ⟨_, rfl⟩
                have xt : wr.cell? ⟨g, o + t * 3, none⟩ = some (.int .u64 kt) := by rw [← hkt]; exact hc3 0 _ rfl
                have HT4 := Lib.hid (And.intro ht (And.intro hgt hlt4))
                have HKt := Lib.hid hkt
                have htn : (t : Int) < (ln : Int) := by have := HIt.out; omega
                have ht0 : decide ((t : Int) < 0) = false := decide_eq_false (by omega)
                have ht1 : (0 : Int) ≤ (t : Int) := by omega
                clear hc3 hkt ht hgt hlt4
                cases h3 : decide (ki < kt) with
                | true =>
                  have HL3 := Lib.hid (show (L.getD i ptZ).key < (L.getD t ptZ).key from by rw [HKi.out, HKt.out]; exact of_decide_eq_true h3)
                  as_aux_lemma =>
                    go_wp2_with (fail)
                    go_round
                    case rel => exact ⟨i + 1, _, HIt.out, by go_num, rfl, Lib.hid (LeastB.less HT4.out.2.2 HGd.out HL3.out)⟩
                    case measure => have := HIt.out; simp [intOf]; omega
                | false =>
                  have HL3 := Lib.hid (show ¬ (L.getD i ptZ).key < (L.getD t ptZ).key from by rw [HKi.out, HKt.out]; exact of_decide_eq_false h3)
                  as_aux_lemma =>
                    go_wp2_with (fail)
                    go_round
                    case rel => exact ⟨i + 1, _, HIt.out, by go_num, rfl, Lib.hid (LeastB.stay HT4.out.1 HT4.out.2.1 HT4.out.2.2 (by have h9 := HL3.out; omega))⟩
                    case measure => have := HIt.out; simp [intOf]; omega
      · obtain rfl : ln = i := by omega
        have hib : ¬ (ln : Int) < (ln : Int) := by omega
        clear hit hi
        rcases HLs.out with ⟨rfl, hno⟩ | ⟨t, rfl, ht, hgt, hlt4⟩
        · have HOk := Lib.hid (hS.out.done (fun j hj => hno j (by have := HLN.out; omega)))
          rw [← HPN.out]
          clear hno
          go_wp2_with (fail)
          go_ret
          exact ⟨_, ps, rfl, HO.out, HOk.out, HB.out⟩
        · obtain ⟨g, o, rfl, hg, hc⟩ := HP.out.at_ (k := t) (by have := HLN.out; omega)
          obtain ⟨p, hp⟩ : ∃ p, L.getD t ptZ = p := ⟨_, rfl⟩
          rw [hp] at hc
          have HPush := Lib.hid (hS.out.push (t := t) (by have := HLN.out; omega) hgt (fun j hj hgj => hlt4 j (by have := HLN.out; omega) hgj))
          rw [hp] at HPush
          have HC := Lib.hid (show w.cell? ⟨g, o + t * 3, none⟩ = some (.int .u64 p.key) ∧ w.cell? ⟨g, o + t * 3 + 1, none⟩ = some (.string p.val) from ⟨hc 0 _ rfl, hc 1 _ rfl⟩)
          have HG := Lib.hid hg
          have HM := HM0
          have HTl := Lib.hid (show (t : Int) < (ln : Int) from by omega)
          have ht0 : decide ((t : Int) < 0) = false := decide_eq_false (by omega)
          have ht1 : (0 : Int) ≤ (t : Int) := by omega
          rw [← HPN.out]
          obtain ⟨v0, hv0⟩ : ∃ v0, Value.slice oa ps.length oc = v0 := ⟨_, rfl⟩
          rw [hv0] at HO ⊢
          have HV0 := Lib.hid hv0
          clear hc hp hg hgt hlt4 ht hv0
          go_wp2_with (fail)
          clear d0
          --GEN r_pairs11
          refine wp_region_vals [Is v0, Is (.pointer (some ⟨bm, 0, none⟩)), Is (.pointer (some ⟨bm, 0, none⟩)), Is (.pointer (some ⟨bm, 0, none⟩)), Is (.slice (some ⟨g, o, none⟩) ln c), Is (.int .i64 (t : Int)), Is (.pointer (some ⟨g, o + t * 3, none⟩)), Is (.pointer (some ⟨g, o + t * 3, none⟩)), Is (.int .u64 p.key), Is (.pointer (some ⟨bm, 0, none⟩)), Is (.pointer (some ⟨bm, 0, none⟩)), Is (.pointer (some ⟨bm, 0, none⟩)), Is (.slice (some ⟨g, o, none⟩) ln c), Is (.int .i64 (t : Int)), Is (.pointer (some ⟨g, o + t * 3, none⟩)), Is (.pointer (some ⟨g, o + t * 3 + 1, none⟩)), Is (.string p.val), Is (.agg #[.int .u64 p.key, .string p.val]), OnePr v0 ⟨p.key, p.val⟩, RowPr w.heap.size (ps ++ [⟨p.key, p.val⟩]), RowPr w.heap.size (ps ++ [⟨p.key, p.val⟩])]
            (fun i => Keeps (fun g => i = 19 ∧ v0.ownBlock = some g)) (fun L W => (L 19 = true ∨ RowPr w.heap.size ps v0 W) ∧ Below w.heap.size w W) (by kernel_rfl) (by kernel_rfl) (by kernel_rfl) ?hst ?h0 ⟨?o0, ?o1, ?o2, ?o3, ?o4, ?o5, ?o6, ?o7, ?o8, ?o9, ?o10, ?o11, ?o12, ?o13, ?o14, ?o15, ?o16, ?o17, ?o18, ?o19, ?o20, trivial⟩ ?he
          case hst =>
            exact ⟨(fun _ _ _ _ _ _ h _ => h), (fun _ _ _ _ _ _ h _ => h), (fun _ _ _ _ _ _ h _ => h), (fun _ _ _ _ _ _ h _ => h), (fun _ _ _ _ _ _ h _ => h), (fun _ _ _ _ _ _ h _ => h), (fun _ _ _ _ _ _ h _ => h), (fun _ _ _ _ _ _ h _ => h), (fun _ _ _ _ _ _ h _ => h), (fun _ _ _ _ _ _ h _ => h), (fun _ _ _ _ _ _ h _ => h), (fun _ _ _ _ _ _ h _ => h), (fun _ _ _ _ _ _ h _ => h), (fun _ _ _ _ _ _ h _ => h), (fun _ _ _ _ _ _ h _ => h), (fun _ _ _ _ _ _ h _ => h), (fun _ _ _ _ _ _ h _ => h), (fun _ _ _ _ _ _ h _ => h), (fun _ _ _ _ _ _ h hR => by obtain ⟨H, e, hb, hn⟩ := h; exact ⟨H, e, hb.kept hR (fun hx => hn hx.2), hn⟩), (fun _ hij _ _ _ _ h hR => own_keeps h hR (fun _ _ hx => hij hx.1)), (fun i hij hw _ _ _ h hR => (if h20 : i = 19 then by (subst h20; have h3 : false = true := hw.symm.trans (by kernel_rfl); cases h3) else own_keeps h hR (fun _ _ hx => h20 hx.1))), trivial⟩
          case h0 =>
            exact ⟨.inr (own_keeps HO.out ((Keeps.refl (fun _ => False) _).drew) (fun _ _ h => h)), HB.out.drew⟩
          case o0 =>
            intro L vs A W H hf hd K hK
            have e3 : A.tmps[3]?.getD undef = v0 := H.later 3 0 hf (by kernel_rfl)
            go_simp
            exact hK _ _ (Keeps.refl _ _) rfl (H.glob)
          case o1 =>
            intro L vs A W H hf hd K hK
            have e0 : A.tmps[0]?.getD undef = .pointer (some ⟨bm, 0, none⟩) := H.old 0 (by kernel_rfl)
            go_simp
            exact hK _ _ (Keeps.refl _ _) rfl (H.glob)
          case o2 =>
            intro L vs A W H hf hd K hK
            have e66 := H.is 1 66 rfl rfl rfl (deps_of' hd 1 (by kernel_rfl)) (by kernel_rfl)
            go_simp
            exact hK _ _ (Keeps.refl _ _) rfl (H.glob)
          case o3 =>
            intro L vs A W H hf hd K hK
            have e67 := H.is 2 67 rfl rfl rfl (deps_of' hd 2 (by kernel_rfl)) (by kernel_rfl)
            go_simp
            exact hK _ _ (Keeps.refl _ _) rfl (H.glob)
          case o4 =>
            intro L vs A W H hf hd K hK
            have e68 := H.is 3 68 rfl rfl rfl (deps_of' hd 3 (by kernel_rfl)) (by kernel_rfl)
            have d := (H.glob.2.cell (p := ⟨bm, 0, none⟩) HM.out.1).trans HM.out.2
            go_simp
            exact hK _ _ (Keeps.refl _ _) rfl (H.glob)
          case o5 =>
            intro L vs A W H hf hd K hK
            have e4 : A.tmps[4]?.getD undef = .int .i64 (t : Int) := H.old 4 (by kernel_rfl)
            go_simp
            exact hK _ _ (Keeps.refl _ _) rfl (H.glob)
          case o6 =>
            intro L vs A W H hf hd K hK
            have e69 := H.is 4 69 rfl rfl rfl (deps_of' hd 4 (by kernel_rfl)) (by kernel_rfl)
            have e70 := H.is 5 70 rfl rfl rfl (deps_of' hd 5 (by kernel_rfl)) (by kernel_rfl)
            have hkl := HTl.out
            go_simp
            exact hK _ _ (Keeps.refl _ _) rfl (H.glob)
          case o7 =>
            intro L vs A W H hf hd K hK
            have e71 := H.is 6 71 rfl rfl rfl (deps_of' hd 6 (by kernel_rfl)) (by kernel_rfl)
            go_simp
            exact hK _ _ (Keeps.refl _ _) rfl (H.glob)
          case o8 =>
            intro L vs A W H hf hd K hK
            have e72 := H.is 7 72 rfl rfl rfl (deps_of' hd 7 (by kernel_rfl)) (by kernel_rfl)
            have d := (H.glob.2.cell (p := ⟨g, o + t * 3, none⟩) HG.out).trans HC.out.1
            go_simp
            exact hK _ _ (Keeps.refl _ _) rfl (H.glob)
          case o9 =>
            intro L vs A W H hf hd K hK
            have e0 : A.tmps[0]?.getD undef = .pointer (some ⟨bm, 0, none⟩) := H.old 0 (by kernel_rfl)
            go_simp
            exact hK _ _ (Keeps.refl _ _) rfl (H.glob)
          case o10 =>
            intro L vs A W H hf hd K hK
            have e74 := H.is 9 74 rfl rfl rfl (deps_of' hd 9 (by kernel_rfl)) (by kernel_rfl)
            go_simp
            exact hK _ _ (Keeps.refl _ _) rfl (H.glob)
          case o11 =>
            intro L vs A W H hf hd K hK
            have e75 := H.is 10 75 rfl rfl rfl (deps_of' hd 10 (by kernel_rfl)) (by kernel_rfl)
            go_simp
            exact hK _ _ (Keeps.refl _ _) rfl (H.glob)
          case o12 =>
            intro L vs A W H hf hd K hK
            have e76 := H.is 11 76 rfl rfl rfl (deps_of' hd 11 (by kernel_rfl)) (by kernel_rfl)
            have d := (H.glob.2.cell (p := ⟨bm, 0, none⟩) HM.out.1).trans HM.out.2
            go_simp
            exact hK _ _ (Keeps.refl _ _) rfl (H.glob)
          case o13 =>
            intro L vs A W H hf hd K hK
            have e4 : A.tmps[4]?.getD undef = .int .i64 (t : Int) := H.old 4 (by kernel_rfl)
            go_simp
            exact hK _ _ (Keeps.refl _ _) rfl (H.glob)
          case o14 =>
            intro L vs A W H hf hd K hK
            have e77 := H.is 12 77 rfl rfl rfl (deps_of' hd 12 (by kernel_rfl)) (by kernel_rfl)
            have e78 := H.is 13 78 rfl rfl rfl (deps_of' hd 13 (by kernel_rfl)) (by kernel_rfl)
            have hkl := HTl.out
            go_simp
            exact hK _ _ (Keeps.refl _ _) rfl (H.glob)
          case o15 =>
            intro L vs A W H hf hd K hK
            have e79 := H.is 14 79 rfl rfl rfl (deps_of' hd 14 (by kernel_rfl)) (by kernel_rfl)
            go_simp
            exact hK _ _ (Keeps.refl _ _) rfl (H.glob)
          case o16 =>
            intro L vs A W H hf hd K hK
            have e80 := H.is 15 80 rfl rfl rfl (deps_of' hd 15 (by kernel_rfl)) (by kernel_rfl)
            have d := (H.glob.2.cell (p := ⟨g, o + t * 3 + 1, none⟩) HG.out).trans HC.out.2
            go_simp
            exact hK _ _ (Keeps.refl _ _) rfl (H.glob)
          case o17 =>
            intro L vs A W H hf hd K hK
            have e73 := H.is 8 73 rfl rfl rfl (deps_of' hd 8 (by kernel_rfl)) (by kernel_rfl)
            have e81 := H.is 16 81 rfl rfl rfl (deps_of' hd 16 (by kernel_rfl)) (by kernel_rfl)
            go_simp
            exact hK _ _ (Keeps.refl _ _) rfl (H.glob)
          case o18 =>
            intro L vs A W H hf hd K hK
            have e82 := H.is 17 82 rfl rfl rfl (deps_of' hd 17 (by kernel_rfl)) (by kernel_rfl)
            have n19 := H.notYet 19 18 rfl hf (by kernel_rfl)
            have hrow : RowPr w.heap.size ps v0 W := by rcases H.glob.1 with h | h; (rw [n19] at h; cases h); exact h
            have hnb : v0.ownBlock ≠ some W.heap.size := fun e => by have := own_ltS hrow e; omega
            have hgb := H.glob.2
            go_simp
            exact hK _ _ ((Keeps.refl _ _).alloc _) ⟨_, rfl, Blk.new _ _ _, hnb⟩ ⟨.inr (own_keeps hrow ((Keeps.refl (fun _ => False) _).alloc _) (fun _ _ h => h)), hgb.alloc hgb.size _⟩
          case o19 =>
            intro L vs A W H hf hd K hK
            have e65 := H.is 0 65 rfl rfl rfl (deps_of' hd 0 (by kernel_rfl)) (by kernel_rfl)
            obtain ⟨v83, e83, q83⟩ := H.val 18 83 rfl rfl rfl (deps_of' hd 18 (by kernel_rfl)) (by kernel_rfl)
            have hf19 : L 19 = false := hf
            have hrow : RowPr w.heap.size ps v0 W := by rcases H.glob.1 with h | h; (rw [hf19] at h; cases h); exact h
            have hgb := H.glob.2
            obtain ⟨H2, rfl, hb2, hn2⟩ := q83
            refine step_append_any (w := W) rfl (.tmp 65) (.tmp 83) 22 rfl w.heap.size 59 i0 _ 2 24 Try.underlying22 hi0 hz0 hz1 hz2 rfl (by omega) v0 ps.length (pcells ps) (ev_tmp e65) hrow W.heap.size (some ⟨H2, 0, none⟩) 1 1 (prCells ⟨p.key, p.val⟩).toList (ev_tmp e83) (reads_one_pr hb2) (one_cells_pr _) (by unfold maxLen; have := HPl.out; omega) (by have := HPl.out; omega) hgb.size ?_
            intro v' w' hown' hg' _
            exact hK _ _ ((Keeps.refl _ _).grown hg' (fun _ e => .inl ⟨rfl, e⟩)) (row_push_pr hown') ⟨.inl rfl, hgb.grown hg' hgb.size (fun r e => own_base hrow _ e)⟩
          case o20 =>
            intro L vs A W H hf hd K hK
            obtain ⟨v84, e84, q84⟩ := H.val 19 84 rfl rfl rfl (deps_of' hd 19 (by kernel_rfl)) (by kernel_rfl)
            rw [if_pos (show Region.wanted _ _ = true from rfl)]
            go_simp
            exact hK _ _ (Keeps.refl _ _) q84 H.glob
          case he =>
            intro vs W hlen hv
            match vs, hlen, hv with
            | [x0_, x1_, x2_, x3_, x4_, x5_, x6_, x7_, x8_, x9_, x10_, x11_, x12_, x13_, x14_, x15_, x16_, x17_, x18_, x19_, x20_], _, hv =>
            obtain rfl : v0 = x0_ := by obtain ⟨z, h1, h2⟩ := hv 0 _ rfl; cases h1; exact h2.symm
            obtain rfl : (.pointer (some ⟨bm, 0, none⟩)) = x1_ := by obtain ⟨z, h1, h2⟩ := hv 1 _ rfl; cases h1; exact h2.symm
            obtain rfl : (.pointer (some ⟨bm, 0, none⟩)) = x2_ := by obtain ⟨z, h1, h2⟩ := hv 2 _ rfl; cases h1; exact h2.symm
            obtain rfl : (.pointer (some ⟨bm, 0, none⟩)) = x3_ := by obtain ⟨z, h1, h2⟩ := hv 3 _ rfl; cases h1; exact h2.symm
            obtain rfl : (.slice (some ⟨g, o, none⟩) ln c) = x4_ := by obtain ⟨z, h1, h2⟩ := hv 4 _ rfl; cases h1; exact h2.symm
            obtain rfl : (.int .i64 (t : Int)) = x5_ := by obtain ⟨z, h1, h2⟩ := hv 5 _ rfl; cases h1; exact h2.symm
            obtain rfl : (.pointer (some ⟨g, o + t * 3, none⟩)) = x6_ := by obtain ⟨z, h1, h2⟩ := hv 6 _ rfl; cases h1; exact h2.symm
            obtain rfl : (.pointer (some ⟨g, o + t * 3, none⟩)) = x7_ := by obtain ⟨z, h1, h2⟩ := hv 7 _ rfl; cases h1; exact h2.symm
            obtain rfl : (.int .u64 p.key) = x8_ := by obtain ⟨z, h1, h2⟩ := hv 8 _ rfl; cases h1; exact h2.symm
            obtain rfl : (.pointer (some ⟨bm, 0, none⟩)) = x9_ := by obtain ⟨z, h1, h2⟩ := hv 9 _ rfl; cases h1; exact h2.symm
            obtain rfl : (.pointer (some ⟨bm, 0, none⟩)) = x10_ := by obtain ⟨z, h1, h2⟩ := hv 10 _ rfl; cases h1; exact h2.symm
            obtain rfl : (.pointer (some ⟨bm, 0, none⟩)) = x11_ := by obtain ⟨z, h1, h2⟩ := hv 11 _ rfl; cases h1; exact h2.symm
            obtain rfl : (.slice (some ⟨g, o, none⟩) ln c) = x12_ := by obtain ⟨z, h1, h2⟩ := hv 12 _ rfl; cases h1; exact h2.symm
            obtain rfl : (.int .i64 (t : Int)) = x13_ := by obtain ⟨z, h1, h2⟩ := hv 13 _ rfl; cases h1; exact h2.symm
            obtain rfl : (.pointer (some ⟨g, o + t * 3, none⟩)) = x14_ := by obtain ⟨z, h1, h2⟩ := hv 14 _ rfl; cases h1; exact h2.symm
            obtain rfl : (.pointer (some ⟨g, o + t * 3 + 1, none⟩)) = x15_ := by obtain ⟨z, h1, h2⟩ := hv 15 _ rfl; cases h1; exact h2.symm
            obtain rfl : (.string p.val) = x16_ := by obtain ⟨z, h1, h2⟩ := hv 16 _ rfl; cases h1; exact h2.symm
            obtain rfl : (.agg #[.int .u64 p.key, .string p.val]) = x17_ := by obtain ⟨z, h1, h2⟩ := hv 17 _ rfl; cases h1; exact h2.symm
            have hx18 : (OnePr v0 ⟨p.key, p.val⟩) x18_ W := by obtain ⟨z, h1, h2⟩ := hv 18 _ rfl; cases h1; exact h2
            have hx19 : (RowPr w.heap.size (ps ++ [⟨p.key, p.val⟩])) x19_ W := by obtain ⟨z, h1, h2⟩ := hv 19 _ rfl; cases h1; exact h2
            have hx20 : (RowPr w.heap.size (ps ++ [⟨p.key, p.val⟩])) x20_ W := by obtain ⟨z, h1, h2⟩ := hv 20 _ rfl; cases h1; exact h2
            intro L hall hG
            clear hv hlen
            have HO2 := Lib.hid hx20
            have HB2 := Lib.hid hG.2
            clear hG hall hx18 hx19 hx20
            simp only [fill, if_true]
            simp [Act.put]
          --END
            have HN := Lib.hid (show ps.length < ps.length + 1 ∧ (ps ++ [(⟨p.key, p.val⟩ : Pr)]).length = ps.length + 1 from ⟨Nat.lt_succ_self _, by simp⟩)
            have HLp := Lib.hid HPush.out.len
            go_wp2_with (fail)
            go_roundw
            case rel => exact ⟨_, HO2.out, HPush, HB2.out⟩
            case measure =>
              have h1 := own_len HO2.out
              have h2 := own_len HO.out
              have h3 := HLp.out
              have h4 := HN.out.2
              have h5 := HLN.out
              have h6 := HPN.out
              show ln + 1 - lenOf x20_ < ln + 1 - pn
              omega
end Go.Proofs.Ytdmcakoaakinnaa
namespace Go.Proofs.Ytdmcakoaakinnaa
open Go.RowKit
attribute [local go_sem] Oper.semAt_some
set_option linter.unusedVariables false
set_option linter.unusedSimpArgs false

/-- an answer, with its pairs -/
structure Re where
  mkRe ::
  c : Int
  v : ByteArray
  pa : Option Addr
  pc : Nat
  ps : List Pr
def reCells (r : Re) : Array Value := #[.int .i64 r.c, .string r.v, .slice r.pa r.ps.length r.pc]
def reZ : Re := ⟨0, ⟨#[]⟩, none, 0, []⟩
theorem reCells_one (d : Re) : (reCells d).all (·.oneCell') = true := by rw [Array.all_eq_true_iff_forall_mem]; intro v hv; simp [reCells] at hv; rcases hv with rfl | rfl | rfl <;> rfl
theorem run_alloc_re (w : World) : (Instr.alloc 51 true (.tuple #[])).run Try.prog w = .ok (.pointer (some ⟨w.heap.size, 0, none⟩)) (w.alloc (.cells (reCells reZ) 51)) := by kernel_rfl
theorem wp_alloc_re {o : Oper} {a : Act} {w : World} {K : Act → World → Prop} {Q : Exit → Act → World → Prop} (ho : o.op = .alloc 51)
    (h : K (a.put o.dst (.pointer (some ⟨w.heap.size, 0, none⟩))) (w.alloc (.cells (reCells reZ) 51))) : Oper.wp Try.prog o a w K Q := by
  unfold Oper.wp execOp
  simp only [ho, Sem.run_bind, run_alloc_re, Result.andThen_ok, Sem.run_pure]
  exact h
/-- a new block, laid at once: two operations, and what is between -/
theorem wpList_anew_re {ops : Array Oper} {rest : List Oper} {o1 o2 : Oper} {a : Act} {w : World} {Q : Exit → Act → World → Prop} (h1 : o1.guard = none) (h2 : o2.guard = none) (s : Tmp) (y : Operand) (hd : o1.dst = some s)
    (ho1 : o1.op = .alloc 51) (ho2 : o2.op = .store 51 (.tmp s) y) (d : Re) (hy : (a.put (some s) (.pointer (some ⟨w.heap.size, 0, none⟩))).eval y = .agg (reCells d)) (hs : s < a.tmps.size)
    (h : wpList Try.prog ops Q rest ((a.put o1.dst (.pointer (some ⟨w.heap.size, 0, none⟩))).put o2.dst undef) (w.alloc (.cells (reCells d) 51))) : wpList Try.prog ops Q (o1 :: o2 :: rest) a w := by
  refine wpList_plain h1 fun K hK => wp_alloc_re ho1 (hK _ _ ?_)
  rw [hd] at h ⊢
  refine wpList_store_row h2 51 (.tmp s) y ho2 w.heap.size (reCells d) ?_ hy 51 (reCells reZ) (Blk.new w _ _) (by kernel_rfl) rfl (reCells_one d) ?_
  · simp [Act.put, Act.eval, hs]
  · rw [alloc_setRow]; exact h
theorem wpList_anewA_re {ops : Array Oper} {rest : List Oper} {o1 o2 o3 : Oper} {a : Act} {w : World} {Q : Exit → Act → World → Prop} (h1 : o1.guard = none) (h2 : o2.guard = none) (h3 : o3.guard = none) (s r : Tmp) (y z : Operand) (hd : o1.dst = some s) (hd3 : o3.dst = some r)
    (ho1 : o1.op = .alloc 51) (ho3 : o3.op = .assign z) (ho2 : o2.op = .store 51 (.tmp s) y) (d : Re) (v : Value) (hz : (a.put (some s) (.pointer (some ⟨w.heap.size, 0, none⟩))).eval z = v) (hy : ((a.put (some s) (.pointer (some ⟨w.heap.size, 0, none⟩))).put (some r) v).eval y = .agg (reCells d)) (hs : s < a.tmps.size) (hrs : s ≠ r)
    (h : wpList Try.prog ops Q rest (((a.put o1.dst (.pointer (some ⟨w.heap.size, 0, none⟩))).put o3.dst v).put o2.dst undef) (w.alloc (.cells (reCells d) 51))) : wpList Try.prog ops Q (o1 :: o3 :: o2 :: rest) a w := by
  refine wpList_plain h1 fun K hK => wp_alloc_re ho1 (hK _ _ ?_)
  rw [hd] at h ⊢
  rw [hd3] at h
  refine wpList_plain h3 fun K hK => ?_
  unfold Oper.wp execOp
  simp only [ho3, hz]
  refine hK _ _ ?_
  rw [hd3]
  refine wpList_store_row h2 51 (.tmp s) y ho2 w.heap.size (reCells d) ?_ hy 51 (reCells reZ) (Blk.new w _ _) (by kernel_rfl) rfl (reCells_one d) ?_
  · have hr : r ≠ s := fun e => hrs e.symm
    simp [Act.put, Act.eval, hs, hr]
  · rw [alloc_setRow]; exact h
theorem wpList_store_re {ops : Array Oper} {rest : List Oper} {o : Oper} {a : Act} {w : World} {Q : Exit → Act → World → Prop} (hgd : o.guard = none) (x y : Operand) (ho : o.op = .store 51 x y)
    (g : Nat) (d : Re) (C : Array Value) (hx : a.eval x = .pointer (some ⟨g, 0, none⟩)) (hy : a.eval y = .agg (reCells d)) (hg : Blk w g C 51) (hC : C.size = (reCells d).size)
    (h : wpList Try.prog ops Q rest (a.put o.dst undef) (w.setRow g (reCells d))) : wpList Try.prog ops Q (o :: rest) a w :=
  wpList_store_row hgd 51 x y ho g (reCells d) hx hy 51 C hg (by kernel_rfl) (by rw [hC]) (reCells_one d) h
theorem wpList_load_reW {ops : Array Oper} {rest : List Oper} {o : Oper} {a : Act} {w : World} {Q : Exit → Act → World → Prop} (hw : Region.wanted o (yielded ops a.tmps) = true) (x : Operand) (ho : o.op = .load 51 x) (g off : Nat) (d : Re)
    (hx : a.eval x = .pointer (some ⟨g, off, none⟩)) (hc : cellsAt w g off (reCells d)) (h : wpList Try.prog ops Q rest (a.put o.dst (.agg (reCells d))) w) : wpList Try.prog ops Q (o :: rest) a w := by
  simp only [wpList, hw, if_true]
  exact .inl (wp_load_part 51 x ho g off hx (reCells d) _ hc Try.underlying51 rfl (by kernel_rfl) h)
theorem wpList_load_caW {ops : Array Oper} {rest : List Oper} {o : Oper} {a : Act} {w : World} {Q : Exit → Act → World → Prop} (hw : Region.wanted o (yielded ops a.tmps) = true) (x : Operand) (ho : o.op = .load 41 x) (g off : Nat) (d : Dn)
    (hx : a.eval x = .pointer (some ⟨g, off, none⟩)) (hc : cellsAt w g off (caCells d)) (h : wpList Try.prog ops Q rest (a.put o.dst (.agg (caCells d))) w) : wpList Try.prog ops Q (o :: rest) a w := by
  simp only [wpList, hw, if_true]
  exact .inl (wp_load_part 41 x ho g off hx (caCells d) _ hc Try.underlying41 rfl (by kernel_rfl) h)
theorem results_re {fn : Func} {w : World} {s : Nat} (hr : fn.results = #[.cell s 51]) (tmps : Array Value) (g : Nat) (d : Re) (hs : tmps.getD s undef = .pointer (some ⟨g, 0, none⟩)) (h : Blk w g (reCells d) 51) :
    (results fn tmps).run Try.prog w = .ok (.agg (reCells d)) w := by
  have hl := run_loadVar_part (P := Try.prog) w g 0 51 (reCells d) _ h.cellsAt Try.underlying51 rfl (by kernel_rfl)
  have hs' : tmps[s]?.getD undef = .pointer (some ⟨g, 0, none⟩) := by rw [← hs]; simp
  simp [results, hr, hs', asAddr, Result.andThen, hl]
def OneN (v0 : Value) (bm : Nat) (p : Pt) (v : Value) (W : World) : Prop := ∃ H, v = .slice (some ⟨H, 0, none⟩) 1 1 ∧ Blk W H (ptCells p) 97 ∧ v0.ownBlock ≠ some H ∧ H ≠ bm
def OneR (v0 : Value) (bm : Nat) (p : Pr) (v : Value) (W : World) : Prop := ∃ H, v = .slice (some ⟨H, 0, none⟩) 1 1 ∧ Blk W H (prCells p) 59 ∧ v0.ownBlock ≠ some H ∧ H ≠ bm
/-- the same row, or a new one -/
def NewB (wz : World) (v0 v : Value) : Prop := v.ownBlock = v0.ownBlock ∨ ∃ i, v.ownBlock = some i ∧ wz.heap.size ≤ i
def RowN (wz : World) (B : Nat) (v0 : Value) (l : List Pt) (v : Value) (W : World) : Prop := RowPt B l v W ∧ NewB wz v0 v
structure MapV (w : World) (B bm : Nat) (v : Value) (L : List Pt) : Prop where
  b : Blk w bm #[v] 37
  o : RowPt B L v w
  lt : bm < B
  le : B ≤ w.heap.size
def MapN (wz : World) (B bm : Nat) (v0 : Value) (l : List Pt) (W : World) : Prop := ∃ v, Blk W bm #[v] 37 ∧ RowPt B l v W ∧ NewB wz v0 v
theorem MapV.kept {S : Nat → Prop} {w w' : World} {B bm : Nat} {v : Value} {L : List Pt} (h : MapV w B bm v L) (hk : Keeps S w w') (hn : ¬ S bm) (hs : ∀ i, v.ownBlock = some i → ¬ S i) : MapV w' B bm v L :=
  ⟨h.b.kept hk hn, own_keeps h.o hk hs, h.lt, Nat.le_trans h.le hk.size⟩
theorem MapV.below {w w' : World} {B bm : Nat} {v : Value} {L : List Pt} (h : MapV w B bm v L) (hB : Below w.heap.size w w') : MapV w' B bm v L := h.kept (Keeps.of_below' hB) (fun h => h) (fun _ _ h => h)
theorem MapV.reads {w : World} {B bm : Nat} {v : Value} {L : List Pt} (h : MapV w B bm v L) : ∃ a c, v = .slice a L.length c ∧ PtsAt w a L := own_pts h.o
def inR (c : Dn) (p : Pr) : Bool := decide (c.key ≤ p.key) && decide (p.key ≤ c.hi)
/-- what a call is answered, and what the map is behind it -/
inductive DoP (L : List Pt) (c : Dn) : Int → ByteArray → List Pr → List Pt → Prop
  | bad (h : mayC c ≠ 0) : DoP L c (mayC c) ⟨#[]⟩ [] L
  | put (h : mayC c = 0) (ho : c.op = 1) : DoP L c 0 ⟨#[]⟩ [] (L ++ [⟨c.key, c.val, false⟩])
  | get (h : mayC c = 0) (ho : c.op = 2) (hc : (curP L c.key).2 = true) : DoP L c 0 (curP L c.key).1 [] L
  | none (h : mayC c = 0) (ho : c.op = 2 ∨ c.op = 3) (hc : (curP L c.key).2 = false) : DoP L c 5 ⟨#[]⟩ [] L
  | del (h : mayC c = 0) (ho : c.op = 3) (hc : (curP L c.key).2 = true) : DoP L c 0 ⟨#[]⟩ [] (L ++ [⟨c.key, ⟨#[]⟩, true⟩])
  | scan (h : mayC c = 0) (ho : c.op = 4) (ps : List Pr) (hp : PairsOk L ps) : DoP L c 0 ⟨#[]⟩ ((ps.filter (inR c)).take c.lim.toNat) L
def DoQ (B bm : Nat) (v0 : Value) (L : List Pt) (c : Dn) (w : World) (e : Ending) (w' : World) : Prop :=
  ∃ (r : Re) (L' : List Pt) (v : Value), e = .returned (.agg (reCells r)) ∧ DoP L c r.c r.v r.ps L' ∧ MapV w' B bm v L' ∧ PrsAt w' r.pa r.ps ∧ (∀ g o, r.pa = some ⟨g, o, none⟩ → w.heap.size ≤ g ∧ v.ownBlock ≠ some g ∧ g < w'.heap.size) ∧ Keeps (fun k => k = bm ∨ v0.ownBlock = some k) w w' ∧ NewB w v0 v
theorem take_filter {f : Pr → Bool} (l : List Pr) (k m : Nat) (h : ((l.take k).filter f).length = m) : (l.filter f).take m = (l.take k).filter f := by
  conv => lhs; rw [← List.take_append_drop k l, List.filter_append]
  rw [← h, List.take_left]
theorem NewB.mono {w w' : World} {v0 v : Value} (h : NewB w' v0 v) (hs : w.heap.size ≤ w'.heap.size) : NewB w v0 v := h.imp (fun h => h) (fun ⟨i, h1, h2⟩ => ⟨i, h1, Nat.le_trans hs h2⟩)
/-- the last step: what is known behind the call, the result's own block apart -/
theorem DoQ.fin {B bm n4 : Nat} {v0 v : Value} {l0 l' : List Pt} {c : Dn} {w W W' : World} {r : Re} (hd : DoP l0 c r.c r.v r.ps l') (hm : MapV W B bm v l') (hp : PrsAt W r.pa r.ps) (hg : ∀ g o, r.pa = some ⟨g, o, none⟩ → w.heap.size ≤ g ∧ g ≠ n4 ∧ v.ownBlock ≠ some g ∧ g < W.heap.size)
    (hk : Keeps (fun k => k = bm ∨ v0.ownBlock = some k) w W) (hn : NewB w v0 v) (h4 : w.heap.size ≤ n4) (hB : B ≤ w.heap.size) (hv : v.ownBlock ≠ some n4) (hk2 : Keeps (fun k => k = n4) W W') : DoQ B bm v0 l0 c w (.returned (.agg (reCells r))) W' :=
  ⟨r, l', v, rfl, hd, hm.kept hk2 (fun e => by have := hm.lt; omega) (fun i hi e => hv (by rw [hi, e])), RowAt.kept hp hk2 (fun g o e h => (hg g o e).2.1 h), fun g o e => ⟨(hg g o e).1, (hg g o e).2.2.1, Nat.lt_of_lt_of_le (hg g o e).2.2.2 hk2.size⟩,
    ⟨hk2.os.trans hk.os, hk2.tape.trans hk.tape, hk2.output.trans hk.output, Nat.le_trans hk.size hk2.size, fun k hk1 hn1 => (hk2.block k (by have := hk.size; omega) (fun e => by omega)).trans (hk.block k hk1 hn1)⟩, hn⟩
theorem keeps_drewN {S : Nat → Prop} (w : World) (n : Nat) : Keeps S w (w.drewN n) := ⟨rfl, rfl, rfl, Nat.le_refl _, fun _ _ _ => rfl⟩
theorem take_filt (f : Pr → Bool) (l : List Pr) (i : Nat) (h : i < l.length) : (l.take (i + 1)).filter f = (l.take i).filter f ++ (if f (l.getD i prZ) = true then [l.getD i prZ] else []) := by
  rw [List.take_add_one, List.getElem?_eq_getElem h, List.filter_append, getD_eq l i prZ h]
  cases hf : f l[i] <;> simp [hf]
set_option maxRecDepth 100000 in
set_option maxHeartbeats 16000000 in
theorem do_v (B bm : Nat) (v0 : Value) (l0 : List Pt) (c : Dn) (w : World) (hM : MapV w B bm v0 l0) (hn : l0.length ≤ 50000) :
    Calls Try.prog 30 #[.pointer (some ⟨bm, 0, none⟩), .agg (caCells c)] w (DoQ B bm v0 l0 c w) := by
  have HLn := Lib.hid hn
  have HBm := Lib.hid hM.lt
  have HBw := Lib.hid hM.le
  have HVw := Lib.hid (fun i hi => own_ltS hM.o (i := i) hi)
  clear hn
  go_enter Try.func30, Try.ntmps30
  go_upto_region 1 with (fail)
  have hB1 : Below w.heap.size w ((w.alloc (.cells (caCells c) 41)).alloc (.cells (reCells reZ) 51)) := ((Below.refl w.heap.size w).alloc (Nat.le_refl _) _).alloc (by simp) _
  have hc1 : Blk ((w.alloc (.cells (caCells c) 41)).alloc (.cells (reCells reZ) 51)) w.heap.size (caCells c) 41 := (Blk.new w _ _).alloc _
  have hr1 : Blk ((w.alloc (.cells (caCells c) 41)).alloc (.cells (reCells reZ) 51)) (w.heap.size + 1) (reCells reZ) 51 := by
    have h := Blk.new (w.alloc (.cells (caCells c) 41)) (reCells reZ) 51
    rw [show (w.alloc (.cells (caCells c) 41)).heap.size = w.heap.size + 1 from by simp] at h; exact h
  have hlit : (w.alloc (.cells (caCells c) 41)).alloc (.cells #[.int .i64 0, .string ⟨#[]⟩, .slice none 0 0] 51) = (w.alloc (.cells (caCells c) 41)).alloc (.cells (reCells reZ) 51) := rfl
  rw [hlit]
  clear hlit
  have hM1 := hM.below hB1
  generalize (w.alloc (.cells (caCells c) 41)).alloc (.cells (reCells reZ) 51) = W1 at hB1 hc1 hr1 hM1 ⊢
  obtain ⟨n4, hn4⟩ : ∃ n4, w.heap.size + 1 = n4 := ⟨_, rfl⟩
  obtain ⟨nc, hnc⟩ : ∃ nc, w.heap.size = nc := ⟨_, rfl⟩
  rw [hn4] at hr1
  rw [hnc] at hc1
  simp only [hn4]
  simp only [hnc]
  have HNn := Lib.hid (And.intro hnc hn4)
  have HB1 := Lib.hid hB1
  have HC1 := Lib.hid hc1
  have HR1 := Lib.hid hr1
  have HM1 := Lib.hid hM1
  clear hM hB1 hc1 hr1 hM1 hn4 hnc
  go_step
  refine wpList_load_caW rfl (.tmp 3) rfl nc 0 c (ev_tmp (by first | (simp [Act.put]; done) | rfl)) HC1.out.cellsAt ?_
  go_wp2_with (fail)
  refine (mayC_v c W1).mono ?_
  rintro e W2 ⟨rfl, hB2⟩
  obtain ⟨cd, hcd⟩ : ∃ cd, mayC c = cd := ⟨_, rfl⟩
  rw [hcd]
  have HCd := Lib.hid hcd
  have hB3 := (HB1.out.trans (hB2.mono HB1.out.size)).alloc (Nat.le_trans HB1.out.size hB2.size) (.cells (reCells ⟨cd, ⟨#[]⟩, none, 0, []⟩) 51)
  have hk3 : Below W1.heap.size W1 (W2.alloc (.cells (reCells ⟨cd, ⟨#[]⟩, none, 0, []⟩) 51)) := hB2.alloc hB2.size _
  have hr3 := Blk.new W2 (reCells ⟨cd, ⟨#[]⟩, none, 0, []⟩) 51
  have hnr : W1.heap.size ≤ W2.heap.size := hB2.size
  go_simp
  go_step
  refine wpList_plain rfl (fun K hK => ?_)
  go_simp
  refine hK _ _ ?_
  clear hK K
  refine wpList_anew_re rfl rfl 5 (.tmp 11) rfl rfl rfl ⟨cd, ⟨#[]⟩, none, 0, []⟩ (ev_tmp (by first | (simp [Act.put, reCells]; done) | rfl)) (by first | (simp [Act.put]; done) | rfl) ?_
  generalize W2.alloc (.cells (reCells ⟨cd, ⟨#[]⟩, none, 0, []⟩) 51) = wz at hB3 hk3 hr3 ⊢
  generalize W2.heap.size = nr at hr3 hnr ⊢
  have HR5 := Lib.hid hr3
  have HNr := Lib.hid (show n4 < nr ∧ w.heap.size ≤ n4 ∧ n4 = nc + 1 ∧ nc = w.heap.size from by have h1 := HR1.out.lt; have h2 := HNn.out; omega)
  have HCb := Lib.hid (HC1.out.kept (Keeps.of_below' hk3) (fun h => h))
  have HR4 := Lib.hid (HR1.out.kept (Keeps.of_below' hk3) (fun h => h))
  have HM := Lib.hid (HM1.out.below hk3)
  have HBz := Lib.hid hB3
  have c0 : wz.cell? ⟨nr, 0, none⟩ = some (.int .i64 cd) := by rw [hr3.cell]; rfl
  clear hcd hB2 hB3 hk3 hr3 hnr
  cases h0 : (cd != 0) with
  | true =>
    have HRn := HR5
    have HR4n := HR4
    have hcd0 : mayC c ≠ 0 := by rw [HCd.out]; simpa using h0
    have HD := Lib.hid (show DoP l0 c cd ⟨#[]⟩ [] l0 from HCd.out ▸ DoP.bad hcd0)
    have HFin := Lib.hid (show ∀ W', Keeps (fun k => k = n4) wz W' → DoQ B bm v0 l0 c w (.returned (.agg (reCells ⟨cd, ⟨#[]⟩, none, 0, []⟩))) W' from fun W' hk =>
      DoQ.fin (r := ⟨cd, ⟨#[]⟩, none, 0, []⟩) HD.out HM.out (PrsAt.nil _ _) (fun g o e => by cases e) (Keeps.of_below' HBz.out |>.mono (fun _ _ h => h.elim)) (.inl rfl) HNr.out.2.1 HBw.out (fun e => by have h1 := HVw.out _ e; have h2 := HNr.out; omega) hk)
    clear hcd0
    as_aux_lemma =>
      go_upto_region 3 with (fail)
      go_step
      refine wpList_load_reW rfl (.tmp 5) rfl nr 0 ⟨cd, ⟨#[]⟩, none, 0, []⟩ (ev_tmp (by first | (simp [Act.put]; done) | rfl)) HRn.out.cellsAt ?_
      refine wpList_store_re rfl (.tmp 4) (.tmp 15) rfl n4 ⟨cd, ⟨#[]⟩, none, 0, []⟩ (reCells reZ) (ev_tmp (by first | (simp [Act.put]; done) | rfl)) (ev_tmp (by first | (simp [Act.put]; done) | rfl)) HR4n.out rfl ?_
      go_wp2_with (fail)
      exact bodyPost_ret (results_re rfl _ n4 ⟨cd, ⟨#[]⟩, none, 0, []⟩ rfl (Blk.row HR4n.out _)) rfl (HFin.out _ (keeps_setRow (Keeps.refl (fun k => k = n4) _) (.inl rfl) _))
  | false =>
    obtain rfl : cd = 0 := by simpa using h0
    clear h0
    obtain ⟨a0, cc0, hv0, hpt⟩ := HM.out.reads
    obtain ⟨fi, hfi⟩ : ∃ fi, findP l0 c.key = fi := ⟨_, rfl⟩
    have HFd := Lib.hid (find_v l0 c.key a0 cc0 bm wz (by have := HLn.out; omega) (hv0 ▸ HM.out.b) hpt)
    have HV0 := Lib.hid hv0
    rw [hfi] at HFd
    have HFi := Lib.hid hfi
    have HPt := Lib.hid hpt
    have k1 : wz.cell? ⟨nc, 1, none⟩ = some (.int .u64 c.key) := by rw [HCb.out.cell]; rfl
    have k0 : wz.cell? ⟨nc, 0, none⟩ = some (.int .i64 c.op) := by rw [HCb.out.cell]; rfl
    clear hfi hpt hv0
    go_upto_region 4 with (fail)
    go_wp2_with (fail)
    refine HFd.out.mono ?_
    rintro e2 w2 ⟨rfl, rfl⟩
    go_upto_region 6 with (fail)
    clear k0 k1
    have HOps := Lib.hid (show c.op = 1 ∨ c.op = 2 ∨ c.op = 3 ∨ c.op = 4 from by
      have h := HCd.out
      unfold mayC at h
      by_cases h9 : (decide (c.op < 1) || decide (4 < c.op)) = true
      · rw [if_pos h9] at h; exact absurd h (by decide)
      · simp at h9; omega)
    rcases HOps.out with h1 | h1 | h1 | h1
    · have HO := Lib.hid h1
      have e1 : (c.op == 1) = true := by rw [h1]; rfl
      clear h1
      go_upto_region 7 with (fail)
      obtain ⟨i0, hi0, hz0, hz1, hz2⟩ := info_pt
      have HNc := Lib.hid (show ¬ (nc = bm ∨ v0.ownBlock = some nc) from fun e => by
        rcases e with e | e
        · have h1 := HNr.out; have h2 := HBm.out; have h3 := HBw.out; omega
        · have h1 := HNr.out; have h2 := HVw.out _ e; omega)
      have HBl := Lib.hid (Nat.le_trans HBw.out HBz.out.size)
      --GEN r_do7
      refine wp_region_vals [Is (.pointer (some ⟨bm, 0, none⟩)), Is (.pointer (some ⟨bm, 0, none⟩)), Is (.pointer (some ⟨bm, 0, none⟩)), Is (.pointer (some ⟨bm, 0, none⟩)), Is v0, Is (.pointer (some ⟨nc, 1, none⟩)), Is (.int .u64 c.key), Is (.pointer (some ⟨nc, 4, none⟩)), Is (.string c.val), Is (.agg #[.int .u64 c.key, .string c.val, .bool false]), OneN v0 bm ⟨c.key, c.val, false⟩, RowN wz B v0 (l0 ++ [⟨c.key, c.val, false⟩]), Is (.pointer (some ⟨bm, 0, none⟩)), Is (.pointer (some ⟨bm, 0, none⟩)), Any]
        (fun i => Keeps (fun g => (i = 11 ∧ v0.ownBlock = some g) ∨ (i = 14 ∧ g = bm))) (fun L W => Keeps (fun k => k = bm ∨ v0.ownBlock = some k) wz W ∧ (L 11 = true ∨ RowPt B l0 v0 W) ∧ (L 14 = true ∨ Blk W bm #[v0] 37) ∧ (L 14 = true → MapN wz B bm v0 (l0 ++ [⟨c.key, c.val, false⟩]) W)) (by kernel_rfl) (by kernel_rfl) (by kernel_rfl) ?hst ?h0 ⟨?o0, ?o1, ?o2, ?o3, ?o4, ?o5, ?o6, ?o7, ?o8, ?o9, ?o10, ?o11, ?o12, ?o13, ?o14, trivial⟩ ?he
      case hst =>
        exact ⟨(fun _ _ _ _ _ _ h _ => h), (fun _ _ _ _ _ _ h _ => h), (fun _ _ _ _ _ _ h _ => h), (fun _ _ _ _ _ _ h _ => h), (fun _ _ _ _ _ _ h _ => h), (fun _ _ _ _ _ _ h _ => h), (fun _ _ _ _ _ _ h _ => h), (fun _ _ _ _ _ _ h _ => h), (fun _ _ _ _ _ _ h _ => h), (fun _ _ _ _ _ _ h _ => h), (fun _ _ _ _ _ _ h hR => by obtain ⟨H, e, hb, hn, hm⟩ := h; exact ⟨H, e, hb.kept hR (fun hx => by rcases hx with hx | hx; exact hn hx.2; exact hm hx.2), hn, hm⟩), (fun _ hij _ _ _ _ h hR => ⟨own_keeps h.1 hR (fun i hi hx => by rcases hx with hx | hx; exact hij hx.1; have h9 := own_base h.1 i hi; have h8 := HBm.out; omega), h.2⟩), (fun _ _ _ _ _ _ h _ => h), (fun _ _ _ _ _ _ h _ => h), (fun _ _ _ _ _ _ h _ => h), trivial⟩
      case h0 =>
        exact ⟨(Keeps.refl _ wz).drew, .inr (own_keeps HM.out.o ((Keeps.refl (fun _ => False) _).drew) (fun _ _ h => h)), .inr HM.out.b.drew, fun h => (by cases h)⟩
      case o0 =>
        intro L vs A W H hf hd K hK
        have e0 : A.tmps[0]?.getD undef = .pointer (some ⟨bm, 0, none⟩) := H.old 0 (by kernel_rfl)
        go_simp
        exact hK _ _ (Keeps.refl _ _) rfl (H.glob)
      case o1 =>
        intro L vs A W H hf hd K hK
        have e0 : A.tmps[0]?.getD undef = .pointer (some ⟨bm, 0, none⟩) := H.old 0 (by kernel_rfl)
        go_simp
        exact hK _ _ (Keeps.refl _ _) rfl (H.glob)
      case o2 =>
        intro L vs A W H hf hd K hK
        have e25 := H.is 1 25 rfl rfl rfl (deps_of' hd 1 (by kernel_rfl)) (by kernel_rfl)
        go_simp
        exact hK _ _ (Keeps.refl _ _) rfl (H.glob)
      case o3 =>
        intro L vs A W H hf hd K hK
        have e26 := H.is 2 26 rfl rfl rfl (deps_of' hd 2 (by kernel_rfl)) (by kernel_rfl)
        go_simp
        exact hK _ _ (Keeps.refl _ _) rfl (H.glob)
      case o4 =>
        intro L vs A W H hf hd K hK
        have e27 := H.is 3 27 rfl rfl rfl (deps_of' hd 3 (by kernel_rfl)) (by kernel_rfl)
        have n11 := H.notYet 11 4 rfl hf (by kernel_rfl)
        have n14 := H.notYet 14 11 rfl n11 (by kernel_rfl)
        have hbm : Blk W bm #[v0] 37 := by rcases H.glob.2.2.1 with h | h; (rw [n14] at h; cases h); exact h
        have d : W.cell? ⟨bm, 0, none⟩ = some v0 := by rw [hbm.cell]; rfl
        go_simp
        exact hK _ _ (Keeps.refl _ _) rfl (H.glob)
      case o5 =>
        intro L vs A W H hf hd K hK
        have e3 : A.tmps[3]?.getD undef = .pointer (some ⟨nc, 0, none⟩) := H.old 3 (by kernel_rfl)
        go_simp
        exact hK _ _ (Keeps.refl _ _) rfl (H.glob)
      case o6 =>
        intro L vs A W H hf hd K hK
        have e29 := H.is 5 29 rfl rfl rfl (deps_of' hd 5 (by kernel_rfl)) (by kernel_rfl)
        have d : W.cell? ⟨nc, 1, none⟩ = some (.int .u64 c.key) := by rw [(HCb.out.kept H.glob.1 HNc.out).cell]; rfl
        go_simp
        exact hK _ _ (Keeps.refl _ _) rfl (H.glob)
      case o7 =>
        intro L vs A W H hf hd K hK
        have e3 : A.tmps[3]?.getD undef = .pointer (some ⟨nc, 0, none⟩) := H.old 3 (by kernel_rfl)
        go_simp
        exact hK _ _ (Keeps.refl _ _) rfl (H.glob)
      case o8 =>
        intro L vs A W H hf hd K hK
        have e31 := H.is 7 31 rfl rfl rfl (deps_of' hd 7 (by kernel_rfl)) (by kernel_rfl)
        have d : W.cell? ⟨nc, 4, none⟩ = some (.string c.val) := by rw [(HCb.out.kept H.glob.1 HNc.out).cell]; rfl
        go_simp
        exact hK _ _ (Keeps.refl _ _) rfl (H.glob)
      case o9 =>
        intro L vs A W H hf hd K hK
        have e30 := H.is 6 30 rfl rfl rfl (deps_of' hd 6 (by kernel_rfl)) (by kernel_rfl)
        have e32 := H.is 8 32 rfl rfl rfl (deps_of' hd 8 (by kernel_rfl)) (by kernel_rfl)
        go_simp
        exact hK _ _ (Keeps.refl _ _) rfl (H.glob)
      case o10 =>
        intro L vs A W H hf hd K hK
        have e33 := H.is 9 33 rfl rfl rfl (deps_of' hd 9 (by kernel_rfl)) (by kernel_rfl)
        have n11 := H.notYet 11 10 rfl hf (by kernel_rfl)
        have n14 := H.notYet 14 11 rfl n11 (by kernel_rfl)
        have hrow : RowPt B l0 v0 W := by rcases H.glob.2.1 with h | h; (rw [n11] at h; cases h); exact h
        have hbm : Blk W bm #[v0] 37 := by rcases H.glob.2.2.1 with h | h; (rw [n14] at h; cases h); exact h
        have hnb : v0.ownBlock ≠ some W.heap.size := fun e => by have := own_ltS hrow e; omega
        have hnm : W.heap.size ≠ bm := fun e => by have := hbm.lt; omega
        have hg1 := H.glob.1
        go_simp
        exact hK _ _ ((Keeps.refl _ _).alloc _) ⟨_, rfl, Blk.new _ _ _, hnb, hnm⟩ ⟨hg1.alloc _, .inr (own_keeps hrow ((Keeps.refl (fun _ => False) _).alloc _) (fun _ _ h => h)), .inr (hbm.alloc _), fun h => by have h9 : L 14 = true := h; rw [n14] at h9; cases h9⟩
      case o11 =>
        intro L vs A W H hf hd K hK
        have e28 := H.is 4 28 rfl rfl rfl (deps_of' hd 4 (by kernel_rfl)) (by kernel_rfl)
        obtain ⟨v34, e34, q34⟩ := H.val 10 34 rfl rfl rfl (deps_of' hd 10 (by kernel_rfl)) (by kernel_rfl)
        have n14 := H.notYet 14 11 rfl hf (by kernel_rfl)
        have hf11 : L 11 = false := hf
        have hrow : RowPt B l0 v0 W := by rcases H.glob.2.1 with h | h; (rw [hf11] at h; cases h); exact h
        have hbm : Blk W bm #[v0] 37 := by rcases H.glob.2.2.1 with h | h; (rw [n14] at h; cases h); exact h
        have hg1 := H.glob.1
        obtain ⟨H2, rfl, hb2, hn2, _⟩ := q34
        refine step_append_any (w := W) rfl (.tmp 28) (.tmp 34) 35 rfl B 97 i0 _ 3 32 Try.underlying35 hi0 hz0 hz1 hz2 rfl (by omega) v0 l0.length (tcells l0) (ev_tmp e28) hrow W.heap.size (some ⟨H2, 0, none⟩) 1 1 (ptCells ⟨c.key, c.val, false⟩).toList (ev_tmp e34) (reads_one_pt hb2) (one_cells_pt _) (by unfold maxLen; have := HLn.out; omega) (by have := HLn.out; omega) (Nat.le_trans HBl.out hg1.size) ?_
        intro v' w' hown' hg' ho'
        have hne : v0.ownBlock ≠ some bm := fun e => by have h9 := own_base hrow bm e; have h8 := HBm.out; omega
        exact hK _ _ ((Keeps.refl _ _).grown hg' (fun _ e => .inl (.inl ⟨rfl, e⟩))) ⟨row_push_pt hown', ho'.imp (fun h => h) (fun h => ⟨_, h, hg1.size⟩)⟩ ⟨hg1.grown hg' (fun _ e => .inl (.inr e)), .inl rfl, .inr (hbm.grown hg' (fun e => hne e.symm)), fun h => by have h9 : L 14 = true := h; rw [n14] at h9; cases h9⟩
      case o12 =>
        intro L vs A W H hf hd K hK
        have e24 := H.is 0 24 rfl rfl rfl (deps_of' hd 0 (by kernel_rfl)) (by kernel_rfl)
        go_simp
        exact hK _ _ (Keeps.refl _ _) rfl (H.glob)
      case o13 =>
        intro L vs A W H hf hd K hK
        have e36 := H.is 12 36 rfl rfl rfl (deps_of' hd 12 (by kernel_rfl)) (by kernel_rfl)
        go_simp
        exact hK _ _ (Keeps.refl _ _) rfl (H.glob)
      case o14 =>
        intro L vs A W H hf hd K hK
        have e37 := H.is 13 37 rfl rfl rfl (deps_of' hd 13 (by kernel_rfl)) (by kernel_rfl)
        obtain ⟨v35, e35, q35⟩ := H.val 11 35 rfl rfl rfl (deps_of' hd 11 (by kernel_rfl)) (by kernel_rfl)
        have hf14 : L 14 = false := hf
        have hbm : Blk W bm #[v0] 37 := by rcases H.glob.2.2.1 with h | h; (rw [hf14] at h; cases h); exact h
        have d1 := hbm.frozen 0
        have d2 : W.cell? ⟨bm, 0, none⟩ = some v0 := by rw [hbm.cell]; rfl
        have hg1 := H.glob.1
        have h11 : L 11 = true := deps_of' hd 11 (by kernel_rfl)
        have hq := q35
        obtain ⟨aN, mN, cN, rfl⟩ := own_slice hq.1
        go_simp
        refine hK undef _ ((Keeps.refl _ _).setCell (p := ⟨bm, 0, none⟩) (.inl (.inr ⟨rfl, rfl⟩)) _) trivial ⟨hg1.setCell (p := ⟨bm, 0, none⟩) (.inl (.inl rfl)) _, .inl h11, .inl rfl, fun _ => ⟨_, by have h9 := hbm.set 0 (.slice aN mN cN); simpa using h9, own_keeps hq.1 ((Keeps.refl (fun k => k = bm) _).setCell (p := ⟨bm, 0, none⟩) (.inl rfl) _) (fun i hi hx => by have h9 := own_base hq.1 i hi; have h8 := HBm.out; omega), hq.2⟩⟩
      case he =>
        intro vs W hlen hv
        match vs, hlen, hv with
        | [x0_, x1_, x2_, x3_, x4_, x5_, x6_, x7_, x8_, x9_, x10_, x11_, x12_, x13_, x14_], _, hv =>
        obtain rfl : (.pointer (some ⟨bm, 0, none⟩)) = x0_ := by obtain ⟨z, h1, h2⟩ := hv 0 _ rfl; cases h1; exact h2.symm
        obtain rfl : (.pointer (some ⟨bm, 0, none⟩)) = x1_ := by obtain ⟨z, h1, h2⟩ := hv 1 _ rfl; cases h1; exact h2.symm
        obtain rfl : (.pointer (some ⟨bm, 0, none⟩)) = x2_ := by obtain ⟨z, h1, h2⟩ := hv 2 _ rfl; cases h1; exact h2.symm
        obtain rfl : (.pointer (some ⟨bm, 0, none⟩)) = x3_ := by obtain ⟨z, h1, h2⟩ := hv 3 _ rfl; cases h1; exact h2.symm
        obtain rfl : v0 = x4_ := by obtain ⟨z, h1, h2⟩ := hv 4 _ rfl; cases h1; exact h2.symm
        obtain rfl : (.pointer (some ⟨nc, 1, none⟩)) = x5_ := by obtain ⟨z, h1, h2⟩ := hv 5 _ rfl; cases h1; exact h2.symm
        obtain rfl : (.int .u64 c.key) = x6_ := by obtain ⟨z, h1, h2⟩ := hv 6 _ rfl; cases h1; exact h2.symm
        obtain rfl : (.pointer (some ⟨nc, 4, none⟩)) = x7_ := by obtain ⟨z, h1, h2⟩ := hv 7 _ rfl; cases h1; exact h2.symm
        obtain rfl : (.string c.val) = x8_ := by obtain ⟨z, h1, h2⟩ := hv 8 _ rfl; cases h1; exact h2.symm
        obtain rfl : (.agg #[.int .u64 c.key, .string c.val, .bool false]) = x9_ := by obtain ⟨z, h1, h2⟩ := hv 9 _ rfl; cases h1; exact h2.symm
        have hx10 : (OneN v0 bm ⟨c.key, c.val, false⟩) x10_ W := by obtain ⟨z, h1, h2⟩ := hv 10 _ rfl; cases h1; exact h2
        have hx11 : (RowN wz B v0 (l0 ++ [⟨c.key, c.val, false⟩])) x11_ W := by obtain ⟨z, h1, h2⟩ := hv 11 _ rfl; cases h1; exact h2
        obtain rfl : (.pointer (some ⟨bm, 0, none⟩)) = x12_ := by obtain ⟨z, h1, h2⟩ := hv 12 _ rfl; cases h1; exact h2.symm
        obtain rfl : (.pointer (some ⟨bm, 0, none⟩)) = x13_ := by obtain ⟨z, h1, h2⟩ := hv 13 _ rfl; cases h1; exact h2.symm
        intro L hall hG
        clear hv hlen
        have HK := Lib.hid hG.1
        have HN := Lib.hid (hG.2.2.2 (hall 14 (by decide)))
        clear hG hall hx10 hx11
        simp only [fill, if_true]
        simp [Act.put]
      --END
        clear c0
        obtain ⟨v', hb', ho', hn'⟩ := HN.out
        have hnr : ¬ (nr = bm ∨ v0.ownBlock = some nr) := fun e => by
          rcases e with e | e
          · have h1 := HNr.out; have h2 := HBm.out; have h3 := HBw.out; omega
          · have h1 := HNr.out; have h2 := HVw.out _ e; omega
        have hn4 : ¬ (n4 = bm ∨ v0.ownBlock = some n4) := fun e => by
          rcases e with e | e
          · have h1 := HNr.out; have h2 := HBm.out; have h3 := HBw.out; omega
          · have h1 := HNr.out; have h2 := HVw.out _ e; omega
        have HRn := Lib.hid (HR5.out.kept HK.out hnr)
        have HR4n := Lib.hid (HR4.out.kept HK.out hn4)
        have HKw := Lib.hid (show Keeps (fun k => k = bm ∨ v0.ownBlock = some k) w W from ((Keeps.of_below' HBz.out).mono (fun _ _ h => h.elim) : Keeps (fun k => k = bm ∨ v0.ownBlock = some k) w wz).trans HK.out)
        have HFin := Lib.hid (show ∀ W', Keeps (fun k => k = n4) W W' → DoQ B bm v0 l0 c w (.returned (.agg (reCells ⟨0, ⟨#[]⟩, none, 0, []⟩))) W' from fun W' hk =>
          DoQ.fin (r := ⟨0, ⟨#[]⟩, none, 0, []⟩) (.put HCd.out HO.out) ⟨hb', ho', HBm.out, Nat.le_trans HBw.out HKw.out.size⟩ (PrsAt.nil _ _) (fun g o e => by cases e) HKw.out (hn'.mono HBz.out.size) HNr.out.2.1 HBw.out (fun e => by
            rcases hn' with h1 | ⟨i, h1, h2⟩
            · rw [h1] at e; have h3 := HVw.out _ e; have h4 := HNr.out; omega
            · rw [h1] at e; cases e; have h3 := HR4.out.lt; omega) hk)
        clear hb' ho' hn' hnr hn4
        obtain ⟨rr, hrr⟩ : ∃ rr : Re, (⟨0, ⟨#[]⟩, none, 0, []⟩ : Re) = rr := ⟨_, rfl⟩
        rw [hrr] at HRn HFin
        clear hrr
        as_aux_lemma =>
          go_upto_region 23 with (fail)
          go_step
          refine wpList_load_reW rfl (.tmp 5) rfl nr 0 rr (ev_tmp (by first | (simp [Act.put]; done) | rfl)) HRn.out.cellsAt ?_
          refine wpList_store_re rfl (.tmp 4) (.tmp 114) rfl n4 rr (reCells reZ) (ev_tmp (by first | (simp [Act.put]; done) | rfl)) (ev_tmp (by first | (simp [Act.put]; done) | rfl)) HR4n.out rfl ?_
          go_wp2_with (fail)
          exact bodyPost_ret (results_re rfl _ n4 rr rfl (Blk.row HR4n.out _)) rfl (HFin.out _ (keeps_setRow (Keeps.refl (fun k => k = n4) _) (.inl rfl) _))
    · have HO := Lib.hid h1
      have e1 : (c.op == 1) = false := by rw [h1]; rfl
      have e2 : (c.op == 2) = true := by rw [h1]; rfl
      clear h1
      cases hf : decide (fi < 0) with
      | true =>
        have HCu := Lib.hid (show (curP l0 c.key).2 = false from by unfold curP; rw [HFi.out, if_pos (of_decide_eq_true hf)])
        have hkz : Keeps (fun k => k = nr) wz (wz.setCell ⟨nr, 0, none⟩ (.int .i64 5)) := (Keeps.refl (fun k => k = nr) wz).setCell (p := ⟨nr, 0, none⟩) (.inl rfl) _
        have hnb : ∀ i, v0.ownBlock = some i → ¬ i = nr := fun i hi e => by have h1 := HNr.out; have h2 := HVw.out _ hi; omega
        have HRn := Lib.hid (show Blk (wz.setCell ⟨nr, 0, none⟩ (.int .i64 5)) nr (reCells ⟨5, ⟨#[]⟩, none, 0, []⟩) 51 from HR5.out.set 0 (.int .i64 5))
        have HR4n := Lib.hid (HR4.out.kept hkz (by have h1 := HNr.out; omega))
        have HKw := Lib.hid (show Keeps (fun k => k = bm ∨ v0.ownBlock = some k) w (wz.setCell ⟨nr, 0, none⟩ (.int .i64 5)) from ⟨hkz.os.trans HBz.out.os, hkz.tape.trans HBz.out.tape, hkz.output.trans HBz.out.output, Nat.le_trans HBz.out.size hkz.size, fun k hk1 _ => (hkz.block k (Nat.lt_of_lt_of_le hk1 HBz.out.size) (fun e => by have h1 := HNr.out; omega)).trans (HBz.out.block k hk1)⟩)
        have HFin := Lib.hid (show ∀ W', Keeps (fun k => k = n4) (wz.setCell ⟨nr, 0, none⟩ (.int .i64 5)) W' → DoQ B bm v0 l0 c w (.returned (.agg (reCells ⟨5, ⟨#[]⟩, none, 0, []⟩))) W' from fun W' hk =>
          DoQ.fin (r := ⟨5, ⟨#[]⟩, none, 0, []⟩) (.none HCd.out (.inl HO.out) HCu.out) (HM.out.kept hkz (by have h1 := HNr.out; have h2 := HBm.out; have h3 := HBw.out; omega) hnb) (PrsAt.nil _ _) (fun g o e => by cases e) HKw.out (.inl rfl) HNr.out.2.1 HBw.out (fun e => by have h1 := HVw.out _ e; have h2 := HNr.out; omega) hk)
        have f0 := HR5.out.frozen 0
        clear hkz hnb
        obtain ⟨rr, hrr⟩ : ∃ rr : Re, (⟨5, ⟨#[]⟩, none, 0, []⟩ : Re) = rr := ⟨_, rfl⟩
        rw [hrr] at HRn HFin
        clear hrr
        as_aux_lemma =>
          go_upto_region 23 with (fail)
          go_step
          refine wpList_load_reW rfl (.tmp 5) rfl nr 0 rr (ev_tmp (by first | (simp [Act.put]; done) | rfl)) HRn.out.cellsAt ?_
          refine wpList_store_re rfl (.tmp 4) (.tmp 114) rfl n4 rr (reCells reZ) (ev_tmp (by first | (simp [Act.put]; done) | rfl)) (ev_tmp (by first | (simp [Act.put]; done) | rfl)) HR4n.out rfl ?_
          go_wp2_with (fail)
          exact bodyPost_ret (results_re rfl _ n4 rr rfl (Blk.row HR4n.out _)) rfl (HFin.out _ (keeps_setRow (Keeps.refl (fun k => k = n4) _) (.inl rfl) _))
      | false =>
        obtain ⟨t, ht⟩ : ∃ t : Nat, fi = (t : Int) := ⟨fi.toNat, by have := of_decide_eq_false hf; omega⟩
        subst ht
        have hlt : t < l0.length := by have h1 := findP_lt l0 c.key; rw [HFi.out] at h1; omega
        obtain ⟨g, o, ha0, hg, hc⟩ := HPt.out.at_ hlt
        subst ha0
        obtain ⟨p, hp⟩ : ∃ p, l0.getD t ptZ = p := ⟨_, rfl⟩
        rw [hp] at hc
        have HCu := Lib.hid (show curP l0 c.key = (p.val, true) from by unfold curP; rw [HFi.out, if_neg (of_decide_eq_false hf), Int.toNat_natCast, hp])
        have db : wz.cell? ⟨bm, 0, none⟩ = some (.slice (some ⟨g, o, none⟩) l0.length cc0) := by rw [HM.out.b.cell, HV0.out]; rfl
        have x1 : wz.cell? ⟨g, o + t * 3 + 1, none⟩ = some (.string p.val) := hc 1 _ rfl
        have c1 : wz.cell? ⟨nr, 1, none⟩ = some (.string ⟨#[]⟩) := by rw [HR5.out.cell]; rfl
        have htl : (t : Int) < (l0.length : Int) := by omega
        clear hlt hg hc hp
        have hkz : Keeps (fun k => k = nr) wz (wz.setCell ⟨nr, 1, none⟩ (.string p.val)) := (Keeps.refl (fun k => k = nr) wz).setCell (p := ⟨nr, 1, none⟩) (.inl rfl) _
        have hnb : ∀ i, v0.ownBlock = some i → ¬ i = nr := fun i hi e => by have h1 := HNr.out; have h2 := HVw.out _ hi; omega
        have HRn := Lib.hid (show Blk (wz.setCell ⟨nr, 1, none⟩ (.string p.val)) nr (reCells ⟨0, p.val, none, 0, []⟩) 51 from HR5.out.set 1 (.string p.val))
        have HR4n := Lib.hid (HR4.out.kept hkz (by have h1 := HNr.out; omega))
        have HKw := Lib.hid (show Keeps (fun k => k = bm ∨ v0.ownBlock = some k) w (wz.setCell ⟨nr, 1, none⟩ (.string p.val)) from ⟨hkz.os.trans HBz.out.os, hkz.tape.trans HBz.out.tape, hkz.output.trans HBz.out.output, Nat.le_trans HBz.out.size hkz.size, fun k hk1 _ => (hkz.block k (Nat.lt_of_lt_of_le hk1 HBz.out.size) (fun e => by have h1 := HNr.out; omega)).trans (HBz.out.block k hk1)⟩)
        have HFin := Lib.hid (show ∀ W', Keeps (fun k => k = n4) (wz.setCell ⟨nr, 1, none⟩ (.string p.val)) W' → DoQ B bm v0 l0 c w (.returned (.agg (reCells ⟨0, p.val, none, 0, []⟩))) W' from fun W' hk =>
          DoQ.fin (r := ⟨0, p.val, none, 0, []⟩) (by have h9 := DoP.get (L := l0) (c := c) HCd.out HO.out (by rw [HCu.out]); rw [HCu.out] at h9; exact h9) (HM.out.kept hkz (by have h1 := HNr.out; have h2 := HBm.out; have h3 := HBw.out; omega) hnb) (PrsAt.nil _ _) (fun g o e => by cases e) HKw.out (.inl rfl) HNr.out.2.1 HBw.out (fun e => by have h1 := HVw.out _ e; have h2 := HNr.out; omega) hk)
        have f1 := HR5.out.frozen 1
        clear hkz hnb
        obtain ⟨rr, hrr⟩ : ∃ rr : Re, (⟨0, p.val, none, 0, []⟩ : Re) = rr := ⟨_, rfl⟩
        rw [hrr] at HRn HFin
        clear hrr
        as_aux_lemma =>
          go_upto_region 23 with (fail)
          go_step
          refine wpList_load_reW rfl (.tmp 5) rfl nr 0 rr (ev_tmp (by first | (simp [Act.put]; done) | rfl)) HRn.out.cellsAt ?_
          refine wpList_store_re rfl (.tmp 4) (.tmp 114) rfl n4 rr (reCells reZ) (ev_tmp (by first | (simp [Act.put]; done) | rfl)) (ev_tmp (by first | (simp [Act.put]; done) | rfl)) HR4n.out rfl ?_
          go_wp2_with (fail)
          exact bodyPost_ret (results_re rfl _ n4 rr rfl (Blk.row HR4n.out _)) rfl (HFin.out _ (keeps_setRow (Keeps.refl (fun k => k = n4) _) (.inl rfl) _))
    · have HO := Lib.hid h1
      have e1 : (c.op == 1) = false := by rw [h1]; rfl
      have e2 : (c.op == 2) = false := by rw [h1]; rfl
      have e3 : (c.op == 3) = true := by rw [h1]; rfl
      clear h1
      cases hf : decide (fi < 0) with
      | true =>
        have HCu := Lib.hid (show (curP l0 c.key).2 = false from by unfold curP; rw [HFi.out, if_pos (of_decide_eq_true hf)])
        have hkz : Keeps (fun k => k = nr) wz (wz.setCell ⟨nr, 0, none⟩ (.int .i64 5)) := (Keeps.refl (fun k => k = nr) wz).setCell (p := ⟨nr, 0, none⟩) (.inl rfl) _
        have hnb : ∀ i, v0.ownBlock = some i → ¬ i = nr := fun i hi e => by have h1 := HNr.out; have h2 := HVw.out _ hi; omega
        have HRn := Lib.hid (show Blk (wz.setCell ⟨nr, 0, none⟩ (.int .i64 5)) nr (reCells ⟨5, ⟨#[]⟩, none, 0, []⟩) 51 from HR5.out.set 0 (.int .i64 5))
        have HR4n := Lib.hid (HR4.out.kept hkz (by have h1 := HNr.out; omega))
        have HKw := Lib.hid (show Keeps (fun k => k = bm ∨ v0.ownBlock = some k) w (wz.setCell ⟨nr, 0, none⟩ (.int .i64 5)) from ⟨hkz.os.trans HBz.out.os, hkz.tape.trans HBz.out.tape, hkz.output.trans HBz.out.output, Nat.le_trans HBz.out.size hkz.size, fun k hk1 _ => (hkz.block k (Nat.lt_of_lt_of_le hk1 HBz.out.size) (fun e => by have h1 := HNr.out; omega)).trans (HBz.out.block k hk1)⟩)
        have HFin := Lib.hid (show ∀ W', Keeps (fun k => k = n4) (wz.setCell ⟨nr, 0, none⟩ (.int .i64 5)) W' → DoQ B bm v0 l0 c w (.returned (.agg (reCells ⟨5, ⟨#[]⟩, none, 0, []⟩))) W' from fun W' hk =>
          DoQ.fin (r := ⟨5, ⟨#[]⟩, none, 0, []⟩) (.none HCd.out (.inr HO.out) HCu.out) (HM.out.kept hkz (by have h1 := HNr.out; have h2 := HBm.out; have h3 := HBw.out; omega) hnb) (PrsAt.nil _ _) (fun g o e => by cases e) HKw.out (.inl rfl) HNr.out.2.1 HBw.out (fun e => by have h1 := HVw.out _ e; have h2 := HNr.out; omega) hk)
        have f0 := HR5.out.frozen 0
        clear hkz hnb
        obtain ⟨rr, hrr⟩ : ∃ rr : Re, (⟨5, ⟨#[]⟩, none, 0, []⟩ : Re) = rr := ⟨_, rfl⟩
        rw [hrr] at HRn HFin
        clear hrr
        as_aux_lemma =>
          go_upto_region 23 with (fail)
          go_step
          refine wpList_load_reW rfl (.tmp 5) rfl nr 0 rr (ev_tmp (by first | (simp [Act.put]; done) | rfl)) HRn.out.cellsAt ?_
          refine wpList_store_re rfl (.tmp 4) (.tmp 114) rfl n4 rr (reCells reZ) (ev_tmp (by first | (simp [Act.put]; done) | rfl)) (ev_tmp (by first | (simp [Act.put]; done) | rfl)) HR4n.out rfl ?_
          go_wp2_with (fail)
          exact bodyPost_ret (results_re rfl _ n4 rr rfl (Blk.row HR4n.out _)) rfl (HFin.out _ (keeps_setRow (Keeps.refl (fun k => k = n4) _) (.inl rfl) _))
      | false =>
        have HCu := Lib.hid (show (curP l0 c.key).2 = true from by unfold curP; rw [HFi.out, if_neg (of_decide_eq_false hf)])
        go_upto_region 15 with (fail)
        obtain ⟨i0, hi0, hz0, hz1, hz2⟩ := info_pt
        have HNc := Lib.hid (show ¬ (nc = bm ∨ v0.ownBlock = some nc) from fun e => by
          rcases e with e | e
          · have h1 := HNr.out; have h2 := HBm.out; have h3 := HBw.out; omega
          · have h1 := HNr.out; have h2 := HVw.out _ e; omega)
        have HBl := Lib.hid (Nat.le_trans HBw.out HBz.out.size)
        --GEN r_do15
        refine wp_region_vals [Is (.pointer (some ⟨bm, 0, none⟩)), Is (.pointer (some ⟨bm, 0, none⟩)), Is (.pointer (some ⟨bm, 0, none⟩)), Is (.pointer (some ⟨bm, 0, none⟩)), Is v0, Is (.pointer (some ⟨nc, 1, none⟩)), Is (.int .u64 c.key), Is (.agg #[.int .u64 c.key, .string ⟨#[]⟩, .bool true]), OneN v0 bm ⟨c.key, ⟨#[]⟩, true⟩, RowN wz B v0 (l0 ++ [⟨c.key, ⟨#[]⟩, true⟩]), Is (.pointer (some ⟨bm, 0, none⟩)), Is (.pointer (some ⟨bm, 0, none⟩)), Any]
          (fun i => Keeps (fun g => (i = 9 ∧ v0.ownBlock = some g) ∨ (i = 12 ∧ g = bm))) (fun L W => Keeps (fun k => k = bm ∨ v0.ownBlock = some k) wz W ∧ (L 9 = true ∨ RowPt B l0 v0 W) ∧ (L 12 = true ∨ Blk W bm #[v0] 37) ∧ (L 12 = true → MapN wz B bm v0 (l0 ++ [⟨c.key, ⟨#[]⟩, true⟩]) W)) (by kernel_rfl) (by kernel_rfl) (by kernel_rfl) ?hst ?h0 ⟨?o0, ?o1, ?o2, ?o3, ?o4, ?o5, ?o6, ?o7, ?o8, ?o9, ?o10, ?o11, ?o12, trivial⟩ ?he
        case hst =>
          exact ⟨(fun _ _ _ _ _ _ h _ => h), (fun _ _ _ _ _ _ h _ => h), (fun _ _ _ _ _ _ h _ => h), (fun _ _ _ _ _ _ h _ => h), (fun _ _ _ _ _ _ h _ => h), (fun _ _ _ _ _ _ h _ => h), (fun _ _ _ _ _ _ h _ => h), (fun _ _ _ _ _ _ h _ => h), (fun _ _ _ _ _ _ h hR => by obtain ⟨H, e, hb, hn, hm⟩ := h; exact ⟨H, e, hb.kept hR (fun hx => by rcases hx with hx | hx; exact hn hx.2; exact hm hx.2), hn, hm⟩), (fun _ hij _ _ _ _ h hR => ⟨own_keeps h.1 hR (fun i hi hx => by rcases hx with hx | hx; exact hij hx.1; have h9 := own_base h.1 i hi; have h8 := HBm.out; omega), h.2⟩), (fun _ _ _ _ _ _ h _ => h), (fun _ _ _ _ _ _ h _ => h), (fun _ _ _ _ _ _ h _ => h), trivial⟩
        case h0 =>
          exact ⟨(Keeps.refl _ wz).drew, .inr (own_keeps HM.out.o ((Keeps.refl (fun _ => False) _).drew) (fun _ _ h => h)), .inr HM.out.b.drew, fun h => (by cases h)⟩
        case o0 =>
          intro L vs A W H hf hd K hK
          have e0 : A.tmps[0]?.getD undef = .pointer (some ⟨bm, 0, none⟩) := H.old 0 (by kernel_rfl)
          go_simp
          exact hK _ _ (Keeps.refl _ _) rfl (H.glob)
        case o1 =>
          intro L vs A W H hf hd K hK
          have e0 : A.tmps[0]?.getD undef = .pointer (some ⟨bm, 0, none⟩) := H.old 0 (by kernel_rfl)
          go_simp
          exact hK _ _ (Keeps.refl _ _) rfl (H.glob)
        case o2 =>
          intro L vs A W H hf hd K hK
          have e58 := H.is 1 58 rfl rfl rfl (deps_of' hd 1 (by kernel_rfl)) (by kernel_rfl)
          go_simp
          exact hK _ _ (Keeps.refl _ _) rfl (H.glob)
        case o3 =>
          intro L vs A W H hf hd K hK
          have e59 := H.is 2 59 rfl rfl rfl (deps_of' hd 2 (by kernel_rfl)) (by kernel_rfl)
          go_simp
          exact hK _ _ (Keeps.refl _ _) rfl (H.glob)
        case o4 =>
          intro L vs A W H hf hd K hK
          have e60 := H.is 3 60 rfl rfl rfl (deps_of' hd 3 (by kernel_rfl)) (by kernel_rfl)
          have n11 := H.notYet 9 4 rfl hf (by kernel_rfl)
          have n14 := H.notYet 12 9 rfl n11 (by kernel_rfl)
          have hbm : Blk W bm #[v0] 37 := by rcases H.glob.2.2.1 with h | h; (rw [n14] at h; cases h); exact h
          have d : W.cell? ⟨bm, 0, none⟩ = some v0 := by rw [hbm.cell]; rfl
          go_simp
          exact hK _ _ (Keeps.refl _ _) rfl (H.glob)
        case o5 =>
          intro L vs A W H hf hd K hK
          have e3 : A.tmps[3]?.getD undef = .pointer (some ⟨nc, 0, none⟩) := H.old 3 (by kernel_rfl)
          go_simp
          exact hK _ _ (Keeps.refl _ _) rfl (H.glob)
        case o6 =>
          intro L vs A W H hf hd K hK
          have e62 := H.is 5 62 rfl rfl rfl (deps_of' hd 5 (by kernel_rfl)) (by kernel_rfl)
          have d : W.cell? ⟨nc, 1, none⟩ = some (.int .u64 c.key) := by rw [(HCb.out.kept H.glob.1 HNc.out).cell]; rfl
          go_simp
          exact hK _ _ (Keeps.refl _ _) rfl (H.glob)
        case o7 =>
          intro L vs A W H hf hd K hK
          have e63 := H.is 6 63 rfl rfl rfl (deps_of' hd 6 (by kernel_rfl)) (by kernel_rfl)
          go_simp
          exact hK _ _ (Keeps.refl _ _) rfl (H.glob)
        case o8 =>
          intro L vs A W H hf hd K hK
          have e64 := H.is 7 64 rfl rfl rfl (deps_of' hd 7 (by kernel_rfl)) (by kernel_rfl)
          have n11 := H.notYet 9 8 rfl hf (by kernel_rfl)
          have n14 := H.notYet 12 9 rfl n11 (by kernel_rfl)
          have hrow : RowPt B l0 v0 W := by rcases H.glob.2.1 with h | h; (rw [n11] at h; cases h); exact h
          have hbm : Blk W bm #[v0] 37 := by rcases H.glob.2.2.1 with h | h; (rw [n14] at h; cases h); exact h
          have hnb : v0.ownBlock ≠ some W.heap.size := fun e => by have := own_ltS hrow e; omega
          have hnm : W.heap.size ≠ bm := fun e => by have := hbm.lt; omega
          have hg1 := H.glob.1
          go_simp
          exact hK _ _ ((Keeps.refl _ _).alloc _) ⟨_, rfl, Blk.new _ _ _, hnb, hnm⟩ ⟨hg1.alloc _, .inr (own_keeps hrow ((Keeps.refl (fun _ => False) _).alloc _) (fun _ _ h => h)), .inr (hbm.alloc _), fun h => by have h9 : L 12 = true := h; rw [n14] at h9; cases h9⟩
        case o9 =>
          intro L vs A W H hf hd K hK
          have e61 := H.is 4 61 rfl rfl rfl (deps_of' hd 4 (by kernel_rfl)) (by kernel_rfl)
          obtain ⟨v65, e65, q65⟩ := H.val 8 65 rfl rfl rfl (deps_of' hd 8 (by kernel_rfl)) (by kernel_rfl)
          have n14 := H.notYet 12 9 rfl hf (by kernel_rfl)
          have hf11 : L 9 = false := hf
          have hrow : RowPt B l0 v0 W := by rcases H.glob.2.1 with h | h; (rw [hf11] at h; cases h); exact h
          have hbm : Blk W bm #[v0] 37 := by rcases H.glob.2.2.1 with h | h; (rw [n14] at h; cases h); exact h
          have hg1 := H.glob.1
          obtain ⟨H2, rfl, hb2, hn2, _⟩ := q65
          refine step_append_any (w := W) rfl (.tmp 61) (.tmp 65) 35 rfl B 97 i0 _ 3 32 Try.underlying35 hi0 hz0 hz1 hz2 rfl (by omega) v0 l0.length (tcells l0) (ev_tmp e61) hrow W.heap.size (some ⟨H2, 0, none⟩) 1 1 (ptCells ⟨c.key, ⟨#[]⟩, true⟩).toList (ev_tmp e65) (reads_one_pt hb2) (one_cells_pt _) (by unfold maxLen; have := HLn.out; omega) (by have := HLn.out; omega) (Nat.le_trans HBl.out hg1.size) ?_
          intro v' w' hown' hg' ho'
          have hne : v0.ownBlock ≠ some bm := fun e => by have h9 := own_base hrow bm e; have h8 := HBm.out; omega
          exact hK _ _ ((Keeps.refl _ _).grown hg' (fun _ e => .inl (.inl ⟨rfl, e⟩))) ⟨row_push_pt hown', ho'.imp (fun h => h) (fun h => ⟨_, h, hg1.size⟩)⟩ ⟨hg1.grown hg' (fun _ e => .inl (.inr e)), .inl rfl, .inr (hbm.grown hg' (fun e => hne e.symm)), fun h => by have h9 : L 12 = true := h; rw [n14] at h9; cases h9⟩
        case o10 =>
          intro L vs A W H hf hd K hK
          have e57 := H.is 0 57 rfl rfl rfl (deps_of' hd 0 (by kernel_rfl)) (by kernel_rfl)
          go_simp
          exact hK _ _ (Keeps.refl _ _) rfl (H.glob)
        case o11 =>
          intro L vs A W H hf hd K hK
          have e67 := H.is 10 67 rfl rfl rfl (deps_of' hd 10 (by kernel_rfl)) (by kernel_rfl)
          go_simp
          exact hK _ _ (Keeps.refl _ _) rfl (H.glob)
        case o12 =>
          intro L vs A W H hf hd K hK
          have e68 := H.is 11 68 rfl rfl rfl (deps_of' hd 11 (by kernel_rfl)) (by kernel_rfl)
          obtain ⟨v66, e66, q66⟩ := H.val 9 66 rfl rfl rfl (deps_of' hd 9 (by kernel_rfl)) (by kernel_rfl)
          have hf14 : L 12 = false := hf
          have hbm : Blk W bm #[v0] 37 := by rcases H.glob.2.2.1 with h | h; (rw [hf14] at h; cases h); exact h
          have d1 := hbm.frozen 0
          have d2 : W.cell? ⟨bm, 0, none⟩ = some v0 := by rw [hbm.cell]; rfl
          have hg1 := H.glob.1
          have h11 : L 9 = true := deps_of' hd 9 (by kernel_rfl)
          have hq := q66
          obtain ⟨aN, mN, cN, rfl⟩ := own_slice hq.1
          go_simp
          refine hK undef _ ((Keeps.refl _ _).setCell (p := ⟨bm, 0, none⟩) (.inl (.inr ⟨rfl, rfl⟩)) _) trivial ⟨hg1.setCell (p := ⟨bm, 0, none⟩) (.inl (.inl rfl)) _, .inl h11, .inl rfl, fun _ => ⟨_, by have h9 := hbm.set 0 (.slice aN mN cN); simpa using h9, own_keeps hq.1 ((Keeps.refl (fun k => k = bm) _).setCell (p := ⟨bm, 0, none⟩) (.inl rfl) _) (fun i hi hx => by have h9 := own_base hq.1 i hi; have h8 := HBm.out; omega), hq.2⟩⟩
        case he =>
          intro vs W hlen hv
          match vs, hlen, hv with
          | [x0_, x1_, x2_, x3_, x4_, x5_, x6_, x7_, x8_, x9_, x10_, x11_, x12_], _, hv =>
          obtain rfl : (.pointer (some ⟨bm, 0, none⟩)) = x0_ := by obtain ⟨z, h1, h2⟩ := hv 0 _ rfl; cases h1; exact h2.symm
          obtain rfl : (.pointer (some ⟨bm, 0, none⟩)) = x1_ := by obtain ⟨z, h1, h2⟩ := hv 1 _ rfl; cases h1; exact h2.symm
          obtain rfl : (.pointer (some ⟨bm, 0, none⟩)) = x2_ := by obtain ⟨z, h1, h2⟩ := hv 2 _ rfl; cases h1; exact h2.symm
          obtain rfl : (.pointer (some ⟨bm, 0, none⟩)) = x3_ := by obtain ⟨z, h1, h2⟩ := hv 3 _ rfl; cases h1; exact h2.symm
          obtain rfl : v0 = x4_ := by obtain ⟨z, h1, h2⟩ := hv 4 _ rfl; cases h1; exact h2.symm
          obtain rfl : (.pointer (some ⟨nc, 1, none⟩)) = x5_ := by obtain ⟨z, h1, h2⟩ := hv 5 _ rfl; cases h1; exact h2.symm
          obtain rfl : (.int .u64 c.key) = x6_ := by obtain ⟨z, h1, h2⟩ := hv 6 _ rfl; cases h1; exact h2.symm
          obtain rfl : (.agg #[.int .u64 c.key, .string ⟨#[]⟩, .bool true]) = x7_ := by obtain ⟨z, h1, h2⟩ := hv 7 _ rfl; cases h1; exact h2.symm
          have hx8 : (OneN v0 bm ⟨c.key, ⟨#[]⟩, true⟩) x8_ W := by obtain ⟨z, h1, h2⟩ := hv 8 _ rfl; cases h1; exact h2
          have hx9 : (RowN wz B v0 (l0 ++ [⟨c.key, ⟨#[]⟩, true⟩])) x9_ W := by obtain ⟨z, h1, h2⟩ := hv 9 _ rfl; cases h1; exact h2
          obtain rfl : (.pointer (some ⟨bm, 0, none⟩)) = x10_ := by obtain ⟨z, h1, h2⟩ := hv 10 _ rfl; cases h1; exact h2.symm
          obtain rfl : (.pointer (some ⟨bm, 0, none⟩)) = x11_ := by obtain ⟨z, h1, h2⟩ := hv 11 _ rfl; cases h1; exact h2.symm
          intro L hall hG
          clear hv hlen
          have HK := Lib.hid hG.1
          have HN := Lib.hid (hG.2.2.2 (hall 12 (by decide)))
          clear hG hall hx8 hx9
          simp only [fill, if_true]
          simp [Act.put]
        --END
          clear c0
          obtain ⟨v', hb', ho', hn'⟩ := HN.out
          have hnr : ¬ (nr = bm ∨ v0.ownBlock = some nr) := fun e => by
            rcases e with e | e
            · have h1 := HNr.out; have h2 := HBm.out; have h3 := HBw.out; omega
            · have h1 := HNr.out; have h2 := HVw.out _ e; omega
          have hn4 : ¬ (n4 = bm ∨ v0.ownBlock = some n4) := fun e => by
            rcases e with e | e
            · have h1 := HNr.out; have h2 := HBm.out; have h3 := HBw.out; omega
            · have h1 := HNr.out; have h2 := HVw.out _ e; omega
          have HRn := Lib.hid (HR5.out.kept HK.out hnr)
          have HR4n := Lib.hid (HR4.out.kept HK.out hn4)
          have HKw := Lib.hid (show Keeps (fun k => k = bm ∨ v0.ownBlock = some k) w W from ((Keeps.of_below' HBz.out).mono (fun _ _ h => h.elim) : Keeps (fun k => k = bm ∨ v0.ownBlock = some k) w wz).trans HK.out)
          have HFin := Lib.hid (show ∀ W', Keeps (fun k => k = n4) W W' → DoQ B bm v0 l0 c w (.returned (.agg (reCells ⟨0, ⟨#[]⟩, none, 0, []⟩))) W' from fun W' hk =>
            DoQ.fin (r := ⟨0, ⟨#[]⟩, none, 0, []⟩) (.del HCd.out HO.out HCu.out) ⟨hb', ho', HBm.out, Nat.le_trans HBw.out HKw.out.size⟩ (PrsAt.nil _ _) (fun g o e => by cases e) HKw.out (hn'.mono HBz.out.size) HNr.out.2.1 HBw.out (fun e => by
              rcases hn' with h1 | ⟨i, h1, h2⟩
              · rw [h1] at e; have h3 := HVw.out _ e; have h4 := HNr.out; omega
              · rw [h1] at e; cases e; have h3 := HR4.out.lt; omega) hk)
          clear hb' ho' hn' hnr hn4
          obtain ⟨rr, hrr⟩ : ∃ rr : Re, (⟨0, ⟨#[]⟩, none, 0, []⟩ : Re) = rr := ⟨_, rfl⟩
          rw [hrr] at HRn HFin
          clear hrr
          as_aux_lemma =>
            go_upto_region 23 with (fail)
            go_step
            refine wpList_load_reW rfl (.tmp 5) rfl nr 0 rr (ev_tmp (by first | (simp [Act.put]; done) | rfl)) HRn.out.cellsAt ?_
            refine wpList_store_re rfl (.tmp 4) (.tmp 114) rfl n4 rr (reCells reZ) (ev_tmp (by first | (simp [Act.put]; done) | rfl)) (ev_tmp (by first | (simp [Act.put]; done) | rfl)) HR4n.out rfl ?_
            go_wp2_with (fail)
            exact bodyPost_ret (results_re rfl _ n4 rr rfl (Blk.row HR4n.out _)) rfl (HFin.out _ (keeps_setRow (Keeps.refl (fun k => k = n4) _) (.inl rfl) _))
    · have HO := Lib.hid h1
      have e1 : (c.op == 1) = false := by rw [h1]; rfl
      have e2 : (c.op == 2) = false := by rw [h1]; rfl
      have e3 : (c.op == 3) = false := by rw [h1]; rfl
      have e4 : (c.op == 4) = true := by rw [h1]; rfl
      have HLim := Lib.hid (show 1 ≤ c.lim ∧ c.lim ≤ 256 from by
        have h := HCd.out
        unfold mayC at h
        split at h
        · exact absurd h (by decide)
        · split at h
          · exact absurd h (by decide)
          · rename_i h8 h9
            simp [h1] at h9
            omega)
      clear h1 c0
      go_upto_region 17 with (fail)
      go_wp2_with (fail)
      refine (pairs_v l0 a0 cc0 bm wz (by have := HLn.out; omega) (HV0.out ▸ HM.out.b) HPt.out).mono ?_
      rintro e9 w9 ⟨v9, ps, rfl, ho9, hok, hB9⟩
      obtain ⟨pa9, pc9, rfl, hp9⟩ := own_prs ho9
      have HOk := Lib.hid hok
      have HB9 := Lib.hid hB9
      have HP9 := Lib.hid hp9
      have HPb := Lib.hid (show ∀ g o, pa9 = some ⟨g, o, none⟩ → wz.heap.size ≤ g from fun g o e => own_base ho9 g (by rw [e]; rfl))
      have HPl := Lib.hid (show ps.length ≤ 50000 from Nat.le_trans hok.s.len HLn.out)
      have HC9 := Lib.hid (HCb.out.kept (Keeps.of_below' hB9) (fun h => h))
      have HR9 := Lib.hid (HR5.out.kept (Keeps.of_below' hB9) (fun h => h))
      obtain ⟨pn, hpn⟩ : ∃ pn, ps.length = pn := ⟨_, rfl⟩
      rw [hpn]
      have HPN := Lib.hid hpn
      have hpn6 : (pn : Int) ≤ 50000 := by have := HPl.out; omega
      obtain ⟨lm, hlm⟩ : ∃ lm : Nat, c.lim = (lm : Int) := ⟨c.lim.toNat, by have := HLim.out; omega⟩
      have HLm := Lib.hid hlm
      clear ho9 hok hB9 hp9 hpn hlm
      go_upto_region 18 with (fail)
      go_wp2_with (fail)
      go_loopw [8] (fun kv wr => ∃ (k : Nat) (u : Value), k ≤ pn ∧ kv = .int .i64 k ∧ Hid (Blk wr nr #[.int .i64 0, .string ⟨#[]⟩, u] 51) ∧ Hid (RowPr w9.heap.size ((ps.take k).filter (inR c)) u wr) ∧ Hid (((ps.take k).filter (inR c)).length ≤ lm) ∧ Hid (Keeps (fun k => k = nr) w9 wr)) (fun kv _ => pn - (intOf kv).toNat)
      case atStart => exact ⟨0, .slice none 0 0, Nat.zero_le _, rfl, HR9, Lib.hid (World.ownsRow_nil _ _ _ _), Lib.hid (by simp), Lib.hid (Keeps.refl _ _)⟩
      case round =>
        obtain ⟨k, vc, hk, rfl, HRb, HRw, HLe, HKr⟩ := hrel
        obtain ⟨lc, hlc⟩ : ∃ lc, (ps.take k).filter (inR c) = lc := ⟨_, rfl⟩
        rw [hlc] at HRw HLe
        have HLC := Lib.hid hlc
        obtain ⟨ua, uc, hvc, hup⟩ := own_prs HRw.out
        have HUp := Lib.hid hup
        have HVc := Lib.hid hvc
        obtain ⟨cn, hcn⟩ : ∃ cn, lc.length = cn := ⟨_, rfl⟩
        have HCN := Lib.hid hcn
        have y2 : wr.cell? ⟨nr, 2, none⟩ = some (.slice ua cn uc) := by rw [HRb.out.cell, hvc, hcn]; rfl
        have hbc := HC9.out.kept HKr.out (by have := HNr.out; omega)
        have z1 : wr.cell? ⟨nc, 1, none⟩ = some (.int .u64 c.key) := by rw [hbc.cell]; rfl
        have z2 : wr.cell? ⟨nc, 2, none⟩ = some (.int .u64 c.hi) := by rw [hbc.cell]; rfl
        have z3 : wr.cell? ⟨nc, 3, none⟩ = some (.int .i64 (lm : Int)) := by rw [hbc.cell, ← HLm.out]; rfl
        have HCl := Lib.hid (show cn ≤ lm from by rw [← HCN.out]; exact HLe.out)
        clear hlc hup hvc hcn hbc
        by_cases hkt : k < pn
        · have hkb : (k : Int) < (pn : Int) := by omega
          have HKt := Lib.hid hkt
          by_cases hcl : cn < lm
          · have hcb : (cn : Int) < (lm : Int) := by omega
            have HCn9 := Lib.hid (show lc.length + 1 ≤ lm from by rw [HCN.out]; omega)
            clear hcl
            obtain ⟨g, o, hpa, hg, hc⟩ := (PrsAt.at_ (HP9.out) (k := k) (by have := HPN.out; omega))
            obtain ⟨p, hp⟩ : ∃ p, ps.getD k prZ = p := ⟨_, rfl⟩
            rw [hp] at hc
            have HPk0 := Lib.hid (And.intro hg hc)
            have hgn : g ≠ nr := fun e => by have h1 := HPb.out g o hpa; have h2 := HR5.out.lt; omega
            have hck := hc.kept hg HKr.out hgn
            have x0 : wr.cell? ⟨g, o + k * 2, none⟩ = some (.int .u64 p.key) := hck 0 _ rfl
            have HTs := Lib.hid (show (ps.take (k + 1)).filter (inR c) = lc ++ (if inR c p = true then [p] else []) from by rw [take_filt _ _ _ (by have := HPN.out; omega), HLC.out, hp])
            have HGn := Lib.hid hgn
            rw [hpa]
            clear hc hp hck hgn hpa
            cases h1 : decide (c.key ≤ p.key) with
            | false =>
              have HNo := Lib.hid (show (ps.take (k + 1)).filter (inR c) = lc from by rw [HTs.out]; unfold inR; rw [h1]; simp)
              go_wp2_with (fail)
              go_quiet (fail)
              go_wp2_with (fail)
              go_roundw
              case rel => exact ⟨k + 1, vc, HKt.out, by go_num, Lib.hid HRb.out, Lib.hid (by rw [HNo.out]; exact HRw.out), Lib.hid (by rw [HNo.out]; exact HLe.out), Lib.hid ((HKr.out.trans (keeps_drewN _ _)))⟩
              case measure => have := HKt.out; simp [intOf]; omega
            | true =>
              cases h2 : decide (p.key ≤ c.hi) with
              | false =>
                have HNo := Lib.hid (show (ps.take (k + 1)).filter (inR c) = lc from by rw [HTs.out]; unfold inR; rw [h1, h2]; simp)
                go_wp2_with (fail)
                go_quiet (fail)
                go_wp2_with (fail)
                go_roundw
                case rel => exact ⟨k + 1, vc, HKt.out, by go_num, Lib.hid HRb.out, Lib.hid (by rw [HNo.out]; exact HRw.out), Lib.hid (by rw [HNo.out]; exact HLe.out), Lib.hid ((HKr.out.trans (keeps_drewN _ _)))⟩
                case measure => have := HKt.out; simp [intOf]; omega
              | true =>
                have HYe := Lib.hid (show (ps.take (k + 1)).filter (inR c) = lc ++ [p] from by rw [HTs.out]; unfold inR; rw [h1, h2]; simp)
                go_wp2_with (fail)
                go_quiet (fail)
                rename_i nq
                go_upto_region 22 with (fail)
                have HRb2 := Lib.hid (show Blk (wr.drewN nq) nr #[.int .i64 0, .string ⟨#[]⟩, vc] 51 from HRb.out)
                have HRw2 := Lib.hid (own_keeps HRw.out (keeps_drewN (S := fun _ => False) wr nq) (fun _ _ h => h))
                have HKq := Lib.hid (HKr.out.trans (keeps_drewN (S := fun k => k = nr) wr nq))
                generalize wr.drewN nq = wq at HRb2 HRw2 HKq ⊢
                clear x0 y2 z1 z2 z3
                have HRb := HRb2
                have HRw := HRw2
                obtain ⟨i0, hi0, hz0, hz1, hz2⟩ := info_pr
                have HLc := Lib.hid (show lc.length ≤ 50000 from by rw [← HLC.out]; exact Nat.le_trans (List.length_filter_le _ _) (by rw [List.length_take]; have := HPl.out; omega))
                obtain ⟨B2, hB2⟩ : ∃ B2, w9.heap.size = B2 := ⟨_, rfl⟩
                have HBq := Lib.hid (show B2 ≤ wq.heap.size from by rw [← hB2]; exact HKq.out.size)
                have HBn := Lib.hid (show nr < B2 from by rw [← hB2]; exact HR9.out.lt)
                have HKb := Lib.hid hkb
                rw [hB2] at HRw
                have HPk := Lib.hid (show ∀ W, Keeps (fun k => k = nr ∨ vc.ownBlock = some k) wq W → cellsAt W g (o + k * 2) (prCells p) from fun W hW => by
                  have h1 := (HPk0.out.2.kept HPk0.out.1 HKq.out HGn.out)
                  exact h1.kept (Nat.lt_of_lt_of_le HPk0.out.1 HKq.out.size) hW (fun e => by
                    rcases e with e | e
                    · exact HGn.out e
                    · have h2 := own_base HRw.out g e; have h3 := HPk0.out.1; omega))
                have HB2e := Lib.hid hB2
                clear hB2
                --GEN r_do22
                refine wp_region_vals [Is (.pointer (some ⟨nr, 2, none⟩)), Is vc, Is (.slice (some ⟨g, o, none⟩) pn pc9), Is (.int .i64 (k : Int)), Is (.pointer (some ⟨g, o + k * 2, none⟩)), Is (.agg (prCells p)), OneR vc nr p, RowPr B2 (lc ++ [p]), Is (.pointer (some ⟨nr, 2, none⟩)), Any]
                  (fun i => Keeps (fun g => (i = 7 ∧ vc.ownBlock = some g) ∨ (i = 9 ∧ g = nr))) (fun L W => Keeps (fun k => k = nr ∨ vc.ownBlock = some k) wq W ∧ (L 7 = true ∨ RowPr B2 lc vc W) ∧ (L 9 = true ∨ Blk W nr #[.int .i64 0, .string ⟨#[]⟩, vc] 51) ∧ (L 9 = true → ∃ v', Blk W nr #[.int .i64 0, .string ⟨#[]⟩, v'] 51 ∧ RowPr B2 (lc ++ [p]) v' W)) (by kernel_rfl) (by kernel_rfl) (by kernel_rfl) ?hst ?h0 ⟨?o0, ?o1, ?o2, ?o3, ?o4, ?o5, ?o6, ?o7, ?o8, ?o9, trivial⟩ ?he
                case hst =>
                  exact ⟨(fun _ _ _ _ _ _ h _ => h), (fun _ _ _ _ _ _ h _ => h), (fun _ _ _ _ _ _ h _ => h), (fun _ _ _ _ _ _ h _ => h), (fun _ _ _ _ _ _ h _ => h), (fun _ _ _ _ _ _ h _ => h), (fun _ _ _ _ _ _ h hR => by obtain ⟨H, e, hb, hn, hm⟩ := h; exact ⟨H, e, hb.kept hR (fun hx => by rcases hx with hx | hx; exact hn hx.2; exact hm hx.2), hn, hm⟩), (fun _ hij _ _ _ _ h hR => own_keeps h hR (fun i hi hx => by rcases hx with hx | hx; exact hij hx.1; have h9 := own_base h i hi; have h8 := HBn.out; omega)), (fun _ _ _ _ _ _ h _ => h), (fun _ _ _ _ _ _ h _ => h), trivial⟩
                case h0 =>
                  exact ⟨(Keeps.refl _ wq).drew, .inr (own_keeps HRw.out ((Keeps.refl (fun _ => False) _).drew) (fun _ _ h => h)), .inr HRb.out.drew, fun h => (by cases h)⟩
                case o0 =>
                  intro L vs A W H hf hd K hK
                  have e5 : A.tmps[5]?.getD undef = .pointer (some ⟨nr, 0, none⟩) := H.old 5 (by kernel_rfl)
                  go_simp
                  exact hK _ _ (Keeps.refl _ _) rfl (H.glob)
                case o1 =>
                  intro L vs A W H hf hd K hK
                  have e105 := H.is 0 105 rfl rfl rfl (deps_of' hd 0 (by kernel_rfl)) (by kernel_rfl)
                  have n7 := H.notYet 7 1 rfl hf (by kernel_rfl)
                  have n9 := H.notYet 9 7 rfl n7 (by kernel_rfl)
                  have hbm : Blk W nr #[.int .i64 0, .string ⟨#[]⟩, vc] 51 := by rcases H.glob.2.2.1 with h | h; (rw [n9] at h; cases h); exact h
                  have d : W.cell? ⟨nr, 2, none⟩ = some vc := by rw [hbm.cell]; rfl
                  go_simp
                  exact hK _ _ (Keeps.refl _ _) rfl (H.glob)
                case o2 =>
                  intro L vs A W H hf hd K hK
                  have e7 : A.tmps[7]?.getD undef = .slice (some ⟨g, o, none⟩) pn pc9 := H.old 7 (by kernel_rfl)
                  go_simp
                  exact hK _ _ (Keeps.refl _ _) rfl (H.glob)
                case o3 =>
                  intro L vs A W H hf hd K hK
                  have e8 : A.tmps[8]?.getD undef = .int .i64 (k : Int) := H.old 8 (by kernel_rfl)
                  go_simp
                  exact hK _ _ (Keeps.refl _ _) rfl (H.glob)
                case o4 =>
                  intro L vs A W H hf hd K hK
                  have e107 := H.is 2 107 rfl rfl rfl (deps_of' hd 2 (by kernel_rfl)) (by kernel_rfl)
                  have e108 := H.is 3 108 rfl rfl rfl (deps_of' hd 3 (by kernel_rfl)) (by kernel_rfl)
                  have hkl := HKb.out
                  go_simp
                  exact hK _ _ (Keeps.refl _ _) rfl (H.glob)
                case o5 =>
                  intro L vs A W H hf hd K hK
                  have e109 := H.is 4 109 rfl rfl rfl (deps_of' hd 4 (by kernel_rfl)) (by kernel_rfl)
                  rw [if_pos (show Region.wanted _ _ = true from rfl)]
                  refine wp_load_pr (.tmp 109) rfl g (o + k * 2) p (ev_tmp e109) (HPk.out W H.glob.1) ?_
                  exact hK _ _ (Keeps.refl _ _) rfl H.glob
                case o6 =>
                  intro L vs A W H hf hd K hK
                  have e110 := H.is 5 110 rfl rfl rfl (deps_of' hd 5 (by kernel_rfl)) (by kernel_rfl)
                  have n7 := H.notYet 7 6 rfl hf (by kernel_rfl)
                  have n9 := H.notYet 9 7 rfl n7 (by kernel_rfl)
                  have hrow : RowPr B2 lc vc W := by rcases H.glob.2.1 with h | h; (rw [n7] at h; cases h); exact h
                  have hbm : Blk W nr #[.int .i64 0, .string ⟨#[]⟩, vc] 51 := by rcases H.glob.2.2.1 with h | h; (rw [n9] at h; cases h); exact h
                  have hnb : vc.ownBlock ≠ some W.heap.size := fun e => by have := own_ltS hrow e; omega
                  have hnm : W.heap.size ≠ nr := fun e => by have := hbm.lt; omega
                  have hg1 := H.glob.1
                  unfold prCells at e110
                  go_simp
                  exact hK _ _ ((Keeps.refl _ _).alloc _) ⟨_, rfl, Blk.new _ _ _, hnb, hnm⟩ ⟨hg1.alloc _, .inr (own_keeps hrow ((Keeps.refl (fun _ => False) _).alloc _) (fun _ _ h => h)), .inr (hbm.alloc _), fun h => by have h9 : L 9 = true := h; rw [n9] at h9; cases h9⟩
                case o7 =>
                  intro L vs A W H hf hd K hK
                  have e106 := H.is 1 106 rfl rfl rfl (deps_of' hd 1 (by kernel_rfl)) (by kernel_rfl)
                  obtain ⟨v111, e111, q111⟩ := H.val 6 111 rfl rfl rfl (deps_of' hd 6 (by kernel_rfl)) (by kernel_rfl)
                  have n9 := H.notYet 9 7 rfl hf (by kernel_rfl)
                  have hf7 : L 7 = false := hf
                  have hrow : RowPr B2 lc vc W := by rcases H.glob.2.1 with h | h; (rw [hf7] at h; cases h); exact h
                  have hbm : Blk W nr #[.int .i64 0, .string ⟨#[]⟩, vc] 51 := by rcases H.glob.2.2.1 with h | h; (rw [n9] at h; cases h); exact h
                  have hg1 := H.glob.1
                  obtain ⟨H2, rfl, hb2, hn2, _⟩ := q111
                  refine step_append_any (w := W) rfl (.tmp 106) (.tmp 111) 22 rfl B2 59 i0 _ 2 24 Try.underlying22 hi0 hz0 hz1 hz2 rfl (by omega) vc lc.length (pcells lc) (ev_tmp e106) hrow W.heap.size (some ⟨H2, 0, none⟩) 1 1 (prCells p).toList (ev_tmp e111) (reads_one_pr hb2) (one_cells_pr _) (by unfold maxLen; have := HLc.out; omega) (by have := HLc.out; omega) (Nat.le_trans HBq.out hg1.size) ?_
                  intro v' w' hown' hg' _
                  have hne : vc.ownBlock ≠ some nr := fun e => by have h9 := own_base hrow nr e; have h8 := HBn.out; omega
                  exact hK _ _ ((Keeps.refl _ _).grown hg' (fun _ e => .inl (.inl ⟨rfl, e⟩))) (row_push_pr hown') ⟨hg1.grown hg' (fun _ e => .inl (.inr e)), .inl rfl, .inr (hbm.grown hg' (fun e => hne e.symm)), fun h => by have h9 : L 9 = true := h; rw [n9] at h9; cases h9⟩
                case o8 =>
                  intro L vs A W H hf hd K hK
                  have e5 : A.tmps[5]?.getD undef = .pointer (some ⟨nr, 0, none⟩) := H.old 5 (by kernel_rfl)
                  go_simp
                  exact hK _ _ (Keeps.refl _ _) rfl (H.glob)
                case o9 =>
                  intro L vs A W H hf hd K hK
                  have e113 := H.is 8 113 rfl rfl rfl (deps_of' hd 8 (by kernel_rfl)) (by kernel_rfl)
                  obtain ⟨v112, e112, q112⟩ := H.val 7 112 rfl rfl rfl (deps_of' hd 7 (by kernel_rfl)) (by kernel_rfl)
                  have hf9 : L 9 = false := hf
                  have hbm : Blk W nr #[.int .i64 0, .string ⟨#[]⟩, vc] 51 := by rcases H.glob.2.2.1 with h | h; (rw [hf9] at h; cases h); exact h
                  have d1 := hbm.frozen 2
                  have d2 : W.cell? ⟨nr, 2, none⟩ = some vc := by rw [hbm.cell]; rfl
                  have hg1 := H.glob.1
                  have h7 : L 7 = true := deps_of' hd 7 (by kernel_rfl)
                  have hq := q112
                  obtain ⟨aN, mN, cN, rfl⟩ := own_slice hq
                  go_simp
                  refine hK undef _ ((Keeps.refl _ _).setCell (p := ⟨nr, 2, none⟩) (.inl (.inr ⟨rfl, rfl⟩)) _) trivial ⟨hg1.setCell (p := ⟨nr, 2, none⟩) (.inl (.inl rfl)) _, .inl h7, .inl rfl, fun _ => ⟨_, by have h9 := hbm.set 2 (.slice aN mN cN); simpa using h9, own_keeps hq ((Keeps.refl (fun k => k = nr) _).setCell (p := ⟨nr, 2, none⟩) (.inl rfl) _) (fun i hi hx => by have h9 := own_base hq i hi; have h8 := HBn.out; omega)⟩⟩
                case he =>
                  intro vs W hlen hv
                  match vs, hlen, hv with
                  | [x0_, x1_, x2_, x3_, x4_, x5_, x6_, x7_, x8_, x9_], _, hv =>
                  obtain rfl : (.pointer (some ⟨nr, 2, none⟩)) = x0_ := by obtain ⟨z, h1, h2⟩ := hv 0 _ rfl; cases h1; exact h2.symm
                  obtain rfl : vc = x1_ := by obtain ⟨z, h1, h2⟩ := hv 1 _ rfl; cases h1; exact h2.symm
                  obtain rfl : (.slice (some ⟨g, o, none⟩) pn pc9) = x2_ := by obtain ⟨z, h1, h2⟩ := hv 2 _ rfl; cases h1; exact h2.symm
                  obtain rfl : (.int .i64 (k : Int)) = x3_ := by obtain ⟨z, h1, h2⟩ := hv 3 _ rfl; cases h1; exact h2.symm
                  obtain rfl : (.pointer (some ⟨g, o + k * 2, none⟩)) = x4_ := by obtain ⟨z, h1, h2⟩ := hv 4 _ rfl; cases h1; exact h2.symm
                  obtain rfl : (.agg (prCells p)) = x5_ := by obtain ⟨z, h1, h2⟩ := hv 5 _ rfl; cases h1; exact h2.symm
                  have hx6 : (OneR vc nr p) x6_ W := by obtain ⟨z, h1, h2⟩ := hv 6 _ rfl; cases h1; exact h2
                  have hx7 : (RowPr B2 (lc ++ [p])) x7_ W := by obtain ⟨z, h1, h2⟩ := hv 7 _ rfl; cases h1; exact h2
                  obtain rfl : (.pointer (some ⟨nr, 2, none⟩)) = x8_ := by obtain ⟨z, h1, h2⟩ := hv 8 _ rfl; cases h1; exact h2.symm
                  intro L hall hG
                  clear hv hlen
                  have HK := Lib.hid hG.1
                  have HN := Lib.hid (hG.2.2.2 (hall 9 (by decide)))
                  clear hG hall hx6 hx7
                  simp only [fill, if_true]
                  simp [Act.put]
                --END
                  obtain ⟨v', hb', ho'⟩ := HN.out
                  have HRb' := Lib.hid hb'
                  have HRw' := Lib.hid ho'
                  have HK' := Lib.hid (show Keeps (fun k => k = nr) w9 W from ⟨HK.out.os.trans HKq.out.os, HK.out.tape.trans HKq.out.tape, HK.out.output.trans HKq.out.output, Nat.le_trans HKq.out.size HK.out.size, fun k hk1 hn1 => (HK.out.block k (Nat.lt_of_lt_of_le hk1 HKq.out.size) (fun e => by
                    rcases e with e | e
                    · exact hn1 e
                    · have h2 := own_base HRw.out k e; have h3 := HB2e.out; omega)).trans (HKq.out.block k hk1 hn1)⟩)
                  clear hb' ho'
                  go_wp2_with (fail)
                  go_roundw
                  case rel => exact ⟨k + 1, v', HKt.out, by go_num, Lib.hid HRb'.out, Lib.hid (by rw [HYe.out, HB2e.out]; exact HRw'.out), Lib.hid (by rw [HYe.out, List.length_append, List.length_singleton]; have := HCn9.out; omega), Lib.hid HK'.out⟩
                  case measure => have := HKt.out; simp [intOf]; omega
          · have hcb : ¬ (cn : Int) < (lm : Int) := by omega
            have HTk := Lib.hid (show (ps.filter (inR c)).take c.lim.toNat = lc from by
              rw [← HLC.out]
              refine take_filter _ _ _ ?_
              rw [HLC.out, HCN.out, HLm.out, Int.toNat_natCast]
              have h2 := HCl.out
              omega)
            clear hk z1 z2 hcl
            have HRn := Lib.hid (show Blk wr nr (reCells ⟨0, ⟨#[]⟩, ua, uc, lc⟩) 51 from by have h := HRb.out; rw [HVc.out] at h; exact h)
            have HR4n := Lib.hid ((HR4.out.kept (Keeps.of_below' HB9.out) (fun h => h)).kept HKr.out (by have := HNr.out; omega))
            have HMr := Lib.hid ((HM.out.below HB9.out).kept HKr.out (by have h1 := HNr.out; have h2 := HBm.out; have h3 := HBw.out; omega) (fun i hi e => by have h1 := HNr.out; have h2 := HVw.out _ hi; omega))
            have HKw := Lib.hid (show Keeps (fun k => k = bm ∨ v0.ownBlock = some k) w wr from ⟨HKr.out.os.trans (HB9.out.os.trans HBz.out.os), HKr.out.tape.trans (HB9.out.tape.trans HBz.out.tape), HKr.out.output.trans (HB9.out.output.trans HBz.out.output), Nat.le_trans HBz.out.size (Nat.le_trans HB9.out.size HKr.out.size), fun k hk1 _ => (HKr.out.block k (Nat.lt_of_lt_of_le hk1 (Nat.le_trans HBz.out.size HB9.out.size)) (fun e => by have h1 := HNr.out; omega)).trans ((HB9.out.block k (Nat.lt_of_lt_of_le hk1 HBz.out.size)).trans (HBz.out.block k hk1))⟩)
            have HFin := Lib.hid (show ∀ W', Keeps (fun k => k = n4) wr W' → DoQ B bm v0 l0 c w (.returned (.agg (reCells ⟨0, ⟨#[]⟩, ua, uc, lc⟩))) W' from fun W' hk =>
              DoQ.fin (r := ⟨0, ⟨#[]⟩, ua, uc, lc⟩) (HTk.out ▸ DoP.scan HCd.out HO.out ps HOk.out) HMr.out HUp.out (fun g o e => by
                have e' : ua = some ⟨g, o, none⟩ := e
                have h1 := own_base HRw.out g (by rw [HVc.out, e']; rfl)
                have h2 := HB9.out.size
                have h3 := HBz.out.size
                have h4 := HR4.out.lt
                exact ⟨by omega, by omega, fun e9 => by (have h9 := HVw.out _ e9; omega), own_ltS HRw.out (by rw [HVc.out, e']; rfl)⟩) HKw.out (.inl rfl) HNr.out.2.1 HBw.out (fun e => by have h1 := HVw.out _ e; have h2 := HNr.out; omega) hk)
            obtain ⟨rr, hrr⟩ : ∃ rr : Re, (⟨0, ⟨#[]⟩, ua, uc, lc⟩ : Re) = rr := ⟨_, rfl⟩
            rw [hrr] at HRn HFin
            clear hrr
            as_aux_lemma =>
              go_upto_region 23 with (fail)
              go_step
              refine wpList_load_reW rfl (.tmp 5) rfl nr 0 rr (ev_tmp (by first | (simp [Act.put]; done) | rfl)) HRn.out.cellsAt ?_
              refine wpList_store_re rfl (.tmp 4) (.tmp 114) rfl n4 rr (reCells reZ) (ev_tmp (by first | (simp [Act.put]; done) | rfl)) (ev_tmp (by first | (simp [Act.put]; done) | rfl)) HR4n.out rfl ?_
              go_wp2_with (fail)
              exact bodyPost_ret (results_re rfl _ n4 rr rfl (Blk.row HR4n.out _)) rfl (HFin.out _ (keeps_setRow (Keeps.refl (fun k => k = n4) _) (.inl rfl) _))
        · have hkb : ¬ (k : Int) < (pn : Int) := by omega
          have HTk := Lib.hid (show (ps.filter (inR c)).take c.lim.toNat = lc from by
            have h1 : lc = ps.filter (inR c) := by rw [← HLC.out, List.take_of_length_le (by have := HPN.out; omega)]
            rw [← h1, List.take_of_length_le (by have h2 := HCl.out; have h3 := HCN.out; have h4 := HLm.out; omega)])
          clear hkt hk z1 z2
          have HRn := Lib.hid (show Blk wr nr (reCells ⟨0, ⟨#[]⟩, ua, uc, lc⟩) 51 from by have h := HRb.out; rw [HVc.out] at h; exact h)
          have HR4n := Lib.hid ((HR4.out.kept (Keeps.of_below' HB9.out) (fun h => h)).kept HKr.out (by have := HNr.out; omega))
          have HMr := Lib.hid ((HM.out.below HB9.out).kept HKr.out (by have h1 := HNr.out; have h2 := HBm.out; have h3 := HBw.out; omega) (fun i hi e => by have h1 := HNr.out; have h2 := HVw.out _ hi; omega))
          have HKw := Lib.hid (show Keeps (fun k => k = bm ∨ v0.ownBlock = some k) w wr from ⟨HKr.out.os.trans (HB9.out.os.trans HBz.out.os), HKr.out.tape.trans (HB9.out.tape.trans HBz.out.tape), HKr.out.output.trans (HB9.out.output.trans HBz.out.output), Nat.le_trans HBz.out.size (Nat.le_trans HB9.out.size HKr.out.size), fun k hk1 _ => (HKr.out.block k (Nat.lt_of_lt_of_le hk1 (Nat.le_trans HBz.out.size HB9.out.size)) (fun e => by have h1 := HNr.out; omega)).trans ((HB9.out.block k (Nat.lt_of_lt_of_le hk1 HBz.out.size)).trans (HBz.out.block k hk1))⟩)
          have HFin := Lib.hid (show ∀ W', Keeps (fun k => k = n4) wr W' → DoQ B bm v0 l0 c w (.returned (.agg (reCells ⟨0, ⟨#[]⟩, ua, uc, lc⟩))) W' from fun W' hk =>
            DoQ.fin (r := ⟨0, ⟨#[]⟩, ua, uc, lc⟩) (HTk.out ▸ DoP.scan HCd.out HO.out ps HOk.out) HMr.out HUp.out (fun g o e => by
              have e' : ua = some ⟨g, o, none⟩ := e
              have h1 := own_base HRw.out g (by rw [HVc.out, e']; rfl)
              have h2 := HB9.out.size
              have h3 := HBz.out.size
              have h4 := HR4.out.lt
              exact ⟨by omega, by omega, fun e9 => by (have h9 := HVw.out _ e9; omega), own_ltS HRw.out (by rw [HVc.out, e']; rfl)⟩) HKw.out (.inl rfl) HNr.out.2.1 HBw.out (fun e => by have h1 := HVw.out _ e; have h2 := HNr.out; omega) hk)
          obtain ⟨rr, hrr⟩ : ∃ rr : Re, (⟨0, ⟨#[]⟩, ua, uc, lc⟩ : Re) = rr := ⟨_, rfl⟩
          rw [hrr] at HRn HFin
          clear hrr
          as_aux_lemma =>
            go_upto_region 23 with (fail)
            go_step
            refine wpList_load_reW rfl (.tmp 5) rfl nr 0 rr (ev_tmp (by first | (simp [Act.put]; done) | rfl)) HRn.out.cellsAt ?_
            refine wpList_store_re rfl (.tmp 4) (.tmp 114) rfl n4 rr (reCells reZ) (ev_tmp (by first | (simp [Act.put]; done) | rfl)) (ev_tmp (by first | (simp [Act.put]; done) | rfl)) HR4n.out rfl ?_
            go_wp2_with (fail)
            exact bodyPost_ret (results_re rfl _ n4 rr rfl (Blk.row HR4n.out _)) rfl (HFin.out _ (keeps_setRow (Keeps.refl (fun k => k = n4) _) (.inl rfl) _))
end Go.Proofs.Ytdmcakoaakinnaa
namespace Go.Proofs.Ytdmcakoaakinnaa
open Go.RowKit
attribute [local go_sem] Oper.semAt_some
set_option linter.unusedVariables false
set_option linter.unusedSimpArgs false

def putL (C : Array Value) (o : Nat) : List Value → Array Value
  | [] => C
  | v :: r => putL (C.setIfInBounds o v) (o + 1) r
theorem Blk.mid {b : Nat} {t : TypeId} : ∀ (vs : List Value) (o : Nat) {w : World} {C : Array Value}, Blk w b C t → Blk (w.setCells b o vs) b (putL C o vs) t
  | [], _, _, _, h => h
  | v :: r, o, _, _, h => by
    rw [World.setCells, putL]
    exact Blk.mid r (o + 1) (h.set o v)
theorem keeps_setCells {S : Nat → Prop} {a : World} {b : Nat} (hb : S b ∨ a.heap.size ≤ b) : ∀ (vs : List Value) (o : Nat) {w : World}, Keeps S a w → Keeps S a (w.setCells b o vs)
  | [], _, _, h => h
  | v :: r, o, _, h => by
    rw [World.setCells]
    exact keeps_setCells hb r (o + 1) (h.setCell (p := ⟨b, o, none⟩) hb v)
theorem Blk.there {w : World} {b : Nat} {C : Array Value} {t : TypeId} (h : Blk w b C t) (o n : Nat) (hn : o + n ≤ C.size) : w.there b o n := fun j hj =>
  ⟨by rw [h.cell, Array.getElem?_eq_getElem (by omega)]; rfl, h.frozen _⟩
/-- a call that is done at once -/
def widCells (d : Dn) : Array Value := #[.int .i64 0, .int .i64 d.op, .int .u64 d.key, .int .u64 d.hi, .int .i64 d.lim, .string d.val, .int .i64 0, .int .i64 0, .bool false, .bool false]
theorem wp_load_wd {o : Oper} {a : Act} {w : World} {K : Act → World → Prop} {Q : Exit → Act → World → Prop} (x : Operand) (ho : o.op = .load 43 x) (g off : Nat) (d : Dn)
    (hx : a.eval x = .pointer (some ⟨g, off, none⟩)) (hc : cellsAt w g off (widCells d)) (h : K (a.put o.dst (.agg (widCells d))) w) : Oper.wp Try.prog o a w K Q :=
  wp_load_part 43 x ho g off hx (widCells d) _ hc Try.underlying43 rfl (by kernel_rfl) h
theorem wpList_load_wd {ops : Array Oper} {rest : List Oper} {o : Oper} {a : Act} {w : World} {Q : Exit → Act → World → Prop} (hw : Region.wanted o (yielded ops a.tmps) = true) (x : Operand) (ho : o.op = .load 43 x) (g off : Nat) (d : Dn)
    (hx : a.eval x = .pointer (some ⟨g, off, none⟩)) (hc : cellsAt w g off (widCells d)) (h : wpList Try.prog ops Q rest (a.put o.dst (.agg (widCells d))) w) : wpList Try.prog ops Q (o :: rest) a w := by
  simp only [wpList, hw, if_true]
  exact .inl (wp_load_wd x ho g off d hx hc h)
theorem run_idx_wd (w : World) (g off n cap k : Nat) (hk : k < n) : (Instr.indexAt 38 (.slice (some ⟨g, off, none⟩) n cap) (.int .i64 k)).run Try.prog w = .ok (.pointer (some ⟨g, off + k * 10, none⟩)) w := by
  have h1 : (0 : Int) ≤ k := by omega
  have h2 : (k : Int) < n := by omega
  have hs : (sizeOf (Try.prog.elem 38)).run Try.prog w = .ok 10 w := by kernel_rfl
  rw [run_indexAt_slice w 38 ⟨g, off, none⟩ n cap .i64 k (by kernel_rfl), if_pos ⟨h1, h2⟩, hs]
  have e : (⟨g, off, none⟩ : Addr).add (k * 10) = ⟨g, off + k * 10, none⟩ := by unfold Addr.add; split <;> simp_all
  simp only [Result.andThen_ok, Int.toNat_natCast, e]
/-- l[k], whole: two operations at once -/
theorem wpList_idx_wd {ops : Array Oper} {rest : List Oper} {o1 o2 : Oper} {a : Act} {w : World} {Q : Exit → Act → World → Prop} (h1 : o1.guard = none) (h2 : o2.guard = none) (x y : Operand) (s : Tmp) (hd : o1.dst = some s)
    (ho1 : o1.op = .indexAddr 38 x y) (ho2 : o2.op = .load 43 (.tmp s)) (g off n cap k : Nat) (d : Dn) (hx : a.eval x = .slice (some ⟨g, off, none⟩) n cap) (hy : a.eval y = .int .i64 k) (hk : k < n) (hs : s < a.tmps.size)
    (hc : cellsAt w g (off + k * 10) (widCells d)) (h : wpList Try.prog ops Q rest ((a.put o1.dst (.pointer (some ⟨g, off + k * 10, none⟩))).put o2.dst (.agg (widCells d))) w) : wpList Try.prog ops Q (o1 :: o2 :: rest) a w := by
  refine wpList_plain h1 fun K hK => ?_
  unfold Oper.wp execOp
  simp only [ho1, hx, hy, Sem.run_bind, Sem.run_pure, Result.andThen_ok, run_idx_wd w g off n cap k hk]
  refine hK _ _ (wpList_plain h2 fun K2 hK2 => ?_)
  refine wp_load_wd (.tmp s) ho2 g (off + k * 10) d ?_ hc (hK2 _ _ h)
  rw [hd]
  simp [Act.put, Act.eval, hs]
theorem wdCells_one (d : Dn) : (widCells d).all (·.oneCell') = true := by rw [Array.all_eq_true_iff_forall_mem]; intro v hv; simp [widCells] at hv; rcases hv with rfl | rfl | rfl | rfl | rfl | rfl | rfl | rfl | rfl | rfl <;> rfl
theorem run_alloc_wd (w : World) : (Instr.alloc 43 true (.tuple #[])).run Try.prog w = .ok (.pointer (some ⟨w.heap.size, 0, none⟩)) (w.alloc (.cells (widCells dnZ) 43)) := by kernel_rfl
theorem wp_alloc_wd {o : Oper} {a : Act} {w : World} {K : Act → World → Prop} {Q : Exit → Act → World → Prop} (ho : o.op = .alloc 43)
    (h : K (a.put o.dst (.pointer (some ⟨w.heap.size, 0, none⟩))) (w.alloc (.cells (widCells dnZ) 43))) : Oper.wp Try.prog o a w K Q := by
  unfold Oper.wp execOp
  simp only [ho, Sem.run_bind, run_alloc_wd, Result.andThen_ok, Sem.run_pure]
  exact h
/-- a new block, laid at once: two operations, and what is between -/
theorem wpList_anew_wd {ops : Array Oper} {rest : List Oper} {o1 o2 : Oper} {a : Act} {w : World} {Q : Exit → Act → World → Prop} (h1 : o1.guard = none) (h2 : o2.guard = none) (s : Tmp) (y : Operand) (hd : o1.dst = some s)
    (ho1 : o1.op = .alloc 43) (ho2 : o2.op = .store 43 (.tmp s) y) (d : Dn) (hy : (a.put (some s) (.pointer (some ⟨w.heap.size, 0, none⟩))).eval y = .agg (widCells d)) (hs : s < a.tmps.size)
    (h : wpList Try.prog ops Q rest ((a.put o1.dst (.pointer (some ⟨w.heap.size, 0, none⟩))).put o2.dst undef) (w.alloc (.cells (widCells d) 43))) : wpList Try.prog ops Q (o1 :: o2 :: rest) a w := by
  refine wpList_plain h1 fun K hK => wp_alloc_wd ho1 (hK _ _ ?_)
  rw [hd] at h ⊢
  refine wpList_store_row h2 43 (.tmp s) y ho2 w.heap.size (widCells d) ?_ hy 43 (widCells dnZ) (Blk.new w _ _) (by kernel_rfl) rfl (wdCells_one d) ?_
  · simp [Act.put, Act.eval, hs]
  · rw [alloc_setRow]; exact h
theorem wpList_anewA_wd {ops : Array Oper} {rest : List Oper} {o1 o2 o3 : Oper} {a : Act} {w : World} {Q : Exit → Act → World → Prop} (h1 : o1.guard = none) (h2 : o2.guard = none) (h3 : o3.guard = none) (s r : Tmp) (y z : Operand) (hd : o1.dst = some s) (hd3 : o3.dst = some r)
    (ho1 : o1.op = .alloc 43) (ho3 : o3.op = .assign z) (ho2 : o2.op = .store 43 (.tmp s) y) (d : Dn) (v : Value) (hz : (a.put (some s) (.pointer (some ⟨w.heap.size, 0, none⟩))).eval z = v) (hy : ((a.put (some s) (.pointer (some ⟨w.heap.size, 0, none⟩))).put (some r) v).eval y = .agg (widCells d)) (hs : s < a.tmps.size) (hrs : s ≠ r)
    (h : wpList Try.prog ops Q rest (((a.put o1.dst (.pointer (some ⟨w.heap.size, 0, none⟩))).put o3.dst v).put o2.dst undef) (w.alloc (.cells (widCells d) 43))) : wpList Try.prog ops Q (o1 :: o3 :: o2 :: rest) a w := by
  refine wpList_plain h1 fun K hK => wp_alloc_wd ho1 (hK _ _ ?_)
  rw [hd] at h ⊢
  rw [hd3] at h
  refine wpList_plain h3 fun K hK => ?_
  unfold Oper.wp execOp
  simp only [ho3, hz]
  refine hK _ _ ?_
  rw [hd3]
  refine wpList_store_row h2 43 (.tmp s) y ho2 w.heap.size (widCells d) ?_ hy 43 (widCells dnZ) (Blk.new w _ _) (by kernel_rfl) rfl (wdCells_one d) ?_
  · have hr : r ≠ s := fun e => hrs e.symm
    simp [Act.put, Act.eval, hs, hr]
  · rw [alloc_setRow]; exact h
theorem wpList_store_wd {ops : Array Oper} {rest : List Oper} {o : Oper} {a : Act} {w : World} {Q : Exit → Act → World → Prop} (hgd : o.guard = none) (x y : Operand) (ho : o.op = .store 43 x y)
    (g : Nat) (d : Dn) (C : Array Value) (hx : a.eval x = .pointer (some ⟨g, 0, none⟩)) (hy : a.eval y = .agg (widCells d)) (hg : Blk w g C 43) (hC : C.size = (widCells d).size)
    (h : wpList Try.prog ops Q rest (a.put o.dst undef) (w.setRow g (widCells d))) : wpList Try.prog ops Q (o :: rest) a w :=
  wpList_store_row hgd 43 x y ho g (widCells d) hx hy 43 C hg (by kernel_rfl) (by rw [hC]) (wdCells_one d) h
def WdsAt (w : World) (a : Option Addr) (l : List Dn) : Prop := RowAt w a l.length 10 (fun i => widCells (l.getD i dnZ))
theorem WdsAt.below {w w' : World} {a : Option Addr} {l : List Dn} (h : WdsAt w a l) (hB : Below w.heap.size w w') : WdsAt w' a l := RowAt.below h hB
theorem WdsAt.at_ {w : World} {a : Option Addr} {l : List Dn} (h : WdsAt w a l) {k : Nat} (hk : k < l.length) : ∃ g o, a = some ⟨g, o, none⟩ ∧ g < w.heap.size ∧ cellsAt w g (o + k * 10) (widCells (l.getD k dnZ)) := by
  obtain ⟨g, o, e, hg, hc⟩ := h (by omega)
  refine ⟨g, o, e, hg, fun j v hj => ?_⟩
  have hjn : j < 10 := by have := (Array.getElem?_eq_some_iff.1 hj).1; exact this
  rw [hc k hk j hjn]; exact hj
theorem results_er {fn : Func} {w : World} {s : Nat} (hr : fn.results = #[.cell s 46]) (tmps : Array Value) (g : Nat) (d : Er) (hs : tmps.getD s undef = .pointer (some ⟨g, 0, none⟩)) (h : Blk w g (erCells d) 46) :
    (results fn tmps).run Try.prog w = .ok (.agg (erCells d)) w := by
  have hl := run_loadVar_part (P := Try.prog) w g 0 46 (erCells d) _ h.cellsAt Try.underlying46 rfl (by kernel_rfl)
  have hs' : tmps[s]?.getD undef = .pointer (some ⟨g, 0, none⟩) := by rw [← hs]; simp
  simp [results, hr, hs', asAddr, Result.andThen, hl]
/-- a call, as it was done i-th, and answered -/
def dkP (i : Nat) (c : Dn) (r : Re) : Dn := ⟨0, c.op, c.key, c.hi, c.lim, c.val, 100 * ((i : Int) + 1), 100 * ((i : Int) + 1) + 1, r.c, r.v, r.pa, r.pc, r.ps⟩
/-- calls, what was done, and the map behind it -/
inductive PlaySt : List Dn → List Dn → List Pt → Prop
  | nil : PlaySt [] [] []
  | snoc {cs ds : List Dn} {L L' : List Pt} {c : Dn} {r : Re} (h : PlaySt cs ds L) (hd : DoP L c r.c r.v r.ps L') : PlaySt (cs ++ [c]) (ds ++ [dkP cs.length c r]) L'
theorem DoP.len {L : List Pt} {c : Dn} {a : Int} {b : ByteArray} {ps : List Pr} {L' : List Pt} (h : DoP L c a b ps L') : L'.length ≤ L.length + 1 := by
  cases h <;> simp
theorem PlaySt.len {cs ds : List Dn} {L : List Pt} (h : PlaySt cs ds L) : ds.length = cs.length ∧ L.length ≤ cs.length := by
  induction h with
  | nil => exact ⟨rfl, Nat.le_refl _⟩
  | snoc h hd ih =>
    have h1 := hd.len
    refine ⟨by simp [ih.1], ?_⟩
    rw [List.length_append, List.length_singleton]
    omega
/-- what is so on the way: map and calls apart -/
structure PlI (w wr : World) (B bm b4 b5 : Nat) (cs ds : List Dn) (L : List Pt) (v u : Value) : Prop where
  m : MapV wr B bm v L
  p : PlaySt cs ds L
  e5 : Blk wr b5 #[u, .slice none 0 0, .bool false] 46
  e4 : Blk wr b4 (erCells erZ) 46
  o : wr.ownsRow B 53 11 u ds.length (dcells ds)
  vb : ∀ i, v.ownBlock = some i → w.heap.size ≤ i ∧ u.ownBlock ≠ some i ∧ i ≠ b4 ∧ i ≠ b5
  ub : ∀ i, u.ownBlock = some i → w.heap.size ≤ i ∧ i ≠ b4 ∧ i ≠ b5
  d : ∀ d ∈ ds, PrsAt wr d.pa d.ps ∧ ∀ g o, d.pa = some ⟨g, o, none⟩ → w.heap.size ≤ g ∧ v.ownBlock ≠ some g ∧ u.ownBlock ≠ some g ∧ g ≠ b4 ∧ g ≠ b5 ∧ g < wr.heap.size
  k : Keeps (fun i => i = bm) w wr
  b : bm < w.heap.size ∧ w.heap.size ≤ b4 ∧ b4 < b5 ∧ B ≤ w.heap.size
def PlayQ (B bm : Nat) (cs : List Dn) (w : World) (e : Ending) (w' : World) : Prop :=
  ∃ (er : Er) (L : List Pt), e = .returned (.agg (erCells er)) ∧ er.kn = true ∧ PlaySt cs er.cs L ∧ PairsOk L er.af ∧ w'.ownsRow w.heap.size 53 11 (.slice er.ca er.cs.length er.cc) er.cs.length (dcells er.cs) ∧
    (∀ d ∈ er.cs, PrsAt w' d.pa d.ps ∧ ∀ g o, d.pa = some ⟨g, o, none⟩ → (Value.slice er.ca er.cs.length er.cc).ownBlock ≠ some g) ∧ PrsAt w' er.aa er.af ∧ (∀ g o, er.aa = some ⟨g, o, none⟩ → (Value.slice er.ca er.cs.length er.cc).ownBlock ≠ some g) ∧ Keeps (fun i => i = bm) w w'
/-- a call appended to a row: two operations -/
theorem wpList_pushN_dn {ops : Array Oper} {rest : List Oper} {o1 o2 : Oper} {a : Act} {w : World} {Q : Exit → Act → World → Prop} (h1 : o1.guard = none) (h2 : o2.guard = none) (x s : Operand) (t : Tmp) (hd : o1.dst = some t)
    (ho1 : o1.op = .buildSlice 44 1 #[(0, x)]) (ho2 : o2.op = .call { callee := .builtin .append, args := #[s, .tmp t], argTypes := #[44, 44] }) (d : Dn) (hx : a.eval x = .agg (dnCells d))
    (v : Value) (l : List Dn) (base : Nat) (hs : (a.put (some t) (.slice (some ⟨w.heap.size, 0, none⟩) 1 1)).eval s = v) (hown : w.ownsRow base 53 11 v l.length (dcells l)) (ht : t < a.tmps.size) (hl : l.length ≤ 1000000000) (hb : base ≤ w.heap.size)
    (h : ∀ v' w', w'.ownsRow base 53 11 v' (l ++ [d]).length (dcells (l ++ [d])) → Keeps (fun k => v.ownBlock = some k) w w' → (v'.ownBlock = v.ownBlock ∨ ∃ i, v'.ownBlock = some i ∧ w.heap.size ≤ i) → wpList Try.prog ops Q rest ((a.put o1.dst (.slice (some ⟨w.heap.size, 0, none⟩) 1 1)).put o2.dst v') w') : wpList Try.prog ops Q (o1 :: o2 :: rest) a w := by
  obtain ⟨i0, hi, hz0, hz1, hz2⟩ := infoDn
  refine wpList_plain h1 fun K hK => ?_
  unfold Oper.wp execOp
  simp only [ho1, List.map_toArray, List.map_cons, List.map_nil, hx, Sem.run_bind, run_buildSlice_dn, Result.andThen_ok, Sem.run_pure]
  refine hK _ _ ?_
  rw [hd] at h ⊢
  have hk1 : Keeps (fun k => v.ownBlock = some k) w (w.alloc (.cells (dnCells d) 53)) := (Keeps.refl _ w).alloc _
  have hown1 : (w.alloc (.cells (dnCells d) 53)).ownsRow base 53 11 v l.length (dcells l) := own_keeps hown ((Keeps.refl (fun _ => False) w).alloc _) (fun _ _ h => h)
  have hrd : Reads (w.alloc (.cells (dnCells d) 53)) (w.heap.size + 1) 11 (some ⟨w.heap.size, 0, none⟩) 1 (dnCells d).toList := by
    refine ⟨rfl, fun _ => ⟨_, rfl, by show w.heap.size < _; omega, fun j u hu => ?_⟩⟩
    have hadd : (⟨w.heap.size, 0, none⟩ : Addr).add j = ⟨w.heap.size, j, none⟩ := by unfold Addr.add; split <;> simp_all
    rw [hadd, (Blk.new w (dnCells d) 53).cell, ← hu, Array.getElem?_toList]
  refine wpList_append_any (w.alloc (.cells (dnCells d) 53)) h2 s (.tmp t) 44 ho2 base 53 i0 _ 11 120 Try.underlying44 hi hz0 hz1 hz2 rfl (by decide) v l.length (dcells l) hs hown1 (w.heap.size + 1) (some ⟨w.heap.size, 0, none⟩) 1 1 (dnCells d).toList (by simp [Act.put, Act.eval, ht]) hrd
    (fun u hu => by have := dnCells_one d; rw [Array.all_eq_true_iff_forall_mem] at this; exact this u (by simpa using hu)) (by unfold maxLen; omega) (by omega) (by simp; omega) ?_
  intro v' w' ho hg hnw
  refine h v' w' (by rw [List.length_append, dcells_app]; exact ho) (hk1.grown hg (fun k hk => .inl hk)) (hnw.imp (fun h => h) (fun h => ⟨_, h, by simp⟩))
theorem PlI.next {w wr W5 w6 : World} {B bm b4 b5 : Nat} {cs ds : List Dn} {L L' : List Pt} {v v' u u6 : Value} {c : Dn} {r : Re} (h : PlI w wr B bm b4 b5 cs ds L v u) (hdo : DoP L c r.c r.v r.ps L') (hM5 : MapV W5 B bm v' L') (hn : NewB wr v v')
    (kt : Keeps (fun i => i = bm ∨ v.ownBlock = some i) wr W5) (hp : PrsAt W5 r.pa r.ps) (hg : ∀ g o, r.pa = some ⟨g, o, none⟩ → wr.heap.size ≤ g ∧ v'.ownBlock ≠ some g ∧ g < W5.heap.size)
    (ho6 : w6.ownsRow B 53 11 u6 (ds ++ [dkP cs.length c r]).length (dcells (ds ++ [dkP cs.length c r]))) (hk6 : Keeps (fun k => u.ownBlock = some k) W5 w6) (hn6 : u6.ownBlock = u.ownBlock ∨ ∃ i, u6.ownBlock = some i ∧ W5.heap.size ≤ i) :
    PlI w (w6.setCell ⟨b5, 0, none⟩ u6) B bm b4 b5 (cs ++ [c]) (ds ++ [dkP cs.length c r]) L' v' u6 := by
  have hb := h.b
  have hsz1 := h.k.size
  have hsz2 := kt.size
  have hsz3 := hk6.size
  have h5l := h.e5.lt
  have h4l := h.e4.lt
  have huB : ∀ i, u.ownBlock = some i → bm < i ∧ i < wr.heap.size := fun i hi => ⟨by have := own_base h.o i hi; have := h.m.lt; omega, own_ltS h.o hi⟩
  have hvl : ∀ i, v.ownBlock = some i → i < wr.heap.size := fun i hi => own_ltS h.m.o hi
  have hv' : ∀ i, v'.ownBlock = some i → (v.ownBlock = some i ∨ wr.heap.size ≤ i) := fun i hi => by
    rcases hn with e | ⟨j, e, hj⟩
    · exact .inl (by rw [← e]; exact hi)
    · rw [e] at hi; cases hi; exact .inr hj
  have hu6 : ∀ i, u6.ownBlock = some i → (u.ownBlock = some i ∨ W5.heap.size ≤ i) := fun i hi => by
    rcases hn6 with e | ⟨j, e, hj⟩
    · exact .inl (by rw [← e]; exact hi)
    · rw [e] at hi; cases hi; exact .inr hj
  have hks : Keeps (fun i => i = b5) w6 (w6.setCell ⟨b5, 0, none⟩ u6) := (Keeps.refl (fun i => i = b5) w6).setCell (p := ⟨b5, 0, none⟩) (.inl rfl) _
  have hvu : ∀ i, v'.ownBlock = some i → u.ownBlock ≠ some i := fun i hi e => by
    rcases hv' i hi with h1 | h1
    · exact (h.vb i h1).2.1 e
    · have := (huB i e).2; omega
  have hv'l : ∀ i, v'.ownBlock = some i → i < W5.heap.size := fun i hi => own_ltS hM5.o hi
  have he5 : Blk w6 b5 #[u, .slice none 0 0, .bool false] 46 := (h.e5.kept kt (fun e => by
    rcases e with e | e
    · omega
    · exact (h.vb b5 e).2.2.2 rfl)).kept hk6 (fun e => (h.ub b5 e).2.2 rfl)
  have hv5 : ∀ i, v'.ownBlock = some i → i ≠ b4 ∧ i ≠ b5 := fun i hi => by
    rcases hv' i hi with h1 | h1
    · exact (h.vb i h1).2.2
    · exact ⟨by omega, by omega⟩
  have hu65 : ∀ i, u6.ownBlock = some i → i ≠ b4 ∧ i ≠ b5 := fun i hi => by
    rcases hu6 i hi with h1 | h1
    · exact (h.ub i h1).2
    · exact ⟨by omega, by omega⟩
  refine ⟨(hM5.kept hk6 (fun e => by have := (huB bm e).1; omega) (fun i hi e => hvu i hi e)).kept hks (by show ¬ bm = b5; omega) (fun i hi e => (hv5 i hi).2 e), .snoc h.p hdo, ?_, ?_, own_keeps ho6 hks (fun i hi e => (hu65 i hi).2 e), fun i hi => ⟨?_, fun e => ?_, hv5 i hi⟩, fun i hi => ⟨?_, hu65 i hi⟩, fun d hd => ?_, ?_, hb⟩
  · have h9 := he5.set 0 u6
    simpa using h9
  · exact ((h.e4.kept kt (fun e => by
      rcases e with e | e
      · omega
      · exact (h.vb b4 e).2.2.1 rfl)).kept hk6 (fun e => (h.ub b4 e).2.1 rfl)).kept hks (by show ¬ b4 = b5; omega)
  · rcases hv' i hi with h1 | h1
    · exact (h.vb i h1).1
    · omega
  · rcases hu6 i e with h1 | h1
    · exact hvu i hi h1
    · have := hv'l i hi; omega
  · rcases hu6 i hi with h1 | h1
    · exact (h.ub i h1).1
    · omega
  · rcases List.mem_append.1 hd with hd | hd
    · obtain ⟨h1, h2⟩ := h.d d hd
      have k1 : PrsAt W5 d.pa d.ps := RowAt.kept h1 kt (fun g o e x => by
        have h3 := h2 g o e
        rcases x with x | x
        · omega
        · exact h3.2.1 x)
      have k2 : PrsAt w6 d.pa d.ps := RowAt.kept k1 hk6 (fun g o e x => (h2 g o e).2.2.1 x)
      have k3 : PrsAt (w6.setCell ⟨b5, 0, none⟩ u6) d.pa d.ps := RowAt.kept k2 hks (fun g o e x => (h2 g o e).2.2.2.2.1 x)
      refine ⟨k3, fun g o e => ⟨(h2 g o e).1, fun x => ?_, fun x => ?_, (h2 g o e).2.2.2.1, (h2 g o e).2.2.2.2.1, by have h3 := (h2 g o e).2.2.2.2.2; have h4 := hks.size; omega⟩⟩
      · have h9 := (h2 g o e).2.2.2.2.2
        rcases hv' g x with h3 | h3
        · exact (h2 g o e).2.1 h3
        · omega
      · have h9 := (h2 g o e).2.2.2.2.2
        rcases hu6 g x with h3 | h3
        · exact (h2 g o e).2.2.1 h3
        · omega
    · obtain rfl := List.mem_singleton.1 hd
      have k2 : PrsAt w6 r.pa r.ps := RowAt.kept hp hk6 (fun g o e x => by have h3 := (hg g o e).1; have h4 := (huB g x).2; omega)
      have k3 : PrsAt (w6.setCell ⟨b5, 0, none⟩ u6) r.pa r.ps := RowAt.kept k2 hks (fun g o e x => by have h3 := (hg g o e).1; have h4 : g = b5 := x; omega)
      refine ⟨k3, fun g o e => ?_⟩
      have e' : r.pa = some ⟨g, o, none⟩ := e
      have h3 := hg g o e'
      refine ⟨by omega, h3.2.1, fun x => ?_, by omega, by omega, by have h4 := hks.size; omega⟩
      rcases hu6 g x with h4 | h4
      · have := (huB g h4).2; omega
      · omega
  · refine ⟨hks.os.trans (hk6.os.trans (kt.os.trans h.k.os)), hks.tape.trans (hk6.tape.trans (kt.tape.trans h.k.tape)), hks.output.trans (hk6.output.trans (kt.output.trans h.k.output)), Nat.le_trans hsz1 (Nat.le_trans hsz2 (Nat.le_trans hsz3 hks.size)), fun k hk1 hn1 => ?_⟩
    rw [hks.block k (by omega) (fun e => by have e' : k = b5 := e; omega), hk6.block k (by omega) (fun e => by have := (h.ub k e).1; omega), kt.block k (by omega) (fun e => by
      rcases e with e | e
      · exact hn1 e
      · have := (h.vb k e).1; omega)]
    exact h.k.block k hk1 hn1
set_option maxRecDepth 100000 in
set_option maxHeartbeats 16000000 in
theorem played_v (B bm : Nat) (cs : List Dn) (a : Option Addr) (cap : Nat) (w : World) (hM : MapV w B bm (.slice none 0 0) []) (hE : WdsAt w a cs) (hEb : ∀ g o, a = some ⟨g, o, none⟩ → g ≠ bm) (hn : cs.length ≤ 1000) :
    Calls Try.prog 11 #[.pointer (some ⟨bm, 0, none⟩), .slice a cs.length cap] w (PlayQ B bm cs w) := by
  have HE := Lib.hid (fun W (hW : Keeps (fun i => i = bm) w W) => (RowAt.kept hE hW (fun g o e h => hEb g o e h) : WdsAt W a cs))
  obtain ⟨cn, hcn⟩ : ∃ cn, cs.length = cn := ⟨_, rfl⟩
  have HCN := Lib.hid hcn
  rw [hcn]
  have hcn6 : (cn : Int) ≤ 1000 := by omega
  clear hE hcn hn
  go_enter Try.func11, Try.ntmps11
  go_upto_region 2 with (fail)
  have hI : PlI w ((w.alloc (.cells (erCells erZ) 46)).alloc (.cells (erCells erZ) 46)) B bm w.heap.size (w.heap.size + 1) [] [] [] (.slice none 0 0) (.slice none 0 0) := by
    have h1 : Blk ((w.alloc (.cells (erCells erZ) 46)).alloc (.cells (erCells erZ) 46)) w.heap.size (erCells erZ) 46 := (Blk.new w _ _).alloc _
    have h2 : Blk ((w.alloc (.cells (erCells erZ) 46)).alloc (.cells (erCells erZ) 46)) (w.heap.size + 1) (erCells erZ) 46 := by
      have h := Blk.new (w.alloc (.cells (erCells erZ) 46)) (erCells erZ) 46
      rw [show (w.alloc (.cells (erCells erZ) 46)).heap.size = w.heap.size + 1 from by simp] at h; exact h
    have hB : Below w.heap.size w ((w.alloc (.cells (erCells erZ) 46)).alloc (.cells (erCells erZ) 46)) := ((Below.refl w.heap.size w).alloc (Nat.le_refl _) _).alloc (by simp) _
    exact ⟨hM.below hB, .nil, h2, h1, World.ownsRow_nil _ _ _ _, (fun i h => by cases h), (fun i h => by cases h), (fun d h => by cases h), (Keeps.of_below' hB).mono (fun _ _ h => h.elim), hM.b.lt, Nat.le_refl _, Nat.lt_succ_self _, hM.le⟩
  have hlit : (w.alloc (.cells #[.slice none 0 0, .slice none 0 0, .bool false] 46)).alloc (.cells #[.slice none 0 0, .slice none 0 0, .bool false] 46) = (w.alloc (.cells (erCells erZ) 46)).alloc (.cells (erCells erZ) 46) := rfl
  rw [hlit]
  clear hlit
  generalize (w.alloc (.cells (erCells erZ) 46)).alloc (.cells (erCells erZ) 46) = W1 at hI ⊢
  obtain ⟨b5, hb5⟩ : ∃ b5, w.heap.size + 1 = b5 := ⟨_, rfl⟩
  obtain ⟨b4, hb4⟩ : ∃ b4, w.heap.size = b4 := ⟨_, rfl⟩
  rw [hb5, hb4] at hI
  simp only [hb5]
  simp only [hb4]
  have HI := Lib.hid hI
  clear hM hI hb4 hb5
  go_wp2_with (fail)
  go_loopw [6] (fun iv wr => ∃ (k : Nat) (ds : List Dn) (L : List Pt) (v u : Value), k ≤ cn ∧ iv = .int .i64 k ∧ Hid (PlI w wr B bm b4 b5 (cs.take k) ds L v u)) (fun iv _ => cn - (intOf iv).toNat)
  case atStart => exact ⟨0, [], [], _, _, Nat.zero_le _, rfl, HI⟩
  case round =>
    obtain ⟨k, ds, L, v, u, hk, rfl, HR⟩ := hrel
    by_cases hkt : k < cn
    · obtain ⟨g, o, ha, hg, hc⟩ := WdsAt.at_ (HE.out wr HR.out.k) (k := k) (by have := HCN.out; omega)
      obtain ⟨c, hcd⟩ : ∃ c, cs.getD k dnZ = c := ⟨_, rfl⟩
      rw [hcd] at hc
      rw [ha]
      have HCl := Lib.hid hc
      have HKt := Lib.hid hkt
      have HCd := Lib.hid hcd
      have hkb : (k : Int) < (cn : Int) := by omega
      have hk3 : (k : Int) ≤ 1000 := by omega
      have HKc := Lib.hid (show k < cs.length ∧ k ≤ 1000 from by have := HCN.out; omega)
      clear hc hcd hkt hk ha
      go_upto_region 5 with (fail)
      go_step
      refine wpList_plain rfl (fun K hK => ?_)
      go_simp
      refine hK _ _ ?_
      clear hK K
      refine wpList_plain rfl (fun K hK => ?_)
      go_simp
      refine hK _ _ ?_
      clear hK K
      refine wpList_idx_wd rfl rfl (.tmp 16) (.tmp 17) 18 rfl rfl rfl g o cn cap k c (ev_tmp (by first | (simp [Act.put]; done) | rfl)) (ev_tmp (by first | (simp [Act.put]; done) | rfl)) HKt.out (by first | (simp [Act.put]; done) | rfl) HCl.out ?_
      refine wpList_anew_wd rfl rfl 7 (.tmp 19) rfl rfl rfl c (ev_tmp (by first | (simp [Act.put]; done) | rfl)) (by first | (simp [Act.put]; done) | rfl) ?_
      have hb7 := Blk.new wr (widCells c) 43
      have hB2 : Below wr.heap.size wr (wr.alloc (.cells (widCells c) 43)) := (Below.refl _ wr).alloc (Nat.le_refl _) _
      generalize wr.alloc (.cells (widCells c) 43) = W2 at hb7 hB2 ⊢
      obtain ⟨b7, hb7e⟩ : ∃ b7, wr.heap.size = b7 := ⟨_, rfl⟩
      rw [hb7e] at hb7
      simp only [hb7e]
      have HB7e := Lib.hid hb7e
      have HB7 := Lib.hid hb7
      have HBw2 := Lib.hid hB2
      have q0 : W2.cell? ⟨b7, 0, none⟩ = some (.int .i64 0) := by rw [hb7.cell]; rfl
      have q6 : W2.cell? ⟨b7, 6, none⟩ = some (.int .i64 0) := by rw [hb7.cell]; rfl
      have q7 : W2.cell? ⟨b7, 7, none⟩ = some (.int .i64 0) := by rw [hb7.cell]; rfl
      clear hb7 hB2 hb7e
      go_upto_region 7 with (fail)
      go_step
      refine wpList_plain rfl (fun K hK => ?_)
      go_simp
      refine hK _ _ ?_
      clear hK K
      refine wpList_plain rfl (fun K hK => ?_)
      go_simp
      refine hK _ _ ?_
      clear hK K
      refine wpList_plain rfl (fun K hK => ?_)
      go_simp
      refine hK _ _ ?_
      clear hK K
      refine wpList_load_caW rfl (.tmp 25) rfl b7 1 c (ev_tmp (by first | (simp [Act.put]; done) | rfl)) (fun j v hj => by
        rw [HB7.out.cell]
        have hj5 : j < 5 := by have := (Array.getElem?_eq_some_iff.1 hj).1; exact this
        rw [← hj]
        match j, hj5 with
        | 0, _ | 1, _ | 2, _ | 3, _ | 4, _ => rfl) ?_
      unfold caCells
      have hw1 : IntKind.i64.wrap (100 * ((k : Int) + 1)) = 100 * ((k : Int) + 1) := IntWalk.i64_in _ (by omega)
      have hw2 : IntKind.i64.wrap (100 * ((k : Int) + 1) + 1) = 100 * ((k : Int) + 1) + 1 := IntWalk.i64_in _ (by omega)
      refine wpList_plain rfl (fun K hK => ?_)
      go_simp
      refine hK _ _ ?_
      clear hK K
      refine wpList_plain rfl (fun K hK => ?_)
      go_simp
      refine hK _ _ ?_
      clear hK K
      refine wpList_plain rfl (fun K hK => ?_)
      go_simp
      refine hK _ _ ?_
      clear hK K
      refine wpList_plain rfl (fun K hK => ?_)
      go_simp
      refine hK _ _ ?_
      clear hK K
      refine wpList_plain rfl (fun K hK => ?_)
      go_simp
      refine hK _ _ ?_
      clear hK K
      refine wpList_plain rfl (fun K hK => ?_)
      go_simp
      refine hK _ _ ?_
      clear hK K
      refine wpList_plain rfl (fun K hK => ?_)
      go_simp
      refine hK _ _ ?_
      clear hK K
      refine wpList_plain rfl (fun K hK => ?_)
      go_simp
      refine hK _ _ ?_
      clear hK K
      refine wpList_plain rfl (fun K hK => ?_)
      go_simp
      refine hK _ _ ?_
      clear hK K
      refine wpList_plain rfl (fun K hK => ?_)
      go_simp
      refine hK _ _ ?_
      clear hK K
      obtain ⟨d0, hd0⟩ : ∃ d0 : Dn, (⟨0, c.op, c.key, c.hi, c.lim, c.val, 100 * ((k : Int) + 1), 100 * ((k : Int) + 1) + 1, 0, ⟨#[]⟩, none, 0, []⟩ : Dn) = d0 := ⟨_, rfl⟩
      refine wpList_anew_dn rfl rfl 9 (.tmp 36) rfl rfl rfl d0 (ev_tmp (by rw [← hd0]; first | (simp [Act.put, dnCells]; done) | rfl)) (by first | (simp [Act.put]; done) | rfl) ?_
      have hb9 := Blk.new W2 (dnCells d0) 53
      have hB3 : Below wr.heap.size wr (W2.alloc (.cells (dnCells d0) 53)) := HBw2.out.alloc HBw2.out.size _
      have hB3' : Below W2.heap.size W2 (W2.alloc (.cells (dnCells d0) 53)) := (Below.refl _ W2).alloc (Nat.le_refl _) _
      generalize W2.alloc (.cells (dnCells d0) 53) = W3 at hb9 hB3 hB3' ⊢
      obtain ⟨b9, hb9e⟩ : ∃ b9, W2.heap.size = b9 := ⟨_, rfl⟩
      rw [hb9e] at hb9
      simp only [hb9e]
      have HB9e := Lib.hid (show b7 < b9 ∧ wr.heap.size ≤ b7 from by have h1 := HB7.out.lt; have h2 := HB7e.out; omega)
      have HB9 := Lib.hid hb9
      have HB73 := Lib.hid (HB7.out.kept (Keeps.of_below' hB3') (fun h => h))
      have HM3 := Lib.hid (HR.out.m.below hB3)
      have HBw3 := Lib.hid hB3
      have HD0 := Lib.hid hd0
      have q8 : W3.cell? ⟨b7, 8, none⟩ = some (.bool false) := by rw [HB73.out.cell]; rfl
      clear hb9 hB3 hB3' hb9e q0 q6 q7 hd0 hw1 hw2
      go_upto_region 9 with (fail)
      go_step
      refine wpList_plain rfl (fun K hK => ?_)
      go_simp
      refine hK _ _ ?_
      clear hK K
      refine wpList_plain rfl (fun K hK => ?_)
      go_simp
      refine hK _ _ ?_
      clear hK K
      refine wpList_load_caW rfl (.tmp 46) rfl b7 1 c (ev_tmp (by first | (simp [Act.put]; done) | rfl)) (fun j v hj => by
        rw [HB73.out.cell]
        have hj5 : j < 5 := by have := (Array.getElem?_eq_some_iff.1 hj).1; exact this
        rw [← hj]
        match j, hj5 with
        | 0, _ | 1, _ | 2, _ | 3, _ | 4, _ => rfl) ?_
      go_wp2_with (fail)
      refine (do_v B bm v L c W3 HM3.out (by have h1 := HR.out.p.len.2; rw [List.length_take] at h1; have := HKc.out; omega)).mono ?_
      rintro e4 W4 ⟨r, L', v', rfl, hdo, hM4, hp4, hg4, hk4, hn4⟩
      go_simp
      go_step
      refine wpList_plain rfl (fun K hK => ?_)
      go_simp
      refine hK _ _ ?_
      clear hK K
      have hS3 : ∀ i, (i = bm ∨ v.ownBlock = some i) → i ≠ b7 ∧ i ≠ b9 ∧ i ≠ b4 ∧ i ≠ b5 := fun i hi => by
        have h1 := HB9e.out
        have h2 := HR.out.b
        have h3 := HR.out.k.size
        rcases hi with hi | hi
        · exact ⟨by omega, by omega, by omega, by omega⟩
        · have h4 := own_ltS HR.out.m.o hi
          have h5 := HR.out.vb i hi
          exact ⟨by omega, by omega, h5.2.2.1, h5.2.2.2⟩
      have hb94 := HB9.out.kept hk4 (fun h => (hS3 b9 h).2.1 rfl)
      refine wpList_store_mid rfl 51 (.tmp 49) (.tmp 48) rfl b9 8 (reCells r) (ev_tmp (by first | (simp [Act.put]; done) | rfl)) (ev_tmp (by first | (simp [Act.put]; done) | rfl)) (hb94.there 8 _ (by show 8 + 3 ≤ 11; omega)) (by kernel_rfl) (reCells_one r) ?_
      have hb95 := hb94.mid (reCells r).toList 8
      obtain ⟨d1, hd1⟩ : ∃ d1, dkP k c r = d1 := ⟨_, rfl⟩
      have hput : putL (dnCells d0) 8 (reCells r).toList = dnCells d1 := by rw [← hd1, ← HD0.out]; rfl
      rw [hput] at hb95
      have hkb9 : Keeps (fun i => i = b9) W4 (W4.setCells b9 8 (reCells r).toList) := keeps_setCells (S := fun i => i = b9) (.inl rfl) _ _ (Keeps.refl _ W4)
      generalize W4.setCells b9 8 (reCells r).toList = W5 at hb95 hkb9 ⊢
      have hkt5 : Keeps (fun i => i = bm ∨ v.ownBlock = some i) wr W5 := ⟨hkb9.os.trans (hk4.os.trans HBw3.out.os), hkb9.tape.trans (hk4.tape.trans HBw3.out.tape), hkb9.output.trans (hk4.output.trans HBw3.out.output), Nat.le_trans HBw3.out.size (Nat.le_trans hk4.size hkb9.size), fun i hi hn => (hkb9.block i (Nat.lt_of_lt_of_le hi (Nat.le_trans HBw3.out.size hk4.size)) (fun e => by have e' : i = b9 := e; have h1 := HB9e.out; omega)).trans ((hk4.block i (Nat.lt_of_lt_of_le hi HBw3.out.size) hn).trans (HBw3.out.block i hi))⟩
      have h9l := HB9.out.lt
      have hv'9 : ∀ i, v'.ownBlock = some i → i ≠ b9 := fun i hi e => by
        rcases hn4 with h1 | ⟨j, h1, h2⟩
        · rw [h1] at hi; have h3 := own_ltS HR.out.m.o hi; have h4 := HB9e.out; omega
        · rw [h1] at hi; cases hi; omega
      have HM5 := Lib.hid (hM4.kept hkb9 (by show ¬ bm = b9; have h1 := HR.out.b; have h2 := HR.out.k.size; have h3 := HB9e.out; omega) (fun i hi e => hv'9 i hi e))
      have HP5 := Lib.hid (show PrsAt W5 r.pa r.ps from RowAt.kept hp4 hkb9 (fun g o e x => by have h1 := (hg4 g o e).1; have h2 : g = b9 := x; omega))
      have HG5 := Lib.hid (show ∀ g o, r.pa = some ⟨g, o, none⟩ → wr.heap.size ≤ g ∧ v'.ownBlock ≠ some g ∧ g < W5.heap.size from fun g o e => ⟨Nat.le_trans HBw3.out.size (hg4 g o e).1, (hg4 g o e).2.1, Nat.lt_of_lt_of_le (hg4 g o e).2.2 hkb9.size⟩)
      have HN5 := Lib.hid (hn4.mono HBw3.out.size)
      have HDo := Lib.hid hdo
      have HKT := Lib.hid hkt5
      have HB95 := Lib.hid hb95
      have HD1 := Lib.hid hd1
      have hb75 := (HB73.out.kept hk4 (fun h => (hS3 b7 h).1 rfl)).kept hkb9 (by show ¬ b7 = b9; have h1 := HB9e.out; omega)
      have q8 : W5.cell? ⟨b7, 8, none⟩ = some (.bool false) := by rw [hb75.cell]; rfl
      have hu5 : W5.ownsRow B 53 11 u ds.length (dcells ds) := own_keeps HR.out.o hkt5 (fun i hi e => by
        rcases e with e | e
        · have h1 := own_base HR.out.o i hi; have h2 := HR.out.m.lt; omega
        · exact (HR.out.vb i e).2.1 hi)
      have he55 : Blk W5 b5 #[u, .slice none 0 0, .bool false] 46 := HR.out.e5.kept hkt5 (fun h => (hS3 b5 h).2.2.2 rfl)
      have HE55 := Lib.hid he55
      obtain ⟨ua, uc, hue, _⟩ := own_dns hu5
      have hu0 : W5.cell? ⟨b5, 0, none⟩ = some (.slice ua ds.length uc) := by rw [he55.cell, hue]; rfl
      have HU5 := Lib.hid hu5
      have HUe := Lib.hid hue
      have HLd := Lib.hid (show ds.length ≤ 1000000000 from by have h1 := HR.out.p.len.1; rw [List.length_take] at h1; have := HKc.out; omega)
      clear hS3 hb94 hput hb95 hkb9 hkt5 h9l hv'9 hM4 hp4 hg4 hk4 hn4 hdo hd1 hb75 hu5 he55 hue
      go_upto_region 13 with (fail)
      go_step
      refine wpList_plain rfl (fun K hK => ?_)
      go_simp
      refine hK _ _ ?_
      clear hK K
      refine wpList_plain rfl (fun K hK => ?_)
      go_simp
      refine hK _ _ ?_
      clear hK K
      refine wpList_load_dn rfl (.tmp 9) rfl b9 0 d1 (ev_tmp (by first | (simp [Act.put]; done) | rfl)) HB95.out.cellsAt ?_
      refine wpList_pushN_dn rfl rfl (.tmp 57) (.tmp 56) 58 rfl rfl rfl d1 (ev_tmp (by first | (simp [Act.put]; done) | rfl)) u ds B (ev_tmp (by rw [HUe.out]; first | (simp [Act.put]; done) | rfl)) HU5.out (by first | (simp [Act.put]; done) | rfl) HLd.out HM5.out.le ?_
      intro v6 w6 hO6 hK6 hN6
      obtain ⟨va6, vc6, rfl, _⟩ := own_dns hO6
      have he6 : Blk w6 b5 #[u, .slice none 0 0, .bool false] 46 := HE55.out.kept hK6 (fun e => (HR.out.ub b5 e).2.2 rfl)
      have hu6 : w6.cell? ⟨b5, 0, none⟩ = some (.slice ua ds.length uc) := by rw [he6.cell, HUe.out]; rfl
      have hf6 := he6.frozen 0
      have HNx := Lib.hid (PlI.next (r := r) HR.out HDo.out HM5.out HN5.out HKT.out HP5.out HG5.out (by
        have e1 : (cs.take k).length = k := by rw [List.length_take]; have := HKc.out; omega
        rw [e1, HD1.out]; exact hO6) hK6 hN6)
      have HTk := Lib.hid (show cs.take (k + 1) = cs.take k ++ [c] from by rw [List.take_add_one, List.getElem?_eq_getElem HKc.out.1, ← getD_eq cs k dnZ HKc.out.1, HCd.out]; rfl)
      clear hO6 hK6 hN6 he6 hu0
      go_wp2_with (fail)
      go_roundw
      case rel => exact ⟨k + 1, _, L', v', _, HKt.out, by go_num, Lib.hid (by rw [HTk.out]; have h9 := HNx.out; rw [show (ds ++ [d1]).length = ds.length + 1 from by simp] at h9; exact h9)⟩
      case measure => have := HKt.out; simp [intOf]; omega
    · obtain rfl : cn = k := by omega
      have hkb : ¬ (cn : Int) < (cn : Int) := by omega
      have HCs := Lib.hid (show cs.take cn = cs from List.take_of_length_le (by have := HCN.out; omega))
      rw [HCs.out] at HR
      obtain ⟨va, vc, hva, hvp⟩ := HR.out.m.reads
      have HPr := Lib.hid (pairs_v L va vc bm wr (by have h1 := HR.out.p.len.2; have := HCN.out; omega) (hva ▸ HR.out.m.b) hvp)
      clear hkt hk hva hvp
      go_wp2_with (fail)
      refine HPr.out.mono ?_
      rintro e2 w2 ⟨v2, ps, rfl, ho2, hok, hB2⟩
      obtain ⟨aa, ac, rfl, hps⟩ := own_prs ho2
      obtain ⟨ua, uc, hue, _⟩ := own_dns HR.out.o
      have he5 := HR.out.e5.kept (Keeps.of_below' hB2) (fun h => h)
      have he4 := HR.out.e4.kept (Keeps.of_below' hB2) (fun h => h)
      rw [hue] at he5
      have x1 : w2.cell? ⟨b5, 1, none⟩ = some (.slice none 0 0) := by rw [he5.cell]; rfl
      have x2 : w2.cell? ⟨b5, 2, none⟩ = some (.bool false) := by rw [he5.cell]; rfl
      have f1 := he5.frozen 1
      have f2 := he5.frozen 2
      have hb55 := (he5.set 1 (.slice aa ps.length ac)).set 2 (.bool true)
      have hb45 := (he4.other 1 (.slice aa ps.length ac) (show b4 ≠ b5 from by have := HR.out.b; omega)).other 2 (.bool true) (show b4 ≠ b5 from by have := HR.out.b; omega)
      have hks : Keeps (fun i => i = b5) w2 ((w2.setCell ⟨b5, 1, none⟩ (.slice aa ps.length ac)).setCell ⟨b5, 2, none⟩ (.bool true)) := ((Keeps.refl (fun i => i = b5) w2).setCell (p := ⟨b5, 1, none⟩) (.inl rfl) _).setCell (p := ⟨b5, 2, none⟩) (.inl rfl) _
      obtain ⟨er, her⟩ : ∃ er : Er, (⟨ua, uc, ds, aa, ac, ps, true⟩ : Er) = er := ⟨_, rfl⟩
      have hc : (#[.slice ua ds.length uc, .slice none 0 0, .bool false].setIfInBounds 1 (.slice aa ps.length ac)).setIfInBounds 2 (.bool true) = erCells er := by rw [← her]; rfl
      rw [hc] at hb55
      go_upto_region 16 with (fail)
      generalize (w2.setCell ⟨b5, 1, none⟩ (.slice aa ps.length ac)).setCell ⟨b5, 2, none⟩ (.bool true) = w3 at hb55 hb45 hks ⊢
      clear x1 x2 f1 f2
      go_step
      refine wpList_load_er rfl (.tmp 5) rfl b5 0 er (ev_tmp (by first | (simp [Act.put]; done) | rfl)) hb55.cellsAt ?_
      refine wpList_store_er rfl (.tmp 4) (.tmp 65) rfl b4 er (erCells erZ) (ev_tmp (by first | (simp [Act.put]; done) | rfl)) (ev_tmp (by first | (simp [Act.put]; done) | rfl)) hb45 rfl ?_
      have hks4 : Keeps (fun i => i = b4) w3 (w3.setRow b4 (erCells er)) := keeps_setRow (Keeps.refl (fun i => i = b4) w3) (.inl rfl) _
      have hrow4 := Blk.row hb45 (erCells er)
      generalize w3.setRow b4 (erCells er) = w4 at hks4 hrow4 ⊢
      have HK23 := Lib.hid (And.intro hks hks4)
      have HRow := Lib.hid hrow4
      have HEr := Lib.hid her
      have HB2 := Lib.hid hB2
      have HO2 := Lib.hid ho2
      have HPs := Lib.hid hps
      have HOk := Lib.hid hok
      have HUe := Lib.hid hue
      clear hks hks4 hrow4 her hB2 ho2 hps hok hue he5 he4 hb55 hb45 hc
      go_wp2_with (fail)
      refine bodyPost_ret (results_er rfl _ b4 er rfl HRow.out) rfl ?_
      have hb := HR.out.b
      have h5l := HR.out.e5.lt
      have h4l := HR.out.e4.lt
      have hsz := HR.out.k.size
      have hsz2 := HB2.out.size
      have hu : ∀ i, u.ownBlock = some i → i ≠ b4 ∧ i ≠ b5 := fun i hi => (HR.out.ub i hi).2
      have hown : w4.ownsRow w.heap.size 53 11 u ds.length (dcells ds) := by
        have h1 := own_keeps (own_keeps (own_keeps HR.out.o (Keeps.of_below' HB2.out) (fun _ _ h => h)) HK23.out.1 (fun i hi e => (hu i hi).2 e)) HK23.out.2 (fun i hi e => (hu i hi).1 e)
        obtain ⟨h2, h3 | ⟨g9, cap9, cur9, hv9, hg9, r9⟩⟩ := h1
        · exact ⟨h2, .inl h3⟩
        · exact ⟨h2, .inr ⟨g9, cap9, cur9, hv9, (HR.out.ub g9 (by rw [hv9]; rfl)).1, r9⟩⟩
      have haa : ∀ g o, aa = some ⟨g, o, none⟩ → wr.heap.size ≤ g := fun g o e => own_base HO2.out g (by rw [e]; rfl)
      have hea := HEr.out
      subst hea
      refine ⟨_, L, rfl, rfl, HR.out.p, HOk.out, by rw [← HUe.out]; exact hown, fun d hd => ?_, ?_, fun g o e => ?_, ?_⟩
      · obtain ⟨h1, h2⟩ := HR.out.d d hd
        refine ⟨RowAt.kept (RowAt.kept (h1.below HB2.out) HK23.out.1 (fun g o e x => (h2 g o e).2.2.2.2.1 x)) HK23.out.2 (fun g o e x => (h2 g o e).2.2.2.1 x), fun g o e => ?_⟩
        rw [← HUe.out]
        exact (h2 g o e).2.2.1
      · exact RowAt.kept (RowAt.kept HPs.out HK23.out.1 (fun g o e x => by have h1 := haa g o e; have h2 : g = b5 := x; omega)) HK23.out.2 (fun g o e x => by have h1 := haa g o e; have h2 : g = b4 := x; omega)
      · rw [← HUe.out]
        have h1 := haa g o e
        exact fun x => by have := own_ltS HR.out.o x; omega
      · refine ⟨HK23.out.2.os.trans (HK23.out.1.os.trans (HB2.out.os.trans HR.out.k.os)), HK23.out.2.tape.trans (HK23.out.1.tape.trans (HB2.out.tape.trans HR.out.k.tape)), HK23.out.2.output.trans (HK23.out.1.output.trans (HB2.out.output.trans HR.out.k.output)), Nat.le_trans hsz (Nat.le_trans hsz2 (Nat.le_trans HK23.out.1.size HK23.out.2.size)), fun k hk1 hn1 => ?_⟩
        have hz1 := HK23.out.1.size
        rw [HK23.out.2.block k (by omega) (fun e => by have e' : k = b4 := e; omega), HK23.out.1.block k (by omega) (fun e => by have e' : k = b5 := e; omega), HB2.out.block k (by omega)]
        exact HR.out.k.block k hk1 hn1
end Go.Proofs.Ytdmcakoaakinnaa
