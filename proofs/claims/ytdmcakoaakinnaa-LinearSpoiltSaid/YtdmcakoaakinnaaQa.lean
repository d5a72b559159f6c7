/-
  HISTORIES: pairs, calls, eras as data; their cells; where they lie in memory.
-/
import Derived.Test.YtdmcakoaakinnaaChecked
import Derived.Test.YtdmcakoaakinnaaLib
import Derived.Test.YtdmcakoaakinnaaFr
import Derived.Test.YtdmcakoaakinnaaRd
import Derived.Laws.Rows
import Derived.Laws.Tables
import Derived.OwnWalk
import Derived.Lib.Hide
import Derived.TacticsInMore
import Derived.OwnWalkIn
import Derived.Deep.Cut
import Derived.Deep.DeepCutAuto
import Derived.Lib.SliceRun
namespace Go.Proofs.Ytdmcakoaakinnaa
open Go.RowKit
set_option linter.unusedVariables false
set_option linter.unusedSimpArgs false

theorem own_keeps {S : Nat → Prop} {w w' : World} {B k : Nat} {e : TypeId} {v : Value} {n : Nat} {xs : List Value} (h : w.ownsRow B e k v n xs) (hk : Keeps S w w') (hs : ∀ i, v.ownBlock = some i → ¬ S i) : w'.ownsRow B e k v n xs := by
  obtain ⟨hl, h0 | ⟨g, cap, cur, hv, hg, hh, h1⟩⟩ := h
  · exact ⟨hl, .inl h0⟩
  · refine ⟨hl, .inr ⟨g, cap, cur, hv, hg, ?_, h1⟩⟩
    rw [hk.block g (Array.getElem?_eq_some_iff.1 hh).1 (hs g (by rw [hv]; rfl))]; exact hh
theorem own_ltS {w : World} {B k : Nat} {e : TypeId} {v : Value} {n : Nat} {xs : List Value} (h : w.ownsRow B e k v n xs) {i : Nat} (hi : v.ownBlock = some i) : i < w.heap.size := by
  obtain ⟨hl, ⟨rfl, _⟩ | ⟨g, cap, cur, rfl, hg, hh, h1⟩⟩ := h
  · cases hi
  · cases hi; exact (Array.getElem?_eq_some_iff.1 hh).1

theorem below_keeps {S : Nat → Prop} {B : Nat} {w w1 w2 : World} (h : Below B w w1) (hB : B ≤ w.heap.size) (hk : Keeps S w1 w2) (hS : ∀ i, S i → B ≤ i) : Below B w w2 :=
  h.trans ⟨hk.os, hk.tape, hk.output, hk.size, fun k hk2 => hk.block k (by have := h.size; omega) (fun e => by have := hS k e; omega)⟩
/-- a pair -/
structure Pr where
  mkPr ::
  key : Int
  val : ByteArray
def prCells (p : Pr) : Array Value := #[.int .u64 p.key, .string p.val]
/-- a call, as it was answered; where its pairs lie -/
structure Dn where
  mkDn ::
  cl : Int
  op : Int
  key : Int
  hi : Int
  lim : Int
  val : ByteArray
  bg : Int
  en : Int
  code : Int
  rv : ByteArray
  pa : Option Addr
  pc : Nat
  ps : List Pr
def dnCells (d : Dn) : Array Value := #[.int .i64 d.cl, .int .i64 d.op, .int .u64 d.key, .int .u64 d.hi, .int .i64 d.lim, .string d.val, .int .i64 d.bg, .int .i64 d.en, .int .i64 d.code, .string d.rv, .slice d.pa d.ps.length d.pc]
/-- an era -/
structure Er where
  mkEr ::
  ca : Option Addr
  cc : Nat
  cs : List Dn
  aa : Option Addr
  ac : Nat
  af : List Pr
  kn : Bool
def erCells (e : Er) : Array Value := #[.slice e.ca e.cs.length e.cc, .slice e.aa e.af.length e.ac, .bool e.kn]

/-- a row of elements, each so many cells -/
def RowAt (w : World) (a : Option Addr) (n k : Nat) (f : Nat → Array Value) : Prop :=
  0 < n → ∃ g o, a = some ⟨g, o, none⟩ ∧ g < w.heap.size ∧ ∀ i, i < n → ∀ j, j < k → w.cell? ⟨g, o + i * k + j, none⟩ = (f i)[j]?
def prZ : Pr := ⟨0, ⟨#[]⟩⟩
def dnZ : Dn := ⟨0, 0, 0, 0, 0, ⟨#[]⟩, 0, 0, 0, ⟨#[]⟩, none, 0, []⟩
def erZ : Er := ⟨none, 0, [], none, 0, [], false⟩
def PrsAt (w : World) (a : Option Addr) (l : List Pr) : Prop := RowAt w a l.length 2 (fun i => prCells (l.getD i prZ))
def DnsAt (w : World) (a : Option Addr) (l : List Dn) : Prop := RowAt w a l.length 11 (fun i => dnCells (l.getD i dnZ)) ∧ ∀ d ∈ l, PrsAt w d.pa d.ps
def ErsAt (w : World) (a : Option Addr) (l : List Er) : Prop := RowAt w a l.length 3 (fun i => erCells (l.getD i erZ)) ∧ ∀ e ∈ l, DnsAt w e.ca e.cs ∧ PrsAt w e.aa e.af
theorem RowAt.below {w w' : World} {a : Option Addr} {n k : Nat} {f : Nat → Array Value} (h : RowAt w a n k f) (hB : Below w.heap.size w w') : RowAt w' a n k f := fun hn => by
  obtain ⟨g, o, e, hg, hc⟩ := h hn
  exact ⟨g, o, e, Nat.lt_of_lt_of_le hg hB.size, fun i hi j hj => (hB.cell (p := ⟨g, o + i * k + j, none⟩) hg).trans (hc i hi j hj)⟩
theorem RowAt.kept {w w' : World} {S : Nat → Prop} {a : Option Addr} {n k : Nat} {f : Nat → Array Value} (h : RowAt w a n k f) (hk : Keeps S w w') (hS : ∀ g o, a = some ⟨g, o, none⟩ → ¬ S g) : RowAt w' a n k f := fun hn => by
  obtain ⟨g, o, e, hg, hc⟩ := h hn
  exact ⟨g, o, e, Nat.lt_of_lt_of_le hg hk.size, fun i hi j hj => (hk.cell (p := ⟨g, o + i * k + j, none⟩) hg (hS g o e)).trans (hc i hi j hj)⟩
theorem PrsAt.below {w w' : World} {a : Option Addr} {l : List Pr} (h : PrsAt w a l) (hB : Below w.heap.size w w') : PrsAt w' a l := RowAt.below h hB
theorem DnsAt.below {w w' : World} {a : Option Addr} {l : List Dn} (h : DnsAt w a l) (hB : Below w.heap.size w w') : DnsAt w' a l := ⟨h.1.below hB, fun d hd => (h.2 d hd).below hB⟩
theorem ErsAt.below {w w' : World} {a : Option Addr} {l : List Er} (h : ErsAt w a l) (hB : Below w.heap.size w w') : ErsAt w' a l := ⟨h.1.below hB, fun d hd => ⟨(h.2 d hd).1.below hB, (h.2 d hd).2.below hB⟩⟩
theorem PrsAt.nil (w : World) (a : Option Addr) : PrsAt w a [] := fun h => absurd h (by simp)
theorem DnsAt.nil (w : World) (a : Option Addr) : DnsAt w a [] := ⟨fun h => absurd h (by simp), fun d h => by cases h⟩
theorem getD_eq {α : Type} (l : List α) (i : Nat) (z : α) (h : i < l.length) : l.getD i z = l[i] := by rw [List.getD_eq_getElem?_getD, List.getElem?_eq_getElem h]; rfl
theorem getD_memL {α : Type} (l : List α) (i : Nat) (z : α) (h : i < l.length) : l.getD i z ∈ l := by rw [getD_eq l i z h]; exact List.getElem_mem h

/-! ### the plain functions -/
def aheadP (a b : Dn) : Bool := decide (0 ≤ a.en) && decide (a.en < b.bg)
def okP (d : Dn) : Bool := decide (0 ≤ d.en) && decide (d.code = 0)
def riseP (l : List Pr) : Bool := (List.range (l.length - 1)).all fun i => decide ((l.getD i prZ).key < (l.getD (i + 1) prZ).key)
def oddP (d : Dn) : Bool := decide (d.bg < 0) || (decide (0 ≤ d.en) && decide (d.en ≤ d.bg))
def mayP (first : List Pr) (l : List Er) : Bool := (l.all fun e => !(e.cs.any oddP) && riseP e.af) && riseP first
def wholeP (d : Dn) : Bool := decide (d.op = 4) && okP d && riseP d.ps && decide ((d.ps.length : Int) ≤ d.lim) && !(d.ps.any fun p => decide (p.key < d.key) || decide (d.hi < p.key))
def tellsP (d : Dn) (key : Int) : Bool := wholeP d && decide (d.key ≤ key) && decide (key ≤ d.hi) && (decide ((d.ps.length : Int) < d.lim) || (decide (0 < d.ps.length) && decide (key ≤ (d.ps.getD (d.ps.length - 1) prZ).key)))
def valueP (l : List Pr) (key : Int) : ByteArray × Bool := match l.find? (fun p => p.key == key) with | some p => (p.val, true) | none => (⟨#[]⟩, false)
def getP (d : Dn) (key : Int) : Dn := ⟨d.cl, 2, key, 0, 0, ⟨#[]⟩, d.bg, d.en, if (valueP d.ps key).2 = true then 0 else 5, (valueP d.ps key).1, none, 0, []⟩
/-- is a call one of a key, as it stands? -/
def ownP (d : Dn) (key : Int) : Bool := decide (d.key = key) && !(decide (0 ≤ d.en) && decide (d.code ≠ 0) && decide (d.code ≠ 5)) && (decide (d.op = 1) || decide (d.op = 3) || (decide (d.op = 2) && decide (0 ≤ d.en)))
def ofP (key : Int) (cs : List Dn) : List Dn := cs.filterMap fun d => if tellsP d key = true then some (getP d key) else if ownP d key = true then some d else none
/-- which calls of an era were done, and the key's value -/
structure St where
  mkSt ::
  dn : Nat
  is : Bool
  v : ByteArray
def stCells (s : St) : Array Value := #[.int .u64 s.dn, .bool s.is, .string s.v]
def afterS (s : St) (i : Nat) (d : Dn) : St := if d.op = 1 then ⟨s.dn ||| 1 <<< i, true, d.val⟩ else if d.op = 3 then ⟨s.dn ||| 1 <<< i, false, ⟨#[]⟩⟩ else ⟨s.dn ||| 1 <<< i, s.is, s.v⟩
def codeS (s : St) (d : Dn) : Int := if d.op = 1 then 0 else if s.is = true then 0 else 5
def valS (s : St) (d : Dn) : ByteArray := if d.op = 1 then ⟨#[]⟩ else if d.op = 3 then ⟨#[]⟩ else if s.is = true then s.v else ⟨#[]⟩
def rightS (s : St) (d : Dn) : Bool := decide (d.en < 0) || (decide (codeS s d = d.code) && (decide (d.op ≠ 2) || decide (valS s d = d.rv)))
def crowdP (l : List Dn) : Bool := l.any fun at_ => decide (12 < (l.filter fun d => decide (d.bg ≤ at_.bg) && !aheadP d at_).length)

/-! ### loads and stores of whole structs -/
section
variable {P : Program}
theorem run_loadVar_part (w : World) (g off : Nat) (ty : TypeId) (cs : Array Value) (d : TypeDesc) (hc : ∀ j v, cs[j]? = some v → w.cell? ⟨g, off + j, none⟩ = some v)
    (hu : P.underlying ty = some d) (hd : (match d with | .struct _ | .array _ _ => true | _ => false) = true) (hi : (P.info? ty).map (·.size) = some cs.size) :
    (loadVar ty ⟨g, off, none⟩).run P w = .ok (.agg cs) w := by
  have hl : (loadCells ⟨g, off, none⟩ cs.toList.length).run P w = .ok cs.toList.toArray w :=
    run_loadCells_list (P := P) w ⟨g, off, none⟩ cs.toList (fun j v hv => by
      have hadd : (⟨g, off, none⟩ : Addr).add j = ⟨g, off + j, none⟩ := by unfold Addr.add; split <;> simp_all
      rw [hadd]
      exact hc j v (by simpa using hv))
  cases hq : P.info? ty with
  | none => simp [hq] at hi
  | some i =>
    rw [hq] at hi
    simp at hi
    have hs : (sizeOf ty).run P w = .ok cs.size w := by simp [sizeOf, typeInfo, hq, hi]
    have ha : (isAgg ty).run P w = .ok true w := by
      simp only [isAgg, Sem.run_bind, run_underlying hu, Result.andThen_ok]
      cases d <;> simp_all
    simp at hl
    simp [loadVar, ha, hs, hl, Result.andThen]
theorem wp_load_part {o : Oper} {a : Act} {w : World} {K : Act → World → Prop} {Q : Exit → Act → World → Prop} (ty : TypeId) (x : Operand) (ho : o.op = .load ty x)
    (g off : Nat) (hx : a.eval x = .pointer (some ⟨g, off, none⟩)) (cs : Array Value) (d : TypeDesc) (hc : ∀ j v, cs[j]? = some v → w.cell? ⟨g, off + j, none⟩ = some v)
    (hu : P.underlying ty = some d) (hd : (match d with | .struct _ | .array _ _ => true | _ => false) = true) (hi : (P.info? ty).map (·.size) = some cs.size)
    (h : K (a.put o.dst (.agg cs)) w) : Oper.wp P o a w K Q := by
  unfold Oper.wp execOp
  simp only [ho, hx, Instr.loadAt, Instr.sureAddr, Sem.run_bind, Sem.run_pure, Result.andThen_ok, run_loadVar_part w g off ty cs d hc hu hd hi]
  exact h
end
theorem ev_tmp {a : Act} {s : Nat} {v : Value} (h : a.tmps[s]?.getD undef = v) : a.eval (.tmp s) = v := by simpa [Act.eval] using h
def cellsAt (w : World) (g off : Nat) (cs : Array Value) : Prop := ∀ j v, cs[j]? = some v → w.cell? ⟨g, off + j, none⟩ = some v
theorem cellsAt.below {w w' : World} {g off : Nat} {cs : Array Value} (h : cellsAt w g off cs) (hg : g < w.heap.size) (hB : Below w.heap.size w w') : cellsAt w' g off cs := fun j v hj => (hB.cell (p := ⟨g, off + j, none⟩) hg).trans (h j v hj)
theorem cellsAt.kept {w w' : World} {S : Nat → Prop} {g off : Nat} {cs : Array Value} (h : cellsAt w g off cs) (hg : g < w.heap.size) (hk : Keeps S w w') (hS : ¬ S g) : cellsAt w' g off cs := fun j v hj => (hk.cell (p := ⟨g, off + j, none⟩) hg hS).trans (h j v hj)
theorem Blk.cellsAt {w : World} {b : Nat} {C : Array Value} {t : TypeId} (h : Blk w b C t) : Go.Proofs.Ytdmcakoaakinnaa.cellsAt w b 0 C := fun j v hj => by rw [Nat.zero_add, h.cell]; exact hj
theorem wp_load_dn {o : Oper} {a : Act} {w : World} {K : Act → World → Prop} {Q : Exit → Act → World → Prop} (x : Operand) (ho : o.op = .load 53 x) (g off : Nat) (d : Dn)
    (hx : a.eval x = .pointer (some ⟨g, off, none⟩)) (hc : cellsAt w g off (dnCells d)) (h : K (a.put o.dst (.agg (dnCells d))) w) : Oper.wp Try.prog o a w K Q :=
  wp_load_part 53 x ho g off hx (dnCells d) _ hc Try.underlying53 rfl (by kernel_rfl) h
theorem wpList_load_dn {ops : Array Oper} {rest : List Oper} {o : Oper} {a : Act} {w : World} {Q : Exit → Act → World → Prop} (hw : Region.wanted o (yielded ops a.tmps) = true) (x : Operand) (ho : o.op = .load 53 x) (g off : Nat) (d : Dn)
    (hx : a.eval x = .pointer (some ⟨g, off, none⟩)) (hc : cellsAt w g off (dnCells d)) (h : wpList Try.prog ops Q rest (a.put o.dst (.agg (dnCells d))) w) : wpList Try.prog ops Q (o :: rest) a w := by
  simp only [wpList, hw, if_true]
  exact .inl (wp_load_dn x ho g off d hx hc h)
theorem run_idx_dn (w : World) (g off n cap k : Nat) (hk : k < n) : (Instr.indexAt 44 (.slice (some ⟨g, off, none⟩) n cap) (.int .i64 k)).run Try.prog w = .ok (.pointer (some ⟨g, off + k * 11, none⟩)) w := by
  have h1 : (0 : Int) ≤ k := by omega
  have h2 : (k : Int) < n := by omega
  have hs : (sizeOf (Try.prog.elem 44)).run Try.prog w = .ok 11 w := by kernel_rfl
  rw [run_indexAt_slice w 44 ⟨g, off, none⟩ n cap .i64 k (by kernel_rfl), if_pos ⟨h1, h2⟩, hs]
  have e : (⟨g, off, none⟩ : Addr).add (k * 11) = ⟨g, off + k * 11, none⟩ := by unfold Addr.add; split <;> simp_all
  simp only [Result.andThen_ok, Int.toNat_natCast, e]
/-- l[k], whole: two operations at once -/
theorem wpList_idx_dn {ops : Array Oper} {rest : List Oper} {o1 o2 : Oper} {a : Act} {w : World} {Q : Exit → Act → World → Prop} (h1 : o1.guard = none) (h2 : o2.guard = none) (x y : Operand) (s : Tmp) (hd : o1.dst = some s)
    (ho1 : o1.op = .indexAddr 44 x y) (ho2 : o2.op = .load 53 (.tmp s)) (g off n cap k : Nat) (d : Dn) (hx : a.eval x = .slice (some ⟨g, off, none⟩) n cap) (hy : a.eval y = .int .i64 k) (hk : k < n) (hs : s < a.tmps.size)
    (hc : cellsAt w g (off + k * 11) (dnCells d)) (h : wpList Try.prog ops Q rest ((a.put o1.dst (.pointer (some ⟨g, off + k * 11, none⟩))).put o2.dst (.agg (dnCells d))) w) : wpList Try.prog ops Q (o1 :: o2 :: rest) a w := by
  refine wpList_plain h1 fun K hK => ?_
  unfold Oper.wp execOp
  simp only [ho1, hx, hy, Sem.run_bind, Sem.run_pure, Result.andThen_ok, run_idx_dn w g off n cap k hk]
  refine hK _ _ (wpList_plain h2 fun K2 hK2 => ?_)
  refine wp_load_dn (.tmp s) ho2 g (off + k * 11) d ?_ hc (hK2 _ _ h)
  rw [hd]
  simp [Act.put, Act.eval, hs]
theorem wp_load_pr {o : Oper} {a : Act} {w : World} {K : Act → World → Prop} {Q : Exit → Act → World → Prop} (x : Operand) (ho : o.op = .load 59 x) (g off : Nat) (d : Pr)
    (hx : a.eval x = .pointer (some ⟨g, off, none⟩)) (hc : cellsAt w g off (prCells d)) (h : K (a.put o.dst (.agg (prCells d))) w) : Oper.wp Try.prog o a w K Q :=
  wp_load_part 59 x ho g off hx (prCells d) _ hc Try.underlying59 rfl (by kernel_rfl) h
theorem wpList_load_pr {ops : Array Oper} {rest : List Oper} {o : Oper} {a : Act} {w : World} {Q : Exit → Act → World → Prop} (hw : Region.wanted o (yielded ops a.tmps) = true) (x : Operand) (ho : o.op = .load 59 x) (g off : Nat) (d : Pr)
    (hx : a.eval x = .pointer (some ⟨g, off, none⟩)) (hc : cellsAt w g off (prCells d)) (h : wpList Try.prog ops Q rest (a.put o.dst (.agg (prCells d))) w) : wpList Try.prog ops Q (o :: rest) a w := by
  simp only [wpList, hw, if_true]
  exact .inl (wp_load_pr x ho g off d hx hc h)
theorem run_idx_pr (w : World) (g off n cap k : Nat) (hk : k < n) : (Instr.indexAt 22 (.slice (some ⟨g, off, none⟩) n cap) (.int .i64 k)).run Try.prog w = .ok (.pointer (some ⟨g, off + k * 2, none⟩)) w := by
  have h1 : (0 : Int) ≤ k := by omega
  have h2 : (k : Int) < n := by omega
  have hs : (sizeOf (Try.prog.elem 22)).run Try.prog w = .ok 2 w := by kernel_rfl
  rw [run_indexAt_slice w 22 ⟨g, off, none⟩ n cap .i64 k (by kernel_rfl), if_pos ⟨h1, h2⟩, hs]
  have e : (⟨g, off, none⟩ : Addr).add (k * 2) = ⟨g, off + k * 2, none⟩ := by unfold Addr.add; split <;> simp_all
  simp only [Result.andThen_ok, Int.toNat_natCast, e]
/-- l[k], whole: two operations at once -/
theorem wpList_idx_pr {ops : Array Oper} {rest : List Oper} {o1 o2 : Oper} {a : Act} {w : World} {Q : Exit → Act → World → Prop} (h1 : o1.guard = none) (h2 : o2.guard = none) (x y : Operand) (s : Tmp) (hd : o1.dst = some s)
    (ho1 : o1.op = .indexAddr 22 x y) (ho2 : o2.op = .load 59 (.tmp s)) (g off n cap k : Nat) (d : Pr) (hx : a.eval x = .slice (some ⟨g, off, none⟩) n cap) (hy : a.eval y = .int .i64 k) (hk : k < n) (hs : s < a.tmps.size)
    (hc : cellsAt w g (off + k * 2) (prCells d)) (h : wpList Try.prog ops Q rest ((a.put o1.dst (.pointer (some ⟨g, off + k * 2, none⟩))).put o2.dst (.agg (prCells d))) w) : wpList Try.prog ops Q (o1 :: o2 :: rest) a w := by
  refine wpList_plain h1 fun K hK => ?_
  unfold Oper.wp execOp
  simp only [ho1, hx, hy, Sem.run_bind, Sem.run_pure, Result.andThen_ok, run_idx_pr w g off n cap k hk]
  refine hK _ _ (wpList_plain h2 fun K2 hK2 => ?_)
  refine wp_load_pr (.tmp s) ho2 g (off + k * 2) d ?_ hc (hK2 _ _ h)
  rw [hd]
  simp [Act.put, Act.eval, hs]
theorem wp_load_er {o : Oper} {a : Act} {w : World} {K : Act → World → Prop} {Q : Exit → Act → World → Prop} (x : Operand) (ho : o.op = .load 46 x) (g off : Nat) (d : Er)
    (hx : a.eval x = .pointer (some ⟨g, off, none⟩)) (hc : cellsAt w g off (erCells d)) (h : K (a.put o.dst (.agg (erCells d))) w) : Oper.wp Try.prog o a w K Q :=
  wp_load_part 46 x ho g off hx (erCells d) _ hc Try.underlying46 rfl (by kernel_rfl) h
theorem wpList_load_er {ops : Array Oper} {rest : List Oper} {o : Oper} {a : Act} {w : World} {Q : Exit → Act → World → Prop} (hw : Region.wanted o (yielded ops a.tmps) = true) (x : Operand) (ho : o.op = .load 46 x) (g off : Nat) (d : Er)
    (hx : a.eval x = .pointer (some ⟨g, off, none⟩)) (hc : cellsAt w g off (erCells d)) (h : wpList Try.prog ops Q rest (a.put o.dst (.agg (erCells d))) w) : wpList Try.prog ops Q (o :: rest) a w := by
  simp only [wpList, hw, if_true]
  exact .inl (wp_load_er x ho g off d hx hc h)
theorem run_idx_er (w : World) (g off n cap k : Nat) (hk : k < n) : (Instr.indexAt 23 (.slice (some ⟨g, off, none⟩) n cap) (.int .i64 k)).run Try.prog w = .ok (.pointer (some ⟨g, off + k * 3, none⟩)) w := by
  have h1 : (0 : Int) ≤ k := by omega
  have h2 : (k : Int) < n := by omega
  have hs : (sizeOf (Try.prog.elem 23)).run Try.prog w = .ok 3 w := by kernel_rfl
  rw [run_indexAt_slice w 23 ⟨g, off, none⟩ n cap .i64 k (by kernel_rfl), if_pos ⟨h1, h2⟩, hs]
  have e : (⟨g, off, none⟩ : Addr).add (k * 3) = ⟨g, off + k * 3, none⟩ := by unfold Addr.add; split <;> simp_all
  simp only [Result.andThen_ok, Int.toNat_natCast, e]
/-- l[k], whole: two operations at once -/
theorem wpList_idx_er {ops : Array Oper} {rest : List Oper} {o1 o2 : Oper} {a : Act} {w : World} {Q : Exit → Act → World → Prop} (h1 : o1.guard = none) (h2 : o2.guard = none) (x y : Operand) (s : Tmp) (hd : o1.dst = some s)
    (ho1 : o1.op = .indexAddr 23 x y) (ho2 : o2.op = .load 46 (.tmp s)) (g off n cap k : Nat) (d : Er) (hx : a.eval x = .slice (some ⟨g, off, none⟩) n cap) (hy : a.eval y = .int .i64 k) (hk : k < n) (hs : s < a.tmps.size)
    (hc : cellsAt w g (off + k * 3) (erCells d)) (h : wpList Try.prog ops Q rest ((a.put o1.dst (.pointer (some ⟨g, off + k * 3, none⟩))).put o2.dst (.agg (erCells d))) w) : wpList Try.prog ops Q (o1 :: o2 :: rest) a w := by
  refine wpList_plain h1 fun K hK => ?_
  unfold Oper.wp execOp
  simp only [ho1, hx, hy, Sem.run_bind, Sem.run_pure, Result.andThen_ok, run_idx_er w g off n cap k hk]
  refine hK _ _ (wpList_plain h2 fun K2 hK2 => ?_)
  refine wp_load_er (.tmp s) ho2 g (off + k * 3) d ?_ hc (hK2 _ _ h)
  rw [hd]
  simp [Act.put, Act.eval, hs]
theorem alloc_setRow (w : World) (Z cs : Array Value) (t : TypeId) : (w.alloc (.cells Z t)).setRow w.heap.size cs = w.alloc (.cells cs t) := by
  unfold World.setRow World.alloc
  congr 1
  apply Array.ext_getElem?
  intro i
  rw [Array.getElem?_modify]
  by_cases h : w.heap.size = i
  · subst h; simp
  · simp only [if_neg h, Array.getElem?_push]
    by_cases h2 : i = w.heap.size
    · exact absurd h2.symm h
    · rw [if_neg h2, if_neg h2]
theorem Blk.row {w : World} {g : Nat} {old : Array Value} {t : TypeId} (h : Blk w g old t) (cs : Array Value) : Blk (w.setRow g cs) g cs t := setRow_heap w g old cs t (0, 0) h
theorem Blk.rowOther {w : World} {g b : Nat} {C : Array Value} {t : TypeId} (h : Blk w b C t) (cs : Array Value) (hne : b ≠ g) : Blk (w.setRow g cs) b C t := by
  unfold Blk at *; rw [setRow_other w g b cs hne]; exact h
theorem keeps_setRow {S : Nat → Prop} {a w : World} (h : Keeps S a w) {g : Nat} (hg : S g ∨ a.heap.size ≤ g) (cs : Array Value) : Keeps S a (w.setRow g cs) :=
  ⟨h.os, h.tape, h.output, by rw [setRow_size]; exact h.size, fun k hk hn => by
    rw [setRow_other w g k cs (fun e => by subst e; rcases hg with h1 | h1; exact hn h1; omega)]
    exact h.block k hk hn⟩
theorem dnCells_one (d : Dn) : (dnCells d).all (·.oneCell') = true := by rw [Array.all_eq_true_iff_forall_mem]; intro v hv; simp [dnCells] at hv; rcases hv with rfl | rfl | rfl | rfl | rfl | rfl | rfl | rfl | rfl | rfl | rfl <;> rfl
theorem run_alloc_dn (w : World) : (Instr.alloc 53 true (.tuple #[])).run Try.prog w = .ok (.pointer (some ⟨w.heap.size, 0, none⟩)) (w.alloc (.cells (dnCells dnZ) 53)) := by kernel_rfl
theorem wp_alloc_dn {o : Oper} {a : Act} {w : World} {K : Act → World → Prop} {Q : Exit → Act → World → Prop} (ho : o.op = .alloc 53)
    (h : K (a.put o.dst (.pointer (some ⟨w.heap.size, 0, none⟩))) (w.alloc (.cells (dnCells dnZ) 53))) : Oper.wp Try.prog o a w K Q := by
  unfold Oper.wp execOp
  simp only [ho, Sem.run_bind, run_alloc_dn, Result.andThen_ok, Sem.run_pure]
  exact h
/-- a new block, laid at once: two operations, and what is between -/
theorem wpList_anew_dn {ops : Array Oper} {rest : List Oper} {o1 o2 : Oper} {a : Act} {w : World} {Q : Exit → Act → World → Prop} (h1 : o1.guard = none) (h2 : o2.guard = none) (s : Tmp) (y : Operand) (hd : o1.dst = some s)
    (ho1 : o1.op = .alloc 53) (ho2 : o2.op = .store 53 (.tmp s) y) (d : Dn) (hy : (a.put (some s) (.pointer (some ⟨w.heap.size, 0, none⟩))).eval y = .agg (dnCells d)) (hs : s < a.tmps.size)
    (h : wpList Try.prog ops Q rest ((a.put o1.dst (.pointer (some ⟨w.heap.size, 0, none⟩))).put o2.dst undef) (w.alloc (.cells (dnCells d) 53))) : wpList Try.prog ops Q (o1 :: o2 :: rest) a w := by
  refine wpList_plain h1 fun K hK => wp_alloc_dn ho1 (hK _ _ ?_)
  rw [hd] at h ⊢
  refine wpList_store_row h2 53 (.tmp s) y ho2 w.heap.size (dnCells d) ?_ hy 53 (dnCells dnZ) (Blk.new w _ _) (by kernel_rfl) rfl (dnCells_one d) ?_
  · simp [Act.put, Act.eval, hs]
  · rw [alloc_setRow]; exact h
theorem wpList_anewA_dn {ops : Array Oper} {rest : List Oper} {o1 o2 o3 : Oper} {a : Act} {w : World} {Q : Exit → Act → World → Prop} (h1 : o1.guard = none) (h2 : o2.guard = none) (h3 : o3.guard = none) (s r : Tmp) (y z : Operand) (hd : o1.dst = some s) (hd3 : o3.dst = some r)
    (ho1 : o1.op = .alloc 53) (ho3 : o3.op = .assign z) (ho2 : o2.op = .store 53 (.tmp s) y) (d : Dn) (v : Value) (hz : (a.put (some s) (.pointer (some ⟨w.heap.size, 0, none⟩))).eval z = v) (hy : ((a.put (some s) (.pointer (some ⟨w.heap.size, 0, none⟩))).put (some r) v).eval y = .agg (dnCells d)) (hs : s < a.tmps.size) (hrs : s ≠ r)
    (h : wpList Try.prog ops Q rest (((a.put o1.dst (.pointer (some ⟨w.heap.size, 0, none⟩))).put o3.dst v).put o2.dst undef) (w.alloc (.cells (dnCells d) 53))) : wpList Try.prog ops Q (o1 :: o3 :: o2 :: rest) a w := by
  refine wpList_plain h1 fun K hK => wp_alloc_dn ho1 (hK _ _ ?_)
  rw [hd] at h ⊢
  rw [hd3] at h
  refine wpList_plain h3 fun K hK => ?_
  unfold Oper.wp execOp
  simp only [ho3, hz]
  refine hK _ _ ?_
  rw [hd3]
  refine wpList_store_row h2 53 (.tmp s) y ho2 w.heap.size (dnCells d) ?_ hy 53 (dnCells dnZ) (Blk.new w _ _) (by kernel_rfl) rfl (dnCells_one d) ?_
  · have hr : r ≠ s := fun e => hrs e.symm
    simp [Act.put, Act.eval, hs, hr]
  · rw [alloc_setRow]; exact h
theorem wpList_store_dn {ops : Array Oper} {rest : List Oper} {o : Oper} {a : Act} {w : World} {Q : Exit → Act → World → Prop} (hgd : o.guard = none) (x y : Operand) (ho : o.op = .store 53 x y)
    (g : Nat) (d : Dn) (C : Array Value) (hx : a.eval x = .pointer (some ⟨g, 0, none⟩)) (hy : a.eval y = .agg (dnCells d)) (hg : Blk w g C 53) (hC : C.size = (dnCells d).size)
    (h : wpList Try.prog ops Q rest (a.put o.dst undef) (w.setRow g (dnCells d))) : wpList Try.prog ops Q (o :: rest) a w :=
  wpList_store_row hgd 53 x y ho g (dnCells d) hx hy 53 C hg (by kernel_rfl) (by rw [hC]) (dnCells_one d) h
theorem prCells_one (d : Pr) : (prCells d).all (·.oneCell') = true := by rw [Array.all_eq_true_iff_forall_mem]; intro v hv; simp [prCells] at hv; rcases hv with rfl | rfl <;> rfl
theorem run_alloc_pr (w : World) : (Instr.alloc 59 true (.tuple #[])).run Try.prog w = .ok (.pointer (some ⟨w.heap.size, 0, none⟩)) (w.alloc (.cells (prCells prZ) 59)) := by kernel_rfl
theorem wp_alloc_pr {o : Oper} {a : Act} {w : World} {K : Act → World → Prop} {Q : Exit → Act → World → Prop} (ho : o.op = .alloc 59)
    (h : K (a.put o.dst (.pointer (some ⟨w.heap.size, 0, none⟩))) (w.alloc (.cells (prCells prZ) 59))) : Oper.wp Try.prog o a w K Q := by
  unfold Oper.wp execOp
  simp only [ho, Sem.run_bind, run_alloc_pr, Result.andThen_ok, Sem.run_pure]
  exact h
/-- a new block, laid at once: two operations, and what is between -/
theorem wpList_anew_pr {ops : Array Oper} {rest : List Oper} {o1 o2 : Oper} {a : Act} {w : World} {Q : Exit → Act → World → Prop} (h1 : o1.guard = none) (h2 : o2.guard = none) (s : Tmp) (y : Operand) (hd : o1.dst = some s)
    (ho1 : o1.op = .alloc 59) (ho2 : o2.op = .store 59 (.tmp s) y) (d : Pr) (hy : (a.put (some s) (.pointer (some ⟨w.heap.size, 0, none⟩))).eval y = .agg (prCells d)) (hs : s < a.tmps.size)
    (h : wpList Try.prog ops Q rest ((a.put o1.dst (.pointer (some ⟨w.heap.size, 0, none⟩))).put o2.dst undef) (w.alloc (.cells (prCells d) 59))) : wpList Try.prog ops Q (o1 :: o2 :: rest) a w := by
  refine wpList_plain h1 fun K hK => wp_alloc_pr ho1 (hK _ _ ?_)
  rw [hd] at h ⊢
  refine wpList_store_row h2 59 (.tmp s) y ho2 w.heap.size (prCells d) ?_ hy 59 (prCells prZ) (Blk.new w _ _) (by kernel_rfl) rfl (prCells_one d) ?_
  · simp [Act.put, Act.eval, hs]
  · rw [alloc_setRow]; exact h
theorem wpList_anewA_pr {ops : Array Oper} {rest : List Oper} {o1 o2 o3 : Oper} {a : Act} {w : World} {Q : Exit → Act → World → Prop} (h1 : o1.guard = none) (h2 : o2.guard = none) (h3 : o3.guard = none) (s r : Tmp) (y z : Operand) (hd : o1.dst = some s) (hd3 : o3.dst = some r)
    (ho1 : o1.op = .alloc 59) (ho3 : o3.op = .assign z) (ho2 : o2.op = .store 59 (.tmp s) y) (d : Pr) (v : Value) (hz : (a.put (some s) (.pointer (some ⟨w.heap.size, 0, none⟩))).eval z = v) (hy : ((a.put (some s) (.pointer (some ⟨w.heap.size, 0, none⟩))).put (some r) v).eval y = .agg (prCells d)) (hs : s < a.tmps.size) (hrs : s ≠ r)
    (h : wpList Try.prog ops Q rest (((a.put o1.dst (.pointer (some ⟨w.heap.size, 0, none⟩))).put o3.dst v).put o2.dst undef) (w.alloc (.cells (prCells d) 59))) : wpList Try.prog ops Q (o1 :: o3 :: o2 :: rest) a w := by
  refine wpList_plain h1 fun K hK => wp_alloc_pr ho1 (hK _ _ ?_)
  rw [hd] at h ⊢
  rw [hd3] at h
  refine wpList_plain h3 fun K hK => ?_
  unfold Oper.wp execOp
  simp only [ho3, hz]
  refine hK _ _ ?_
  rw [hd3]
  refine wpList_store_row h2 59 (.tmp s) y ho2 w.heap.size (prCells d) ?_ hy 59 (prCells prZ) (Blk.new w _ _) (by kernel_rfl) rfl (prCells_one d) ?_
  · have hr : r ≠ s := fun e => hrs e.symm
    simp [Act.put, Act.eval, hs, hr]
  · rw [alloc_setRow]; exact h
theorem wpList_store_pr {ops : Array Oper} {rest : List Oper} {o : Oper} {a : Act} {w : World} {Q : Exit → Act → World → Prop} (hgd : o.guard = none) (x y : Operand) (ho : o.op = .store 59 x y)
    (g : Nat) (d : Pr) (C : Array Value) (hx : a.eval x = .pointer (some ⟨g, 0, none⟩)) (hy : a.eval y = .agg (prCells d)) (hg : Blk w g C 59) (hC : C.size = (prCells d).size)
    (h : wpList Try.prog ops Q rest (a.put o.dst undef) (w.setRow g (prCells d))) : wpList Try.prog ops Q (o :: rest) a w :=
  wpList_store_row hgd 59 x y ho g (prCells d) hx hy 59 C hg (by kernel_rfl) (by rw [hC]) (prCells_one d) h
theorem erCells_one (d : Er) : (erCells d).all (·.oneCell') = true := by rw [Array.all_eq_true_iff_forall_mem]; intro v hv; simp [erCells] at hv; rcases hv with rfl | rfl | rfl <;> rfl
theorem run_alloc_er (w : World) : (Instr.alloc 46 true (.tuple #[])).run Try.prog w = .ok (.pointer (some ⟨w.heap.size, 0, none⟩)) (w.alloc (.cells (erCells erZ) 46)) := by kernel_rfl
theorem wp_alloc_er {o : Oper} {a : Act} {w : World} {K : Act → World → Prop} {Q : Exit → Act → World → Prop} (ho : o.op = .alloc 46)
    (h : K (a.put o.dst (.pointer (some ⟨w.heap.size, 0, none⟩))) (w.alloc (.cells (erCells erZ) 46))) : Oper.wp Try.prog o a w K Q := by
  unfold Oper.wp execOp
  simp only [ho, Sem.run_bind, run_alloc_er, Result.andThen_ok, Sem.run_pure]
  exact h
/-- a new block, laid at once: two operations, and what is between -/
theorem wpList_anew_er {ops : Array Oper} {rest : List Oper} {o1 o2 : Oper} {a : Act} {w : World} {Q : Exit → Act → World → Prop} (h1 : o1.guard = none) (h2 : o2.guard = none) (s : Tmp) (y : Operand) (hd : o1.dst = some s)
    (ho1 : o1.op = .alloc 46) (ho2 : o2.op = .store 46 (.tmp s) y) (d : Er) (hy : (a.put (some s) (.pointer (some ⟨w.heap.size, 0, none⟩))).eval y = .agg (erCells d)) (hs : s < a.tmps.size)
    (h : wpList Try.prog ops Q rest ((a.put o1.dst (.pointer (some ⟨w.heap.size, 0, none⟩))).put o2.dst undef) (w.alloc (.cells (erCells d) 46))) : wpList Try.prog ops Q (o1 :: o2 :: rest) a w := by
  refine wpList_plain h1 fun K hK => wp_alloc_er ho1 (hK _ _ ?_)
  rw [hd] at h ⊢
  refine wpList_store_row h2 46 (.tmp s) y ho2 w.heap.size (erCells d) ?_ hy 46 (erCells erZ) (Blk.new w _ _) (by kernel_rfl) rfl (erCells_one d) ?_
  · simp [Act.put, Act.eval, hs]
  · rw [alloc_setRow]; exact h
theorem wpList_anewA_er {ops : Array Oper} {rest : List Oper} {o1 o2 o3 : Oper} {a : Act} {w : World} {Q : Exit → Act → World → Prop} (h1 : o1.guard = none) (h2 : o2.guard = none) (h3 : o3.guard = none) (s r : Tmp) (y z : Operand) (hd : o1.dst = some s) (hd3 : o3.dst = some r)
    (ho1 : o1.op = .alloc 46) (ho3 : o3.op = .assign z) (ho2 : o2.op = .store 46 (.tmp s) y) (d : Er) (v : Value) (hz : (a.put (some s) (.pointer (some ⟨w.heap.size, 0, none⟩))).eval z = v) (hy : ((a.put (some s) (.pointer (some ⟨w.heap.size, 0, none⟩))).put (some r) v).eval y = .agg (erCells d)) (hs : s < a.tmps.size) (hrs : s ≠ r)
    (h : wpList Try.prog ops Q rest (((a.put o1.dst (.pointer (some ⟨w.heap.size, 0, none⟩))).put o3.dst v).put o2.dst undef) (w.alloc (.cells (erCells d) 46))) : wpList Try.prog ops Q (o1 :: o3 :: o2 :: rest) a w := by
  refine wpList_plain h1 fun K hK => wp_alloc_er ho1 (hK _ _ ?_)
  rw [hd] at h ⊢
  rw [hd3] at h
  refine wpList_plain h3 fun K hK => ?_
  unfold Oper.wp execOp
  simp only [ho3, hz]
  refine hK _ _ ?_
  rw [hd3]
  refine wpList_store_row h2 46 (.tmp s) y ho2 w.heap.size (erCells d) ?_ hy 46 (erCells erZ) (Blk.new w _ _) (by kernel_rfl) rfl (erCells_one d) ?_
  · have hr : r ≠ s := fun e => hrs e.symm
    simp [Act.put, Act.eval, hs, hr]
  · rw [alloc_setRow]; exact h
theorem wpList_store_er {ops : Array Oper} {rest : List Oper} {o : Oper} {a : Act} {w : World} {Q : Exit → Act → World → Prop} (hgd : o.guard = none) (x y : Operand) (ho : o.op = .store 46 x y)
    (g : Nat) (d : Er) (C : Array Value) (hx : a.eval x = .pointer (some ⟨g, 0, none⟩)) (hy : a.eval y = .agg (erCells d)) (hg : Blk w g C 46) (hC : C.size = (erCells d).size)
    (h : wpList Try.prog ops Q rest (a.put o.dst undef) (w.setRow g (erCells d))) : wpList Try.prog ops Q (o :: rest) a w :=
  wpList_store_row hgd 46 x y ho g (erCells d) hx hy 46 C hg (by kernel_rfl) (by rw [hC]) (erCells_one d) h
def caCells (d : Dn) : Array Value := #[.int .i64 d.op, .int .u64 d.key, .int .u64 d.hi, .int .i64 d.lim, .string d.val]
theorem caCells_one (d : Dn) : (caCells d).all (·.oneCell') = true := by rw [Array.all_eq_true_iff_forall_mem]; intro v hv; simp [caCells] at hv; rcases hv with rfl | rfl | rfl | rfl | rfl <;> rfl
theorem run_alloc_ca (w : World) : (Instr.alloc 41 true (.tuple #[])).run Try.prog w = .ok (.pointer (some ⟨w.heap.size, 0, none⟩)) (w.alloc (.cells (caCells dnZ) 41)) := by kernel_rfl
theorem wp_alloc_ca {o : Oper} {a : Act} {w : World} {K : Act → World → Prop} {Q : Exit → Act → World → Prop} (ho : o.op = .alloc 41)
    (h : K (a.put o.dst (.pointer (some ⟨w.heap.size, 0, none⟩))) (w.alloc (.cells (caCells dnZ) 41))) : Oper.wp Try.prog o a w K Q := by
  unfold Oper.wp execOp
  simp only [ho, Sem.run_bind, run_alloc_ca, Result.andThen_ok, Sem.run_pure]
  exact h
/-- a new block, laid at once: two operations, and what is between -/
theorem wpList_anew_ca {ops : Array Oper} {rest : List Oper} {o1 o2 : Oper} {a : Act} {w : World} {Q : Exit → Act → World → Prop} (h1 : o1.guard = none) (h2 : o2.guard = none) (s : Tmp) (y : Operand) (hd : o1.dst = some s)
    (ho1 : o1.op = .alloc 41) (ho2 : o2.op = .store 41 (.tmp s) y) (d : Dn) (hy : (a.put (some s) (.pointer (some ⟨w.heap.size, 0, none⟩))).eval y = .agg (caCells d)) (hs : s < a.tmps.size)
    (h : wpList Try.prog ops Q rest ((a.put o1.dst (.pointer (some ⟨w.heap.size, 0, none⟩))).put o2.dst undef) (w.alloc (.cells (caCells d) 41))) : wpList Try.prog ops Q (o1 :: o2 :: rest) a w := by
  refine wpList_plain h1 fun K hK => wp_alloc_ca ho1 (hK _ _ ?_)
  rw [hd] at h ⊢
  refine wpList_store_row h2 41 (.tmp s) y ho2 w.heap.size (caCells d) ?_ hy 41 (caCells dnZ) (Blk.new w _ _) (by kernel_rfl) rfl (caCells_one d) ?_
  · simp [Act.put, Act.eval, hs]
  · rw [alloc_setRow]; exact h
theorem wpList_anewA_ca {ops : Array Oper} {rest : List Oper} {o1 o2 o3 : Oper} {a : Act} {w : World} {Q : Exit → Act → World → Prop} (h1 : o1.guard = none) (h2 : o2.guard = none) (h3 : o3.guard = none) (s r : Tmp) (y z : Operand) (hd : o1.dst = some s) (hd3 : o3.dst = some r)
    (ho1 : o1.op = .alloc 41) (ho3 : o3.op = .assign z) (ho2 : o2.op = .store 41 (.tmp s) y) (d : Dn) (v : Value) (hz : (a.put (some s) (.pointer (some ⟨w.heap.size, 0, none⟩))).eval z = v) (hy : ((a.put (some s) (.pointer (some ⟨w.heap.size, 0, none⟩))).put (some r) v).eval y = .agg (caCells d)) (hs : s < a.tmps.size) (hrs : s ≠ r)
    (h : wpList Try.prog ops Q rest (((a.put o1.dst (.pointer (some ⟨w.heap.size, 0, none⟩))).put o3.dst v).put o2.dst undef) (w.alloc (.cells (caCells d) 41))) : wpList Try.prog ops Q (o1 :: o3 :: o2 :: rest) a w := by
  refine wpList_plain h1 fun K hK => wp_alloc_ca ho1 (hK _ _ ?_)
  rw [hd] at h ⊢
  rw [hd3] at h
  refine wpList_plain h3 fun K hK => ?_
  unfold Oper.wp execOp
  simp only [ho3, hz]
  refine hK _ _ ?_
  rw [hd3]
  refine wpList_store_row h2 41 (.tmp s) y ho2 w.heap.size (caCells d) ?_ hy 41 (caCells dnZ) (Blk.new w _ _) (by kernel_rfl) rfl (caCells_one d) ?_
  · have hr : r ≠ s := fun e => hrs e.symm
    simp [Act.put, Act.eval, hs, hr]
  · rw [alloc_setRow]; exact h
theorem wpList_store_ca {ops : Array Oper} {rest : List Oper} {o : Oper} {a : Act} {w : World} {Q : Exit → Act → World → Prop} (hgd : o.guard = none) (x y : Operand) (ho : o.op = .store 41 x y)
    (g : Nat) (d : Dn) (C : Array Value) (hx : a.eval x = .pointer (some ⟨g, 0, none⟩)) (hy : a.eval y = .agg (caCells d)) (hg : Blk w g C 41) (hC : C.size = (caCells d).size)
    (h : wpList Try.prog ops Q rest (a.put o.dst undef) (w.setRow g (caCells d))) : wpList Try.prog ops Q (o :: rest) a w :=
  wpList_store_row hgd 41 x y ho g (caCells d) hx hy 41 C hg (by kernel_rfl) (by rw [hC]) (caCells_one d) h
def stZ : St := ⟨0, false, ⟨#[]⟩⟩
structure Rs where
  mkRs ::
  c : Int
  v : ByteArray
def rsCells (r : Rs) : Array Value := #[.int .i64 r.c, .string r.v, .slice none 0 0]
def rsZ : Rs := ⟨0, ⟨#[]⟩⟩
theorem rsCells_one (d : Rs) : (rsCells d).all (·.oneCell') = true := by rw [Array.all_eq_true_iff_forall_mem]; intro v hv; simp [rsCells] at hv; rcases hv with rfl | rfl | rfl <;> rfl
theorem run_alloc_rs (w : World) : (Instr.alloc 51 true (.tuple #[])).run Try.prog w = .ok (.pointer (some ⟨w.heap.size, 0, none⟩)) (w.alloc (.cells (rsCells rsZ) 51)) := by kernel_rfl
theorem wp_alloc_rs {o : Oper} {a : Act} {w : World} {K : Act → World → Prop} {Q : Exit → Act → World → Prop} (ho : o.op = .alloc 51)
    (h : K (a.put o.dst (.pointer (some ⟨w.heap.size, 0, none⟩))) (w.alloc (.cells (rsCells rsZ) 51))) : Oper.wp Try.prog o a w K Q := by
  unfold Oper.wp execOp
  simp only [ho, Sem.run_bind, run_alloc_rs, Result.andThen_ok, Sem.run_pure]
  exact h
/-- a new block, laid at once: two operations, and what is between -/
theorem wpList_anew_rs {ops : Array Oper} {rest : List Oper} {o1 o2 : Oper} {a : Act} {w : World} {Q : Exit → Act → World → Prop} (h1 : o1.guard = none) (h2 : o2.guard = none) (s : Tmp) (y : Operand) (hd : o1.dst = some s)
    (ho1 : o1.op = .alloc 51) (ho2 : o2.op = .store 51 (.tmp s) y) (d : Rs) (hy : (a.put (some s) (.pointer (some ⟨w.heap.size, 0, none⟩))).eval y = .agg (rsCells d)) (hs : s < a.tmps.size)
    (h : wpList Try.prog ops Q rest ((a.put o1.dst (.pointer (some ⟨w.heap.size, 0, none⟩))).put o2.dst undef) (w.alloc (.cells (rsCells d) 51))) : wpList Try.prog ops Q (o1 :: o2 :: rest) a w := by
  refine wpList_plain h1 fun K hK => wp_alloc_rs ho1 (hK _ _ ?_)
  rw [hd] at h ⊢
  refine wpList_store_row h2 51 (.tmp s) y ho2 w.heap.size (rsCells d) ?_ hy 51 (rsCells rsZ) (Blk.new w _ _) (by kernel_rfl) rfl (rsCells_one d) ?_
  · simp [Act.put, Act.eval, hs]
  · rw [alloc_setRow]; exact h
theorem wpList_anewA_rs {ops : Array Oper} {rest : List Oper} {o1 o2 o3 : Oper} {a : Act} {w : World} {Q : Exit → Act → World → Prop} (h1 : o1.guard = none) (h2 : o2.guard = none) (h3 : o3.guard = none) (s r : Tmp) (y z : Operand) (hd : o1.dst = some s) (hd3 : o3.dst = some r)
    (ho1 : o1.op = .alloc 51) (ho3 : o3.op = .assign z) (ho2 : o2.op = .store 51 (.tmp s) y) (d : Rs) (v : Value) (hz : (a.put (some s) (.pointer (some ⟨w.heap.size, 0, none⟩))).eval z = v) (hy : ((a.put (some s) (.pointer (some ⟨w.heap.size, 0, none⟩))).put (some r) v).eval y = .agg (rsCells d)) (hs : s < a.tmps.size) (hrs : s ≠ r)
    (h : wpList Try.prog ops Q rest (((a.put o1.dst (.pointer (some ⟨w.heap.size, 0, none⟩))).put o3.dst v).put o2.dst undef) (w.alloc (.cells (rsCells d) 51))) : wpList Try.prog ops Q (o1 :: o3 :: o2 :: rest) a w := by
  refine wpList_plain h1 fun K hK => wp_alloc_rs ho1 (hK _ _ ?_)
  rw [hd] at h ⊢
  rw [hd3] at h
  refine wpList_plain h3 fun K hK => ?_
  unfold Oper.wp execOp
  simp only [ho3, hz]
  refine hK _ _ ?_
  rw [hd3]
  refine wpList_store_row h2 51 (.tmp s) y ho2 w.heap.size (rsCells d) ?_ hy 51 (rsCells rsZ) (Blk.new w _ _) (by kernel_rfl) rfl (rsCells_one d) ?_
  · have hr : r ≠ s := fun e => hrs e.symm
    simp [Act.put, Act.eval, hs, hr]
  · rw [alloc_setRow]; exact h
theorem wpList_store_rs {ops : Array Oper} {rest : List Oper} {o : Oper} {a : Act} {w : World} {Q : Exit → Act → World → Prop} (hgd : o.guard = none) (x y : Operand) (ho : o.op = .store 51 x y)
    (g : Nat) (d : Rs) (C : Array Value) (hx : a.eval x = .pointer (some ⟨g, 0, none⟩)) (hy : a.eval y = .agg (rsCells d)) (hg : Blk w g C 51) (hC : C.size = (rsCells d).size)
    (h : wpList Try.prog ops Q rest (a.put o.dst undef) (w.setRow g (rsCells d))) : wpList Try.prog ops Q (o :: rest) a w :=
  wpList_store_row hgd 51 x y ho g (rsCells d) hx hy 51 C hg (by kernel_rfl) (by rw [hC]) (rsCells_one d) h
theorem stCells_one (d : St) : (stCells d).all (·.oneCell') = true := by rw [Array.all_eq_true_iff_forall_mem]; intro v hv; simp [stCells] at hv; rcases hv with rfl | rfl | rfl <;> rfl
theorem run_alloc_st (w : World) : (Instr.alloc 71 true (.tuple #[])).run Try.prog w = .ok (.pointer (some ⟨w.heap.size, 0, none⟩)) (w.alloc (.cells (stCells stZ) 71)) := by kernel_rfl
theorem wp_alloc_st {o : Oper} {a : Act} {w : World} {K : Act → World → Prop} {Q : Exit → Act → World → Prop} (ho : o.op = .alloc 71)
    (h : K (a.put o.dst (.pointer (some ⟨w.heap.size, 0, none⟩))) (w.alloc (.cells (stCells stZ) 71))) : Oper.wp Try.prog o a w K Q := by
  unfold Oper.wp execOp
  simp only [ho, Sem.run_bind, run_alloc_st, Result.andThen_ok, Sem.run_pure]
  exact h
/-- a new block, laid at once: two operations, and what is between -/
theorem wpList_anew_st {ops : Array Oper} {rest : List Oper} {o1 o2 : Oper} {a : Act} {w : World} {Q : Exit → Act → World → Prop} (h1 : o1.guard = none) (h2 : o2.guard = none) (s : Tmp) (y : Operand) (hd : o1.dst = some s)
    (ho1 : o1.op = .alloc 71) (ho2 : o2.op = .store 71 (.tmp s) y) (d : St) (hy : (a.put (some s) (.pointer (some ⟨w.heap.size, 0, none⟩))).eval y = .agg (stCells d)) (hs : s < a.tmps.size)
    (h : wpList Try.prog ops Q rest ((a.put o1.dst (.pointer (some ⟨w.heap.size, 0, none⟩))).put o2.dst undef) (w.alloc (.cells (stCells d) 71))) : wpList Try.prog ops Q (o1 :: o2 :: rest) a w := by
  refine wpList_plain h1 fun K hK => wp_alloc_st ho1 (hK _ _ ?_)
  rw [hd] at h ⊢
  refine wpList_store_row h2 71 (.tmp s) y ho2 w.heap.size (stCells d) ?_ hy 71 (stCells stZ) (Blk.new w _ _) (by kernel_rfl) rfl (stCells_one d) ?_
  · simp [Act.put, Act.eval, hs]
  · rw [alloc_setRow]; exact h
theorem wpList_anewA_st {ops : Array Oper} {rest : List Oper} {o1 o2 o3 : Oper} {a : Act} {w : World} {Q : Exit → Act → World → Prop} (h1 : o1.guard = none) (h2 : o2.guard = none) (h3 : o3.guard = none) (s r : Tmp) (y z : Operand) (hd : o1.dst = some s) (hd3 : o3.dst = some r)
    (ho1 : o1.op = .alloc 71) (ho3 : o3.op = .assign z) (ho2 : o2.op = .store 71 (.tmp s) y) (d : St) (v : Value) (hz : (a.put (some s) (.pointer (some ⟨w.heap.size, 0, none⟩))).eval z = v) (hy : ((a.put (some s) (.pointer (some ⟨w.heap.size, 0, none⟩))).put (some r) v).eval y = .agg (stCells d)) (hs : s < a.tmps.size) (hrs : s ≠ r)
    (h : wpList Try.prog ops Q rest (((a.put o1.dst (.pointer (some ⟨w.heap.size, 0, none⟩))).put o3.dst v).put o2.dst undef) (w.alloc (.cells (stCells d) 71))) : wpList Try.prog ops Q (o1 :: o3 :: o2 :: rest) a w := by
  refine wpList_plain h1 fun K hK => wp_alloc_st ho1 (hK _ _ ?_)
  rw [hd] at h ⊢
  rw [hd3] at h
  refine wpList_plain h3 fun K hK => ?_
  unfold Oper.wp execOp
  simp only [ho3, hz]
  refine hK _ _ ?_
  rw [hd3]
  refine wpList_store_row h2 71 (.tmp s) y ho2 w.heap.size (stCells d) ?_ hy 71 (stCells stZ) (Blk.new w _ _) (by kernel_rfl) rfl (stCells_one d) ?_
  · have hr : r ≠ s := fun e => hrs e.symm
    simp [Act.put, Act.eval, hs, hr]
  · rw [alloc_setRow]; exact h
theorem wpList_store_st {ops : Array Oper} {rest : List Oper} {o : Oper} {a : Act} {w : World} {Q : Exit → Act → World → Prop} (hgd : o.guard = none) (x y : Operand) (ho : o.op = .store 71 x y)
    (g : Nat) (d : St) (C : Array Value) (hx : a.eval x = .pointer (some ⟨g, 0, none⟩)) (hy : a.eval y = .agg (stCells d)) (hg : Blk w g C 71) (hC : C.size = (stCells d).size)
    (h : wpList Try.prog ops Q rest (a.put o.dst undef) (w.setRow g (stCells d))) : wpList Try.prog ops Q (o :: rest) a w :=
  wpList_store_row hgd 71 x y ho g (stCells d) hx hy 71 C hg (by kernel_rfl) (by rw [hC]) (stCells_one d) h
/-- a call that lies in a block, as the result -/
theorem results_dn {fn : Func} {w : World} {s : Nat} (hr : fn.results = #[.cell s 53]) (tmps : Array Value) (g : Nat) (d : Dn) (hs : tmps.getD s undef = .pointer (some ⟨g, 0, none⟩)) (h : Blk w g (dnCells d) 53) :
    (results fn tmps).run Try.prog w = .ok (.agg (dnCells d)) w := by
  have hl := run_loadVar_part (P := Try.prog) w g 0 53 (dnCells d) _ h.cellsAt Try.underlying53 rfl (by kernel_rfl)
  have hs' : tmps[s]?.getD undef = .pointer (some ⟨g, 0, none⟩) := by rw [← hs]; simp
  simp [results, hr, hs', asAddr, Result.andThen, hl]
theorem wpList_load_stW {ops : Array Oper} {rest : List Oper} {o : Oper} {a : Act} {w : World} {Q : Exit → Act → World → Prop} (hw : Region.wanted o (yielded ops a.tmps) = true) (x : Operand) (ho : o.op = .load 71 x) (g off : Nat) (d : St)
    (hx : a.eval x = .pointer (some ⟨g, off, none⟩)) (hc : cellsAt w g off (stCells d)) (h : wpList Try.prog ops Q rest (a.put o.dst (.agg (stCells d))) w) : wpList Try.prog ops Q (o :: rest) a w := by
  simp only [wpList, hw, if_true]
  exact .inl (wp_load_part 71 x ho g off hx (stCells d) _ hc Try.underlying71 rfl (by kernel_rfl) h)
theorem wpList_load_rsW {ops : Array Oper} {rest : List Oper} {o : Oper} {a : Act} {w : World} {Q : Exit → Act → World → Prop} (hw : Region.wanted o (yielded ops a.tmps) = true) (x : Operand) (ho : o.op = .load 51 x) (g off : Nat) (d : Rs)
    (hx : a.eval x = .pointer (some ⟨g, off, none⟩)) (hc : cellsAt w g off (rsCells d)) (h : wpList Try.prog ops Q rest (a.put o.dst (.agg (rsCells d))) w) : wpList Try.prog ops Q (o :: rest) a w := by
  simp only [wpList, hw, if_true]
  exact .inl (wp_load_part 51 x ho g off hx (rsCells d) _ hc Try.underlying51 rfl (by kernel_rfl) h)
theorem results_st2 {fn : Func} {w : World} {s t : Nat} (hr : fn.results = #[.cell s 71, .tmp t]) (tmps : Array Value) (g : Nat) (d : St) (hs : tmps.getD s undef = .pointer (some ⟨g, 0, none⟩)) (h : Blk w g (stCells d) 71) :
    (results fn tmps).run Try.prog w = .ok (.tuple #[.agg (stCells d), tmps.getD t undef]) w := by
  have hl := run_loadVar_part (P := Try.prog) w g 0 71 (stCells d) _ h.cellsAt Try.underlying71 rfl (by kernel_rfl)
  have hs' : tmps[s]?.getD undef = .pointer (some ⟨g, 0, none⟩) := by rw [← hs]; simp
  simp [results, hr, hs', asAddr, Result.andThen, hl]
theorem wpList_gyes {P : Program} {ops : Array Oper} {rest : List Oper} {o : Oper} {a : Act} {w : World} {Q : Exit → Act → World → Prop} (hw : Region.wanted o (yielded ops a.tmps) = true)
    (h : ∀ K : Act → World → Prop, (∀ a w, wpList P ops Q rest a w → K a w) → o.wp P a w K Q) : wpList P ops Q (o :: rest) a w := by
  simp only [wpList, hw, if_true]
  exact .inl (h _ (fun _ _ h => h))
theorem wpList_gno {P : Program} {ops : Array Oper} {rest : List Oper} {o : Oper} {a : Act} {w : World} {Q : Exit → Act → World → Prop} (hw : Region.wanted o (yielded ops a.tmps) = false)
    (h : wpList P ops Q rest (a.put o.dst undef) w) : wpList P ops Q (o :: rest) a w := by
  simp only [wpList, hw, Bool.false_eq_true, if_false]
  exact h
end Go.Proofs.Ytdmcakoaakinnaa
