/-
  A NODE WHOSE ENTRIES ARE A LIST, OR A LIST WITH A GAP: what is valid, whether it may be; how stores move it. (Plain.)
-/
import Derived.Test.YtgmbnoimlffgcaaNf
import Derived.Laws.Tables
import Derived.OwnWalk
import Derived.Deep.DeepCutAuto
import Derived.BigRegion
import Derived.RegionTactic
import Derived.Test.YtgmbnoimlffgcaaFcN
import Derived.Test.YtgmbnoimlffgcaaCu
import Derived.Test.YtgmbnoimlffgcaaRx
namespace Go.Proofs.Ytgmbnoimlffgcaa
open Go.RowKit

def nd0 : Nd := { lv := 0, lo := 0, nx := 0, ct := 0, fi := 0, k := fun _ => 0, p := fun _ => 0 }
theorem run_alloc_nd (w : World) : (Instr.alloc 40 true (.tuple #[])).run Try.prog w = .ok (.pointer (some ⟨w.heap.size, 0, none⟩)) (w.alloc (.cells (ndCells nd0) 40)) := by kernel_rfl
theorem wpList_alloc_nd {ops : Array Oper} {rest : List Oper} {o : Oper} {a : Act} {w : World} {Q : Exit → Act → World → Prop} (hgd : o.guard = none) (ho : o.op = .alloc 40)
    (h : wpList Try.prog ops Q rest (a.put o.dst (.pointer (some ⟨w.heap.size, 0, none⟩))) (w.alloc (.cells (ndCells nd0) 40))) : wpList Try.prog ops Q (o :: rest) a w :=
  wpList_plain hgd fun _ hK => by
    unfold Oper.wp execOp
    simp only [ho, Sem.run_bind, run_alloc_nd, Result.andThen_ok, Sem.run_pure]
    exact hK _ _ h

theorem wpList_alloc_ndAt {ops : Array Oper} {rest : List Oper} {o : Oper} {a : Act} {w : World} {Q : Exit → Act → World → Prop} (hgd : o.guard = none) (ho : o.op = .alloc 40) (H : Nat) (hH : w.heap.size = H)
    (h : wpList Try.prog ops Q rest (a.put o.dst (.pointer (some ⟨H, 0, none⟩))) (w.alloc (.cells (ndCells nd0) 40))) : wpList Try.prog ops Q (o :: rest) a w := by
  subst hH; exact wpList_alloc_nd hgd ho h

theorem below_setRow {B : Nat} {v w : World} (h : Below B v w) {g : Nat} (hg : B ≤ g) (cs : Array Value) : Below B v (w.setRow g cs) :=
  ⟨h.os, h.tape, h.output, by rw [setRow_size]; exact h.size, fun k hk => by rw [setRow_other w g k cs (by omega)]; exact h.block k hk⟩
theorem ndCells_one (n : Nd) : (ndCells n).all (·.oneCell') = true := by
  rw [Array.all_eq_true_iff_forall_mem]
  intro v hv
  unfold ndCells u8s at hv
  simp only [List.mem_toArray, List.mem_append, List.mem_cons, List.not_mem_nil, or_false, List.mem_map] at hv
  rcases hv with ((rfl | rfl | rfl | rfl | rfl) | ⟨_, _, rfl⟩) | ⟨_, _, rfl⟩ <;> rfl
theorem wpList_store_nd {ops : Array Oper} {rest : List Oper} {o : Oper} {a : Act} {w : World} {Q : Exit → Act → World → Prop} (hgd : o.guard = none) (x y : Operand) (ho : o.op = .store 40 x y)
    (g : Nat) (m n : Nd) (hx : a.eval x = .pointer (some ⟨g, 0, none⟩)) (hy : a.eval y = .agg (ndCells m)) (hg : Blk w g (ndCells n) 40)
    (h : wpList Try.prog ops Q rest (a.put o.dst undef) (w.setRow g (ndCells m))) : wpList Try.prog ops Q (o :: rest) a w :=
  wpList_store_row hgd 40 x y ho g (ndCells m) hx hy 40 (ndCells n) hg (info27 m) (by rw [ndCells_size, ndCells_size]) (ndCells_one m) h

theorem wpList_store_ndc {ops : Array Oper} {rest : List Oper} {o : Oper} {a : Act} {w : World} {Q : Exit → Act → World → Prop} (hgd : o.guard = none) (x y : Operand) (ho : o.op = .store 40 x y)
    (g : Nat) (cs : Array Value) (m n : Nd) (hx : a.eval x = .pointer (some ⟨g, 0, none⟩)) (hy : a.eval y = .agg cs) (hg : Blk w g (ndCells n) 40) (hm : cs = ndCells m)
    (h : wpList Try.prog ops Q rest (a.put o.dst undef) (w.setRow g (ndCells m))) : wpList Try.prog ops Q (o :: rest) a w := by
  subst hm
  exact wpList_store_nd hgd x y ho g m n hx hy hg h

def Nd.withK (n : Nd) (i : Nat) (x : Int) : Nd := { n with k := fun j => if j = i then x else n.k j }
def Nd.withP (n : Nd) (i : Nat) (x : Int) : Nd := { n with p := fun j => if j = i then x else n.p j }
theorem ndCells_set1 (n : Nd) (x : Int) : (ndCells n).setIfInBounds 1 (.int .u64 x) = ndCells { n with lo := x } := by
  simp [ndCells]
theorem ndCells_set2 (n : Nd) (x : Int) : (ndCells n).setIfInBounds 2 (.int .u64 x) = ndCells { n with nx := x } := by
  simp [ndCells]
theorem ndCells_set3 (n : Nd) (x : Int) : (ndCells n).setIfInBounds 3 (.int .u64 x) = ndCells { n with ct := x } := by
  simp [ndCells]
theorem ndCells_set4 (n : Nd) (x : Int) : (ndCells n).setIfInBounds 4 (.int .u64 x) = ndCells { n with fi := x } := by
  simp [ndCells]
theorem ndCells_setk (n : Nd) (i : Nat) (h : i < 8) (x : Int) : (ndCells n).setIfInBounds (5 + i) (.int .u64 x) = ndCells (n.withK i x) := by
  have : i = 0 ∨ i = 1 ∨ i = 2 ∨ i = 3 ∨ i = 4 ∨ i = 5 ∨ i = 6 ∨ i = 7 := by omega
  rcases this with rfl | rfl | rfl | rfl | rfl | rfl | rfl | rfl <;> rfl
theorem ndCells_setp (n : Nd) (i : Nat) (h : i < 8) (x : Int) : (ndCells n).setIfInBounds (13 + i) (.int .u64 x) = ndCells (n.withP i x) := by
  have : i = 0 ∨ i = 1 ∨ i = 2 ∨ i = 3 ∨ i = 4 ∨ i = 5 ∨ i = 6 ∨ i = 7 := by omega
  rcases this with rfl | rfl | rfl | rfl | rfl | rfl | rfl | rfl <;> rfl
theorem Blk.setk {w : World} {g : Nat} {n : Nd} {t : TypeId} (h : Blk w g (ndCells n) t) (i : Nat) (hi : i < 8) (x : Int) : Blk (w.setCell ⟨g, 5 + i, none⟩ (.int .u64 x)) g (ndCells (n.withK i x)) t := by
  have := h.set (5 + i) (.int .u64 x); rwa [ndCells_setk n i hi] at this
theorem Blk.setp {w : World} {g : Nat} {n : Nd} {t : TypeId} (h : Blk w g (ndCells n) t) (i : Nat) (hi : i < 8) (x : Int) : Blk (w.setCell ⟨g, 13 + i, none⟩ (.int .u64 x)) g (ndCells (n.withP i x)) t := by
  have := h.set (13 + i) (.int .u64 x); rwa [ndCells_setp n i hi] at this

theorem wpList_bld {P : Program} {ops : Array Oper} {rest : List Oper} {o : Oper} {a : Act} {w : World} {Q : Exit → Act → World → Prop} (hgd : o.guard = none) (t : TypeId) (parts : Array (Nat × Operand)) (ho : o.op = .build t parts)
    (cells : Array Value) (h : P.built t (parts.map fun (i, x) => (i, a.eval x)).toList = some cells) (hK : wpList P ops Q rest (a.put o.dst (.agg cells)) w) : wpList P ops Q (o :: rest) a w :=
  wpList_plain hgd fun _ hK' => by
    unfold Oper.wp execOp
    simp only [ho, Sem.run_bind, run_build w t _ _ h, Result.andThen_ok, Sem.run_pure]
    exact hK' _ _ hK
/-- a node that lies in a block, with a number, as results -/
theorem results_nd {fn : Func} {w : World} {s t : Nat} (hr : fn.results = #[.cell s 40, .tmp t]) (tmps : Array Value) (g : Nat) (n : Nd) (hs : tmps.getD s undef = .pointer (some ⟨g, 0, none⟩)) (h : Blk w g (ndCells n) 40) :
    (results fn tmps).run Try.prog w = .ok (.tuple #[.agg (ndCells n), tmps.getD t undef]) w := by
  have hl := run_loadVar_part (P := Try.prog) w g 0 40 (ndCells n) _ (ndLoad h) Try.underlying40 rfl (info27 n)
  have hs' : tmps[s]?.getD undef = .pointer (some ⟨g, 0, none⟩) := by rw [← hs]; simp
  simp [results, hr, hs', asAddr, Result.andThen, hl]
end Go.Proofs.Ytgmbnoimlffgcaa
namespace Go.Proofs.Ytgmbnoimlffgcaa
open Go.RowKit

def mkNd (lv lo nx fi : Int) (l : List (Int × Int)) : Nd := { lv := lv, lo := lo, nx := nx, ct := 0, fi := fi, k := eK l, p := eP l }
/-- what Make answers -/
def MkP (n : Nd) (code : Int) (w : World) (e : Ending) (w' : World) : Prop := e = .returned (.tuple #[.agg (ndCells n), .int .i64 code]) ∧ Below w.heap.size w w'
/-- the worlds on its way: the answer's block, the node's -/
def MkW (w : World) (m : Nd) (w' : World) : Prop := Blk w' w.heap.size (ndCells nd0) 40 ∧ Blk w' (w.heap.size + 1) (ndCells m) 40 ∧ Below w.heap.size w w'
theorem MkW.keep {w w1 w2 : World} {m : Nd} (h : MkW w m w1) (hB : Below w1.heap.size w1 w2) : MkW w m w2 :=
  ⟨h.1.below hB h.1.lt, h.2.1.below hB h.2.1.lt, h.2.2.trans (hB.mono h.2.2.size)⟩
theorem MkW.start (w : World) (m : Nd) : MkW w m (((w.alloc (.cells (ndCells nd0) 40)).alloc (.cells (ndCells nd0) 40)).setRow (w.heap.size + 1) (ndCells m)) := by
  have hb1 := Blk.new w (ndCells nd0) 40
  have hb2 := Blk.new (w.alloc (.cells (ndCells nd0) 40)) (ndCells nd0) 40
  have hs1 : (w.alloc (.cells (ndCells nd0) 40)).heap.size = w.heap.size + 1 := by simp
  rw [hs1] at hb2
  exact ⟨(hb1.alloc _).rowOther _ (by omega), hb2.row _, below_setRow (((Below.refl w.heap.size w).alloc (Nat.le_refl _) (.cells (ndCells nd0) 40)).alloc (by simp) (.cells (ndCells nd0) 40)) (by omega) _⟩
theorem eK_take (l : List (Int × Int)) (k j : Nat) : eK (l.take k) j = if j < k then eK l j else 0 := by
  unfold eK
  by_cases h : j < k
  · rw [if_pos h]; simp [List.getD, h]
  · rw [if_neg h]; simp [List.getD, List.getElem?_take, h]
theorem eP_take (l : List (Int × Int)) (k j : Nat) : eP (l.take k) j = if j < k then eP l j else 0 := by
  unfold eP
  by_cases h : j < k
  · rw [if_pos h]; simp [List.getD, h]
  · rw [if_neg h]; simp [List.getD, List.getElem?_take, h]
theorem mkNd_next (lv lo nx fi : Int) (l : List (Int × Int)) (k : Nat) : ((mkNd lv lo nx fi (l.take k)).withK k (eK l k)).withP k (eP l k) = mkNd lv lo nx fi (l.take (k + 1)) := by
  unfold mkNd Nd.withK Nd.withP
  congr 1
  · funext j
    simp only [eK_take]
    by_cases h : j = k
    · subst h; simp
    · rw [if_neg h]; by_cases h2 : j < k <;> simp [h2, show (j < k + 1) = (j < k) from propext (by omega)]
  · funext j
    simp only [eP_take]
    by_cases h : j = k
    · subst h; simp
    · rw [if_neg h]; by_cases h2 : j < k <;> simp [h2, show (j < k + 1) = (j < k) from propext (by omega)]
theorem MkW.next {w w1 : World} {lv lo nx fi : Int} {l : List (Int × Int)} {k : Nat} (h : MkW w (mkNd lv lo nx fi (l.take k)) w1) (hk : k < 8) {ki pi : Int} (h1 : eK l k = ki) (h2 : eP l k = pi) :
    MkW w (mkNd lv lo nx fi (l.take (k + 1))) ((w1.setCell ⟨w.heap.size + 1, 5 + k, none⟩ (.int .u64 ki)).setCell ⟨w.heap.size + 1, 13 + k, none⟩ (.int .u64 pi)).drew := by
  subst h1 h2
  refine ⟨?_, ?_, ?_⟩
  · exact ((h.1.other (5 + k) _ (by omega)).other (13 + k) _ (by omega)).drew
  · have := (h.2.1.setk k hk (eK l k)).setp k hk (eP l k)
    rw [mkNd_next] at this
    exact this.drew
  · exact ((h.2.2.setCell (p := ⟨w.heap.size + 1, 5 + k, none⟩) (by simp) _).setCell (p := ⟨w.heap.size + 1, 13 + k, none⟩) (by simp) _).drew

end Go.Proofs.Ytgmbnoimlffgcaa
namespace Go.Proofs.Ytgmbnoimlffgcaa
open Go.RowKit

/-- a node behind a store -/
def putA (base : Int) (n : Nd) (at_ x : Int) : Option Nd :=
  if at_ - base < 0 ∨ 192 ≤ at_ - base ∨ (at_ - base) % 8 ≠ 0 then none
  else if at_ - base = 8 then some { n with lo := x }
  else if at_ - base = 16 then some { n with nx := x }
  else if at_ - base = 24 then some { n with ct := x }
  else if at_ - base = 32 then some { n with fi := x }
  else if at_ - base < 64 then none
  else if (at_ - base) % 16 = 0 then some (n.withK ((at_ - base - 64) / 16).toNat x) else some (n.withP ((at_ - base - 64) / 16).toNat x)
theorem putA_key (base : Int) (n : Nd) (i : Nat) (x : Int) (h : i < 8) : putA base n (base + 64 + 16 * (i : Int)) x = some (n.withK i x) := by
  have e : base + 64 + 16 * (i : Int) - base = 64 + 16 * (i : Int) := by omega
  unfold putA
  rw [e, if_neg (by omega), if_neg (by omega), if_neg (by omega), if_neg (by omega), if_neg (by omega), if_neg (by omega), if_pos (by omega)]
  congr 2
  omega
theorem putA_ptr (base : Int) (n : Nd) (i : Nat) (x : Int) (h : i < 8) : putA base n (base + 72 + 16 * (i : Int)) x = some (n.withP i x) := by
  have e : base + 72 + 16 * (i : Int) - base = 72 + 16 * (i : Int) := by omega
  unfold putA
  rw [e, if_neg (by omega), if_neg (by omega), if_neg (by omega), if_neg (by omega), if_neg (by omega), if_neg (by omega), if_neg (by omega)]
  congr 2
  omega
theorem putA_8 (base : Int) (n : Nd) (x : Int) : putA base n (base + 8) x = some { n with lo := x } := by
  unfold putA; rw [if_neg (by omega), if_pos (by omega)]
theorem putA_16 (base : Int) (n : Nd) (x : Int) : putA base n (base + 16) x = some { n with nx := x } := by
  unfold putA; rw [if_neg (by omega), if_neg (by omega), if_pos (by omega)]
theorem putA_24 (base : Int) (n : Nd) (x : Int) : putA base n (base + 24) x = some { n with ct := x } := by
  unfold putA; rw [if_neg (by omega), if_neg (by omega), if_neg (by omega), if_pos (by omega)]
theorem putA_32 (base : Int) (n : Nd) (x : Int) : putA base n (base + 32) x = some { n with fi := x } := by
  unfold putA; rw [if_neg (by omega), if_neg (by omega), if_neg (by omega), if_neg (by omega), if_pos (by omega)]
/-- where a store may go -/
inductive Where (base at_ : Int) : Prop
  | key (i : Nat) (h : i < 8) (e : at_ = base + 64 + 16 * (i : Int))
  | ptr (i : Nat) (h : i < 8) (e : at_ = base + 72 + 16 * (i : Int))
  | low (e : at_ = base + 8)
  | next (e : at_ = base + 16)
  | count (e : at_ = base + 24)
  | first (e : at_ = base + 32)
  | out (e : ∀ n x, putA base n at_ x = none) (h : ∀ i : Nat, i < 8 → at_ ≠ base + 64 + 16 * (i : Int) ∧ at_ ≠ base + 72 + 16 * (i : Int)) (h8 : at_ ≠ base + 8 ∧ at_ ≠ base + 16 ∧ at_ ≠ base + 24 ∧ at_ ≠ base + 32)
theorem where_ (base at_ : Int) : Where base at_ := by
  by_cases h1 : at_ - base < 0 ∨ 192 ≤ at_ - base ∨ (at_ - base) % 8 ≠ 0
  · exact .out (fun n x => by unfold putA; rw [if_pos h1]) (fun i hi => ⟨by omega, by omega⟩) ⟨by omega, by omega, by omega, by omega⟩
  by_cases h2 : at_ - base = 8
  · exact .low (by omega)
  by_cases h3 : at_ - base = 16
  · exact .next (by omega)
  by_cases h4 : at_ - base = 24
  · exact .count (by omega)
  by_cases h5 : at_ - base = 32
  · exact .first (by omega)
  by_cases h6 : at_ - base < 64
  · exact .out (fun n x => by unfold putA; rw [if_neg h1, if_neg h2, if_neg h3, if_neg h4, if_neg h5, if_pos h6]) (fun i hi => ⟨by omega, by omega⟩) ⟨by omega, by omega, by omega, by omega⟩
  by_cases h7 : (at_ - base) % 16 = 0
  · exact .key ((at_ - base - 64) / 16).toNat (by omega) (by omega)
  · exact .ptr ((at_ - base - 64) / 16).toNat (by omega) (by omega)

/-- the worlds on its way: the node's block, the store's, the answer's -/
def RaW (w : World) (n : Nd) (at_ x : Int) (w' : World) : Prop :=
  Blk w' w.heap.size (ndCells n) 40 ∧ Blk w' (w.heap.size + 1) #[.int .u64 at_, .int .u64 x] 32 ∧ Blk w' (w.heap.size + 2) (ndCells nd0) 40 ∧ Below w.heap.size w w'
theorem RaW.start (w : World) (n : Nd) (at_ x : Int) : RaW w n at_ x (((w.alloc (.cells (ndCells n) 40)).alloc (.cells #[.int .u64 at_, .int .u64 x] 32)).alloc (.cells (ndCells nd0) 40)) := by
  have h1 := Blk.new w (ndCells n) 40
  have h2 := Blk.new (w.alloc (.cells (ndCells n) 40)) #[.int .u64 at_, .int .u64 x] 32
  have h3 := Blk.new ((w.alloc (.cells (ndCells n) 40)).alloc (.cells #[.int .u64 at_, .int .u64 x] 32)) (ndCells nd0) 40
  have s1 : (w.alloc (.cells (ndCells n) 40)).heap.size = w.heap.size + 1 := by simp
  have s2 : ((w.alloc (.cells (ndCells n) 40)).alloc (.cells #[.int .u64 at_, .int .u64 x] 32)).heap.size = w.heap.size + 2 := by simp
  rw [s1] at h2
  rw [s2] at h3
  exact ⟨(h1.alloc _).alloc _, h2.alloc _, h3, (((Below.refl w.heap.size w).alloc (Nat.le_refl _) _).alloc (by omega) _).alloc (by omega) _⟩
theorem RaW.drewN {w : World} {n : Nd} {at_ x : Int} {w' : World} (h : RaW w n at_ x w') (k : Nat) : RaW w n at_ x (w'.drewN k) := ⟨h.1, h.2.1, h.2.2.1, below_drewN h.2.2.2 k⟩

end Go.Proofs.Ytgmbnoimlffgcaa
namespace Go.Proofs.Ytgmbnoimlffgcaa
open Go.RowKit
set_option linter.unusedVariables false

/-! ### lists of entries -/
theorem ent_get {A : List (Int × Int)} {j : Nat} (h : j < A.length) : A[j] = (eK A j, eP A j) := by simp [eK, eP, List.getD, h]
theorem ent_mem {A : List (Int × Int)} {j : Nat} (h : j < A.length) : (eK A j, eP A j) ∈ A := by rw [← ent_get h]; exact List.getElem_mem _
theorem mem_ent {A : List (Int × Int)} {e : Int × Int} (h : e ∈ A) : ∃ j, j < A.length ∧ eK A j = e.1 ∧ eP A j = e.2 := by
  obtain ⟨j, hj, rfl⟩ := List.getElem_of_mem h
  exact ⟨j, hj, by rw [ent_get hj], by rw [ent_get hj]⟩
def Rises (lv lo fi : Int) (A : List (Int × Int)) : Prop := (∀ e ∈ A, lo ≤ e.1 ∧ (0 < lv → e.1 ≠ lo) ∧ e.2 ≠ fi) ∧ A.Pairwise (fun a b => a.1 < b.1 ∧ a.2 ≠ b.2)
theorem rise_next9 {lv lo fi : Int} {l : List (Int × Int)} (h : riseB lv lo fi l = true) (i : Nat) (hi : i < l.length) : badAt lv lo fi l i = false := by
  unfold riseB at h
  have h1 := List.all_eq_true.1 h i (List.mem_range.2 hi)
  simpa using h1
theorem rise_key9 {lv lo fi : Int} {l : List (Int × Int)} (h : riseB lv lo fi l = true) : ∀ (d i : Nat), i + (d + 1) < l.length → eK l i < eK l (i + (d + 1)) := by
  have step : ∀ i, i + 1 < l.length → eK l i < eK l (i + 1) := by
    intro i hi
    have h1 := rise_next9 h (i + 1) hi
    unfold badAt at h1
    simp at h1
    omega
  intro d
  induction d with
  | zero => intro i hi; exact step i hi
  | succ d ih =>
    intro i hi
    have h1 := ih i (by omega)
    have h2 := step (i + (d + 1)) (by omega)
    rw [show i + (d + 1 + 1) = i + (d + 1) + 1 by omega]
    omega
theorem rises_of {lv lo fi : Int} {A : List (Int × Int)} (h : riseB lv lo fi A = true) : Rises lv lo fi A := by
  refine ⟨fun e he => ?_, ?_⟩
  · obtain ⟨j, hj, e1, e2⟩ := mem_ent he
    have := rise_next9 h j hj
    unfold badAt at this
    simp only [Bool.or_eq_false_iff, Bool.and_eq_false_iff, decide_eq_false_iff_not, beq_eq_false_iff_ne] at this
    rw [e1, e2] at this
    obtain ⟨⟨⟨⟨a, b⟩, _⟩, c⟩, _⟩ := this
    refine ⟨by omega, fun hl => ?_, c⟩
    rcases b with b | b
    · exact absurd hl b
    · exact b
  · rw [List.pairwise_iff_getElem]
    intro i j hi hj hij
    rw [ent_get hi, ent_get hj]
    refine ⟨by have := rise_key9 h (j - i - 1) i (by omega); rwa [show i + (j - i - 1 + 1) = j by omega] at this, fun e => ?_⟩
    have := rise_next9 h j hj
    unfold badAt at this
    simp only [Bool.or_eq_false_iff] at this
    have hd := this.2
    rw [dup_true hij e] at hd
    cases hd
theorem rises_to {lv lo fi : Int} {A : List (Int × Int)} (h : Rises lv lo fi A) : riseB lv lo fi A = true := by
  refine rise_true (fun j hj => ?_)
  obtain ⟨h1, h2⟩ := h
  rw [List.pairwise_iff_getElem] at h2
  obtain ⟨a, b, c⟩ := h1 _ (ent_mem hj)
  unfold badAt
  have hk : (decide (0 < j) && decide (eK A j ≤ eK A (j - 1))) = false := by
    by_cases h0 : 0 < j
    · have := (h2 (j - 1) j (by omega) hj (by omega)).1
      rw [ent_get hj, ent_get (show j - 1 < A.length by omega)] at this
      rw [decide_eq_false (show ¬ eK A j ≤ eK A (j - 1) by simp at this; omega)]
      simp
    · rw [decide_eq_false h0]; rfl
  have hd : dupAt A j = false := dup_false (fun i hi => by
    have := (h2 i j (by omega) hj hi).2
    rwa [ent_get hj, ent_get (show i < A.length by omega)] at this)
  rw [hk, hd, decide_eq_false (show ¬ eK A j < lo by simpa using a), beq_eq_false_iff_ne.2 (show eP A j ≠ fi from c)]
  by_cases hl : 0 < lv
  · rw [beq_eq_false_iff_ne.2 (show eK A j ≠ lo from b hl)]; simp
  · rw [decide_eq_false hl]; rfl
theorem Rises.sub {lv lo fi : Int} {A B : List (Int × Int)} (h : Rises lv lo fi A) (hs : B.Sublist A) : Rises lv lo fi B :=
  ⟨fun e he => h.1 e (hs.subset he), h.2.sublist hs⟩
/-- one more entry -/
theorem Rises.mid {lv lo fi : Int} {X Y : List (Int × Int)} {e : Int × Int} (h : Rises lv lo fi (X ++ Y)) (he : lo ≤ e.1 ∧ (0 < lv → e.1 ≠ lo) ∧ e.2 ≠ fi) (hx : ∀ a ∈ X, a.1 < e.1 ∧ a.2 ≠ e.2) (hy : ∀ b ∈ Y, e.1 < b.1 ∧ e.2 ≠ b.2) : Rises lv lo fi (X ++ e :: Y) := by
  obtain ⟨h1, h2⟩ := h
  rw [List.pairwise_append] at h2
  obtain ⟨p, q, r⟩ := h2
  refine ⟨fun x hx' => ?_, ?_⟩
  · rcases List.mem_append.1 hx' with h | h
    · exact h1 x (List.mem_append_left _ h)
    · rcases List.mem_cons.1 h with rfl | h
      · exact he
      · exact h1 x (List.mem_append_right _ h)
  · rw [List.pairwise_append]
    refine ⟨p, List.pairwise_cons.2 ⟨hy, q⟩, fun a ha b hb => ?_⟩
    rcases List.mem_cons.1 hb with rfl | hb
    · exact hx a ha
    · exact r a ha b hb
def Nz (A : List (Int × Int)) : Prop := ∀ e ∈ A, e.2 ≠ 0

/-! ### the two states -/
structure Full (m : Nd) (A : List (Int × Int)) : Prop where
  le : A.length ≤ 8
  ent : ∀ j, j < A.length → m.k j = eK A j ∧ m.p j = eP A j
  fin : A.length < 8 → m.p A.length = 0
structure Gap (m : Nd) (A : List (Int × Int)) (i : Nat) : Prop where
  le : A.length + 1 ≤ 8
  at_ : i ≤ A.length
  low : ∀ j, j < i → m.k j = eK A j ∧ m.p j = eP A j
  gap : m.p i = m.ahead i
  high : ∀ j, i ≤ j → j < A.length → m.k (j + 1) = eK A j ∧ m.p (j + 1) = eP A j
  fin : A.length + 1 < 8 → m.p (A.length + 1) = 0
/-- all that the entries must be -/
structure Fine (m : Nd) (A : List (Int × Int)) : Prop where
  lv : 0 ≤ m.lv ∧ m.lv ≤ 15
  fi : m.fi ≠ 0
  rises : Rises m.lv m.lo m.fi A
  nz : Nz A
theorem Fine.ne {m : Nd} {A : List (Int × Int)} (h : Fine m A) {i j : Nat} (hij : i < j) (hj : j < A.length) : eP A j ≠ eP A i := by
  have := h.rises.2
  rw [List.pairwise_iff_getElem] at this
  have := (this i j (by omega) hj hij).2
  rw [ent_get hj, ent_get (show i < A.length by omega)] at this
  exact fun e => this e.symm
theorem Fine.key {m : Nd} {A : List (Int × Int)} (h : Fine m A) {i j : Nat} (hij : i < j) (hj : j < A.length) : eK A i < eK A j := by
  have := h.rises.2
  rw [List.pairwise_iff_getElem] at this
  have := (this i j (by omega) hj hij).1
  rwa [ent_get hj, ent_get (show i < A.length by omega)] at this
theorem Fine.nfi {m : Nd} {A : List (Int × Int)} (h : Fine m A) {j : Nat} (hj : j < A.length) : eP A j ≠ m.fi := (h.rises.1 _ (ent_mem hj)).2.2
theorem Fine.n0 {m : Nd} {A : List (Int × Int)} (h : Fine m A) {j : Nat} (hj : j < A.length) : eP A j ≠ 0 := h.nz _ (ent_mem hj)

theorem len_of {m : Nd} {c : Nat} (h8 : c ≤ 8) (hn : ∀ j, j < c → m.p j ≠ 0) (hf : c < 8 → m.p c = 0) : m.len = c := by
  have h1 := m.len_le
  rcases Nat.lt_trichotomy m.len c with h | h | h
  · exact absurd (m.p_len (by omega)) (hn _ h)
  · exact h
  · exact absurd (hf (by omega)) (m.p_lt c h)
theorem valid_of {m : Nd} {L : List Nat} (h : plN m = L) : m.valid = L.map (fun i => (m.k i, m.p i)) := by unfold Nd.valid; rw [h]
theorem mayB_of {m : Nd} {A : List (Int × Int)} (h : Fine m A) (hv : m.valid = A) (hl : m.len ≤ A.length + 1) : m.mayB 0 false = true := by
  unfold Nd.mayB
  rw [hv, rises_to h.rises]
  have := h.lv
  rw [decide_eq_false (by omega : ¬ m.lv < 0), decide_eq_false (by omega : ¬ 15 < m.lv), beq_eq_false_iff_ne.2 h.fi, decide_eq_true hl]
  rfl
section
variable {m : Nd} {A : List (Int × Int)} {i : Nat}
theorem Full.len (h : Full m A) (hf : Fine m A) : m.len = A.length := len_of h.le (fun j hj => by rw [(h.ent j hj).2]; exact hf.n0 hj) h.fin
theorem Full.ok (h : Full m A) (hf : Fine m A) (j : Nat) (hj : j < A.length) : m.ok j = true := by
  unfold Nd.ok
  rw [bne_iff_ne, (h.ent j hj).2]
  cases j with
  | zero => exact hf.nfi hj
  | succ j => show eP A (j + 1) ≠ m.p j; rw [(h.ent j (by omega)).2]; exact hf.ne (by omega) hj
theorem Full.valid (h : Full m A) (hf : Fine m A) : m.valid = A := by
  have hp : plN m = List.range A.length := by
    unfold plN
    rw [h.len hf, List.filter_eq_self]
    intro j hj
    exact h.ok hf j (List.mem_range.1 hj)
  rw [valid_of hp]
  refine ext_ents (by simp) (fun j hj => ?_)
  have hj' : j < A.length := by simpa using hj
  obtain ⟨e1, e2⟩ := h.ent j hj'
  simp [eK, eP, List.getD, hj', e1, e2]
theorem Full.inv (h : Full m A) (hf : Fine m A) : m.invalid = -1 := by
  rw [inval_eq]
  refine (firstP_eq (t := fun i => !m.ok i) (i := 0) (d := m.len) (.inl ⟨rfl, fun j _ hj => ?_⟩) (firstF_spec _ _ _)).symm
  show (!m.ok j) = false
  rw [h.ok hf j (by rw [h.len hf] at hj; omega)]; rfl
theorem Full.may (h : Full m A) (hf : Fine m A) : m.mayB 0 false = true := mayB_of hf (h.valid hf) (by rw [h.len hf]; omega)

theorem Gap.len (h : Gap m A i) (hf : Fine m A) : m.len = A.length + 1 := by
  refine len_of h.le (fun j hj => ?_) h.fin
  have ha := h.at_
  rcases Nat.lt_trichotomy j i with hji | rfl | hji
  · rw [(h.low j hji).2]; exact hf.n0 (by omega)
  · rw [h.gap]
    cases j with
    | zero => exact hf.fi
    | succ j => show m.p j ≠ 0; rw [(h.low j (by omega)).2]; exact hf.n0 (by omega)
  · obtain ⟨q, rfl⟩ : ∃ q, j = q + 1 := ⟨j - 1, by omega⟩
    rw [(h.high q (by omega) (by omega)).2]; exact hf.n0 (by omega)
theorem Gap.ok (h : Gap m A i) (hf : Fine m A) (j : Nat) (hj : j < A.length + 1) : m.ok j = (j != i) := by
  have ha := h.at_
  unfold Nd.ok
  rcases Nat.lt_trichotomy j i with hji | rfl | hji
  · rw [show (j != i) = true from bne_iff_ne.2 (by omega), bne_iff_ne, (h.low j hji).2]
    cases j with
    | zero => exact hf.nfi (by omega)
    | succ j => show eP A (j + 1) ≠ m.p j; rw [(h.low j (by omega)).2]; exact hf.ne (by omega) (by omega)
  · rw [h.gap]; simp
  · obtain ⟨q, rfl⟩ : ∃ q, j = q + 1 := ⟨j - 1, by omega⟩
    rw [show (q + 1 != i) = true from bne_iff_ne.2 (by omega), bne_iff_ne, (h.high q (by omega) (by omega)).2]
    show eP A q ≠ m.p q
    by_cases hqi : q = i
    · subst hqi
      rw [h.gap]
      cases q with
      | zero => exact hf.nfi (by omega)
      | succ q => show eP A (q + 1) ≠ m.p q; rw [(h.low q (by omega)).2]; exact hf.ne (by omega) (by omega)
    · obtain ⟨r, rfl⟩ : ∃ r, q = r + 1 := ⟨q - 1, by omega⟩
      rw [(h.high r (by omega) (by omega)).2]; exact hf.ne (by omega) (by omega)
theorem range_gap (n i : Nat) (h : i ≤ n) : (List.range (n + 1)).filter (fun j => j != i) = List.range i ++ List.range' (i + 1) (n - i) := by
  have e : List.range (n + 1) = List.range i ++ (i :: List.range' (i + 1) (n - i)) := by
    rw [List.range_eq_range', List.range_eq_range', show n + 1 = i + ((n - i) + 1) by omega, ← List.range'_append_1]
    simp [List.range'_succ]
  rw [e, List.filter_append, List.filter_cons]
  rw [show (i != i) = false by simp]
  simp only [Bool.false_eq_true, if_false]
  rw [List.filter_eq_self.2, List.filter_eq_self.2]
  · intro j hj
    have := (List.mem_range'_1.1 hj).1
    exact bne_iff_ne.2 (by omega)
  · intro j hj
    have := List.mem_range.1 hj
    exact bne_iff_ne.2 (by omega)
theorem eK_app (X Y : List (Int × Int)) (j : Nat) : eK (X ++ Y) j = if j < X.length then eK X j else eK Y (j - X.length) := by
  unfold eK
  by_cases h : j < X.length
  · simp [List.getD, h, List.getElem?_append_left h]
  · simp [List.getD, h, List.getElem?_append_right (show X.length ≤ j by omega)]
theorem eP_app (X Y : List (Int × Int)) (j : Nat) : eP (X ++ Y) j = if j < X.length then eP X j else eP Y (j - X.length) := by
  unfold eP
  by_cases h : j < X.length
  · simp [List.getD, h, List.getElem?_append_left h]
  · simp [List.getD, h, List.getElem?_append_right (show X.length ≤ j by omega)]
theorem Gap.valid (h : Gap m A i) (hf : Fine m A) : m.valid = A := by
  have ha := h.at_
  have hp : plN m = List.range i ++ List.range' (i + 1) (A.length - i) := by
    rw [← range_gap _ _ ha]
    unfold plN
    rw [h.len hf]
    refine List.filter_congr (fun j hj => ?_)
    exact h.ok hf j (List.mem_range.1 hj)
  rw [valid_of hp]
  have hl : ((List.range i ++ List.range' (i + 1) (A.length - i)).map (fun j => (m.k j, m.p j))).length = A.length := by simp; omega
  refine ext_ents hl (fun j hj => ?_)
  rw [hl] at hj
  rw [List.map_append, eK_app, eP_app]
  by_cases hji : j < i
  · obtain ⟨e1, e2⟩ := h.low j hji
    have hlt : j < ((List.range i).map (fun j => (m.k j, m.p j))).length := by simpa using hji
    rw [if_pos hlt, if_pos hlt]
    simp [eK, eP, List.getD, hji] at e1 e2 ⊢
    exact ⟨e1, e2⟩
  · obtain ⟨e1, e2⟩ := h.high j (by omega) hj
    have hlt : ¬ j < ((List.range i).map (fun j => (m.k j, m.p j))).length := by simpa using hji
    rw [if_neg hlt, if_neg hlt]
    have hx : (List.range' (i + 1) (A.length - i))[j - i]? = some (j + 1) := by
      rw [List.getElem?_range' (by omega)]; congr 1; omega
    simp [eK, eP, List.getD, hx] at e1 e2 ⊢
    exact ⟨e1, e2⟩
theorem Gap.inv (h : Gap m A i) (hf : Fine m A) : m.invalid = i := by
  have ha := h.at_
  rw [inval_eq]
  refine (firstP_eq (t := fun i => !m.ok i) (i := 0) (d := m.len) (.inr ⟨i, rfl, Nat.zero_le _, by rw [h.len hf]; omega, ?_, fun k _ hk => ?_⟩) (firstF_spec _ _ _)).symm
  · show (!m.ok i) = true
    rw [h.ok hf i (by omega)]; simp
  · show (!m.ok k) = false
    rw [h.ok hf k (by omega), show (k != i) = true from bne_iff_ne.2 (by omega)]; rfl
theorem Gap.may (h : Gap m A i) (hf : Fine m A) : m.mayB 0 false = true := mayB_of hf (h.valid hf) (by rw [h.len hf]; omega)
end
end Go.Proofs.Ytgmbnoimlffgcaa
