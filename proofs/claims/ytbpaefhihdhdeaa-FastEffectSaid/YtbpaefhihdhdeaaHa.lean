/-
  A NODE LAID INTO A NEW BLOCK within a region that draws; the two phases of a change. 
-/
import Derived.Test.YtbpaefhihdhdeaaPf
import Derived.Test.YtbpaefhihdhdeaaFa
import Derived.Test.YtbpaefhihdhdeaaNx
namespace Go.Proofs.Ytbpaefhihdhdeaa
open Go.RowKit
set_option linter.unusedVariables false

theorem wp_alloc_nd {o : Oper} {a : Act} {w : World} {K : Act → World → Prop} {Q : Exit → Act → World → Prop} (ho : o.op = .alloc 27)
    (h : K (a.put o.dst (.pointer (some ⟨w.heap.size, 0, none⟩))) (w.alloc (.cells (ndCells nd0) 27))) : Oper.wp Try.prog o a w K Q := by
  unfold Oper.wp execOp
  simp only [ho, Sem.run_bind, run_alloc_nd, Result.andThen_ok, Sem.run_pure]
  exact h
/-- the block that operation i lays, its pointer in slot s, and that operation j stores to -/
def NewG (B s i j : Nat) (m' : Nd) (L : Nat → Bool) (a : Act) (W : World) : Prop :=
  L i = true → ∃ H x, a.tmps[s]?.getD undef = .pointer (some ⟨H, 0, none⟩) ∧ B ≤ H ∧ Blk W H (ndCells x) 27 ∧ (L j = true → x = m')
theorem NewG.keep {B s i j : Nat} {m' : Nd} {L L' : Nat → Bool} {a : Act} {W W' : World} {d : Option Tmp} {v : Value} (h : NewG B s i j m' L a W) (h1 : L' i = L i) (h2 : L' j = L j) (hd : d ≠ some s) (hB : Below W.heap.size W W') : NewG B s i j m' L' (a.put d v) W' := by
  intro hi
  rw [h1] at hi
  obtain ⟨H, x, e, hH, hb, hx⟩ := h hi
  refine ⟨H, x, ?_, hH, hb.below hB hb.lt, fun hj => hx (by rw [← h2]; exact hj)⟩
  have := getD_put_ne (a := a) (v := v) hd
  simp only [Array.getD_eq_getD_getElem?] at this
  rw [this]; exact e
theorem NewG.none {B s i j : Nat} {m' : Nd} {a : Act} {W : World} : NewG B s i j m' (fun _ => false) a W := fun h => by cases h

/-! ### the phases -/
def PhA (base : Int) (was now : List (Int × Int)) (m : Nd) (rest : List (Int × Int)) : Prop :=
  ∃ L1 s L2 m1 m2 m3, rest = L1 ++ s :: L2 ∧ Stay base was m L1 m1 ∧ putA base m1 s.1 s.2 = some m2 ∧ m2.mayB 0 false = true ∧ m2.valid = now ∧ Stay base now m2 L2 m3 ∧ Full m3 now ∧ Fine m3 now
def PhB (base : Int) (now : List (Int × Int)) (m : Nd) (rest : List (Int × Int)) : Prop := ∃ m3, Stay base now m rest m3 ∧ Full m3 now ∧ Fine m3 now
theorem PhB.step {base : Int} {now : List (Int × Int)} {m : Nd} {x : Int × Int} {r : List (Int × Int)} (h : PhB base now m (x :: r)) :
    ∃ m', putA base m x.1 x.2 = some m' ∧ m'.mayB 0 false = true ∧ m'.valid = now ∧ PhB base now m' r := by
  obtain ⟨m3, ⟨q, a, b, c, d⟩, e⟩ := h
  exact ⟨q, a, b, c, m3, d, e⟩
theorem PhB.done {base : Int} {now : List (Int × Int)} {m : Nd} (h : PhB base now m []) : m.valid = now ∧ m.inval = -1 ∧ m.mayB 0 false = true := by
  obtain ⟨m3, rfl, a, b⟩ := h
  exact ⟨a.valid b, by rw [← inval_eq]; exact a.inv b, a.may b⟩
theorem PhA.step {base : Int} {was now : List (Int × Int)} {m : Nd} {x : Int × Int} {r : List (Int × Int)} (h : PhA base was now m (x :: r)) :
    ∃ m', putA base m x.1 x.2 = some m' ∧ m'.mayB 0 false = true ∧ ((m'.valid = was ∧ PhA base was now m' r) ∨ (m'.valid = now ∧ PhB base now m' r)) := by
  obtain ⟨L1, s, L2, m1, m2, m3, e, h1, h2, h3, h4, h5, h6⟩ := h
  cases L1 with
  | nil =>
    cases h1
    rw [List.nil_append] at e
    obtain ⟨rfl, rfl⟩ := List.cons.inj e
    exact ⟨m2, h2, h3, .inr ⟨h4, m3, h5, h6⟩⟩
  | cons y L1 =>
    rw [List.cons_append] at e
    obtain ⟨rfl, rfl⟩ := List.cons.inj e
    obtain ⟨q, a, b, c, d⟩ := h1
    exact ⟨q, a, b, .inl ⟨c, L1, s, L2, m1, m2, m3, rfl, d, h2, h3, h4, h5, h6⟩⟩
theorem PhA.ne {base : Int} {was now : List (Int × Int)} {m : Nd} : ¬ PhA base was now m [] := by
  rintro ⟨L1, s, L2, m1, m2, m3, e, _⟩
  simp at e
/-- where a run stands -/
def PhS (base : Int) (was now : List (Int × Int)) (d : Bool) (m : Nd) (rest : List (Int × Int)) : Prop := (d = false ∧ PhA base was now m rest) ∨ PhB base now m rest
theorem phS_start {base : Int} {n : Nd} {was now L : List (Int × Int)} {e : Option Nat} (h : Traj base n was now L e) : PhS base was now false n L := by
  cases e with
  | none =>
    obtain ⟨m3, a, rfl, b⟩ := h
    exact .inr ⟨m3, a, b⟩
  | some t =>
    obtain ⟨L1, s, L2, m1, m2, m3, e, _, h1, h2, h3, h4, _, h5, h6⟩ := h
    exact .inl ⟨rfl, L1, s, L2, m1, m2, m3, e, h1, h2, h3, h4, h5, h6⟩
/-- one store on: three ways -/
theorem phS_step {base : Int} {was now : List (Int × Int)} {d : Bool} {m : Nd} {x : Int × Int} {r : List (Int × Int)} (h : PhS base was now d m (x :: r)) :
    ∃ m', putA base m x.1 x.2 = some m' ∧ m'.mayB 0 false = true ∧
      ((d = false ∧ (m'.valid == was) = true ∧ PhS base was now false m' r) ∨ (d = false ∧ (m'.valid == was) = false ∧ (m'.valid == now) = true ∧ PhS base was now true m' r) ∨ (d = true ∧ (m'.valid == now) = true ∧ PhS base was now true m' r)) := by
  rcases h with ⟨rfl, h⟩ | h
  · obtain ⟨m', a, b, c⟩ := h.step
    refine ⟨m', a, b, ?_⟩
    rcases c with ⟨c, p⟩ | ⟨c, p⟩
    · exact .inl ⟨rfl, by rw [c]; exact beq_self_eq_true _, .inl ⟨rfl, p⟩⟩
    · cases hq : (m'.valid == was)
      · exact .inr (.inl ⟨rfl, rfl, by rw [c]; exact beq_self_eq_true _, .inr p⟩)
      · exact .inl ⟨rfl, rfl, .inr p⟩
  · obtain ⟨m', a, b, c, p⟩ := h.step
    refine ⟨m', a, b, ?_⟩
    cases d
    · cases hq : (m'.valid == was)
      · exact .inr (.inl ⟨rfl, rfl, by rw [c]; exact beq_self_eq_true _, .inr p⟩)
      · exact .inl ⟨rfl, rfl, .inr p⟩
    · exact .inr (.inr ⟨rfl, by rw [c]; exact beq_self_eq_true _, .inr p⟩)
theorem phS_done {base : Int} {was now : List (Int × Int)} {d : Bool} {m : Nd} (h : PhS base was now d m []) : m.valid = now ∧ m.inval = -1 ∧ m.mayB 0 false = true := by
  rcases h with ⟨_, h⟩ | h
  · exact absurd h PhA.ne
  · exact h.done
theorem drop_ent (L : List (Int × Int)) {k : Nat} (h : k < L.length) : L.drop k = (eK L k, eP L k) :: L.drop (k + 1) := by
  rw [List.drop_eq_getElem_cons h, ent_get h]
end Go.Proofs.Ytbpaefhihdhdeaa
