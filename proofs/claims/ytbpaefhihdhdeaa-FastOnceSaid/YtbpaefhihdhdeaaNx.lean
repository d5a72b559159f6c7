/-
  SINGLE OPERATIONS ON NODES, for the steps of a region that draws its order.
-/
import Derived.Test.YtbpaefhihdhdeaaMk
import Derived.Test.YtbpaefhihdhdeaaFr
namespace Go.Proofs.Ytbpaefhihdhdeaa
open Go.RowKit

theorem ev_tmp {a : Act} {s : Nat} {v : Value} (h : a.tmps[s]?.getD undef = v) : a.eval (.tmp s) = v := by simpa [Act.eval] using h
section
variable {P : Program}
theorem wp_ld_part {o : Oper} {a : Act} {w : World} {K : Act → World → Prop} {Q : Exit → Act → World → Prop} (ty : TypeId) (x : Operand) (ho : o.op = .load ty x)
    (g off : Nat) (hx : a.eval x = .pointer (some ⟨g, off, none⟩)) (cs : Array Value) (d : TypeDesc) (hc : ∀ j v, cs[j]? = some v → w.cell? ⟨g, off + j, none⟩ = some v)
    (hu : P.underlying ty = some d) (hd : (match d with | .struct _ | .array _ _ => true | _ => false) = true) (hi : (P.info? ty).map (·.size) = some cs.size)
    (h : K (a.put o.dst (.agg cs)) w) : Oper.wp P o a w K Q := by
  unfold Oper.wp execOp
  simp only [ho, hx, Instr.loadAt, Instr.sureAddr, Sem.run_bind, Sem.run_pure, Result.andThen_ok, run_loadVar_part w g off ty cs d hc hu hd hi]
  exact h
end
theorem wp_load_nd {o : Oper} {a : Act} {w : World} {K : Act → World → Prop} {Q : Exit → Act → World → Prop} (x : Operand) (ho : o.op = .load 27 x)
    (g : Nat) (n : Nd) (hx : a.eval x = .pointer (some ⟨g, 0, none⟩)) (hb : Blk w g (ndCells n) 27) (h : K (a.put o.dst (.agg (ndCells n))) w) : Oper.wp Try.prog o a w K Q :=
  wp_ld_part 27 x ho g 0 hx (ndCells n) _ (ndLoad hb) Try.underlying27 rfl (info27 n) h
theorem wp_store_nd {o : Oper} {a : Act} {w : World} {K : Act → World → Prop} {Q : Exit → Act → World → Prop} (x y : Operand) (ho : o.op = .store 27 x y)
    (g : Nat) (m n : Nd) (hx : a.eval x = .pointer (some ⟨g, 0, none⟩)) (hy : a.eval y = .agg (ndCells m)) (hg : Blk w g (ndCells n) 27)
    (h : K (a.put o.dst undef) (w.setRow g (ndCells m))) : Oper.wp Try.prog o a w K Q :=
  wp_store_row 27 x y ho g (ndCells m) hx hy 27 (ndCells n) hg (info27 m) (by rw [ndCells_size, ndCells_size]) (ndCells_one m) h
theorem keeps_setRow {S : Nat → Prop} {a w : World} (h : Keeps S a w) {g : Nat} (hg : S g ∨ a.heap.size ≤ g) (cs : Array Value) : Keeps S a (w.setRow g cs) :=
  ⟨h.os, h.tape, h.output, by rw [setRow_size]; exact h.size, fun k hk hn => by
    rw [setRow_other w g k cs (fun e => by subst e; rcases hg with h1 | h1; exact hn h1; omega)]
    exact h.block k hk hn⟩
theorem Keeps.of_belowS {S : Nat → Prop} {a w : World} (h : Below a.heap.size a w) : Keeps S a w := (Keeps.of_below' h).mono (fun _ _ h => h.elim)
end Go.Proofs.Ytbpaefhihdhdeaa
