/-
  The memory of BitsAll's loops.
-/
import Derived.Test.YtdekjfbaoaobeaaJc
import Derived.Test.YtdekjfbaoaobeaaJb
namespace Go.Proofs.Ytdekjfbaoaobeaa
open Go.RowKit

theorem own_put {w w' : World} {row : Option Nat} {base : Nat} {e : TypeId} {size : Nat} {v : Value} {n : Nat} {xs : List Value} (h : w.ownsRow base e size v n xs) (hg : w.grownBy w' row)
    (hr : ∀ r, row = some r → ∃ o : Obj, w.heap[r]? = some o ∧ o.isCells = false) : w'.ownsRow base e size v n xs := by
  obtain ⟨hl, h2⟩ := h
  refine ⟨hl, ?_⟩
  rcases h2 with h2 | ⟨g, cap, cur, hv, hb, hh, r⟩
  · exact .inl h2
  · refine .inr ⟨g, cap, cur, hv, hb, ?_, r⟩
    rw [hg.block g (Array.getElem?_eq_some_iff.1 hh).1 (fun e => by
      obtain ⟨o, ho, hc⟩ := hr g e.symm
      rw [hh] at ho; cases ho; cases hc)]
    exact hh

/-- few, the result, want, the word, n; want's row; what was there -/
structure AllSt (B : Nat) (w0 : World) (bw bn : Nat) (v : Value) (m : Nat) (few q : Int) (W : World) : Prop where
  f : Blk W B #[.int .i64 few] 3
  r : Blk W (B + 1) #[.bool false] 4
  t : Blk W bw #[v] 29
  u : Blk W (bw + 1) #[.int .u64 m] 22
  c : Blk W bn #[.int .i64 q] 3
  o : W.ownsRow (B + 2) 3 1 v (bitsL m).length ((bitsL m).map (Value.int .i64))
  b : Below B w0 W
  lw : B + 2 ≤ bw
  ln : bw + 2 ≤ bn
  og : ∀ g, v.ownBlock = some g → g < bw
theorem AllSt.put {B : Nat} {w0 : World} {bw bn : Nat} {v : Value} {m : Nat} {few q : Int} {A C : World} {row : Option Nat} (h : AllSt B w0 bw bn v m few q A) (hBA : B ≤ A.heap.size) (hg : A.grownBy C row)
    (hr : ∀ r, row = some r → B ≤ r ∧ ∃ o : Obj, A.heap[r]? = some o ∧ o.isCells = false) : AllSt B w0 bw bn v m few q C :=
  ⟨h.f.put hg (fun r e => (hr r e).2), h.r.put hg (fun r e => (hr r e).2), h.t.put hg (fun r e => (hr r e).2), h.u.put hg (fun r e => (hr r e).2), h.c.put hg (fun r e => (hr r e).2), own_put h.o hg (fun r e => (hr r e).2),
    h.b.grown hg hBA (fun r e => (hr r e).1), h.lw, h.ln, h.og⟩
theorem AllSt.setn {B : Nat} {w0 : World} {bw bn : Nat} {v : Value} {m : Nat} {few q : Int} {A : World} (h : AllSt B w0 bw bn v m few q A) (q' : Int) : AllSt B w0 bw bn v m few q' (A.setCell ⟨bn, 0, none⟩ (.int .i64 q')) := by
  have h1 := h.lw
  have h2 := h.ln
  refine ⟨h.f.other _ _ (by omega), h.r.other _ _ (by omega), h.t.other _ _ (by omega), h.u.other _ _ (by omega), h.c.set 0 _, ownsRow_setCell_other h.o (fun e => by have := h.og _ e; simp at this; omega) _, h.b.setCell (p := ⟨bn, 0, none⟩) (by show B ≤ bn; omega) _, h1, h2, h.og⟩
/-- want's cells -/
theorem AllSt.at {B : Nat} {w0 : World} {bw bn : Nat} {v : Value} {m : Nat} {few q : Int} {A : World} (h : AllSt B w0 bw bn v m few q A) (hp : 0 < (bitsL m).length) :
    ∃ g cap, v = .slice (some ⟨g, 0, none⟩) (bitsL m).length cap ∧ ∀ i, i < (bitsL m).length → A.cell? ⟨g, i, none⟩ = some (.int .i64 ((bitsL m).getD i 0)) := by
  obtain ⟨g, cap, rfl, _, _, _, _, _, h6, _⟩ := own_shape h.o hp
  refine ⟨g, cap, rfl, fun i hi => ?_⟩
  rw [h6 i hi]; simp [hi]
theorem pre_next {L pre : List Int} {x : Int} (h : pre <+: L) (hl : pre.length < L.length) (hx : L.getD pre.length 0 = x) : pre ++ [x] <+: L := by
  obtain ⟨r, rfl⟩ := h
  cases r with
  | nil => simp at hl
  | cons y r =>
    have : x = y := by rw [← hx]; simp
    subst this
    exact ⟨r, by simp⟩
theorem pre_at {L pre : List Int} {x : Int} (h : pre ++ [x] <+: L) : L.getD pre.length 0 = x ∧ pre.length < L.length := by
  obtain ⟨r, rfl⟩ := h
  constructor
  · simp
  · simp
end Go.Proofs.Ytdekjfbaoaobeaa
