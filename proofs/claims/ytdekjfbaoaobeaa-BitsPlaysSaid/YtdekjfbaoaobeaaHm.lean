/-
  THE ROW's METHODS: Len, Less, Swap, Push, Pop: contracts.
-/
import Derived.Test.YtdekjfbaoaobeaaH
import Derived.Laws.OwnMore
namespace Go.Proofs.Ytdekjfbaoaobeaa
open Go.RowKit

def swpL (l : List Int) (i j : Nat) : List Int := (l.set i (l.getD j 0)).set j (l.getD i 0)
theorem swpL_len (l : List Int) (i j : Nat) : (swpL l i j).length = l.length := by simp [swpL]

theorem len_v (v : Value) (n : Nat) (w : World) (hv : ∃ a c, v = .slice a n c) : Calls Try.prog 44 #[v] w fun e w' => e = .returned (.int .i64 n) ∧ w = w' := by
  obtain ⟨a, c, rfl⟩ := hv
  go_enter Try.func44, Try.ntmps44
  go_wp2
  go_ret
  exact ⟨rfl, rfl⟩

theorem HeapV.slice {w : World} {b : Nat} {v : Value} {l : List Int} (h : HeapV w b v l) : ∃ a c, v = .slice a l.length c := by
  obtain ⟨_, ⟨rfl, h0⟩ | ⟨g, cap, cur, rfl, _⟩⟩ := h.row
  · exact ⟨none, 0, by rw [h0]⟩
  · exact ⟨_, _, rfl⟩
theorem HeapV.cell {w : World} {b : Nat} {v : Value} {l : List Int} (h : HeapV w b v l) : w.cell? ⟨b, 0, none⟩ = some v := by rw [h.blk.cell]; rfl
theorem HeapV.pos {w : World} {b : Nat} {v : Value} {l : List Int} (h : HeapV w b v l) (hp : 0 < l.length) :
    ∃ g cap, v = .slice (some ⟨g, 0, none⟩) l.length cap ∧ g < w.heap.size ∧ l.length ≤ cap ∧ cap ≤ maxLen ∧ g ≠ b ∧ (∀ i, i < l.length → w.cell? ⟨g, i, none⟩ = some (.int .u64 (l.getD i 0))) ∧ ∀ i, w.frozen? ⟨g, i, none⟩ = false := by
  obtain ⟨g, cap, rfl, _, h2, h3, h4, _, h6, h7⟩ := own_shape h.row hp
  refine ⟨g, cap, rfl, h2, h3, h4, fun e => h.ne (by subst e; rfl), fun i hi => ?_, h7⟩
  rw [h6 i hi]; simp [hi]
theorem HeapV.drewN {w : World} {b : Nat} {v : Value} {l : List Int} (h : HeapV w b v l) (q : Nat) : HeapV (w.drewN q) b v l := ⟨h.blk, h.row, h.ne⟩
theorem HStep.drewN {b : Nat} {v v' : Value} {w w' : World} (h : HStep b v v' w w') (q : Nat) : HStep b v v' w (w'.drewN q) := ⟨h.1.drewN q, h.2⟩

theorem less_v (b : Nat) (v : Value) (l : List Int) (i j : Nat) (w : World) (h : HeapV w b v l) (hi : i < l.length) (hj : j < l.length) (hn : l.length ≤ 1000000) :
    Calls Try.prog 91 #[v, .int .i64 i, .int .i64 j] w fun e w' => e = .returned (.bool (decide (l.getD i 0 < l.getD j 0))) ∧ ∃ q, w' = w.drewN q := by
  obtain ⟨g, cap, rfl, _, _, _, _, hc, _⟩ := h.pos (by omega)
  have c1 := hc i hi
  have c2 := hc j hj
  generalize l.getD i 0 = x at *
  generalize l.getD j 0 = y at *
  have b1 : (i : Int) < (l.length : Int) := by omega
  have b2 : (j : Int) < (l.length : Int) := by omega
  have b3 : ((i : Int)).toNat = i := by omega
  have b4 : ((j : Int)).toNat = j := by omega
  clear hc h
  go_enter Try.func91, Try.ntmps91
  go_wp2_with (fail)
  go_quiet (fail)
  go_wp2_with (fail)
  go_ret
  exact ⟨rfl, ⟨_, rfl⟩⟩

theorem HeapV.swapped {w : World} {b : Nat} {g cap : Nat} {l : List Int} (h : HeapV w b (.slice (some ⟨g, 0, none⟩) l.length cap) l) (i j : Nat) :
    HeapV ((w.setCell ⟨g, i, none⟩ (.int .u64 (l.getD j 0))).setCell ⟨g, j, none⟩ (.int .u64 (l.getD i 0))) b (.slice (some ⟨g, 0, none⟩) l.length cap) (swpL l i j) ∧
    HStep b (.slice (some ⟨g, 0, none⟩) l.length cap) (.slice (some ⟨g, 0, none⟩) l.length cap) w ((w.setCell ⟨g, i, none⟩ (.int .u64 (l.getD j 0))).setCell ⟨g, j, none⟩ (.int .u64 (l.getD i 0))) := by
  have s1 := h.row.stored i (.int .u64 (l.getD j 0))
  have s2 := s1.1.stored j (.int .u64 (l.getD i 0))
  have hgb : b ≠ g := fun e => h.ne (by subst e; rfl)
  refine ⟨⟨(h.blk.other _ _ hgb).other _ _ hgb, ?_, h.ne⟩, ?_, .inl rfl⟩
  · have := s2.1
    rw [swpL_len, show (swpL l i j).map (Value.int .u64) = ((l.map (Value.int .u64)).set i (.int .u64 (l.getD j 0))).set j (.int .u64 (l.getD i 0)) by simp [swpL, List.map_set]]
    exact this
  · exact ((Keeps.refl _ w).setCell (.inl (.inr rfl)) _).setCell (.inl (.inr rfl)) _

set_option maxRecDepth 100000 in
set_option maxHeartbeats 1000000 in
theorem swap_v (b : Nat) (v : Value) (l : List Int) (i j : Nat) (w : World) (h : HeapV w b v l) (hi : i < l.length) (hj : j < l.length) (hn : l.length ≤ 1000000) :
    Calls Try.prog 92 #[v, .int .i64 i, .int .i64 j] w fun e w' => e = .returned (.tuple #[]) ∧ HeapV w' b v (swpL l i j) ∧ HStep b v v w w' := by
  obtain ⟨g, cap, rfl, _, _, _, _, hc, hf⟩ := h.pos (by omega)
  have SW := Lib.hid (HeapV.swapped h i j)
  have c1 := hc i hi
  have c2 := hc j hj
  generalize l.getD i 0 = x at *
  generalize l.getD j 0 = y at *
  have b1 : (i : Int) < (l.length : Int) := by omega
  have b2 : (j : Int) < (l.length : Int) := by omega
  have b3 : ((i : Int)).toNat = i := by omega
  have b4 : ((j : Int)).toNat = j := by omega
  have f1 := hf i
  have f2 := hf j
  obtain ⟨v', hy'⟩ := cell?_setCell_some (w := w) (p := ⟨g, i, none⟩) (x := .int .u64 y) (q := ⟨g, j, none⟩) (v := .int .u64 y) c2
  clear hc h hf
  go_enter Try.func92, Try.ntmps92
  go_wp2_with (fail)
  go_region
  all_goals
    go_wp2_with (fail)
    go_end0
    exact ⟨rfl, ⟨SW.out.1.blk, SW.out.1.row, SW.out.1.ne⟩, ⟨SW.out.2.1.drew, SW.out.2.2⟩⟩
end Go.Proofs.Ytdekjfbaoaobeaa
