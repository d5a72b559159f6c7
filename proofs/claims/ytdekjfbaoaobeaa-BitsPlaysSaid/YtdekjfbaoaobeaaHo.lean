/-
  The row's Pop; container/heap Push, Pop, Remove: contracts.
-/
import Derived.Test.YtdekjfbaoaobeaaHd
namespace Go.Proofs.Ytdekjfbaoaobeaa
open Go.RowKit

theorem HeapV.popped {w : World} {b g cap : Nat} {l : List Int} {x : Int} (h : HeapV w b (.slice (some ⟨g, 0, none⟩) (l.length + 1) cap) (l ++ [x])) :
    HeapV (w.setCell ⟨b, 0, none⟩ (.slice (some ⟨g, 0, none⟩) l.length cap)) b (.slice (some ⟨g, 0, none⟩) l.length cap) l ∧
    HStep b (.slice (some ⟨g, 0, none⟩) (l.length + 1) cap) (.slice (some ⟨g, 0, none⟩) l.length cap) w (w.setCell ⟨b, 0, none⟩ (.slice (some ⟨g, 0, none⟩) l.length cap)) := by
  have hgb : g ≠ b := fun e => h.ne (by subst e; rfl)
  refine ⟨⟨h.blk.set 0 _, ownsRow_setCell_other ?_ (fun e => hgb (by simpa [Value.ownBlock] using e)) _, fun e => hgb (by simpa [Value.ownBlock] using e)⟩, ⟨(Keeps.refl _ w).setCell (.inl (.inl rfl)) _, .inl rfl⟩⟩
  obtain ⟨h1, ⟨e, _⟩ | ⟨g', cap', cur, e, hb, hg, hn, hc, hs, ht⟩⟩ := h.row
  · cases e
  · simp at e
    obtain ⟨rfl, rfl⟩ := e
    refine ⟨by simp, .inr ⟨g, cap, cur, rfl, hb, hg, by simp at hn; omega, hc, hs, ?_⟩⟩
    have : List.take (l.length * 1) (List.take ((l ++ [x]).length * 1) cur.toList) = l.map (Value.int .u64) := by rw [ht]; simp
    rwa [List.take_take, show min (l.length * 1) ((l ++ [x]).length * 1) = l.length * 1 by simp] at this

set_option maxRecDepth 100000 in
set_option maxHeartbeats 2000000 in
theorem pop_v (b : Nat) (v : Value) (l : List Int) (x : Int) (w : World) (h : HeapV w b v (l ++ [x])) (hn : l.length ≤ 1000000) :
    Calls Try.prog 93 #[.pointer (some ⟨b, 0, none⟩)] w fun e w' => e = .returned (.iface 39 (.int .u64 x)) ∧ ∃ v', HeapV w' b v' l ∧ HStep b v v' w w' := by
  obtain ⟨g, cap, rfl, _, hlc, hcm, _, hc, hf⟩ := h.pos (by simp)
  rw [show (l ++ [x]).length = l.length + 1 by simp] at *
  have H := Lib.hid h.popped
  have hcell := h.cell
  have hfb := h.blk.frozen 0
  have c1 := hc l.length (by omega)
  rw [show (l ++ [x]).getD l.length 0 = x by simp] at c1
  have q1 : IntKind.i64.wrap (((l.length + 1 : Nat) : Int) - 1) = (l.length : Int) := by rw [show ((l.length + 1 : Nat) : Int) - 1 = (l.length : Int) by omega]; exact IntWalk.i64_in _ (by omega)
  have b1 : ((l.length : Nat) : Int) < ((l.length + 1 : Nat) : Int) := by omega
  have b2 : (l.length : Int) ≤ (cap : Int) := by omega
  have b4 : ((l.length : Int)).toNat = l.length := by omega
  clear h hc hf
  go_enter Try.func93, Try.ntmps93
  go_wp2_with (fail)
  go_ret
  exact ⟨rfl, _, H.out.1, H.out.2⟩
end Go.Proofs.Ytdekjfbaoaobeaa
