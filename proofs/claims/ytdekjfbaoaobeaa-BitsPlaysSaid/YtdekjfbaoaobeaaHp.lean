/-
  THE ROW's METHODS Push AND Pop: contracts.
-/
import Derived.Test.YtdekjfbaoaobeaaHm
import Derived.Deep.RegionLaw
import Derived.OneCell
import Derived.Deep.AppendLies
namespace Go.Proofs.Ytdekjfbaoaobeaa
open Go.RowKit

theorem Try.info_addr : (Try.prog.info? 39).map (fun i => (i.zero, i.size, i.bytes)) = some (some (.int .u64 0), 1, 8) := by kernel_rfl

theorem HeapV.pushed {w w4 : World} {b g cap : Nat} {v : Value} {l : List Int} {x : Int} (h : HeapV w b v l)
    (hown : w4.ownsRow 0 39 1 (.slice (some ⟨g, 0, none⟩) (l.length + 1) cap) (l.length + 1) (l.map (Value.int .u64) ++ [.int .u64 x])) (hgrow : (w.drew.alloc (.cells #[.int .u64 x] 39)).grownBy w4 v.ownBlock) (hat : v.ownBlock = some g ∨ g = w.heap.size + 1) :
    HeapV (w4.setCell ⟨b, 0, none⟩ (.slice (some ⟨g, 0, none⟩) (l.length + 1) cap)) b (.slice (some ⟨g, 0, none⟩) (l.length + 1) cap) (l ++ [x]) ∧
    HStep b v (.slice (some ⟨g, 0, none⟩) (l.length + 1) cap) w (w4.setCell ⟨b, 0, none⟩ (.slice (some ⟨g, 0, none⟩) (l.length + 1) cap)) ∧ w4.cell? ⟨b, 0, none⟩ = some v ∧ w4.frozen? ⟨b, 0, none⟩ = false := by
  have hb4 : Blk w4 b #[v] 58 := (h.blk.drew.alloc _).grown hgrow (fun e => h.ne e.symm)
  have hlt := h.blk.lt
  have hgb : g ≠ b := by
    rcases hat with e | e
    · exact fun e2 => h.ne (by rw [e, e2])
    · omega
  refine ⟨⟨?_, ?_, fun e => hgb (by simpa [Value.ownBlock] using e)⟩, ⟨?_, ?_⟩, by rw [hb4.cell]; rfl, hb4.frozen 0⟩
  · have := hb4.set 0 (.slice (some ⟨g, 0, none⟩) (l.length + 1) cap)
    exact this
  · simp only [List.length_append, List.length_cons, List.length_nil, List.map_append, List.map_cons, List.map_nil]
    exact ownsRow_setCell_other hown (fun e => hgb (by simpa [Value.ownBlock] using e)) _
  · exact ((((Keeps.refl _ w).drew).alloc _).grown hgrow (fun k hk => .inl (.inr hk))).setCell (.inl (.inl rfl)) _
  · rcases hat with e | e
    · exact .inl (by rw [e]; rfl)
    · exact .inr (fun k hk => by simp [Value.ownBlock] at hk; omega)

theorem assert_addr (x : Int) (w : World) : (Instr.typeAssert (.iface 39 (.int .u64 x)) 20 39 false).run Try.prog w = .ok (.int .u64 x) w := by rfl

set_option maxRecDepth 100000 in
set_option maxHeartbeats 2000000 in
theorem push_v (b : Nat) (v : Value) (l : List Int) (x : Int) (w : World) (h : HeapV w b v l) (hn : l.length ≤ 1000000) :
    Calls Try.prog 94 #[.pointer (some ⟨b, 0, none⟩), .iface 39 (.int .u64 x)] w fun e w' => e = .returned (.tuple #[]) ∧ ∃ v', HeapV w' b v' (l ++ [x]) ∧ HStep b v v' w w' := by
  obtain ⟨i0, hi, hz0, hz1, hz2⟩ := info_parts Try.info_addr
  have H := Lib.hid h
  have hc := h.cell
  have hf := h.blk.frozen 0
  have hrow := h.row
  have ta := assert_addr x
  have hc2 : (w.alloc (.cells #[.int .u64 x] 39)).cell? ⟨b, 0, none⟩ = some v := by rw [(h.blk.alloc _).cell]; rfl
  clear h
  go_enter Try.func94, Try.ntmps94
  go_region_law ((refine step_append_lies _ rfl _ _ _ rfl 0 39 i0 (.int .u64 0) 1 8 Try.underlying56 hi hz0 hz1 hz2 rfl (by decide) v l.length (l.map (Value.int .u64)) (by simp [Act.eval]) (hrow.drew.alloc _) ⟨w.heap.size, 0, none⟩ 1 1 [.int .u64 x] (by simp [Act.eval]) rfl (cell_one_new _ _ _) (by simp [Value.oneCell']) (by decide) (by unfold maxLen; omega) (by omega) (by simp) (w.heap.size + 1) (by simp) ?_; intro g cap w4 hown hgrow hat hlt; have HP := Lib.hid (H.out.pushed hown hgrow hat); have hc4 := HP.out.2.2.1; have hf4 := HP.out.2.2.2; clear hown hgrow hat hlt))
  all_goals
    go_end0
    exact ⟨rfl, _, HP.out.1, HP.out.2.1⟩
end Go.Proofs.Ytdekjfbaoaobeaa
