/-
  known() of the chapter: true.
-/
import Derived.Test.YtbpaefhihdhdeaaMk
import Derived.Test.YtbpaefhihdhdeaaKp
namespace Go.Proofs.Ytbpaefhihdhdeaa
open Go.RowKit

theorem kN_made : mkV 0 0 0 1088 [(5, 2112), (9, 2176)] = (kN 0, 0) := by
  have h1 : mkBad 0 0 1088 [(5, 2112), (9, 2176)] = false := by decide +kernel
  have h2 : (mkNd 0 0 0 1088 [(5, 2112), (9, 2176)]).valid.length = 2 := by decide +kernel
  unfold mkV
  rw [h1, if_neg (by simp), if_pos (by rw [h2]; rfl)]
  rfl

theorem kN_cells : (ndCells (kN 0)).setIfInBounds 3 (.int .u64 4) = ndCells (kN 4) := by rw [ndCells_set3]; rfl
theorem make_k (g : Nat) (w : World) (h : w.heap[g]? = some (.cells #[.int .u64 5, .int .u64 2112, .int .u64 9, .int .u64 2176] 60 (0, 0))) :
    Calls Try.prog 24 #[.int .u64 1088, .int .i64 0, .int .u64 0, .int .u64 0, .int .u64 0, .slice (some ⟨g, 0, none⟩) 2 2] w fun e w' => MkP (kN 0) 0 w e w' := by
  have := nmake_v 1088 0 0 0 0 1088 [(5, 2112), (9, 2176)] (some ⟨g, 0, none⟩) g 2 w rfl (by simp) (by simp) (fun _ => rfl) (fun i hi => by
    have hb : Blk w g #[.int .u64 5, .int .u64 2112, .int .u64 9, .int .u64 2176] 60 := h
    have hi' : i = 0 ∨ i = 1 := by simp at hi; omega
    rcases hi' with rfl | rfl
    · exact ⟨by rw [hb.cell]; rfl, by rw [hb.cell]; rfl⟩
    · exact ⟨by rw [hb.cell]; rfl, by rw [hb.cell]; rfl⟩)
  rw [kN_made] at this
  exact this

def L1 : List (Int × Int) := [(1112, 5), (1208, 0), (1192, 2176), (1184, 9), (1176, 2112), (1168, 7), (1176, 2240), (1112, 6)]
def L2 : List (Int × Int) := [(1112, 5), (1160, 1088), (1152, 9), (1160, 2176), (1176, 0), (1112, 6)]
theorem ins_k (w : World) : Calls Try.prog 25 #[.int .u64 1088, .agg (ndCells (kN 4)), .int .u64 7, .int .u64 2240] w fun e w' => MadeP L1 0 w e w' := by
  have := insert_v 1088 (kN 4) 7 2240 w
  rw [kN_ins.1, kN_ins.2] at this
  exact this
theorem del_k (w : World) : Calls Try.prog 26 #[.int .u64 1088, .agg (ndCells (kN 4)), .int .u64 5] w fun e w' => MadeP L2 0 w e w' := by
  have := delete_v 1088 (kN 4) 5 w
  rw [kN_del.1, kN_del.2] at this
  exact this
theorem own_lit {w : World} {base g n size : Nat} {e : TypeId} {C : Array Value} (hb : Blk w g C e) (hs : C.size = n * size) (hn : n ≤ 1000000) (hg : base ≤ g) : w.ownsRow base e size (.slice (some ⟨g, 0, none⟩) n n) n C.toList :=
  ⟨by simpa using hs, .inr ⟨g, n, C, rfl, hg, hb, Nat.le_refl _, by unfold maxLen; omega, hs, List.take_of_length_le (by simp; omega)⟩⟩

set_option maxRecDepth 100000 in
set_option maxHeartbeats 3200000 in
theorem known_v (w : World) : Calls Try.prog 9 #[] w fun e w' => e = .returned (.bool true) ∧ Below w.heap.size w w' := by
  have HMk := Lib.hid (make_k w.heap.size (w.alloc (.cells #[.int .u64 5, .int .u64 2112, .int .u64 9, .int .u64 2176] 60)) (Blk.new w _ _))
  have HB0 := Lib.hid ((Below.refl w.heap.size w).alloc (Nat.le_refl _) (.cells #[.int .u64 5, .int .u64 2112, .int .u64 9, .int .u64 2176] 60))
  have HI := Lib.hid (info27 (kN 4))
  go_enter Try.func9, Try.ntmps9
  go_wp2_with (fail)
  refine HMk.out.mono ?_
  rintro e w1 ⟨rfl, hB1⟩
  have HB1 := Lib.hid (HB0.out.trans (hB1.mono HB0.out.size))
  have hk1 := Blk.new w1 (ndCells nd0) 27
  obtain ⟨w2, hw2⟩ : ∃ w2, (w1.alloc (.cells (ndCells nd0) 27)).setRow w1.heap.size (ndCells (kN 0)) = w2 := ⟨_, rfl⟩
  have hk2 : Blk w2 w1.heap.size (ndCells (kN 0)) 27 := by rw [← hw2]; exact hk1.row _
  have hB2 : Below w.heap.size w w2 := by rw [← hw2]; exact below_setRow (HB1.out.alloc HB1.out.size _) HB1.out.size _
  have c3 : w2.cell? ⟨w1.heap.size, 3, none⟩ = some (.int .u64 0) := by rw [hk2.cell, ndCells_3]; rfl
  have f3 := hk2.frozen 3
  have hk3 := hk2.set 3 (.int .u64 4)
  rw [kN_cells] at hk3
  have HK1 := Lib.hid hk1
  have HW2 := Lib.hid hw2
  have HL3 := Lib.hid (ndLoad hk3)
  have HK3 := Lib.hid hk3
  have HB3 := Lib.hid (hB2.setCell (p := ⟨w1.heap.size, 3, none⟩) HB1.out.size (.int .u64 4))
  clear hB1 hk1 hw2 hk2 hB2 hk3
  go_wp2_with (first | (with_reducible refine wpList_alloc_nd (o := ⟨some 1, _, _, _, _, _⟩) rfl rfl ?_) | (refine wpList_store_ndc (o := ⟨none, .store 27 (.tmp 1) (.tmp 12), _, _, _, _⟩) rfl (.tmp 1) (.tmp 12) ?ho w1.heap.size ?cs (kN 0) nd0 ?hx ?hy HK1.out ?hm ?_; (case ho => rfl); (case hx => rfl); (case hy => rfl); (case hm => rfl); rw [HW2.out]) | (with_reducible refine wpList_load_part (o := ⟨some 16, _, _, _, _, _⟩) rfl 27 _ rfl w1.heap.size 0 rfl (ndCells (kN 4)) _ HL3.out Try.underlying27 rfl HI.out ?_))
  refine (ins_k _).mono ?_
  rintro e w4 ⟨a1, m1, c1, rfl, hm1, ho1, hB4⟩
  have HB4 := Lib.hid (HB3.out.trans (hB4.mono HB3.out.size))
  have HK4 := Lib.hid (HK3.out.below hB4 HK3.out.lt)
  have HL4 := Lib.hid (ndLoad HK4.out)
  have HO1 := Lib.hid ho1
  have HM1 := Lib.hid hm1
  clear hm1 ho1 hB4 HL3 HK1 HW2 c3 f3 HMk
  go_wp2_with (with_reducible refine wpList_load_part (o := ⟨some 21, _, _, _, _, _⟩) rfl 27 _ rfl w1.heap.size 0 rfl (ndCells (kN 4)) _ HL4.out Try.underlying27 rfl HI.out ?_)
  refine (del_k _).mono ?_
  rintro e w5 ⟨a2, m2, c2, rfl, hm2, ho2, hB5⟩
  have HB5 := Lib.hid (HB4.out.trans (hB5.mono HB4.out.size))
  have HO15 := Lib.hid (own_below HO1.out hB5)
  have HO2 := Lib.hid ho2
  clear hm2 ho2 hB5
  go_wp2_with (fail)
  refine (psame_calls L1 L1 _ _ _ w5.heap.size _ (by decide) (own_below HO15.out ((Below.refl w5.heap.size w5).alloc (Nat.le_refl _) _)) (own_lit (C := (ecells L1).toArray) (n := 8) (Blk.new w5 (ecells L1).toArray 36) (by rfl) (by omega) (Nat.le_refl _))).mono ?_
  rintro e w6 ⟨rfl, hB6⟩
  have hB6' := ((Below.refl w5.heap.size w5).alloc (Nat.le_refl _) (.cells (ecells L1).toArray 36)).trans (hB6.mono (by simp))
  have HB6 := Lib.hid (HB5.out.trans (hB6'.mono HB5.out.size))
  have HO26 := Lib.hid (own_below HO2.out hB6')
  have q1 : (L1 == L1) = true := beq_self_eq_true L1
  have q2 : (L2 == L2) = true := beq_self_eq_true L2
  rw [q1]
  clear hB6 hB6' q1
  go_wp2_with (fail)
  refine (psame_calls L2 L2 _ _ _ w6.heap.size _ (by decide) (own_below HO26.out ((Below.refl w6.heap.size w6).alloc (Nat.le_refl _) _)) (own_lit (C := (ecells L2).toArray) (n := 6) (Blk.new w6 (ecells L2).toArray 36) (by rfl) (by omega) (Nat.le_refl _))).mono ?_
  rintro e w7 ⟨rfl, hB7⟩
  have hB7' := ((Below.refl w6.heap.size w6).alloc (Nat.le_refl _) (.cells (ecells L2).toArray 36)).trans (hB7.mono (by simp))
  have HB7 := Lib.hid (HB6.out.trans (hB7'.mono HB6.out.size))
  rw [q2]
  clear hB7 hB7' q2
  go_wp2_with (fail)
  go_ret
  exact ⟨rfl, HB7.out⟩
end Go.Proofs.Ytbpaefhihdhdeaa
