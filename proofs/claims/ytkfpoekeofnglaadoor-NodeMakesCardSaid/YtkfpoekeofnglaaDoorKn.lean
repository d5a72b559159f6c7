/-
  known() of the chapter: true, where the table of tens is laid.
-/
import Derived.Test.YtkfpoekeofnglaaDoorTx
import Derived.Test.YtkfpoekeofnglaaDoorEs
namespace Go.Proofs.YtkfpoekeofnglaaDoor
open Go.RowKit

def kL : List (Int × Int) := [(5, 2112), (9, 2176)]
def kA : Nd := mkNd 0 0 0 1088 kL
def kB : Nd := { kA with p := fun j => if j = 1 then 2112 else kA.p j }
theorem kA_made : mkV 0 0 0 1088 kL = (kA, 0) := by
  have h1 : mkBad 0 0 1088 kL = false := by decide +kernel
  have h2 : (mkNd 0 0 0 1088 kL).valid.length = 2 := by decide +kernel
  unfold mkV
  rw [h1, if_neg (by simp), if_pos (by rw [h2]; rfl)]
  rfl
theorem kA_find : FindV kA 9 = .tuple #[.int .i64 1, .bool true] := by
  have h : kA.find 9 = 1 := by decide +kernel
  unfold FindV; rw [h]; rfl
theorem kA_at : kA.last 7 + 1 = 1 := by decide +kernel
theorem kA_len : kA.len = 2 := by decide +kernel
theorem kA_valid : kA.valid = kL := by decide +kernel
theorem kB_valid : kB.valid = [(5, 2112)] := by decide +kernel
theorem kB_inv : kB.invalid = 1 := by decide +kernel
theorem kA_text : Lib.join (textL 0 0 0 1088 kA.valid) [32] = [48, 32, 48, 32, 48, 32, 49, 48, 56, 56, 32, 53, 61, 50, 49, 49, 50, 32, 57, 61, 50, 49, 55, 54] := by
  rw [kA_valid]
  decide +kernel
theorem kA_cells : (ndCells kA).setIfInBounds 14 (.int .u64 2112) = ndCells kB := by
  have := ndCells_setp kA 1 (by omega) 2112
  exact this
theorem make_k (g : Nat) (w : World) (h : w.heap[g]? = some (.cells #[.int .u64 5, .int .u64 2112, .int .u64 9, .int .u64 2176] 57 (0, 0))) :
    Calls Tryd.prog 17 #[.int .u64 1088, .int .i64 0, .int .u64 0, .int .u64 0, .int .u64 0, .slice (some ⟨g, 0, none⟩) 2 2] w fun e w' => MkP kA 0 w e w' := by
  have := nmake_v 1088 0 0 0 0 1088 kL (some ⟨g, 0, none⟩) g 2 w rfl (by decide) (by decide) (fun _ => rfl) (fun i hi => by
    have hb : Blk w g #[.int .u64 5, .int .u64 2112, .int .u64 9, .int .u64 2176] 57 := h
    have hi' : i = 0 ∨ i = 1 := by simp [kL] at hi; omega
    rcases hi' with rfl | rfl
    · exact ⟨by rw [hb.cell]; rfl, by rw [hb.cell]; rfl⟩
    · exact ⟨by rw [hb.cell]; rfl, by rw [hb.cell]; rfl⟩)
  rw [kA_made] at this
  exact this
theorem text_k (w : World) (ht : Tens w) : Calls Tryd.prog 15 #[.agg (ndCells kA)] w fun e w' => e = .returned (.string ⟨#[48, 32, 48, 32, 48, 32, 49, 48, 56, 56, 32, 53, 61, 50, 49, 49, 50, 32, 57, 61, 50, 49, 55, 54]⟩) ∧ Below w.heap.size w w' := by
  have := ntext_calls 0 0 0 0 1088 (eK kL) (eP kL) kA rfl (by omega) (by omega) (by omega) (by omega) (by
    rw [kA_valid]; intro e he
    simp [kL] at he
    rcases he with rfl | rfl <;> simp) w ht
  rw [kA_text] at this
  exact this

set_option maxRecDepth 100000 in
set_option maxHeartbeats 3200000 in
theorem known_v (w : World) (ht : Tens w) : Calls Tryd.prog 11 #[] w fun e w' => e = .returned (.bool true) ∧ Below w.heap.size w w' := by
  have HMk := Lib.hid (make_k w.heap.size (w.alloc (.cells #[.int .u64 5, .int .u64 2112, .int .u64 9, .int .u64 2176] 57)) (Blk.new w _ _))
  have HB0 := Lib.hid ((Below.refl w.heap.size w).alloc (Nat.le_refl _) (.cells #[.int .u64 5, .int .u64 2112, .int .u64 9, .int .u64 2176] 57))
  have HI := Lib.hid (info27 kA)
  have HT := Lib.hid ht
  have HFd := Lib.hid (fun w => show Calls Tryd.prog 14 #[.agg (ndCells kA), .int .u64 9] w fun e w' => e = .returned (.tuple #[.int .i64 1, .bool true]) ∧ Below w.heap.size w w' from by have := nfind_calls kA 9 w; rw [kA_find] at this; exact this)
  have HLn := Lib.hid (fun w => show Calls Tryd.prog 23 #[.agg (ndCells kA)] w fun e w' => e = .returned (.int .i64 2) ∧ Below w.heap.size w w' from by have := len_calls kA w; rw [kA_len] at this; exact this)
  have HAt := Lib.hid (fun w => show Calls Tryd.prog 12 #[.agg (ndCells kA), .int .u64 7] w fun e w' => e = .returned (.int .i64 1) ∧ Below w.heap.size w w' from by have := nat_calls kA 7 w; rw [kA_at] at this; exact this)
  have HVb := Lib.hid (fun w => show Calls Tryd.prog 21 #[.agg (ndCells kB)] w fun e w' => ∃ v, e = .returned v ∧ w'.ownsRow w.heap.size 57 2 v 1 (ecells [(5, 2112)]) ∧ Below w.heap.size w w' from by have := valid_calls kB w; rw [kB_valid] at this; exact this)
  have HIb := Lib.hid (fun w => show Calls Tryd.prog 22 #[.agg (ndCells kB)] w fun e w' => e = .returned (.int .i64 1) ∧ Below w.heap.size w w' from by have := invalid_calls kB w; rw [kB_inv] at this; exact this)
  clear ht
  go_enter Tryd.func11, Tryd.ntmps11
  go_wp2_with (fail)
  refine HMk.out.mono ?_
  rintro e w1 ⟨rfl, hB1⟩
  have HB1 := Lib.hid (HB0.out.trans (hB1.mono HB0.out.size))
  have hk1 := Blk.new w1 (ndCells nd0) 27
  obtain ⟨w2, hw2⟩ : ∃ w2, (w1.alloc (.cells (ndCells nd0) 27)).setRow w1.heap.size (ndCells kA) = w2 := ⟨_, rfl⟩
  have hk2 : Blk w2 w1.heap.size (ndCells kA) 27 := by rw [← hw2]; exact hk1.row _
  have hB2 : Below w.heap.size w w2 := by rw [← hw2]; exact below_setRow (HB1.out.alloc HB1.out.size _) HB1.out.size _
  have HK1 := Lib.hid hk1
  have HW2 := Lib.hid hw2
  have HL2 := Lib.hid (ndLoad hk2)
  have HK2 := Lib.hid hk2
  have HB2 := Lib.hid hB2
  clear hB1 hk1 hw2 hk2 hB2
  go_upto_region 2 with (first | (with_reducible refine wpList_alloc_nd (o := ⟨some 1, _, _, _, _, _⟩) rfl rfl ?_) | (refine wpList_store_ndc (o := ⟨none, .store 27 (.tmp 1) (.tmp 10), _, _, _, _⟩) rfl (.tmp 1) (.tmp 10) ?ho w1.heap.size ?cs kA nd0 ?hx ?hy HK1.out ?hm ?_; (case ho => rfl); (case hx => rfl); (case hy => rfl); (case hm => rfl); rw [HW2.out]))
  go_simp
  obtain ⟨b1, hb1⟩ : ∃ x, w1.heap.size = x := ⟨_, rfl⟩
  rw [hb1] at HK2 HL2 ⊢
  clear HK1 HW2
  go_wp2_with (with_reducible refine wpList_load_part (o := ⟨some 13, _, _, _, _, _⟩) rfl 27 _ rfl b1 0 rfl (ndCells kA) _ HL2.out Tryd.underlying27 rfl HI.out ?_)
  refine (HFd.out _).mono ?_
  rintro e w3 ⟨rfl, hB3⟩
  have HK3 := Lib.hid (HK2.out.below hB3 HK2.out.lt)
  have HL3 := Lib.hid (ndLoad HK3.out)
  have HB3 := Lib.hid (HB2.out.trans (hB3.mono HB2.out.size))
  clear hB3
  go_wp2_with (refine wpList_load_gd (o := ⟨some 20, .load 27 (.tmp 1), _, _, _, _⟩) 27 (.tmp 1) ?hob b1 0 ?hxb (ndCells kA) _ HL3.out Tryd.underlying27 rfl HI.out ?hwb ?_; (case hob => rfl); (case hxb => rfl); (case hwb => rfl))
  refine (HLn.out _).mono ?_
  rintro e w4 ⟨rfl, hB4⟩
  have HK4 := Lib.hid (HK3.out.below hB4 HK3.out.lt)
  have HL4 := Lib.hid (ndLoad HK4.out)
  have HB4 := Lib.hid (HB3.out.trans (hB4.mono HB3.out.size))
  clear hB4
  go_wp2_with (refine wpList_load_gd (o := ⟨some 33, .load 27 (.tmp 1), _, _, _, _⟩) 27 (.tmp 1) ?hoc b1 0 ?hxc (ndCells kA) _ HL4.out Tryd.underlying27 rfl HI.out ?hwc ?_; (case hoc => rfl); (case hxc => rfl); (case hwc => rfl))
  refine (HAt.out _).mono ?_
  rintro e w5 ⟨rfl, hB5⟩
  have HK5 := Lib.hid (HK4.out.below hB5 HK4.out.lt)
  have HL5 := Lib.hid (ndLoad HK5.out)
  have HB5 := Lib.hid (HB4.out.trans (hB5.mono HB4.out.size))
  clear hB5
  go_wp2_with (refine wpList_load_gd (o := ⟨some 38, .load 27 (.tmp 1), _, _, _, _⟩) 27 (.tmp 1) ?hod b1 0 ?hxd (ndCells kA) _ HL5.out Tryd.underlying27 rfl HI.out ?hwd ?_; (case hod => rfl); (case hxd => rfl); (case hwd => rfl))
  refine (text_k _ (HT.out.below HB5.out)).mono ?_
  rintro e w6 ⟨rfl, hB6⟩
  have hk6 := HK5.out.below hB6 HK5.out.lt
  have hB6' := HB5.out.trans (hB6.mono HB5.out.size)
  have c14 : w6.cell? ⟨b1, 14, none⟩ = some (.int .u64 (kA.p 1)) := by rw [hk6.cell, ndCells_p kA 1 (by omega)]
  have f14 := hk6.frozen 14
  have hk7 := hk6.set 14 (.int .u64 2112)
  rw [kA_cells] at hk7
  have HK7 := Lib.hid hk7
  have HL7 := Lib.hid (ndLoad hk7)
  have HI7 := Lib.hid (info27 kB)
  have HB7 := Lib.hid (hB6'.setCell (p := ⟨b1, 14, none⟩) (by rw [← hb1]; exact HB1.out.size) (.int .u64 2112))
  clear hB6 hB6' hk6 hk7
  go_wp2_with (with_reducible refine wpList_load_part (o := ⟨some 44, _, _, _, _, _⟩) rfl 27 _ rfl b1 0 rfl (ndCells kB) _ HL7.out Tryd.underlying27 rfl HI7.out ?_)
  refine (HVb.out _).mono ?_
  rintro e w8 ⟨v, rfl, hv, hB8⟩
  obtain ⟨va, vl, vc, rfl⟩ := own_slice hv
  have hvl : vl = 1 := own_len hv
  subst hvl
  have HV := Lib.hid hv
  have HK8 := Lib.hid (HK7.out.below hB8 HK7.out.lt)
  have HB8 := Lib.hid (HB7.out.trans (hB8.mono HB7.out.size))
  clear hv hB8
  go_wp2_with (fail)
  refine (esame_calls [(5, 2112)] [(5, 2112)] _ _ _ w8.heap.size _ (by decide) (own_below HV.out ((Below.refl w8.heap.size w8).alloc (Nat.le_refl _) _)) (own_lit (C := (ecells [(5, 2112)]).toArray) (n := 1) (Blk.new w8 (ecells [(5, 2112)]).toArray 57) (by rfl) (by omega) (Nat.le_refl _))).mono ?_
  rintro e w9 ⟨rfl, hB9⟩
  have hB9' := ((Below.refl w8.heap.size w8).alloc (Nat.le_refl _) (.cells (ecells [(5, 2112)]).toArray 57)).trans (hB9.mono (by simp))
  have HK9 := Lib.hid (HK8.out.below hB9' HK8.out.lt)
  have HL9 := Lib.hid (ndLoad HK9.out)
  have HB9 := Lib.hid (HB8.out.trans (hB9'.mono HB8.out.size))
  have q1 : (([(5, 2112)] : List (Int × Int)) == [(5, 2112)]) = true := beq_self_eq_true _
  rw [q1]
  clear hB9 hB9' q1
  go_wp2_with (refine wpList_load_gd (o := ⟨some 50, .load 27 (.tmp 1), _, _, _, _⟩) 27 (.tmp 1) ?hoe b1 0 ?hxe (ndCells kB) _ HL9.out Tryd.underlying27 rfl HI7.out ?hwe ?_; (case hoe => rfl); (case hxe => rfl); (case hwe => rfl))
  refine (HIb.out _).mono ?_
  rintro e w10 ⟨rfl, hB10⟩
  have HB10 := Lib.hid (HB9.out.trans (hB10.mono HB9.out.size))
  clear hB10
  go_wp2_with (fail)
  go_ret
  exact ⟨rfl, HB10.out⟩
end Go.Proofs.YtkfpoekeofnglaaDoor
