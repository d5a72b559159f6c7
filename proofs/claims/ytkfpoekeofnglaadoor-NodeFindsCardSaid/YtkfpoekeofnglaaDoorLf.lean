/-
  The law NodeFinds.
-/
import Derived.Test.YtkfpoekeofnglaaDoorKn
namespace Go.Proofs.YtkfpoekeofnglaaDoor
open Go.RowKit

def Nd.child (n : Nd) (key : Int) : Int := if 0 ≤ n.last key then n.p (n.last key).toNat else n.fi
set_option maxRecDepth 100000 in
set_option maxHeartbeats 1600000 in
theorem child_calls (n : Nd) (key : Int) (w : World) :
    Calls Tryd.prog 26 #[.agg (ndCells n), .int .u64 key] w fun e W' => e = .returned (.int .u64 (n.child key)) ∧ Below w.heap.size w W' := by
  have HI := Lib.hid (info27 n)
  have hk0 : Blk (w.alloc (.cells (ndCells n) 27)) w.heap.size (ndCells n) 27 := Blk.new w _ _
  have HK0 := Lib.hid hk0
  have HL0 := Lib.hid (ndLoad hk0)
  have HB0 := Lib.hid ((Below.refl w.heap.size w).alloc (Nat.le_refl _) (.cells (ndCells n) 27))
  have HLs := Lib.hid (fun w => nlast_calls n key w)
  have hg := last_ge n key
  have hn8 := n.len_le
  have HC := Lib.hid (show n.child key = if 0 ≤ n.last key then n.p (n.last key).toNat else n.fi from rfl)
  obtain ⟨r, hr⟩ : ∃ r, n.last key = r := ⟨_, rfl⟩
  rw [hr] at HLs hg HC
  clear hk0 hr
  by_cases h0 : 0 ≤ r
  · obtain ⟨j, rfl⟩ := Int.eq_ofNat_of_zero_le h0
    have hj8 : j < 8 := by omega
    have b1 : (j : Int) < 8 := by omega
    rw [if_pos h0, Int.toNat_natCast] at HC
    clear hg hn8
    go_enter Tryd.func26, Tryd.ntmps26
    go_wp2_with (with_reducible refine wpList_load_part (o := ⟨some 6, _, _, _, _, _⟩) rfl 27 _ rfl w.heap.size 0 rfl (ndCells n) _ HL0.out Tryd.underlying27 rfl HI.out ?_)
    refine (HLs.out _).mono ?_
    rintro e w1 ⟨rfl, hB⟩
    have hk1 := HK0.out.below hB HK0.out.lt
    have cp : w1.cell? ⟨w.heap.size, 13 + j, none⟩ = some (.int .u64 (n.p j)) := by rw [hk1.cell, ndCells_p n j hj8]
    have HB1 := Lib.hid (HB0.out.trans (hB.mono HB0.out.size))
    clear hB hk1
    go_wp2_with (fail)
    go_ret
    exact ⟨by rw [HC.out]; rfl, HB1.out⟩
  · rw [if_neg h0] at HC
    have h0' : decide ((0 : Int) ≤ r) = false := decide_eq_false h0
    clear hg hn8
    go_enter Tryd.func26, Tryd.ntmps26
    go_wp2_with (with_reducible refine wpList_load_part (o := ⟨some 6, _, _, _, _, _⟩) rfl 27 _ rfl w.heap.size 0 rfl (ndCells n) _ HL0.out Tryd.underlying27 rfl HI.out ?_)
    refine (HLs.out _).mono ?_
    rintro e w1 ⟨rfl, hB⟩
    have hk1 := HK0.out.below hB HK0.out.lt
    have c4 : w1.cell? ⟨w.heap.size, 4, none⟩ = some (.int .u64 n.fi) := by rw [hk1.cell, ndCells_4]
    have HB1 := Lib.hid (HB0.out.trans (hB.mono HB0.out.size))
    clear hB hk1
    go_wp2_with (fail)
    go_ret
    exact ⟨by rw [HC.out]; rfl, HB1.out⟩

set_option maxRecDepth 100000 in
set_option maxHeartbeats 3200000 in
theorem finds_law (n : Nd) (key : Int) (w : World) (ht : Tens w) :
    Calls Tryd.prog 6 #[.agg (ndCells n), .int .u64 key] w fun e W' => e = .returned (.bool true) ∧ Below w.heap.size w W' := by
  have HI := Lib.hid (info27 n)
  have hk0 : Blk (w.alloc (.cells (ndCells n) 27)) w.heap.size (ndCells n) 27 := Blk.new w _ _
  have HK0 := Lib.hid hk0
  have HL0 := Lib.hid (ndLoad hk0)
  have HB0 := Lib.hid ((Below.refl w.heap.size w).alloc (Nat.le_refl _) (.cells (ndCells n) 27))
  have HT := Lib.hid ht
  have HFd := Lib.hid (fun w => nfind_calls n key w)
  have HRf := Lib.hid (fun w => rfind_calls n key w)
  have HRl := Lib.hid (fun w => rlast_calls n key w)
  have HAt := Lib.hid (fun w => nat_calls n key w)
  have HCh := Lib.hid (fun w => child_calls n key w)
  have hg := last_ge n key
  have hn8 := n.len_le
  have hcase : (∃ j : Nat, n.last key = j ∧ j < 8 ∧ n.child key = n.p j) ∨ (¬ 0 ≤ n.last key ∧ n.child key = n.fi) := by
    by_cases h0 : 0 ≤ n.last key
    · obtain ⟨j, hj⟩ := Int.eq_ofNat_of_zero_le h0
      exact .inl ⟨j, hj, by omega, by unfold Nd.child; rw [if_pos h0, hj]; rfl⟩
    · exact .inr ⟨h0, by unfold Nd.child; rw [if_neg h0]⟩
  obtain ⟨r, hr⟩ : ∃ r, n.last key = r := ⟨_, rfl⟩
  rw [hr] at HRl HAt hg hcase
  by_cases hf : n.find key < 0
  · rw [show FindV n key = .tuple #[.int .i64 0, .bool false] by unfold FindV; rw [if_pos hf]] at HFd
    obtain ⟨f, hfe⟩ : ∃ f, n.find key = f := ⟨_, rfl⟩
    rw [hfe] at HRf hf
    have hd1 : decide ((0 : Int) ≤ f) = false := decide_eq_false (by omega)
    clear hk0 ht hr hfe
    go_enter Tryd.func6, Tryd.ntmps6
    go_wp2_with (with_reducible refine wpList_load_part (o := ⟨some 11, _, _, _, _, _⟩) rfl 27 _ rfl w.heap.size 0 rfl (ndCells n) _ HL0.out Tryd.underlying27 rfl HI.out ?_)
    refine (HFd.out _).mono ?_
    rintro e w1 ⟨rfl, hB⟩
    have hk1 := HK0.out.below hB HK0.out.lt
    have HK1 := Lib.hid hk1
    have HL1 := Lib.hid (ndLoad hk1)
    have HB1 := Lib.hid (HB0.out.trans (hB.mono HB0.out.size))
    clear hB hk1
    go_wp2_with (with_reducible refine wpList_load_part (o := ⟨some 16, _, _, _, _, _⟩) rfl 27 _ rfl w.heap.size 0 rfl (ndCells n) _ HL1.out Tryd.underlying27 rfl HI.out ?_)
    refine (HRf.out _).mono ?_
    rintro e w2 ⟨rfl, hB⟩
    have hk2 := HK1.out.below hB HK1.out.lt
    have HK2 := Lib.hid hk2
    have HL2 := Lib.hid (ndLoad hk2)
    have HB2 := Lib.hid (HB1.out.trans (hB.mono HB1.out.size))
    clear hB hk2
    go_wp2_with (with_reducible refine wpList_load_part (o := ⟨some 39, _, _, _, _, _⟩) rfl 27 _ rfl w.heap.size 0 rfl (ndCells n) _ HL2.out Tryd.underlying27 rfl HI.out ?_)
    refine (HRl.out _).mono ?_
    rintro e w3 ⟨rfl, hB⟩
    have hk3 := HK2.out.below hB HK2.out.lt
    have HK3 := Lib.hid hk3
    have HL3 := Lib.hid (ndLoad hk3)
    have HB3 := Lib.hid (HB2.out.trans (hB.mono HB2.out.size))
    clear hB hk3
    have c4 : w3.cell? ⟨w.heap.size, 4, none⟩ = some (.int .u64 n.fi) := by rw [HK3.out.cell, ndCells_4]
    rcases hcase with ⟨j, rfl, hj8, hcj⟩ | ⟨hneg, hcf⟩
    · have cp : w3.cell? ⟨w.heap.size, 13 + j, none⟩ = some (.int .u64 (n.p j)) := by rw [HK3.out.cell, ndCells_p n j hj8]
      have b1 : (j : Int) < 8 := by omega
      rw [hcj] at HCh
      go_wp2_with (with_reducible refine wpList_load_part (o := ⟨some 50, _, _, _, _, _⟩) rfl 27 _ rfl w.heap.size 0 rfl (ndCells n) _ HL3.out Tryd.underlying27 rfl HI.out ?_)
      refine (HAt.out _).mono ?_
      rintro e w4 ⟨rfl, hB⟩
      have hk4 := HK3.out.below hB HK3.out.lt
      have HK4 := Lib.hid hk4
      have HL4 := Lib.hid (ndLoad hk4)
      have HB4 := Lib.hid (HB3.out.trans (hB.mono HB3.out.size))
      clear hB hk4
      have q1 : (((j : Int) + 1) == ((j : Int) + 1)) = true := beq_self_eq_true _
      have q2 : (n.p j == n.p j) = true := beq_self_eq_true _
      go_wp2_with (refine wpList_load_gd (o := ⟨some 57, .load 27 (.tmp 2), _, _, _, _⟩) 27 (.tmp 2) ?hoa w.heap.size 0 ?hxa (ndCells n) _ HL4.out Tryd.underlying27 rfl HI.out ?hwa ?_; (case hoa => rfl); (case hxa => rfl); (case hwa => rfl))
      refine (HCh.out _).mono ?_
      rintro e w5 ⟨rfl, hB⟩
      have hk5 := HK4.out.below hB HK4.out.lt
      have HK5 := Lib.hid hk5
      have HL5 := Lib.hid (ndLoad hk5)
      have HB5 := Lib.hid (HB4.out.trans (hB.mono HB4.out.size))
      clear hB hk5
      go_wp2_with (fail)
      refine (known_v _ (HT.out.below HB5.out)).mono ?_
      rintro e w6 ⟨rfl, hB⟩
      have hk6 := HK5.out.below hB HK5.out.lt
      have HK6 := Lib.hid hk6
      have HL6 := Lib.hid (ndLoad hk6)
      have HB6 := Lib.hid (HB5.out.trans (hB.mono HB5.out.size))
      clear hB hk6
      go_wp2_with (fail)
      go_ret
      exact ⟨rfl, HB6.out⟩
    · have hd : decide ((0 : Int) ≤ r) = false := decide_eq_false (by omega)
      rw [hcf] at HCh
      go_wp2_with (with_reducible refine wpList_load_part (o := ⟨some 50, _, _, _, _, _⟩) rfl 27 _ rfl w.heap.size 0 rfl (ndCells n) _ HL3.out Tryd.underlying27 rfl HI.out ?_)
      refine (HAt.out _).mono ?_
      rintro e w4 ⟨rfl, hB⟩
      have hk4 := HK3.out.below hB HK3.out.lt
      have HK4 := Lib.hid hk4
      have HL4 := Lib.hid (ndLoad hk4)
      have HB4 := Lib.hid (HB3.out.trans (hB.mono HB3.out.size))
      clear hB hk4
      have q1 : ((r + 1) == (r + 1)) = true := beq_self_eq_true _
      have q2 : (n.fi == n.fi) = true := beq_self_eq_true _
      go_wp2_with (refine wpList_load_gd (o := ⟨some 57, .load 27 (.tmp 2), _, _, _, _⟩) 27 (.tmp 2) ?hob w.heap.size 0 ?hxb (ndCells n) _ HL4.out Tryd.underlying27 rfl HI.out ?hwb ?_; (case hob => rfl); (case hxb => rfl); (case hwb => rfl))
      refine (HCh.out _).mono ?_
      rintro e w5 ⟨rfl, hB⟩
      have hk5 := HK4.out.below hB HK4.out.lt
      have HK5 := Lib.hid hk5
      have HL5 := Lib.hid (ndLoad hk5)
      have HB5 := Lib.hid (HB4.out.trans (hB.mono HB4.out.size))
      clear hB hk5
      go_wp2_with (fail)
      refine (known_v _ (HT.out.below HB5.out)).mono ?_
      rintro e w6 ⟨rfl, hB⟩
      have hk6 := HK5.out.below hB HK5.out.lt
      have HK6 := Lib.hid hk6
      have HL6 := Lib.hid (ndLoad hk6)
      have HB6 := Lib.hid (HB5.out.trans (hB.mono HB5.out.size))
      clear hB hk6
      go_wp2_with (fail)
      go_ret
      exact ⟨rfl, HB6.out⟩
  · rw [show FindV n key = .tuple #[.int .i64 (n.find key), .bool true] by unfold FindV; rw [if_neg hf]] at HFd
    obtain ⟨f, hfe⟩ : ∃ f, n.find key = f := ⟨_, rfl⟩
    rw [hfe] at HRf HFd hf
    have hd1 : decide ((0 : Int) ≤ f) = true := decide_eq_true (by omega)
    have hd2 : (f != f) = false := by simp
    clear hk0 ht hr hfe
    go_enter Tryd.func6, Tryd.ntmps6
    go_wp2_with (with_reducible refine wpList_load_part (o := ⟨some 11, _, _, _, _, _⟩) rfl 27 _ rfl w.heap.size 0 rfl (ndCells n) _ HL0.out Tryd.underlying27 rfl HI.out ?_)
    refine (HFd.out _).mono ?_
    rintro e w1 ⟨rfl, hB⟩
    have hk1 := HK0.out.below hB HK0.out.lt
    have HK1 := Lib.hid hk1
    have HL1 := Lib.hid (ndLoad hk1)
    have HB1 := Lib.hid (HB0.out.trans (hB.mono HB0.out.size))
    clear hB hk1
    go_wp2_with (with_reducible refine wpList_load_part (o := ⟨some 16, _, _, _, _, _⟩) rfl 27 _ rfl w.heap.size 0 rfl (ndCells n) _ HL1.out Tryd.underlying27 rfl HI.out ?_)
    refine (HRf.out _).mono ?_
    rintro e w2 ⟨rfl, hB⟩
    have hk2 := HK1.out.below hB HK1.out.lt
    have HK2 := Lib.hid hk2
    have HL2 := Lib.hid (ndLoad hk2)
    have HB2 := Lib.hid (HB1.out.trans (hB.mono HB1.out.size))
    clear hB hk2
    go_wp2_with (with_reducible refine wpList_load_part (o := ⟨some 39, _, _, _, _, _⟩) rfl 27 _ rfl w.heap.size 0 rfl (ndCells n) _ HL2.out Tryd.underlying27 rfl HI.out ?_)
    refine (HRl.out _).mono ?_
    rintro e w3 ⟨rfl, hB⟩
    have hk3 := HK2.out.below hB HK2.out.lt
    have HK3 := Lib.hid hk3
    have HL3 := Lib.hid (ndLoad hk3)
    have HB3 := Lib.hid (HB2.out.trans (hB.mono HB2.out.size))
    clear hB hk3
    have c4 : w3.cell? ⟨w.heap.size, 4, none⟩ = some (.int .u64 n.fi) := by rw [HK3.out.cell, ndCells_4]
    rcases hcase with ⟨j, rfl, hj8, hcj⟩ | ⟨hneg, hcf⟩
    · have cp : w3.cell? ⟨w.heap.size, 13 + j, none⟩ = some (.int .u64 (n.p j)) := by rw [HK3.out.cell, ndCells_p n j hj8]
      have b1 : (j : Int) < 8 := by omega
      rw [hcj] at HCh
      go_wp2_with (with_reducible refine wpList_load_part (o := ⟨some 50, _, _, _, _, _⟩) rfl 27 _ rfl w.heap.size 0 rfl (ndCells n) _ HL3.out Tryd.underlying27 rfl HI.out ?_)
      refine (HAt.out _).mono ?_
      rintro e w4 ⟨rfl, hB⟩
      have hk4 := HK3.out.below hB HK3.out.lt
      have HK4 := Lib.hid hk4
      have HL4 := Lib.hid (ndLoad hk4)
      have HB4 := Lib.hid (HB3.out.trans (hB.mono HB3.out.size))
      clear hB hk4
      have q1 : (((j : Int) + 1) == ((j : Int) + 1)) = true := beq_self_eq_true _
      have q2 : (n.p j == n.p j) = true := beq_self_eq_true _
      go_wp2_with (refine wpList_load_gd (o := ⟨some 57, .load 27 (.tmp 2), _, _, _, _⟩) 27 (.tmp 2) ?hoc w.heap.size 0 ?hxc (ndCells n) _ HL4.out Tryd.underlying27 rfl HI.out ?hwc ?_; (case hoc => rfl); (case hxc => rfl); (case hwc => rfl))
      refine (HCh.out _).mono ?_
      rintro e w5 ⟨rfl, hB⟩
      have hk5 := HK4.out.below hB HK4.out.lt
      have HK5 := Lib.hid hk5
      have HL5 := Lib.hid (ndLoad hk5)
      have HB5 := Lib.hid (HB4.out.trans (hB.mono HB4.out.size))
      clear hB hk5
      go_wp2_with (fail)
      refine (known_v _ (HT.out.below HB5.out)).mono ?_
      rintro e w6 ⟨rfl, hB⟩
      have hk6 := HK5.out.below hB HK5.out.lt
      have HK6 := Lib.hid hk6
      have HL6 := Lib.hid (ndLoad hk6)
      have HB6 := Lib.hid (HB5.out.trans (hB.mono HB5.out.size))
      clear hB hk6
      go_wp2_with (fail)
      go_ret
      exact ⟨rfl, HB6.out⟩
    · have hd : decide ((0 : Int) ≤ r) = false := decide_eq_false (by omega)
      rw [hcf] at HCh
      go_wp2_with (with_reducible refine wpList_load_part (o := ⟨some 50, _, _, _, _, _⟩) rfl 27 _ rfl w.heap.size 0 rfl (ndCells n) _ HL3.out Tryd.underlying27 rfl HI.out ?_)
      refine (HAt.out _).mono ?_
      rintro e w4 ⟨rfl, hB⟩
      have hk4 := HK3.out.below hB HK3.out.lt
      have HK4 := Lib.hid hk4
      have HL4 := Lib.hid (ndLoad hk4)
      have HB4 := Lib.hid (HB3.out.trans (hB.mono HB3.out.size))
      clear hB hk4
      have q1 : ((r + 1) == (r + 1)) = true := beq_self_eq_true _
      have q2 : (n.fi == n.fi) = true := beq_self_eq_true _
      go_wp2_with (refine wpList_load_gd (o := ⟨some 57, .load 27 (.tmp 2), _, _, _, _⟩) 27 (.tmp 2) ?hod w.heap.size 0 ?hxd (ndCells n) _ HL4.out Tryd.underlying27 rfl HI.out ?hwd ?_; (case hod => rfl); (case hxd => rfl); (case hwd => rfl))
      refine (HCh.out _).mono ?_
      rintro e w5 ⟨rfl, hB⟩
      have hk5 := HK4.out.below hB HK4.out.lt
      have HK5 := Lib.hid hk5
      have HL5 := Lib.hid (ndLoad hk5)
      have HB5 := Lib.hid (HB4.out.trans (hB.mono HB4.out.size))
      clear hB hk5
      go_wp2_with (fail)
      refine (known_v _ (HT.out.below HB5.out)).mono ?_
      rintro e w6 ⟨rfl, hB⟩
      have hk6 := HK5.out.below hB HK5.out.lt
      have HK6 := Lib.hid hk6
      have HL6 := Lib.hid (ndLoad hk6)
      have HB6 := Lib.hid (HB5.out.trans (hB.mono HB5.out.size))
      clear hB hk6
      go_wp2_with (fail)
      go_ret
      exact ⟨rfl, HB6.out⟩
end Go.Proofs.YtkfpoekeofnglaaDoor
