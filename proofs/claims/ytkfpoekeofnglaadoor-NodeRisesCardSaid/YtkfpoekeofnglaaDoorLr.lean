/-
  The law NodeRises.
-/
import Derived.Test.YtkfpoekeofnglaaDoorKn
import Derived.Test.YtkfpoekeofnglaaDoorOn
namespace Go.Proofs.YtkfpoekeofnglaaDoor
open Go.RowKit

/-! ### keys rise from place to place -/
theorem plA_k (n : Nd) (j : Nat) (h : j < (plN n).length) : eK n.valid j = n.k (plA n j) := by
  unfold eK Nd.valid plA
  simp [List.getD, h]
theorem may_rise {n : Nd} {high : Int} {has : Bool} (h : n.mayB high has = true) : riseB n.lv n.lo n.fi n.valid = true := by
  unfold Nd.mayB at h
  simp only [Bool.and_eq_true] at h
  exact h.2.2
theorem rise_next {lv lo fi : Int} {l : List (Int × Int)} (h : riseB lv lo fi l = true) (i : Nat) (hi : i + 1 < l.length) : eK l i < eK l (i + 1) := by
  unfold riseB at h
  have h1 := List.all_eq_true.1 h (i + 1) (List.mem_range.2 hi)
  simp only [Bool.not_eq_true'] at h1
  unfold badAt at h1
  simp at h1
  omega
theorem rise_lt {lv lo fi : Int} {l : List (Int × Int)} (h : riseB lv lo fi l = true) : ∀ (d i : Nat), i + (d + 1) < l.length → eK l i < eK l (i + (d + 1))
  | 0, i, hi => rise_next h i hi
  | d + 1, i, hi => by
    have h1 := rise_lt h d i (by omega)
    have h2 := rise_next h (i + (d + 1)) (by omega)
    rw [show i + (d + 1 + 1) = i + (d + 1) + 1 by omega]
    omega
theorem valid_length (n : Nd) : n.valid.length = (plN n).length := by simp [Nd.valid]
theorem places_rise {n : Nd} {high : Int} {has : Bool} (h : n.mayB high has = true) {i j : Nat} (hi : i ∈ plN n) (hj : j ∈ plN n) (hij : i < j) : n.k i < n.k j := by
  obtain ⟨a, ha, rfl⟩ := plA_of n hi
  obtain ⟨b, hb, rfl⟩ := plA_of n hj
  have hab : a < b := by
    rcases Nat.lt_trichotomy a b with h1 | h1 | h1
    · exact h1
    · subst h1; omega
    · have := plA_mono n h1 ha; omega
  have := rise_lt (may_rise h) (b - a - 1) a (by rw [valid_length]; omega)
  rw [show a + (b - a - 1 + 1) = b by omega, plA_k n a ha, plA_k n b hb] at this
  exact this
theorem lastF_spec (t : Nat → Bool) : ∀ m, (∀ i, i < m → t i = true → (i : Int) ≤ lastF t m) ∧ (0 ≤ lastF t m → ∃ j : Nat, lastF t m = j ∧ j < m ∧ t j = true)
  | 0 => ⟨fun i hi => by omega, fun h => by simp [lastF] at h⟩
  | m + 1 => by
    obtain ⟨h1, h2⟩ := lastF_spec t m
    unfold lastF
    by_cases hm : t m = true
    · rw [if_pos hm]
      exact ⟨fun i hi _ => by omega, fun _ => ⟨m, rfl, by omega, hm⟩⟩
    · rw [if_neg hm]
      refine ⟨fun i hi ht => ?_, fun h => ?_⟩
      · rcases Nat.lt_succ_iff_lt_or_eq.1 hi with h | h
        · exact h1 i h ht
        · subst h; exact absurd ht hm
      · obtain ⟨j, e, hj, ht⟩ := h2 h
        exact ⟨j, e, by omega, ht⟩
theorem place_side {n : Nd} {high : Int} {has : Bool} (h : n.mayB high has = true) (key : Int) {i : Nat} (hi : i ∈ plN n) : ((i : Int) < n.last key + 1) ↔ n.k i ≤ key := by
  obtain ⟨s1, s2⟩ := lastF_spec (fun i => n.ok i && decide (n.k i ≤ key)) n.len
  have hm := (plN_mem n i).1 hi
  constructor
  · intro hlt
    have h0 : 0 ≤ n.last key := by omega
    obtain ⟨j, e, hj, ht⟩ := s2 h0
    simp only [Bool.and_eq_true, decide_eq_true_eq] at ht
    have hjm : j ∈ plN n := (plN_mem n j).2 ⟨hj, ht.1⟩
    have e' : n.last key = j := e
    by_cases hij : i = j
    · subst hij; exact ht.2
    · have := places_rise h hi hjm (by omega)
      omega
  · intro hk
    have := s1 i hm.1 (by simp only [Bool.and_eq_true, decide_eq_true_eq]; exact ⟨hm.2, hk⟩)
    have e' : (i : Int) ≤ n.last key := this
    omega
theorem find_last {n : Nd} {high : Int} {has : Bool} (h : n.mayB high has = true) (key : Int) (hf : 0 ≤ n.find key) : n.find key = n.last key + 1 - 1 := by
  rcases firstF_spec (fun i => n.ok i && (n.k i == key)) n.len 0 with ⟨e, _⟩ | ⟨j, e, _, h2, h3, _⟩
  · unfold Nd.find at hf; omega
  · simp only [Bool.and_eq_true, beq_iff_eq] at h3
    have hj : j ∈ plN n := (plN_mem n j).2 ⟨by omega, h3.1⟩
    have s := (place_side h key hj).2 (by omega)
    have e' : n.find key = j := e
    obtain ⟨s1, s2⟩ := lastF_spec (fun i => n.ok i && decide (n.k i ≤ key)) n.len
    have h0 : 0 ≤ n.last key := by omega
    obtain ⟨m, e2, hm, ht⟩ := s2 h0
    simp only [Bool.and_eq_true, decide_eq_true_eq] at ht
    have e2' : n.last key = m := e2
    by_cases hjm : j = m
    · omega
    · have := places_rise h hj ((plN_mem n m).2 ⟨hm, ht.1⟩) (by omega)
      omega

set_option maxRecDepth 100000 in
set_option maxHeartbeats 3200000 in
theorem rises_law (n : Nd) (key : Int) (w : World) (ht : Tens w) :
    Calls Tryd.prog 3 #[.agg (ndCells n), .int .u64 key] w fun e W' => e = .returned (.bool true) ∧ Below w.heap.size w W' := by
  have HI := Lib.hid (info27 n)
  have hk0 : Blk (w.alloc (.cells (ndCells n) 27)) w.heap.size (ndCells n) 27 := Blk.new w _ _
  have HK0 := Lib.hid hk0
  have HL0 := Lib.hid (ndLoad hk0)
  have HB0 := Lib.hid ((Below.refl w.heap.size w).alloc (Nat.le_refl _) (.cells (ndCells n) 27))
  have HT := Lib.hid ht
  have HRm := Lib.hid (fun w => rmay_calls n 0 false w)
  have HAt := Lib.hid (fun w => nat_calls n key w)
  have HPl := Lib.hid (fun w => places_calls n w)
  have HFd := Lib.hid (fun w => nfind_calls n key w)
  cases hm : n.mayB 0 false with
  | false =>
    rw [hm] at HRm
    clear hk0 ht hm
    go_enter Tryd.func3, Tryd.ntmps3
    go_wp2_with (with_reducible refine wpList_load_part (o := ⟨some 10, _, _, _, _, _⟩) rfl 27 _ rfl w.heap.size 0 rfl (ndCells n) _ HL0.out Tryd.underlying27 rfl HI.out ?_)
    refine (HRm.out _).mono ?_
    rintro e w1 ⟨rfl, hB⟩
    have hk1 := HK0.out.below hB HK0.out.lt
    have HK1 := Lib.hid hk1
    have HL1 := Lib.hid (ndLoad hk1)
    have HB1 := Lib.hid (HB0.out.trans (hB.mono HB0.out.size))
    clear hB hk1
    go_wp2_with (fail)
    refine (known_v _ (HT.out.below HB1.out)).mono ?_
    rintro e w2 ⟨rfl, hB⟩
    have hk2 := HK1.out.below hB HK1.out.lt
    have HK2 := Lib.hid hk2
    have HL2 := Lib.hid (ndLoad hk2)
    have HB2 := Lib.hid (HB1.out.trans (hB.mono HB1.out.size))
    clear hB hk2
    go_wp2_with (fail)
    go_ret
    exact ⟨rfl, HB2.out⟩
  | true =>
    rw [hm] at HRm
    have HSd := Lib.hid (fun (j : Nat) (hj : j < (plN n).length) => place_side hm key (plA_mem n j hj))
    have hfd : (∃ z, FindV n key = .tuple #[.int .i64 z, .bool false]) ∨ FindV n key = .tuple #[.int .i64 (n.last key + 1 - 1), .bool true] := by
      unfold FindV
      by_cases hf : n.find key < 0
      · rw [if_pos hf]; exact .inl ⟨_, rfl⟩
      · rw [if_neg hf, find_last hm key (by omega)]; exact .inr rfl
    obtain ⟨at_, hat⟩ : ∃ z, n.last key + 1 = z := ⟨_, rfl⟩
    have hab : 0 ≤ at_ ∧ at_ ≤ 8 := by have := last_ge n key; have := n.len_le; omega
    rw [hat] at HAt hfd
    have HSd2 := Lib.hid (show ∀ j, j < (plN n).length → (((plA n j : Nat) : Int) < at_ ↔ n.k (plA n j) ≤ key) from fun j hj => by rw [← hat]; exact HSd.out j hj)
    have HL8 := Lib.hid (plA_lt8 n)
    have HPL := Lib.hid (places_eq n)
    obtain ⟨ab1, ab2⟩ := hab
    clear hk0 ht hm hat HSd
    go_enter Tryd.func3, Tryd.ntmps3
    go_wp2_with (with_reducible refine wpList_load_part (o := ⟨some 10, _, _, _, _, _⟩) rfl 27 _ rfl w.heap.size 0 rfl (ndCells n) _ HL0.out Tryd.underlying27 rfl HI.out ?_)
    refine (HRm.out _).mono ?_
    rintro e w1 ⟨rfl, hB⟩
    have hk1 := HK0.out.below hB HK0.out.lt
    have HK1 := Lib.hid hk1
    have HL1 := Lib.hid (ndLoad hk1)
    have HB1 := Lib.hid (HB0.out.trans (hB.mono HB0.out.size))
    clear hB hk1
    go_wp2_with (with_reducible refine wpList_load_part (o := ⟨some 14, _, _, _, _, _⟩) rfl 27 _ rfl w.heap.size 0 rfl (ndCells n) _ HL1.out Tryd.underlying27 rfl HI.out ?_)
    refine (HAt.out _).mono ?_
    rintro e w2 ⟨rfl, hB⟩
    have hk2 := HK1.out.below hB HK1.out.lt
    have HK2 := Lib.hid hk2
    have HL2 := Lib.hid (ndLoad hk2)
    have HB2 := Lib.hid (HB1.out.trans (hB.mono HB1.out.size))
    clear hB hk2
    go_wp2_with (with_reducible refine wpList_load_part (o := ⟨some 17, _, _, _, _, _⟩) rfl 27 _ rfl w.heap.size 0 rfl (ndCells n) _ HL2.out Tryd.underlying27 rfl HI.out ?_)
    refine (HPl.out _).mono ?_
    rintro e w3 ⟨v, rfl, hv, hB⟩
    have hk3 := HK2.out.below hB HK2.out.lt
    have HK3 := Lib.hid hk3
    have HL3 := Lib.hid (ndLoad hk3)
    have HB3 := Lib.hid (HB2.out.trans (hB.mono HB2.out.size))
    clear hB hk3
    rw [HPL.out, List.length_map, List.map_map] at hv
    have hl8 := plN_len n
    rcases own_cases hv with ⟨h0, a, c, rfl⟩ | ⟨hpos, g, cap, rfl, hg1, hg2, hg3, hg4, hg5, hg6⟩
    · have HBe := HB3
      clear hv h0
      go_wp2_with (fail)
      refine wp_loop_rounds 1 ?_
      rw [rounds_succ]
      rcases hfd with ⟨z, hz⟩ | hz
      · rw [hz] at HFd
        clear hz
        go_wp2_with (with_reducible refine wpList_load_part (o := ⟨some 42, _, _, _, _, _⟩) rfl 27 _ rfl w.heap.size 0 rfl (ndCells n) _ HL3.out Tryd.underlying27 rfl HI.out ?_)
        refine (HFd.out _).mono ?_
        rintro e w5 ⟨rfl, hB⟩
        have HB5 := Lib.hid (HBe.out.trans (hB.mono HBe.out.size))
        clear hB
        go_wp2_with (fail)
        refine (known_v _ (HT.out.below HB5.out)).mono ?_
        rintro e w6 ⟨rfl, hB⟩
        have HB6 := Lib.hid (HB5.out.trans (hB.mono HB5.out.size))
        clear hB
        go_wp2_with (fail)
        go_ret
        exact ⟨rfl, HB6.out⟩
      · rw [hz] at HFd
        have q1 : (at_ - 1 == at_ - 1) = true := beq_self_eq_true _
        clear hz
        go_wp2_with (with_reducible refine wpList_load_part (o := ⟨some 42, _, _, _, _, _⟩) rfl 27 _ rfl w.heap.size 0 rfl (ndCells n) _ HL3.out Tryd.underlying27 rfl HI.out ?_)
        refine (HFd.out _).mono ?_
        rintro e w5 ⟨rfl, hB⟩
        have HB5 := Lib.hid (HBe.out.trans (hB.mono HBe.out.size))
        clear hB
        go_wp2_with (fail)
        refine (known_v _ (HT.out.below HB5.out)).mono ?_
        rintro e w6 ⟨rfl, hB⟩
        have HB6 := Lib.hid (HB5.out.trans (hB.mono HB5.out.size))
        clear hB
        go_wp2_with (fail)
        go_ret
        exact ⟨rfl, HB6.out⟩
    · have HG := Lib.hid hg5
      clear hv hg5 hg6
      go_wp2_with (fail)
      go_loopw [7] (fun iv wr => ∃ k : Nat, k ≤ (plN n).length ∧ iv = .int .i64 k ∧ Hid (Below w3.heap.size w3 wr)) (fun iv _ => (plN n).length - (intOf iv).toNat)
      case atStart => exact ⟨0, Nat.zero_le _, rfl, Lib.hid (Below.refl _ _)⟩
      case round =>
        obtain ⟨k, hk, rfl, HBr⟩ := hrel
        by_cases hlt : k < (plN n).length
        · have cv : wr.cell? ⟨g, k, none⟩ = some (.int .i64 ((plA n k : Nat) : Int)) := by
            rw [HBr.out.cell (p := ⟨g, k, none⟩) hg2, HG.out k hlt]; unfold plA; simp [hlt]
          have hj8 := HL8.out k hlt
          have hside := HSd2.out k hlt
          obtain ⟨j, hj⟩ : ∃ j, plA n k = j := ⟨_, rfl⟩
          rw [hj] at cv hj8 hside
          have hb : Blk wr w.heap.size (ndCells n) 27 := HK3.out.below HBr.out HK3.out.lt
          have ck : wr.cell? ⟨w.heap.size, 5 + j, none⟩ = some (.int .u64 (n.k j)) := by rw [hb.cell, ndCells_k n j hj8]
          obtain ⟨y, hy⟩ : ∃ y, n.k j = y := ⟨_, rfl⟩
          rw [hy] at ck hside
          have b1 : (j : Int) < 8 := by omega
          have b2 : (k : Int) < ((plN n).length : Int) := by omega
          have b3 : ((k : Int)).toNat = k := by omega
          have b4 : ((j : Int)).toNat = j := by omega
          clear hj hy hb
          by_cases hs : (j : Int) < at_
          · have d1 : decide ((j : Int) < at_) = true := decide_eq_true hs
            have d2 : decide (y ≤ key) = true := decide_eq_true (hside.1 hs)
            clear hside hs
            go_wp2_with (fail)
            go_quiet (fail)
            have HBn := Lib.hid (below_drewN HBr.out nq)
            go_wp2_with (fail)
            go_roundw
            case rel => exact ⟨k + 1, by omega, by go_num, HBn⟩
            case measure => simp [intOf]; omega
          · have d1 : decide ((j : Int) < at_) = false := decide_eq_false hs
            have d2 : decide (y ≤ key) = false := decide_eq_false (fun h => hs (hside.2 h))
            clear hside hs
            go_wp2_with (fail)
            go_quiet (fail)
            have HBn := Lib.hid (below_drewN HBr.out nq)
            go_wp2_with (fail)
            go_roundw
            case rel => exact ⟨k + 1, by omega, by go_num, HBn⟩
            case measure => simp [intOf]; omega
        · have HBe := Lib.hid (HB3.out.trans (HBr.out.mono HB3.out.size))
          have HL4 := Lib.hid (ndLoad (HK3.out.below HBr.out HK3.out.lt))
          rcases hfd with ⟨z, hz⟩ | hz
          · rw [hz] at HFd
            clear hz
            go_wp2_with (with_reducible refine wpList_load_part (o := ⟨some 42, _, _, _, _, _⟩) rfl 27 _ rfl w.heap.size 0 rfl (ndCells n) _ HL4.out Tryd.underlying27 rfl HI.out ?_)
            refine (HFd.out _).mono ?_
            rintro e w5 ⟨rfl, hB⟩
            have HB5 := Lib.hid (HBe.out.trans (hB.mono HBe.out.size))
            clear hB
            go_wp2_with (fail)
            refine (known_v _ (HT.out.below HB5.out)).mono ?_
            rintro e w6 ⟨rfl, hB⟩
            have HB6 := Lib.hid (HB5.out.trans (hB.mono HB5.out.size))
            clear hB
            go_wp2_with (fail)
            go_ret
            exact ⟨rfl, HB6.out⟩
          · rw [hz] at HFd
            have q1 : (at_ - 1 == at_ - 1) = true := beq_self_eq_true _
            clear hz
            go_wp2_with (with_reducible refine wpList_load_part (o := ⟨some 42, _, _, _, _, _⟩) rfl 27 _ rfl w.heap.size 0 rfl (ndCells n) _ HL4.out Tryd.underlying27 rfl HI.out ?_)
            refine (HFd.out _).mono ?_
            rintro e w5 ⟨rfl, hB⟩
            have HB5 := Lib.hid (HBe.out.trans (hB.mono HBe.out.size))
            clear hB
            go_wp2_with (fail)
            refine (known_v _ (HT.out.below HB5.out)).mono ?_
            rintro e w6 ⟨rfl, hB⟩
            have HB6 := Lib.hid (HB5.out.trans (hB.mono HB5.out.size))
            clear hB
            go_wp2_with (fail)
            go_ret
            exact ⟨rfl, HB6.out⟩
end Go.Proofs.YtkfpoekeofnglaaDoor
