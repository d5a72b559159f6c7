/-
  THE BYTES OF WORDS (pmem.bytes; pmem.Mem.Image, View): contracts.
-/
import Derived.Test.YticgfnnmjcjnjaaMn
import Derived.Test.YticgfnnmjcjnjaaUl
namespace Go.Proofs.Yticgfnnmjcjnjaa
open Go.RowKit Go.Shelf
attribute [local go_sem] Oper.semAt_some
set_option linter.unusedVariables false

def putK (n : Int) (k : Nat) : List UInt8 := (List.range k).map (byteN n)
theorem putK_len (n : Int) (k : Nat) : (putK n k).length = k := by simp [putK]
theorem putK_succ (n : Int) (k : Nat) : putK n (k + 1) = putK n k ++ [byteN n k] := by simp [putK, List.range_succ]
set_option maxRecDepth 100000 in
set_option maxHeartbeats 40000000 in
theorem pbytes_v (l : List Int) (g o cap : Nat) (hl : l.length ≤ 1000000) (hu : U64s l) (w : World) (hp : 0 < l.length) (hw : WordsAt w g o l) :
    Calls Try.prog 19 #[.slice (some ⟨g, o, none⟩) l.length cap] w fun e w' => ∃ v, e = .returned v ∧ w'.ownsRow w.heap.size 5 1 v (bytesW l).length (bvals (bytesW l)) ∧ Below w.heap.size w w' := by
  obtain ⟨i0, hi, hz0, hz1, hz2⟩ := info_parts Try.infoB
  have hg : g < w.heap.size := World.block_lt_of_cell? w ⟨g, o + 0, none⟩ (hw 0 hp)
  have HW := Lib.hid hw
  have HU := Lib.hid hu
  have q8 : IntKind.i64.wrap (8 * (l.length : Int)) = 8 * (l.length : Int) := IntWalk.i64_in _ (by omega)
  clear hw hu
  go_enter Try.func19, Try.ntmps19
  go_wp2_with (refine wpList_make_own _ rfl _ _ _ rfl w.heap.size 5 i0 (.int .u8 0) 1 Try.underlying29 hi hz0 hz1 .i64 .i64 (8 * (l.length : Int)) (8 * l.length) rfl rfl (by omega) (by rw [hz2]; omega) (by unfold maxLen; omega) (Nat.le_refl _) ?_; intro w1 hown hgrow)
  have HO := Lib.hid hown
  have HB1 := Lib.hid ((Below.refl w.heap.size w).grown hgrow (Nat.le_refl _) (fun r e => by cases e))
  clear hown hgrow
  go_wp2_with (fail)
  go_loopw [3, 12] (fun ov iv wr => ∃ k : Nat, k ≤ l.length ∧ iv = .int .i64 k ∧ wr.ownsRow w.heap.size 5 1 ov (bytesW (l.take k)).length (bvals (bytesW (l.take k))) ∧ Below w.heap.size w wr) (fun _ iv _ => l.length - (intOf iv).toNat)
  case atStart => exact ⟨0, by omega, rfl, HO.out, HB1.out⟩
  case round =>
    obtain ⟨k, hk, rfl, hown, hB⟩ := hrel
    have HOw := Lib.hid hown
    have HB := Lib.hid hB
    by_cases hlt : k < l.length
    · have hc := HW.out.below hB hg k hlt
      obtain ⟨x, hx⟩ : ∃ x, l[k] = x := ⟨_, rfl⟩
      rw [hx] at hc
      have hxu := HU.out x (by rw [← hx]; exact List.getElem_mem _)
      have HS := Lib.hid (show bytesW (l.take (k + 1)) = bytesW (l.take k) ++ putB x by rw [List.take_succ_eq_append_getElem hlt, bytesW_snoc, hx])
      have hbl : (bytesW (l.take k)).length = 8 * k := by rw [bytesW_len, List.length_take]; omega
      obtain ⟨B0, hB0⟩ : ∃ B0, bytesW (l.take k) = B0 := ⟨_, rfl⟩
      rw [hB0] at HOw HS hbl
      have HL := Lib.hid hbl
      have HLT := Lib.hid hlt
      have hkb : (k : Int) < (l.length : Int) := by omega
      obtain ⟨m, rfl⟩ := Int.eq_ofNat_of_zero_le hxu.1
      have hm2 : m ≤ 18446744073709551615 := by omega
      clear hx hbl hxu hown hB hB0 hlt
      go_wp2_with (fail)
      go_loopw [3, 5, 16] (fun ov xv jv wr => ∃ j : Nat, j ≤ 8 ∧ jv = .int .i64 j ∧ xv = .int .u64 ((m / 256 ^ j : Nat) : Int) ∧ wr.ownsRow w.heap.size 5 1 ov (B0 ++ putK m j).length (bvals (B0 ++ putK m j)) ∧ Below w.heap.size w wr) (fun _ _ jv _ => 8 - (intOf jv).toNat)
      case atStart => exact ⟨0, by omega, rfl, by simp, by rw [show putK m 0 = [] from rfl, List.append_nil]; exact HOw.out, HB.out⟩
      case round =>
        obtain ⟨j, hj, rfl, rfl, hown, hB⟩ := hrel
        have HOw2 := Lib.hid hown
        have HB2 := Lib.hid hB
        have hsz := hB.size
        clear hown hB
        by_cases hlt : j < 8
        · have hq : ((m / 256 ^ j : Nat) : Int) ≤ 18446744073709551615 := by
            have := Nat.div_le_self m (256 ^ j); omega
          have hjb : (j : Int) < 8 := by omega
          obtain ⟨x, hx⟩ : ∃ x : Nat, m / 256 ^ j = x := ⟨_, rfl⟩
          rw [hx] at hq ⊢
          have HM := Lib.hid (show (x : Int) % 256 = ((byteN m j).toNat : Int) by rw [← hx]; exact byteN_mod m j)
          have HD := Lib.hid (show x / 256 = m / 256 ^ (j + 1) by rw [← hx]; exact div_step m j)
          have HLT2 := Lib.hid hlt
          have hbn : (B0 ++ putK m j).length = 8 * k + j := by rw [List.length_append, putK_len, HL.out]
          have HBN := Lib.hid hbn
          clear hx hlt hbn
          go_wp2_with (at_builtin; refine wpList_append_own _ rfl _ _ 29 rfl w.heap.size 5 i0 (.int .u8 0) 1 1 Try.underlying29 hi hz0 hz1 hz2 rfl (by decide) _ _ _ rfl (HOw2.out.alloc _) ⟨wr.heap.size, 0, none⟩ 1 1 [.int .u8 ((x : Int) % 256)] rfl rfl (cell_one_new _ _ _) (ints_oneCell .u8 [(x : Int) % 256]) (by rw [HBN.out]; have := HLT.out; have := HLT2.out; unfold maxLen; omega) (by rw [HBN.out]; have := HLT.out; have := HLT2.out; omega) (by simp; omega) ?_)
          intro v' w6 hown' hgrow hnil
          have HO6 := Lib.hid hown'
          have HB6 := Lib.hid ((HB2.out.alloc hsz (.cells #[.int .u8 ((x : Int) % 256)] 5)).grown hgrow (by simp; omega) (fun r e => own_base HOw2.out _ e))
          clear hown' hgrow hnil
          go_wp2_with (fail)
          go_roundw
          case rel => exact ⟨j + 1, by have := HLT2.out; omega, by go_num, by rw [← HD.out]; rfl, by
            have := HO6.out
            rw [HM.out] at this
            rw [putK_succ, ← List.append_assoc, List.length_append]
            rw [show bvals (B0 ++ putK m j ++ [byteN m j]) = bvals (B0 ++ putK m j) ++ [Value.int .u8 ((byteN m j).toNat : Int)] by simp [bvals]]
            rw [List.length_append]; exact this, HB6.out⟩
          case measure => simp [intOf]; omega
        · obtain rfl : j = 8 := by omega
          go_wp2_with (fail)
          go_roundw
          case rel => exact ⟨k + 1, HLT.out, by go_num, by rw [HS.out]; exact HOw2.out, HB2.out⟩
          case measure => have := HLT.out; simp [intOf]; omega
    · have hk2 : l.take k = l := List.take_of_length_le (by omega)
      rw [hk2] at HOw
      clear hk2 hown
      go_wp2_with (fail)
      go_ret
      exact ⟨_, rfl, HOw.out, hB⟩
theorem blk_row {w : World} {B : Nat} {v : Value} {l : List Int} (h : w.ownsRow B 35 1 v l.length (l.map (Value.int .u64))) (hp : 0 < l.length) : ∃ g c, v = .slice (some ⟨g, 0, none⟩) l.length c ∧ WordsAt w g 0 l := by
  rcases RowAt.of_own h with ⟨rfl, _⟩ | ⟨_, g, o, c, e, _, _, hw⟩
  · exact absurd hp (by simp)
  · obtain ⟨_, ⟨_, h0⟩ | ⟨g', cap, cur, hv, hb, hh, _⟩⟩ := h
    · omega
    · rw [hv] at e; cases e
      exact ⟨_, _, hv, hw⟩
set_option maxRecDepth 100000 in
theorem image_v (w : World) (b : Nat) (vs is : List Int) (vv vi : Value) (ml : Nat) (lo st fl fe : Int) (h : MemB w b vs is vv vi ml lo st fl fe) (hp : 0 < vs.length) (hpi : 0 < is.length) (hn : is.length ≤ 1000000) (hu : U64s is) :
    Calls Try.prog 9 #[.pointer (some ⟨b, 0, none⟩)] w fun e w' => ∃ v, e = .returned v ∧ w'.ownsRow w.heap.size 5 1 v (bytesW is).length (bvals (bytesW is)) ∧ Below w.heap.size w w' := by
  have HTh := Lib.hid (mthere_v w b vs is vv vi ml lo st fl fe h hp)
  have c1 : w.cell? ⟨b, 1, none⟩ = some vi := h.c 1
  obtain ⟨g, c, rfl, hw⟩ := blk_row h.i hpi
  have HP := Lib.hid (pbytes_v is g 0 c hn hu w hpi hw)
  clear h hw
  go_enter Try.func9, Try.ntmps9
  go_wp2_with (fail)
  refine HTh.out.mono ?_
  rintro e w' ⟨rfl, rfl⟩
  go_wp2_with (fail)
  refine HP.out.mono ?_
  rintro e w' ⟨v, rfl, ho, hB⟩
  have HO := Lib.hid ho
  have HB := Lib.hid hB
  clear ho hB
  go_wp2_with (fail)
  go_ret
  exact ⟨_, rfl, HO.out, HB.out⟩
set_option maxRecDepth 100000 in
theorem view_v (w : World) (b : Nat) (vs is : List Int) (vv vi : Value) (ml : Nat) (lo st fl fe : Int) (h : MemB w b vs is vv vi ml lo st fl fe) (hp : 0 < vs.length) (hn : vs.length ≤ 1000000) (hu : U64s vs) :
    Calls Try.prog 8 #[.pointer (some ⟨b, 0, none⟩)] w fun e w' => ∃ v, e = .returned v ∧ w'.ownsRow w.heap.size 5 1 v (bytesW vs).length (bvals (bytesW vs)) ∧ Below w.heap.size w w' := by
  have HTh := Lib.hid (mthere_v w b vs is vv vi ml lo st fl fe h hp)
  have c0 : w.cell? ⟨b, 0, none⟩ = some vv := h.c 0
  obtain ⟨g, c, rfl, hw⟩ := blk_row h.v hp
  have HP := Lib.hid (pbytes_v vs g 0 c hn hu w hp hw)
  clear h hw
  go_enter Try.func8, Try.ntmps8
  go_wp2_with (fail)
  refine HTh.out.mono ?_
  rintro e w' ⟨rfl, rfl⟩
  go_wp2_with (fail)
  refine HP.out.mono ?_
  rintro e w' ⟨v, rfl, ho, hB⟩
  have HO := Lib.hid ho
  have HB := Lib.hid hB
  clear ho hB
  go_wp2_with (fail)
  go_ret
  exact ⟨_, rfl, HO.out, HB.out⟩
end Go.Proofs.Yticgfnnmjcjnjaa
