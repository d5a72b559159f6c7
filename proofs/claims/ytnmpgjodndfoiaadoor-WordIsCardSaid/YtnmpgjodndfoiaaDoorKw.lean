/-
  known(): true.
-/
import Derived.Test.YtnmpgjodndfoiaaDoorKn
namespace Go.Proofs.YtnmpgjodndfoiaaDoor
open Go.RowKit

def nine : List UInt8 := [0, 1, 0, 0, 0, 0, 0, 0, 0]
theorem nine_at (w : World) : BytesAt (w.alloc (.cells (bcells nine) 5)) w.heap.size 0 nine := bytesAt_blk (Blk.new w _ _)
theorem get_k1 (w : World) : Calls Tryd.prog 12 #[.slice (some ⟨w.heap.size, 0, none⟩) 9 9, .int .i64 1] (w.alloc (.cells (bcells nine) 5)) fun e w' => e = .returned (.tuple #[.int .u64 1, .int .i64 0]) ∧ w.alloc (.cells (bcells nine) 5) = w' := by
  have := get_yes nine w.heap.size 0 9 1 (by decide) (by decide) (by decide) _ (nine_at w)
  exact this
theorem get_k2 (w w1 : World) : Calls Tryd.prog 12 #[.slice (some ⟨w.heap.size, 0, none⟩) 9 9, .int .i64 2] w1 fun e w' => e = .returned (.tuple #[.int .u64 0, .int .i64 3]) ∧ w1 = w' :=
  get_no _ 9 9 2 (by decide) (by decide) (by unfold fits; omega) w1
theorem eq8_k (w : World) : (Op.equalIn 10000 33 (.agg #[.int .u8 2, .int .u8 1, .int .u8 0, .int .u8 0, .int .u8 0, .int .u8 0, .int .u8 0, .int .u8 0]) (.agg #[.int .u8 2, .int .u8 1, .int .u8 0, .int .u8 0, .int .u8 0, .int .u8 0, .int .u8 0, .int .u8 0])).run Tryd.prog w = .ok true w := by kernel_rfl
theorem put_k (w : World) : Calls Tryd.prog 25 #[.int .u64 258] w fun e w' => e = .returned (.agg #[.int .u8 2, .int .u8 1, .int .u8 0, .int .u8 0, .int .u8 0, .int .u8 0, .int .u8 0, .int .u8 0]) ∧ Below w.heap.size w w' := put_n 258 (by decide) (by decide) w
theorem hex_k (w : World) (h : Tab16 w) : Calls Tryd.prog 10 #[.int .u64 258] w fun e w' => e = .returned (.string ⟨#[48, 48, 48, 48, 48, 48, 48, 48, 48, 48, 48, 48, 48, 49, 48, 50]⟩) ∧ Below w.heap.size w w' := hex_n 258 (by decide) w h
theorem pack_row (l : List UInt8) (hl : l.length ≤ 1000000) (w : World) : Calls Tryd.prog 16 #[.string ⟨l.toArray⟩] w fun e w' => ∃ p n c, e = .returned (.slice p n c) ∧ RowAt w' (.slice p n c) (packW l) ∧ Below w.heap.size w w' :=
  (pack_s l hl w).mono fun _ _ ⟨v, he, ho, hB⟩ => by
    obtain ⟨p, n, c, rfl⟩ := own_slice ho
    exact ⟨p, n, c, he, RowAt.of_own ho, hB⟩
theorem same_true (a b : List Int) (va vb : Value) (w : World) (hl : a.length ≤ 1000) (hA : RowAt w va a) (hB : RowAt w vb b) (e : a = b) :
    Calls Tryd.prog 18 #[va, vb] w fun e w' => e = .returned (.bool true) ∧ ∃ q, w' = w.drewN q := by
  have := same_r a b va vb w (by omega) hA hB
  rwa [decide_eq_true e] at this
theorem row_new (w : World) (l : List Int) (h : 0 < l.length) : RowAt (w.alloc (.cells ((l.map (Value.int .u64)).toArray) 22)) (.slice (some ⟨w.heap.size, 0, none⟩) l.length l.length) l :=
  .inr ⟨h, _, _, _, rfl, Nat.le_refl _, by simp, fun i hi => by rw [Nat.zero_add, (Blk.new w _ _).cell]; simp [hi]⟩


set_option maxRecDepth 100000 in
set_option maxHeartbeats 2000000 in
theorem known_any (w : World) (h : Tab16 w) : Calls Tryd.prog 11 #[] w fun e w' => e = .returned (.bool true) ∧ Below w.heap.size w w' := by
  have HT := Lib.hid h
  have HB := Lib.hid ((Below.refl w.heap.size w).alloc (Nat.le_refl _) (.cells (bcells nine) 5))
  have hq8 := eq8_k
  clear h
  go_enter Tryd.func11, Tryd.ntmps11
  go_wp2_with (fail)
  refine (get_k1 w).mono ?_
  rintro e w1 ⟨rfl, rfl⟩
  go_wp2_with (fail)
  refine (get_k2 w _).mono ?_
  rintro e w1 ⟨rfl, rfl⟩
  go_wp2_with (fail)
  refine (put_k _).mono ?_
  rintro e w2 ⟨rfl, hB2⟩
  have HB2 := Lib.hid (HB.out.trans (hB2.mono (by simp)))
  clear hB2 HB
  go_wp2_with (fail)
  refine (hex_k _ (HT.out.below HB2.out)).mono ?_
  rintro e w3 ⟨rfl, hB3⟩
  have HB := Lib.hid (HB2.out.trans (hB3.mono HB2.out.size))
  clear hB3 HB2
  go_wp2_with (fail)
  refine (pack_row ([] : List UInt8) (by decide) _).mono ?_
  rintro e w4 ⟨pp, pn, pc, rfl, hr, hB⟩
  have HR := Lib.hid hr
  have HBn := Lib.hid (HB.out.trans (hB.mono HB.out.size))
  clear hr hB HB
  have HB := HBn
  clear HBn
  go_wp2_with (fail)
  refine (same_true _ ([0] : List Int) _ _ _ (by decide) (HR.out.below ((Below.refl _ _).alloc (Nat.le_refl _) _)) (row_new w4 ([0] : List Int) (by decide)) (by decide)).mono ?_
  rintro e wx ⟨rfl, qx, rfl⟩
  have HBn := Lib.hid (below_drewN (HB.out.alloc HB.out.size (.cells ((([0] : List Int).map (Value.int .u64)).toArray) 22)) qx)
  clear HB
  have HB := HBn
  clear HBn HR
  go_wp2_with (fail)
  refine (pack_row ([97, 98] : List UInt8) (by decide) _).mono ?_
  rintro e w5 ⟨pp, pn, pc, rfl, hr, hB⟩
  have HR := Lib.hid hr
  have HBn := Lib.hid (HB.out.trans (hB.mono HB.out.size))
  clear hr hB HB
  have HB := HBn
  clear HBn
  go_wp2_with (fail)
  refine (same_true _ ([2, 25185] : List Int) _ _ _ (by decide) (HR.out.below ((Below.refl _ _).alloc (Nat.le_refl _) _)) (row_new w5 ([2, 25185] : List Int) (by decide)) (by decide)).mono ?_
  rintro e wx ⟨rfl, qx, rfl⟩
  have HBn := Lib.hid (below_drewN (HB.out.alloc HB.out.size (.cells ((([2, 25185] : List Int).map (Value.int .u64)).toArray) 22)) qx)
  clear HB
  have HB := HBn
  clear HBn HR
  go_wp2_with (fail)
  refine (pack_row ([97, 98, 99, 100, 101, 102, 103, 104, 105] : List UInt8) (by decide) _).mono ?_
  rintro e w6 ⟨pp, pn, pc, rfl, hr, hB⟩
  have HR := Lib.hid hr
  have HBn := Lib.hid (HB.out.trans (hB.mono HB.out.size))
  clear hr hB HB
  have HB := HBn
  clear HBn
  go_wp2_with (fail)
  refine (same_true _ ([9, 7523094288207667809, 105] : List Int) _ _ _ (by decide) (HR.out.below ((Below.refl _ _).alloc (Nat.le_refl _) _)) (row_new w6 ([9, 7523094288207667809, 105] : List Int) (by decide)) (by decide)).mono ?_
  rintro e wx ⟨rfl, qx, rfl⟩
  have HBn := Lib.hid (below_drewN (HB.out.alloc HB.out.size (.cells ((([9, 7523094288207667809, 105] : List Int).map (Value.int .u64)).toArray) 22)) qx)
  clear HB
  have HB := HBn
  clear HBn HR
  go_wp2_with (fail)
  go_ret
  exact ⟨rfl, HB.out⟩
end Go.Proofs.YtnmpgjodndfoiaaDoor
