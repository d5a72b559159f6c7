/-
  ValueNil: THE WALK.
-/
import Derived.Test.YtegamhjfloebgaaKn
import Derived.Laws.EntriesVeiled
import Derived.WalkSpells
import Derived.WalkLawsBesides
namespace Go.Proofs.Ytegamhjfloebgaa
open Go.RowKit

theorem nil_eq (w : World) : (binOp .eql 39 .nilFunc .nilFunc).run Try.prog w = .ok (.bool true) w := by kernel_rfl
theorem fn_eq (b : Nat) (w : World) : (binOp .eql 39 (.func (.func 37) #[.pointer (some ⟨b, 0, none⟩)] #[]) .nilFunc).run Try.prog w = .ok (.bool false) w := by kernel_rfl
theorem step_nil (w : World) : Calls Try.prog 15 #[.pointer none] w fun e w' => e = .returned (.tuple #[.bool true, .int .i64 1]) ∧ w = w' := by
  have hq1 := nil_eq
  have hq2 := fn_eq
  go_enter Try.func15, Try.ntmps15
  go_wp2_with (fail)
  go_ret2
  exact ⟨rfl, rfl⟩
set_option maxRecDepth 100000 in
theorem step_zero (b : Nat) (w : World) (h : w.cell? ⟨b, 2, none⟩ = some .nilFunc) : Calls Try.prog 15 #[.pointer (some ⟨b, 0, none⟩)] w fun e w' => e = .returned (.tuple #[.bool true, .int .i64 1]) ∧ w = w' := by
  have hq1 := nil_eq
  have hq2 := fn_eq
  go_enter Try.func15, Try.ntmps15
  go_wp2_with (fail)
  go_ret2
  exact ⟨rfl, rfl⟩
theorem value_nil (w : World) : Calls Try.prog 16 #[.pointer none] w fun e w' => e = .returned (.tuple #[.string ⟨#[]⟩, .int .i64 1]) ∧ w = w' := by
  have hq1 := nil_eq
  have hq2 := fn_eq
  go_enter Try.func16, Try.ntmps16
  go_wp2_with (fail)
  go_ret2
  exact ⟨rfl, rfl⟩
set_option maxRecDepth 100000 in
theorem value_zero (b : Nat) (w : World) (h : w.cell? ⟨b, 2, none⟩ = some .nilFunc) : Calls Try.prog 16 #[.pointer (some ⟨b, 0, none⟩)] w fun e w' => e = .returned (.tuple #[.string ⟨#[]⟩, .int .i64 1]) ∧ w = w' := by
  have hq1 := nil_eq
  have hq2 := fn_eq
  go_enter Try.func16, Try.ntmps16
  go_wp2_with (fail)
  go_ret2
  exact ⟨rfl, rfl⟩
theorem size_nil (w : World) : Calls Try.prog 36 #[.pointer none] w fun e w' => e = .returned (.int .i64 0) ∧ w = w' := by
  go_enter Try.func36, Try.ntmps36
  go_wp2
  go_ret
  exact ⟨rfl, rfl⟩
set_option maxRecDepth 100000 in
theorem step_nomem (b : Nat) (w : World) (h0 : w.cell? ⟨b, 0, none⟩ = some (.pointer none)) (h2 : w.cell? ⟨b, 2, none⟩ = some (.func (.func 37) #[.pointer (some ⟨b, 0, none⟩)] #[])) :
    Calls Try.prog 15 #[.pointer (some ⟨b, 0, none⟩)] w fun e w' => e = .returned (.tuple #[.bool true, .int .i64 1]) ∧ w = w' := by
  have hq1 := nil_eq
  have hq2 := fn_eq
  go_enter Try.func15, Try.ntmps15
  go_wp2_with (go_at_call 36; refine (size_nil _).mono ?_; rintro e w1 ⟨rfl, rfl⟩)
  go_ret2
  exact ⟨rfl, rfl⟩
def readCells (b : Nat) (a : Int) : Array Value := #[.pointer none, .int .u64 a, .func (.func 37) #[.pointer (some ⟨b, 0, none⟩)] #[], .slice none 0 0, .string ⟨#[]⟩, .bool false, .int .i64 0]
set_option maxRecDepth 100000 in
theorem new_nil (a : Int) (w : World) : Calls Try.prog 17 #[.pointer none, .int .u64 a] w fun e w' => e = .returned (.pointer (some ⟨w.heap.size, 0, none⟩)) ∧ Blk w' w.heap.size (readCells w.heap.size a) 42 ∧ Below w.heap.size w w' := by
  have HB := Lib.hid (Blk.new w (readCells w.heap.size a) 42)
  have HW := Lib.hid ((Below.refl w.heap.size w).alloc (Nat.le_refl _) (.cells (readCells w.heap.size a) 42))
  go_enter Try.func17, Try.ntmps17
  go_wp2_with (fail)
  go_ret
  exact ⟨rfl, HB.out, HW.out⟩
set_option maxRecDepth 100000 in
theorem vn (w : World) : Calls Try.prog 4 #[] w fun e w' => e = .returned (.bool true) ∧ Below w.heap.size w w' := by
  go_enter Try.func4, Try.ntmps4
  go_wp2_with (fail)
  refine (step_nil _).mono ?_
  rintro e w4 ⟨rfl, rfl⟩
  go_wp2_with (fail)
  have hb := Blk.new w #[.pointer none, .int .u64 0, .nilFunc, .slice none 0 0, .string ⟨#[]⟩, .bool false, .int .i64 0] 42
  have hB1 := (Below.refl w.heap.size w).alloc (Nat.le_refl _) (.cells #[.pointer none, .int .u64 0, .nilFunc, .slice none 0 0, .string ⟨#[]⟩, .bool false, .int .i64 0] 42)
  obtain ⟨bz, hbz⟩ : ∃ bz, w.heap.size = bz := ⟨_, rfl⟩
  have H2 := hb.cell 2
  rw [hbz] at H2 ⊢
  rw [show (#[Value.pointer none, .int .u64 0, .nilFunc, .slice none 0 0, .string ⟨#[]⟩, .bool false, .int .i64 0] : Array Value)[2]? = some .nilFunc from rfl] at H2
  generalize w.alloc (.cells #[.pointer none, .int .u64 0, .nilFunc, .slice none 0 0, .string ⟨#[]⟩, .bool false, .int .i64 0] 42) = w1 at *
  have HB1 := Lib.hid hB1
  have HZ := Lib.hid (step_zero bz w1 H2)
  have HZ2 := Lib.hid (value_zero bz w1 H2)
  have HBZ := Lib.hid hbz
  clear hb hB1 hbz H2
  refine HZ.out.mono ?_
  rintro e w2 ⟨rfl, rfl⟩
  go_wp2_with (fail)
  refine (value_nil _).mono ?_
  rintro e w2 ⟨rfl, rfl⟩
  go_wp2_with (fail)
  refine HZ2.out.mono ?_
  rintro e w2 ⟨rfl, rfl⟩
  go_wp2_with (fail)
  refine (new_nil 64 w1).mono ?_
  rintro e w2 ⟨rfl, hk, hB2⟩
  have k0 := hk.cell 0
  have k2 := hk.cell 2
  have HB2 := Lib.hid (HB1.out.trans (hB2.mono HB1.out.size))
  have HS := Lib.hid (step_nomem w1.heap.size w2 k0 k2)
  clear hk hB2 k0 k2
  go_wp2_with (fail)
  refine HS.out.mono ?_
  rintro e w3 ⟨rfl, rfl⟩
  go_wp2_with (fail)
  refine (parse_nil 1 none 0 w2).mono ?_
  rintro e w5 ⟨rfl, hB5⟩
  have HB5 := Lib.hid (HB2.out.trans (hB5.mono HB2.out.size))
  rw [show parseV 1 [] = ([], 2) by decide]
  clear hB5
  go_wp2_with (fail)
  refine (parse_k 3 [0] w5 (by decide) (by decide) (by decide) ([], 2) (by decide)).mono ?_
  rintro e w6 ⟨rfl, hB⟩
  have HB6 := Lib.hid (HB5.out.trans (hB.mono HB5.out.size))
  clear hB
  go_wp2_with (fail)
  refine (parse_k 1 [9, 1] w6 (by decide) (by decide) (by decide) ([], 2) (by decide)).mono ?_
  rintro e w7 ⟨rfl, hB⟩
  have HB7 := Lib.hid (HB6.out.trans (hB.mono HB6.out.size))
  clear hB
  go_wp2_with (go_at_call 8; refine (known_any _).mono ?_; rintro e w8 ⟨rfl, hB8⟩)
  go_ret
  exact ⟨rfl, HB7.out.trans (hB8.mono HB7.out.size)⟩
end Go.Proofs.Ytegamhjfloebgaa
