/-
  leveelaw09.made: a contract.
-/
import Derived.Test.YtbpaefhihdhdeaaRp
import Derived.Test.YtbpaefhihdhdeaaFk
namespace Go.Proofs.Ytbpaefhihdhdeaa
open Go.RowKit
set_option linter.unusedVariables false

/-- which change is asked for -/
def kdOf (k : Int) : Int := IntKind.u64.wrap k % 6
theorem kdOf_lt (k : Int) : kdOf k = 0 ∨ kdOf k = 1 ∨ kdOf k = 2 ∨ kdOf k = 3 ∨ kdOf k = 4 ∨ kdOf k = 5 := by
  unfold kdOf; omega
def madeL (base : Int) (n : Nd) (kd key ptr : Int) : List (Int × Int) :=
  if kd = 0 then insP base n key ptr else if kd = 1 then delP base n key else if kd = 2 then repP base n else if kd = 3 then swapP base n key ptr else if kd = 4 then cutP base n key else linkP base n ptr
def madeC (base : Int) (n : Nd) (kd key ptr : Int) : Int :=
  if kd = 0 then insE base n key ptr else if kd = 1 then delE base n key else if kd = 2 then repE base n else if kd = 3 then swapE base n key ptr else if kd = 4 then cutE base n key else mayE base n
theorem MadeP.keep {l : List (Int × Int)} {c : Int} {w w1 w' : World} {e : Ending} (h : MadeP l c w1 e w') (hB : Below w.heap.size w w1) : MadeP l c w e w' := by
  obtain ⟨a, m, cc, h1, h2, h3, h4⟩ := h
  exact ⟨a, m, cc, h1, h2, own_mono h3 hB.size, hB.trans (h4.mono hB.size)⟩
def askC (kind key ptr : Int) : Array Value := #[.int .i64 kind, .int .u64 key, .int .u64 ptr]

set_option maxRecDepth 100000 in
set_option maxHeartbeats 6400000 in
theorem made_v (base : Int) (n : Nd) (kind key ptr : Int) (w : World) :
    Calls Try.prog 12 #[.int .u64 base, .agg (ndCells n), .agg (askC kind key ptr)] w fun e w' => MadeP (madeL base n (kdOf kind) key ptr) (madeC base n (kdOf kind) key ptr) w e w' := by
  have HI := Lib.hid (info27 n)
  have hk0 : Blk ((w.alloc (.cells (ndCells n) 27)).alloc (.cells (askC kind key ptr) 39)) w.heap.size (ndCells n) 27 := (Blk.new w _ _).alloc _
  have HL0 := Lib.hid (ndLoad hk0)
  have HB0 := Lib.hid (((Below.refl w.heap.size w).alloc (Nat.le_refl _) (.cells (ndCells n) 27)).alloc (by simp) (.cells (askC kind key ptr) 39))
  obtain ⟨u, hu⟩ : ∃ u, IntKind.u64.wrap kind = u := ⟨_, rfl⟩
  have HU := Lib.hid (show kdOf kind = u % 6 by unfold kdOf; rw [hu])
  have hu0 : 0 ≤ u := by rw [← hu, IntKind.wrap_u64]; omega
  clear hk0
  unfold askC at *
  rcases kdOf_lt kind with h | h | h | h | h | h
  · have HP := Lib.hid (show madeL base n (kdOf kind) key ptr = insP base n key ptr ∧ madeC base n (kdOf kind) key ptr = insE base n key ptr by rw [h]; exact ⟨rfl, rfl⟩)
    have hd : u % 6 = 0 := by rw [← HU.out]; exact h
    have HC := Lib.hid (fun w => insert_v base n key ptr w)
    clear h
    go_enter Try.func12, Try.ntmps12
    go_wp2_with (with_reducible refine wpList_load_part (o := ⟨some 15, _, _, _, _, _⟩) rfl 27 _ rfl w.heap.size 0 rfl (ndCells n) _ HL0.out Try.underlying27 rfl HI.out ?_)
    refine (HC.out _).mono ?_
    rintro e w1 ⟨a, m, c, rfl, hml, ho, hB⟩
    have HD := Lib.hid (show MadeP (madeL base n (kdOf kind) key ptr) (madeC base n (kdOf kind) key ptr) w (.returned (.tuple #[.slice a m c, .int .i64 (insE base n key ptr)])) w1 from by rw [HP.out.1, HP.out.2]; exact MadeP.keep ⟨a, m, c, rfl, hml, ho, hB⟩ HB0.out)
    clear hml ho hB
    go_wp2_with (fail)
    go_ret2
    exact HD.out
  · have HP := Lib.hid (show madeL base n (kdOf kind) key ptr = delP base n key ∧ madeC base n (kdOf kind) key ptr = delE base n key by rw [h]; exact ⟨rfl, rfl⟩)
    have hd : u % 6 = 1 := by rw [← HU.out]; exact h
    have HC := Lib.hid (fun w => delete_v base n key w)
    clear h
    go_enter Try.func12, Try.ntmps12
    go_wp2_with (with_reducible refine wpList_load_part (o := ⟨some 26, _, _, _, _, _⟩) rfl 27 _ rfl w.heap.size 0 rfl (ndCells n) _ HL0.out Try.underlying27 rfl HI.out ?_)
    refine (HC.out _).mono ?_
    rintro e w1 ⟨a, m, c, rfl, hml, ho, hB⟩
    have HD := Lib.hid (show MadeP (madeL base n (kdOf kind) key ptr) (madeC base n (kdOf kind) key ptr) w (.returned (.tuple #[.slice a m c, .int .i64 (delE base n key)])) w1 from by rw [HP.out.1, HP.out.2]; exact MadeP.keep ⟨a, m, c, rfl, hml, ho, hB⟩ HB0.out)
    clear hml ho hB
    go_wp2_with (fail)
    go_ret2
    exact HD.out
  · have HP := Lib.hid (show madeL base n (kdOf kind) key ptr = repP base n ∧ madeC base n (kdOf kind) key ptr = repE base n by rw [h]; exact ⟨rfl, rfl⟩)
    have hd : u % 6 = 2 := by rw [← HU.out]; exact h
    have HC := Lib.hid (fun w => repair_v base n w)
    clear h
    go_enter Try.func12, Try.ntmps12
    go_wp2_with (with_reducible refine wpList_load_part (o := ⟨some 35, _, _, _, _, _⟩) rfl 27 _ rfl w.heap.size 0 rfl (ndCells n) _ HL0.out Try.underlying27 rfl HI.out ?_)
    refine (HC.out _).mono ?_
    rintro e w1 ⟨a, m, c, rfl, hml, ho, hB⟩
    have HD := Lib.hid (show MadeP (madeL base n (kdOf kind) key ptr) (madeC base n (kdOf kind) key ptr) w (.returned (.tuple #[.slice a m c, .int .i64 (repE base n)])) w1 from by rw [HP.out.1, HP.out.2]; exact MadeP.keep ⟨a, m, c, rfl, hml, ho, hB⟩ HB0.out)
    clear hml ho hB
    go_wp2_with (fail)
    go_ret2
    exact HD.out
  · have HP := Lib.hid (show madeL base n (kdOf kind) key ptr = swapP base n key ptr ∧ madeC base n (kdOf kind) key ptr = swapE base n key ptr by rw [h]; exact ⟨rfl, rfl⟩)
    have hd : u % 6 = 3 := by rw [← HU.out]; exact h
    have HC := Lib.hid (fun w => swap_v base n key ptr w)
    clear h
    go_enter Try.func12, Try.ntmps12
    go_wp2_with (with_reducible refine wpList_load_part (o := ⟨some 42, _, _, _, _, _⟩) rfl 27 _ rfl w.heap.size 0 rfl (ndCells n) _ HL0.out Try.underlying27 rfl HI.out ?_)
    refine (HC.out _).mono ?_
    rintro e w1 ⟨a, m, c, rfl, hml, ho, hB⟩
    have HD := Lib.hid (show MadeP (madeL base n (kdOf kind) key ptr) (madeC base n (kdOf kind) key ptr) w (.returned (.tuple #[.slice a m c, .int .i64 (swapE base n key ptr)])) w1 from by rw [HP.out.1, HP.out.2]; exact MadeP.keep ⟨a, m, c, rfl, hml, ho, hB⟩ HB0.out)
    clear hml ho hB
    go_wp2_with (fail)
    go_ret2
    exact HD.out
  · have HP := Lib.hid (show madeL base n (kdOf kind) key ptr = cutP base n key ∧ madeC base n (kdOf kind) key ptr = cutE base n key by rw [h]; exact ⟨rfl, rfl⟩)
    have hd : u % 6 = 4 := by rw [← HU.out]; exact h
    have HC := Lib.hid (fun w => cut_v base n key w)
    clear h
    go_enter Try.func12, Try.ntmps12
    go_wp2_with (with_reducible refine wpList_load_part (o := ⟨some 53, _, _, _, _, _⟩) rfl 27 _ rfl w.heap.size 0 rfl (ndCells n) _ HL0.out Try.underlying27 rfl HI.out ?_)
    refine (HC.out _).mono ?_
    rintro e w1 ⟨a, m, c, rfl, hml, ho, hB⟩
    have HD := Lib.hid (show MadeP (madeL base n (kdOf kind) key ptr) (madeC base n (kdOf kind) key ptr) w (.returned (.tuple #[.slice a m c, .int .i64 (cutE base n key)])) w1 from by rw [HP.out.1, HP.out.2]; exact MadeP.keep ⟨a, m, c, rfl, hml, ho, hB⟩ HB0.out)
    clear hml ho hB
    go_wp2_with (fail)
    go_ret2
    exact HD.out
  · have HP := Lib.hid (show madeL base n (kdOf kind) key ptr = linkP base n ptr ∧ madeC base n (kdOf kind) key ptr = mayE base n by rw [h]; exact ⟨rfl, rfl⟩)
    have hd : u % 6 = 5 := by rw [← HU.out]; exact h
    have HC := Lib.hid (fun w => link_v base n ptr w)
    clear h
    go_enter Try.func12, Try.ntmps12
    go_wp2_with (with_reducible refine wpList_load_part (o := ⟨some 60, _, _, _, _, _⟩) rfl 27 _ rfl w.heap.size 0 rfl (ndCells n) _ HL0.out Try.underlying27 rfl HI.out ?_)
    refine (HC.out _).mono ?_
    rintro e w1 ⟨a, m, c, rfl, hml, ho, hB⟩
    have HD := Lib.hid (show MadeP (madeL base n (kdOf kind) key ptr) (madeC base n (kdOf kind) key ptr) w (.returned (.tuple #[.slice a m c, .int .i64 (mayE base n)])) w1 from by rw [HP.out.1, HP.out.2]; exact MadeP.keep ⟨a, m, c, rfl, hml, ho, hB⟩ HB0.out)
    clear hml ho hB
    go_wp2_with (fail)
    go_ret2
    exact HD.out
end Go.Proofs.Ytbpaefhihdhdeaa
