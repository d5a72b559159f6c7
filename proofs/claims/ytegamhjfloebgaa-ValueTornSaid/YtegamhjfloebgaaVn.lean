/-
  ValueNil: THE WALK.
-/
import Derived.Test.YtegamhjfloebgaaPa
import Derived.Laws.EntriesVeiled
import Derived.WalkSpells
import Derived.WalkLawsBesides
namespace Go.Proofs.Ytegamhjfloebgaa
open Go.RowKit

def zeroK (n : Nat) : List UInt8 := List.replicate n 0
theorem zeroK_len (n : Nat) : (zeroK n).length = n := by simp [zeroK]
theorem conv_zero (n : Nat) (w : World) : (convert 48 9 (.slice (some ⟨w.heap.size, 0, none⟩) n n)).run Try.prog (w.alloc (.cells (bcells (zeroK n)) 5)) = .ok (.string ⟨(zeroK n).toArray⟩) (w.alloc (.cells (bcells (zeroK n)) 5)) := by
  have hb := Blk.new w (bcells (zeroK n)) 5
  have := run_convert_bytes_back (P := Try.prog) (w.alloc (.cells (bcells (zeroK n)) 5)) 48 9 5 ⟨w.heap.size, 0, none⟩ n (zeroK n) Try.underlying48 Try.underlying5 Try.underlying9 (fun j hj => by
    have e1 : (⟨w.heap.size, 0, none⟩ : Addr).add j = ⟨w.heap.size, j, none⟩ := by unfold Addr.add; split; (rename_i h; subst h; rfl); simp
    rw [e1, hb.cell]
    simp [bcells, hj])
  rwa [zeroK_len] at this

theorem hasBlk_k : HasBlk 1088 (clsN (2 : Nat)) := ⟨1, 0, by decide, by decide, by decide, by decide⟩
theorem puts_k (w : World) : Calls Try.prog 10 #[.int .u64 1088, .string ⟨#[97, 98]⟩] w fun e w' => ∃ v, e = .returned (.tuple #[v, .int .i64 0]) ∧ w'.ownsRow w.heap.size 35 2 v 2 (ecells [(1088, 2), (1096, 25185)]) ∧ Below w.heap.size w w' := by
  refine (puts_s 1088 [97, 98] (by decide) (by decide) (by decide) w).mono ?_
  rintro e w' ⟨h, hB⟩
  rw [if_neg (by decide)] at h
  rcases h with ⟨h, _⟩ | ⟨_, v, rfl, ho⟩
  · exact absurd hasBlk_k h
  · exact ⟨v, rfl, by
      rw [show putsL 1088 [97, 98] = [(1088, 2), (1096, 25185)] by decide] at ho
      exact ho, hB⟩

/-- a row of words that the call has just laid -/
theorem words_new (w : World) (l : List Int) (t : TypeId) : WordsAt (w.alloc (.cells (l.map (Value.int .u64)).toArray t)) w.heap.size 0 l := fun i hi => by
  rw [Nat.zero_add, (Blk.new w _ t).cell]; simp [hi]
theorem parse_k (c : Int) (l : List Int) (w : World) (h1 : l.length ≤ 100) (h2 : 0 < l.length) (hu : ∀ x ∈ l, 0 ≤ x ∧ x ≤ 1000) (r : List UInt8 × Int) (hr : parseV c l = r) :
    Calls Try.prog 18 #[.int .i64 c, .slice (some ⟨w.heap.size, 0, none⟩) l.length l.length] (w.alloc (.cells (l.map (Value.int .u64)).toArray 22)) fun e w' => e = .returned (.tuple #[.string ⟨r.1.toArray⟩, .int .i64 r.2]) ∧ Below w.heap.size w w' := by
  subst hr
  refine (parse_pos c l w.heap.size 0 l.length _ (by omega) h2 (Nat.le_refl _) (by simp) (words_new w l _) (fun x hx => by have := hu x hx; omega)).mono ?_
  rintro e w' ⟨rfl, hB⟩
  exact ⟨rfl, ((Below.refl _ _).alloc (Nat.le_refl _) _).trans (hB.mono (by simp))⟩

theorem class_k (n : Nat) (c e : Int) (hn : n ≤ 1000) (hc : clsN n = c) (he : (if 0 < c then (0 : Int) else 10) = e) (w : World) :
    Calls Try.prog 9 #[.string ⟨(zeroK n).toArray⟩] (w.alloc (.cells (bcells (zeroK n)) 5)) fun e' w' => e' = .returned (.tuple #[.int .i64 c, .int .i64 e]) ∧ Below w.heap.size w w' := by
  have := vclass_s (zeroK n) (w.alloc (.cells (bcells (zeroK n)) 5)) (by rw [zeroK_len]; omega)
  rw [zeroK_len, hc, he] at this
  refine this.mono ?_
  rintro e' w' ⟨rfl, hB⟩
  exact ⟨rfl, ((Below.refl _ _).alloc (Nat.le_refl _) _).trans (hB.mono (by simp))⟩

set_option maxRecDepth 100000 in
set_option maxHeartbeats 1600000 in
theorem known_any (w : World) : Calls Try.prog 8 #[] w fun e w' => e = .returned (.bool true) ∧ Below w.heap.size w w' := by
  have hmk1 : ∀ w : World, (Instr.makeSlice 48 (.int .i64 56) (.int .i64 56)).run Try.prog w = .ok (.slice (some ⟨w.heap.size, 0, none⟩) 56 56) (w.alloc (.cells (bcells (zeroK 56)) 5)) := fun _ => by kernel_rfl
  have hmk2 : ∀ w : World, (Instr.makeSlice 48 (.int .i64 57) (.int .i64 57)).run Try.prog w = .ok (.slice (some ⟨w.heap.size, 0, none⟩) 57 57) (w.alloc (.cells (bcells (zeroK 57)) 5)) := fun _ => by kernel_rfl
  have hmk3 : ∀ w : World, (Instr.makeSlice 48 (.int .i64 121) (.int .i64 121)).run Try.prog w = .ok (.slice (some ⟨w.heap.size, 0, none⟩) 121 121) (w.alloc (.cells (bcells (zeroK 121)) 5)) := fun _ => by kernel_rfl
  have hcv1 := conv_zero 56
  have hcv2 := conv_zero 57
  have hcv3 := conv_zero 121
  go_enter Try.func8, Try.ntmps8
  go_wp2_with (fail)
  refine (puts_k w).mono ?_
  rintro e w1 ⟨v, rfl, hown, hB1⟩
  have hl2 := ecells_len [(1088, 2), (1096, 25185)]
  obtain ⟨g, cap, rfl, hg1, hg2, hg3, hg4, _, hcell, _⟩ := own_shapeK hown (by decide)
  have c0 := hcell 0 (by decide)
  have c1 := hcell 1 (by decide)
  have c2 := hcell 2 (by decide)
  have c3 := hcell 3 (by decide)
  have HG := Lib.hid (show ∀ w', Below w1.heap.size w1 w' → w'.cell? ⟨g, 0, none⟩ = some (.int .u64 1088) ∧ w'.cell? ⟨g, 1, none⟩ = some (.int .u64 2) ∧ w'.cell? ⟨g, 2, none⟩ = some (.int .u64 1096) ∧ w'.cell? ⟨g, 3, none⟩ = some (.int .u64 25185) from fun w' hB =>
    ⟨(hB.cell (p := ⟨g, 0, none⟩) hg2).trans c0, (hB.cell (p := ⟨g, 1, none⟩) hg2).trans c1, (hB.cell (p := ⟨g, 2, none⟩) hg2).trans c2, (hB.cell (p := ⟨g, 3, none⟩) hg2).trans c3⟩)
  have HB1 := Lib.hid hB1
  have hs1 := hB1.size
  have HBr := Lib.hid (Below.refl w1.heap.size w1)
  clear hown hcell c0 c1 c2 c3 hB1 hl2
  go_wp2_with (fail)
  refine (class_k 56 1 0 (by decide) (by decide) (by decide) w1).mono ?_
  rintro e w2 ⟨rfl, hB⟩
  have HB2 := Lib.hid hB
  clear hB HBr
  go_wp2_with (fail)
  refine (class_k 57 2 0 (by decide) (by decide) (by decide) w2).mono ?_
  rintro e w3 ⟨rfl, hB⟩
  have HB3 := Lib.hid (HB2.out.trans (hB.mono HB2.out.size))
  clear hB HB2
  go_wp2_with (fail)
  refine (class_k 121 0 10 (by decide) (by decide) (by decide) w3).mono ?_
  rintro e w4 ⟨rfl, hB⟩
  have HB4 := Lib.hid (HB3.out.trans (hB.mono HB3.out.size))
  clear hB HB3
  go_wp2_with (fail)
  refine (parse_k 1 [57, 0, 0, 0, 0, 0, 0, 0, 0] w4 (by decide) (by decide) (by decide) ([], 11) (by decide)).mono ?_
  rintro e w5 ⟨rfl, hB⟩
  have HB5 := Lib.hid (HB4.out.trans (hB.mono HB4.out.size))
  clear hB HB4
  go_wp2_with (fail)
  refine (parse_k 2 [56, 0, 0, 0, 0, 0, 0, 0, 0] w5 (by decide) (by decide) (by decide) ([], 11) (by decide)).mono ?_
  rintro e w6 ⟨rfl, hB⟩
  have HB6 := Lib.hid (HB5.out.trans (hB.mono HB5.out.size))
  clear hB HB5
  go_wp2_with (fail)
  refine (parse_k 1 [1, 256] w6 (by decide) (by decide) (by decide) ([], 11) (by decide)).mono ?_
  rintro e w7 ⟨rfl, hB⟩
  have HB7 := Lib.hid (HB6.out.trans (hB.mono HB6.out.size))
  clear hB HB6
  go_wp2_with (fail)
  refine (parse_k 1 [0, 7] w7 (by decide) (by decide) (by decide) ([], 0) (by decide)).mono ?_
  rintro e w8 ⟨rfl, hB⟩
  have HB8 := Lib.hid (HB7.out.trans (hB.mono HB7.out.size))
  obtain ⟨d0, d1, d2, d3⟩ := HG.out _ HB8.out
  have HBF := Lib.hid (HB1.out.trans (HB8.out.mono hs1))
  clear hB HB7
  go_wp2_with (fail)
  go_ret
  exact ⟨rfl, HBF.out⟩
end Go.Proofs.Ytegamhjfloebgaa
namespace Go.Proofs.Ytegamhjfloebgaa
open Go.RowKit

theorem nil_eq (w : World) : (binOp .eql 39 .nilFunc .nilFunc).run Try.prog w = .ok (.bool true) w := by kernel_rfl
theorem fn_eq (b : Nat) (w : World) : (binOp .eql 39 (.func (.func 37) #[.pointer (some ⟨b, 0, none⟩)] #[]) .nilFunc).run Try.prog w = .ok (.bool false) w := by kernel_rfl
theorem step_nil (w : World) : Calls Try.prog 15 #[.pointer none] w fun e w' => e = .returned (.tuple #[.bool true, .int .i64 1]) ∧ w = w' := by
  have hq1 := nil_eq
  have hq2 := fn_eq
  go_enter Try.func15, Try.ntmps15
  go_wp2_with (fail)
  go_ret2
  exact ⟨rfl, rfl⟩
set_option maxRecDepth 100000 in
theorem step_zero (b : Nat) (w : World) (h : w.cell? ⟨b, 2, none⟩ = some .nilFunc) : Calls Try.prog 15 #[.pointer (some ⟨b, 0, none⟩)] w fun e w' => e = .returned (.tuple #[.bool true, .int .i64 1]) ∧ w = w' := by
  have hq1 := nil_eq
  have hq2 := fn_eq
  go_enter Try.func15, Try.ntmps15
  go_wp2_with (fail)
  go_ret2
  exact ⟨rfl, rfl⟩
theorem value_nil (w : World) : Calls Try.prog 16 #[.pointer none] w fun e w' => e = .returned (.tuple #[.string ⟨#[]⟩, .int .i64 1]) ∧ w = w' := by
  have hq1 := nil_eq
  have hq2 := fn_eq
  go_enter Try.func16, Try.ntmps16
  go_wp2_with (fail)
  go_ret2
  exact ⟨rfl, rfl⟩
set_option maxRecDepth 100000 in
theorem value_zero (b : Nat) (w : World) (h : w.cell? ⟨b, 2, none⟩ = some .nilFunc) : Calls Try.prog 16 #[.pointer (some ⟨b, 0, none⟩)] w fun e w' => e = .returned (.tuple #[.string ⟨#[]⟩, .int .i64 1]) ∧ w = w' := by
  have hq1 := nil_eq
  have hq2 := fn_eq
  go_enter Try.func16, Try.ntmps16
  go_wp2_with (fail)
  go_ret2
  exact ⟨rfl, rfl⟩
theorem size_nil (w : World) : Calls Try.prog 36 #[.pointer none] w fun e w' => e = .returned (.int .i64 0) ∧ w = w' := by
  go_enter Try.func36, Try.ntmps36
  go_wp2
  go_ret
  exact ⟨rfl, rfl⟩
set_option maxRecDepth 100000 in
theorem step_nomem (b : Nat) (w : World) (h0 : w.cell? ⟨b, 0, none⟩ = some (.pointer none)) (h2 : w.cell? ⟨b, 2, none⟩ = some (.func (.func 37) #[.pointer (some ⟨b, 0, none⟩)] #[])) :
    Calls Try.prog 15 #[.pointer (some ⟨b, 0, none⟩)] w fun e w' => e = .returned (.tuple #[.bool true, .int .i64 1]) ∧ w = w' := by
  have hq1 := nil_eq
  have hq2 := fn_eq
  go_enter Try.func15, Try.ntmps15
  go_wp2_with (go_at_call 36; refine (size_nil _).mono ?_; rintro e w1 ⟨rfl, rfl⟩)
  go_ret2
  exact ⟨rfl, rfl⟩
def readCells (b : Nat) (a : Int) : Array Value := #[.pointer none, .int .u64 a, .func (.func 37) #[.pointer (some ⟨b, 0, none⟩)] #[], .slice none 0 0, .string ⟨#[]⟩, .bool false, .int .i64 0]
set_option maxRecDepth 100000 in
theorem new_nil (a : Int) (w : World) : Calls Try.prog 17 #[.pointer none, .int .u64 a] w fun e w' => e = .returned (.pointer (some ⟨w.heap.size, 0, none⟩)) ∧ Blk w' w.heap.size (readCells w.heap.size a) 42 ∧ Below w.heap.size w w' := by
  have HB := Lib.hid (Blk.new w (readCells w.heap.size a) 42)
  have HW := Lib.hid ((Below.refl w.heap.size w).alloc (Nat.le_refl _) (.cells (readCells w.heap.size a) 42))
  go_enter Try.func17, Try.ntmps17
  go_wp2_with (fail)
  go_ret
  exact ⟨rfl, HB.out, HW.out⟩
set_option maxRecDepth 100000 in
theorem vn (w : World) : Calls Try.prog 4 #[] w fun e w' => e = .returned (.bool true) ∧ Below w.heap.size w w' := by
  go_enter Try.func4, Try.ntmps4
  go_wp2_with (fail)
  refine (step_nil _).mono ?_
  rintro e w4 ⟨rfl, rfl⟩
  go_wp2_with (fail)
  have hb := Blk.new w #[.pointer none, .int .u64 0, .nilFunc, .slice none 0 0, .string ⟨#[]⟩, .bool false, .int .i64 0] 42
  have hB1 := (Below.refl w.heap.size w).alloc (Nat.le_refl _) (.cells #[.pointer none, .int .u64 0, .nilFunc, .slice none 0 0, .string ⟨#[]⟩, .bool false, .int .i64 0] 42)
  obtain ⟨bz, hbz⟩ : ∃ bz, w.heap.size = bz := ⟨_, rfl⟩
  have H2 := hb.cell 2
  rw [hbz] at H2 ⊢
  rw [show (#[Value.pointer none, .int .u64 0, .nilFunc, .slice none 0 0, .string ⟨#[]⟩, .bool false, .int .i64 0] : Array Value)[2]? = some .nilFunc from rfl] at H2
  generalize w.alloc (.cells #[.pointer none, .int .u64 0, .nilFunc, .slice none 0 0, .string ⟨#[]⟩, .bool false, .int .i64 0] 42) = w1 at *
  have HB1 := Lib.hid hB1
  have HZ := Lib.hid (step_zero bz w1 H2)
  have HZ2 := Lib.hid (value_zero bz w1 H2)
  have HBZ := Lib.hid hbz
  clear hb hB1 hbz H2
  refine HZ.out.mono ?_
  rintro e w2 ⟨rfl, rfl⟩
  go_wp2_with (fail)
  refine (value_nil _).mono ?_
  rintro e w2 ⟨rfl, rfl⟩
  go_wp2_with (fail)
  refine HZ2.out.mono ?_
  rintro e w2 ⟨rfl, rfl⟩
  go_wp2_with (fail)
  refine (new_nil 64 w1).mono ?_
  rintro e w2 ⟨rfl, hk, hB2⟩
  have k0 := hk.cell 0
  have k2 := hk.cell 2
  have HB2 := Lib.hid (HB1.out.trans (hB2.mono HB1.out.size))
  have HS := Lib.hid (step_nomem w1.heap.size w2 k0 k2)
  clear hk hB2 k0 k2
  go_wp2_with (fail)
  refine HS.out.mono ?_
  rintro e w3 ⟨rfl, rfl⟩
  go_wp2_with (fail)
  refine (parse_nil 1 none 0 w2).mono ?_
  rintro e w5 ⟨rfl, hB5⟩
  have HB5 := Lib.hid (HB2.out.trans (hB5.mono HB2.out.size))
  rw [show parseV 1 [] = ([], 2) by decide]
  clear hB5
  go_wp2_with (fail)
  refine (parse_k 3 [0] w5 (by decide) (by decide) (by decide) ([], 2) (by decide)).mono ?_
  rintro e w6 ⟨rfl, hB⟩
  have HB6 := Lib.hid (HB5.out.trans (hB.mono HB5.out.size))
  clear hB
  go_wp2_with (fail)
  refine (parse_k 1 [9, 1] w6 (by decide) (by decide) (by decide) ([], 2) (by decide)).mono ?_
  rintro e w7 ⟨rfl, hB⟩
  have HB7 := Lib.hid (HB6.out.trans (hB.mono HB6.out.size))
  clear hB
  go_wp2_with (go_at_call 8; refine (known_any _).mono ?_; rintro e w8 ⟨rfl, hB8⟩)
  go_ret
  exact ⟨rfl, HB7.out.trans (hB8.mono HB7.out.size)⟩
end Go.Proofs.Ytegamhjfloebgaa
