/-
  The library's errors of ParseUint, at base 16: contracts.
-/
import Derived.Test.YtnmpgjodndfoiaaDoorPu
import Derived.Lib.AtoiErrMem
namespace Go.Proofs.YtnmpgjodndfoiaaDoor
open Go.RowKit

set_option maxHeartbeats 4000000 in
set_option maxRecDepth 100000 in
theorem sclone_s (s : ByteArray) (w : World) (hlim : s.size ≤ 281474976710656) :
    Calls Tryd.prog 70 #[.string s] w fun e w' => e = .returned (.string s) ∧ Below w.heap.size w w' := by
  by_cases h0 : s.size = 0
  · have hs : s = ⟨#[]⟩ := by
      apply ByteArray.ext
      exact Array.eq_empty_of_size_eq_zero h0
    subst hs
    go_enter Tryd.func70, Tryd.ntmps70
    go_wp2
    go_ret
    exact ⟨rfl, Below.refl _ _⟩
  · obtain ⟨i0, hi, hz0, hz1, hz2⟩ := info_parts Tryd.infoU8P
    have hinfo : (Tryd.prog.info? 5).map (·.size) = some 1 := by rw [hi]; simp [hz1]
    have hco : Tryd.prog.cellsOf 5 = 1 := by simp [Program.cellsOf, hi, hz1]
    obtain ⟨M, hM⟩ : ∃ M, M = madeCells (Value.int .u8 0).cells (((s.size : Nat) : Int).toNat * i0.size) := ⟨_, rfl⟩
    have hMs : M.size = s.size := by rw [hM, size_madeCells, hz1]; simp
    have hmk : ∀ W : World, (Instr.makeSlice 26 (.int .i64 (s.size : Int)) (.int .i64 (s.size : Int))).run Tryd.prog W = .ok (.slice (some ⟨W.heap.size, 0, none⟩) s.size s.size) (W.alloc (.cells M 5)) := fun W => by
      have h := run_make (P := Tryd.prog) W 26 5 i0 (.int .u8 0) Tryd.underlying26 hi hz0 .i64 .i64 (s.size : Int) (s.size : Int) (by omega) (by omega) (by rw [hz2]; omega) (by omega)
      rw [← hM] at h
      simpa using h
    clear hM
    have hcp := Lib.run_copy_row_string (P := Tryd.prog) (w.alloc (.cells M 5)) 26 9 3 5 w.heap.size 0 s.size s.size s M 5 Tryd.underlying26 hinfo (heap_alloc_new w _) (Nat.le_refl _) (by omega)
    obtain ⟨Y, hY⟩ : ∃ Y, Y = (M.toList.take 0 ++ Lib.byteCells s.data.toList ++ M.toList.drop (0 + s.size)).toArray := ⟨_, rfl⟩
    rw [← hY] at hcp
    have hYl : Y.toList = Lib.byteCells s.data.toList := by
      rw [hY, List.toList_toArray, List.take_zero, List.nil_append, List.drop_of_length_le (by rw [Array.length_toList]; omega), List.append_nil]
    have hYs : Y.size = s.size := by rw [← Array.length_toList, hYl, Lib.byteCells_length, ← Lib.size_eq]
    have hgY : ((w.alloc (.cells M 5)).setRow w.heap.size Y).heap[w.heap.size]? = some (.cells Y 5 (0, 0)) := setRow_heap _ _ M _ 5 (0, 0) (heap_alloc_new w _)
    have hne : s.data.toList ≠ [] := fun e => h0 (by rw [Lib.size_eq, e]; rfl)
    have hUS := Lib.run_unsafeString_row (P := Tryd.prog) ((w.alloc (.cells M 5)).setRow w.heap.size Y) 93 3 9 5 Tryd.underlying93 hco w.heap.size Y.size (by unfold World.shape?; rw [hgY]) s.data.toList hne (by rw [← Lib.size_eq]; omega) (by rw [← Lib.size_eq]; omega)
      (fun j x hx => Lib.cells_of_row hgY Y.size j _ (by rw [List.take_of_length_le (by rw [Array.length_toList]; exact Nat.le_refl _), hYl]; simp [Lib.byteCells, hx]))
    rw [← Lib.size_eq] at hUS
    clear hY
    go_enter Tryd.func70, Tryd.ntmps70
    go_wp2
    go_ret
    have hb1 : Below w.heap.size w (w.alloc (.cells M 5)) := (Below.refl _ w).alloc (Nat.le_refl _) _
    have hb2 : Below w.heap.size (w.alloc (.cells M 5)) ((w.alloc (.cells M 5)).setRow w.heap.size Y) := ⟨rfl, rfl, rfl, by simp, fun k hk => setRow_other _ _ _ _ (by omega)⟩
    exact ⟨rfl, Lib.below_freeze (hb1.trans hb2) (p := ⟨w.heap.size, 0, none⟩) (Nat.le_refl _) _⟩

/-- the two errors of the library lie where their variables are -/
def ErrVars (w : World) : Prop := (∃ te pe, w.cell? ⟨1, 0, none⟩ = some (.iface te pe)) ∧ ∃ te pe, w.cell? ⟨2, 0, none⟩ = some (.iface te pe)
theorem ErrVars.below {w w' : World} (h : ErrVars w) (hB : Below w.heap.size w w') : ErrVars w' := by
  obtain ⟨⟨a, b, h1⟩, ⟨c, d, h2⟩⟩ := h
  exact ⟨⟨a, b, (hB.cell (p := ⟨1, 0, none⟩) (World.block_lt_of_cell? w _ h1)).trans h1⟩, ⟨c, d, (hB.cell (p := ⟨2, 0, none⟩) (World.block_lt_of_cell? w _ h2)).trans h2⟩⟩

def NumE (w : World) (e : Ending) (w' : World) : Prop := ∃ N, e = .returned (.pointer (some ⟨N, 0, none⟩)) ∧ Below w.heap.size w w'
set_option maxHeartbeats 6400000 in
set_option maxRecDepth 100000 in
theorem synerr (fn s : ByteArray) (w : World) (hlim : s.size ≤ 281474976710656) (h : ErrVars w) :
    Calls Tryd.prog 59 #[.string fn, .string s] w fun e w' => NumE w e w' := by
  obtain ⟨⟨te, pe, hv⟩, _⟩ := h
  have hG : 1 < w.heap.size := World.block_lt_of_cell? w _ hv
  have hvd : w.drew.cell? ⟨1, 0, none⟩ = some (.iface te pe) := hv
  go_enter Tryd.func59, Tryd.ntmps59
  go_wp2
  go_region_with (go_at_call 70; refine (sclone_s s _ hlim).mono ?_; rintro e w2 ⟨rfl, hbel⟩; have hv2 : w2.cell? ⟨1, 0, none⟩ = some (.iface te pe) := (hbel.cell (show (⟨1, 0, none⟩ : Addr).block < w.drew.heap.size from hG)).trans hvd)
  all_goals
    go_wp2
    go_ret
    have hs2 : w.heap.size ≤ w2.heap.size := hbel.size
    exact ⟨_, rfl, ((Below.drew (Below.refl _ w)).trans hbel).alloc hs2 _⟩
set_option maxHeartbeats 6400000 in
set_option maxRecDepth 100000 in
theorem rngerr (fn s : ByteArray) (w : World) (hlim : s.size ≤ 281474976710656) (h : ErrVars w) :
    Calls Tryd.prog 60 #[.string fn, .string s] w fun e w' => NumE w e w' := by
  obtain ⟨_, ⟨te, pe, hv⟩⟩ := h
  have hG : 2 < w.heap.size := World.block_lt_of_cell? w _ hv
  have hvd : w.drew.cell? ⟨2, 0, none⟩ = some (.iface te pe) := hv
  go_enter Tryd.func60, Tryd.ntmps60
  go_wp2
  go_region_with (go_at_call 70; refine (sclone_s s _ hlim).mono ?_; rintro e w2 ⟨rfl, hbel⟩; have hv2 : w2.cell? ⟨2, 0, none⟩ = some (.iface te pe) := (hbel.cell (show (⟨2, 0, none⟩ : Addr).block < w.drew.heap.size from hG)).trans hvd)
  all_goals
    go_wp2
    go_ret
    have hs2 : w.heap.size ≤ w2.heap.size := hbel.size
    exact ⟨_, rfl, ((Below.drew (Below.refl _ w)).trans hbel).alloc hs2 _⟩

def IfE (w : World) (e : Ending) (w' : World) : Prop := ∃ N, e = .returned (.iface 96 (.pointer (some ⟨N, 0, none⟩))) ∧ Below w.heap.size w w'
theorem errInt : Tryd.prog.underlying 94 = some (.int .i64) := Tryd.underlying94
theorem eqE (W : World) (a b : Int) : (binOp .eql 66 (.iface 94 (.int .i64 a)) (.iface 94 (.int .i64 b))).run Tryd.prog W = .ok (.bool (a == b)) W :=
  Lib.run_eql_iface_int W a b Tryd.underlying66 (by kernel_rfl) Tryd.underlying94
set_option maxHeartbeats 4000000 in
set_option maxRecDepth 100000 in
theorem toerr_syn (fn s : ByteArray) (base bb : Int) (w : World) (hlim : s.size ≤ 281474976710656) (h : ErrVars w) :
    Calls Tryd.prog 47 #[.string fn, .string s, .int .i64 base, .int .i64 bb, .iface 94 (.int .i64 2)] w fun e w' => IfE w e w' := by
  have heq : ∀ W, (binOp .eql 66 (.iface 94 (.int .i64 2)) (.iface 94 (.int .i64 2))).run Tryd.prog W = .ok (.bool true) W := fun W => eqE W 2 2
  have HS := Lib.hid (synerr fn s w hlim h)
  clear h
  go_enter Tryd.func47, Tryd.ntmps47
  go_wp2_with (go_at_call 59; refine HS.out.mono ?_; rintro e w2 ⟨N, rfl, hb⟩)
  go_ret
  exact ⟨N, rfl, hb⟩
set_option maxHeartbeats 4000000 in
set_option maxRecDepth 100000 in
theorem toerr_rng (fn s : ByteArray) (base bb : Int) (w : World) (hlim : s.size ≤ 281474976710656) (h : ErrVars w) :
    Calls Tryd.prog 47 #[.string fn, .string s, .int .i64 base, .int .i64 bb, .iface 94 (.int .i64 1)] w fun e w' => IfE w e w' := by
  have heq : ∀ W, (binOp .eql 66 (.iface 94 (.int .i64 1)) (.iface 94 (.int .i64 2))).run Tryd.prog W = .ok (.bool false) W := fun W => eqE W 1 2
  have heq2 : ∀ W, (binOp .eql 66 (.iface 94 (.int .i64 1)) (.iface 94 (.int .i64 1))).run Tryd.prog W = .ok (.bool true) W := fun W => eqE W 1 1
  have HS := Lib.hid (rngerr fn s w hlim h)
  clear h
  go_enter Tryd.func47, Tryd.ntmps47
  go_wp2_with (go_at_call 60; refine HS.out.mono ?_; rintro e w2 ⟨N, rfl, hb⟩)
  go_ret
  exact ⟨N, rfl, hb⟩

/-- ParseUint's answer at base 16 -/
def PuP (s : ByteArray) (w : World) (e : Ending) (w' : World) : Prop :=
  (∃ u, pu16 0 s.data.toList = some (some u) ∧ s.size ≠ 0 ∧ e = .returned (.tuple #[.int .u64 (u : Int), .nilIface]) ∧ Below w.heap.size w w') ∨ ((∀ u, s.size ≠ 0 → pu16 0 s.data.toList ≠ some (some u)) ∧ ∃ x N, e = .returned (.tuple #[.int .u64 x, .iface 96 (.pointer (some ⟨N, 0, none⟩))]) ∧ Below w.heap.size w w')
set_option maxHeartbeats 4000000 in
set_option maxRecDepth 100000 in
theorem pu_v (s : ByteArray) (hlim : s.size ≤ 1000000) (w : World) (h : ErrVars w) :
    Calls Tryd.prog 37 #[.string s, .int .i64 16, .int .i64 64] w fun e w' => PuP s w e w' := by
  by_cases h0 : s.size = 0
  · have hs : s = ⟨#[]⟩ := by
      apply ByteArray.ext
      exact Array.eq_empty_of_size_eq_zero h0
    subst hs
    have HS := Lib.hid (toerr_syn ⟨#[80, 97, 114, 115, 101, 85, 105, 110, 116]⟩ ⟨#[]⟩ 16 64 w (by decide) h)
    have HI : Calls Tryd.prog 46 #[.string ⟨#[]⟩, .int .i64 16, .int .i64 64] w fun e w' => e = .returned (.tuple #[.int .u64 0, .iface 94 (.int .i64 2)]) ∧ w = w' := by
      go_enter Tryd.func46, Tryd.ntmps46
      go_wp2
      go_ret2
      exact ⟨rfl, rfl⟩
    have HI := Lib.hid HI
    clear h h0
    go_enter Tryd.func37, Tryd.ntmps37
    go_wp2_with (first | (go_at_call 46; refine HI.out.mono ?_; rintro e w2 ⟨rfl, rfl⟩) | (go_at_call 47; refine HS.out.mono ?_; rintro e w2 ⟨N, rfl, hb⟩))
    go_ret2
    exact .inr ⟨fun u hu => absurd rfl hu, _, N, rfl, hb⟩
  · have HI := Lib.hid (ipu_v s h0 hlim w)
    have HB := Lib.hid (Lib.bytesWorld_below w 5 s)
    have HE := Lib.hid (h.below HB.out)
    have H0 := Lib.hid h0
    clear h h0
    match hp : pu16 0 s.data.toList with
    | some (some u) =>
      rw [hp] at HI
      have HI : Hid (Calls Tryd.prog 46 #[.string s, .int .i64 16, .int .i64 64] w fun e w' => e = .returned (.tuple #[.int .u64 u, .nilIface]) ∧ w' = Lib.bytesWorld w 5 s) := HI
      have HP := Lib.hid hp
      clear hp
      go_enter Tryd.func37, Tryd.ntmps37
      go_wp2_with (go_at_call 46; refine HI.out.mono ?_; rintro e w2 ⟨rfl, rfl⟩)
      go_ret2
      exact .inl ⟨u, HP.out, H0.out, rfl, HB.out⟩
    | none =>
      rw [hp] at HI
      have HI : Hid (Calls Tryd.prog 46 #[.string s, .int .i64 16, .int .i64 64] w fun e w' => e = .returned (.tuple #[.int .u64 0, .iface 94 (.int .i64 2)]) ∧ w' = Lib.bytesWorld w 5 s) := HI
      have HS := Lib.hid (toerr_syn ⟨#[80, 97, 114, 115, 101, 85, 105, 110, 116]⟩ s 16 64 (Lib.bytesWorld w 5 s) (by omega) HE.out)
      have HP := Lib.hid hp
      clear hp
      go_enter Tryd.func37, Tryd.ntmps37
      go_wp2_with (first | (go_at_call 46; refine HI.out.mono ?_; rintro e w2 ⟨rfl, rfl⟩) | (go_at_call 47; refine HS.out.mono ?_; rintro e w2 ⟨N, rfl, hb⟩))
      go_ret2
      exact .inr ⟨fun u _ => by rw [HP.out]; simp, _, N, rfl, HB.out.trans (hb.mono HB.out.size)⟩
    | some none =>
      rw [hp] at HI
      have HI : Hid (Calls Tryd.prog 46 #[.string s, .int .i64 16, .int .i64 64] w fun e w' => e = .returned (.tuple #[.int .u64 18446744073709551615, .iface 94 (.int .i64 1)]) ∧ w' = Lib.bytesWorld w 5 s) := HI
      have HS := Lib.hid (toerr_rng ⟨#[80, 97, 114, 115, 101, 85, 105, 110, 116]⟩ s 16 64 (Lib.bytesWorld w 5 s) (by omega) HE.out)
      have HP := Lib.hid hp
      clear hp
      go_enter Tryd.func37, Tryd.ntmps37
      go_wp2_with (first | (go_at_call 46; refine HI.out.mono ?_; rintro e w2 ⟨rfl, rfl⟩) | (go_at_call 47; refine HS.out.mono ?_; rintro e w2 ⟨N, rfl, hb⟩))
      go_ret2
      exact .inr ⟨fun u _ => by rw [HP.out]; simp, _, N, rfl, HB.out.trans (hb.mono HB.out.size)⟩
end Go.Proofs.YtnmpgjodndfoiaaDoor
