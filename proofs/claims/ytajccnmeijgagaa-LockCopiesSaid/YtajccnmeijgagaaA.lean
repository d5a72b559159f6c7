/-
  CONTRACTS OF THE LOCK TABLE's SMALL METHODS.
-/
import Derived.Test.YtajccnmeijgagaaChecked
import Derived.Test.YtajccnmeijgagaaLib
import Derived.Test.YtajccnmeijgagaaMl
import Derived.Maps.OwnOps
import Derived.Maps.OwnSet
import Derived.RegionTactic
import Derived.BigQuiet
import Derived.Deep.QuietTactic
import Derived.Outline
namespace Go.Proofs.Ytajccnmeijgagaa
open Go.RowKit Go.Maps

theorem law29 : Keyed Try.prog 29 := int_keyed Try.underlying29
theorem zero3 (w : World) : (zeroValue 3).run Try.prog w = .ok (.int .i64 0) w := by kernel_rfl

def tabCells (n : Int) (m : Nat) (W : Nat → Int) : Array Value := (Value.int .i64 n :: Value.map (some m) :: (List.range 64).map (fun i => Value.int .u64 (W i))).toArray

def updN (W : Nat → Int) (i : Nat) (v : Int) : Nat → Int := fun j => if j = i then v else W j

theorem tabCells_0 (n : Int) (m : Nat) (W : Nat → Int) : (tabCells n m W)[0]? = some (.int .i64 n) := by simp [tabCells]
theorem tabCells_1 (n : Int) (m : Nat) (W : Nat → Int) : (tabCells n m W)[1]? = some (.map (some m)) := by simp [tabCells]
theorem tabCells_w' (n : Int) (m : Nat) (W : Nat → Int) (i : Nat) : (tabCells n m W)[2 + i]? = if i < 64 then some (.int .u64 (W i)) else none := by
  rw [Nat.add_comm]
  by_cases h : i < 64 <;> simp [tabCells, h]
theorem tabCells_w (n : Int) (m : Nat) (W : Nat → Int) (i : Nat) (h : i < 64) : (tabCells n m W)[2 + i]? = some (.int .u64 (W i)) := by
  rw [tabCells_w', if_pos h]
theorem tabCells_set (n : Int) (m : Nat) (W : Nat → Int) (i : Nat) (v : Int) (h : i < 64) : (tabCells n m W).setIfInBounds (2 + i) (.int .u64 v) = tabCells n m (updN W i v) := by
  apply Array.ext_getElem?
  intro j
  rw [Array.getElem?_setIfInBounds]
  have hsz : (tabCells n m W).size = 66 := by simp [tabCells]
  rw [hsz]
  match j with
  | 0 => rw [if_neg (by omega), tabCells_0, tabCells_0]
  | 1 => rw [if_neg (by omega), tabCells_1, tabCells_1]
  | k + 2 =>
    rw [Nat.add_comm k 2, tabCells_w', tabCells_w']
    by_cases hk : i = k
    · subst hk; simp [updN, h]; omega
    · rw [if_neg (by omega)]; simp [updN, show ¬ k = i by omega]

/-- THE TABLE IN MEMORY: block b its fields, block m its map. -/
structure Tab (w : World) (b m : Nat) (n : Int) (h : Int → Option Int) (W : Nat → Int) (k : Nat) : Prop where
  blk : Blk w b (tabCells n m W) 59
  map : ∃ D : DataW Unit, w.ownsMap Try.prog 29 (plainElem Try.prog 3) m k D ∧ ∀ a, hold D a = h a
  wf : ∀ i, i < 64 → (Lit.int .u64 (W i)).wf = true

theorem Tab.ne {w : World} {b m : Nat} {n : Int} {h : Int → Option Int} {W : Nat → Int} {k : Nat} (t : Tab w b m n h W k) : b ≠ m := by
  intro e; subst e
  obtain ⟨D, ⟨es, cl, hb, _⟩, _⟩ := t.map
  have := t.blk; unfold Blk at this; rw [this] at hb; cases hb
theorem Tab.kept {S : Nat → Prop} {w w' : World} {b m : Nat} {n : Int} {h : Int → Option Int} {W : Nat → Int} {k : Nat} (t : Tab w b m n h W k) (hk : Keeps S w w') (hb : ¬ S b) (hm : ¬ S m) : Tab w' b m n h W k := by
  obtain ⟨D, hD, hh⟩ := t.map
  refine ⟨t.blk.kept hk hb, ⟨D, ?_, hh⟩, t.wf⟩
  have hlt := hD.lt
  obtain ⟨es, cl, hb', r⟩ := hD
  exact ⟨es, cl, (hk.block m hlt hm).trans hb', r⟩

theorem there_yes (b : Nat) (n : Int) (hn : 0 < n) (w : World) (c0 : w.cell? ⟨b, 0, none⟩ = some (.int .i64 n)) :
    Calls Try.prog 26 #[.pointer (some ⟨b, 0, none⟩)] w fun e w' => e = .returned (.bool true) ∧ w = w' := by
  go_enter Try.func26, Try.ntmps26
  go_wp2
  go_ret
  exact ⟨rfl, rfl⟩

theorem client_yes (b : Nat) (n c : Int) (h0 : 0 ≤ c) (h1 : c < n) (w : World) (c0 : w.cell? ⟨b, 0, none⟩ = some (.int .i64 n)) :
    Calls Try.prog 22 #[.pointer (some ⟨b, 0, none⟩), .int .i64 c] w fun e w' => e = .returned (.bool true) ∧ w = w' := by
  go_enter Try.func22, Try.ntmps22
  go_wp2_with (go_at_call 26; refine (there_yes b n (by omega) _ c0).mono ?_; rintro e w' ⟨rfl, rfl⟩)
  go_ret
  exact ⟨rfl, rfl⟩

theorem client_no (b : Nat) (n c : Int) (hn : 0 < n) (h : c < 0 ∨ n ≤ c) (w : World) (c0 : w.cell? ⟨b, 0, none⟩ = some (.int .i64 n)) :
    Calls Try.prog 22 #[.pointer (some ⟨b, 0, none⟩), .int .i64 c] w fun e w' => e = .returned (.bool false) ∧ w = w' := by
  rcases h with h | h
  · go_enter Try.func22, Try.ntmps22
    go_wp2_with (go_at_call 26; refine (there_yes b n (by omega) _ c0).mono ?_; rintro e w' ⟨rfl, rfl⟩)
    go_ret
    exact ⟨rfl, rfl⟩
  · have h2 : 0 ≤ c := by omega
    have h3 : decide (c < n) = false := by simp; omega
    go_enter Try.func22, Try.ntmps22
    go_wp2_with (go_at_call 26; refine (there_yes b n (by omega) _ c0).mono ?_; rintro e w' ⟨rfl, rfl⟩)
    go_ret
    exact ⟨rfl, rfl⟩

theorem new_no (n : Int) (h : n < 1 ∨ 64 < n) (w : World) :
    Calls Try.prog 8 #[.int .i64 n] w fun e w' => e = .returned (.tuple #[.pointer none, .int .i64 2]) ∧ w = w' := by
  rcases h with h | h
  · go_enter Try.func8, Try.ntmps8
    go_wp2
    go_ret2
    exact ⟨rfl, rfl⟩
  · have h2 : ¬ n < 1 := by omega
    go_enter Try.func8, Try.ntmps8
    go_wp2
    go_ret2
    exact ⟨rfl, rfl⟩

theorem zeroV59 (w : World) : (zeroValue 59).run Try.prog w = .ok (.agg #[.int .i64 0, .map none, .int .u64 0, .int .u64 0, .int .u64 0, .int .u64 0, .int .u64 0, .int .u64 0, .int .u64 0, .int .u64 0, .int .u64 0, .int .u64 0, .int .u64 0, .int .u64 0, .int .u64 0, .int .u64 0, .int .u64 0, .int .u64 0, .int .u64 0, .int .u64 0, .int .u64 0, .int .u64 0, .int .u64 0, .int .u64 0, .int .u64 0, .int .u64 0, .int .u64 0, .int .u64 0, .int .u64 0, .int .u64 0, .int .u64 0, .int .u64 0, .int .u64 0, .int .u64 0, .int .u64 0, .int .u64 0, .int .u64 0, .int .u64 0, .int .u64 0, .int .u64 0, .int .u64 0, .int .u64 0, .int .u64 0, .int .u64 0, .int .u64 0, .int .u64 0, .int .u64 0, .int .u64 0, .int .u64 0, .int .u64 0, .int .u64 0, .int .u64 0, .int .u64 0, .int .u64 0, .int .u64 0, .int .u64 0, .int .u64 0, .int .u64 0, .int .u64 0, .int .u64 0, .int .u64 0, .int .u64 0, .int .u64 0, .int .u64 0, .int .u64 0, .int .u64 0]) w := by kernel_rfl

set_option maxRecDepth 100000 in
theorem new_yes (n : Int) (h1 : 1 ≤ n) (h2 : n ≤ 64) (w : World) :
    Calls Try.prog 8 #[.int .i64 n] w fun e w' => e = .returned (.tuple #[.pointer (some ⟨w.heap.size + 1, 0, none⟩), .int .i64 0]) ∧ w' = (w.alloc (.map #[] 0)).alloc (.cells (tabCells n w.heap.size (fun _ => 0)) 59) := by
  have hmm := @run_makeMap Try.prog
  have hbb := zeroV59
  go_enter Try.func8, Try.ntmps8
  go_wp2
  clear hmm hbb
  go_ret2
  exact ⟨rfl, rfl⟩
end Go.Proofs.Ytajccnmeijgagaa
