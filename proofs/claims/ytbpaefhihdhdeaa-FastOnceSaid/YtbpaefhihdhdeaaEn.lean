/-
  THE ITERATOR OVER A NODE's ENTRIES: its contract; Len.
-/
import Derived.Test.YtbpaefhihdhdeaaNd
import Derived.RangeFuncNested
import Derived.RangeFuncBound
import Derived.RangeFuncCalls
import Derived.RangeFuncLeaves
import Derived.RangeFuncBox
import Derived.Shelf.Abstract
import Derived.Shelf.RegionOpen
import Derived.OwnWalkIn
import Derived.TacticsInMore
import Derived.LoopNIn
import Derived.LoopIn
import Derived.Outline
namespace Go.Proofs.Ytbpaefhihdhdeaa
open Go.RowKit Go.Shelf
attribute [local go_sem] Oper.semAt_some

/-- the pointer ahead of a place -/
def Nd.ahead (n : Nd) : Nat → Int
  | 0 => n.fi
  | i + 1 => n.p i
/-- how many entries there are, of those from a place on, at most d -/
def Nd.lenFrom (n : Nd) : Nat → Nat → Nat
  | 0, _ => 0
  | d + 1, i => if n.p i = 0 then 0 else n.lenFrom d (i + 1) + 1
def Nd.len (n : Nd) : Nat := n.lenFrom 8 0
def Nd.ents (n : Nd) : List (Int × Bool) := (List.range n.len).map (fun (i : Nat) => ((i : Int), n.p i != n.ahead i))

theorem lenFrom_le (n : Nd) : ∀ d i, n.lenFrom d i ≤ d := by
  intro d
  induction d with
  | zero => intro i; simp [Nd.lenFrom]
  | succ d ih => intro i; unfold Nd.lenFrom; split; omega; have := ih (i + 1); omega
theorem Nd.len_le (n : Nd) : n.len ≤ 8 := lenFrom_le n 8 0
theorem lenFrom_lt (n : Nd) : ∀ d i j, i ≤ j → j < i + n.lenFrom d i → n.p j ≠ 0 := by
  intro d
  induction d with
  | zero => intro i j h1 h2; simp [Nd.lenFrom] at h2; omega
  | succ d ih =>
    intro i j h1 h2
    unfold Nd.lenFrom at h2
    split at h2
    · omega
    · rename_i hp
      by_cases e : j = i
      · subst e; exact hp
      · exact ih (i + 1) j (by omega) (by omega)
theorem lenFrom_end (n : Nd) : ∀ d i, n.lenFrom d i < d → n.p (i + n.lenFrom d i) = 0 := by
  intro d
  induction d with
  | zero => intro i h; omega
  | succ d ih =>
    intro i h
    unfold Nd.lenFrom at h ⊢
    split
    · rename_i hp; simpa using hp
    · rename_i hp
      rw [if_neg hp] at h
      have := ih (i + 1) (by omega)
      rw [show i + (n.lenFrom d (i + 1) + 1) = i + 1 + n.lenFrom d (i + 1) by omega]
      exact this
theorem Nd.p_lt (n : Nd) (j : Nat) (h : j < n.len) : n.p j ≠ 0 := lenFrom_lt n 8 0 j (by omega) (by unfold Nd.len at h; omega)
theorem Nd.p_len (n : Nd) (h : n.len < 8) : n.p n.len = 0 := by
  have := lenFrom_end n 8 0 h
  simpa [Nd.len] using this

theorem ents_len (n : Nd) : n.ents.length = n.len := by simp [Nd.ents]
theorem ents_take (n : Nd) (k : Nat) (h : k < n.len) : n.ents.take k ++ [((k : Int), n.p k != n.ahead k)] = n.ents.take (k + 1) := by
  rw [List.take_succ_eq_append_getElem (by rw [ents_len]; exact h)]
  simp [Nd.ents]
theorem ents_all (n : Nd) : n.ents.take n.len = n.ents := List.take_of_length_le (by rw [ents_len]; exact Nat.le_refl _)

def encE (x : Int × Bool) : Array Value := #[.int .i64 x.1, .bool x.2]
def AnyW : World → World → Prop := fun _ _ => True

set_option maxHeartbeats 1000000 in
set_option maxRecDepth 100000 in
theorem entries_stops (m : Nat) (hm : 1 ≤ m) (n : Nd) (b : Nat) (w : World) (hb : Blk w b (ndCells n) 27) :
    SeqStopsK Fence.wide m Try.prog 68 #[.pointer (some ⟨b, 0, none⟩)] encE AnyW (fun xs => xs = n.ents) (fun pre => pre <+: n.ents) 8 w := by
  intro l J Jx W hW _ _ hY h0
  have hB : Blk W b (ndCells n) 27 := (hW.block b hb.lt).trans hb
  have c4 : W.cell? ⟨b, 4, none⟩ = some (.int .u64 n.fi) := by rw [hB.cell, ndCells_4]
  have cp := Lib.hid (show ∀ j v, (ptrsA n)[j]? = some v → W.cell? ⟨b, 13 + j, none⟩ = some v from fun j v hv => by
    have hj : j < 8 := by
      have := (Array.getElem?_eq_some_iff.1 hv).1
      rwa [ptrsA_size] at this
    rw [ptrsA_get n j hj] at hv
    rw [hB.cell, ndCells_p n j hj, hv])
  have h8 : (Try.prog.info? 25).map (·.size) = some (ptrsA n).size := by rw [ptrsA_size]; kernel_rfl
  have H8 := Lib.hid h8
  clear h8 hB hb hW
  refine callsIn_of_wp Try.func68 rfl trivial ?_ rfl
  simp only [Try.ntmps68, List.size_toArray, List.length_cons, List.length_nil, Nat.reduceAdd, Nat.reduceSub, Array.replicate_succ, Array.replicate_zero, List.push_toArray, List.append_toArray, List.nil_append, List.cons_append]
  gi_wp2_with (with_reducible refine wpListIn_load_part (o := ⟨some 9, _, _, _, _, _⟩) rfl 25 _ rfl b 13 rfl (ptrsA n) _ cp.out Try.underlying25 rfl H8.out ?_)
  gi_loopw [3, 10] (fun av iv wr => ∃ k : Nat, k ≤ n.len ∧ iv = .int .i64 k ∧ av = .int .u64 (n.ahead k) ∧ J (n.ents.take k) wr) (fun _ iv _ => 9 - (intOf iv).toNat)
  case atStart => exact ⟨0, Nat.zero_le _, rfl, rfl, h0⟩
  case round =>
    obtain ⟨k, hk, rfl, rfl, hJ⟩ := hrel
    have hl8 := n.len_le
    have HP := Lib.hid (ptrsA_get n)
    by_cases hk8 : k < 8
    · have hix := HP.out k hk8
      by_cases hz : n.p k = 0
      · have hkl : k = n.len := by
          rcases Nat.lt_or_ge k n.len with h | h
          · exact absurd hz (n.p_lt k h)
          · omega
        have hJ' : J n.ents wr := by rw [← ents_all, ← hkl]; exact hJ
        have HJ := Lib.hid hJ'
        clear hkl hJ' hJ
        rw [hz] at hix
        have HX := Lib.hid hix
        clear hz hix
        gi_wp2_with (with_reducible refine wpListIn_index_arr (o := ⟨some 13, _, _, _, _, _⟩) rfl 25 23 8 _ _ rfl (ptrsA n) .i64 k (.int .u64 0) rfl rfl Try.underlying25 (Try.sizeOf23 _) (Try.isAgg23 _) hk8 HX.out ?_)
        refine ⟨fun _ h => (by cases h), ?_⟩
        gi_wp2
        refine bodyPost_ret (results_none rfl _ _ _) rfl ?_
        exact ⟨⟨_, rfl⟩, .inl ⟨_, rfl, HJ.out⟩⟩
      · have hkl : k < n.len := by
          rcases Nat.lt_or_ge k n.len with h | h
          · exact h
          · exact absurd (by rw [show k = n.len by omega] at hk8 ⊢; exact n.p_len hk8) hz
        obtain ⟨fn, tmps, assign, body, hy, hR⟩ := hY _ ((k : Int), n.p k != n.ahead k) wr hJ (by rw [List.length_take]; omega)
        rw [ents_take n k hkl] at hR
        dsimp only [encE] at hy
        have hpre := Lib.hid (show n.ents.take (k + 1) <+: n.ents from List.take_prefix _ _)
        obtain ⟨y, hyd⟩ : ∃ y, y = n.p k := ⟨_, rfl⟩
        have hyn : Hid (Value.int .u64 (n.ahead (k + 1)) = .int .u64 y) := by rw [hyd]; exact rfl
        rw [← hyd] at hz hix hy
        have hz' : (y == 0) = false := by simpa using hz
        have HX := Lib.hid hix
        clear hyd hz hix hJ
        gi_wp2_with (with_reducible refine wpListIn_index_arr (o := ⟨some 13, _, _, _, _, _⟩) rfl 25 23 8 _ _ rfl (ptrsA n) .i64 k (.int .u64 y) rfl rfl Try.underlying25 (Try.sizeOf23 _) (Try.isAgg23 _) hk8 HX.out ?_)
        refine hR.mono ?_
        rintro e W3 (⟨rfl, hJ3, _⟩ | ⟨rfl, hJx3⟩)
        · gi_wp2
          go_roundw
          case rel => exact ⟨k + 1, by omega, by go_num, hyn.out.symm, hJ3⟩
          case measure => simp [intOf]; omega
        · gi_wp2
          refine bodyPost_ret (results_none rfl _ _ _) rfl ?_
          exact ⟨⟨_, rfl⟩, .inr ⟨_, hpre.out, hJx3⟩⟩
    · have hkl : k = n.len := by omega
      have hJ' : J n.ents wr := by rw [← ents_all, ← hkl]; exact hJ
      have HJ := Lib.hid hJ'
      clear hkl hJ' hJ
      gi_wp2
      go_end0
      exact ⟨⟨_, rfl⟩, .inl ⟨_, rfl, HJ.out⟩⟩
end Go.Proofs.Ytbpaefhihdhdeaa
