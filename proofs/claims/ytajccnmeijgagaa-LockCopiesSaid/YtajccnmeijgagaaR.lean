/-
  CONTRACT OF THE LOCK TABLE: Runs.
-/
import Derived.Test.YtajccnmeijgagaaD
import Derived.Test.YtajccnmeijgagaaS
import Derived.WalkMore
import Derived.Maps.AppendAt
namespace Go.Proofs.Ytajccnmeijgagaa
open Go.RowKit Go.Maps

/-- On whom a client waits. -/
def nxt (h : Int → Option Int) (W : Nat → Int) (c : Int) : Option Int := match h (W c.toNat) with
  | some x => if x = c then none else some x
  | none => none

def runsF (nx : Int → Option Int) : Nat → List Int → Int → Int
  | 0, _, c => c
  | f + 1, way, c => match nx c with
    | none => c
    | some x => if x ∈ way ++ [c] then minL ((way ++ [c]).drop ((way ++ [c]).idxOf x)) else runsF nx f (way ++ [c]) x

theorem Tab.drewN {w : World} {b m : Nat} {n : Int} {h : Int → Option Int} {W : Nat → Int} {k : Nat} (t : Tab w b m n h W k) (q : Nat) : Tab (w.drewN q) b m n h W k := ⟨t.blk, t.map, t.wf⟩

theorem Try.info3 : (Try.prog.info? 3).map (fun i => (i.zero, i.size, i.bytes)) = some (some (.int .i64 0), 1, 8) := by kernel_rfl

set_option maxRecDepth 100000 in
theorem runs_any (w : World) (b m : Nat) (n : Int) (h : Int → Option Int) (W : Nat → Int) (k : Nat) (t : Tab w b m n h W k) (c : Int) (h0 : 0 ≤ c) (h1 : c < n) (h2 : n ≤ 64) (hv : ∀ a x, h a = some x → 0 ≤ x ∧ x < n) :
    Calls Try.prog 10 #[.pointer (some ⟨b, 0, none⟩), .int .i64 c] w fun e w' => e = .returned (.int .i64 (runsF (nxt h W) (n.toNat + 1) [] c)) ∧ Keeps NoB w w' := by
  obtain ⟨i0, hi, hz0, hz1, hz2⟩ := info_parts Try.info3
  obtain ⟨R, hR⟩ : ∃ R, R = runsF (nxt h W) (n.toNat + 1) [] c := ⟨_, rfl⟩
  rw [← hR]
  have HV := Lib.hid hv
  have HT := Lib.hid t
  have c0 := t.c0
  clear hv t
  have HR := Lib.hid hR
  clear hR
  go_enter Try.func10, Try.ntmps10
  go_wp2_with (fail)
  go_step3
  go_wp2_with (go_at_call 22; refine (client_yes b n _ h0 h1 _ c0).mono ?_; rintro e w' ⟨rfl, rfl⟩)
  go_step3
  go_wp2_with (fail)
  go_loopw [1, 5] (fun cv v wr => ∃ (way : List Int) (x : Int), cv = .int .i64 x ∧ 0 ≤ x ∧ x < n ∧ way.Nodup ∧ (∀ y ∈ way, 0 ≤ y ∧ y < n) ∧ x ∉ way ∧ wr.ownsRow w.heap.size 3 1 v way.length (way.map (Value.int .i64)) ∧ Keeps NoB w wr ∧ Hid (R = runsF (nxt h W) (n.toNat + 1 - way.length) way x)) (fun _ v _ => 65 - lenOf v)
  case atStart => exact ⟨[], c, rfl, h0, h1, List.nodup_nil, by simp, by simp, World.ownsRow_nil _ _ _ _, Keeps.refl _ _, HR⟩
  case round =>
    obtain ⟨way, x, rfl, hx0, hx1, hnd, hall, hnew, hown, hk, hr⟩ := hrel
    have hlen := nodup_length way n.toNat hnd (fun y hy => by have := hall y hy; omega)
    obtain ⟨j, rfl⟩ := Int.eq_ofNat_of_zero_le hx0
    have hnd' : (way ++ [(j : Int)]).Nodup := List.nodup_append.2 ⟨hnd, by simp, fun a ha b hb => by
      simp only [List.mem_singleton] at hb; subst hb; exact fun e => hnew (e ▸ ha)⟩
    have hall' : ∀ y ∈ way ++ [(j : Int)], 0 ≤ y ∧ y < n := fun y hy => by
      rcases List.mem_append.1 hy with h | h
      · exact hall y h
      · simp only [List.mem_singleton] at h; subst h; exact ⟨by omega, hx1⟩
    have hlen' := nodup_length _ n.toNat hnd' (fun y hy => by have := hall' y hy; omega)
    rw [List.length_append, List.length_singleton] at hlen'
    have hf : n.toNat + 1 - way.length = (n.toNat - way.length) + 1 := by omega
    rw [hf] at hr
    have A0 := Lib.hid (own_len hown)
    have A1 := Lib.hid hnd'
    have A2 := Lib.hid hall'
    have A3 := Lib.hid hlen'
    clear hnd hall hnew hnd' hall' hf
    have hks := hk.size
    go_wp2_with (at_builtin; refine wpList_append_own _ rfl _ _ 61 rfl w.heap.size 3 i0 (.int .i64 0) 1 8 Try.underlying61 hi hz0 hz1 hz2 rfl (by decide) _ _ _ rfl (hown.alloc _) ⟨wr.heap.size, 0, none⟩ 1 1 [.int .i64 j] rfl rfl (cell_one_new _ _ _) (ints_oneCell .i64 [(j : Int)]) (by unfold maxLen; omega) (by omega) (by simp; omega) ?_)
    intro v' w1 hown' hgrow hnil
    obtain ⟨g, cap, rfl, hg1, hg2, hg3, hg4, hg5, hg6, hg7⟩ := own_shape hown' (by omega)
    have K1 : Keeps NoB w w1 := (hk.alloc _).grown hgrow (fun k e => .inr (own_base hown k e))
    have T1 := HT.out.kept K1 id id
    have e0 := T1.c0
    have ew := T1.cw j (by omega)
    have e1 : (j : Int) < 64 := by omega
    have H1 := Lib.hid (holder_any w1 b m n h W k T1 (by omega) (W j) (T1.wf j (by omega)))
    have hcells := Lib.hid (show ∀ i, i < (way ++ [(j : Int)]).length → w1.cell? ⟨g, 0 + i, none⟩ = some (.int .i64 ((way ++ [(j : Int)]).getD i 0)) from fun i hi => by
      rw [List.length_append, List.length_singleton] at hi
      rw [Nat.zero_add, hg6 i hi]
      by_cases hi2 : i < way.length
      · simp [List.getElem?_append, hi2]
      · obtain rfl : i = way.length := by omega
        simp)
    clear hg5 hg6
    have HK := Lib.hid K1
    clear K1 T1 hnil hgrow
    have HO := Lib.hid hown'
    clear hown' hown hk
    cases hx : h (W j) with
    | none =>
      have hfin := Lib.hid (show R = j by rw [hr.out, runsF]; simp [nxt, hx])
      rw [hx] at H1
      clear hx hr
      go_wp2_with (go_at_call 12; refine H1.out.mono ?_; rintro e w' ⟨rfl, rfl⟩)
      rw [Exit.noGoto_ret]
      go_ret
      exact ⟨ret_int hfin.out.symm, HK.out⟩
    | some y =>
      have hy := HV.out _ _ hx
      by_cases hyj : y = (j : Int)
      · have hfin := Lib.hid (show R = j by rw [hr.out, runsF]; simp [nxt, hx, hyj])
        rw [hx] at H1
        have hyj' : (y == (j : Int)) = true := by simpa using hyj
        clear hx hr hyj
        go_wp2_with (go_at_call 12; refine H1.out.mono ?_; rintro e w' ⟨rfl, rfl⟩)
        rw [Exit.noGoto_ret]
        go_ret
        exact ⟨ret_int hfin.out.symm, HK.out⟩
      · have hn : nxt h W (j : Int) = some y := by simp [nxt, hx, hyj]
        have hyj' : (y == (j : Int)) = false := by simpa using hyj
        have hl1 : way.length + 1 ≤ 1000000 := by omega
        by_cases hin : y ∈ way ++ [(j : Int)]
        · have hfin := Lib.hid (show R = minL ((way ++ [(j : Int)]).drop ((way ++ [(j : Int)]).idxOf y)) by rw [hr.out, runsF, hn]; simp only [if_pos hin])
          have hidx : idxI (way ++ [(j : Int)]) y = ((way ++ [(j : Int)]).idxOf y : Nat) := by unfold idxI; rw [if_pos hin]
          have hil := List.idxOf_lt_length_iff.2 hin
          rw [List.length_append, List.length_singleton] at hil
          obtain ⟨i, hi⟩ : ∃ i, i = (way ++ [(j : Int)]).idxOf y := ⟨_, rfl⟩
          rw [← hi] at hfin hidx hil
          have HC := Lib.hid (contains_n w1 g 0 cap (way.length + 1) (way ++ [(j : Int)]) y (by simp) true (by simpa using hin) hl1 hcells.out)
          have HI := Lib.hid (index_n w1 g 0 cap (way.length + 1) (way ++ [(j : Int)]) y (by simp) i hidx hl1 hcells.out)
          have HM := Lib.hid (min_n w1 g i (cap - i) (way.length + 1 - i) ((way ++ [(j : Int)]).drop i) (by simp) R hfin.out.symm (by omega) (by omega) (fun q hq => by
            have := hcells.out (i + q) (by simp at hq ⊢; omega)
            rw [Nat.zero_add] at this
            rw [this]; simp [List.getElem?_drop]))
          rw [hx] at H1
          have hci : ¬ cap = i := by omega
          clear hx hr hyj hn hin hidx hi hfin
          go_wp2_with (first
            | (go_at_call 12; refine H1.out.mono ?_; rintro e w' ⟨rfl, rfl⟩)
            | (go_at_call 23; refine HC.out.mono ?_; rintro e w' ⟨rfl, rfl⟩)
            | (go_at_call 25; refine HI.out.mono ?_; rintro e w' ⟨rfl, rfl⟩)
            | (go_at_call 24; refine HM.out.mono ?_; rintro e w' ⟨rfl, rfl⟩))
          rw [Exit.noGoto_ret]
          go_ret
          exact ⟨rfl, HK.out⟩
        · have hfin := Lib.hid (show R = runsF (nxt h W) (n.toNat + 1 - (way ++ [(j : Int)]).length) (way ++ [(j : Int)]) y by
            rw [hr.out, runsF, hn]; simp only [if_neg hin]; congr 1; simp)
          have HC := Lib.hid (contains_n w1 g 0 cap (way.length + 1) (way ++ [(j : Int)]) y (by simp) false (by simpa using hin) hl1 hcells.out)
          rw [hx] at H1
          have hnin := Lib.hid hin
          clear hx hr hyj hn hin
          go_wp2_with (first
            | (go_at_call 12; refine H1.out.mono ?_; rintro e w' ⟨rfl, rfl⟩)
            | (go_at_call 23; refine HC.out.mono ?_; rintro e w' ⟨rfl, rfl⟩))
          go_roundw
          case rel => exact ⟨way ++ [(j : Int)], y, rfl, hy.1, hy.2, A1.out, A2.out, hnin.out, by simpa using HO.out, HK.out, hfin⟩
          case measure => rw [A0.out]; simp only [lenOf]; omega
end Go.Proofs.Ytajccnmeijgagaa
