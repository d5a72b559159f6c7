/-
  THE ITERATOR OVER BYTES, EIGHT BY EIGHT (slices.Chunk): its contract.
-/
import Derived.Test.YticgfnnmjcjnjaaChecked
import Derived.Test.YticgfnnmjcjnjaaLib
import Derived.Test.YticgfnnmjcjnjaaInvIn
import Derived.RangeFuncNested
import Derived.RangeFuncBound
import Derived.RangeFuncCalls
import Derived.RangeFuncLeaves
import Derived.RangeFuncBox
import Derived.RangeFuncMany
import Derived.Shelf.Abstract
import Derived.Shelf.RegionOpen
import Derived.OwnWalkIn
import Derived.TacticsInMore
import Derived.RegionIn
import Derived.LoopNIn
import Derived.LoopIn
import Derived.Sort.BigQuietIn
import Derived.Sort.QuietIn
namespace Go.Proofs.Yticgfnnmjcjnjaa
open Go.RowKit Go.Shelf
attribute [local go_sem] Oper.semAt_some

def encC (g o n : Nat) (i : Fin n) : Array Value := #[.slice (some ⟨g, o + 8 * i.val, none⟩) 8 8]
def KpC (b : Nat) (A B : World) : Prop := A.heap.size ≤ B.heap.size ∧ ∀ k, (k = b ∨ k = b + 1) → k < A.heap.size → B.heap[k]? = A.heap[k]?
theorem kpC_t {bc : Nat} {A B C : World} (h : KpC bc A B) (k : KpC bc B C) : KpC bc A C := ⟨Nat.le_trans h.1 k.1, fun i hi hb => (k.2 i hi (by have := h.1; omega)).trans (h.2 i hi hb)⟩
theorem kpC_b {w : World} {bc : Nat} (hn : bc + 1 < w.heap.size) (W : World) (l : Nat) (o o' : Obj) (hl : w.heap.size ≤ l) (h : W.heap[l]? = some o) (hc : o.isCells = false) (hw : o.isWalk = false) : KpC bc W (W.putObj l o') :=
  ⟨(belowK_b (w := w) (n₀ := bc + 2) (by omega) W l o o' hl h hc hw).size, fun k hk _ => (belowK_b (w := w) (n₀ := bc + 2) (by omega) W l o o' hl h hc hw).block k (by omega)⟩
theorem fin_take (n k : Nat) (h : k < n) : (List.finRange n).take (k + 1) = (List.finRange n).take k ++ [⟨k, h⟩] := by
  rw [List.take_succ_eq_append_getElem (by simpa using h)]
  simp

set_option maxRecDepth 100000 in
set_option maxHeartbeats 1000000 in
theorem chunk_stops (mm : Nat) (hmm : 1 ≤ mm) (n g o c b : Nat) (p : Option Addr) (hp : 0 < n → p = some ⟨g, o, none⟩) (w : World) (hn : n ≤ 200000) (hc : 8 * n ≤ c) (h1 : Blk w b #[.slice p (8 * n) c] 29) (h2 : Blk w (b + 1) #[.int .i64 8] 3) :
    SeqStopsK Fence.wide mm Try.prog 31 #[.pointer (some ⟨b, 0, none⟩), .pointer (some ⟨b + 1, 0, none⟩)] (encC g o n) (KpC b) (fun xs => xs = List.finRange n) (fun pre => pre <+: List.finRange n) n w := by
  intro l J Jx W hW hAb _ hY h0
  have B1 : Blk W b #[.slice p (8 * n) c] 29 := (hW.block b h1.lt).trans h1
  have B2 : Blk W (b + 1) #[.int .i64 8] 3 := (hW.block (b + 1) h2.lt).trans h2
  clear h1 h2 hW
  refine callsIn_of_wp Try.func31 rfl trivial ?_ rfl
  simp only [Try.ntmps31, List.size_toArray, List.length_cons, List.length_nil, Nat.reduceAdd, Nat.reduceSub, Array.replicate_succ, Array.replicate_zero, List.push_toArray, List.append_toArray, List.nil_append, List.cons_append]
  gi_wp2
  gi_loopw [4] (fun iv wr => ∃ k : Nat, k ≤ n ∧ iv = .int .i64 ((8 * k : Nat) : Int) ∧ J ((List.finRange n).take k) wr ∧ Hid (Blk wr b #[.slice p (8 * n) c] 29) ∧ Hid (Blk wr (b + 1) #[.int .i64 8] 3)) (fun iv _ => 8 * n - (intOf iv).toNat)
  case atStart => exact ⟨0, Nat.zero_le _, rfl, h0, Lib.hid B1, Lib.hid B2⟩
  case round =>
    obtain ⟨k, hk, rfl, hJ, H1, H2⟩ := hrel
    have c1 := H1.out.cell 0
    rw [show (#[Value.slice p (8 * n) c] : Array Value)[0]? = some (.slice p (8 * n) c) from rfl] at c1
    have c2 := H2.out.cell 0
    rw [show (#[Value.int .i64 8] : Array Value)[0]? = some (.int .i64 8) from rfl] at c2
    by_cases hlt : k < n
    · obtain rfl := hp (by omega)
      have b1 : ((8 * k : Nat) : Int) < ((8 * n : Nat) : Int) := by omega
      have b2 : (0 : Int) ≤ ((8 * k : Nat) : Int) := by omega
      have b3 : ((8 * k : Nat) : Int) ≤ ((8 * n : Nat) : Int) := by omega
      have HE := Lib.hid (fin_take n k hlt)
      obtain ⟨q, hq⟩ : ∃ q, 8 * k = q := ⟨_, rfl⟩
      obtain ⟨m, hm⟩ : ∃ m, 8 * n = m := ⟨_, rfl⟩
      rw [hq] at b1 b2 b3 ⊢
      rw [hm] at b1 b3 c1 hc H1 ⊢
      have HQ := Lib.hid (And.intro hq hm)
      have bq : (q : Int) ≤ 1600000 := by omega
      have bm : (m : Int) ≤ 1600000 := by omega
      have b4 : (8 : Int) ≤ ((m - q : Nat) : Int) := by omega
      have b5 : (q : Int) + 8 ≤ (m : Int) := by omega
      have b6 : (q : Int) + 8 ≤ (c : Int) := by omega
      have b7 : ((q : Int) + 8).toNat = q + 8 := by omega
      have b8 : ((q : Int)).toNat = q := by omega
      clear hq hm
      have hAb' := Lib.hid hAb
      have HY := Lib.hid hY
      clear hAb hY
      gi_wp2
      gi_quiet (fail)
      try rw [show min (8 : Int) ((m - q : Nat) : Int) = 8 by omega]
      have hJ2 : J ((List.finRange n).take k) (wr.drewN nq) := hAb'.out _ wr (wr.drewN nq) none hJ ⟨rfl, rfl, rfl, Nat.le_refl _, fun _ _ _ => rfl⟩ (fun r e => by cases e)
      have c1' : (wr.drewN nq).cell? ⟨b, 0, none⟩ = some (.slice (some ⟨g, o, none⟩) m c) := c1
      have H1' := Lib.hid (show Blk (wr.drewN nq) b #[.slice (some ⟨g, o, none⟩) m c] 29 from H1.out)
      have H2' := Lib.hid (show Blk (wr.drewN nq) (b + 1) #[.int .i64 8] 3 from H2.out)
      have c2' : (wr.drewN nq).cell? ⟨b + 1, 0, none⟩ = some (.int .i64 8) := c2
      obtain ⟨w2, hw2⟩ : ∃ w2, w2 = wr.drewN nq := ⟨_, rfl⟩
      rw [← hw2] at hJ2 c1' c2' H1' H2' ⊢
      clear hw2 c1 c2
      obtain ⟨fn, tmps, assign, body, hy, hR⟩ := HY.out _ ⟨k, hlt⟩ w2 hJ2 (by simp; omega)
      dsimp only [encC] at hy
      rw [HQ.out.1] at hy
      gi_wp2
      refine hR.mono ?_
      rintro e W3 (⟨rfl, hJ3, hk3⟩ | ⟨rfl, hJx3⟩)
      · have HB1 := Lib.hid ((hk3.2 b (.inl rfl) H1'.out.lt).trans H1'.out)
        have HB2 := Lib.hid ((hk3.2 (b + 1) (.inr rfl) H2'.out.lt).trans H2'.out)
        have c3 : W3.cell? ⟨b + 1, 0, none⟩ = some (.int .i64 8) := by
          have : Blk W3 (b + 1) #[.int .i64 8] 3 := HB2.out
          rw [this.cell]; rfl
        clear hk3
        gi_wp2
        go_roundw
        case rel => exact ⟨k + 1, hlt, by have := HQ.out.1; subst this; go_num, by rw [HE.out]; exact hJ3, HB1, HB2⟩
        case measure => have := HQ.out; simp [intOf]; omega
      · have HP := Lib.hid (show (List.finRange n).take k ++ [⟨k, hlt⟩] <+: List.finRange n from by rw [← HE.out]; exact List.take_prefix _ _)
        gi_wp2
        refine bodyPost_ret (results_none rfl _ _ _) rfl ?_
        exact ⟨⟨_, rfl⟩, .inr ⟨_, HP.out, hJx3⟩⟩
    · have hk2 : k = n := by omega
      subst hk2
      gi_wp2
      go_end0
      exact ⟨⟨_, rfl⟩, .inl ⟨_, rfl, by rwa [List.take_of_length_le (by simp)] at hJ⟩⟩
end Go.Proofs.Yticgfnnmjcjnjaa
