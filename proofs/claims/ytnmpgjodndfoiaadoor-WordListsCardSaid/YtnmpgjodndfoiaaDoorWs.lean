/-
  word.Words and the document's Words, word.Bytes: contracts as the law meets them.
-/
import Derived.Test.YtnmpgjodndfoiaaDoorWo
import Derived.Test.YtnmpgjodndfoiaaDoorUl
import Derived.Test.YtnmpgjodndfoiaaDoorInvG
namespace Go.Proofs.YtnmpgjodndfoiaaDoor
open Go.RowKit

def wordsL (L : List UInt8) : List Int := (List.range (L.length / 8)).map (chunk L)
theorem wordsL_len (L : List UInt8) : (wordsL L).length = L.length / 8 := by simp [wordsL]
theorem finR (L : List UInt8) (n : Nat) : (List.finRange n).map (wordAt L n) = (List.range n).map (chunk L) := by
  apply List.ext_getElem
  · simp
  · intro i h1 h2
    simp [wordAt]

theorem words_yes (L : List UInt8) (p : Option Addr) (c : Nat) (w : World) (hl : L.length ≤ 800000) (h8 : L.length % 8 = 0) (hc : L.length ≤ c) (hb : BAt w p L) :
    Calls Tryd.prog 21 #[.slice p L.length c] w fun e w' => ∃ q k d, e = .returned (.tuple #[.slice q k d, .int .i64 0]) ∧ w'.ownsRow w.heap.size 22 1 (.slice q k d) (wordsL L).length ((wordsL L).map (Value.int .u64)) ∧ Below w.heap.size w w' := by
  obtain ⟨n, hn⟩ : ∃ n, L.length = 8 * n := ⟨L.length / 8, by omega⟩
  have key : ∃ g o, (0 < n → p = some ⟨g, o, none⟩) ∧ (0 < n → g < w.heap.size) ∧ BytesAt w g o L := by
    by_cases h0 : 0 < L.length
    · obtain ⟨g, o, rfl, h2, _⟩ := hb 0 h0
      exact ⟨g, o, fun _ => rfl, fun _ => h2, hb.bytes⟩
    · exact ⟨0, 0, fun h => by omega, fun h => by omega, fun i h => by omega⟩
  obtain ⟨g, o, h1, h2, h3⟩ := key
  rw [hn]
  refine (callsIn_wide.1 (words_in L n g o c p w (by omega) hn (by omega) h1 h2 h3)).mono ?_
  rintro e w' ⟨v, rfl, ho, hB⟩
  obtain ⟨q, k, d, rfl⟩ := own_slice ho
  refine ⟨q, k, d, rfl, ?_, hB⟩
  rw [finR] at ho
  have e8 : L.length / 8 = n := by omega
  unfold wordsL
  rw [e8]
  simpa using ho

theorem rwords_no (p : Option Addr) (n c : Nat) (w : World) (hn : n ≤ 1000000) (h : n % 8 ≠ 0) :
    Calls Tryd.prog 22 #[.slice p n c] w fun e w' => e = .returned (.tuple #[.slice none 0 0, .int .i64 2]) ∧ w = w' := by
  have h1 : ((n : Int) % 8 == 0) = false := by rw [beq_eq_false_iff_ne]; omega
  have h2 : ((n : Int) % 8 != 0) = true := by rw [bne, h1]; rfl
  clear h
  go_enter Tryd.func22, Tryd.ntmps22
  go_wp2_with (fail)
  go_ret2
  exact ⟨rfl, rfl⟩

set_option maxRecDepth 100000 in
set_option maxHeartbeats 2000000 in
theorem rwords_in (L : List UInt8) (p : Option Addr) (c n : Nat) (w : World) (hl : n ≤ 100000) (hn : L.length = 8 * n) (hb : BAt w p L) :
    Calls Tryd.prog 22 #[.slice p (8 * n) c] w fun e w' => ∃ v, e = .returned (.tuple #[v, .int .i64 0]) ∧ w'.ownsRow w.heap.size 22 1 v ((List.range n).map (chunk L)).length (((List.range n).map (chunk L)).map (Value.int .u64)) ∧ Below w.heap.size w w' := by
  obtain ⟨i0, hi, hz0, hz1, hz2⟩ := info_parts Tryd.info22
  have h1 : (((8 * n : Nat) : Int) % 8 == 0) = true := by rw [beq_iff_eq]; omega
  have h2 : (((8 * n : Nat) : Int) % 8 != 0) = false := by rw [bne, h1]; rfl
  have HL := Lib.hid hn
  have HBt := Lib.hid hb
  obtain ⟨m, hm⟩ : ∃ m, 8 * n = m := ⟨_, rfl⟩
  rw [hm] at h1 h2 ⊢
  have HM := Lib.hid hm
  clear hb hn hm
  have hm2 : m ≤ 800000 := by rw [← HM.out]; omega
  go_enter Tryd.func22, Tryd.ntmps22
  go_wp2_with (fail)
  go_loopw [4, 5] (fun ov iv wr => ∃ k : Nat, k ≤ n ∧ iv = .int .i64 ((8 * k : Nat) : Int) ∧ Hid (wr.ownsRow w.heap.size 22 1 ov ((List.range k).map (chunk L)).length (((List.range k).map (chunk L)).map (Value.int .u64))) ∧ Hid (Below w.heap.size w wr)) (fun _ iv _ => 8 * n - (intOf iv).toNat)
  case atStart => exact ⟨0, by omega, rfl, Lib.hid (World.ownsRow_nil _ _ _ _), Lib.hid (Below.refl _ _)⟩
  case round =>
    obtain ⟨k, hk, rfl, HO, HB⟩ := hrel
    by_cases hlt : k < n
    · obtain ⟨g, o, rfl, hg, _⟩ := HBt.out 0 (by rw [HL.out]; omega)
      have HT := Lib.hid (rtake_s L g o m c (8 * k) (by rw [HL.out]; omega) (by rw [HL.out, HM.out]; exact Nat.le_refl _) (by unfold maxLen; omega) wr (HBt.out.below HB.out).bytes)
      rw [show wd ((L.drop (8 * k)).take 8) = chunk L k from rfl] at HT
      have HS := Lib.hid (show (List.range (k + 1)).map (chunk L) = (List.range k).map (chunk L) ++ [chunk L k] by rw [List.range_succ, List.map_append]; rfl)
      obtain ⟨x, hx⟩ : ∃ x, chunk L k = x := ⟨_, rfl⟩
      rw [hx] at HT HS
      have hsz := HB.out.size
      have hlen : ((List.range k).map (chunk L)).length = k := by simp
      have hown := HO.out
      rw [hlen] at hown
      have b1 : ((8 * k : Nat) : Int) < (m : Int) := by rw [← HM.out]; omega
      obtain ⟨q, hq⟩ : ∃ q, 8 * k = q := ⟨_, rfl⟩
      have hk2 : k ≤ 100000 := by omega
      have hq2 : (q : Int) ≤ 800000 := by omega
      rw [hq] at HT b1 ⊢
      have HQ := Lib.hid hq
      have HLT := Lib.hid hlt
      clear hx hlen hq hlt hk hg
      go_wp2_with (fail)
      refine HT.out.mono ?_
      rintro e w2 ⟨rfl, rfl⟩
      go_wp2_with (at_builtin; refine wpList_append_own _ rfl _ _ 36 rfl w.heap.size 22 i0 (.int .u64 0) 1 8 Tryd.underlying36 hi hz0 hz1 hz2 rfl (by decide) _ _ _ rfl (hown.alloc _) ⟨wr.heap.size, 0, none⟩ 1 1 [.int .u64 x] rfl rfl (cell_one_new _ _ _) (ints_oneCell .u64 [x]) (by unfold maxLen; omega) (by omega) (by simp; omega) ?_; intro v' w6 hown' hgrow hnil)
      have HO6 := Lib.hid hown'
      have HB6 := Lib.hid ((HB.out.alloc hsz (.cells #[.int .u64 x] 22)).grown hgrow (by simp; omega) (fun r e => own_base hown _ e))
      clear hown' hgrow hnil hown
      go_wp2_with (fail)
      go_roundw
      case rel => exact ⟨k + 1, HLT.out, by have := HQ.out; subst this; go_num, Lib.hid (by
        have := HO6.out
        rw [HS.out, List.map_append, List.length_append, List.length_map, List.length_range]
        exact this), HB6⟩
      case measure => have := HLT.out; have := HQ.out; simp [intOf]; omega
    · have hk2 : k = n := by omega
      subst hk2
      obtain ⟨a2, n2, c2, rfl⟩ := own_slice HO.out
      rw [HM.out]
      go_wp2_with (fail)
      go_ret2
      exact ⟨_, rfl, HO.out, HB.out⟩
theorem rwords_yes (L : List UInt8) (p : Option Addr) (c : Nat) (w : World) (hl : L.length ≤ 800000) (h8 : L.length % 8 = 0) (hb : BAt w p L) :
    Calls Tryd.prog 22 #[.slice p L.length c] w fun e w' => ∃ q k d, e = .returned (.tuple #[.slice q k d, .int .i64 0]) ∧ w'.ownsRow w.heap.size 22 1 (.slice q k d) (wordsL L).length ((wordsL L).map (Value.int .u64)) ∧ Below w.heap.size w w' := by
  obtain ⟨n, hn⟩ : ∃ n, L.length = 8 * n := ⟨L.length / 8, by omega⟩
  rw [hn]
  refine (rwords_in L p c n w (by omega) hn hb).mono ?_
  rintro e w' ⟨v, rfl, ho, hB⟩
  obtain ⟨q, k, d, rfl⟩ := own_slice ho
  refine ⟨q, k, d, rfl, ?_, hB⟩
  have e8 : L.length / 8 = n := by omega
  unfold wordsL
  rw [e8]
  simpa using ho
/-- word.Bytes, of words that read so -/
theorem wbytes_r (l : List Int) (p : Option Addr) (c : Nat) (hl : l.length ≤ 100000) (hu : U64s l) (w : World) (hr : RowAt w (.slice p l.length c) l) :
    Calls Tryd.prog 23 #[.slice p l.length c] w fun e w' => ∃ v, e = .returned v ∧ w'.ownsRow w.heap.size 5 1 v (bytesW l).length (bvals (bytesW l)) ∧ Below w.heap.size w w' := by
  rcases hr with ⟨rfl, _⟩ | ⟨h0, g, o, c', e, hc, hg, hw⟩
  · refine (bytes_nil p c w).mono ?_
    rintro e w' ⟨rfl, rfl⟩
    exact ⟨_, rfl, World.ownsRow_nil _ _ _ _, Below.refl _ _⟩
  · cases e
    exact bytes_l l g o c (by omega) hu w h0 hw
theorem bytes_wordsL (L : List UInt8) (h8 : L.length % 8 = 0) : bytesW (wordsL L) = L := by
  unfold wordsL
  rw [bytes_chunks, List.take_of_length_le (by omega), show 8 * (L.length / 8) - L.length = 0 by omega]
  simp
theorem wordsL_bytes (l : List Int) (hu : U64s l) : wordsL (bytesW l) = l := by
  apply List.ext_getElem
  · rw [wordsL_len, bytesW_len]; omega
  · intro i h1 h2
    simp only [wordsL, List.getElem_map, List.getElem_range]
    unfold chunk
    rw [bytesW_at l i h2]
    have := hu (l[i]) (by simp)
    exact wd_putB _ this.1 this.2
theorem wordsL_u64 (L : List UInt8) (hl : L.length ≤ 1000000) : U64s (wordsL L) := by
  intro x hx
  refine packW_u64 L hl x ?_
  unfold wordsL at hx
  obtain ⟨i, hi, rfl⟩ := List.mem_map.1 hx
  unfold packW packTo
  rw [List.mem_range] at hi
  exact List.mem_cons_of_mem _ (List.mem_map.2 ⟨i, List.mem_range.2 (by omega), rfl⟩)
/-- bytes that stand so, as a text -/
theorem conv_at {w : World} {p : Option Addr} {c : Nat} {M : List UInt8} (h : BAt w p M) : (convert 26 9 (.slice p M.length c)).run Tryd.prog w = .ok (.string ⟨M.toArray⟩) w := by
  cases p with
  | none =>
    have hM : M = [] := by
      cases M with
      | nil => rfl
      | cons a t => obtain ⟨g, o, e, _⟩ := h 0 (by simp); cases e
    subst hM
    exact run_convert_bytes_nil (P := Tryd.prog) (w := w) 26 5 Tryd.underlying26 Tryd.underlying5 0 c 9 Tryd.underlying9
  | some a =>
    refine run_convert_bytes_back (P := Tryd.prog) w 26 9 5 a c M Tryd.underlying26 Tryd.underlying5 Tryd.underlying9 (fun j hj => ?_)
    obtain ⟨g', o', e, _, hc⟩ := h j hj
    cases e
    have e1 : (⟨g', o', none⟩ : Addr).add j = ⟨g', o' + j, none⟩ := by unfold Addr.add; split; (rename_i h; subst h; rfl); rfl
    rw [e1, hc]
    simp [hj]
end Go.Proofs.YtnmpgjodndfoiaaDoor
