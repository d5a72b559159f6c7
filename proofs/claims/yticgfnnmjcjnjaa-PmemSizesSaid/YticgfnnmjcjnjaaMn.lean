/-
  pmem.Of, pmem.New: a new memory, as a whole.
-/
import Derived.Test.YticgfnnmjcjnjaaMe
namespace Go.Proofs.Yticgfnnmjcjnjaa
open Go.RowKit Go.Shelf Go.Maps
attribute [local go_sem] Oper.semAt_some
set_option linter.unusedVariables false

def BAtM (w : World) (p : Option Addr) (L : List UInt8) : Prop := ∀ i, i < L.length → ∃ g o, p = some ⟨g, o, none⟩ ∧ g < w.heap.size ∧ w.cell? ⟨g, o + i, none⟩ = some (.int .u8 ((L.getD i 0).toNat : Int))
theorem BAtM.below {w w' : World} {p : Option Addr} {L : List UInt8} (h : BAtM w p L) (hB : Below w.heap.size w w') : BAtM w' p L := fun i hi => by
  obtain ⟨g, o, h1, h2, h3⟩ := h i hi
  exact ⟨g, o, h1, Nat.lt_of_lt_of_le h2 hB.size, (hB.cell (p := ⟨g, o + i, none⟩) h2).trans h3⟩
theorem BAtM.reads {w : World} {p : Option Addr} {L : List UInt8} (h : BAtM w p L) : Reads w w.heap.size 1 p L.length (bvals L) := by
  refine ⟨by simp [bvals], fun h0 => ?_⟩
  obtain ⟨g, o, rfl, hg, _⟩ := h 0 h0
  refine ⟨_, rfl, hg, fun j u hu => ?_⟩
  have hj : j < L.length := by have := (List.getElem?_eq_some_iff.1 hu).1; simpa [bvals] using this
  obtain ⟨g', o', e, _, hc⟩ := h j hj
  cases e
  have e1 : (⟨g, o, none⟩ : Addr).add j = ⟨g, o + j, none⟩ := by unfold Addr.add; split; (rename_i h; subst h; rfl); rfl
  rw [e1, hc]
  simp [bvals, hj] at hu ⊢
  exact hu
theorem BAtM.bytes {w : World} {g o : Nat} {L : List UInt8} (h : BAtM w (some ⟨g, o, none⟩) L) : BytesAt w g o L := fun i hi => by
  obtain ⟨g', o', e, _, hc⟩ := h i hi
  cases e
  rw [hc]; simp [hi]
theorem BAtM.of_own {w : World} {base : Nat} {e : TypeId} {p : Option Addr} {n c : Nat} {L : List UInt8} (h : w.ownsRow base e 1 (.slice p n c) L.length (bvals L)) : BAtM w p L := fun i hi => by
  obtain ⟨g, cap, e1, _, hg, _, _, _, hc, _⟩ := own_shape h (by omega)
  cases e1
  exact ⟨g, 0, rfl, hg, by rw [Nat.zero_add, hc i hi]; simp [bvals, hi]⟩
theorem chunk_rngM (L : List UInt8) (i : Nat) : 0 ≤ chunk L i ∧ chunk L i ≤ 18446744073709551615 := by
  have h0 := wd_nonneg ((L.drop (8 * i)).take 8)
  have h1 := wd_lt ((L.drop (8 * i)).take 8)
  have h2 : ((256 ^ ((L.drop (8 * i)).take 8).length : Nat) : Int) ≤ 18446744073709551616 := by
    have : (256 : Nat) ^ ((L.drop (8 * i)).take 8).length ≤ 256 ^ 8 := Nat.pow_le_pow_right (by decide) (by simp; omega)
    have e : (256 : Nat) ^ 8 = 18446744073709551616 := by decide
    omega
  unfold chunk
  omega
theorem wordsM_len (L : List UInt8) (N : Nat) : (wordsB L N).length = N := by simp [wordsB]
theorem wd_zero : ∀ n, wd (List.replicate n 0) = 0
  | 0 => rfl
  | n + 1 => by rw [List.replicate_succ, wd, wd_zero n]; rfl
theorem wordsM_zero (N m : Nat) : wordsB (List.replicate m 0) N = List.replicate N 0 := by
  refine List.eq_replicate_iff.2 ⟨wordsM_len _ N, fun x hx => ?_⟩
  obtain ⟨j, _, rfl⟩ := List.mem_map.1 hx
  unfold wordAt chunk
  rw [List.drop_replicate, List.take_replicate, wd_zero]
theorem wordsM_u64 (L : List UInt8) (N : Nat) : U64s (wordsB L N) := fun x hx => by
  obtain ⟨j, _, rfl⟩ := List.mem_map.1 hx
  exact chunk_rngM L _
structure OfS (w : World) (L : List UInt8) (N : Nat) (e : Ending) (W' : World) : Prop where
  e : e = .returned (.tuple #[.pointer (some ⟨w.heap.size + 1, 0, none⟩), .int .i64 0])
  m : ∃ vv vi ml, (∀ N0, W'.heap.size ≤ N0 → MemS W' N0 (w.heap.size + 1) (wordsB L N) (wordsB L N) vv vi ml 0 (.map []) (fun _ => .slice none 0 0) (fun _ _ => 0) (fun _ => []) 0 0 0 0) ∧ w.heap.size ≤ ml ∧ (∀ i, MS (w.heap.size + 1) vv vi i → i < W'.heap.size ∧ w.heap.size ≤ i) ∧ ml < W'.heap.size
  b : Below w.heap.size w W'
theorem mofS_v (L : List UInt8) (N c : Nat) (p : Option Addr) (w : World) (hN : N ≤ 200000) (hl : L.length = 8 * N) (hc : L.length ≤ c) (hb : BAtM w p L) (hm : mayB L.length = true) :
    Calls Try.prog 12 #[.slice p L.length c] w (OfS w L N) := by
  have hpos : 0 < L.length := by unfold mayB at hm; have := of_decide_eq_true hm; omega
  obtain ⟨g, o, rfl, hg, _⟩ := hb 0 hpos
  rw [hl] at hm hc ⊢
  refine (callsIn_wide.1 (mof_in L N g o c _ w hN hl hc (fun _ => rfl) (fun _ => hg) hb.bytes hm)).mono ?_
  rintro e W' ⟨vv, vi, rfl, h1, h2, h3, h4, h5, h6⟩
  have hlt : ∀ i, MS (w.heap.size + 1) vv vi i → i < W'.heap.size ∧ w.heap.size ≤ i := fun i hi => by
    rcases hi with rfl | hi | hi
    · exact ⟨h1.blk.lt, by omega⟩
    · exact ⟨own_ltS h1.v hi, by have := h2 i hi; omega⟩
    · exact ⟨own_ltS h1.i hi, by have := h3 i hi; omega⟩
  have hml : w.heap.size < W'.heap.size := (Array.getElem?_eq_some_iff.1 h5).1
  refine ⟨rfl, ⟨vv, vi, w.heap.size, fun N0 hN0 => ⟨h1, ⟨#[], 0, h5, ⟨by simp, Go.MapKept.stamped_empty 0, by simp⟩, Nat.le_refl _, rfl⟩, fun a => rfl, fun a => World.ownsRow_nil _ _ _ _, fun _ _ _ _ h => (by cases h), fun i hi => ?_, ⟨by omega, fun h => by have := h2 _ h; omega, fun h => by have := h3 _ h; omega⟩, h4⟩, Nat.le_refl _, hlt, hml⟩, h6⟩
  rcases hi with h | h | h | h
  · have := (hlt i (.inl h)).1; omega
  · omega
  · have := (hlt i (.inr (.inl h))).1; omega
  · have := (hlt i (.inr (.inr h))).1; omega
def NewP (w : World) (N : Nat) (e : Ending) (W' : World) : Prop :=
  ∃ mb vv vi ml vs0, e = .returned (.tuple #[.pointer (some ⟨mb, 0, none⟩), .int .i64 0]) ∧ U64s vs0 ∧ vs0.length = N ∧ vs0 = List.replicate N 0 ∧
    (∀ N0, W'.heap.size ≤ N0 → MemS W' N0 mb vs0 vs0 vv vi ml 0 (.map []) (fun _ => .slice none 0 0) (fun _ _ => 0) (fun _ => []) 0 0 0 0) ∧
    (∀ i, i = ml ∨ MS mb vv vi i → w.heap.size ≤ i ∧ i < W'.heap.size) ∧ Below w.heap.size w W'
set_option maxRecDepth 100000 in
theorem mnew_v (N : Nat) (w : World) (hN : N ≤ 131072) (hm : mayB (8 * N) = true) : Calls Try.prog 4 #[.int .i64 ((8 * N : Nat) : Int)] w (NewP w N) := by
  obtain ⟨i0, hi, hz0, hz1, hz2⟩ := info_parts Try.infoB
  obtain ⟨m, hmm⟩ : ∃ m, 8 * N = m := ⟨_, rfl⟩
  have HMay := Lib.hid (mmay_v w (8 * N))
  rw [hm] at HMay
  rw [hmm] at hm HMay ⊢
  have hmb : m ≤ 1048576 := by omega
  have HMm := Lib.hid hmm
  clear hmm
  go_enter Try.func4, Try.ntmps4
  go_wp2_with (fail)
  refine HMay.out.mono ?_
  rintro e w1 ⟨rfl, rfl⟩
  go_wp2_with (refine wpList_make_full _ rfl _ _ _ rfl w.heap.size 5 i0 (.int .u8 0) 1 Try.underlying29 hi hz0 hz1 .i64 .i64 (m : Int) (m : Int) m rfl rfl rfl rfl (by rw [hz2]; omega) (by unfold maxLen; omega) (Nat.le_refl _) ?_; intro w1 hown hgrow)
  rw [show (Value.int .u8 0).cells = #[Value.int .u8 0] from rfl, toList_madeCells_one, Nat.mul_one] at hown
  have hL0 : List.replicate m (Value.int .u8 0) = bvals (List.replicate m (0 : UInt8)) := by simp [bvals]
  rw [hL0] at hown
  obtain ⟨L0, hL0e⟩ : ∃ L0, List.replicate m (0 : UInt8) = L0 := ⟨_, rfl⟩
  have hL0l : L0.length = m := by rw [← hL0e, List.length_replicate]
  rw [hL0e] at hown
  have HZ0 := Lib.hid (show wordsB L0 N = List.replicate N 0 from hL0e ▸ wordsM_zero N m)
  have HB1 := Lib.hid ((Below.refl w.heap.size w).grown hgrow (Nat.le_refl _) (fun r e => by cases e))
  have HBt := Lib.hid (BAtM.of_own (p := some ⟨w.heap.size, 0, none⟩) (n := m) (c := m) (L := L0) (by rw [hL0l]; exact hown))
  have HOf := Lib.hid (mofS_v L0 N m (some ⟨w.heap.size, 0, none⟩) w1 (by omega) (by rw [hL0l, HMm.out]) (by rw [hL0l]; exact Nat.le_refl _) HBt.out (by rw [hL0l]; exact hm))
  rw [hL0l] at HOf
  clear hown hgrow hL0 hL0e
  go_wp2_with (fail)
  refine HOf.out.mono ?_
  rintro e w2 ⟨rfl, ⟨vv, vi, ml, hms, hml, hblk, hmlt⟩, hB2⟩
  have HMs := Lib.hid hms
  have HBk := Lib.hid hblk
  have HMl := Lib.hid (And.intro hml hmlt)
  have HB2 := Lib.hid (HB1.out.trans (hB2.mono HB1.out.size))
  clear hms hblk hml hmlt hB2
  go_wp2_with (fail)
  go_ret2
  refine ⟨w1.heap.size + 1, vv, vi, ml, wordsB L0 N, rfl, wordsM_u64 L0 N, wordsM_len L0 N, HZ0.out, HMs.out, fun i hi => ?_, HB2.out⟩
  have hs := HB1.out.size
  rcases hi with rfl | hi
  · exact ⟨Nat.le_trans hs HMl.out.1, HMl.out.2⟩
  · exact ⟨Nat.le_trans hs (HBk.out i hi).2, (HBk.out i hi).1⟩

/-- a new memory is of noughts -/
theorem new_z (N : Nat) (w : World) (hp : 0 < N) (hN : N ≤ 131072) (hm : mayB (8 * N) = true) : Calls Try.prog 4 #[.int .i64 ((8 * N : Nat) : Int)] w fun e w' =>
    ∃ mb S, e = .returned (.tuple #[.pointer (some ⟨mb, 0, none⟩), .int .i64 0]) ∧ MemP w' mb S (List.replicate N 0) (List.replicate N 0) (fun _ _ => 0) (fun _ => []) 0 0 0 0 ∧ (∀ i, S i → w.heap.size ≤ i) ∧ Below w.heap.size w w' := by
  refine (mnew_v N w hN hm).mono ?_
  rintro e w' ⟨mb, vv, vi, ml, vs0, rfl, hu, hl, hz, hms, hb, hB⟩
  subst hz
  exact ⟨mb, _, rfl, (hms _ (Nat.le_refl _)).whole (Nat.le_refl _) (by omega) (by omega), fun i hi => (hb i hi).1, hB⟩
theorem new_m (N : Nat) (w : World) (hp : 0 < N) (hN : N ≤ 131072) (hm : mayB (8 * N) = true) : Calls Try.prog 4 #[.int .i64 ((8 * N : Nat) : Int)] w fun e w' =>
    ∃ mb S vs0, e = .returned (.tuple #[.pointer (some ⟨mb, 0, none⟩), .int .i64 0]) ∧ U64s vs0 ∧ vs0.length = N ∧ MemP w' mb S vs0 vs0 (fun _ _ => 0) (fun _ => []) 0 0 0 0 ∧ (∀ i, S i → w.heap.size ≤ i) ∧ Below w.heap.size w w' := by
  refine (mnew_v N w hN hm).mono ?_
  rintro e w' ⟨mb, vv, vi, ml, vs0, rfl, hu, hl, _, hms, hb, hB⟩
  exact ⟨mb, _, vs0, rfl, hu, hl, (hms _ (Nat.le_refl _)).whole (Nat.le_refl _) (by omega) (by omega), fun i hi => (hb i hi).1, hB⟩
end Go.Proofs.Yticgfnnmjcjnjaa
