/-
  The law's trim: a contract; which nodes trim to the same.
-/
import Derived.Test.YtgmbnoimlffgcaaSno
namespace Go.Proofs.Ytgmbnoimlffgcaa
open Go.RowKit
attribute [local go_sem] Oper.semAt_some
set_option linter.unusedVariables false

set_option maxRecDepth 100000 in
set_option maxHeartbeats 16000000 in
theorem trim_v (n : Nd) (w : World) : Calls Try.prog 16 #[.agg (ndCells n)] w fun e w' => e = .returned (.agg (ndCells (trimN n))) ∧ Below w.heap.size w w' := by
  have HT0 := Lib.hid (TrW.start w n)
  have HLn := Lib.hid (fun (W : World) => rlen_calls n W)
  have hs1 : (w.alloc (.cells (ndCells n) 40)).heap.size = w.heap.size + 1 := by simp
  obtain ⟨b1, hb1⟩ : ∃ b1, w.heap.size = b1 := ⟨_, rfl⟩
  obtain ⟨b2, hb2⟩ : ∃ b2, b1 + 1 = b2 := ⟨_, rfl⟩
  rw [hb1, hb2] at HT0 hs1
  have HZ := Lib.hid hs1
  clear hs1
  go_enter Try.func16, Try.ntmps16
  go_upto_region 1 with ((with_reducible refine wpList_alloc_ndAt (o := ⟨some 2, _, _, _, _, _⟩) rfl rfl b2 ?hz ?_); (case hz => exact HZ.out))
  simp [Act.put]
  generalize (w.alloc (.cells (ndCells n) 40)).alloc (.cells (ndCells nd0) 40) = w0 at *
  go_wp2_with (
    ((with_reducible refine wpList_load_part (o := ⟨some 4, .load 40 (.tmp 1), _, _, _, _⟩) ?hg 40 (.tmp 1) ?ho b1 0 ?hx (ndCells n) ?dd ?hc ?hu ?hd ?hi ?_); (case hg => rfl); (case ho => rfl); (case hx => exact ev_tmp (by simp)); (case hc => exact ndLoad HT0.out.f); (case hu => exact Try.underlying40); (case hd => rfl); (case hi => exact info27 _))
  )
  refine (HLn.out w0).mono ?_
  rintro e w1 ⟨rfl, hB1⟩
  have HT1 := Lib.hid (HT0.out.below hB1)
  have hl8 := n.len_le
  clear hB1 HT0
  obtain ⟨ln, hln⟩ : ∃ ln, n.len = ln := ⟨_, rfl⟩
  have HLE := Lib.hid hln
  rw [hln] at hl8 ⊢
  clear hln
  go_wp2_with (fail)
  go_loopw [3] (fun iv wr => ∃ k : Nat, ln ≤ k ∧ k ≤ 8 ∧ iv = .int .i64 k ∧ TrW w b1 b2 (clrK n ln k) wr) (fun iv _ => 8 - (intOf iv).toNat)
  case atStart => exact ⟨ln, Nat.le_refl _, hl8, rfl, by rw [clrK_0]; exact HT1.out⟩
  case round =>
    obtain ⟨k, hk0, hk8, rfl, hT⟩ := hrel
    have HT := Lib.hid hT
    have HSc := Lib.hid (clrK_s n ln k hk0)
    obtain ⟨m, hm⟩ : ∃ m, clrK n ln k = m := ⟨_, rfl⟩
    rw [hm] at HT HSc
    by_cases hlt : k < 8
    · have hkb : (k : Int) < 8 := by omega
      have HLT := Lib.hid hlt
      have HK0 := Lib.hid hk0
      have hkn : (0 : Int) ≤ (k : Int) := by omega
      have dk := (HT.out.f.cell (5 + k)).trans (ndCells_k m k hlt)
      have fk := HT.out.f.frozen (5 + k)
      clear hT hm hk0 hk8 hlt
      go_wp2_with (fail)
      go_roundw
      case rel => exact ⟨k + 1, by have := HK0.out; omega, by have := HLT.out; omega, by go_num, by rw [← HSc.out]; exact HT.out.setK k HLT.out 0⟩
      case measure => have := HLT.out; simp [intOf]; omega
    · have hk : k = 8 := by omega
      subst hk
      have HR := Lib.hid (show trimN n = rtrim m by unfold trimN; rw [HLE.out, hm])
      have HTr := Lib.hid (fun (W : World) => rtrim_v m W)
      obtain ⟨q, hq⟩ : ∃ q, rtrim m = q := ⟨_, rfl⟩
      rw [hq] at HTr HR
      clear hT hm hk0 hk8 hlt HSc hq
      go_wp2_with (
        ((with_reducible refine wpList_load_part (o := ⟨some 13, .load 40 (.tmp 1), _, _, _, _⟩) ?hg 40 (.tmp 1) ?ho b1 0 ?hx (ndCells m) ?dd ?hc ?hu ?hd ?hi ?_); (case hg => rfl); (case ho => rfl); (case hx => exact ev_tmp (by simp)); (case hc => exact ndLoad HT.out.f); (case hu => exact Try.underlying40); (case hd => rfl); (case hi => exact info27 _))
      )
      refine (HTr.out wr).mono ?_
      rintro e w5 ⟨rfl, hB5⟩
      have HT5 := Lib.hid (HT.out.below hB5)
      clear hB5
      go_wp2_with ((with_reducible refine wpList_store_ndc (o := ⟨none, .store 40 (.tmp 2) (.tmp 14), _, _, _, _⟩) ?hgc (.tmp 2) (.tmp 14) ?hoc b2 (ndCells q) q nd0 ?hxc ?hyc ?hbc ?hmc ?_); (case hgc => rfl); (case hoc => rfl); (case hxc => exact ev_tmp (by simp)); (case hyc => exact ev_tmp (by simp)); (case hmc => rfl); (case hbc => exact HT5.out.r))
      (try simp only [Exit.inBlock, Exit.then])
      refine bodyPost_ret (results_nd1 (fn := Try.f16) rfl _ b2 q rfl (HT5.out.r.row _)) rfl ?_
      rw [HR.out]
      exact ⟨rfl, below_setRow HT5.out.b (by have := HT5.out.lt; omega) _⟩

/-! ### plain: which nodes trim to the same -/
theorem ndCells_congr {n m : Nd} (h0 : n.lv = m.lv) (h1 : n.lo = m.lo) (h2 : n.nx = m.nx) (h3 : n.ct = m.ct) (h4 : n.fi = m.fi) (hk : ∀ i, i < 8 → n.k i = m.k i) (hp : ∀ i, i < 8 → n.p i = m.p i) : ndCells n = ndCells m := by
  have h8 : ∀ (f g : Nat → Int), (∀ i, i < 8 → f i = g i) → u8s f = u8s g := fun f g h => List.map_congr_left (fun i hi => by rw [h i (List.mem_range.1 hi)])
  unfold ndCells
  rw [h0, h1, h2, h3, h4, h8 _ _ hk, h8 _ _ hp]
theorem trimN_k (n : Nd) (i : Nat) (hi : i < 8) : (trimN n).k i = if i < n.len then n.k i else 0 := by
  unfold trimN rtrim
  rw [len_clrK]
  show (if n.len + 1 ≤ i ∧ i < 8 then 0 else (if n.len ≤ i ∧ i < 8 then 0 else n.k i)) = _
  by_cases h : i < n.len
  · rw [if_neg (by omega), if_neg (by omega), if_pos h]
  · rw [if_neg h]
    split
    · rfl
    · rw [if_pos (by omega)]
theorem trimN_p (n : Nd) (i : Nat) (hi : i < 8) : (trimN n).p i = if i < n.len then n.p i else 0 := by
  unfold trimN rtrim
  rw [len_clrK]
  show (if n.len ≤ i ∧ i < 8 then 0 else n.p i) = _
  by_cases h : i < n.len
  · rw [if_neg (by omega), if_pos h]
  · rw [if_pos (by omega), if_neg h]
theorem trim_same {n m : Nd} (h0 : n.lv = m.lv) (h1 : n.lo = m.lo) (h2 : n.nx = m.nx) (h3 : n.ct = m.ct) (h4 : n.fi = m.fi) (hl : n.len = m.len) (hk : ∀ i, i < n.len → n.k i = m.k i) (hp : ∀ i, i < n.len → n.p i = m.p i) : ndCells (trimN n) = ndCells (trimN m) := by
  refine ndCells_congr h0 h1 h2 h3 h4 (fun i hi => ?_) (fun i hi => ?_)
  · rw [trimN_k _ _ hi, trimN_k _ _ hi, ← hl]
    split
    · rename_i h; exact hk i h
    · rfl
  · rw [trimN_p _ _ hi, trimN_p _ _ hi, ← hl]
    split
    · rename_i h; exact hp i h
    · rfl
/-- what was read of words and the words themselves make nodes that trim to the same -/
theorem trim_read (W : Nat → Int) : ndCells (trimN (nTo (rdW W 24) 8)) = ndCells (trimN (nTo W 8)) := by
  obtain ⟨m, hm⟩ : ∃ m, nTo W 8 = m := ⟨_, rfl⟩
  have hpm : ∀ i, i < 8 → m.p i = W (9 + 2 * i) := fun i hi => by rw [← hm]; exact if_pos hi
  have hkm : ∀ i, i < 8 → m.k i = W (8 + 2 * i) := fun i hi => by rw [← hm]; exact if_pos hi
  have hl8 := m.len_le
  have hne : ∀ j, 9 ≤ j → j % 2 = 1 → j < 9 + 2 * m.len → j < 24 → W j ≠ 0 := fun j h9 ho hj h24 => by
    have h := m.p_lt ((j - 9) / 2) (by omega)
    rw [hpm _ (by omega), show 9 + 2 * ((j - 9) / 2) = j by omega] at h
    exact h
  have hpth : ∀ i, 8 ≤ i → i < 24 → i ≤ 9 + 2 * m.len → pthB W i = true := fun i h8 h24 hi => (pthB_iff W i).2 (.inr (.inr ⟨h8, h24, fun j hj h9 ho => hne j h9 ho (by omega) (by omega)⟩))
  have h5 : ∀ i, i ≤ 4 → rdW W 24 i = W i := fun i hi => by
    unfold rdW
    by_cases h3 : i = 3
    · rw [if_pos (.inl h3)]
    · rw [if_pos (.inr ⟨(pthB_iff W i).2 (by omega), by omega⟩)]
  have hr : ∀ i, 8 ≤ i → i < 24 → i ≤ 9 + 2 * m.len → rdW W 24 i = W i := fun i h8 h24 hi => if_pos (.inr ⟨hpth i h8 h24 hi, h24⟩)
  have hpr : ∀ i, i < 8 → (nTo (rdW W 24) 8).p i = rdW W 24 (9 + 2 * i) := fun i hi => if_pos hi
  have hkr : ∀ i, i < 8 → (nTo (rdW W 24) 8).k i = rdW W 24 (8 + 2 * i) := fun i hi => if_pos hi
  have hlen : (nTo (rdW W 24) 8).len = m.len := len_unique (fun j hj => by rw [hpr j (by omega), hr _ (by omega) (by omega) (by omega), hpm j (by omega)]) (fun h => by
    rw [hpr _ h, hr _ (by omega) (by omega) (by omega), ← hpm _ h]; exact m.p_len h)
  rw [hm]
  refine trim_same ?_ ?_ ?_ ?_ ?_ hlen (fun i hi => ?_) (fun i hi => ?_)
  · rw [← hm]; show rdW W 24 0 - tagM = W 0 - tagM; rw [h5 0 (by omega)]
  · rw [← hm]; exact h5 1 (by omega)
  · rw [← hm]; exact h5 2 (by omega)
  · rw [← hm]; exact h5 3 (by omega)
  · rw [← hm]; exact h5 4 (by omega)
  · rw [hlen] at hi; rw [hkr i (by omega), hr _ (by omega) (by omega) (by omega), hkm i (by omega)]
  · rw [hlen] at hi; rw [hpr i (by omega), hr _ (by omega) (by omega) (by omega), hpm i (by omega)]
end Go.Proofs.Ytgmbnoimlffgcaa
