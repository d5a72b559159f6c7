/-
  The law ValueBack, walked.
-/
import Derived.Test.YtegamhjfloebgaaVq
import Derived.Test.YtegamhjfloebgaaVp
namespace Go.Proofs.Ytegamhjfloebgaa
open Go.RowKit Go.Shelf Go.Maps
attribute [local go_sem] Oper.semAt_some
set_option linter.unusedVariables false

def fillK (x : Int) (k : Nat) : List Value := List.replicate k (Value.int .u8 x) ++ List.replicate (3072 - k) (Value.int .u8 0)
theorem fillK_get (x : Int) (k : Nat) (h : k < 3072) : (fillK x k)[k]? = some (Value.int .u8 0) := by
  unfold fillK
  rw [List.getElem?_append_right (by simp), List.length_replicate, Nat.sub_self, List.getElem?_replicate, if_pos (by omega)]
theorem fillK_set (x : Int) (k : Nat) (h : k < 3072) : (fillK x k).set k (Value.int .u8 x) = fillK x (k + 1) := by
  unfold fillK
  rw [List.set_append_right _ _ (by simp)]
  simp only [List.length_replicate, Nat.sub_self]
  rw [show 3072 - k = (3072 - (k + 1)) + 1 by omega, List.replicate_succ, List.set_cons_zero, List.replicate_succ', List.append_assoc]
  rfl
theorem fillK_full (x : Int) (h0 : 0 ≤ x) (h1 : x ≤ 255) : fillK x 3072 = bvals (List.replicate 3072 (UInt8.ofNat x.toNat)) := by
  unfold fillK bvals
  rw [Nat.sub_self, List.replicate_zero, List.append_nil, List.map_replicate]
  congr 2
  have : (UInt8.ofNat x.toNat).toNat = x.toNat := by simp; omega
  rw [this]; omega
/-- k of its words are laid into it -/
structure BkI (w3 : World) (N0 mb : Nat) (vs0 : List Int) (i8 : Nat) (WL : List Int) (vv vi : Value) (ml : Nat) (k : Nat) (w : World) : Prop where
  m : ∃ n D sl F, MemS w N0 mb (vsK vs0 i8 WL k) vs0 vv vi ml n D sl (fun _ _ => 0) F 0 k 0 0 ∧ n ≤ k ∧ ∀ a, (F a).length ≤ k
  kp : Keeps (SM N0 mb ml vv) w3 w
  sz : N0 ≤ w.heap.size
section
variable {w3 w w' : World} {N0 mb : Nat} {vs0 : List Int} {i8 : Nat} {WL : List Int} {vv vi : Value} {ml k : Nat}
theorem BkI.drew (h : BkI w3 N0 mb vs0 i8 WL vv vi ml k w) : BkI w3 N0 mb vs0 i8 WL vv vi ml k w.drew := by
  obtain ⟨⟨n, D, sl, F, h1, h2, h3⟩, h4, h5⟩ := h
  exact ⟨⟨n, D, sl, F, h1.drew, h2, h3⟩, h4.drew, h5⟩
theorem BkI.store (h : BkI w3 N0 mb vs0 i8 WL vv vi ml k w) (hk : i8 + k < vs0.length) (hl : vs0.length ≤ 1000) :
    Calls Try.prog 25 #[.pointer (some ⟨mb, 0, none⟩), .int .u64 (8 * (i8 : Int) + 8 * (k : Int)), .int .u64 (WL.getD k 0)] w fun e w' => e = .returned (.int .i64 0) ∧ BkI w3 N0 mb vs0 i8 WL vv vi ml (k + 1) w' ∧ Keeps (SM N0 mb ml vv) w w' := by
  obtain ⟨⟨n, D, sl, F, h1, h2, h3⟩, h4, h5⟩ := h
  have hlen := vsK_len vs0 i8 WL k
  refine (mstore_yes w N0 mb _ vs0 vv vi ml n D sl _ F 0 k 0 0 h1 h5 (by rw [hlen]; omega) (by rw [hlen]; omega) (8 * (i8 : Int) + 8 * (k : Int)) (WL.getD k 0) (by omega) (by omega) (by rw [hlen]; unfold atE; rw [if_neg (by omega)]) (by omega) (by omega) (by omega) (by have := h3 (lineOf (8 * (i8 : Int) + 8 * (k : Int))); omega)).mono ?_
  rintro e w' ⟨rfl, v', D', hm, hk'⟩
  rw [show ((8 * (i8 : Int) + 8 * (k : Int)) / 8).toNat = i8 + k by omega] at hm
  refine ⟨rfl, ⟨⟨n + 1, D', _, _, by have e : (((k + 1 : Nat) : Int)) = (k : Int) + 1 := by omega
                                     rw [e]; exact hm, by omega, fun a => ?_⟩, h4.trans hk', Nat.le_trans h5 hk'.size⟩, hk'⟩
  unfold updF
  split
  · rw [List.length_append]; have := h3 (lineOf (8 * (i8 : Int) + 8 * (k : Int))); simp; omega
  · have := h3 a; omega
end
def St17 (N0 mb ml : Nat) (vv : Value) (wr : World) (P : World → Prop) (L : Nat → Bool) (W : World) : Prop := (L 11 = false → W = wr.drew) ∧ (L 11 = true → P W) ∧ Keeps (SM N0 mb ml vv) wr W
set_option maxRecDepth 100000 in
theorem vback_long (s : ByteArray) (slab j x : Int) (w : World) (h : 120 < s.size) (hm : s.size ≤ maxLen) :
    Calls Try.prog 6 #[.string s, .int .i64 slab, .int .i64 j, .int .u8 x] w fun e w' => e = .returned (.bool true) ∧ Below w.heap.size w w' := by
  have h1 : (120 : Int) < (s.size : Int) := by omega
  go_enter Try.func6, Try.ntmps6
  go_wp2_with (go_at_call 8; refine (known_any _).mono ?_; rintro e w7 ⟨rfl, hk⟩; have HK := Lib.hid hk; clear hk)
  go_ret
  exact ⟨rfl, HK.out⟩
set_option maxRecDepth 100000 in
set_option maxHeartbeats 40000000 in
theorem vback_in (L : List UInt8) (slab j x : Int) (w : World) (hl : L.length ≤ 120) (hy0 : 0 ≤ x) (hy1 : x ≤ 255) :
    Calls Try.prog 6 #[.string ⟨L.toArray⟩, .int .i64 slab, .int .i64 j, .int .u8 x] w fun e w' => e = .returned (.bool true) ∧ Below w.heap.size w w' := by
  obtain ⟨i0, hi, hz0, hz1, hz2⟩ := info_parts Try.infoB
  obtain ⟨i2, hi2, hz20, hz21, hz22⟩ := info_parts Try.info22
  have h120 : ¬ (120 : Int) < (L.length : Int) := by omega
  obtain ⟨c, hc⟩ : ∃ c, clsN (L.length : Int) = c := ⟨_, rfl⟩
  have hc12 := cls_12 L.length hl
  rw [hc] at hc12
  have HCl := Lib.hid (fun W => rclass_n (L.length : Int) W)
  rw [hc] at HCl
  have HC12 := Lib.hid hc12
  have HCc := Lib.hid hc
  have HBk := Lib.hid (fun W => rblocks_c c hc12 W)
  have hbk : blkN c = 15 ∨ blkN c = 7 := by unfold blkN; split <;> simp
  obtain ⟨bn, hbn⟩ : ∃ bn, blkN c = bn := ⟨_, rfl⟩
  rw [hbn] at HBk hbk
  obtain ⟨x1, hx1⟩ : ∃ x1, IntKind.u64.wrap slab = x1 := ⟨_, rfl⟩
  have hx1r := u64_rng slab
  rw [hx1] at hx1r
  obtain ⟨t1, ht1⟩ : ∃ t1, x1.tmod 2 = t1 := ⟨_, rfl⟩
  have ht1r : t1 = 0 ∨ t1 = 1 := by rw [← ht1, Int.tmod_eq_emod_of_nonneg hx1r.1]; omega
  obtain ⟨sl, hsl⟩ : ∃ sl, 1 + t1 = sl := ⟨_, rfl⟩
  have hs12 : sl = 1 ∨ sl = 2 := by omega
  have q1 : IntKind.i64.wrap t1 = t1 := IntWalk.i64_in _ (by omega)
  have q2 : IntKind.i64.wrap sl = sl := IntWalk.i64_in _ (by omega)
  have q3 : IntKind.u64.wrap bn = bn := IntWalk.u64_in _ (by omega)
  obtain ⟨x2, hx2⟩ : ∃ x2, IntKind.u64.wrap j = x2 := ⟨_, rfl⟩
  have hx2r := u64_rng j
  rw [hx2] at hx2r
  obtain ⟨jj, hjj⟩ : ∃ jj, x2.tmod bn = jj := ⟨_, rfl⟩
  have hjr : 0 ≤ jj ∧ jj < bn := by rw [← hjj, Int.tmod_eq_emod_of_nonneg hx2r.1]; rcases hbk with h | h <;> rw [h] <;> omega
  have q4 : IntKind.i64.wrap jj = jj := IntWalk.i64_in _ (by omega)
  have hzb : ¬ bn = 0 := by omega
  have HBl := Lib.hid (fun W => rblock_in sl c jj (by omega) hc12 (by rw [hbn]; exact hjr) W)
  obtain ⟨base, hbase⟩ : ∃ b, 1024 * sl + 64 + jj * (64 * c) = b := ⟨_, rfl⟩
  rw [hbase] at HBl
  have hHas : HasBlk base (clsN (L.length : Int)) := ⟨sl.toNat, jj.toNat, by omega, by omega, by rw [hc, hbn]; omega, by rw [← hbase, show ((sl.toNat : Int)) = sl by omega, show ((jj.toNat : Int)) = jj by omega, hc]⟩
  have hbd := blk_bd c hc12 jj.toNat (by rw [hbn]; omega)
  rw [show ((jj.toNat : Int)) = jj by omega] at hbd
  have hbb : 0 ≤ base ∧ base + 64 * c ≤ 3072 ∧ base % 8 = 0 := by
    have hbc : jj * (64 * c) ≤ (blkN c - 1) * (64 * c) := Int.mul_le_mul_of_nonneg_right (by rw [hbn]; omega) (by omega)
    have hbc2 : (blkN c - 1) * (64 * c) + 64 * c ≤ 960 := by rcases hc12 with h | h <;> rw [h] <;> decide
    have h8 : jj * (64 * c) % 8 = 0 := by rw [show jj * (64 * c) = 8 * (jj * (8 * c)) by rw [show (64 : Int) * c = 8 * (8 * c) by omega, Int.mul_left_comm]]; omega
    omega
  obtain ⟨i8, hi8⟩ : ∃ i8 : Nat, base = 8 * (i8 : Int) := ⟨(base / 8).toNat, by omega⟩
  have HBr := Lib.hid (show 0 ≤ base ∧ base ≤ 18446744073709551615 by omega)
  have HBB := Lib.hid hbb
  have HI8 := Lib.hid hi8
  have HHas := Lib.hid hHas
  have HBs := Lib.hid hbase
  have HSl := Lib.hid hs12
  have HJr := Lib.hid (And.intro hjr hbn)
  clear hc12 hc hbk hs12 hjr hbase hbn hx1r hx2r ht1r hHas hbd hbb hi8
  go_enter Try.func6, Try.ntmps6
  go_wp2_with (fail)
  refine (HCl.out _).mono ?_
  rintro e w1 ⟨rfl, rfl⟩
  go_wp2_with (fail)
  refine (HBk.out _).mono ?_
  rintro e w1 ⟨rfl, rfl⟩
  go_wp2_with (fail)
  refine (HBl.out _).mono ?_
  rintro e w1 ⟨rfl, rfl⟩
  go_wp2_with (refine wpList_make_full _ rfl _ _ _ rfl w.heap.size 5 i0 (.int .u8 0) 1 Try.underlying48 hi hz0 hz1 .i64 .i64 3072 3072 3072 rfl rfl rfl rfl (by rw [hz2]; omega) (by unfold maxLen; omega) (Nat.le_refl _) ?_; intro w1 hown hgrow)
  rw [show (Value.int .u8 0).cells = #[Value.int .u8 0] from rfl, toList_madeCells_one, Nat.mul_one] at hown
  obtain ⟨g, hg⟩ : ∃ g, w.heap.size = g := ⟨_, rfl⟩
  have HO0 := Lib.hid (show w1.ownsRow g 5 1 (.slice (some ⟨g, 0, none⟩) 3072 3072) 3072 (fillK x 0) from by rw [← hg]; exact hown)
  have HB0 := Lib.hid (show Below g w w1 from by rw [← hg]; exact (Below.refl w.heap.size w).grown hgrow (Nat.le_refl _) (fun r e => by cases e))
  rw [hg]
  have HG := Lib.hid hg
  clear hown hgrow hg
  go_loopw [12] (fun iv wr => ∃ k : Nat, k ≤ 3072 ∧ iv = .int .i64 k ∧ wr.ownsRow g 5 1 (.slice (some ⟨g, 0, none⟩) 3072 3072) 3072 (fillK x k) ∧ Below g w wr) (fun iv _ => 3072 - (intOf iv).toNat)
  case atStart => exact ⟨0, by omega, rfl, HO0.out, HB0.out⟩
  case round =>
    obtain ⟨k, hk, rfl, hown, hB⟩ := hrel
    have HOw := Lib.hid hown
    have HB := Lib.hid hB
    by_cases hlt : k < 3072
    · have hkb : (k : Int) < 3072 := by omega
      have hc := hown.cells (g := g) rfl k _ (fillK_get x k hlt)
      rw [show ((⟨g, 0, none⟩ : Addr).add k) = ⟨g, k, none⟩ by unfold Addr.add; split; (rename_i h; subst h; rfl); simp] at hc
      have hf := own_frozen hown k
      have HS := Lib.hid (own_set hown k (.int .u8 x))
      have HB2 := Lib.hid (hB.setCell (p := ⟨g, k, none⟩) (Nat.le_refl _) (.int .u8 x))
      rw [fillK_set x k hlt] at HS
      clear hown hB
      go_wp2_with (fail)
      go_roundw
      case rel => exact ⟨k + 1, by omega, by go_num, HS.out, HB2.out⟩
      case measure => simp [intOf]; omega
    · obtain rfl : k = 3072 := by omega
      rw [fillK_full x hy0 hy1] at HOw
      obtain ⟨L0, hL0⟩ : ∃ L0, List.replicate 3072 (UInt8.ofNat x.toNat) = L0 := ⟨_, rfl⟩
      have hL0l : L0.length = 3072 := by rw [← hL0, List.length_replicate]
      rw [hL0] at HOw
      have HBt := Lib.hid (BAt.of_own (p := some ⟨g, 0, none⟩) (n := 3072) (c := 3072) (L := L0) (by rw [hL0l]; exact HOw.out))
      have HOf := Lib.hid (mofS_v L0 384 3072 (some ⟨g, 0, none⟩) wr (by omega) (by rw [hL0l]) (by rw [hL0l]; exact Nat.le_refl _) HBt.out (by rw [hL0l]; rfl))
      rw [hL0l] at HOf
      have HU0 := Lib.hid (wordsB_u64 L0 384)
      clear hown hB hL0
      go_wp2_with (fail)
      refine HOf.out.mono ?_
      rintro e w2 ⟨rfl, ⟨vv, vi, ml, hms, hml, hblk, hmlt⟩, hB2⟩
      have HGs := Lib.hid (show g ≤ wr.heap.size from by rw [← HG.out]; exact HB.out.size)
      have HB2 := Lib.hid (HB.out.trans (hB2.mono HGs.out))
      obtain ⟨mb, hmb⟩ : ∃ mb, wr.heap.size + 1 = mb := ⟨_, rfl⟩
      have hge : ∀ i, i = ml ∨ MS mb vv vi i → g ≤ i := fun i hi => by
        rcases hi with rfl | hi
        · exact Nat.le_trans HGs.out hml
        · exact Nat.le_trans HGs.out (hblk i (by rw [hmb]; exact hi)).2
      rw [hmb] at hms hblk ⊢
      have HMs := Lib.hid hms
      have HGe := Lib.hid hge
      have HBlk := Lib.hid hblk
      have HMl := Lib.hid hmlt
      clear hms hge hblk hmb hml hmlt hB2
      go_wp2_with (fail)
      refine (puts_s base L (by omega) HBr.out.1 HBr.out.2 w2).mono ?_
      rintro e w3 ⟨hpp, hB3⟩
      rw [if_neg (by omega)] at hpp
      rcases hpp with ⟨hno, _⟩ | ⟨_, v, rfl, hown⟩
      · exact absurd HHas.out hno
      have hpl : (putsL base L).length = (packW L).length := putTo_len _ _ _
      have hwp : 0 < (packW L).length := by rw [packW_len]; omega
      obtain ⟨gl, cl, rfl, hgl1, hgl2, hcl, _, hents⟩ := own_ents hown rfl (by rw [hpl]; exact hwp)
      have HEn := Lib.hid (show ∀ k, k < (packW L).length → w3.cell? ⟨gl, k * 2, none⟩ = some (.int .u64 (base + 8 * (k : Int))) ∧ w3.cell? ⟨gl, k * 2 + 1, none⟩ = some (.int .u64 ((packW L).getD k 0)) from fun k hk => by
        have h1 := hents k (by rw [hpl]; exact hk)
        have h2 : (putsL base L).getD k (0, 0) = (base + 8 * (k : Int), (packW L).getD k 0) := by
          unfold putsL putTo
          rw [List.getD_eq_getElem?_getD]
          simp [hk]
        unfold eK eP at h1
        rw [h2, Nat.zero_add] at h1
        exact h1)
      rw [hpl] at hcl ⊢
      obtain ⟨N0, hN0⟩ : ∃ N0, w3.heap.size = N0 := ⟨_, rfl⟩
      have HI0 := Lib.hid (show BkI w3 N0 mb (wordsB L0 384) i8 (packW L) vv vi ml 0 w3 from ⟨⟨0, _, _, _, (HMs.out N0 (by rw [← hN0]; exact hB3.size)).below hB3, Nat.le_refl _, fun a => Nat.le_refl _⟩, Keeps.refl _ _, by rw [hN0]; exact Nat.le_refl _⟩)
      have HGl := Lib.hid (show gl < w3.heap.size ∧ ¬ SM N0 mb ml vv gl from ⟨hgl2, by
        have hb2 : w2.heap.size ≤ gl := hgl1
        rintro (h | h | h | h)
        · have := (HBlk.out mb (.inl rfl)).1; omega
        · have := HMl.out; omega
        · have := (HBlk.out gl (.inr (.inl h))).1; omega
        · omega⟩)
      have HB3 := Lib.hid (HB2.out.trans (hB3.mono (by rw [← HG.out]; exact HB2.out.size)))
      obtain ⟨WL, hWL⟩ : ∃ WL, packW L = WL := ⟨_, rfl⟩
      obtain ⟨wl, hwl⟩ : ∃ wl, WL.length = wl := ⟨_, rfl⟩
      obtain ⟨vs0, hvs0⟩ : ∃ vs0, wordsB L0 384 = vs0 := ⟨_, rfl⟩
      rw [hWL] at HI0 HEn hcl hwp ⊢
      rw [hwl] at HEn hcl hwp ⊢
      rw [hvs0] at HI0 HU0
      have HWL := Lib.hid hWL
      have HWl := Lib.hid hwl
      have HN3 := Lib.hid (show w3.heap.size ≤ N0 from by rw [hN0]; exact Nat.le_refl _)
      have HVl := Lib.hid (show vs0.length = 384 by rw [← hvs0, wordsB_len])
      clear hpl hown hents hB3 hgl1 hgl2 hN0 hWL hwl hvs0
      go_wp2_with (fail)
      have HFit := Lib.hid (show 8 * (wl : Int) ≤ 64 * c from by
        have h1 := packW_len L
        have h2 := HWL.out
        have h3 := HWl.out
        have h4 := HCc.out
        rw [← h3, ← h2, h1]
        unfold clsN at h4
        split at h4
        · omega
        · split at h4
          · omega
          · first | omega | (split at h4 <;> omega))
      have HC2 := Lib.hid (show 1 ≤ c ∧ c ≤ 2 from by rcases HC12.out with h | h <;> rw [h] <;> decide)
      have hw16 : wl ≤ 16 := by have := HFit.out; have := HC2.out; omega
      have HBy := Lib.hid (fun W => rbytes_c c HC12.out W)
      have HQ1 := Lib.hid (show IntKind.u64.wrap (64 * c) = 64 * c from IntWalk.u64_in _ (by have := HC2.out; omega))
      have HQ2 := Lib.hid (show IntKind.u64.wrap (base + 64 * c) = base + 64 * c from IntWalk.u64_in _ (by have := HC2.out; have := HBB.out; omega))
      go_loopw [17] (fun iv wq => ∃ k : Nat, k ≤ wl ∧ iv = .int .i64 k ∧ BkI w3 N0 mb vs0 i8 WL vv vi ml k wq) (fun iv _ => wl - (intOf iv).toNat)
      case atStart => exact ⟨0, by omega, rfl, HI0.out⟩
      case round =>
        obtain ⟨k, hk, rfl, hI⟩ := hrel
        have HI := Lib.hid hI
        clear hI
        by_cases hlt : k < wl
        · have hkb : (k : Int) < (wl : Int) := by omega
          have HLT := Lib.hid hlt
          obtain ⟨ad, had⟩ : ∃ ad, base + 8 * (k : Int) = ad := ⟨_, rfl⟩
          obtain ⟨wk, hwk⟩ : ∃ wk, WL.getD k 0 = wk := ⟨_, rfl⟩
          have hst := (HI.out.drew).store (by rw [HVl.out]; have := HBB.out; have := HFit.out; have := HI8.out; omega) (by rw [HVl.out]; omega)
          rw [← HI8.out, had, hwk] at hst
          have HSt := Lib.hid hst
          have hck := HEn.out k hlt
          rw [had, hwk] at hck
          obtain ⟨wr', hwr⟩ : ∃ y, y = wr := ⟨_, rfl⟩
          have HCk := Lib.hid (And.intro ((HI.out.kp.cell (p := ⟨gl, k * 2, none⟩) HGl.out.1 HGl.out.2).trans hck.1) ((HI.out.kp.cell (p := ⟨gl, k * 2 + 1, none⟩) HGl.out.1 HGl.out.2).trans hck.2))
          have HGr := Lib.hid (And.intro (Nat.lt_of_lt_of_le HGl.out.1 HI.out.kp.size) HGl.out.2)
          have HLo := Lib.hid (show decide (ad < base) = false from decide_eq_false (by omega))
          have HHi := Lib.hid (show decide (base + 64 * c ≤ ad) = false from decide_eq_false (by have := HFit.out; omega))
          clear hst hck had hwk hlt hwr
          go_wp2_with (fail)
          --GEN r_vb17
          refine wp_region_vals [Is (.pointer (some ⟨mb, 0, none⟩)), Is (.slice (some ⟨gl, 0, none⟩) wl cl), Is (.int .i64 k), Is (.pointer (some ⟨gl, k * 2, none⟩)), Is (.pointer (some ⟨gl, k * 2, none⟩)), Is (.int .u64 ad), Is (.slice (some ⟨gl, 0, none⟩) wl cl), Is (.int .i64 k), Is (.pointer (some ⟨gl, k * 2, none⟩)), Is (.pointer (some ⟨gl, k * 2 + 1, none⟩)), Is (.int .u64 wk), Is (.int .i64 0), Is (.bool false), Is (.bool false), Is (.slice (some ⟨gl, 0, none⟩) wl cl), Is (.int .i64 k), Is (.pointer (some ⟨gl, k * 2, none⟩)), Is (.pointer (some ⟨gl, k * 2, none⟩)), Is (.int .u64 ad), Is (.int .u64 base), Is (.bool false), Is (.bool false), Is (.bool false), Is (.slice (some ⟨gl, 0, none⟩) wl cl), Is (.int .i64 k), Is (.pointer (some ⟨gl, k * 2, none⟩)), Is (.pointer (some ⟨gl, k * 2, none⟩)), Is (.int .u64 ad), Is (.int .u64 base), Is (.int .i64 c), Is (.int .i64 (64 * c)), Is (.int .u64 (64 * c)), Is (.int .u64 (base + 64 * c)), Is (.bool false), Is (.bool false)]
            (fun _ _ _ => True) (fun L W => St17 N0 mb ml vv wr (BkI w3 N0 mb vs0 i8 WL vv vi ml (k + 1)) L W) (by kernel_rfl) (by kernel_rfl) (by kernel_rfl) ?hst ?h0 ⟨?o0, ?o1, ?o2, ?o3, ?o4, ?o5, ?o6, ?o7, ?o8, ?o9, ?o10, ?o11, ?o12, ?o13, ?o14, ?o15, ?o16, ?o17, ?o18, ?o19, ?o20, ?o21, ?o22, ?o23, ?o24, ?o25, ?o26, ?o27, ?o28, ?o29, ?o30, ?o31, ?o32, ?o33, ?o34, trivial⟩ ?he
          case hst =>
            exact ⟨(fun _ _ _ _ _ _ h _ => h), (fun _ _ _ _ _ _ h _ => h), (fun _ _ _ _ _ _ h _ => h), (fun _ _ _ _ _ _ h _ => h), (fun _ _ _ _ _ _ h _ => h), (fun _ _ _ _ _ _ h _ => h), (fun _ _ _ _ _ _ h _ => h), (fun _ _ _ _ _ _ h _ => h), (fun _ _ _ _ _ _ h _ => h), (fun _ _ _ _ _ _ h _ => h), (fun _ _ _ _ _ _ h _ => h), (fun _ _ _ _ _ _ h _ => h), (fun _ _ _ _ _ _ h _ => h), (fun _ _ _ _ _ _ h _ => h), (fun _ _ _ _ _ _ h _ => h), (fun _ _ _ _ _ _ h _ => h), (fun _ _ _ _ _ _ h _ => h), (fun _ _ _ _ _ _ h _ => h), (fun _ _ _ _ _ _ h _ => h), (fun _ _ _ _ _ _ h _ => h), (fun _ _ _ _ _ _ h _ => h), (fun _ _ _ _ _ _ h _ => h), (fun _ _ _ _ _ _ h _ => h), (fun _ _ _ _ _ _ h _ => h), (fun _ _ _ _ _ _ h _ => h), (fun _ _ _ _ _ _ h _ => h), (fun _ _ _ _ _ _ h _ => h), (fun _ _ _ _ _ _ h _ => h), (fun _ _ _ _ _ _ h _ => h), (fun _ _ _ _ _ _ h _ => h), (fun _ _ _ _ _ _ h _ => h), (fun _ _ _ _ _ _ h _ => h), (fun _ _ _ _ _ _ h _ => h), (fun _ _ _ _ _ _ h _ => h), (fun _ _ _ _ _ _ h _ => h), trivial⟩
          case h0 =>
            exact ⟨fun _ => rfl, fun e => (by cases e), (Keeps.refl _ _).drew⟩
          case o0 =>
            intro L vs A W H hf hd K hK
            have e13 : A.tmps[13]?.getD undef = .pointer (some ⟨mb, 0, none⟩) := H.old 13 (by kernel_rfl)
            go_simp
            exact hK _ _ (trivial) rfl (H.glob)
          case o1 =>
            intro L vs A W H hf hd K hK
            have e15 : A.tmps[15]?.getD undef = .slice (some ⟨gl, 0, none⟩) wl cl := H.old 15 (by kernel_rfl)
            go_simp
            exact hK _ _ (trivial) rfl (H.glob)
          case o2 =>
            intro L vs A W H hf hd K hK
            have e17 : A.tmps[17]?.getD undef = .int .i64 k := H.old 17 (by kernel_rfl)
            go_simp
            exact hK _ _ (trivial) rfl (H.glob)
          case o3 =>
            intro L vs A W H hf hd K hK
            have e87 := H.is 1 87 rfl rfl rfl (deps_of' hd 1 (by kernel_rfl)) (by kernel_rfl)
            have e88 := H.is 2 88 rfl rfl rfl (deps_of' hd 2 (by kernel_rfl)) (by kernel_rfl)
            go_simp
            exact hK _ _ (trivial) rfl (H.glob)
          case o4 =>
            intro L vs A W H hf hd K hK
            have e89 := H.is 3 89 rfl rfl rfl (deps_of' hd 3 (by kernel_rfl)) (by kernel_rfl)
            go_simp
            exact hK _ _ (trivial) rfl (H.glob)
          case o5 =>
            intro L vs A W H hf hd K hK
            have e90 := H.is 4 90 rfl rfl rfl (deps_of' hd 4 (by kernel_rfl)) (by kernel_rfl)
            have d := (H.glob.2.2.cell (p := ⟨gl, k * 2, none⟩) HGr.out.1 HGr.out.2).trans HCk.out.1
            go_simp
            exact hK _ _ (trivial) rfl (H.glob)
          case o6 =>
            intro L vs A W H hf hd K hK
            have e15 : A.tmps[15]?.getD undef = .slice (some ⟨gl, 0, none⟩) wl cl := H.old 15 (by kernel_rfl)
            go_simp
            exact hK _ _ (trivial) rfl (H.glob)
          case o7 =>
            intro L vs A W H hf hd K hK
            have e17 : A.tmps[17]?.getD undef = .int .i64 k := H.old 17 (by kernel_rfl)
            go_simp
            exact hK _ _ (trivial) rfl (H.glob)
          case o8 =>
            intro L vs A W H hf hd K hK
            have e92 := H.is 6 92 rfl rfl rfl (deps_of' hd 6 (by kernel_rfl)) (by kernel_rfl)
            have e93 := H.is 7 93 rfl rfl rfl (deps_of' hd 7 (by kernel_rfl)) (by kernel_rfl)
            go_simp
            exact hK _ _ (trivial) rfl (H.glob)
          case o9 =>
            intro L vs A W H hf hd K hK
            have e94 := H.is 8 94 rfl rfl rfl (deps_of' hd 8 (by kernel_rfl)) (by kernel_rfl)
            go_simp
            exact hK _ _ (trivial) rfl (H.glob)
          case o10 =>
            intro L vs A W H hf hd K hK
            have e95 := H.is 9 95 rfl rfl rfl (deps_of' hd 9 (by kernel_rfl)) (by kernel_rfl)
            have d := (H.glob.2.2.cell (p := ⟨gl, k * 2 + 1, none⟩) HGr.out.1 HGr.out.2).trans HCk.out.2
            go_simp
            exact hK _ _ (trivial) rfl (H.glob)
          case o11 =>
            intro L vs A W H hf hd K hK
            have e86 := H.is 0 86 rfl rfl rfl (deps_of' hd 0 (by kernel_rfl)) (by kernel_rfl)
            have e91 := H.is 5 91 rfl rfl rfl (deps_of' hd 5 (by kernel_rfl)) (by kernel_rfl)
            have e96 := H.is 10 96 rfl rfl rfl (deps_of' hd 10 (by kernel_rfl)) (by kernel_rfl)
            have hW := H.glob.1 hf
            subst hW
            go_simp
            refine HSt.out.mono ?_
            rintro e w' ⟨rfl, hI, hk1⟩
            go_simp
            exact hK _ _ trivial rfl ⟨fun e => (by cases e), fun _ => hI, (Keeps.refl _ wr).drew.trans hk1⟩
          case o12 =>
            intro L vs A W H hf hd K hK
            have e97 := H.is 11 97 rfl rfl rfl (deps_of' hd 11 (by kernel_rfl)) (by kernel_rfl)
            go_simp
            exact hK _ _ (trivial) rfl (H.glob)
          case o13 =>
            intro L vs A W H hf hd K hK
            have e98 := H.is 12 98 rfl rfl rfl (deps_of' hd 12 (by kernel_rfl)) (by kernel_rfl)
            go_simp
            exact hK _ _ (trivial) rfl (H.glob)
          case o14 =>
            intro L vs A W H hf hd K hK
            have e99 := H.is 13 99 rfl rfl rfl (deps_of' hd 13 (by kernel_rfl)) (by kernel_rfl)
            refine if_wanted (j := 13) (s := 99) rfl rfl rfl e99 rfl ?_
            have e15 : A.tmps[15]?.getD undef = .slice (some ⟨gl, 0, none⟩) wl cl := H.old 15 (by kernel_rfl)
            go_simp
            exact hK _ _ (trivial) rfl (H.glob)
          case o15 =>
            intro L vs A W H hf hd K hK
            have e99 := H.is 13 99 rfl rfl rfl (deps_of' hd 13 (by kernel_rfl)) (by kernel_rfl)
            refine if_wanted (j := 13) (s := 99) rfl rfl rfl e99 rfl ?_
            have e17 : A.tmps[17]?.getD undef = .int .i64 k := H.old 17 (by kernel_rfl)
            go_simp
            exact hK _ _ (trivial) rfl (H.glob)
          case o16 =>
            intro L vs A W H hf hd K hK
            have e99 := H.is 13 99 rfl rfl rfl (deps_of' hd 13 (by kernel_rfl)) (by kernel_rfl)
            refine if_wanted (j := 13) (s := 99) rfl rfl rfl e99 rfl ?_
            have e100 := H.is 14 100 rfl rfl rfl (deps_of' hd 14 (by kernel_rfl)) (by kernel_rfl)
            have e101 := H.is 15 101 rfl rfl rfl (deps_of' hd 15 (by kernel_rfl)) (by kernel_rfl)
            go_simp
            exact hK _ _ (trivial) rfl (H.glob)
          case o17 =>
            intro L vs A W H hf hd K hK
            have e99 := H.is 13 99 rfl rfl rfl (deps_of' hd 13 (by kernel_rfl)) (by kernel_rfl)
            refine if_wanted (j := 13) (s := 99) rfl rfl rfl e99 rfl ?_
            have e102 := H.is 16 102 rfl rfl rfl (deps_of' hd 16 (by kernel_rfl)) (by kernel_rfl)
            go_simp
            exact hK _ _ (trivial) rfl (H.glob)
          case o18 =>
            intro L vs A W H hf hd K hK
            have e99 := H.is 13 99 rfl rfl rfl (deps_of' hd 13 (by kernel_rfl)) (by kernel_rfl)
            refine if_wanted (j := 13) (s := 99) rfl rfl rfl e99 rfl ?_
            have e103 := H.is 17 103 rfl rfl rfl (deps_of' hd 17 (by kernel_rfl)) (by kernel_rfl)
            have d := (H.glob.2.2.cell (p := ⟨gl, k * 2, none⟩) HGr.out.1 HGr.out.2).trans HCk.out.1
            go_simp
            exact hK _ _ (trivial) rfl (H.glob)
          case o19 =>
            intro L vs A W H hf hd K hK
            have e99 := H.is 13 99 rfl rfl rfl (deps_of' hd 13 (by kernel_rfl)) (by kernel_rfl)
            refine if_wanted (j := 13) (s := 99) rfl rfl rfl e99 rfl ?_
            have e10 : A.tmps[10]?.getD undef = .int .u64 base := H.old 10 (by kernel_rfl)
            go_simp
            exact hK _ _ (trivial) rfl (H.glob)
          case o20 =>
            intro L vs A W H hf hd K hK
            have e99 := H.is 13 99 rfl rfl rfl (deps_of' hd 13 (by kernel_rfl)) (by kernel_rfl)
            refine if_wanted (j := 13) (s := 99) rfl rfl rfl e99 rfl ?_
            have e104 := H.is 18 104 rfl rfl rfl (deps_of' hd 18 (by kernel_rfl)) (by kernel_rfl)
            have e105 := H.is 19 105 rfl rfl rfl (deps_of' hd 19 (by kernel_rfl)) (by kernel_rfl)
            have hlo := HLo.out
            go_simp
            exact hK _ _ (trivial) rfl (H.glob)
          case o21 =>
            intro L vs A W H hf hd K hK
            have e99 := H.is 13 99 rfl rfl rfl (deps_of' hd 13 (by kernel_rfl)) (by kernel_rfl)
            have e106 := H.is 20 106 rfl rfl rfl (deps_of' hd 20 (by kernel_rfl)) (by kernel_rfl)
            go_simp
            exact hK _ _ (trivial) rfl (H.glob)
          case o22 =>
            intro L vs A W H hf hd K hK
            have e107 := H.is 21 107 rfl rfl rfl (deps_of' hd 21 (by kernel_rfl)) (by kernel_rfl)
            go_simp
            exact hK _ _ (trivial) rfl (H.glob)
          case o23 =>
            intro L vs A W H hf hd K hK
            have e108 := H.is 22 108 rfl rfl rfl (deps_of' hd 22 (by kernel_rfl)) (by kernel_rfl)
            refine if_wanted (j := 22) (s := 108) rfl rfl rfl e108 rfl ?_
            have e15 : A.tmps[15]?.getD undef = .slice (some ⟨gl, 0, none⟩) wl cl := H.old 15 (by kernel_rfl)
            go_simp
            exact hK _ _ (trivial) rfl (H.glob)
          case o24 =>
            intro L vs A W H hf hd K hK
            have e108 := H.is 22 108 rfl rfl rfl (deps_of' hd 22 (by kernel_rfl)) (by kernel_rfl)
            refine if_wanted (j := 22) (s := 108) rfl rfl rfl e108 rfl ?_
            have e17 : A.tmps[17]?.getD undef = .int .i64 k := H.old 17 (by kernel_rfl)
            go_simp
            exact hK _ _ (trivial) rfl (H.glob)
          case o25 =>
            intro L vs A W H hf hd K hK
            have e108 := H.is 22 108 rfl rfl rfl (deps_of' hd 22 (by kernel_rfl)) (by kernel_rfl)
            refine if_wanted (j := 22) (s := 108) rfl rfl rfl e108 rfl ?_
            have e109 := H.is 23 109 rfl rfl rfl (deps_of' hd 23 (by kernel_rfl)) (by kernel_rfl)
            have e110 := H.is 24 110 rfl rfl rfl (deps_of' hd 24 (by kernel_rfl)) (by kernel_rfl)
            go_simp
            exact hK _ _ (trivial) rfl (H.glob)
          case o26 =>
            intro L vs A W H hf hd K hK
            have e108 := H.is 22 108 rfl rfl rfl (deps_of' hd 22 (by kernel_rfl)) (by kernel_rfl)
            refine if_wanted (j := 22) (s := 108) rfl rfl rfl e108 rfl ?_
            have e111 := H.is 25 111 rfl rfl rfl (deps_of' hd 25 (by kernel_rfl)) (by kernel_rfl)
            go_simp
            exact hK _ _ (trivial) rfl (H.glob)
          case o27 =>
            intro L vs A W H hf hd K hK
            have e108 := H.is 22 108 rfl rfl rfl (deps_of' hd 22 (by kernel_rfl)) (by kernel_rfl)
            refine if_wanted (j := 22) (s := 108) rfl rfl rfl e108 rfl ?_
            have e112 := H.is 26 112 rfl rfl rfl (deps_of' hd 26 (by kernel_rfl)) (by kernel_rfl)
            have d := (H.glob.2.2.cell (p := ⟨gl, k * 2, none⟩) HGr.out.1 HGr.out.2).trans HCk.out.1
            go_simp
            exact hK _ _ (trivial) rfl (H.glob)
          case o28 =>
            intro L vs A W H hf hd K hK
            have e108 := H.is 22 108 rfl rfl rfl (deps_of' hd 22 (by kernel_rfl)) (by kernel_rfl)
            refine if_wanted (j := 22) (s := 108) rfl rfl rfl e108 rfl ?_
            have e10 : A.tmps[10]?.getD undef = .int .u64 base := H.old 10 (by kernel_rfl)
            go_simp
            exact hK _ _ (trivial) rfl (H.glob)
          case o29 =>
            intro L vs A W H hf hd K hK
            have e108 := H.is 22 108 rfl rfl rfl (deps_of' hd 22 (by kernel_rfl)) (by kernel_rfl)
            refine if_wanted (j := 22) (s := 108) rfl rfl rfl e108 rfl ?_
            have e9 : A.tmps[9]?.getD undef = .int .i64 c := H.old 9 (by kernel_rfl)
            go_simp
            exact hK _ _ (trivial) rfl (H.glob)
          case o30 =>
            intro L vs A W H hf hd K hK
            have e108 := H.is 22 108 rfl rfl rfl (deps_of' hd 22 (by kernel_rfl)) (by kernel_rfl)
            refine if_wanted (j := 22) (s := 108) rfl rfl rfl e108 rfl ?_
            have e115 := H.is 29 115 rfl rfl rfl (deps_of' hd 29 (by kernel_rfl)) (by kernel_rfl)
            go_simp
            refine (HBy.out W).mono ?_
            rintro e w' ⟨rfl, rfl⟩
            go_simp
            exact hK _ _ trivial rfl H.glob
          case o31 =>
            intro L vs A W H hf hd K hK
            have e108 := H.is 22 108 rfl rfl rfl (deps_of' hd 22 (by kernel_rfl)) (by kernel_rfl)
            refine if_wanted (j := 22) (s := 108) rfl rfl rfl e108 rfl ?_
            have e116 := H.is 30 116 rfl rfl rfl (deps_of' hd 30 (by kernel_rfl)) (by kernel_rfl)
            have hw1 := HQ1.out
            go_simp
            exact hK _ _ (trivial) rfl (H.glob)
          case o32 =>
            intro L vs A W H hf hd K hK
            have e108 := H.is 22 108 rfl rfl rfl (deps_of' hd 22 (by kernel_rfl)) (by kernel_rfl)
            refine if_wanted (j := 22) (s := 108) rfl rfl rfl e108 rfl ?_
            have e114 := H.is 28 114 rfl rfl rfl (deps_of' hd 28 (by kernel_rfl)) (by kernel_rfl)
            have e117 := H.is 31 117 rfl rfl rfl (deps_of' hd 31 (by kernel_rfl)) (by kernel_rfl)
            have hw2 := HQ2.out
            go_simp
            exact hK _ _ (trivial) rfl (H.glob)
          case o33 =>
            intro L vs A W H hf hd K hK
            have e108 := H.is 22 108 rfl rfl rfl (deps_of' hd 22 (by kernel_rfl)) (by kernel_rfl)
            refine if_wanted (j := 22) (s := 108) rfl rfl rfl e108 rfl ?_
            have e113 := H.is 27 113 rfl rfl rfl (deps_of' hd 27 (by kernel_rfl)) (by kernel_rfl)
            have e118 := H.is 32 118 rfl rfl rfl (deps_of' hd 32 (by kernel_rfl)) (by kernel_rfl)
            have hhi := HHi.out
            go_simp
            exact hK _ _ (trivial) rfl (H.glob)
          case o34 =>
            intro L vs A W H hf hd K hK
            have e108 := H.is 22 108 rfl rfl rfl (deps_of' hd 22 (by kernel_rfl)) (by kernel_rfl)
            have e119 := H.is 33 119 rfl rfl rfl (deps_of' hd 33 (by kernel_rfl)) (by kernel_rfl)
            go_simp
            exact hK _ _ (trivial) rfl (H.glob)
          case he =>
            intro vs W hlen hv
            match vs, hlen, hv with
            | x0_ :: x1_ :: x2_ :: x3_ :: x4_ :: x5_ :: x6_ :: x7_ :: x8_ :: x9_ :: x10_ :: x11_ :: x12_ :: x13_ :: x14_ :: x15_ :: x16_ :: x17_ :: x18_ :: x19_ :: x20_ :: x21_ :: x22_ :: x23_ :: x24_ :: x25_ :: x26_ :: x27_ :: x28_ :: x29_ :: x30_ :: x31_ :: x32_ :: x33_ :: x34_ :: [], _, hv =>
            obtain rfl : (.pointer (some ⟨mb, 0, none⟩)) = x0_ := by obtain ⟨z, h1, h2⟩ := hv 0 _ rfl; cases h1; exact h2.symm
            obtain rfl : (.slice (some ⟨gl, 0, none⟩) wl cl) = x1_ := by obtain ⟨z, h1, h2⟩ := hv 1 _ rfl; cases h1; exact h2.symm
            obtain rfl : (.int .i64 k) = x2_ := by obtain ⟨z, h1, h2⟩ := hv 2 _ rfl; cases h1; exact h2.symm
            obtain rfl : (.pointer (some ⟨gl, k * 2, none⟩)) = x3_ := by obtain ⟨z, h1, h2⟩ := hv 3 _ rfl; cases h1; exact h2.symm
            obtain rfl : (.pointer (some ⟨gl, k * 2, none⟩)) = x4_ := by obtain ⟨z, h1, h2⟩ := hv 4 _ rfl; cases h1; exact h2.symm
            obtain rfl : (.int .u64 ad) = x5_ := by obtain ⟨z, h1, h2⟩ := hv 5 _ rfl; cases h1; exact h2.symm
            obtain rfl : (.slice (some ⟨gl, 0, none⟩) wl cl) = x6_ := by obtain ⟨z, h1, h2⟩ := hv 6 _ rfl; cases h1; exact h2.symm
            obtain rfl : (.int .i64 k) = x7_ := by obtain ⟨z, h1, h2⟩ := hv 7 _ rfl; cases h1; exact h2.symm
            obtain rfl : (.pointer (some ⟨gl, k * 2, none⟩)) = x8_ := by obtain ⟨z, h1, h2⟩ := hv 8 _ rfl; cases h1; exact h2.symm
            obtain rfl : (.pointer (some ⟨gl, k * 2 + 1, none⟩)) = x9_ := by obtain ⟨z, h1, h2⟩ := hv 9 _ rfl; cases h1; exact h2.symm
            obtain rfl : (.int .u64 wk) = x10_ := by obtain ⟨z, h1, h2⟩ := hv 10 _ rfl; cases h1; exact h2.symm
            obtain rfl : (.int .i64 0) = x11_ := by obtain ⟨z, h1, h2⟩ := hv 11 _ rfl; cases h1; exact h2.symm
            obtain rfl : (.bool false) = x12_ := by obtain ⟨z, h1, h2⟩ := hv 12 _ rfl; cases h1; exact h2.symm
            obtain rfl : (.bool false) = x13_ := by obtain ⟨z, h1, h2⟩ := hv 13 _ rfl; cases h1; exact h2.symm
            obtain rfl : (.slice (some ⟨gl, 0, none⟩) wl cl) = x14_ := by obtain ⟨z, h1, h2⟩ := hv 14 _ rfl; cases h1; exact h2.symm
            obtain rfl : (.int .i64 k) = x15_ := by obtain ⟨z, h1, h2⟩ := hv 15 _ rfl; cases h1; exact h2.symm
            obtain rfl : (.pointer (some ⟨gl, k * 2, none⟩)) = x16_ := by obtain ⟨z, h1, h2⟩ := hv 16 _ rfl; cases h1; exact h2.symm
            obtain rfl : (.pointer (some ⟨gl, k * 2, none⟩)) = x17_ := by obtain ⟨z, h1, h2⟩ := hv 17 _ rfl; cases h1; exact h2.symm
            obtain rfl : (.int .u64 ad) = x18_ := by obtain ⟨z, h1, h2⟩ := hv 18 _ rfl; cases h1; exact h2.symm
            obtain rfl : (.int .u64 base) = x19_ := by obtain ⟨z, h1, h2⟩ := hv 19 _ rfl; cases h1; exact h2.symm
            obtain rfl : (.bool false) = x20_ := by obtain ⟨z, h1, h2⟩ := hv 20 _ rfl; cases h1; exact h2.symm
            obtain rfl : (.bool false) = x21_ := by obtain ⟨z, h1, h2⟩ := hv 21 _ rfl; cases h1; exact h2.symm
            obtain rfl : (.bool false) = x22_ := by obtain ⟨z, h1, h2⟩ := hv 22 _ rfl; cases h1; exact h2.symm
            obtain rfl : (.slice (some ⟨gl, 0, none⟩) wl cl) = x23_ := by obtain ⟨z, h1, h2⟩ := hv 23 _ rfl; cases h1; exact h2.symm
            obtain rfl : (.int .i64 k) = x24_ := by obtain ⟨z, h1, h2⟩ := hv 24 _ rfl; cases h1; exact h2.symm
            obtain rfl : (.pointer (some ⟨gl, k * 2, none⟩)) = x25_ := by obtain ⟨z, h1, h2⟩ := hv 25 _ rfl; cases h1; exact h2.symm
            obtain rfl : (.pointer (some ⟨gl, k * 2, none⟩)) = x26_ := by obtain ⟨z, h1, h2⟩ := hv 26 _ rfl; cases h1; exact h2.symm
            obtain rfl : (.int .u64 ad) = x27_ := by obtain ⟨z, h1, h2⟩ := hv 27 _ rfl; cases h1; exact h2.symm
            obtain rfl : (.int .u64 base) = x28_ := by obtain ⟨z, h1, h2⟩ := hv 28 _ rfl; cases h1; exact h2.symm
            obtain rfl : (.int .i64 c) = x29_ := by obtain ⟨z, h1, h2⟩ := hv 29 _ rfl; cases h1; exact h2.symm
            obtain rfl : (.int .i64 (64 * c)) = x30_ := by obtain ⟨z, h1, h2⟩ := hv 30 _ rfl; cases h1; exact h2.symm
            obtain rfl : (.int .u64 (64 * c)) = x31_ := by obtain ⟨z, h1, h2⟩ := hv 31 _ rfl; cases h1; exact h2.symm
            obtain rfl : (.int .u64 (base + 64 * c)) = x32_ := by obtain ⟨z, h1, h2⟩ := hv 32 _ rfl; cases h1; exact h2.symm
            obtain rfl : (.bool false) = x33_ := by obtain ⟨z, h1, h2⟩ := hv 33 _ rfl; cases h1; exact h2.symm
            obtain rfl : (.bool false) = x34_ := by obtain ⟨z, h1, h2⟩ := hv 34 _ rfl; cases h1; exact h2.symm
            intro L hall hG
            clear hv hlen
            have HW := Lib.hid (hG.2.1 (hall 11 (by decide)))
            clear hG hall
            simp only [fill, if_true]
          --END
            simp [Act.put]
            go_wp2_with (fail)
            go_roundw
            case rel => exact ⟨k + 1, HLT.out, by go_num, HW.out⟩
            case measure => have := HLT.out; simp [intOf]; omega
        · obtain rfl : k = wl := by omega
          obtain ⟨⟨nD, D, sl9, F9, hm9, _, _⟩, hk9, hs9⟩ := HI.out
          have hvl := vsK_len vs0 i8 WL k
          rw [HVl.out] at hvl
          have hu0 := packW_u64 L (by omega)
          rw [HWL.out] at hu0
          have hvu := vsK_u64 HU0.out hu0 i8 k
          obtain ⟨vF, hvF⟩ : ∃ vF, vsK vs0 i8 WL k = vF := ⟨_, rfl⟩
          rw [hvF] at hm9 hvl hvu
          have hst := laid_stands (i0 := i8) HU0.out hl (by rw [HWL.out, HWl.out, HVl.out]; have := HFit.out; have := HBB.out; have := HI8.out; omega)
          have hpa := laid_parse (i0 := i8) HU0.out hl (by rw [HWL.out, HWl.out, HVl.out]; have := HFit.out; have := HBB.out; have := HI8.out; omega) (8 * c.toNat) (by rw [HWL.out, HWl.out]; have := HFit.out; have := HC2.out; omega)
          rw [HWL.out, HWl.out, hvF] at hst hpa
          rw [HCc.out] at hpa
          rw [← HI8.out] at hst
          obtain ⟨M, hM⟩ : ∃ M, bytesW vF = M := ⟨_, rfl⟩
          have hMl : M.length = 3072 := by rw [← hM, bytesW_len, hvl]
          have hMw : wordsB M 384 = vF := by rw [← hM]; exact wordsB_bytes vF 384 hvu hvl
          rw [hM] at hst hpa
          obtain ⟨nn, HE⟩ := ends M 384 base (by rw [hMl]) (by omega) HBr.out.1 HBr.out.2
          have hv := HE.v
          have hw := HE.w
          rw [hst] at hv hw
          have hw := hw rfl
          have hl9 := HE.lt
          have hd9 := HE.d
          rw [hMw] at hv hl9 hd9
          have HV := Lib.hid hv
          have HN := Lib.hid (show 1 ≤ nn ∧ nn ≤ 17 from ⟨HE.p, HE.b⟩)
          have HEl := Lib.hid hl9
          have HEd := Lib.hid hd9
          have HPa := Lib.hid hpa
          have HMl2 := Lib.hid hMl
          have HM9 := Lib.hid hm9
          have HK9 := Lib.hid hk9
          have HS9 := Lib.hid hs9
          have HMb := Lib.hid hM
          have HVu := Lib.hid hvu
          have HVFl := Lib.hid hvl
          have hw : (nn : Int) ≤ wordsN (L.length : Int) + 1 := hw
          have HNw := Lib.hid hw
          clear hm9 hk9 hs9 hvu hvF hst hpa hM hMl hMw hv hw hl9 hd9 HE hvl hlt
          go_wp2_with (fail)
          obtain ⟨wq, hwq⟩ : ∃ y, y = wr := ⟨_, rfl⟩
          subst hwq
          refine (vnew_v mb base wq).mono ?_
          rintro e w4 ⟨rfl, hr4, hB4⟩
          obtain ⟨rb, hrb⟩ : ∃ rb, wq.heap.size = rb := ⟨_, rfl⟩
          rw [hrb] at hr4 hB4 ⊢
          have HJ0 := Lib.hid (show WhI w4 rb mb base vF vs0 vv vi ml 0 k 0 0 0 w4 from ⟨⟨_, hr4⟩, HM9.out.m.below (by rw [hrb]; exact hB4), Keeps.refl _ _⟩)
          have HH := Lib.hid (show WhH rb mb base vF vv vi 0 k 0 0 from ⟨fun i hi => by rw [← hrb]; exact Nat.lt_of_lt_of_le (HM9.out.lt i (by rcases hi with h | h | h; exact .inl h; exact .inr (.inr (.inl h)); exact .inr (.inr (.inr h)))) HS9.out, by rw [HVFl.out]; decide, by rw [HVFl.out]; decide, HBr.out.1, HBr.out.2, HVu.out, by decide, by decide, by omega, by omega, by decide, by decide, by decide, by decide⟩)
          have HBq := Lib.hid (show Below g w wq from HB3.out.keeps (by rw [← HG.out]; exact Nat.le_refl _) HK9.out (fun i hi => by
            rcases hi with h | h | h | h
            · exact HGe.out i (.inr (.inl h))
            · exact HGe.out i (.inl h)
            · exact HGe.out i (.inr (.inr (.inl h)))
            · exact Nat.le_trans (by rw [← HG.out]; exact HB3.out.size) (Nat.le_trans HN3.out h)))
          have HRB := Lib.hid (show g ≤ rb from by rw [← hrb, ← HG.out]; exact HBq.out.size)
          have HB4 := Lib.hid (HBq.out.trans (hB4.mono HRB.out))
          clear hr4 hB4 hrb hu0
          go_wp2_with (fail)
          refine (whole_v w4 rb mb base vF vs0 vv vi ml 0 k 0 0 nn HJ0.out HH.out HN.out.1 (by have := HN.out.2; omega) HEl.out HEd.out).mono ?_
          rintro e w5 ⟨rfl, hJ5⟩
          have HJ5 := Lib.hid hJ5
          clear hJ5
          go_wp2_with (fail)
          refine (HJ5.out.value HH.out).mono ?_
          rintro e w6 ⟨rfl, hJ6⟩
          rw [HV.out]
          have HJ6 := Lib.hid hJ6
          have HB6 := Lib.hid (show Below g w w6 from HB4.out.keeps (by rw [← HG.out]; exact Nat.le_refl _) hJ6.kp (fun i hi => by rcases hi with h | h; (exact HGe.out i (.inr (.inl h))); exact Nat.le_trans HRB.out h))
          have hvw := view_v w6 mb vF vs0 vv vi ml _ k 0 0 hJ6.m (by rw [HVFl.out]; decide) (by rw [HVFl.out]; decide) HVu.out
          rw [HMb.out, HMl2.out] at hvw
          have HVw := Lib.hid hvw
          clear hJ6 hvw
          go_wp2_with (fail)
          refine HVw.out.mono ?_
          rintro e w7 ⟨vq, rfl, hoq, hB7⟩
          obtain ⟨pq, nq, cq, rfl⟩ := own_slice hoq
          obtain rfl : nq = 3072 := own_len hoq
          have HBq7 := Lib.hid (BAt.of_own (L := M) (by rw [HMl2.out]; exact hoq))
          have HB7 := Lib.hid (HB6.out.trans (hB7.mono (by rw [← HG.out]; exact HB6.out.size)))
          obtain ⟨kW, hkW⟩ : ∃ kW, wordsN (L.length : Int) = kW := ⟨_, rfl⟩
          have HWn := Lib.hid (fun W => rwords_n (L.length : Int) W)
          rw [hkW] at HWn HNw
          have hkW17 : 0 ≤ kW ∧ kW ≤ 17 := by rw [← hkW]; unfold wordsN; split <;> omega
          have hq9 : IntKind.i64.wrap (kW + 1) = kW + 1 := IntWalk.i64_in _ (by omega)
          have hn1 : ¬ ((nn : Int) < 1) := by have := HN.out; omega
          have hn2 : ¬ (kW + 1 < (nn : Int)) := by have := HNw.out; omega
          clear hoq hB7 hkW hkW17
          go_wp2_with (fail)
          refine (HWn.out _).mono ?_
          rintro e w8 ⟨rfl, rfl⟩
          go_wp2_with (fail)
          obtain ⟨m8, hm8⟩ : ∃ m8, 8 * c.toNat = m8 := ⟨_, rfl⟩
          have hm8c : (m8 : Int) = 8 * c := by have := HC2.out; omega
          have hq10 : (64 * c).tdiv 8 = (m8 : Int) := by rw [hm8c]; rcases HC12.out with h | h <;> rw [h] <;> decide
          have hq11 : IntKind.i64.wrap base = base := IntWalk.i64_in _ (by have := HBB.out; have := HC2.out; omega)
          have HTk := Lib.hid (show ∀ j : Nat, j < m8 → ∀ W, BAt W pq M → Calls Try.prog 28 #[.slice pq 3072 cq, .int .i64 (base + 8 * (j : Int))] W fun e w' => e = .returned (.int .u64 (chunk M (i8 + j))) ∧ W = w' from fun j hj W hW => by
            have := rtake_b M pq cq (8 * (i8 + j)) W hW (by rw [HMl2.out]; decide) (by rw [HMl2.out]; have := HBB.out; have := HI8.out; omega)
            rw [HMl2.out, show (((8 * (i8 + j) : Nat) : Int)) = base + 8 * (j : Int) by rw [HI8.out]; omega] at this
            exact this)
          have hpa := HPa.out
          rw [hm8] at hpa
          have HPb := Lib.hid hpa
          have hm16 : m8 ≤ 16 := by have := HC2.out; omega
          have hm0 : 0 < m8 := by have := HC2.out; omega
          have HM8c := Lib.hid hm8c
          clear hpa hm8 hm8c
          go_loopw [23, 24] (fun ov iv wx => ∃ jx : Nat, jx ≤ m8 ∧ iv = .int .i64 jx ∧ wx.ownsRow w7.heap.size 22 1 ov (wordsFrom M i8 jx).length ((wordsFrom M i8 jx).map (Value.int .u64)) ∧ Below w7.heap.size w7 wx) (fun _ iv _ => m8 - (intOf iv).toNat)
          case atStart => exact ⟨0, by omega, rfl, World.ownsRow_nil _ _ _ _, Below.refl _ _⟩
          case round =>
            obtain ⟨jx, hjx, rfl, hown, hB⟩ := hrel
            have HOw := Lib.hid hown
            have HBx := Lib.hid hB
            have hsz := hB.size
            by_cases hlt : jx < m8
            · have hjb : (jx : Int) < (m8 : Int) := by omega
              have qq1 : IntKind.i64.wrap (8 * (jx : Int)) = 8 * (jx : Int) := IntWalk.i64_in _ (by omega)
              have qq2 : IntKind.i64.wrap (base + 8 * (jx : Int)) = base + 8 * (jx : Int) := IntWalk.i64_in _ (by have := HBB.out; have := HC2.out; omega)
              have HTj := Lib.hid (HTk.out jx hlt wr (HBq7.out.below hB))
              have HLT := Lib.hid hlt
              have hln := wordsFrom_len M i8 jx
              have HLN := Lib.hid hln
              obtain ⟨xx, hxx⟩ : ∃ xx, chunk M (i8 + jx) = xx := ⟨_, rfl⟩
              rw [hxx] at HTj
              have HX := Lib.hid hxx
              clear hown hB hlt hln hxx
              go_wp2_with (fail)
              refine (HBy.out _).mono ?_
              rintro e w' ⟨rfl, rfl⟩
              go_wp2_with (fail)
              refine HTj.out.mono ?_
              rintro e w' ⟨rfl, rfl⟩
              go_wp2_with (at_builtin; refine wpList_append_own _ rfl _ _ 40 rfl w7.heap.size 22 i2 (.int .u64 0) 1 8 Try.underlying40 hi2 hz20 hz21 hz22 rfl (by decide) _ _ _ rfl (HOw.out.alloc _) ⟨wr.heap.size, 0, none⟩ 1 1 [.int .u64 xx] rfl rfl (cell_one_new _ _ _) (ints_oneCell .u64 [xx]) (by rw [HLN.out]; have := HLT.out; unfold maxLen; omega) (by rw [HLN.out]; have := HLT.out; omega) (by simp; omega) ?_)
              intro v' wy hown' hgrow hnil
              have HO6 := Lib.hid hown'
              have HB6 := Lib.hid ((HBx.out.alloc hsz (.cells #[.int .u64 xx] 22)).grown hgrow (by simp; omega) (fun r e => own_base HOw.out _ e))
              clear hown' hgrow hnil
              go_wp2_with (fail)
              go_roundw
              case rel => exact ⟨jx + 1, HLT.out, by go_num, by
                have := HO6.out
                rw [wordsFrom_succ, HX.out, List.map_append, List.length_append]
                exact this, HB6.out⟩
              case measure => have := HLT.out; simp [intOf]; omega
            · obtain rfl : jx = m8 := by omega
              have hwl2 := wordsFrom_len M i8 jx
              rcases RowAt.of_own hown with ⟨h0, _⟩ | ⟨hp0, gx, ox, cx, rfl, hcx, hgx, hwx⟩
              · exact absurd (congrArg List.length h0) (by rw [hwl2]; simp; omega)
              have HPs := Lib.hid (parse_pos c (wordsFrom M i8 jx) gx ox cx wr (by rw [hwl2]; omega) hp0 hcx hgx hwx (wordsFrom_u64 M i8 jx))
              rw [HPb.out] at HPs
              unfold TextPost at HPs
              clear hown hB hp0 hcx hgx hwx hwl2
              go_wp2_with (fail)
              refine (HBy.out _).mono ?_
              rintro e w' ⟨rfl, rfl⟩
              go_wp2_with (fail)
              refine HPs.out.mono ?_
              rintro e w8 ⟨rfl, hB8⟩
              have HB8 := Lib.hid (HB7.out.trans ((HBx.out.trans (hB8.mono hsz)).mono (by rw [← HG.out]; exact HB7.out.size)))
              clear hB8
              go_wp2_with (go_at_call 8; refine (known_any _).mono ?_; rintro e w9 ⟨rfl, hk⟩; have HK := Lib.hid hk; clear hk)
              go_ret
              rw [HG.out]
              exact ⟨rfl, HB8.out.trans (HK.out.mono (by rw [← HG.out]; exact HB8.out.size))⟩
end Go.Proofs.Ytegamhjfloebgaa
