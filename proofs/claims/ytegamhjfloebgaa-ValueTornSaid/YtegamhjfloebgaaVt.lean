/-
  The law ValueTorn, walked.
-/
import Derived.Test.YtegamhjfloebgaaVb
import Derived.Test.YtegamhjfloebgaaCr
namespace Go.Proofs.Ytegamhjfloebgaa
open Go.RowKit Go.Shelf Go.Maps
attribute [local go_sem] Oper.semAt_some
set_option linter.unusedVariables false

def NewP (w : World) (N : Nat) (e : Ending) (W' : World) : Prop :=
  ∃ mb vv vi ml vs0, e = .returned (.tuple #[.pointer (some ⟨mb, 0, none⟩), .int .i64 0]) ∧ U64s vs0 ∧ vs0.length = N ∧
    (∀ N0, W'.heap.size ≤ N0 → MemS W' N0 mb vs0 vs0 vv vi ml 0 (.map []) (fun _ => .slice none 0 0) (fun _ _ => 0) (fun _ => []) 0 0 0 0) ∧
    (∀ i, i = ml ∨ MS mb vv vi i → w.heap.size ≤ i ∧ i < W'.heap.size) ∧ Below w.heap.size w W'
set_option maxRecDepth 100000 in
theorem mnew_v (N : Nat) (w : World) (hN : N ≤ 100000) (hm : mayB (8 * N) = true) : Calls Try.prog 29 #[.int .i64 ((8 * N : Nat) : Int)] w (NewP w N) := by
  obtain ⟨i0, hi, hz0, hz1, hz2⟩ := info_parts Try.infoB
  obtain ⟨m, hmm⟩ : ∃ m, 8 * N = m := ⟨_, rfl⟩
  have HMay := Lib.hid (mmay_v w (8 * N))
  rw [hm] at HMay
  rw [hmm] at hm HMay ⊢
  have hmb : m ≤ 800000 := by omega
  have HMm := Lib.hid hmm
  clear hmm
  go_enter Try.func29, Try.ntmps29
  go_wp2_with (fail)
  refine HMay.out.mono ?_
  rintro e w1 ⟨rfl, rfl⟩
  go_wp2_with (refine wpList_make_full _ rfl _ _ _ rfl w.heap.size 5 i0 (.int .u8 0) 1 Try.underlying48 hi hz0 hz1 .i64 .i64 (m : Int) (m : Int) m rfl rfl rfl rfl (by rw [hz2]; omega) (by unfold maxLen; omega) (Nat.le_refl _) ?_; intro w1 hown hgrow)
  rw [show (Value.int .u8 0).cells = #[Value.int .u8 0] from rfl, toList_madeCells_one, Nat.mul_one] at hown
  have hL0 : List.replicate m (Value.int .u8 0) = bvals (List.replicate m (0 : UInt8)) := by simp [bvals]
  rw [hL0] at hown
  obtain ⟨L0, hL0e⟩ : ∃ L0, List.replicate m (0 : UInt8) = L0 := ⟨_, rfl⟩
  have hL0l : L0.length = m := by rw [← hL0e, List.length_replicate]
  rw [hL0e] at hown
  have HB1 := Lib.hid ((Below.refl w.heap.size w).grown hgrow (Nat.le_refl _) (fun r e => by cases e))
  have HBt := Lib.hid (BAt.of_own (p := some ⟨w.heap.size, 0, none⟩) (n := m) (c := m) (L := L0) (by rw [hL0l]; exact hown))
  have HOf := Lib.hid (mofS_v L0 N m (some ⟨w.heap.size, 0, none⟩) w1 (by omega) (by rw [hL0l, HMm.out]) (by rw [hL0l]; exact Nat.le_refl _) HBt.out (by rw [hL0l]; exact hm))
  rw [hL0l] at HOf
  clear hown hgrow hL0 hL0e
  go_wp2_with (fail)
  refine HOf.out.mono ?_
  rintro e w2 ⟨rfl, ⟨vv, vi, ml, hms, hml, hblk, hmlt⟩, hB2⟩
  have HMs := Lib.hid hms
  have HBk := Lib.hid hblk
  have HMl := Lib.hid (And.intro hml hmlt)
  have HB2 := Lib.hid (HB1.out.trans (hB2.mono HB1.out.size))
  clear hms hblk hml hmlt hB2
  go_wp2_with (fail)
  go_ret2
  refine ⟨w1.heap.size + 1, vv, vi, ml, wordsB L0 N, rfl, wordsB_u64 L0 N, wordsB_len L0 N, HMs.out, fun i hi => ?_, HB2.out⟩
  have hs := HB1.out.size
  rcases hi with rfl | hi
  · exact ⟨Nat.le_trans hs HMl.out.1, HMl.out.2⟩
  · exact ⟨Nat.le_trans hs (HBk.out i hi).2, (HBk.out i hi).1⟩
structure BtI (w3 : World) (N0 mb : Nat) (vs0 : List Int) (vv vi : Value) (ml : Nat) (k : Nat) (w : World) : Prop where
  m : ∃ n D sl F vsX, MemS w N0 mb vsX vs0 vv vi ml n D sl (fun _ _ => 0) F 0 k 0 0 ∧ vsX.length = vs0.length ∧ n ≤ k ∧ ∀ a, (F a).length ≤ k ∧ ∀ p ∈ F a, 0 ≤ p.1 ∧ p.1 / 8 < (vs0.length : Int) ∧ 0 ≤ p.2 ∧ p.2 ≤ 18446744073709551615
  kp : Keeps (SM N0 mb ml vv) w3 w
  sz : N0 ≤ w.heap.size
section
variable {w3 w w' : World} {N0 mb : Nat} {vs0 : List Int} {vv vi : Value} {ml k : Nat}
theorem BtI.drew (h : BtI w3 N0 mb vs0 vv vi ml k w) : BtI w3 N0 mb vs0 vv vi ml k w.drew := by
  obtain ⟨⟨n, D, sl, F, vsX, h1, h2, h3⟩, h4, h5⟩ := h
  exact ⟨⟨n, D, sl, F, vsX, h1.drew, h2, h3⟩, h4.drew, h5⟩
theorem BtI.store (h : BtI w3 N0 mb vs0 vv vi ml k w) (i8 : Nat) (hk : i8 < vs0.length) (hl : vs0.length ≤ 1000) (hk2 : k ≤ 1000) (x : Int) (hx0 : 0 ≤ x) (hx1 : x ≤ 18446744073709551615) :
    Calls Try.prog 25 #[.pointer (some ⟨mb, 0, none⟩), .int .u64 (8 * (i8 : Int)), .int .u64 x] w fun e w' => e = .returned (.int .i64 0) ∧ BtI w3 N0 mb vs0 vv vi ml (k + 1) w' ∧ Keeps (SM N0 mb ml vv) w w' := by
  obtain ⟨⟨n, D, sl, F, vsX, h1, hlen, h2, h3⟩, h4, h5⟩ := h
  refine (mstore_yes w N0 mb _ vs0 vv vi ml n D sl _ F 0 k 0 0 h1 h5 (by rw [hlen]; omega) (by rw [hlen]; omega) (8 * (i8 : Int)) x (by omega) (by omega) (by rw [hlen]; unfold atE; rw [if_neg (by omega)]) (by omega) (by omega) (by omega) (by have := (h3 (lineOf (8 * (i8 : Int)))).1; omega)).mono ?_
  rintro e w' ⟨rfl, v', D', hm, hk'⟩
  refine ⟨rfl, ⟨⟨n + 1, D', _, _, _, by have e : (((k + 1 : Nat) : Int)) = (k : Int) + 1 := by omega
                                        rw [e]; exact hm, by rw [List.length_set]; exact hlen, by omega, fun a => ?_⟩, h4.trans hk', Nat.le_trans h5 hk'.size⟩, hk'⟩
  unfold updF
  split
  · refine ⟨by rw [List.length_append]; have := (h3 (lineOf (8 * (i8 : Int)))).1; simp; omega, fun p hp => ?_⟩
    rcases List.mem_append.1 hp with h | h
    · exact (h3 _).2 p h
    · simp at h; subst h
      exact ⟨by show 0 ≤ 8 * (i8 : Int); omega, by show 8 * (i8 : Int) / 8 < _; omega, hx0, hx1⟩
  · exact ⟨by have := (h3 a).1; omega, (h3 a).2⟩
theorem BtI.memw (h : BtI w3 N0 mb vs0 vv vi ml k w) (hk : k ≤ 1000) (hu : U64s vs0) : ∃ vsX, vsX.length = vs0.length ∧ MemW w N0 mb vsX vs0 vv vi ml k 0 k 0 0 := by
  obtain ⟨⟨n, D, sl, F, vsX, h1, hlen, h2, h3⟩, h4, h5⟩ := h
  exact ⟨vsX, hlen, ⟨⟨D, sl, _, F, ⟨h1.m, h1.o.mono h2, h1.e, fun a => .inl (h1.r a), h1.d, h1.lt, h1.x, h1.xv⟩, fun _ _ => ⟨Int.le_refl _, by decide⟩, fun a => ⟨by have := (h3 a).1; omega, (h3 a).2⟩⟩, hu⟩⟩
end
set_option maxRecDepth 100000 in
theorem vtorn_long (s : ByteArray) (p : Option Addr) (n c : Nat) (w : World) (hn : n ≤ maxLen) (hm : s.size ≤ maxLen) (h : 120 < s.size ∨ 20 < n) :
    Calls Try.prog 7 #[.string s, .slice p n c] w fun e w' => e = .returned (.bool true) ∧ Below w.heap.size w w' := by
  unfold maxLen at hn
  by_cases h2 : 120 < s.size
  · have h1 : (120 : Int) < (s.size : Int) := by omega
    go_enter Try.func7, Try.ntmps7
    go_wp2_with (go_at_call 8; refine (known_any _).mono ?_; rintro e w7 ⟨rfl, hk⟩; have HK := Lib.hid hk; clear hk)
    go_ret
    exact ⟨rfl, HK.out⟩
  · have h1 : ¬ (120 : Int) < (s.size : Int) := by omega
    have h3 : (20 : Int) < (n : Int) := by omega
    clear h
    go_enter Try.func7, Try.ntmps7
    go_wp2_with (go_at_call 8; refine (known_any _).mono ?_; rintro e w7 ⟨rfl, hk⟩; have HK := Lib.hid hk; clear hk)
    go_ret
    exact ⟨rfl, HK.out⟩
theorem Try.infoI : (Try.prog.info? 3).map (fun i => (i.zero, i.size, i.bytes)) = some (some (.int .i64 0), 1, 8) := by kernel_rfl
set_option maxRecDepth 100000 in
set_option maxHeartbeats 40000000 in
theorem vtorn_in (L : List UInt8) (p : Option Addr) (cK : Nat) (ks : List Int) (w : World) (hl : L.length ≤ 120) (hks : ks.length ≤ 20) (hk64 : ∀ x ∈ ks, -9223372036854775808 ≤ x ∧ x ≤ 9223372036854775807)
    (hr : Reads w w.heap.size 1 p ks.length (ks.map (Value.int .i64))) :
    Calls Try.prog 7 #[.string ⟨L.toArray⟩, .slice p ks.length cK] w fun e w' => e = .returned (.bool true) ∧ Below w.heap.size w w' := by
  obtain ⟨i0, hi, hz0, hz1, hz2⟩ := info_parts Try.infoI
  have h120 : ¬ (120 : Int) < (L.length : Int) := by omega
  have h20 : ¬ (20 : Int) < (ks.length : Int) := by omega
  obtain ⟨c, hc⟩ : ∃ c, clsN (L.length : Int) = c := ⟨_, rfl⟩
  have hc12 := cls_12 L.length hl
  rw [hc] at hc12
  have HCl := Lib.hid (fun W => rclass_n (L.length : Int) W)
  rw [hc] at HCl
  have hbk : blkN c = 15 ∨ blkN c = 7 := by unfold blkN; split <;> simp
  have HBl := Lib.hid (fun W => rblock_in 1 c 0 (by omega) hc12 ⟨by omega, by omega⟩ W)
  rw [show 1024 * 1 + 64 + 0 * (64 * c) = (1088 : Int) by omega] at HBl
  have HHas := Lib.hid (show HasBlk 1088 (clsN (L.length : Int)) from ⟨1, 0, by omega, by omega, by rw [hc]; omega, by omega⟩)
  have HNw := Lib.hid (mnew_v 384 w (by omega) rfl)
  rw [show ((8 * 384 : Nat) : Int) = 3072 from rfl] at HNw
  have HRd := Lib.hid hr
  clear hc12 hc hbk hr
  go_enter Try.func7, Try.ntmps7
  go_wp2_with (fail)
  refine HNw.out.mono ?_
  rintro e w2 ⟨mb, vv, vi, ml, vs0, rfl, hu0, hl0, hms, hblk, hB2⟩
  have HU0 := Lib.hid hu0
  have HVl := Lib.hid hl0
  have HMs := Lib.hid hms
  have HBlk := Lib.hid hblk
  have HB2 := Lib.hid hB2
  clear hu0 hl0 hms hblk hB2
  go_wp2_with (fail)
  refine (HCl.out _).mono ?_
  rintro e w3 ⟨rfl, rfl⟩
  go_wp2_with (fail)
  refine (HBl.out _).mono ?_
  rintro e w3 ⟨rfl, rfl⟩
  go_wp2_with (fail)
  refine (puts_s 1088 L (by omega) (by decide) (by decide) w2).mono ?_
  rintro e w3 ⟨hpp, hB3⟩
  rw [if_neg (by omega)] at hpp
  rcases hpp with ⟨hno, _⟩ | ⟨_, v, rfl, hown⟩
  · exact absurd HHas.out hno
  have hpl : (putsL 1088 L).length = (packW L).length := putTo_len _ _ _
  have hwp : 0 < (packW L).length := by rw [packW_len]; omega
  have hw17 : (packW L).length ≤ 17 := by rw [packW_len]; omega
  obtain ⟨gl, cl, rfl, hgl1, hgl2, hcl, _, hents⟩ := own_ents hown rfl (by rw [hpl]; exact hwp)
  have HEn := Lib.hid (show ∀ k, k < (packW L).length → w3.cell? ⟨gl, k * 2, none⟩ = some (.int .u64 (1088 + 8 * (k : Int))) ∧ w3.cell? ⟨gl, k * 2 + 1, none⟩ = some (.int .u64 ((packW L).getD k 0)) from fun k hk => by
    have h1 := hents k (by rw [hpl]; exact hk)
    have h2 : (putsL 1088 L).getD k (0, 0) = (1088 + 8 * (k : Int), (packW L).getD k 0) := by
      unfold putsL putTo
      rw [List.getD_eq_getElem?_getD]
      simp [hk]
    unfold eK eP at h1
    rw [h2, Nat.zero_add] at h1
    exact h1)
  rw [hpl] at hcl ⊢
  have hwu := packW_u64 L (by omega)
  have HWu := Lib.hid (show ∀ k, 0 ≤ (packW L).getD k 0 ∧ (packW L).getD k 0 ≤ 18446744073709551615 from fun k => by
    rw [List.getD_eq_getElem?_getD]
    cases hkk : (packW L)[k]? with
    | none => exact ⟨Int.le_refl _, by decide⟩
    | some y => exact hwu y (List.mem_of_getElem? hkk))
  obtain ⟨N0, hN0⟩ : ∃ N0, w3.heap.size = N0 := ⟨_, rfl⟩
  have HI0 := Lib.hid (show BtI w3 N0 mb vs0 vv vi ml 0 w3 from ⟨⟨0, _, _, _, vs0, (HMs.out N0 (by rw [← hN0]; exact hB3.size)).below hB3, rfl, Nat.le_refl _, fun a => ⟨Nat.le_refl _, fun p hp => by cases hp⟩⟩, Keeps.refl _ _, by rw [hN0]; exact Nat.le_refl _⟩)
  have HGl := Lib.hid (show gl < w3.heap.size ∧ ¬ SM N0 mb ml vv gl from ⟨hgl2, by
    have hb2 : w2.heap.size ≤ gl := hgl1
    rintro (h | h | h | h)
    · have := (HBlk.out mb (.inr (.inl rfl))).2; omega
    · have := (HBlk.out ml (.inl rfl)).2; omega
    · have := (HBlk.out gl (.inr (.inr (.inl h)))).2; omega
    · omega⟩)
  have HB3 := Lib.hid (HB2.out.trans (hB3.mono HB2.out.size))
  have HN3 := Lib.hid (show w3.heap.size ≤ N0 from by rw [hN0]; exact Nat.le_refl _)
  obtain ⟨WL, hWL⟩ : ∃ WL, packW L = WL := ⟨_, rfl⟩
  rw [hWL] at HEn hcl hwp hw17 HWu ⊢
  obtain ⟨wl, hwl⟩ : ∃ wl, WL.length = wl := ⟨_, rfl⟩
  rw [hwl] at HEn hcl hwp hw17 ⊢
  clear hpl hown hents hB3 hgl1 hgl2 hN0 hWL hwl hwu
  go_wp2_with (fail)
  go_loopw [9] (fun iv wq => ∃ k : Nat, k ≤ wl ∧ iv = .int .i64 k ∧ BtI w3 N0 mb vs0 vv vi ml k wq) (fun iv _ => wl - (intOf iv).toNat)
  case atStart => exact ⟨0, by omega, rfl, HI0.out⟩
  case round =>
    obtain ⟨k, hk, rfl, hI⟩ := hrel
    have HI := Lib.hid hI
    clear hI
    by_cases hlt : k < wl
    · have hkb : (k : Int) < (wl : Int) := by omega
      have HLT := Lib.hid hlt
      obtain ⟨ad, had⟩ : ∃ ad, 1088 + 8 * (k : Int) = ad := ⟨_, rfl⟩
      obtain ⟨wk, hwk⟩ : ∃ wk, WL.getD k 0 = wk := ⟨_, rfl⟩
      have hst := (HI.out.drew).store (136 + k) (by rw [HVl.out]; omega) (by rw [HVl.out]; omega) (by omega) (WL.getD k 0) (HWu.out k).1 (HWu.out k).2
      rw [show (8 * ((136 + k : Nat) : Int)) = 1088 + 8 * (k : Int) by omega, had, hwk] at hst
      have HSt := Lib.hid hst
      have hck := HEn.out k hlt
      rw [had, hwk] at hck
      have HCk := Lib.hid (And.intro ((HI.out.kp.cell (p := ⟨gl, k * 2, none⟩) HGl.out.1 HGl.out.2).trans hck.1) ((HI.out.kp.cell (p := ⟨gl, k * 2 + 1, none⟩) HGl.out.1 HGl.out.2).trans hck.2))
      have HGr := Lib.hid (And.intro (Nat.lt_of_lt_of_le HGl.out.1 HI.out.kp.size) HGl.out.2)
      clear hst hck had hwk hlt
      go_wp2_with (fail)
      --GEN r_vt10
      refine wp_region_vals [Is (.pointer (some ⟨mb, 0, none⟩)), Is (.slice (some ⟨gl, 0, none⟩) wl cl), Is (.int .i64 k), Is (.pointer (some ⟨gl, k * 2, none⟩)), Is (.pointer (some ⟨gl, k * 2, none⟩)), Is (.int .u64 ad), Is (.slice (some ⟨gl, 0, none⟩) wl cl), Is (.int .i64 k), Is (.pointer (some ⟨gl, k * 2, none⟩)), Is (.pointer (some ⟨gl, k * 2 + 1, none⟩)), Is (.int .u64 wk), Any]
        (fun _ _ _ => True) (fun L W => St17 N0 mb ml vv wr (BtI w3 N0 mb vs0 vv vi ml (k + 1)) L W) (by kernel_rfl) (by kernel_rfl) (by kernel_rfl) ?hst ?h0 ⟨?o0, ?o1, ?o2, ?o3, ?o4, ?o5, ?o6, ?o7, ?o8, ?o9, ?o10, ?o11, trivial⟩ ?he
      case hst =>
        exact ⟨(fun _ _ _ _ _ _ h _ => h), (fun _ _ _ _ _ _ h _ => h), (fun _ _ _ _ _ _ h _ => h), (fun _ _ _ _ _ _ h _ => h), (fun _ _ _ _ _ _ h _ => h), (fun _ _ _ _ _ _ h _ => h), (fun _ _ _ _ _ _ h _ => h), (fun _ _ _ _ _ _ h _ => h), (fun _ _ _ _ _ _ h _ => h), (fun _ _ _ _ _ _ h _ => h), (fun _ _ _ _ _ _ h _ => h), (fun _ _ _ _ _ _ h _ => h), trivial⟩
      case h0 =>
        exact ⟨fun _ => rfl, fun e => (by cases e), (Keeps.refl _ _).drew⟩
      case o0 =>
        intro L vs A W H hf hd K hK
        have e5 : A.tmps[5]?.getD undef = .pointer (some ⟨mb, 0, none⟩) := H.old 5 (by kernel_rfl)
        go_simp
        exact hK _ _ (trivial) rfl (H.glob)
      case o1 =>
        intro L vs A W H hf hd K hK
        have e7 : A.tmps[7]?.getD undef = .slice (some ⟨gl, 0, none⟩) wl cl := H.old 7 (by kernel_rfl)
        go_simp
        exact hK _ _ (trivial) rfl (H.glob)
      case o2 =>
        intro L vs A W H hf hd K hK
        have e9 : A.tmps[9]?.getD undef = .int .i64 k := H.old 9 (by kernel_rfl)
        go_simp
        exact hK _ _ (trivial) rfl (H.glob)
      case o3 =>
        intro L vs A W H hf hd K hK
        have e55 := H.is 1 55 rfl rfl rfl (deps_of' hd 1 (by kernel_rfl)) (by kernel_rfl)
        have e56 := H.is 2 56 rfl rfl rfl (deps_of' hd 2 (by kernel_rfl)) (by kernel_rfl)
        go_simp
        exact hK _ _ (trivial) rfl (H.glob)
      case o4 =>
        intro L vs A W H hf hd K hK
        have e57 := H.is 3 57 rfl rfl rfl (deps_of' hd 3 (by kernel_rfl)) (by kernel_rfl)
        go_simp
        exact hK _ _ (trivial) rfl (H.glob)
      case o5 =>
        intro L vs A W H hf hd K hK
        have e58 := H.is 4 58 rfl rfl rfl (deps_of' hd 4 (by kernel_rfl)) (by kernel_rfl)
        have d := (H.glob.2.2.cell (p := ⟨gl, k * 2, none⟩) HGr.out.1 HGr.out.2).trans HCk.out.1
        go_simp
        exact hK _ _ (trivial) rfl (H.glob)
      case o6 =>
        intro L vs A W H hf hd K hK
        have e7 : A.tmps[7]?.getD undef = .slice (some ⟨gl, 0, none⟩) wl cl := H.old 7 (by kernel_rfl)
        go_simp
        exact hK _ _ (trivial) rfl (H.glob)
      case o7 =>
        intro L vs A W H hf hd K hK
        have e9 : A.tmps[9]?.getD undef = .int .i64 k := H.old 9 (by kernel_rfl)
        go_simp
        exact hK _ _ (trivial) rfl (H.glob)
      case o8 =>
        intro L vs A W H hf hd K hK
        have e60 := H.is 6 60 rfl rfl rfl (deps_of' hd 6 (by kernel_rfl)) (by kernel_rfl)
        have e61 := H.is 7 61 rfl rfl rfl (deps_of' hd 7 (by kernel_rfl)) (by kernel_rfl)
        go_simp
        exact hK _ _ (trivial) rfl (H.glob)
      case o9 =>
        intro L vs A W H hf hd K hK
        have e62 := H.is 8 62 rfl rfl rfl (deps_of' hd 8 (by kernel_rfl)) (by kernel_rfl)
        go_simp
        exact hK _ _ (trivial) rfl (H.glob)
      case o10 =>
        intro L vs A W H hf hd K hK
        have e63 := H.is 9 63 rfl rfl rfl (deps_of' hd 9 (by kernel_rfl)) (by kernel_rfl)
        have d := (H.glob.2.2.cell (p := ⟨gl, k * 2 + 1, none⟩) HGr.out.1 HGr.out.2).trans HCk.out.2
        go_simp
        exact hK _ _ (trivial) rfl (H.glob)
      case o11 =>
        intro L vs A W H hf hd K hK
        have e54 := H.is 0 54 rfl rfl rfl (deps_of' hd 0 (by kernel_rfl)) (by kernel_rfl)
        have e59 := H.is 5 59 rfl rfl rfl (deps_of' hd 5 (by kernel_rfl)) (by kernel_rfl)
        have e64 := H.is 10 64 rfl rfl rfl (deps_of' hd 10 (by kernel_rfl)) (by kernel_rfl)
        have hW := H.glob.1 hf
        subst hW
        go_simp
        refine HSt.out.mono ?_
        rintro e w' ⟨rfl, hI, hk1⟩
        go_simp
        exact hK _ _ trivial trivial ⟨fun e => (by cases e), fun _ => hI, (Keeps.refl _ wr).drew.trans hk1⟩
      case he =>
        intro vs W hlen hv
        match vs, hlen, hv with
        | [x0_, x1_, x2_, x3_, x4_, x5_, x6_, x7_, x8_, x9_, x10_, x11_], _, hv =>
        obtain rfl : (.pointer (some ⟨mb, 0, none⟩)) = x0_ := by obtain ⟨z, h1, h2⟩ := hv 0 _ rfl; cases h1; exact h2.symm
        obtain rfl : (.slice (some ⟨gl, 0, none⟩) wl cl) = x1_ := by obtain ⟨z, h1, h2⟩ := hv 1 _ rfl; cases h1; exact h2.symm
        obtain rfl : (.int .i64 k) = x2_ := by obtain ⟨z, h1, h2⟩ := hv 2 _ rfl; cases h1; exact h2.symm
        obtain rfl : (.pointer (some ⟨gl, k * 2, none⟩)) = x3_ := by obtain ⟨z, h1, h2⟩ := hv 3 _ rfl; cases h1; exact h2.symm
        obtain rfl : (.pointer (some ⟨gl, k * 2, none⟩)) = x4_ := by obtain ⟨z, h1, h2⟩ := hv 4 _ rfl; cases h1; exact h2.symm
        obtain rfl : (.int .u64 ad) = x5_ := by obtain ⟨z, h1, h2⟩ := hv 5 _ rfl; cases h1; exact h2.symm
        obtain rfl : (.slice (some ⟨gl, 0, none⟩) wl cl) = x6_ := by obtain ⟨z, h1, h2⟩ := hv 6 _ rfl; cases h1; exact h2.symm
        obtain rfl : (.int .i64 k) = x7_ := by obtain ⟨z, h1, h2⟩ := hv 7 _ rfl; cases h1; exact h2.symm
        obtain rfl : (.pointer (some ⟨gl, k * 2, none⟩)) = x8_ := by obtain ⟨z, h1, h2⟩ := hv 8 _ rfl; cases h1; exact h2.symm
        obtain rfl : (.pointer (some ⟨gl, k * 2 + 1, none⟩)) = x9_ := by obtain ⟨z, h1, h2⟩ := hv 9 _ rfl; cases h1; exact h2.symm
        obtain rfl : (.int .u64 wk) = x10_ := by obtain ⟨z, h1, h2⟩ := hv 10 _ rfl; cases h1; exact h2.symm
        intro L hall hG
        clear hv hlen
        have HW := Lib.hid (hG.2.1 (hall 11 (by decide)))
        clear hG hall
        simp only [fill, if_true]
      --END
        simp [Act.put]
        go_wp2_with (fail)
        go_roundw
        case rel => exact ⟨k + 1, HLT.out, by go_num, HW.out⟩
        case measure => have := HLT.out; simp [intOf]; omega
    · obtain rfl : k = wl := by omega
      have hsm : ∀ i, SM N0 mb ml vv i → w.heap.size ≤ i := fun i hi => by
        rcases hi with h | h | h | h
        · exact (HBlk.out i (.inr (.inl h))).1
        · exact (HBlk.out i (.inl h)).1
        · exact (HBlk.out i (.inr (.inr (.inl h)))).1
        · exact Nat.le_trans HB3.out.size (Nat.le_trans HN3.out h)
      have HBr := Lib.hid (show Below w.heap.size w wr from HB3.out.keeps (Nat.le_refl _) HI.out.kp hsm)
      have HRr := Lib.hid (HRd.out.below HBr.out)
      obtain ⟨vsX, hvx, hmw⟩ := HI.out.memw (by omega) HU0.out
      have HMw := Lib.hid hmw
      have HVx := Lib.hid hvx
      have HSz := Lib.hid HI.out.sz
      clear hmw hvx hlt hsm
      go_wp2_with (at_builtin; refine wpList_append_any _ rfl _ _ 61 rfl wr.heap.size 3 i0 (.int .i64 0) 1 8 Try.underlying61 hi hz0 hz1 hz2 rfl (by decide) (.slice none 0 0) 0 [] rfl (World.ownsRow_nil _ _ _ _) w.heap.size p ks.length cK (ks.map (Value.int .i64)) rfl HRr.out (ints_oneCell .i64 ks) (by unfold maxLen; omega) (by omega) (Nat.le_refl _) ?_)
      intro v9 wA hown' hgrow hblk
      obtain ⟨pA, nA, cA, rfl⟩ := own_slice hown'
      obtain rfl : nA = ks.length := own_len hown'
      have hBA : Below wr.heap.size wr wA := (Below.refl wr.heap.size wr).grown hgrow (Nat.le_refl _) (fun r e => by cases e)
      have hmA := HMw.out.keeps (Keeps.of_below' hBA) (fun _ _ h => h) (fun _ _ _ h => h)
      have hlt := HMw.out.lt
      have HCr := Lib.hid (callsIn_wide.1 (crash_in wA N0 mb vsX vs0 vv vi ml k 0 k 0 0 hmA (Nat.le_trans HSz.out hBA.size) (by rw [HVx.out, HVl.out]; decide) (by rw [HVl.out]; decide) (by omega) pA cA ks (by omega) hk64 (fun h0 => by
        obtain ⟨g, cap, e, hg0, hg, _, _, _, hcl9, _⟩ := own_shape hown' h0
        cases e
        refine ⟨g, 0, rfl, hg, fun e => ?_, fun e => ?_, fun i hi => ?_⟩
        · have := hlt ml (.inr (.inl rfl)); have := HSz.out; omega
        · have := hlt g (.inr (.inr (.inr e))); have := HSz.out; omega
        · rw [Nat.zero_add, hcl9 i hi]; simp [hi])))
      have HBA := Lib.hid (HBr.out.trans (hBA.mono HBr.out.size))
      clear hown' hgrow hblk hBA hmA hlt
      go_wp2_with (fail)
      refine HCr.out.mono ?_
      rintro e w5 ⟨rfl, isF, vvF, hil, hiu, hmF, hoF, hvF, hkF⟩
      rw [HVl.out] at hil
      have HB5 := Lib.hid (show Below w.heap.size w w5 from HBA.out.keeps (Nat.le_refl _) hkF (fun i hi => by
        rcases hi with h | h | h | h
        · exact (HBlk.out i (.inr (.inl h))).1
        · exact (HBlk.out i (.inl h)).1
        · exact (HBlk.out i (.inr (.inr (.inr h)))).1
        · exact Nat.le_trans HBA.out.size h))
      have HMF := Lib.hid hmF
      have HIl := Lib.hid hil
      have HIu := Lib.hid hiu
      have HGe := Lib.hid (show ∀ i, MS mb vvF vi i → w.heap.size ≤ i from fun i hi => by
        rcases hi with h | h | h
        · exact (HBlk.out i (.inr (.inl h))).1
        · exact Nat.le_trans HBA.out.size (hvF i h)
        · exact (HBlk.out i (.inr (.inr (.inr h)))).1)
      clear hil hiu hmF hoF hvF hkF
      obtain ⟨M, hM⟩ : ∃ M, bytesW isF = M := ⟨_, rfl⟩
      have hMl : M.length = 3072 := by rw [← hM, bytesW_len, HIl.out]
      have hMw : wordsB M 384 = isF := by rw [← hM]; exact wordsB_bytes isF 384 HIu.out HIl.out
      obtain ⟨nn, HE⟩ := ends M 384 1088 (by rw [hMl]) (by omega) (by decide) (by decide)
      obtain ⟨S, hS⟩ : ∃ S : ByteArray, (⟨(standP M 1088).1.toArray⟩ : ByteArray) = S := ⟨_, rfl⟩
      obtain ⟨er, her⟩ : ∃ er, (standP M 1088).2 = er := ⟨_, rfl⟩
      have hv := HE.v
      have hl9 := HE.lt
      have hd9 := HE.d
      rw [hMw] at hv hl9 hd9
      rw [hS, her] at hv
      have HV := Lib.hid hv
      have HN := Lib.hid (show 1 ≤ nn ∧ nn ≤ 17 from ⟨HE.p, HE.b⟩)
      have HEl := Lib.hid hl9
      have HEd := Lib.hid hd9
      have HMb := Lib.hid hM
      have HMl2 := Lib.hid hMl
      have HSt2 := Lib.hid (show ∀ (W : World) (pq : Option Addr) (cq : Nat), BAt W pq M → Calls Try.prog 21 #[.slice pq M.length cq, .int .u64 1088] W fun e w' => e = .returned (.tuple #[.string S, .int .i64 er]) ∧ Below W.heap.size W w' from fun W pq cq hW => by
        have := rstands_v M pq cq 1088 W (by omega) (by omega) hW (by decide) (by decide)
        unfold TextPost at this
        rw [hS, her] at this
        exact this)
      clear hv hl9 hd9 hM hMl hMw HE hS her
      go_wp2_with (fail)
      refine (vnew_v mb 1088 w5).mono ?_
      rintro e w6 ⟨rfl, hr6, hB6⟩
      obtain ⟨rb, hrb⟩ : ∃ rb, w5.heap.size = rb := ⟨_, rfl⟩
      rw [hrb] at hr6 hB6 ⊢
      have HJ0 := Lib.hid (show WhI w6 rb mb 1088 isF isF vvF vi ml 0 k 0 0 0 w6 from ⟨⟨_, hr6⟩, HMF.out.below (by rw [hrb]; exact hB6), Keeps.refl _ _⟩)
      have HH := Lib.hid (show WhH rb mb 1088 isF vvF vi 0 k 0 0 from ⟨fun i hi => by
          rw [← hrb]
          rcases hi with rfl | h | h
          · exact HMF.out.blk.lt
          · exact own_lt HMF.out.v h
          · exact own_lt HMF.out.i h, by rw [HIl.out]; decide, by rw [HIl.out]; decide, by decide, by decide, HIu.out, by decide, by decide, by omega, by omega, by decide, by decide, by decide, by decide⟩)
      have HRB := Lib.hid (show w.heap.size ≤ rb from by rw [← hrb]; exact HB5.out.size)
      have HB6 := Lib.hid (HB5.out.trans (hB6.mono HRB.out))
      clear hr6 hB6 hrb
      go_wp2_with (fail)
      refine (whole_v w6 rb mb 1088 isF isF vvF vi ml 0 k 0 0 nn HJ0.out HH.out HN.out.1 (by have := HN.out.2; omega) HEl.out HEd.out).mono ?_
      rintro e w7 ⟨rfl, hJ7⟩
      have HJ7 := Lib.hid hJ7
      clear hJ7
      go_wp2_with (fail)
      refine (HJ7.out.value HH.out).mono ?_
      rintro e w8 ⟨rfl, hJ8⟩
      rw [HV.out]
      have HJ8 := Lib.hid hJ8
      have HB8 := Lib.hid (show Below w.heap.size w w8 from HB6.out.keeps (Nat.le_refl _) hJ8.kp (fun i hi => by rcases hi with h | h; (exact HGe.out i (.inl h)); exact Nat.le_trans HRB.out h))
      have him := image_v w8 mb _ _ vvF vi ml _ k 0 0 hJ8.m (by rw [HIl.out]; decide) (by rw [HIl.out]; decide) (by rw [HIl.out]; decide) HIu.out
      rw [HMb.out] at him
      have HIm := Lib.hid him
      clear hJ8 him
      go_wp2_with (fail)
      refine HIm.out.mono ?_
      rintro e w9 ⟨vq, rfl, hoq, hB9⟩
      obtain ⟨pq, nq, cq, rfl⟩ := own_slice hoq
      obtain rfl : nq = M.length := own_len hoq
      have HBq := Lib.hid (BAt.of_own hoq)
      have HB9 := Lib.hid (HB8.out.trans (hB9.mono HB8.out.size))
      clear hoq hB9
      go_wp2_with (fail)
      refine (HSt2.out w9 pq cq HBq.out).mono ?_
      rintro e w10 ⟨rfl, hB10⟩
      have HB10 := Lib.hid (HB9.out.trans (hB10.mono HB9.out.size))
      have hn1 : (1 : Int) ≤ (nn : Int) := by have := HN.out; omega
      have hn2 : (nn : Int) ≤ 17 := by have := HN.out; omega
      clear hB10
      go_wp2_with (go_at_call 8; refine (known_any _).mono ?_; rintro e w11 ⟨rfl, hk⟩; have HK := Lib.hid hk; clear hk)
      go_ret
      exact ⟨rfl, HB10.out.trans (HK.out.mono HB10.out.size)⟩
end Go.Proofs.Ytegamhjfloebgaa
