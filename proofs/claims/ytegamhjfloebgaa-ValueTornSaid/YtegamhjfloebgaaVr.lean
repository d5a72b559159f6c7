/-
  The law ValueReads, walked.
-/
import Derived.Test.YtegamhjfloebgaaPn
import Derived.Test.YtegamhjfloebgaaVn
namespace Go.Proofs.Ytegamhjfloebgaa
open Go.RowKit Go.Shelf
attribute [local go_sem] Oper.semAt_some
set_option linter.unusedVariables false

theorem finR (L : List UInt8) (n : Nat) : (List.finRange n).map (wordAt L n) = (List.range n).map (chunk L) := by
  apply List.ext_getElem
  · simp
  · intro i h1 h2
    simp [wordAt]
theorem bytes_wordsB (L : List UInt8) (N : Nat) (h : L.length = 8 * N) : bytesW (wordsB L N) = L := by
  unfold wordsB
  rw [finR, bytes_chunks, List.take_of_length_le (by omega), show 8 * N - L.length = 0 by omega]
  simp
/-- bytes that stand so, as a text -/
theorem conv_at {w : World} {p : Option Addr} {c : Nat} {M : List UInt8} (h : BAt w p M) : (convert 48 9 (.slice p M.length c)).run Try.prog w = .ok (.string ⟨M.toArray⟩) w := by
  cases p with
  | none =>
    have hM : M = [] := by
      cases M with
      | nil => rfl
      | cons a t => obtain ⟨g, o, e, _⟩ := h 0 (by simp); cases e
    subst hM
    exact run_convert_bytes_nil (P := Try.prog) (w := w) 48 5 Try.underlying48 Try.underlying5 0 c 9 Try.underlying9
  | some a =>
    refine run_convert_bytes_back (P := Try.prog) w 48 9 5 a c M Try.underlying48 Try.underlying5 Try.underlying9 (fun j hj => ?_)
    obtain ⟨g', o', e, _, hc⟩ := h j hj
    cases e
    have e1 : (⟨g', o', none⟩ : Addr).add j = ⟨g', o' + j, none⟩ := by unfold Addr.add; split; (rename_i h; subst h; rfl); rfl
    rw [e1, hc]
    simp [hj]
def RowBy (M : List UInt8) (v : Value) (W : World) : Prop := ∃ p c, v = .slice p M.length c ∧ BAt W p M
theorem RowBy.below {M : List UInt8} {v : Value} {W W' : World} (h : RowBy M v W) (hB : Below W.heap.size W W') : RowBy M v W' := by
  obtain ⟨p, c, e, h⟩ := h
  exact ⟨p, c, e, h.below hB⟩
theorem RowBy.of_own {M : List UInt8} {v : Value} {W : World} {B : Nat} (h : W.ownsRow B 5 1 v M.length (bvals M)) : RowBy M v W := by
  obtain ⟨p, n, c, rfl⟩ := own_slice h
  have := own_len h
  subst this
  exact ⟨p, c, rfl, BAt.of_own h⟩
structure OfP (w : World) (L : List UInt8) (N : Nat) (e : Ending) (W' : World) : Prop where
  e : e = .returned (.tuple #[.pointer (some ⟨w.heap.size + 1, 0, none⟩), .int .i64 0])
  m : ∃ vv vi ml, MemB W' (w.heap.size + 1) (wordsB L N) (wordsB L N) vv vi ml 0 0 0 0 ∧ (∀ i, MS (w.heap.size + 1) vv vi i → i < W'.heap.size ∧ w.heap.size ≤ i)
  b : Below w.heap.size w W'
theorem own_lt {w : World} {B k : Nat} {e : TypeId} {v : Value} {n : Nat} {xs : List Value} (h : w.ownsRow B e k v n xs) {i : Nat} (hi : v.ownBlock = some i) : i < w.heap.size := by
  obtain ⟨C, hC⟩ := own_type h hi
  exact (Array.getElem?_eq_some_iff.1 hC).1
theorem mof_v (L : List UInt8) (N c : Nat) (p : Option Addr) (w : World) (hN : N ≤ 200000) (hl : L.length = 8 * N) (hc : L.length ≤ c) (hb : BAt w p L) (hm : mayB L.length = true) :
    Calls Try.prog 19 #[.slice p L.length c] w (OfP w L N) := by
  have hpos : 0 < L.length := by unfold mayB at hm; have := of_decide_eq_true hm; omega
  obtain ⟨g, o, rfl, hg, _⟩ := hb 0 hpos
  rw [hl] at hm hc ⊢
  refine (callsIn_wide.1 (mof_in L N g o c _ w hN hl hc (fun _ => rfl) (fun _ => hg) hb.bytes hm)).mono ?_
  rintro e W' ⟨vv, vi, rfl, h1, h2, h3, _, h5, h6⟩
  refine ⟨rfl, ⟨vv, vi, _, h1, fun i hi => ?_⟩, h6⟩
  rcases hi with rfl | hi | hi
  · exact ⟨h1.blk.lt, by omega⟩
  · exact ⟨own_lt h1.v hi, by have := h2 i hi; omega⟩
  · exact ⟨own_lt h1.i hi, by have := h3 i hi; omega⟩
set_option maxRecDepth 100000 in
set_option maxHeartbeats 40000000 in
theorem vreads_no (L : List UInt8) (p : Option Addr) (c : Nat) (a : Int) (w : World) (hb : BAt w p L) (h47 : L.length < 140737488355328) (hm : mayB L.length = false) :
    Calls Try.prog 5 #[.slice p L.length c, .int .u64 a] w fun e w' => e = .returned (.bool true) ∧ Below w.heap.size w w' := by
  obtain ⟨i0, hi, hz0, hz1, hz2⟩ := info_parts Try.infoB
  have HBp := Lib.hid hb
  have HBn := Lib.hid h47
  clear hb h47
  go_enter Try.func5, Try.ntmps5
  go_wp2_with (at_builtin; refine wpList_append_any _ rfl _ _ 48 rfl w.heap.size 5 i0 (.int .u8 0) 1 1 Try.underlying48 hi hz0 hz1 hz2 rfl (by decide) (.slice none 0 0) 0 [] rfl (World.ownsRow_nil _ _ _ _) w.heap.size p L.length c (bvals L) rfl HBp.out.reads (bvals_one L) (by have := HBn.out; unfold maxLen; omega) (by have := HBn.out; omega) (Nat.le_refl _) ?_)
  intro v' w1 hown' hgrow hblk
  obtain ⟨p1, n1, c1, rfl⟩ := own_slice hown'
  have hn1 := own_len hown'
  subst hn1
  have HB1 := Lib.hid ((Below.refl w.heap.size w).grown hgrow (Nat.le_refl _) (fun r e => by cases e))
  have HO1 := Lib.hid (BAt.of_own hown')
  have HC1 := Lib.hid (own_cap hown')
  clear hown' hgrow hblk
  have HOf := Lib.hid (mof_no p1 L.length c1 w1 (by have := HBn.out; unfold maxLen; omega) hm)
  go_wp2_with (fail)
  refine HOf.out.mono ?_
  rintro e w2 ⟨rfl, rfl⟩
  go_wp2_with (go_at_call 8; refine (known_any _).mono ?_; rintro e w7 ⟨rfl, hk⟩; have HK := Lib.hid hk; clear hk)
  all_goals go_ret
  all_goals exact ⟨rfl, HB1.out.trans (HK.out.mono HB1.out.size)⟩
set_option maxRecDepth 100000 in
set_option maxHeartbeats 40000000 in
theorem vreads_big (L : List UInt8) (p : Option Addr) (c : Nat) (a : Int) (w : World) (hb : BAt w p L) (h47 : L.length < 140737488355328) (hm : mayB L.length = true) (h512 : 512 < L.length) :
    Calls Try.prog 5 #[.slice p L.length c, .int .u64 a] w fun e w' => e = .returned (.bool true) ∧ Below w.heap.size w w' := by
  have hmm := of_decide_eq_true (show decide (64 ≤ L.length ∧ L.length ≤ 1048576 ∧ L.length % 64 = 0) = true from hm)
  obtain ⟨N, hN⟩ : ∃ N, L.length = 8 * N := ⟨L.length / 8, by omega⟩
  have hN2 : N ≤ 200000 := by omega
  have HN := Lib.hid hN
  have h512i : (512 : Int) < (L.length : Int) := by omega
  clear hmm hN
  obtain ⟨i0, hi, hz0, hz1, hz2⟩ := info_parts Try.infoB
  have HBp := Lib.hid hb
  have HBn := Lib.hid h47
  clear hb h47
  go_enter Try.func5, Try.ntmps5
  go_wp2_with (at_builtin; refine wpList_append_any _ rfl _ _ 48 rfl w.heap.size 5 i0 (.int .u8 0) 1 1 Try.underlying48 hi hz0 hz1 hz2 rfl (by decide) (.slice none 0 0) 0 [] rfl (World.ownsRow_nil _ _ _ _) w.heap.size p L.length c (bvals L) rfl HBp.out.reads (bvals_one L) (by have := HBn.out; unfold maxLen; omega) (by have := HBn.out; omega) (Nat.le_refl _) ?_)
  intro v' w1 hown' hgrow hblk
  obtain ⟨p1, n1, c1, rfl⟩ := own_slice hown'
  have hn1 := own_len hown'
  subst hn1
  have HB1 := Lib.hid ((Below.refl w.heap.size w).grown hgrow (Nat.le_refl _) (fun r e => by cases e))
  have HO1 := Lib.hid (BAt.of_own hown')
  have HC1 := Lib.hid (own_cap hown')
  clear hown' hgrow hblk
  have HOf := Lib.hid (mof_v L N c1 p1 w1 hN2 HN.out HC1.out HO1.out hm)
  go_wp2_with (fail)
  refine HOf.out.mono ?_
  rintro e w2 ⟨rfl, _, hB2⟩
  have HB2 := Lib.hid (HB1.out.trans (hB2.mono HB1.out.size))
  clear hB2
  go_wp2_with (go_at_call 8; refine (known_any _).mono ?_; rintro e w7 ⟨rfl, hk⟩; have HK := Lib.hid hk; clear hk)
  go_ret
  exact ⟨rfl, HB2.out.trans (HK.out.mono HB2.out.size)⟩
theorem WhI.of_keeps {rb mb : Nat} {w0 w : World} (h : Keeps (fun k => k = mb ∨ rb ≤ k) w0 w) : True := trivial
set_option maxRecDepth 100000 in
set_option maxHeartbeats 40000000 in
theorem vreads_in (L : List UInt8) (p : Option Addr) (c : Nat) (a : Int) (w : World) (hb : BAt w p L) (h47 : L.length < 140737488355328) (hm : mayB L.length = true) (h512 : L.length ≤ 512) (ha0 : 0 ≤ a) (ha1 : a ≤ 18446744073709551615) :
    Calls Try.prog 5 #[.slice p L.length c, .int .u64 a] w fun e w' => e = .returned (.bool true) ∧ Below w.heap.size w w' := by
  have hmm := of_decide_eq_true (show decide (64 ≤ L.length ∧ L.length ≤ 1048576 ∧ L.length % 64 = 0) = true from hm)
  obtain ⟨N, hN⟩ : ∃ N, L.length = 8 * N := ⟨L.length / 8, by omega⟩
  have hN2 : N ≤ 200000 := by omega
  have hN0 : 0 < N := by omega
  have HN := Lib.hid hN
  have h512i : ¬ (512 : Int) < (L.length : Int) := by omega
  obtain ⟨n, HE⟩ := ends L N a hN (by omega) ha0 ha1
  obtain ⟨S, hS⟩ : ∃ S : ByteArray, (⟨(standP L a).1.toArray⟩ : ByteArray) = S := ⟨_, rfl⟩
  obtain ⟨er, her⟩ : ∃ er, (standP L a).2 = er := ⟨_, rfl⟩
  have HSt := Lib.hid (fun W hW => rstands_v L p c a W (by omega) (by omega) hW ha0 ha1)
  have hv := HE.v
  have hw := HE.w
  have hsz : (((standP L a).1.length : Nat) : Int) = (S.size : Int) := by rw [← hS]; rfl
  rw [hsz] at hw
  unfold TextPost at HSt
  rw [hS, her] at hv HSt
  rw [her] at hw
  have HV := Lib.hid hv
  have HW := Lib.hid hw
  have HEp := Lib.hid HE.p
  have HEb := Lib.hid HE.b
  have HEl := Lib.hid HE.lt
  have HEd := Lib.hid HE.d
  have HMm := Lib.hid hmm
  clear hmm hN hv hw hS her hsz HE
  obtain ⟨i0, hi, hz0, hz1, hz2⟩ := info_parts Try.infoB
  have HBp := Lib.hid hb
  have HBn := Lib.hid h47
  clear hb h47
  go_enter Try.func5, Try.ntmps5
  go_wp2_with (at_builtin; refine wpList_append_any _ rfl _ _ 48 rfl w.heap.size 5 i0 (.int .u8 0) 1 1 Try.underlying48 hi hz0 hz1 hz2 rfl (by decide) (.slice none 0 0) 0 [] rfl (World.ownsRow_nil _ _ _ _) w.heap.size p L.length c (bvals L) rfl HBp.out.reads (bvals_one L) (by have := HBn.out; unfold maxLen; omega) (by have := HBn.out; omega) (Nat.le_refl _) ?_)
  intro v' w1 hown' hgrow hblk
  obtain ⟨p1, n1, c1, rfl⟩ := own_slice hown'
  have hn1 := own_len hown'
  subst hn1
  have HB1 := Lib.hid ((Below.refl w.heap.size w).grown hgrow (Nat.le_refl _) (fun r e => by cases e))
  have HO1 := Lib.hid (BAt.of_own hown')
  have HC1 := Lib.hid (own_cap hown')
  clear hown' hgrow hblk
  have HOf := Lib.hid (mof_v L N c1 p1 w1 hN2 HN.out HC1.out HO1.out hm)
  go_wp2_with (fail)
  refine HOf.out.mono ?_
  rintro e w2 ⟨rfl, ⟨vv, vi, ml, hmem, hlt⟩, hB2⟩
  have HB2 := Lib.hid (HB1.out.trans (hB2.mono HB1.out.size))
  have HL2 := Lib.hid (fun i hi => Nat.le_trans HB1.out.size (hlt i hi).2)
  obtain ⟨mb, hmb⟩ : ∃ mb, w1.heap.size + 1 = mb := ⟨_, rfl⟩
  rw [hmb] at hmem hlt HL2 ⊢
  have HMem := Lib.hid hmem
  have HLt := Lib.hid (fun i hi => (hlt i hi).1)
  clear hB2 hmem hlt
  clear hmb
  go_wp2_with (fail)
  refine (vnew_v mb a w2).mono ?_
  rintro e w3 ⟨rfl, hr3, hB3⟩
  obtain ⟨rb, hrb⟩ : ∃ rb, w2.heap.size = rb := ⟨_, rfl⟩
  rw [hrb] at hr3 hB3 ⊢
  have HI0 := Lib.hid (show WhI w3 rb mb a (wordsB L N) (wordsB L N) vv vi ml 0 0 0 0 0 w3 from ⟨⟨_, hr3⟩, HMem.out.below (by rw [hrb]; exact hB3), Keeps.refl _ _⟩)
  have HH := Lib.hid (show WhH rb mb a (wordsB L N) vv vi 0 0 0 0 from ⟨fun i hi => by rw [← hrb]; exact HLt.out i hi, by rw [wordsB_len]; exact hN0, by rw [wordsB_len]; omega, ha0, ha1, wordsB_u64 L N, by decide, by decide, by decide, by decide, by decide, by decide, by decide, by decide⟩)
  have HB3 := Lib.hid (HB2.out.trans (hB3.mono (by rw [← hrb]; exact HB2.out.size)))
  have HRB := Lib.hid (show w.heap.size ≤ rb from by rw [← hrb]; exact HB2.out.size)
  clear hr3 hB3 hrb
  go_wp2_with (fail)
  refine (HI0.out.value HH.out).mono ?_
  rintro e w4 ⟨rfl, hI4⟩
  have HI4 := Lib.hid hI4
  clear hI4
  have hv0 : valP (itP (wordsB L N) a 0).1 (itP (wordsB L N) a 0).2.1 (itP (wordsB L N) a 0).2.2.2 = (⟨#[]⟩, 7) := rfl
  rw [hv0]
  clear hv0
  go_wp2_with (fail)
  refine (whole_v w4 rb mb a _ _ vv vi ml 0 0 0 0 n ⟨HI4.out.rs, HI4.out.m, Keeps.refl _ _⟩ HH.out HEp.out (by have := HEb.out; omega) HEl.out HEd.out).mono ?_
  rintro e w5 ⟨rfl, hI5⟩
  have HI5 := Lib.hid hI5
  have HB4 := Lib.hid (show Below w.heap.size w w4 from HB3.out.keeps (Nat.le_refl _) HI4.out.kp (fun i hi => by rcases hi with rfl | hi; (exact HL2.out _ (.inl rfl)); have := HRB.out; omega))
  clear hI5
  go_wp2_with (fail)
  refine (HI5.out.value HH.out).mono ?_
  rintro e w6 ⟨rfl, hI6⟩
  rw [HV.out]
  have HI6 := Lib.hid hI6
  have HB6 := Lib.hid (show Below w.heap.size w w6 from HB4.out.keeps (Nat.le_refl _) hI6.kp (fun i hi => by rcases hi with rfl | hi; (exact HL2.out _ (.inl rfl)); have := HRB.out; omega))
  clear hI6
  go_wp2_with (fail)
  refine (HSt.out w6 (HBp.out.below HB6.out)).mono ?_
  rintro e W5 ⟨rfl, hB7⟩
  have HI7 := Lib.hid (HI6.out.below hB7)
  have HB7 := Lib.hid (HB6.out.trans (hB7.mono HB6.out.size))
  clear hB7
  have hn1 : ¬ ((n : Int) < 1) := by have := HEp.out; omega
  have HIm := Lib.hid (show ∀ W, Below W5.heap.size W5 W → Calls Try.prog 22 #[.pointer (some ⟨mb, 0, none⟩)] W fun e w' => ∃ v, e = .returned v ∧ w'.ownsRow W.heap.size 5 1 v L.length (bvals L) ∧ Below W.heap.size W w' from fun W hB => by
    have := image_v W mb _ _ vv vi ml _ 0 0 0 (HI7.out.m.below hB) (by rw [wordsB_len]; exact hN0) (by rw [wordsB_len]; exact hN0) (by rw [wordsB_len]; omega) (wordsB_u64 L N)
    rw [bytes_wordsB L N HN.out] at this
    exact this)
  have HBq := Lib.hid (HBp.out.below HB7.out)
  obtain ⟨Lb, rfl⟩ : ∃ y, y = L := ⟨_, rfl⟩
  obtain ⟨k, hk⟩ : ∃ k, wordsN (S.size : Int) = k := ⟨_, rfl⟩
  have HWk := Lib.hid (fun W => rwords_n (S.size : Int) W)
  rw [hk] at HWk HW
  have HKw := Lib.hid (show IntKind.i64.wrap (k + 1) = k + 1 from IntWalk.i64_in _ (by rw [← hk]; unfold wordsN; split <;> omega))
  clear hk
  by_cases hz : er = 0
  · have HKn := Lib.hid (show decide ((n : Int) ≤ k + 1) = true from decide_eq_true (HW.out hz))
    subst hz
    go_wp2_with (fail)
    --GEN r_vr11a
    refine wp_region_vals [Is (.pointer (some ⟨mb, 0, none⟩)), RowBy Lb, Is (.string ⟨Lb.toArray⟩), Is (.slice p Lb.length c), Is (.string ⟨Lb.toArray⟩), Is (.bool true), Is (.bool true), Is (.int .i64 0), Is (.bool false), Is (.bool false), Is (.int .i64 n), Is (.string S), Is (.int .i64 S.size), Is (.int .i64 k), Is (.int .i64 (k + 1)), Is (.bool true), Is (.bool true), Is (.bool true), Is (.bool true), Is (.bool true), Is (.bool true), Is (.bool true)]
      (fun _ W W' => Below W.heap.size W W') (fun _ W => Below W5.heap.size W5 W) (by kernel_rfl) (by kernel_rfl) (by kernel_rfl) ?hst ?h0 ⟨?o0, ?o1, ?o2, ?o3, ?o4, ?o5, ?o6, ?o7, ?o8, ?o9, ?o10, ?o11, ?o12, ?o13, ?o14, ?o15, ?o16, ?o17, ?o18, ?o19, ?o20, ?o21, trivial⟩ ?he
    case hst =>
      exact ⟨(fun _ _ _ _ _ _ h _ => h), (fun _ _ _ _ _ _ h hR => RowBy.below h hR), (fun _ _ _ _ _ _ h _ => h), (fun _ _ _ _ _ _ h _ => h), (fun _ _ _ _ _ _ h _ => h), (fun _ _ _ _ _ _ h _ => h), (fun _ _ _ _ _ _ h _ => h), (fun _ _ _ _ _ _ h _ => h), (fun _ _ _ _ _ _ h _ => h), (fun _ _ _ _ _ _ h _ => h), (fun _ _ _ _ _ _ h _ => h), (fun _ _ _ _ _ _ h _ => h), (fun _ _ _ _ _ _ h _ => h), (fun _ _ _ _ _ _ h _ => h), (fun _ _ _ _ _ _ h _ => h), (fun _ _ _ _ _ _ h _ => h), (fun _ _ _ _ _ _ h _ => h), (fun _ _ _ _ _ _ h _ => h), (fun _ _ _ _ _ _ h _ => h), (fun _ _ _ _ _ _ h _ => h), (fun _ _ _ _ _ _ h _ => h), (fun _ _ _ _ _ _ h _ => h), trivial⟩
    case h0 =>
      exact (Below.refl _ _).drew
    case o0 =>
      intro L vs A W H hf hd K hK
      have e5 : A.tmps[5]?.getD undef = .pointer (some ⟨mb, 0, none⟩) := H.old 5 (by kernel_rfl)
      go_simp
      exact hK _ _ (Below.refl _ _) rfl (H.glob)
    case o1 =>
      intro L vs A W H hf hd K hK
      have e84 := H.is 0 84 rfl rfl rfl (deps_of' hd 0 (by kernel_rfl)) (by kernel_rfl)
      go_simp
      refine (HIm.out W H.glob).mono ?_
      rintro e w' ⟨v, rfl, ho, hB⟩
      go_simp
      exact hK _ _ (hB.mono (Nat.le_refl _)) (RowBy.of_own ho) (H.glob.trans (hB.mono H.glob.size))
    case o2 =>
      intro L vs A W H hf hd K hK
      obtain ⟨v85, e85, q85⟩ := H.val 1 85 rfl rfl rfl (deps_of' hd 1 (by kernel_rfl)) (by kernel_rfl)
      obtain ⟨p85, c85, rfl, hb85⟩ := q85
      have hcv := conv_at (c := c85) hb85
      go_simp
      exact hK _ _ (Below.refl _ _) rfl (H.glob)
    case o3 =>
      intro L vs A W H hf hd K hK
      have e0 : A.tmps[0]?.getD undef = .slice p Lb.length c := H.old 0 (by kernel_rfl)
      go_simp
      exact hK _ _ (Below.refl _ _) rfl (H.glob)
    case o4 =>
      intro L vs A W H hf hd K hK
      have e87 := H.is 3 87 rfl rfl rfl (deps_of' hd 3 (by kernel_rfl)) (by kernel_rfl)
      have hcv := conv_at (c := c) (HBq.out.below H.glob)
      go_simp
      exact hK _ _ (Below.refl _ _) rfl (H.glob)
    case o5 =>
      intro L vs A W H hf hd K hK
      have e86 := H.is 2 86 rfl rfl rfl (deps_of' hd 2 (by kernel_rfl)) (by kernel_rfl)
      have e88 := H.is 4 88 rfl rfl rfl (deps_of' hd 4 (by kernel_rfl)) (by kernel_rfl)
      go_simp
      exact hK _ _ (Below.refl _ _) rfl (H.glob)
    case o6 =>
      intro L vs A W H hf hd K hK
      have e89 := H.is 5 89 rfl rfl rfl (deps_of' hd 5 (by kernel_rfl)) (by kernel_rfl)
      go_simp
      exact hK _ _ (Below.refl _ _) rfl (H.glob)
    case o7 =>
      intro L vs A W H hf hd K hK
      have e90 := H.is 6 90 rfl rfl rfl (deps_of' hd 6 (by kernel_rfl)) (by kernel_rfl)
      refine if_wanted (j := 6) (s := 90) rfl rfl rfl e90 rfl ?_
      have e14 : A.tmps[14]?.getD undef = .int .i64 0 := H.old 14 (by kernel_rfl)
      go_simp
      exact hK _ _ (Below.refl _ _) rfl (H.glob)
    case o8 =>
      intro L vs A W H hf hd K hK
      have e90 := H.is 6 90 rfl rfl rfl (deps_of' hd 6 (by kernel_rfl)) (by kernel_rfl)
      refine if_wanted (j := 6) (s := 90) rfl rfl rfl e90 rfl ?_
      have e91 := H.is 7 91 rfl rfl rfl (deps_of' hd 7 (by kernel_rfl)) (by kernel_rfl)
      go_simp
      exact hK _ _ (Below.refl _ _) rfl (H.glob)
    case o9 =>
      intro L vs A W H hf hd K hK
      have e90 := H.is 6 90 rfl rfl rfl (deps_of' hd 6 (by kernel_rfl)) (by kernel_rfl)
      refine if_wanted (j := 6) (s := 90) rfl rfl rfl e90 rfl ?_
      have e92 := H.is 8 92 rfl rfl rfl (deps_of' hd 8 (by kernel_rfl)) (by kernel_rfl)
      go_simp
      exact hK _ _ (Below.refl _ _) rfl (H.glob)
    case o10 =>
      intro L vs A W H hf hd K hK
      have e93 := H.is 9 93 rfl rfl rfl (deps_of' hd 9 (by kernel_rfl)) (by kernel_rfl)
      refine if_wanted (j := 9) (s := 93) rfl rfl rfl e93 rfl ?_
      have e10 : A.tmps[10]?.getD undef = .int .i64 n := H.old 10 (by kernel_rfl)
      go_simp
      exact hK _ _ (Below.refl _ _) rfl (H.glob)
    case o11 =>
      intro L vs A W H hf hd K hK
      have e93 := H.is 9 93 rfl rfl rfl (deps_of' hd 9 (by kernel_rfl)) (by kernel_rfl)
      refine if_wanted (j := 9) (s := 93) rfl rfl rfl e93 rfl ?_
      have e13 : A.tmps[13]?.getD undef = .string S := H.old 13 (by kernel_rfl)
      go_simp
      exact hK _ _ (Below.refl _ _) rfl (H.glob)
    case o12 =>
      intro L vs A W H hf hd K hK
      have e93 := H.is 9 93 rfl rfl rfl (deps_of' hd 9 (by kernel_rfl)) (by kernel_rfl)
      refine if_wanted (j := 9) (s := 93) rfl rfl rfl e93 rfl ?_
      have e95 := H.is 11 95 rfl rfl rfl (deps_of' hd 11 (by kernel_rfl)) (by kernel_rfl)
      go_simp
      exact hK _ _ (Below.refl _ _) rfl (H.glob)
    case o13 =>
      intro L vs A W H hf hd K hK
      have e93 := H.is 9 93 rfl rfl rfl (deps_of' hd 9 (by kernel_rfl)) (by kernel_rfl)
      refine if_wanted (j := 9) (s := 93) rfl rfl rfl e93 rfl ?_
      have e96 := H.is 12 96 rfl rfl rfl (deps_of' hd 12 (by kernel_rfl)) (by kernel_rfl)
      go_simp
      refine (HWk.out W).mono ?_
      rintro e w' ⟨rfl, rfl⟩
      go_simp
      exact hK _ _ (Below.refl _ _) rfl H.glob
    case o14 =>
      intro L vs A W H hf hd K hK
      have e93 := H.is 9 93 rfl rfl rfl (deps_of' hd 9 (by kernel_rfl)) (by kernel_rfl)
      refine if_wanted (j := 9) (s := 93) rfl rfl rfl e93 rfl ?_
      have e97 := H.is 13 97 rfl rfl rfl (deps_of' hd 13 (by kernel_rfl)) (by kernel_rfl)
      have hkw := HKw.out
      go_simp
      exact hK _ _ (Below.refl _ _) rfl (H.glob)
    case o15 =>
      intro L vs A W H hf hd K hK
      have e93 := H.is 9 93 rfl rfl rfl (deps_of' hd 9 (by kernel_rfl)) (by kernel_rfl)
      refine if_wanted (j := 9) (s := 93) rfl rfl rfl e93 rfl ?_
      have e94 := H.is 10 94 rfl rfl rfl (deps_of' hd 10 (by kernel_rfl)) (by kernel_rfl)
      have e98 := H.is 14 98 rfl rfl rfl (deps_of' hd 14 (by kernel_rfl)) (by kernel_rfl)
      have hkn := HKn.out
      go_simp
      exact hK _ _ (Below.refl _ _) rfl (H.glob)
    case o16 =>
      intro L vs A W H hf hd K hK
      have e90 := H.is 6 90 rfl rfl rfl (deps_of' hd 6 (by kernel_rfl)) (by kernel_rfl)
      refine if_wanted (j := 6) (s := 90) rfl rfl rfl e90 rfl ?_
      have e93 := H.is 9 93 rfl rfl rfl (deps_of' hd 9 (by kernel_rfl)) (by kernel_rfl)
      have e99 := H.is 15 99 rfl rfl rfl (deps_of' hd 15 (by kernel_rfl)) (by kernel_rfl)
      go_simp
      exact hK _ _ (Below.refl _ _) rfl (H.glob)
    case o17 =>
      intro L vs A W H hf hd K hK
      have e90 := H.is 6 90 rfl rfl rfl (deps_of' hd 6 (by kernel_rfl)) (by kernel_rfl)
      have e100 := H.is 16 100 rfl rfl rfl (deps_of' hd 16 (by kernel_rfl)) (by kernel_rfl)
      go_simp
      exact hK _ _ (Below.refl _ _) rfl (H.glob)
    case o18 =>
      intro L vs A W H hf hd K hK
      have e101 := H.is 17 101 rfl rfl rfl (deps_of' hd 17 (by kernel_rfl)) (by kernel_rfl)
      go_simp
      exact hK _ _ (Below.refl _ _) rfl (H.glob)
    case o19 =>
      intro L vs A W H hf hd K hK
      have e102 := H.is 18 102 rfl rfl rfl (deps_of' hd 18 (by kernel_rfl)) (by kernel_rfl)
      refine if_wanted (j := 18) (s := 102) rfl rfl rfl e102 rfl ?_
      go_simp
      refine (known_any W).mono ?_
      rintro e w' ⟨rfl, hB⟩
      go_simp
      exact hK _ _ hB rfl (H.glob.trans (hB.mono H.glob.size))
    case o20 =>
      intro L vs A W H hf hd K hK
      have e102 := H.is 18 102 rfl rfl rfl (deps_of' hd 18 (by kernel_rfl)) (by kernel_rfl)
      have e103 := H.is 19 103 rfl rfl rfl (deps_of' hd 19 (by kernel_rfl)) (by kernel_rfl)
      go_simp
      exact hK _ _ (Below.refl _ _) rfl (H.glob)
    case o21 =>
      intro L vs A W H hf hd K hK
      have e104 := H.is 20 104 rfl rfl rfl (deps_of' hd 20 (by kernel_rfl)) (by kernel_rfl)
      go_simp
      exact hK _ _ (Below.refl _ _) rfl (H.glob)
    case he =>
      intro vs W hlen hv
      match vs, hlen, hv with
      | [x0_, x1_, x2_, x3_, x4_, x5_, x6_, x7_, x8_, x9_, x10_, x11_, x12_, x13_, x14_, x15_, x16_, x17_, x18_, x19_, x20_, x21_], _, hv =>
      obtain rfl : (.pointer (some ⟨mb, 0, none⟩)) = x0_ := by obtain ⟨z, h1, h2⟩ := hv 0 _ rfl; cases h1; exact h2.symm
      have hx1 : (RowBy Lb) x1_ W := by obtain ⟨z, h1, h2⟩ := hv 1 _ rfl; cases h1; exact h2
      obtain rfl : (.string ⟨Lb.toArray⟩) = x2_ := by obtain ⟨z, h1, h2⟩ := hv 2 _ rfl; cases h1; exact h2.symm
      obtain rfl : (.slice p Lb.length c) = x3_ := by obtain ⟨z, h1, h2⟩ := hv 3 _ rfl; cases h1; exact h2.symm
      obtain rfl : (.string ⟨Lb.toArray⟩) = x4_ := by obtain ⟨z, h1, h2⟩ := hv 4 _ rfl; cases h1; exact h2.symm
      obtain rfl : (.bool true) = x5_ := by obtain ⟨z, h1, h2⟩ := hv 5 _ rfl; cases h1; exact h2.symm
      obtain rfl : (.bool true) = x6_ := by obtain ⟨z, h1, h2⟩ := hv 6 _ rfl; cases h1; exact h2.symm
      obtain rfl : (.int .i64 0) = x7_ := by obtain ⟨z, h1, h2⟩ := hv 7 _ rfl; cases h1; exact h2.symm
      obtain rfl : (.bool false) = x8_ := by obtain ⟨z, h1, h2⟩ := hv 8 _ rfl; cases h1; exact h2.symm
      obtain rfl : (.bool false) = x9_ := by obtain ⟨z, h1, h2⟩ := hv 9 _ rfl; cases h1; exact h2.symm
      obtain rfl : (.int .i64 n) = x10_ := by obtain ⟨z, h1, h2⟩ := hv 10 _ rfl; cases h1; exact h2.symm
      obtain rfl : (.string S) = x11_ := by obtain ⟨z, h1, h2⟩ := hv 11 _ rfl; cases h1; exact h2.symm
      obtain rfl : (.int .i64 S.size) = x12_ := by obtain ⟨z, h1, h2⟩ := hv 12 _ rfl; cases h1; exact h2.symm
      obtain rfl : (.int .i64 k) = x13_ := by obtain ⟨z, h1, h2⟩ := hv 13 _ rfl; cases h1; exact h2.symm
      obtain rfl : (.int .i64 (k + 1)) = x14_ := by obtain ⟨z, h1, h2⟩ := hv 14 _ rfl; cases h1; exact h2.symm
      obtain rfl : (.bool true) = x15_ := by obtain ⟨z, h1, h2⟩ := hv 15 _ rfl; cases h1; exact h2.symm
      obtain rfl : (.bool true) = x16_ := by obtain ⟨z, h1, h2⟩ := hv 16 _ rfl; cases h1; exact h2.symm
      obtain rfl : (.bool true) = x17_ := by obtain ⟨z, h1, h2⟩ := hv 17 _ rfl; cases h1; exact h2.symm
      obtain rfl : (.bool true) = x18_ := by obtain ⟨z, h1, h2⟩ := hv 18 _ rfl; cases h1; exact h2.symm
      obtain rfl : (.bool true) = x19_ := by obtain ⟨z, h1, h2⟩ := hv 19 _ rfl; cases h1; exact h2.symm
      obtain rfl : (.bool true) = x20_ := by obtain ⟨z, h1, h2⟩ := hv 20 _ rfl; cases h1; exact h2.symm
      obtain rfl : (.bool true) = x21_ := by obtain ⟨z, h1, h2⟩ := hv 21 _ rfl; cases h1; exact h2.symm
      intro L hall hG
      clear hv hlen
      have HW := Lib.hid hG
      clear hG hall
      simp only [fill, if_true]
    --END
      simp [Act.put]
      go_wp2_with (fail)
      go_ret
      exact ⟨rfl, HB7.out.trans (HW.out.mono HB7.out.size)⟩
  · have HZe := Lib.hid (show (er != 0) = true from bne_iff_ne.2 hz)
    clear hz
    go_wp2_with (fail)
    --GEN r_vr11b
    refine wp_region_vals [Is (.pointer (some ⟨mb, 0, none⟩)), RowBy Lb, Is (.string ⟨Lb.toArray⟩), Is (.slice p Lb.length c), Is (.string ⟨Lb.toArray⟩), Is (.bool true), Is (.bool true), Is (.int .i64 er), Is (.bool true), Is (.bool true), Any, Any, Any, Any, Any, Any, Is (.bool true), Is (.bool true), Is (.bool true), Is (.bool true), Is (.bool true), Is (.bool true)]
      (fun _ W W' => Below W.heap.size W W') (fun _ W => Below W5.heap.size W5 W) (by kernel_rfl) (by kernel_rfl) (by kernel_rfl) ?hst ?h0 ⟨?o0, ?o1, ?o2, ?o3, ?o4, ?o5, ?o6, ?o7, ?o8, ?o9, ?o10, ?o11, ?o12, ?o13, ?o14, ?o15, ?o16, ?o17, ?o18, ?o19, ?o20, ?o21, trivial⟩ ?he
    case hst =>
      exact ⟨(fun _ _ _ _ _ _ h _ => h), (fun _ _ _ _ _ _ h hR => RowBy.below h hR), (fun _ _ _ _ _ _ h _ => h), (fun _ _ _ _ _ _ h _ => h), (fun _ _ _ _ _ _ h _ => h), (fun _ _ _ _ _ _ h _ => h), (fun _ _ _ _ _ _ h _ => h), (fun _ _ _ _ _ _ h _ => h), (fun _ _ _ _ _ _ h _ => h), (fun _ _ _ _ _ _ h _ => h), (fun _ _ _ _ _ _ h _ => h), (fun _ _ _ _ _ _ h _ => h), (fun _ _ _ _ _ _ h _ => h), (fun _ _ _ _ _ _ h _ => h), (fun _ _ _ _ _ _ h _ => h), (fun _ _ _ _ _ _ h _ => h), (fun _ _ _ _ _ _ h _ => h), (fun _ _ _ _ _ _ h _ => h), (fun _ _ _ _ _ _ h _ => h), (fun _ _ _ _ _ _ h _ => h), (fun _ _ _ _ _ _ h _ => h), (fun _ _ _ _ _ _ h _ => h), trivial⟩
    case h0 =>
      exact (Below.refl _ _).drew
    case o0 =>
      intro L vs A W H hf hd K hK
      have e5 : A.tmps[5]?.getD undef = .pointer (some ⟨mb, 0, none⟩) := H.old 5 (by kernel_rfl)
      go_simp
      exact hK _ _ (Below.refl _ _) rfl (H.glob)
    case o1 =>
      intro L vs A W H hf hd K hK
      have e84 := H.is 0 84 rfl rfl rfl (deps_of' hd 0 (by kernel_rfl)) (by kernel_rfl)
      go_simp
      refine (HIm.out W H.glob).mono ?_
      rintro e w' ⟨v, rfl, ho, hB⟩
      go_simp
      exact hK _ _ (hB.mono (Nat.le_refl _)) (RowBy.of_own ho) (H.glob.trans (hB.mono H.glob.size))
    case o2 =>
      intro L vs A W H hf hd K hK
      obtain ⟨v85, e85, q85⟩ := H.val 1 85 rfl rfl rfl (deps_of' hd 1 (by kernel_rfl)) (by kernel_rfl)
      obtain ⟨p85, c85, rfl, hb85⟩ := q85
      have hcv := conv_at (c := c85) hb85
      go_simp
      exact hK _ _ (Below.refl _ _) rfl (H.glob)
    case o3 =>
      intro L vs A W H hf hd K hK
      have e0 : A.tmps[0]?.getD undef = .slice p Lb.length c := H.old 0 (by kernel_rfl)
      go_simp
      exact hK _ _ (Below.refl _ _) rfl (H.glob)
    case o4 =>
      intro L vs A W H hf hd K hK
      have e87 := H.is 3 87 rfl rfl rfl (deps_of' hd 3 (by kernel_rfl)) (by kernel_rfl)
      have hcv := conv_at (c := c) (HBq.out.below H.glob)
      go_simp
      exact hK _ _ (Below.refl _ _) rfl (H.glob)
    case o5 =>
      intro L vs A W H hf hd K hK
      have e86 := H.is 2 86 rfl rfl rfl (deps_of' hd 2 (by kernel_rfl)) (by kernel_rfl)
      have e88 := H.is 4 88 rfl rfl rfl (deps_of' hd 4 (by kernel_rfl)) (by kernel_rfl)
      go_simp
      exact hK _ _ (Below.refl _ _) rfl (H.glob)
    case o6 =>
      intro L vs A W H hf hd K hK
      have e89 := H.is 5 89 rfl rfl rfl (deps_of' hd 5 (by kernel_rfl)) (by kernel_rfl)
      go_simp
      exact hK _ _ (Below.refl _ _) rfl (H.glob)
    case o7 =>
      intro L vs A W H hf hd K hK
      have e90 := H.is 6 90 rfl rfl rfl (deps_of' hd 6 (by kernel_rfl)) (by kernel_rfl)
      refine if_wanted (j := 6) (s := 90) rfl rfl rfl e90 rfl ?_
      have e14 : A.tmps[14]?.getD undef = .int .i64 er := H.old 14 (by kernel_rfl)
      go_simp
      exact hK _ _ (Below.refl _ _) rfl (H.glob)
    case o8 =>
      intro L vs A W H hf hd K hK
      have e90 := H.is 6 90 rfl rfl rfl (deps_of' hd 6 (by kernel_rfl)) (by kernel_rfl)
      refine if_wanted (j := 6) (s := 90) rfl rfl rfl e90 rfl ?_
      have e91 := H.is 7 91 rfl rfl rfl (deps_of' hd 7 (by kernel_rfl)) (by kernel_rfl)
      have hze := HZe.out
      go_simp
      exact hK _ _ (Below.refl _ _) rfl (H.glob)
    case o9 =>
      intro L vs A W H hf hd K hK
      have e90 := H.is 6 90 rfl rfl rfl (deps_of' hd 6 (by kernel_rfl)) (by kernel_rfl)
      refine if_wanted (j := 6) (s := 90) rfl rfl rfl e90 rfl ?_
      have e92 := H.is 8 92 rfl rfl rfl (deps_of' hd 8 (by kernel_rfl)) (by kernel_rfl)
      go_simp
      exact hK _ _ (Below.refl _ _) rfl (H.glob)
    case o10 =>
      intro L vs A W H hf hd K hK
      have e93 := H.is 9 93 rfl rfl rfl (deps_of' hd 9 (by kernel_rfl)) (by kernel_rfl)
      refine if_unwanted (j := 9) (s := 93) rfl rfl rfl e93 rfl ?_
      exact hK _ _ (Below.refl _ _) trivial (H.glob)
    case o11 =>
      intro L vs A W H hf hd K hK
      have e93 := H.is 9 93 rfl rfl rfl (deps_of' hd 9 (by kernel_rfl)) (by kernel_rfl)
      refine if_unwanted (j := 9) (s := 93) rfl rfl rfl e93 rfl ?_
      exact hK _ _ (Below.refl _ _) trivial (H.glob)
    case o12 =>
      intro L vs A W H hf hd K hK
      have e93 := H.is 9 93 rfl rfl rfl (deps_of' hd 9 (by kernel_rfl)) (by kernel_rfl)
      refine if_unwanted (j := 9) (s := 93) rfl rfl rfl e93 rfl ?_
      exact hK _ _ (Below.refl _ _) trivial (H.glob)
    case o13 =>
      intro L vs A W H hf hd K hK
      have e93 := H.is 9 93 rfl rfl rfl (deps_of' hd 9 (by kernel_rfl)) (by kernel_rfl)
      refine if_unwanted (j := 9) (s := 93) rfl rfl rfl e93 rfl ?_
      exact hK _ _ (Below.refl _ _) trivial (H.glob)
    case o14 =>
      intro L vs A W H hf hd K hK
      have e93 := H.is 9 93 rfl rfl rfl (deps_of' hd 9 (by kernel_rfl)) (by kernel_rfl)
      refine if_unwanted (j := 9) (s := 93) rfl rfl rfl e93 rfl ?_
      exact hK _ _ (Below.refl _ _) trivial (H.glob)
    case o15 =>
      intro L vs A W H hf hd K hK
      have e93 := H.is 9 93 rfl rfl rfl (deps_of' hd 9 (by kernel_rfl)) (by kernel_rfl)
      refine if_unwanted (j := 9) (s := 93) rfl rfl rfl e93 rfl ?_
      exact hK _ _ (Below.refl _ _) trivial (H.glob)
    case o16 =>
      intro L vs A W H hf hd K hK
      have e90 := H.is 6 90 rfl rfl rfl (deps_of' hd 6 (by kernel_rfl)) (by kernel_rfl)
      refine if_wanted (j := 6) (s := 90) rfl rfl rfl e90 rfl ?_
      have e93 := H.is 9 93 rfl rfl rfl (deps_of' hd 9 (by kernel_rfl)) (by kernel_rfl)
      obtain ⟨v99, e99, q99⟩ := H.val 15 99 rfl rfl rfl (deps_of' hd 15 (by kernel_rfl)) (by kernel_rfl)
      go_simp
      exact hK _ _ (Below.refl _ _) rfl (H.glob)
    case o17 =>
      intro L vs A W H hf hd K hK
      have e90 := H.is 6 90 rfl rfl rfl (deps_of' hd 6 (by kernel_rfl)) (by kernel_rfl)
      have e100 := H.is 16 100 rfl rfl rfl (deps_of' hd 16 (by kernel_rfl)) (by kernel_rfl)
      go_simp
      exact hK _ _ (Below.refl _ _) rfl (H.glob)
    case o18 =>
      intro L vs A W H hf hd K hK
      have e101 := H.is 17 101 rfl rfl rfl (deps_of' hd 17 (by kernel_rfl)) (by kernel_rfl)
      go_simp
      exact hK _ _ (Below.refl _ _) rfl (H.glob)
    case o19 =>
      intro L vs A W H hf hd K hK
      have e102 := H.is 18 102 rfl rfl rfl (deps_of' hd 18 (by kernel_rfl)) (by kernel_rfl)
      refine if_wanted (j := 18) (s := 102) rfl rfl rfl e102 rfl ?_
      go_simp
      refine (known_any W).mono ?_
      rintro e w' ⟨rfl, hB⟩
      go_simp
      exact hK _ _ hB rfl (H.glob.trans (hB.mono H.glob.size))
    case o20 =>
      intro L vs A W H hf hd K hK
      have e102 := H.is 18 102 rfl rfl rfl (deps_of' hd 18 (by kernel_rfl)) (by kernel_rfl)
      have e103 := H.is 19 103 rfl rfl rfl (deps_of' hd 19 (by kernel_rfl)) (by kernel_rfl)
      go_simp
      exact hK _ _ (Below.refl _ _) rfl (H.glob)
    case o21 =>
      intro L vs A W H hf hd K hK
      have e104 := H.is 20 104 rfl rfl rfl (deps_of' hd 20 (by kernel_rfl)) (by kernel_rfl)
      go_simp
      exact hK _ _ (Below.refl _ _) rfl (H.glob)
    case he =>
      intro vs W hlen hv
      match vs, hlen, hv with
      | [x0_, x1_, x2_, x3_, x4_, x5_, x6_, x7_, x8_, x9_, x10_, x11_, x12_, x13_, x14_, x15_, x16_, x17_, x18_, x19_, x20_, x21_], _, hv =>
      obtain rfl : (.pointer (some ⟨mb, 0, none⟩)) = x0_ := by obtain ⟨z, h1, h2⟩ := hv 0 _ rfl; cases h1; exact h2.symm
      have hx1 : (RowBy Lb) x1_ W := by obtain ⟨z, h1, h2⟩ := hv 1 _ rfl; cases h1; exact h2
      obtain rfl : (.string ⟨Lb.toArray⟩) = x2_ := by obtain ⟨z, h1, h2⟩ := hv 2 _ rfl; cases h1; exact h2.symm
      obtain rfl : (.slice p Lb.length c) = x3_ := by obtain ⟨z, h1, h2⟩ := hv 3 _ rfl; cases h1; exact h2.symm
      obtain rfl : (.string ⟨Lb.toArray⟩) = x4_ := by obtain ⟨z, h1, h2⟩ := hv 4 _ rfl; cases h1; exact h2.symm
      obtain rfl : (.bool true) = x5_ := by obtain ⟨z, h1, h2⟩ := hv 5 _ rfl; cases h1; exact h2.symm
      obtain rfl : (.bool true) = x6_ := by obtain ⟨z, h1, h2⟩ := hv 6 _ rfl; cases h1; exact h2.symm
      obtain rfl : (.int .i64 er) = x7_ := by obtain ⟨z, h1, h2⟩ := hv 7 _ rfl; cases h1; exact h2.symm
      obtain rfl : (.bool true) = x8_ := by obtain ⟨z, h1, h2⟩ := hv 8 _ rfl; cases h1; exact h2.symm
      obtain rfl : (.bool true) = x9_ := by obtain ⟨z, h1, h2⟩ := hv 9 _ rfl; cases h1; exact h2.symm
      obtain rfl : (.bool true) = x16_ := by obtain ⟨z, h1, h2⟩ := hv 16 _ rfl; cases h1; exact h2.symm
      obtain rfl : (.bool true) = x17_ := by obtain ⟨z, h1, h2⟩ := hv 17 _ rfl; cases h1; exact h2.symm
      obtain rfl : (.bool true) = x18_ := by obtain ⟨z, h1, h2⟩ := hv 18 _ rfl; cases h1; exact h2.symm
      obtain rfl : (.bool true) = x19_ := by obtain ⟨z, h1, h2⟩ := hv 19 _ rfl; cases h1; exact h2.symm
      obtain rfl : (.bool true) = x20_ := by obtain ⟨z, h1, h2⟩ := hv 20 _ rfl; cases h1; exact h2.symm
      obtain rfl : (.bool true) = x21_ := by obtain ⟨z, h1, h2⟩ := hv 21 _ rfl; cases h1; exact h2.symm
      intro L hall hG
      clear hv hlen
      have HW := Lib.hid hG
      clear hG hall
      simp only [fill, if_true]
    --END
      simp [Act.put]
      go_wp2_with (fail)
      go_ret
      exact ⟨rfl, HB7.out.trans (HW.out.mono HB7.out.size)⟩
end Go.Proofs.Ytegamhjfloebgaa
