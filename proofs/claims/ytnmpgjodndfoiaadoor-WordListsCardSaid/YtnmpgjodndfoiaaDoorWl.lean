/-
  The law WordLists: its walk.
-/
import Derived.Test.YtnmpgjodndfoiaaDoorWs
namespace Go.Proofs.YtnmpgjodndfoiaaDoor
open Go.RowKit

theorem lists_big (p q : Option Addr) (n c m d : Nat) (w : World) (hn : n ≤ maxLen) (hm : m ≤ maxLen) (h : 1000 < n ∨ 1000 < m) (hT : Tab16 w) :
    Calls Tryd.prog 7 #[.slice p n c, .slice q m d] w fun e w' => e = .returned (.bool true) ∧ Below w.heap.size w w' := by
  unfold maxLen at hn hm
  have HT := Lib.hid hT
  clear hT
  by_cases hc : 1000 < n
  · have h1 : (1000 : Int) < (n : Int) := by omega
    go_enter Tryd.func7, Tryd.ntmps7
    go_wp2_with (go_at_call 11; refine (known_any _ HT.out).mono ?_; rintro e w7 ⟨rfl, hk⟩; have HK := Lib.hid hk; clear hk)
    go_ret
    exact ⟨rfl, HK.out⟩
  · have h1 : ¬ (1000 : Int) < (n : Int) := by omega
    have h2 : (1000 : Int) < (m : Int) := by omega
    clear h
    go_enter Tryd.func7, Tryd.ntmps7
    go_wp2_with (go_at_call 11; refine (known_any _ HT.out).mono ?_; rintro e w7 ⟨rfl, hk⟩; have HK := Lib.hid hk; clear hk)
    go_ret
    exact ⟨rfl, HK.out⟩

def RowB (M : List UInt8) (v : Value) (W : World) : Prop := ∃ p c, v = .slice p M.length c ∧ BAt W p M
theorem rowB_stays (M : List UInt8) : Stays (RowB M) := fun _ _ _ ⟨p, c, e, h⟩ hB => ⟨p, c, e, h.below hB⟩
def ps8 (M : List UInt8) (n : Nat) (q9 q : Option Addr) (d9 d : Nat) : List (Value → World → Prop) :=
  [Is (.slice q9 M.length d9), Is (.string ⟨M.toArray⟩), Is (.slice q n d), RowB M, Is (.string ⟨M.toArray⟩), Is (.bool false)]
theorem ps8_stays (M : List UInt8) (n : Nat) (q9 q : Option Addr) (d9 d : Nat) : ∀ p ∈ ps8 M n q9 q d9 d, Stays p := by
  simp only [ps8, List.forall_mem_cons]
  exact ⟨is_stays _, is_stays _, is_stays _, rowB_stays _, is_stays _, is_stays _, by simp⟩
def ps11 (L : List UInt8) (X : List Int) (n : Nat) (er : Int) (q10 q q1 p : Option Addr) (d10 d d1 c : Nat) : List (Value → World → Prop) :=
  [Is (.slice q10 n d10), Is (.slice q n d), Is (.bool true), Is (.bool false), Is (.bool false), Is (.int .i64 0), Is (.bool false), Is (.bool false), Is (.bool false), Is (.int .i64 er), Is (.bool (er == 0)), Is (.bool (er == 0)),
   fun v _ => er = 0 → v = .slice q1 X.length d1, fun v W => er = 0 → RowB (bytesW X) v W, fun v _ => er = 0 → v = .string ⟨L.toArray⟩, fun v _ => er = 0 → v = .slice p L.length c, fun v _ => er = 0 → v = .string ⟨L.toArray⟩, fun v _ => er = 0 → v = .bool false, Is (.bool false), Is (.bool false)]
theorem ps11_stays (L : List UInt8) (X : List Int) (n : Nat) (er : Int) (q10 q q1 p : Option Addr) (d10 d d1 c : Nat) : ∀ x ∈ ps11 L X n er q10 q q1 p d10 d d1 c, Stays x := by
  simp only [ps11, List.forall_mem_cons]
  exact ⟨is_stays _, is_stays _, is_stays _, is_stays _, is_stays _, is_stays _, is_stays _, is_stays _, is_stays _, is_stays _, is_stays _, is_stays _, fun _ _ _ h _ => h, fun _ _ _ h hB h0 => rowB_stays _ _ _ _ (h h0) hB, fun _ _ _ h _ => h, fun _ _ _ h _ => h, fun _ _ _ h _ => h, fun _ _ _ h _ => h, is_stays _, is_stays _, by simp⟩
theorem if_yes {b : Bool} {A B : Prop} (h : b = true) (ha : A) : if b = true then A else B := by rw [if_pos h]; exact ha
theorem if_no {b : Bool} {A B : Prop} (h : b = false) (hb : B) : if b = true then A else B := by rw [if_neg (by rw [h]; decide)]; exact hb
def WordsOf (L : List UInt8) (c : Nat) (f : FuncId) (p : Option Addr) (X : List Int) (er : Int) (w0 : World) : Prop :=
  ∀ w, Below w0.heap.size w0 w → Calls Tryd.prog f #[.slice p L.length c] w fun e w' => ∃ q k d, e = .returned (.tuple #[.slice q k d, .int .i64 er]) ∧ w'.ownsRow w.heap.size 22 1 (.slice q k d) X.length (X.map (Value.int .u64)) ∧ Below w.heap.size w w'

set_option maxRecDepth 100000 in
set_option maxHeartbeats 4000000 in
theorem lists_in (p q : Option Addr) (c d : Nat) (L : List UInt8) (l : List Int) (w : World) (hL : L.length ≤ 1000) (hl : l.length ≤ 1000) (hu : U64s l) (hb : BAt w p L) (hr : RowAt w (.slice q l.length d) l) (hT : Tab16 w)
    (X : List Int) (er : Int) (hX : X.length ≤ 1000) (hXu : U64s X) (he : er = 2 ∨ (er = 0 ∧ bytesW X = L)) (hW : WordsOf L c 21 p X er w) (hR : WordsOf L c 22 p X er w) :
    Calls Tryd.prog 7 #[.slice p L.length c, .slice q l.length d] w fun e w' => e = .returned (.bool true) ∧ Below w.heap.size w w' := by
  have h1 : ¬ (1000 : Int) < (L.length : Int) := by omega
  have h2 : ¬ (1000 : Int) < (l.length : Int) := by omega
  have HT := Lib.hid hT
  have HR := Lib.hid hr
  have HL := Lib.hid hb
  have HU := Lib.hid hu
  have HXu := Lib.hid hXu
  have hxb : er = 0 → bytesW X = L := by
    intro h
    rcases he with h2 | h2
    · omega
    · exact h2.2
  have HXB := Lib.hid hxb
  clear hxb
  have HW := Lib.hid hW
  have HRW := Lib.hid hR
  have ee : (er != er) = false := by simp
  clear hT hr hb hu hXu he hW hR
  go_enter Tryd.func7, Tryd.ntmps7
  go_wp2_with (fail)
  refine (HW.out _ (Below.refl _ _)).mono ?_
  rintro e w1 ⟨q1, k1, d1, rfl, ho1, hB1⟩
  have hk1 : k1 = X.length := own_len ho1
  subst hk1
  have HO1 := Lib.hid ho1
  have HB1 := Lib.hid hB1
  clear ho1 hB1
  go_wp2_with (fail)
  refine (HRW.out _ HB1.out).mono ?_
  rintro e w2 ⟨q2, k2, d2, rfl, ho2, hB2⟩
  have HR2 := Lib.hid (RowAt.of_own ho2)
  have HR1 := Lib.hid ((RowAt.of_own HO1.out).below hB2)
  have HB2 := Lib.hid (HB1.out.trans (hB2.mono HB1.out.size))
  clear ho2 hB2 HO1 HB1
  go_wp2_with (fail)
  refine (same_true X X _ _ _ hX HR1.out HR2.out rfl).mono ?_
  rintro e w3 ⟨rfl, n3, rfl⟩
  have HB3 := Lib.hid (below_drewN HB2.out n3)
  have HR3 := Lib.hid (show RowAt (w2.drewN n3) (.slice q1 X.length d1) X from HR1.out)
  obtain ⟨w3, hw3⟩ : ∃ w3, w3 = w2.drewN n3 := ⟨_, rfl⟩
  rw [← hw3] at HB3 HR3 ⊢
  clear hw3 HB2 HR1 HR2
  go_wp2_with (fail)
  refine (wbytes_r l q d (by omega) HU.out _ (HR.out.below HB3.out)).mono ?_
  rintro e w4 ⟨v9, rfl, ho4, hB4⟩
  obtain ⟨q9, k9, d9, rfl⟩ := own_slice ho4
  have HM9 := Lib.hid (show BAt w4 q9 (bytesW l) from BAt.of_own ho4)
  have hk9 : k9 = (bytesW l).length := own_len ho4
  have HO9 := Lib.hid ho4
  have HR4 := Lib.hid (HR3.out.below hB4)
  have HB4 := Lib.hid (HB3.out.trans (hB4.mono HB3.out.size))
  have hs4 := HB3.out.size
  clear ho4 hB4 HR3 HB3
  subst hk9
  obtain ⟨M, hM⟩ : ∃ M, bytesW l = M := ⟨_, rfl⟩
  have hMl : M.length = 8 * l.length := by rw [← hM, bytesW_len]
  rw [hM] at HM9 HO9 ⊢
  have HM := Lib.hid hM
  have HMl := Lib.hid hMl
  have HD9 := Lib.hid (show M.length ≤ d9 from by
    by_cases h0 : 0 < M.length
    · obtain ⟨g, cap, e, _, _, hc, _⟩ := own_shape HO9.out h0
      cases e
      exact hc
    · omega)
  clear hM hMl
  go_wp2_with (fail)
  refine wp_region_inv (fun L' a' W' => ∃ v45 v46 v47 v48 v49 v50, a' = { tmps := #[Value.slice p L.length c, Value.slice q l.length d, undef, undef, Value.bool false, Value.slice q1 X.length d1, Value.int IntKind.i64 er, Value.slice q2 k2 d2, Value.int IntKind.i64 er, Value.slice q9 M.length d9, undef, undef, undef, undef, undef, Value.slice p L.length c, Value.int IntKind.i64 ↑L.length, Value.bool false, Value.bool false, Value.slice q l.length d, Value.int IntKind.i64 ↑l.length, Value.bool false, Value.bool false, undef, Value.tuple #[Value.slice q1 X.length d1, Value.int IntKind.i64 er], Value.slice p L.length c, Value.tuple #[Value.slice q1 X.length d1, Value.int IntKind.i64 er], Value.slice q1 X.length d1, Value.int IntKind.i64 er, Value.tuple #[Value.slice q2 k2 d2, Value.int IntKind.i64 er], Value.slice p L.length c, Value.tuple #[Value.slice q2 k2 d2, Value.int IntKind.i64 er], Value.slice q2 k2 d2, Value.int IntKind.i64 er, Value.slice q1 X.length d1, Value.slice q2 k2 d2, Value.bool true, Value.bool false, Value.bool false, Value.int IntKind.i64 er, Value.int IntKind.i64 er, Value.bool false, Value.bool false, Value.slice q l.length d, Value.slice q9 M.length d9, v45, v46, v47, v48, v49, v50, undef, undef, undef, undef, undef, undef, undef, undef, undef, undef, undef, undef, undef, undef, undef, undef, undef, undef, undef, undef, undef, undef, undef, undef, undef, undef, undef, undef, undef, undef, undef, undef, undef, undef, undef, undef, undef, undef, undef, undef, undef, undef, undef, undef, undef, undef, undef, undef, undef, undef, undef, undef, undef, undef], defers := [] } ∧ Vals L' W' 0 (ps8 M l.length q9 q d9 d) [v45, v46, v47, v48, v49, v50] ∧ Below w4.heap.size w4 W') (by kernel_rfl) (by kernel_rfl) (by kernel_rfl) ?h0 ⟨?o0, ?o1, ?o2, ?o3, ?o4, ?o5, trivial⟩ ?he
  case h0 => exact ⟨undef, undef, undef, undef, undef, undef, rfl, Vals.none _ _ _ rfl, (Below.refl _ _).drew⟩
  case o0 =>
    rintro L' a' W' ⟨v45, v46, v47, v48, v49, v50, rfl, hV, hB⟩ hL' hd K hK
    have HV := Lib.hid (hV.set 0 (.slice q9 M.length d9) rfl rfl)
    have HK := Lib.hid hK
    have HB := Lib.hid hB
    clear hV hd hK hB
    go_wp2
    exact HK.out _ _ ⟨_, _, _, _, _, _, rfl, HV.out, HB.out⟩
  case o1 =>
    rintro L' a' W' ⟨v45, v46, v47, v48, v49, v50, rfl, hV, hB⟩ hL' hd K hK
    have e0 := hV.get 0 rfl rfl (deps_of' hd 0 (by kernel_rfl))
    have HV := Lib.hid (hV.set 1 (.string ⟨M.toArray⟩) rfl rfl)
    have HK := Lib.hid hK
    have hcv := conv_at (c := d9) (HM9.out.below hB)
    have HB := Lib.hid hB
    clear hV hd hK hB
    unfold Is at e0
    subst e0
    go_wp2
    exact HK.out _ _ ⟨_, _, _, _, _, _, rfl, HV.out, HB.out⟩
  case o2 =>
    rintro L' a' W' ⟨v45, v46, v47, v48, v49, v50, rfl, hV, hB⟩ hL' hd K hK
    have HV := Lib.hid (hV.set 2 (.slice q l.length d) rfl rfl)
    have HK := Lib.hid hK
    have HB := Lib.hid hB
    clear hV hd hK hB
    go_wp2
    exact HK.out _ _ ⟨_, _, _, _, _, _, rfl, HV.out, HB.out⟩
  case o3 =>
    rintro L' a' W' ⟨v45, v46, v47, v48, v49, v50, rfl, hV, hB⟩ hL' hd K hK
    have e2 := hV.get 2 rfl rfl (deps_of' hd 2 (by kernel_rfl))
    have HV := Lib.hid hV
    have HK := Lib.hid hK
    have HB := Lib.hid hB
    clear hV hd hK hB
    unfold Is at e2
    subst e2
    go_wp2_with (fail)
    refine (rbytes_r l q d (by omega) HU.out _ (HR.out.below (HB4.out.trans (HB.out.mono HB4.out.size)))).mono ?_
    rintro e W2 ⟨v, rfl, ho, hB2⟩
    obtain ⟨a2, n2, c2, rfl⟩ := own_slice ho
    have hn2 : n2 = M.length := by have := own_len ho; rw [HM.out] at this; exact this
    subst hn2
    rw [HM.out] at ho
    have hV2 := (HV.out.up hB2 (ps8_stays _ _ _ _ _ _)).set 3 (.slice a2 M.length c2) rfl ⟨_, _, rfl, BAt.of_own ho⟩
    exact HK.out _ _ ⟨_, _, _, _, _, _, rfl, hV2, HB.out.trans (hB2.mono HB.out.size)⟩
  case o4 =>
    rintro L' a' W' ⟨v45, v46, v47, v48, v49, v50, rfl, hV, hB⟩ hL' hd K hK
    obtain ⟨a2, c2, e3, hb3⟩ := hV.get 3 rfl rfl (deps_of' hd 3 (by kernel_rfl))
    have HV := Lib.hid (hV.set 4 (.string ⟨M.toArray⟩) rfl rfl)
    have HK := Lib.hid hK
    have hcv := conv_at (c := c2) hb3
    have HB := Lib.hid hB
    clear hV hd hK hB
    subst e3
    go_wp2
    exact HK.out _ _ ⟨_, _, _, _, _, _, rfl, HV.out, HB.out⟩
  case o5 =>
    rintro L' a' W' ⟨v45, v46, v47, v48, v49, v50, rfl, hV, hB⟩ hL' hd K hK
    have e1 := hV.get 1 rfl rfl (deps_of' hd 1 (by kernel_rfl))
    have e4 := hV.get 4 rfl rfl (deps_of' hd 4 (by kernel_rfl))
    have HV := Lib.hid (hV.set 5 (.bool false) rfl rfl)
    have HK := Lib.hid hK
    have HB := Lib.hid hB
    clear hV hd hK hB
    unfold Is at e1 e4
    subst e1
    subst e4
    go_wp2
    exact HK.out _ _ ⟨_, _, _, _, _, _, rfl, HV.out, HB.out⟩
  case he =>
    rintro L' a' W' ⟨v45, v46, v47, v48, v49, v50, rfl, hV, hB⟩ hall
    have e5 := hV.get 5 rfl rfl (hall 5 (by decide))
    unfold Is at e5
    subst e5
    have HB5 := Lib.hid (HB4.out.trans (hB.mono HB4.out.size))
    have HM5 := Lib.hid (HM9.out.below hB)
    have HO5 := Lib.hid (own_below HO9.out hB)
    have HR5 := Lib.hid (HR4.out.below hB)
    clear hV hB hall HB4 HM9 HO9 HR4
    obtain ⟨w5, hw5⟩ : ∃ w5, w5 = W' := ⟨_, rfl⟩
    rw [← hw5] at HB5 HM5 HO5 HR5 ⊢
    clear hw5
    go_wp2_with (fail)
    refine (words_yes M q9 d9 w5 (by rw [HMl.out]; omega) (by rw [HMl.out]; omega) HD9.out HM5.out).mono ?_
    rintro e w6 ⟨q10, k10, d10, rfl, ho6, hB6⟩
    have hwl : wordsL M = l := by rw [← HM.out]; exact wordsL_bytes l HU.out
    rw [hwl] at ho6
    have hk10 : k10 = l.length := own_len ho6
    subst hk10
    have HO6 := Lib.hid ho6
    have HS6 := Lib.hid HB5.out.size
    have HG9 := Lib.hid (show 0 < M.length → ∃ g, q9 = some ⟨g, 0, none⟩ ∧ w.heap.size ≤ g ∧ g < w5.heap.size from fun h0 => by
      obtain ⟨g, cap, e, hg1, hg2, _⟩ := own_shape HO5.out h0
      cases e
      exact ⟨g, rfl, Nat.le_trans hs4 hg1, hg2⟩)
    have HO9 := Lib.hid (own_below HO5.out hB6)
    have HR6 := Lib.hid (HR5.out.below hB6)
    have HB6 := Lib.hid (HB5.out.trans (hB6.mono HB5.out.size))
    clear ho6 hB6 hwl HB5 HM5 HO5 HR5
    go_wp2_with (fail)
    refine wp_region_invG (fun L' a' W' => ∃ v56 v57 v58 v59 v60 v61 v62 v63 v64 v65 v66 v67 v68 v69 v70 v71 v72 v73 v74 v75, a' = { tmps := #[Value.slice p L.length c, Value.slice q l.length d, undef, undef, Value.bool false, Value.slice q1 X.length d1, Value.int IntKind.i64 er, Value.slice q2 k2 d2, Value.int IntKind.i64 er, Value.slice q9 M.length d9, Value.slice q10 l.length d10, Value.int IntKind.i64 0, undef, undef, undef, Value.slice p L.length c, Value.int IntKind.i64 ↑L.length, Value.bool false, Value.bool false, Value.slice q l.length d, Value.int IntKind.i64 ↑l.length, Value.bool false, Value.bool false, undef, Value.tuple #[Value.slice q1 X.length d1, Value.int IntKind.i64 er], Value.slice p L.length c, Value.tuple #[Value.slice q1 X.length d1, Value.int IntKind.i64 er], Value.slice q1 X.length d1, Value.int IntKind.i64 er, Value.tuple #[Value.slice q2 k2 d2, Value.int IntKind.i64 er], Value.slice p L.length c, Value.tuple #[Value.slice q2 k2 d2, Value.int IntKind.i64 er], Value.slice q2 k2 d2, Value.int IntKind.i64 er, Value.slice q1 X.length d1, Value.slice q2 k2 d2, Value.bool true, Value.bool false, Value.bool false, Value.int IntKind.i64 er, Value.int IntKind.i64 er, Value.bool false, Value.bool false, Value.slice q l.length d, Value.slice q9 M.length d9, v45, v46, v47, v48, v49, Value.bool false, Value.tuple #[Value.slice q10 l.length d10, Value.int IntKind.i64 0], Value.slice q9 M.length d9, Value.tuple #[Value.slice q10 l.length d10, Value.int IntKind.i64 0], Value.slice q10 l.length d10, Value.int IntKind.i64 0, v56, v57, v58, v59, v60, v61, v62, v63, v64, v65, v66, v67, v68, v69, v70, v71, v72, v73, v74, v75, undef, undef, undef, undef, undef, undef, undef, undef, undef, undef, undef, undef, undef, undef, undef, undef, undef, undef, undef, undef, undef, undef, undef, undef, undef, undef, undef, undef, undef], defers := [] } ∧ Vals L' W' 0 (ps11 L X l.length er q10 q q1 p d10 d d1 c) [v56, v57, v58, v59, v60, v61, v62, v63, v64, v65, v66, v67, v68, v69, v70, v71, v72, v73, v74, v75] ∧ Below w6.heap.size w6 W') (by kernel_rfl) (by kernel_rfl) ?h0 ⟨?o0, ?o1, ?o2, ?o3, ?o4, ?o5, ?o6, ?o7, ?o8, ?o9, ?o10, ?o11, ?o12, ?o13, ?o14, ?o15, ?o16, ?o17, ?o18, ?o19, trivial⟩ ?he
    case h0 => exact ⟨undef, undef, undef, undef, undef, undef, undef, undef, undef, undef, undef, undef, undef, undef, undef, undef, undef, undef, undef, undef, rfl, Vals.none _ _ _ rfl, (Below.refl _ _).drew⟩
    case o0 =>
      rintro L' a' W' ⟨v56, v57, v58, v59, v60, v61, v62, v63, v64, v65, v66, v67, v68, v69, v70, v71, v72, v73, v74, v75, rfl, hV, hB⟩ hL' hd K hK
      have HV := Lib.hid (hV.set 0 (.slice q10 l.length d10) rfl rfl)
      have HK := Lib.hid hK
      have HB := Lib.hid hB
      clear hV hd hK hB
      refine if_yes rfl ?_
      go_wp2
      exact HK.out _ _ ⟨_, _, _, _, _, _, _, _, _, _, _, _, _, _, _, _, _, _, _, _, rfl, HV.out, HB.out⟩
    case o1 =>
      rintro L' a' W' ⟨v56, v57, v58, v59, v60, v61, v62, v63, v64, v65, v66, v67, v68, v69, v70, v71, v72, v73, v74, v75, rfl, hV, hB⟩ hL' hd K hK
      have HV := Lib.hid (hV.set 1 (.slice q l.length d) rfl rfl)
      have HK := Lib.hid hK
      have HB := Lib.hid hB
      clear hV hd hK hB
      refine if_yes rfl ?_
      go_wp2
      exact HK.out _ _ ⟨_, _, _, _, _, _, _, _, _, _, _, _, _, _, _, _, _, _, _, _, rfl, HV.out, HB.out⟩
    case o2 =>
      rintro L' a' W' ⟨v56, v57, v58, v59, v60, v61, v62, v63, v64, v65, v66, v67, v68, v69, v70, v71, v72, v73, v74, v75, rfl, hV, hB⟩ hL' hd K hK
      have e0 := hV.get 0 rfl rfl (deps_of' hd 0 (by kernel_rfl))
      have e1 := hV.get 1 rfl rfl (deps_of' hd 1 (by kernel_rfl))
      have HV := Lib.hid hV
      have HK := Lib.hid hK
      have HB := Lib.hid hB
      clear hV hd hK hB
      unfold Is at e0 e1
      subst e0
      subst e1
      refine if_yes rfl ?_
      go_wp2_with (fail)
      refine (same_true l l _ _ _ hl ((RowAt.of_own HO6.out).below HB.out) (HR.out.below (HB6.out.trans (HB.out.mono HB6.out.size))) rfl).mono ?_
      rintro e W2 ⟨rfl, n2, rfl⟩
      have hB2 : Below W'.heap.size W' (W'.drewN n2) := below_drewN (Below.refl _ _) n2
      have hV2 := (HV.out.up hB2 (ps11_stays _ _ _ _ _ _ _ _ _ _ _ _)).set 2 (.bool true) rfl rfl
      exact HK.out _ _ ⟨_, _, _, _, _, _, _, _, _, _, _, _, _, _, _, _, _, _, _, _, rfl, hV2, HB.out.trans (hB2.mono HB.out.size)⟩
    case o3 =>
      rintro L' a' W' ⟨v56, v57, v58, v59, v60, v61, v62, v63, v64, v65, v66, v67, v68, v69, v70, v71, v72, v73, v74, v75, rfl, hV, hB⟩ hL' hd K hK
      have e2 := hV.get 2 rfl rfl (deps_of' hd 2 (by kernel_rfl))
      have HV := Lib.hid (hV.set 3 (.bool false) rfl rfl)
      have HK := Lib.hid hK
      have HB := Lib.hid hB
      clear hV hd hK hB
      unfold Is at e2
      subst e2
      refine if_yes rfl ?_
      go_wp2
      exact HK.out _ _ ⟨_, _, _, _, _, _, _, _, _, _, _, _, _, _, _, _, _, _, _, _, rfl, HV.out, HB.out⟩
    case o4 =>
      rintro L' a' W' ⟨v56, v57, v58, v59, v60, v61, v62, v63, v64, v65, v66, v67, v68, v69, v70, v71, v72, v73, v74, v75, rfl, hV, hB⟩ hL' hd K hK
      have e3 := hV.get 3 rfl rfl (deps_of' hd 3 (by kernel_rfl))
      have HV := Lib.hid (hV.set 4 (.bool false) rfl rfl)
      have HK := Lib.hid hK
      have HB := Lib.hid hB
      clear hV hd hK hB
      unfold Is at e3
      subst e3
      refine if_yes rfl ?_
      go_wp2
      exact HK.out _ _ ⟨_, _, _, _, _, _, _, _, _, _, _, _, _, _, _, _, _, _, _, _, rfl, HV.out, HB.out⟩
    case o5 =>
      rintro L' a' W' ⟨v56, v57, v58, v59, v60, v61, v62, v63, v64, v65, v66, v67, v68, v69, v70, v71, v72, v73, v74, v75, rfl, hV, hB⟩ hL' hd K hK
      have e4 := hV.get 4 rfl rfl (deps_of' hd 4 (by kernel_rfl))
      have HV := Lib.hid (hV.set 5 (.int .i64 0) rfl rfl)
      have HK := Lib.hid hK
      have HB := Lib.hid hB
      clear hV hd hK hB
      unfold Is at e4
      subst e4
      refine if_yes rfl ?_
      go_wp2
      exact HK.out _ _ ⟨_, _, _, _, _, _, _, _, _, _, _, _, _, _, _, _, _, _, _, _, rfl, HV.out, HB.out⟩
    case o6 =>
      rintro L' a' W' ⟨v56, v57, v58, v59, v60, v61, v62, v63, v64, v65, v66, v67, v68, v69, v70, v71, v72, v73, v74, v75, rfl, hV, hB⟩ hL' hd K hK
      have e5 := hV.get 5 rfl rfl (deps_of' hd 5 (by kernel_rfl))
      have e4 := hV.get 4 rfl rfl (deps_of' hd 4 (by kernel_rfl))
      have HV := Lib.hid (hV.set 6 (.bool false) rfl rfl)
      have HK := Lib.hid hK
      have HB := Lib.hid hB
      clear hV hd hK hB
      unfold Is at e5
      subst e5
      unfold Is at e4
      subst e4
      refine if_yes rfl ?_
      go_wp2
      exact HK.out _ _ ⟨_, _, _, _, _, _, _, _, _, _, _, _, _, _, _, _, _, _, _, _, rfl, HV.out, HB.out⟩
    case o7 =>
      rintro L' a' W' ⟨v56, v57, v58, v59, v60, v61, v62, v63, v64, v65, v66, v67, v68, v69, v70, v71, v72, v73, v74, v75, rfl, hV, hB⟩ hL' hd K hK
      have e4 := hV.get 4 rfl rfl (deps_of' hd 4 (by kernel_rfl))
      have e6 := hV.get 6 rfl rfl (deps_of' hd 6 (by kernel_rfl))
      have HV := Lib.hid (hV.set 7 (.bool false) rfl rfl)
      have HK := Lib.hid hK
      have HB := Lib.hid hB
      clear hV hd hK hB
      unfold Is at e4
      subst e4
      unfold Is at e6
      subst e6
      refine if_yes rfl ?_
      go_wp2
      exact HK.out _ _ ⟨_, _, _, _, _, _, _, _, _, _, _, _, _, _, _, _, _, _, _, _, rfl, HV.out, HB.out⟩
    case o8 =>
      rintro L' a' W' ⟨v56, v57, v58, v59, v60, v61, v62, v63, v64, v65, v66, v67, v68, v69, v70, v71, v72, v73, v74, v75, rfl, hV, hB⟩ hL' hd K hK
      have e7 := hV.get 7 rfl rfl (deps_of' hd 7 (by kernel_rfl))
      have HV := Lib.hid (hV.set 8 (.bool false) rfl rfl)
      have HK := Lib.hid hK
      have HB := Lib.hid hB
      clear hV hd hK hB
      unfold Is at e7
      subst e7
      refine if_yes rfl ?_
      go_wp2
      exact HK.out _ _ ⟨_, _, _, _, _, _, _, _, _, _, _, _, _, _, _, _, _, _, _, _, rfl, HV.out, HB.out⟩
    case o9 =>
      rintro L' a' W' ⟨v56, v57, v58, v59, v60, v61, v62, v63, v64, v65, v66, v67, v68, v69, v70, v71, v72, v73, v74, v75, rfl, hV, hB⟩ hL' hd K hK
      have e8 := hV.get 8 rfl rfl (deps_of' hd 8 (by kernel_rfl))
      have HV := Lib.hid (hV.set 9 (.int .i64 er) rfl rfl)
      have HK := Lib.hid hK
      have HB := Lib.hid hB
      clear hV hd hK hB
      unfold Is at e8
      subst e8
      refine if_yes rfl ?_
      go_wp2
      exact HK.out _ _ ⟨_, _, _, _, _, _, _, _, _, _, _, _, _, _, _, _, _, _, _, _, rfl, HV.out, HB.out⟩
    case o10 =>
      rintro L' a' W' ⟨v56, v57, v58, v59, v60, v61, v62, v63, v64, v65, v66, v67, v68, v69, v70, v71, v72, v73, v74, v75, rfl, hV, hB⟩ hL' hd K hK
      have e9 := hV.get 9 rfl rfl (deps_of' hd 9 (by kernel_rfl))
      have e8 := hV.get 8 rfl rfl (deps_of' hd 8 (by kernel_rfl))
      have HV := Lib.hid (hV.set 10 (.bool (er == 0)) rfl rfl)
      have HK := Lib.hid hK
      have HB := Lib.hid hB
      clear hV hd hK hB
      unfold Is at e9
      subst e9
      unfold Is at e8
      subst e8
      refine if_yes rfl ?_
      go_wp2
      exact HK.out _ _ ⟨_, _, _, _, _, _, _, _, _, _, _, _, _, _, _, _, _, _, _, _, rfl, HV.out, HB.out⟩
    case o11 =>
      rintro L' a' W' ⟨v56, v57, v58, v59, v60, v61, v62, v63, v64, v65, v66, v67, v68, v69, v70, v71, v72, v73, v74, v75, rfl, hV, hB⟩ hL' hd K hK
      have e10 := hV.get 10 rfl rfl (deps_of' hd 10 (by kernel_rfl))
      have e8 := hV.get 8 rfl rfl (deps_of' hd 8 (by kernel_rfl))
      have HV := Lib.hid (hV.set 11 (.bool (er == 0)) rfl rfl)
      have HK := Lib.hid hK
      have HB := Lib.hid hB
      clear hV hd hK hB
      unfold Is at e10
      subst e10
      unfold Is at e8
      subst e8
      refine if_yes rfl ?_
      go_wp2
      exact HK.out _ _ ⟨_, _, _, _, _, _, _, _, _, _, _, _, _, _, _, _, _, _, _, _, rfl, HV.out, HB.out⟩
    case o12 =>
      rintro L' a' W' ⟨v56, v57, v58, v59, v60, v61, v62, v63, v64, v65, v66, v67, v68, v69, v70, v71, v72, v73, v74, v75, rfl, hV, hB⟩ hL' hd K hK
      have e11 := hV.get 11 rfl rfl (deps_of' hd 11 (by kernel_rfl))
      unfold Is at e11
      by_cases h0 : er = 0
      · rw [show (er == 0) = true by simp [h0]] at e11
        subst e11
        have HV := Lib.hid (hV.set 12 (.slice q1 X.length d1) rfl (fun _ => rfl))
        have HK := Lib.hid hK
        have HB := Lib.hid hB
        clear hV hd hK hB
        clear h0
        refine if_yes rfl ?_
        go_wp2
        exact HK.out _ _ ⟨_, _, _, _, _, _, _, _, _, _, _, _, _, _, _, _, _, _, _, _, rfl, HV.out, HB.out⟩
      · rw [show (er == 0) = false by simp [h0]] at e11
        subst e11
        have hV2 := hV.set 12 undef rfl (fun h => absurd h h0)
        refine if_no rfl ?_
        exact hK _ _ ⟨_, _, _, _, _, _, _, _, _, _, _, _, _, _, _, _, _, _, _, _, rfl, hV2, hB⟩
    case o13 =>
      rintro L' a' W' ⟨v56, v57, v58, v59, v60, v61, v62, v63, v64, v65, v66, v67, v68, v69, v70, v71, v72, v73, v74, v75, rfl, hV, hB⟩ hL' hd K hK
      have e11 := hV.get 11 rfl rfl (deps_of' hd 11 (by kernel_rfl))
      unfold Is at e11
      by_cases h0 : er = 0
      · rw [show (er == 0) = true by simp [h0]] at e11
        subst e11
        have e12 := hV.get 12 rfl rfl (deps_of' hd 12 (by kernel_rfl)) h0
        have HV := Lib.hid hV
        have HK := Lib.hid hK
        have HB := Lib.hid hB
        clear hV hd hK hB
        subst e12
        clear h0
        refine if_yes rfl ?_
        go_wp2_with (fail)
        refine (wbytes_r X q1 d1 (by omega) HXu.out _ (HR6.out.below HB.out)).mono ?_
        rintro e W2 ⟨v, rfl, ho, hB2⟩
        obtain ⟨a2, n2, c2, rfl⟩ := own_slice ho
        have hn2 : n2 = (bytesW X).length := own_len ho
        subst hn2
        have hV2 := (HV.out.up hB2 (ps11_stays _ _ _ _ _ _ _ _ _ _ _ _)).set 13 (.slice a2 (bytesW X).length c2) rfl (fun _ => ⟨_, _, rfl, BAt.of_own ho⟩)
        exact HK.out _ _ ⟨_, _, _, _, _, _, _, _, _, _, _, _, _, _, _, _, _, _, _, _, rfl, hV2, HB.out.trans (hB2.mono HB.out.size)⟩
      · rw [show (er == 0) = false by simp [h0]] at e11
        subst e11
        have hV2 := hV.set 13 undef rfl (fun h => absurd h h0)
        refine if_no rfl ?_
        exact hK _ _ ⟨_, _, _, _, _, _, _, _, _, _, _, _, _, _, _, _, _, _, _, _, rfl, hV2, hB⟩
    case o14 =>
      rintro L' a' W' ⟨v56, v57, v58, v59, v60, v61, v62, v63, v64, v65, v66, v67, v68, v69, v70, v71, v72, v73, v74, v75, rfl, hV, hB⟩ hL' hd K hK
      have e11 := hV.get 11 rfl rfl (deps_of' hd 11 (by kernel_rfl))
      unfold Is at e11
      by_cases h0 : er = 0
      · rw [show (er == 0) = true by simp [h0]] at e11
        subst e11
        have e13 := hV.get 13 rfl rfl (deps_of' hd 13 (by kernel_rfl)) h0
        obtain ⟨a2, c2, e3, hb3⟩ := e13
        rw [HXB.out h0] at e3 hb3
        have HV := Lib.hid (hV.set 14 (.string ⟨L.toArray⟩) rfl (fun _ => rfl))
        have hcv := conv_at (c := c2) hb3
        have HK := Lib.hid hK
        have HB := Lib.hid hB
        clear hV hd hK hB
        subst e3
        clear h0
        refine if_yes rfl ?_
        go_wp2
        exact HK.out _ _ ⟨_, _, _, _, _, _, _, _, _, _, _, _, _, _, _, _, _, _, _, _, rfl, HV.out, HB.out⟩
      · rw [show (er == 0) = false by simp [h0]] at e11
        subst e11
        have hV2 := hV.set 14 undef rfl (fun h => absurd h h0)
        refine if_no rfl ?_
        exact hK _ _ ⟨_, _, _, _, _, _, _, _, _, _, _, _, _, _, _, _, _, _, _, _, rfl, hV2, hB⟩
    case o15 =>
      rintro L' a' W' ⟨v56, v57, v58, v59, v60, v61, v62, v63, v64, v65, v66, v67, v68, v69, v70, v71, v72, v73, v74, v75, rfl, hV, hB⟩ hL' hd K hK
      have e11 := hV.get 11 rfl rfl (deps_of' hd 11 (by kernel_rfl))
      unfold Is at e11
      by_cases h0 : er = 0
      · rw [show (er == 0) = true by simp [h0]] at e11
        subst e11
        have HV := Lib.hid (hV.set 15 (.slice p L.length c) rfl (fun _ => rfl))
        have HK := Lib.hid hK
        have HB := Lib.hid hB
        clear hV hd hK hB
        clear h0
        refine if_yes rfl ?_
        go_wp2
        exact HK.out _ _ ⟨_, _, _, _, _, _, _, _, _, _, _, _, _, _, _, _, _, _, _, _, rfl, HV.out, HB.out⟩
      · rw [show (er == 0) = false by simp [h0]] at e11
        subst e11
        have hV2 := hV.set 15 undef rfl (fun h => absurd h h0)
        refine if_no rfl ?_
        exact hK _ _ ⟨_, _, _, _, _, _, _, _, _, _, _, _, _, _, _, _, _, _, _, _, rfl, hV2, hB⟩
    case o16 =>
      rintro L' a' W' ⟨v56, v57, v58, v59, v60, v61, v62, v63, v64, v65, v66, v67, v68, v69, v70, v71, v72, v73, v74, v75, rfl, hV, hB⟩ hL' hd K hK
      have e11 := hV.get 11 rfl rfl (deps_of' hd 11 (by kernel_rfl))
      unfold Is at e11
      by_cases h0 : er = 0
      · rw [show (er == 0) = true by simp [h0]] at e11
        subst e11
        have e15 := hV.get 15 rfl rfl (deps_of' hd 15 (by kernel_rfl)) h0
        have HV := Lib.hid (hV.set 16 (.string ⟨L.toArray⟩) rfl (fun _ => rfl))
        have hcv := conv_at (c := c) (HL.out.below (HB6.out.trans (hB.mono HB6.out.size)))
        have HK := Lib.hid hK
        have HB := Lib.hid hB
        clear hV hd hK hB
        subst e15
        clear h0
        refine if_yes rfl ?_
        go_wp2
        exact HK.out _ _ ⟨_, _, _, _, _, _, _, _, _, _, _, _, _, _, _, _, _, _, _, _, rfl, HV.out, HB.out⟩
      · rw [show (er == 0) = false by simp [h0]] at e11
        subst e11
        have hV2 := hV.set 16 undef rfl (fun h => absurd h h0)
        refine if_no rfl ?_
        exact hK _ _ ⟨_, _, _, _, _, _, _, _, _, _, _, _, _, _, _, _, _, _, _, _, rfl, hV2, hB⟩
    case o17 =>
      rintro L' a' W' ⟨v56, v57, v58, v59, v60, v61, v62, v63, v64, v65, v66, v67, v68, v69, v70, v71, v72, v73, v74, v75, rfl, hV, hB⟩ hL' hd K hK
      have e11 := hV.get 11 rfl rfl (deps_of' hd 11 (by kernel_rfl))
      unfold Is at e11
      by_cases h0 : er = 0
      · rw [show (er == 0) = true by simp [h0]] at e11
        subst e11
        have e14 := hV.get 14 rfl rfl (deps_of' hd 14 (by kernel_rfl)) h0
        have e16 := hV.get 16 rfl rfl (deps_of' hd 16 (by kernel_rfl)) h0
        have HV := Lib.hid (hV.set 17 (.bool false) rfl (fun _ => rfl))
        have HK := Lib.hid hK
        have HB := Lib.hid hB
        clear hV hd hK hB
        subst e14
        subst e16
        clear h0
        refine if_yes rfl ?_
        go_wp2
        exact HK.out _ _ ⟨_, _, _, _, _, _, _, _, _, _, _, _, _, _, _, _, _, _, _, _, rfl, HV.out, HB.out⟩
      · rw [show (er == 0) = false by simp [h0]] at e11
        subst e11
        have hV2 := hV.set 17 undef rfl (fun h => absurd h h0)
        refine if_no rfl ?_
        exact hK _ _ ⟨_, _, _, _, _, _, _, _, _, _, _, _, _, _, _, _, _, _, _, _, rfl, hV2, hB⟩
    case o18 =>
      rintro L' a' W' ⟨v56, v57, v58, v59, v60, v61, v62, v63, v64, v65, v66, v67, v68, v69, v70, v71, v72, v73, v74, v75, rfl, hV, hB⟩ hL' hd K hK
      have e8 := hV.get 8 rfl rfl (deps_of' hd 8 (by kernel_rfl))
      have e11 := hV.get 11 rfl rfl (deps_of' hd 11 (by kernel_rfl))
      have e17 := hV.get 17 rfl rfl (deps_of' hd 17 (by kernel_rfl))
      have HV := Lib.hid (hV.set 18 (.bool false) rfl rfl)
      have HK := Lib.hid hK
      have HB := Lib.hid hB
      clear hV hd hK hB
      unfold Is at e8 e11
      subst e8
      by_cases h0 : er = 0
      · rw [show (er == 0) = true by simp [h0]] at e11
        subst e11
        have e17' := e17 h0
        clear e17 h0
        refine if_yes rfl ?_
        subst e17'
        go_wp2
        exact HK.out _ _ ⟨_, _, _, _, _, _, _, _, _, _, _, _, _, _, _, _, _, _, _, _, rfl, HV.out, HB.out⟩
      · rw [show (er == 0) = false by simp [h0]] at e11
        subst e11
        clear h0
        refine if_yes rfl ?_
        clear e17
        go_wp2
        exact HK.out _ _ ⟨_, _, _, _, _, _, _, _, _, _, _, _, _, _, _, _, _, _, _, _, rfl, HV.out, HB.out⟩
    case o19 =>
      rintro L' a' W' ⟨v56, v57, v58, v59, v60, v61, v62, v63, v64, v65, v66, v67, v68, v69, v70, v71, v72, v73, v74, v75, rfl, hV, hB⟩ hL' hd K hK
      have e8 := hV.get 8 rfl rfl (deps_of' hd 8 (by kernel_rfl))
      have e18 := hV.get 18 rfl rfl (deps_of' hd 18 (by kernel_rfl))
      have HV := Lib.hid (hV.set 19 (.bool false) rfl rfl)
      have HK := Lib.hid hK
      have HB := Lib.hid hB
      clear hV hd hK hB
      unfold Is at e8
      subst e8
      unfold Is at e18
      subst e18
      refine if_yes rfl ?_
      go_wp2
      exact HK.out _ _ ⟨_, _, _, _, _, _, _, _, _, _, _, _, _, _, _, _, _, _, _, _, rfl, HV.out, HB.out⟩
    case he =>
      rintro L' a' W' ⟨v56, v57, v58, v59, v60, v61, v62, v63, v64, v65, v66, v67, v68, v69, v70, v71, v72, v73, v74, v75, rfl, hV, hB⟩ hall
      have e19 := hV.get 19 rfl rfl (hall 19 (by decide))
      unfold Is at e19
      subst e19
      have HB7 := Lib.hid (HB6.out.trans (hB.mono HB6.out.size))
      have HO7 := Lib.hid (own_below HO6.out hB)
      have HO97 := Lib.hid (own_below HO9.out hB)
      clear hV hB hall HB6 HO6 HO9
      go_wp2_with (fail)
      have HC := Lib.hid (show ∀ g, q9 = some ⟨g, 0, none⟩ → ∃ C, Blk W' g C 5 ∧ ∀ i, i < M.length → ∃ z : Int, C[i]? = some (.int .u8 z) from by
        rintro g rfl
        obtain ⟨_, ⟨e, _⟩ | ⟨g', cap, cur, e, _, hh, _, _, _, ht⟩⟩ := HO97.out
        · cases e
        · cases e
          refine ⟨cur, hh, fun i hi => ⟨((M.getD i 0).toNat : Int), ?_⟩⟩
          have e1 : (cur.toList.take M.length)[i]? = (bvals M)[i]? := by rw [← ht]; simp
          rw [List.getElem?_take_of_lt hi] at e1
          simpa [bvals, hi] using e1)
      have HLb := Lib.hid (show (M.length : Int) ≤ 8000 by have := HMl.out; omega)
      obtain ⟨w7, hw7⟩ : ∃ w7, w7 = W' := ⟨_, rfl⟩
      rw [← hw7] at HB7 HO7 HC ⊢
      clear hw7 HO97
      go_loopw [12] (fun iv wr => ∃ k : Nat, k ≤ M.length ∧ iv = .int .i64 k ∧ Hid (Below w.heap.size w wr) ∧ Hid (wr.ownsRow w5.heap.size 22 1 (.slice q10 l.length d10) l.length (l.map (Value.int .u64))) ∧ Hid (∀ g, q9 = some ⟨g, 0, none⟩ → ∃ C, Blk wr g C 5 ∧ ∀ i, i < M.length → ∃ z : Int, C[i]? = some (.int .u8 z))) (fun iv _ => M.length - (intOf iv).toNat)
      case atStart => exact ⟨0, by omega, rfl, HB7, HO7, HC⟩
      case round =>
        obtain ⟨k, hk, rfl, HBr, HOr, HCr⟩ := hrel
        by_cases hlt : k < M.length
        · obtain ⟨g, rfl, hg1, hg2⟩ := HG9.out (by omega)
          obtain ⟨C, hBl, hC⟩ := HCr.out g rfl
          obtain ⟨z, hz⟩ := hC k hlt
          have hc := hBl.cell k
          have hf := hBl.frozen k
          rw [hz] at hc
          have b1 : (k : Int) < (M.length : Int) := by omega
          have b2 : (k : Int) ≤ 8000 := by have := HLb.out; omega
          have HBl := Lib.hid hBl
          have HCc := Lib.hid hC
          have HLT := Lib.hid hlt
          have HG := Lib.hid (And.intro hg1 hg2)
          clear hBl hC hz hlt hg1 hg2 hk
          go_wp2_with (fail)
          go_roundw
          case rel =>
            exact ⟨k + 1, HLT.out, by go_num, Lib.hid (HBr.out.setCell (p := ⟨g, k, none⟩) HG.out.1 _), Lib.hid (ownsRow_setCell_below HOr.out (a := ⟨g, k, none⟩) HG.out.2 _), Lib.hid (fun g' e => by
              cases e
              refine ⟨_, HBl.out.set k _, fun i hi => ?_⟩
              rw [Array.getElem?_setIfInBounds]
              split
              · split
                · exact ⟨_, rfl⟩
                · obtain ⟨y, hy⟩ := HCc.out i hi
                  have := (Array.getElem?_eq_some_iff.1 hy).1
                  omega
              · exact HCc.out i hi)⟩
          case measure => have := HLT.out; simp [intOf]; omega
        · have hk2 : k = M.length := by omega
          subst hk2
          clear hlt hk HCr
          go_wp2_with (fail)
          refine (wbytes_r l q d (by omega) HU.out _ (HR.out.below HBr.out)).mono ?_
          rintro e w8 ⟨v89, rfl, ho8, hB8⟩
          obtain ⟨q8, k8, d8, rfl⟩ := own_slice ho8
          have hk8 : k8 = (bytesW l).length := own_len ho8
          subst hk8
          rw [HM.out] at ho8 ⊢
          have HD8 := Lib.hid (show M.length ≤ d8 from by
            by_cases h0 : 0 < M.length
            · obtain ⟨g, cap, e, _, _, hc, _⟩ := own_shape ho8 h0
              cases e
              exact hc
            · omega)
          have HM8 := Lib.hid (show BAt w8 q8 M from BAt.of_own ho8)
          have HO8 := Lib.hid (own_below HOr.out hB8)
          have HB8 := Lib.hid (HBr.out.trans (hB8.mono HBr.out.size))
          clear ho8 hB8 HOr HBr
          go_wp2_with (fail)
          refine (words_yes M q8 d8 w8 (by rw [HMl.out]; omega) (by rw [HMl.out]; omega) HD8.out HM8.out).mono ?_
          rintro e w9 ⟨q11, k11, d11, rfl, ho9, hB9⟩
          have hwl : wordsL M = l := by rw [← HM.out]; exact wordsL_bytes l HU.out
          rw [hwl] at ho9
          have hk11 : k11 = l.length := own_len ho9
          subst hk11
          have HR11 := Lib.hid (RowAt.of_own ho9)
          have HO9 := Lib.hid (own_below HO8.out hB9)
          have HB9 := Lib.hid (HB8.out.trans (hB9.mono HB8.out.size))
          clear ho9 hB9 hwl HO8 HB8
          go_wp2_with (fail)
          refine (same_true l l _ _ _ hl HR11.out (HR.out.below HB9.out) rfl).mono ?_
          rintro e w10 ⟨rfl, n10, rfl⟩
          have HO10 := Lib.hid (own_below HO9.out (below_drewN (Below.refl w9.heap.size w9) n10))
          have HB10 := Lib.hid (below_drewN HB9.out n10)
          obtain ⟨w10, hw10⟩ : ∃ w10, w10 = w9.drewN n10 := ⟨_, rfl⟩
          rw [← hw10] at HB10 HO10 ⊢
          clear HB9 HO9 HR11 hw10
          go_wp2_with (fail)
          refine (same_true l l _ _ _ hl (RowAt.of_own HO10.out) (HR.out.below HB10.out) rfl).mono ?_
          rintro e w11 ⟨rfl, n11, rfl⟩
          have HB11 := Lib.hid (below_drewN HB10.out n11)
          clear HB10 HO10
          go_wp2_with (fail)
          refine (known_any _ (HT.out.below HB11.out)).mono ?_
          rintro e w12 ⟨rfl, hB12⟩
          have HB12 := Lib.hid (HB11.out.trans (hB12.mono HB11.out.size))
          clear hB12
          go_wp2_with (fail)
          go_ret
          exact ⟨rfl, HB12.out⟩
theorem lists_any (p q : Option Addr) (c d : Nat) (L : List UInt8) (l : List Int) (w : World) (hL : L.length ≤ 1000) (hc : L.length ≤ c) (hl : l.length ≤ 1000) (hu : U64s l) (hb : BAt w p L) (hr : RowAt w (.slice q l.length d) l) (hT : Tab16 w) :
    Calls Tryd.prog 7 #[.slice p L.length c, .slice q l.length d] w fun e w' => e = .returned (.bool true) ∧ Below w.heap.size w w' := by
  by_cases h8 : L.length % 8 = 0
  · exact lists_in p q c d L l w hL hl hu hb hr hT (wordsL L) 0 (by rw [wordsL_len]; omega) (wordsL_u64 L (by omega)) (.inr ⟨rfl, bytes_wordsL L h8⟩) (fun w1 hB => words_yes L p c w1 (by omega) h8 hc (hb.below hB)) (fun w1 hB => rwords_yes L p c w1 (by omega) h8 (hb.below hB))
  · refine lists_in p q c d L l w hL hl hu hb hr hT [] 2 (by simp) (fun x hx => by cases hx) (.inl rfl) (fun w1 hB => (words_no p _ c w1 (by omega) h8).mono ?_) (fun w1 hB => (rwords_no p _ c w1 (by omega) h8).mono ?_)
    · rintro e w' ⟨rfl, rfl⟩
      exact ⟨_, _, _, rfl, World.ownsRow_nil _ _ _ _, Below.refl _ _⟩
    · rintro e w' ⟨rfl, rfl⟩
      exact ⟨_, _, _, rfl, World.ownsRow_nil _ _ _ _, Below.refl _ _⟩
end Go.Proofs.YtnmpgjodndfoiaaDoor
