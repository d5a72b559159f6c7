/-
  The document's Unpack: a contract.
-/
import Derived.Test.YtegamhjfloebgaaRb
namespace Go.Proofs.Ytegamhjfloebgaa
open Go.RowKit

/-- the bytes behind a text's end are noughts -/
def zeroFrom (m : List UInt8) (n : Nat) : Prop := ∀ i, n ≤ i → i < m.length → m.getD i 0 = 0
def refOk (x : Int) (t : List Int) : Prop := x ≤ 8 * (t.length : Int) ∧ 8 * (t.length : Int) < x + 8 ∧ zeroFrom (bytesW t) x.toNat
def RunPost (w : World) (x : Int) (t : List Int) (e : Ending) (w' : World) : Prop :=
  ((refOk x t ∧ e = .returned (.tuple #[.string ⟨((bytesW t).take x.toNat).toArray⟩, .int .i64 0])) ∨ (¬ refOk x t ∧ e = .returned (.tuple #[.string ⟨#[]⟩, .int .i64 11]))) ∧ Below w.heap.size w w'

theorem conv_nil (w : World) : (convert 48 9 (.slice none 0 0)).run Try.prog w = .ok (.string ⟨#[]⟩) w := by kernel_rfl
/-- a front of bytes of the call's own, as a text -/
theorem conv_row {w : World} {base : Nat} {a : Option Addr} {n c : Nat} {M : List UInt8} (h : w.ownsRow base 5 1 (.slice a n c) M.length (bvals M)) (k : Nat) (hk : k ≤ M.length) :
    (convert 48 9 (.slice a k c)).run Try.prog w = .ok (.string ⟨(M.take k).toArray⟩) w := by
  obtain ⟨_, ⟨e, h0⟩ | ⟨g, cap, cur, e, _, hh, _, _, _, ht⟩⟩ := h
  · cases e
    have hM : M = [] := List.eq_nil_of_length_eq_zero h0
    subst hM
    obtain rfl : k = 0 := by simpa using hk
    exact conv_nil w
  · cases e
    have hb := BAt.of_blk (L := M) (t := 5) (w := w) (g := g) (cur := cur.toList) (by simpa using hh) (by simpa using ht)
    have hl : (M.take k).length = k := by simp; omega
    have := run_convert_bytes_back (P := Try.prog) w 48 9 5 ⟨g, 0, none⟩ c (M.take k) Try.underlying48 Try.underlying5 Try.underlying9 (fun j hj => by
      rw [hl] at hj
      obtain ⟨g', o', e, _, hc⟩ := hb j (by omega)
      cases e
      have e1 : (⟨g, 0, none⟩ : Addr).add j = ⟨g, 0 + j, none⟩ := by unfold Addr.add; split; (rename_i h; subst h; rfl); rfl
      rw [e1, hc]
      have : j < M.length := by omega
      simp [this])
    rwa [hl] at this

theorem runpack_nil (p : Option Addr) (c : Nat) (w : World) : Calls Try.prog 43 #[.slice p 0 c] w fun e w' => e = .returned (.tuple #[.string ⟨#[]⟩, .int .i64 11]) ∧ w = w' := by
  go_enter Try.func43, Try.ntmps43
  go_wp2_with (fail)
  go_ret2
  exact ⟨rfl, rfl⟩


theorem own_cap {w : World} {base : Nat} {e : TypeId} {size : Nat} {A : Option Addr} {m cap n : Nat} {xs : List Value} (h : w.ownsRow base e size (.slice A m cap) n xs) : n ≤ cap := by
  obtain ⟨_, ⟨e, rfl⟩ | ⟨_, cap', _, e, _, _, h1, _⟩⟩ := h
  · exact Nat.zero_le _
  · cases e; exact h1

set_option maxRecDepth 100000 in
set_option maxHeartbeats 1000000 in
theorem runpack_pos (x : Int) (t : List Int) (g o c : Nat) (w : World) (hl : t.length ≤ 90000) (hu : U64s (x :: t)) (hc : t.length + 1 ≤ c) (hg : g < w.heap.size) (hw : WordsAt w g o (x :: t)) :
    Calls Try.prog 43 #[.slice (some ⟨g, o, none⟩) (t.length + 1) c] w (RunPost w x t) := by
  have hx := hu x (by simp)
  have c0 := hw 0 (by simp)
  simp only [List.getElem_cons_zero, Nat.add_zero] at c0
  have h0 : ((t.length : Int) + 1 == 0) = false := by rw [beq_eq_false_iff_ne]; omega
  have h1 : (0 : Int) < (t.length : Int) + 1 := by omega
  by_cases hbig : 8 * (t.length : Int) < x
  · have HN := Lib.hid (show ¬ refOk x t from fun h => by have := h.1; omega)
    have h2 : (t.length : Int) * 8 < x := by omega
    obtain ⟨n, hn⟩ : ∃ n, t.length = n := ⟨_, rfl⟩
    rw [hn] at h0 h1 h2 hl hc ⊢
    clear hbig hw hu hn
    go_enter Try.func43, Try.ntmps43
    go_wp2_with (fail)
    go_ret2
    exact ⟨.inr ⟨HN.out, rfl⟩, Below.refl _ _⟩
  · by_cases hsm : x + 8 ≤ 8 * (t.length : Int)
    · have HN := Lib.hid (show ¬ refOk x t from fun h => by have := h.2.1; omega)
      have h2 : ¬ (t.length : Int) * 8 < x := by omega
      have h3 : 8 ≤ (t.length : Int) * 8 - x := by omega
      obtain ⟨n, hn⟩ : ∃ n, t.length = n := ⟨_, rfl⟩
      rw [hn] at h0 h1 h2 h3 hl hc ⊢
      clear hbig hw hu hn hsm
      go_enter Try.func43, Try.ntmps43
      go_wp2_with (fail)
      go_ret2
      exact ⟨.inr ⟨HN.out, rfl⟩, Below.refl _ _⟩
    · have h2 : ¬ (t.length : Int) * 8 < x := by omega
      have h3 : ¬ 8 ≤ (t.length : Int) * 8 - x := by omega
      have hut : U64s t := fun y hy => hu y (by simp [hy])
      have HBy := Lib.hid (fun p c hr => rbytes_r t p c (by omega) hut w hr)
      have HRow := Lib.hid (show ∀ p c', (t.length ≠ 0 → p = some ⟨g, o + 1, none⟩ ∧ t.length ≤ c') → RowAt w (.slice p t.length c') t from fun p c' hp => by
        by_cases ht : t = []
        · subst ht; exact .inl ⟨rfl, _, _, rfl⟩
        · have hlt := List.length_pos_iff.2 ht
          obtain ⟨rfl, hc'⟩ := hp (by omega)
          exact .inr ⟨hlt, _, _, _, rfl, hc', hg, fun i hi => by
            have := hw (i + 1) (by simp; omega)
            rw [Nat.add_assoc, Nat.add_comm 1 i]; simpa using this⟩)
      have HX := Lib.hid (show x ≤ 8 * (t.length : Int) ∧ 8 * (t.length : Int) < x + 8 from ⟨by omega, by omega⟩)
      have hbl := bytesW_len t
      obtain ⟨k, rfl⟩ := Int.eq_ofNat_of_zero_le hx.1
      have HLN := Lib.hid hbl
      clear hw hu hbig hsm hut hbl
      have hk62 : (k : Int) ≤ 9223372036854775807 := by omega
      obtain ⟨n, hn⟩ : ∃ n, t.length = n := ⟨_, rfl⟩
      rw [hn] at h0 h1 h2 h3 hl hc HBy HRow HX HLN ⊢
      have HTN := Lib.hid hn
      clear hn
      by_cases hc1 : c = 1
      · subst hc1
        obtain rfl : n = 0 := by omega
        clear hc h3 h2
        obtain rfl : k = 0 := by have := HX.out; omega
        go_enter Try.func43, Try.ntmps43
        go_wp2_with (fail)
        refine (HBy.out _ _ (HRow.out _ _ (fun h => ⟨by first | rfl | (exfalso; omega), by omega⟩))).mono ?_
        rintro e w1 ⟨v, rfl, hown, hB1⟩
        obtain ⟨M, hM⟩ : ∃ M, bytesW t = M := ⟨_, rfl⟩
        rw [hM] at hown
        obtain ⟨a1, n1, c1, rfl⟩ := own_slice hown
        have hn1 : n1 = M.length := own_len hown
        subst hn1
        have HML := Lib.hid (show M.length = 8 * 0 by rw [← hM]; exact HLN.out)
        have HMM := Lib.hid hM
        have hb := BAt.of_own hown
        have HBt := Lib.hid hb
        have HCV := Lib.hid (fun k hk => conv_row hown k hk)
        have hcap := own_cap hown
        have HB1 := Lib.hid hB1
        have hml1 : M.length ≤ 1000000 := by have := HML.out; omega
        have hkm : 0 ≤ M.length := by have := HML.out; have := HX.out; omega
        clear hM hown hb hB1
        go_wp2_with (fail)
        go_loopw [7] (fun iv wr => ∃ m : Nat, iv = .int .i64 m ∧ 0 ≤ m ∧ m ≤ M.length ∧ w1 = wr ∧ Hid (∀ i, 0 ≤ i → i < m → M.getD i 0 = 0)) (fun iv _ => M.length - (intOf iv).toNat)
        case atStart => exact ⟨0, rfl, Nat.le_refl _, hkm, rfl, Lib.hid fun i h1 h2 => by omega⟩
        case round =>
          obtain ⟨m, rfl, hkm2, hm, rfl, HZ⟩ := hrel
          by_cases hlt : m < M.length
          · obtain ⟨g1, o1, e1, _, d1⟩ := HBt.out m hlt
            subst e1
            obtain ⟨z, hz⟩ : ∃ z, M.getD m 0 = z := ⟨_, rfl⟩
            rw [hz] at d1
            have HZm := Lib.hid hz
            have b1 : (m : Int) < (M.length : Int) := by omega
            have b3 : ((m : Int)).toNat = m := by omega
            have HLT := Lib.hid hlt
            clear hz hlt
            by_cases h0z : z = 0
            · subst h0z
              go_wp2_with (fail)
              go_roundw
              case rel =>
                refine ⟨m + 1, by go_num, by omega, HLT.out, by first | rfl | trivial, Lib.hid fun i h1 h2 => ?_⟩
                by_cases e : i = m
                · subst e; exact HZm.out
                · exact HZ.out i h1 (by omega)
              case measure => have := HLT.out; simp [intOf]; omega
            · have hzb : ((z.toNat : Int) == 0) = false := by
                rw [beq_eq_false_iff_ne]
                intro e
                apply h0z
                apply UInt8.toNat_inj.1
                simp; omega
              have HNZ := Lib.hid h0z
              clear h0z
              go_wp2_with (fail)
              go_ret2
              refine ⟨.inr ⟨fun h => ?_, rfl⟩, HB1.out⟩
              have := h.2.2 m (by first | exact hkm2 | (rw [Int.toNat_natCast]; exact hkm2)) (by rw [HMM.out]; exact HLT.out)
              rw [HMM.out, HZm.out] at this
              exact HNZ.out this
          · have hm2 : m = M.length := by omega
            subst hm2
            have hcv := HCV.out 0 hkm
            have hkc : (0 : Int) ≤ (c1 : Int) := by omega
            go_wp2_with (fail)
            go_ret2
            refine ⟨.inl ⟨⟨by rw [HTN.out]; exact HX.out.1, by rw [HTN.out]; exact HX.out.2, fun i h1 h2 => ?_⟩, by rw [HMM.out]; first | rfl | (rw [Int.toNat_natCast])⟩, HB1.out⟩
            rw [HMM.out] at h2 ⊢
            exact HZ.out i (by first | exact h1 | (rw [Int.toNat_natCast] at h1; exact h1)) h2
      · skip
        go_enter Try.func43, Try.ntmps43
        go_wp2_with (fail)
        refine (HBy.out _ _ (HRow.out _ _ (fun h => ⟨by first | rfl | (exfalso; omega), by omega⟩))).mono ?_
        rintro e w1 ⟨v, rfl, hown, hB1⟩
        obtain ⟨M, hM⟩ : ∃ M, bytesW t = M := ⟨_, rfl⟩
        rw [hM] at hown
        obtain ⟨a1, n1, c1, rfl⟩ := own_slice hown
        have hn1 : n1 = M.length := own_len hown
        subst hn1
        have HML := Lib.hid (show M.length = 8 * n by rw [← hM]; exact HLN.out)
        have HMM := Lib.hid hM
        have hb := BAt.of_own hown
        have HBt := Lib.hid hb
        have HCV := Lib.hid (fun k hk => conv_row hown k hk)
        have hcap := own_cap hown
        have HB1 := Lib.hid hB1
        have hml1 : M.length ≤ 1000000 := by have := HML.out; omega
        have hkm : k ≤ M.length := by have := HML.out; have := HX.out; omega
        clear hM hown hb hB1
        go_wp2_with (fail)
        go_loopw [7] (fun iv wr => ∃ m : Nat, iv = .int .i64 m ∧ k ≤ m ∧ m ≤ M.length ∧ w1 = wr ∧ Hid (∀ i, k ≤ i → i < m → M.getD i 0 = 0)) (fun iv _ => M.length - (intOf iv).toNat)
        case atStart => exact ⟨k, rfl, Nat.le_refl _, hkm, rfl, Lib.hid fun i h1 h2 => by omega⟩
        case round =>
          obtain ⟨m, rfl, hkm2, hm, rfl, HZ⟩ := hrel
          by_cases hlt : m < M.length
          · obtain ⟨g1, o1, e1, _, d1⟩ := HBt.out m hlt
            subst e1
            obtain ⟨z, hz⟩ : ∃ z, M.getD m 0 = z := ⟨_, rfl⟩
            rw [hz] at d1
            have HZm := Lib.hid hz
            have b1 : (m : Int) < (M.length : Int) := by omega
            have b3 : ((m : Int)).toNat = m := by omega
            have HLT := Lib.hid hlt
            clear hz hlt
            by_cases h0z : z = 0
            · subst h0z
              go_wp2_with (fail)
              go_roundw
              case rel =>
                refine ⟨m + 1, by go_num, by omega, HLT.out, by first | rfl | trivial, Lib.hid fun i h1 h2 => ?_⟩
                by_cases e : i = m
                · subst e; exact HZm.out
                · exact HZ.out i h1 (by omega)
              case measure => have := HLT.out; simp [intOf]; omega
            · have hzb : ((z.toNat : Int) == 0) = false := by
                rw [beq_eq_false_iff_ne]
                intro e
                apply h0z
                apply UInt8.toNat_inj.1
                simp; omega
              have HNZ := Lib.hid h0z
              clear h0z
              go_wp2_with (fail)
              go_ret2
              refine ⟨.inr ⟨fun h => ?_, rfl⟩, HB1.out⟩
              have := h.2.2 m (by first | exact hkm2 | (rw [Int.toNat_natCast]; exact hkm2)) (by rw [HMM.out]; exact HLT.out)
              rw [HMM.out, HZm.out] at this
              exact HNZ.out this
          · have hm2 : m = M.length := by omega
            subst hm2
            have hcv := HCV.out k hkm
            have hkc : (k : Int) ≤ (c1 : Int) := by omega
            go_wp2_with (fail)
            go_ret2
            refine ⟨.inl ⟨⟨by rw [HTN.out]; exact HX.out.1, by rw [HTN.out]; exact HX.out.2, fun i h1 h2 => ?_⟩, by rw [HMM.out]; first | rfl | (rw [Int.toNat_natCast])⟩, HB1.out⟩
            rw [HMM.out] at h2 ⊢
            exact HZ.out i (by first | exact h1 | (rw [Int.toNat_natCast] at h1; exact h1)) h2
end Go.Proofs.Ytegamhjfloebgaa
