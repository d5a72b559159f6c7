/-
  The law WordUnpacks: its plain part, and its walk.
-/
import Derived.Test.YtegamhjfloebgaaRb
namespace Go.Proofs.Ytegamhjfloebgaa
open Go.RowKit

/-- the bytes behind a text's end are noughts -/
def zeroFrom (m : List UInt8) (n : Nat) : Prop := ∀ i, n ≤ i → i < m.length → m.getD i 0 = 0
def refOk (x : Int) (t : List Int) : Prop := x ≤ 8 * (t.length : Int) ∧ 8 * (t.length : Int) < x + 8 ∧ zeroFrom (bytesW t) x.toNat
def RunPost (w : World) (x : Int) (t : List Int) (e : Ending) (w' : World) : Prop :=
  ((refOk x t ∧ e = .returned (.tuple #[.string ⟨((bytesW t).take x.toNat).toArray⟩, .int .i64 0])) ∨ (¬ refOk x t ∧ e = .returned (.tuple #[.string ⟨#[]⟩, .int .i64 11]))) ∧ Below w.heap.size w w'

theorem conv_nil (w : World) : (convert 48 9 (.slice none 0 0)).run Try.prog w = .ok (.string ⟨#[]⟩) w := by kernel_rfl
/-- a front of bytes of the call's own, as a text -/
theorem conv_row {w : World} {base : Nat} {a : Option Addr} {n c : Nat} {M : List UInt8} (h : w.ownsRow base 5 1 (.slice a n c) M.length (bvals M)) (k : Nat) (hk : k ≤ M.length) :
    (convert 48 9 (.slice a k c)).run Try.prog w = .ok (.string ⟨(M.take k).toArray⟩) w := by
  obtain ⟨_, ⟨e, h0⟩ | ⟨g, cap, cur, e, _, hh, _, _, _, ht⟩⟩ := h
  · cases e
    have hM : M = [] := List.eq_nil_of_length_eq_zero h0
    subst hM
    obtain rfl : k = 0 := by simpa using hk
    exact conv_nil w
  · cases e
    have hb := BAt.of_blk (L := M) (t := 5) (w := w) (g := g) (cur := cur.toList) (by simpa using hh) (by simpa using ht)
    have hl : (M.take k).length = k := by simp; omega
    have := run_convert_bytes_back (P := Try.prog) w 48 9 5 ⟨g, 0, none⟩ c (M.take k) Try.underlying48 Try.underlying5 Try.underlying9 (fun j hj => by
      rw [hl] at hj
      obtain ⟨g', o', e, _, hc⟩ := hb j (by omega)
      cases e
      have e1 : (⟨g, 0, none⟩ : Addr).add j = ⟨g, 0 + j, none⟩ := by unfold Addr.add; split; (rename_i h; subst h; rfl); rfl
      rw [e1, hc]
      have : j < M.length := by omega
      simp [this])
    rwa [hl] at this

theorem runpack_nil (p : Option Addr) (c : Nat) (w : World) : Calls Try.prog 43 #[.slice p 0 c] w fun e w' => e = .returned (.tuple #[.string ⟨#[]⟩, .int .i64 11]) ∧ w = w' := by
  go_enter Try.func43, Try.ntmps43
  go_wp2_with (fail)
  go_ret2
  exact ⟨rfl, rfl⟩


theorem own_cap {w : World} {base : Nat} {e : TypeId} {size : Nat} {A : Option Addr} {m cap n : Nat} {xs : List Value} (h : w.ownsRow base e size (.slice A m cap) n xs) : n ≤ cap := by
  obtain ⟨_, ⟨e, rfl⟩ | ⟨_, cap', _, e, _, _, h1, _⟩⟩ := h
  · exact Nat.zero_le _
  · cases e; exact h1

set_option maxRecDepth 100000 in
set_option maxHeartbeats 1000000 in
theorem runpack_pos (x : Int) (t : List Int) (g o c : Nat) (w : World) (hl : t.length ≤ 90000) (hu : U64s (x :: t)) (hc : t.length + 1 ≤ c) (hg : g < w.heap.size) (hw : WordsAt w g o (x :: t)) :
    Calls Try.prog 43 #[.slice (some ⟨g, o, none⟩) (t.length + 1) c] w (RunPost w x t) := by
  have hx := hu x (by simp)
  have c0 := hw 0 (by simp)
  simp only [List.getElem_cons_zero, Nat.add_zero] at c0
  have h0 : ((t.length : Int) + 1 == 0) = false := by rw [beq_eq_false_iff_ne]; omega
  have h1 : (0 : Int) < (t.length : Int) + 1 := by omega
  by_cases hbig : 8 * (t.length : Int) < x
  · have HN := Lib.hid (show ¬ refOk x t from fun h => by have := h.1; omega)
    have h2 : (t.length : Int) * 8 < x := by omega
    obtain ⟨n, hn⟩ : ∃ n, t.length = n := ⟨_, rfl⟩
    rw [hn] at h0 h1 h2 hl hc ⊢
    clear hbig hw hu hn
    go_enter Try.func43, Try.ntmps43
    go_wp2_with (fail)
    go_ret2
    exact ⟨.inr ⟨HN.out, rfl⟩, Below.refl _ _⟩
  · by_cases hsm : x + 8 ≤ 8 * (t.length : Int)
    · have HN := Lib.hid (show ¬ refOk x t from fun h => by have := h.2.1; omega)
      have h2 : ¬ (t.length : Int) * 8 < x := by omega
      have h3 : 8 ≤ (t.length : Int) * 8 - x := by omega
      obtain ⟨n, hn⟩ : ∃ n, t.length = n := ⟨_, rfl⟩
      rw [hn] at h0 h1 h2 h3 hl hc ⊢
      clear hbig hw hu hn hsm
      go_enter Try.func43, Try.ntmps43
      go_wp2_with (fail)
      go_ret2
      exact ⟨.inr ⟨HN.out, rfl⟩, Below.refl _ _⟩
    · have h2 : ¬ (t.length : Int) * 8 < x := by omega
      have h3 : ¬ 8 ≤ (t.length : Int) * 8 - x := by omega
      have hut : U64s t := fun y hy => hu y (by simp [hy])
      have HBy := Lib.hid (fun p c hr => rbytes_r t p c (by omega) hut w hr)
      have HRow := Lib.hid (show ∀ p c', (t.length ≠ 0 → p = some ⟨g, o + 1, none⟩ ∧ t.length ≤ c') → RowAt w (.slice p t.length c') t from fun p c' hp => by
        by_cases ht : t = []
        · subst ht; exact .inl ⟨rfl, _, _, rfl⟩
        · have hlt := List.length_pos_iff.2 ht
          obtain ⟨rfl, hc'⟩ := hp (by omega)
          exact .inr ⟨hlt, _, _, _, rfl, hc', hg, fun i hi => by
            have := hw (i + 1) (by simp; omega)
            rw [Nat.add_assoc, Nat.add_comm 1 i]; simpa using this⟩)
      have HX := Lib.hid (show x ≤ 8 * (t.length : Int) ∧ 8 * (t.length : Int) < x + 8 from ⟨by omega, by omega⟩)
      have hbl := bytesW_len t
      obtain ⟨k, rfl⟩ := Int.eq_ofNat_of_zero_le hx.1
      have HLN := Lib.hid hbl
      clear hw hu hbig hsm hut hbl
      have hk62 : (k : Int) ≤ 9223372036854775807 := by omega
      obtain ⟨n, hn⟩ : ∃ n, t.length = n := ⟨_, rfl⟩
      rw [hn] at h0 h1 h2 h3 hl hc HBy HRow HX HLN ⊢
      have HTN := Lib.hid hn
      clear hn
      by_cases hc1 : c = 1
      · subst hc1
        obtain rfl : n = 0 := by omega
        clear hc h3 h2
        obtain rfl : k = 0 := by have := HX.out; omega
        go_enter Try.func43, Try.ntmps43
        go_wp2_with (fail)
        refine (HBy.out _ _ (HRow.out _ _ (fun h => ⟨by first | rfl | (exfalso; omega), by omega⟩))).mono ?_
        rintro e w1 ⟨v, rfl, hown, hB1⟩
        obtain ⟨M, hM⟩ : ∃ M, bytesW t = M := ⟨_, rfl⟩
        rw [hM] at hown
        obtain ⟨a1, n1, c1, rfl⟩ := own_slice hown
        have hn1 : n1 = M.length := own_len hown
        subst hn1
        have HML := Lib.hid (show M.length = 8 * 0 by rw [← hM]; exact HLN.out)
        have HMM := Lib.hid hM
        have hb := BAt.of_own hown
        have HBt := Lib.hid hb
        have HCV := Lib.hid (fun k hk => conv_row hown k hk)
        have hcap := own_cap hown
        have HB1 := Lib.hid hB1
        have hml1 : M.length ≤ 1000000 := by have := HML.out; omega
        have hkm : 0 ≤ M.length := by have := HML.out; have := HX.out; omega
        clear hM hown hb hB1
        go_wp2_with (fail)
        go_loopw [7] (fun iv wr => ∃ m : Nat, iv = .int .i64 m ∧ 0 ≤ m ∧ m ≤ M.length ∧ w1 = wr ∧ Hid (∀ i, 0 ≤ i → i < m → M.getD i 0 = 0)) (fun iv _ => M.length - (intOf iv).toNat)
        case atStart => exact ⟨0, rfl, Nat.le_refl _, hkm, rfl, Lib.hid fun i h1 h2 => by omega⟩
        case round =>
          obtain ⟨m, rfl, hkm2, hm, rfl, HZ⟩ := hrel
          by_cases hlt : m < M.length
          · obtain ⟨g1, o1, e1, _, d1⟩ := HBt.out m hlt
            subst e1
            obtain ⟨z, hz⟩ : ∃ z, M.getD m 0 = z := ⟨_, rfl⟩
            rw [hz] at d1
            have HZm := Lib.hid hz
            have b1 : (m : Int) < (M.length : Int) := by omega
            have b3 : ((m : Int)).toNat = m := by omega
            have HLT := Lib.hid hlt
            clear hz hlt
            by_cases h0z : z = 0
            · subst h0z
              go_wp2_with (fail)
              go_roundw
              case rel =>
                refine ⟨m + 1, by go_num, by omega, HLT.out, by first | rfl | trivial, Lib.hid fun i h1 h2 => ?_⟩
                by_cases e : i = m
                · subst e; exact HZm.out
                · exact HZ.out i h1 (by omega)
              case measure => have := HLT.out; simp [intOf]; omega
            · have hzb : ((z.toNat : Int) == 0) = false := by
                rw [beq_eq_false_iff_ne]
                intro e
                apply h0z
                apply UInt8.toNat_inj.1
                simp; omega
              have HNZ := Lib.hid h0z
              clear h0z
              go_wp2_with (fail)
              go_ret2
              refine ⟨.inr ⟨fun h => ?_, rfl⟩, HB1.out⟩
              have := h.2.2 m (by first | exact hkm2 | (rw [Int.toNat_natCast]; exact hkm2)) (by rw [HMM.out]; exact HLT.out)
              rw [HMM.out, HZm.out] at this
              exact HNZ.out this
          · have hm2 : m = M.length := by omega
            subst hm2
            have hcv := HCV.out 0 hkm
            have hkc : (0 : Int) ≤ (c1 : Int) := by omega
            go_wp2_with (fail)
            go_ret2
            refine ⟨.inl ⟨⟨by rw [HTN.out]; exact HX.out.1, by rw [HTN.out]; exact HX.out.2, fun i h1 h2 => ?_⟩, by rw [HMM.out]; first | rfl | (rw [Int.toNat_natCast])⟩, HB1.out⟩
            rw [HMM.out] at h2 ⊢
            exact HZ.out i (by first | exact h1 | (rw [Int.toNat_natCast] at h1; exact h1)) h2
      · skip
        go_enter Try.func43, Try.ntmps43
        go_wp2_with (fail)
        refine (HBy.out _ _ (HRow.out _ _ (fun h => ⟨by first | rfl | (exfalso; omega), by omega⟩))).mono ?_
        rintro e w1 ⟨v, rfl, hown, hB1⟩
        obtain ⟨M, hM⟩ : ∃ M, bytesW t = M := ⟨_, rfl⟩
        rw [hM] at hown
        obtain ⟨a1, n1, c1, rfl⟩ := own_slice hown
        have hn1 : n1 = M.length := own_len hown
        subst hn1
        have HML := Lib.hid (show M.length = 8 * n by rw [← hM]; exact HLN.out)
        have HMM := Lib.hid hM
        have hb := BAt.of_own hown
        have HBt := Lib.hid hb
        have HCV := Lib.hid (fun k hk => conv_row hown k hk)
        have hcap := own_cap hown
        have HB1 := Lib.hid hB1
        have hml1 : M.length ≤ 1000000 := by have := HML.out; omega
        have hkm : k ≤ M.length := by have := HML.out; have := HX.out; omega
        clear hM hown hb hB1
        go_wp2_with (fail)
        go_loopw [7] (fun iv wr => ∃ m : Nat, iv = .int .i64 m ∧ k ≤ m ∧ m ≤ M.length ∧ w1 = wr ∧ Hid (∀ i, k ≤ i → i < m → M.getD i 0 = 0)) (fun iv _ => M.length - (intOf iv).toNat)
        case atStart => exact ⟨k, rfl, Nat.le_refl _, hkm, rfl, Lib.hid fun i h1 h2 => by omega⟩
        case round =>
          obtain ⟨m, rfl, hkm2, hm, rfl, HZ⟩ := hrel
          by_cases hlt : m < M.length
          · obtain ⟨g1, o1, e1, _, d1⟩ := HBt.out m hlt
            subst e1
            obtain ⟨z, hz⟩ : ∃ z, M.getD m 0 = z := ⟨_, rfl⟩
            rw [hz] at d1
            have HZm := Lib.hid hz
            have b1 : (m : Int) < (M.length : Int) := by omega
            have b3 : ((m : Int)).toNat = m := by omega
            have HLT := Lib.hid hlt
            clear hz hlt
            by_cases h0z : z = 0
            · subst h0z
              go_wp2_with (fail)
              go_roundw
              case rel =>
                refine ⟨m + 1, by go_num, by omega, HLT.out, by first | rfl | trivial, Lib.hid fun i h1 h2 => ?_⟩
                by_cases e : i = m
                · subst e; exact HZm.out
                · exact HZ.out i h1 (by omega)
              case measure => have := HLT.out; simp [intOf]; omega
            · have hzb : ((z.toNat : Int) == 0) = false := by
                rw [beq_eq_false_iff_ne]
                intro e
                apply h0z
                apply UInt8.toNat_inj.1
                simp; omega
              have HNZ := Lib.hid h0z
              clear h0z
              go_wp2_with (fail)
              go_ret2
              refine ⟨.inr ⟨fun h => ?_, rfl⟩, HB1.out⟩
              have := h.2.2 m (by first | exact hkm2 | (rw [Int.toNat_natCast]; exact hkm2)) (by rw [HMM.out]; exact HLT.out)
              rw [HMM.out, HZm.out] at this
              exact HNZ.out this
          · have hm2 : m = M.length := by omega
            subst hm2
            have hcv := HCV.out k hkm
            have hkc : (k : Int) ≤ (c1 : Int) := by omega
            go_wp2_with (fail)
            go_ret2
            refine ⟨.inl ⟨⟨by rw [HTN.out]; exact HX.out.1, by rw [HTN.out]; exact HX.out.2, fun i h1 h2 => ?_⟩, by rw [HMM.out]; first | rfl | (rw [Int.toNat_natCast])⟩, HB1.out⟩
            rw [HMM.out] at h2 ⊢
            exact HZ.out i (by first | exact h1 | (rw [Int.toNat_natCast] at h1; exact h1)) h2
end Go.Proofs.Ytegamhjfloebgaa
namespace Go.Proofs.Ytegamhjfloebgaa
open Go.RowKit

theorem wd_putB (x : Int) (h0 : 0 ≤ x) (h1 : x ≤ 18446744073709551615) : wd (putB x) = x := by
  obtain ⟨n, rfl⟩ := Int.eq_ofNat_of_zero_le h0
  have key : ∀ (k m : Nat), wd ((List.range k).map (fun i => UInt8.ofNat (m / 256 ^ i % 256))) = ((m % 256 ^ k : Nat) : Int) := by
    intro k
    induction k with
    | zero => intro m; simp [wd, Nat.mod_one]
    | succ k ih =>
      intro m
      rw [List.range_succ_eq_map, List.map_cons, List.map_map]
      have e0 : (UInt8.ofNat (m / 256 ^ 0 % 256)).toNat = m % 256 := by
        rw [Nat.pow_zero, Nat.div_one, UInt8.toNat_ofNat']
        exact Nat.mod_eq_of_lt (Nat.mod_lt _ (by decide))
      show wd ((List.range k).map _) * 256 + ((UInt8.ofNat (m / 256 ^ 0 % 256)).toNat : Int) = _
      rw [e0]
      have e1 : (List.range k).map ((fun i => UInt8.ofNat (m / 256 ^ i % 256)) ∘ Nat.succ) = (List.range k).map (fun i => UInt8.ofNat (m / 256 / 256 ^ i % 256)) := by
        apply List.map_congr_left
        intro i _
        show UInt8.ofNat (m / 256 ^ (i + 1) % 256) = _
        rw [Nat.pow_succ, Nat.mul_comm, ← Nat.div_div_eq_div_mul]
      rw [e1, ih (m / 256)]
      have e2 : m % 256 ^ (k + 1) = m / 256 % 256 ^ k * 256 + m % 256 := by
        rw [Nat.pow_succ, Nat.mul_comm (256 ^ k) 256, Nat.mod_mul]; omega
      rw [e2]; omega
  have := key 8 n
  have e3 : (256 : Nat) ^ 8 = 18446744073709551616 := by decide
  rw [e3, Nat.mod_eq_of_lt (by omega)] at this
  exact this
theorem bytesW_at (t : List Int) (i : Nat) (hi : i < t.length) : ((bytesW t).drop (8 * i)).take 8 = putB (t[i]) := by
  induction t generalizing i with
  | nil => simp at hi
  | cons y t ih =>
    have e : bytesW (y :: t) = putB y ++ bytesW t := by simp [bytesW]
    rw [e]
    cases i with
    | zero =>
      rw [Nat.mul_zero, List.drop_zero, List.take_append_of_le_length (by rw [putB_len]; omega), List.take_of_length_le (by rw [putB_len]; omega)]
      rfl
    | succ i =>
      rw [show 8 * (i + 1) = 8 + 8 * i by omega, ← List.drop_drop, List.drop_append_of_le_length (by rw [putB_len]; omega), List.drop_of_length_le (l := putB y) (by rw [putB_len]; omega), List.nil_append, ih i (by simpa using hi)]
      rfl
theorem ok_of_ref (x : Int) (t : List Int) (hu : U64s (x :: t)) (h : refOk x t) : unpackOk (x :: t) = true := by
  obtain ⟨h1, h2, h3⟩ := h
  have hx := hu x (by simp)
  obtain ⟨k, rfl⟩ := Int.eq_ofNat_of_zero_le hx.1
  rw [Int.toNat_natCast] at h3
  have hl := bytesW_len t
  have hT : unpackT ((k : Int) :: t) = (bytesW t).take k := by unfold unpackT; simp
  have hTl : ((bytesW t).take k).length = k := by rw [List.length_take, hl]; omega
  have hsplit : bytesW t = (bytesW t).take k ++ List.replicate (8 * t.length - k) 0 := by
    conv => lhs; rw [← List.take_append_drop k (bytesW t)]
    congr 1
    apply List.ext_getElem
    · simp [hl]
    · intro i hi1 hi2
      simp at hi1
      have := h3 (k + i) (by omega) (by omega)
      simp [show k + i < (bytesW t).length by omega] at this
      simp [this]
  have hpk : packW ((bytesW t).take k) = (k : Int) :: t := by
    unfold packW packTo
    rw [hTl, show (k + 7) / 8 = t.length by omega]
    congr 1
    apply List.ext_getElem
    · simp
    · intro i hi1 hi2
      simp only [List.getElem_map, List.getElem_range]
      unfold chunk
      have hlt : 8 * i + 8 ≤ 8 * t.length := by omega
      have e1 := bytesW_at t i hi2
      rw [hsplit, List.drop_append_of_le_length (by rw [hTl]; omega), List.take_append, List.take_replicate] at e1
      have hut := hu (t[i]) (by simp)
      rw [← wd_putB (t[i]) hut.1 hut.2, ← e1, wd_zeros]
  unfold unpackOk
  rw [hT, hpk]
  simp
  omega
theorem ref_of_ok (x : Int) (t : List Int) (hu : U64s (x :: t)) (h : unpackOk (x :: t) = true) : refOk x t := by
  have hx := hu x (by simp)
  obtain ⟨k, rfl⟩ := Int.eq_ofNat_of_zero_le hx.1
  unfold unpackOk at h
  simp only [Bool.and_eq_true, decide_eq_true_eq, List.headD_cons, List.length_cons] at h
  obtain ⟨⟨_, h1⟩, h2⟩ := h
  have h1' : (k : Int) ≤ 8 * (((t.length + 1 : Nat) : Int) - 1) := of_decide_eq_true h1
  clear h1
  have hl := bytesW_len t
  have hT : unpackT ((k : Int) :: t) = (bytesW t).take k := by unfold unpackT; simp
  rw [hT] at h2
  have hTl : ((bytesW t).take k).length = k := by rw [List.length_take, hl]; omega
  have hln := congrArg List.length h2
  rw [packW_len, hTl, List.length_cons] at hln
  refine ⟨by omega, by omega, fun i hi1 hi2 => ?_⟩
  rw [Int.toNat_natCast] at hi1
  have h4 := packW_tail ((bytesW t).take k)
  rw [h2, List.tail_cons, hTl] at h4
  rw [h4]
  simp only [List.getD_eq_getElem?_getD]
  rw [List.getElem?_append_right (by rw [hTl]; exact hi1), List.getElem?_replicate]
  split <;> rfl

theorem runpack_yes (l : List Int) (v : Value) (w : World) (hl : l.length ≤ 90000) (hu : U64s l) (hr : RowAt w v l) (T : List UInt8) (h : unpackOk l = true) (hT : unpackT l = T) :
    Calls Try.prog 43 #[v] w fun e w' => e = .returned (.tuple #[.string ⟨T.toArray⟩, .int .i64 0]) ∧ Below w.heap.size w w' := by
  rcases hr with ⟨rfl, p, c, rfl⟩ | ⟨h0, g, o, c, rfl, hc, hg, hw⟩
  · cases h
  · match l, h0 with
    | x :: t, _ =>
      refine (runpack_pos x t g o c w (by simp at hl; omega) hu (by simpa using hc) hg hw).mono ?_
      rintro e w' ⟨⟨_, rfl⟩ | ⟨hn, _⟩, hB⟩
      · exact ⟨by rw [← hT]; rfl, hB⟩
      · exact absurd (ref_of_ok x t hu h) hn
theorem runpack_no (l : List Int) (v : Value) (w : World) (hl : l.length ≤ 90000) (hu : U64s l) (hr : RowAt w v l) (h : unpackOk l = false) :
    Calls Try.prog 43 #[v] w fun e w' => e = .returned (.tuple #[.string ⟨#[]⟩, .int .i64 11]) ∧ Below w.heap.size w w' := by
  rcases hr with ⟨rfl, p, c, rfl⟩ | ⟨h0, g, o, c, rfl, hc, hg, hw⟩
  · refine (runpack_nil p c w).mono ?_
    rintro e w' ⟨rfl, rfl⟩
    exact ⟨rfl, Below.refl _ _⟩
  · match l, h0 with
    | x :: t, _ =>
      refine (runpack_pos x t g o c w (by simp at hl; omega) hu (by simpa using hc) hg hw).mono ?_
      rintro e w' ⟨⟨hn, _⟩ | ⟨_, rfl⟩, hB⟩
      · rw [ok_of_ref x t hu hn] at h; cases h
      · exact ⟨rfl, hB⟩
end Go.Proofs.Ytegamhjfloebgaa
