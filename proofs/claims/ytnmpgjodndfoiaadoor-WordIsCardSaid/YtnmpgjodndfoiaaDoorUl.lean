/-
  The law WordUnpacks: its plain part, and its walk.
-/
import Derived.Test.YtnmpgjodndfoiaaDoorRu
namespace Go.Proofs.YtnmpgjodndfoiaaDoor
open Go.RowKit

theorem wd_putB (x : Int) (h0 : 0 ≤ x) (h1 : x ≤ 18446744073709551615) : wd (putB x) = x := by
  obtain ⟨n, rfl⟩ := Int.eq_ofNat_of_zero_le h0
  have key : ∀ (k m : Nat), wd ((List.range k).map (fun i => UInt8.ofNat (m / 256 ^ i % 256))) = ((m % 256 ^ k : Nat) : Int) := by
    intro k
    induction k with
    | zero => intro m; simp [wd, Nat.mod_one]
    | succ k ih =>
      intro m
      rw [List.range_succ_eq_map, List.map_cons, List.map_map]
      have e0 : (UInt8.ofNat (m / 256 ^ 0 % 256)).toNat = m % 256 := by
        rw [Nat.pow_zero, Nat.div_one, UInt8.toNat_ofNat']
        exact Nat.mod_eq_of_lt (Nat.mod_lt _ (by decide))
      show wd ((List.range k).map _) * 256 + ((UInt8.ofNat (m / 256 ^ 0 % 256)).toNat : Int) = _
      rw [e0]
      have e1 : (List.range k).map ((fun i => UInt8.ofNat (m / 256 ^ i % 256)) ∘ Nat.succ) = (List.range k).map (fun i => UInt8.ofNat (m / 256 / 256 ^ i % 256)) := by
        apply List.map_congr_left
        intro i _
        show UInt8.ofNat (m / 256 ^ (i + 1) % 256) = _
        rw [Nat.pow_succ, Nat.mul_comm, ← Nat.div_div_eq_div_mul]
      rw [e1, ih (m / 256)]
      have e2 : m % 256 ^ (k + 1) = m / 256 % 256 ^ k * 256 + m % 256 := by
        rw [Nat.pow_succ, Nat.mul_comm (256 ^ k) 256, Nat.mod_mul]; omega
      rw [e2]; omega
  have := key 8 n
  have e3 : (256 : Nat) ^ 8 = 18446744073709551616 := by decide
  rw [e3, Nat.mod_eq_of_lt (by omega)] at this
  exact this
theorem bytesW_at (t : List Int) (i : Nat) (hi : i < t.length) : ((bytesW t).drop (8 * i)).take 8 = putB (t[i]) := by
  induction t generalizing i with
  | nil => simp at hi
  | cons y t ih =>
    have e : bytesW (y :: t) = putB y ++ bytesW t := by simp [bytesW]
    rw [e]
    cases i with
    | zero =>
      rw [Nat.mul_zero, List.drop_zero, List.take_append_of_le_length (by rw [putB_len]; omega), List.take_of_length_le (by rw [putB_len]; omega)]
      rfl
    | succ i =>
      rw [show 8 * (i + 1) = 8 + 8 * i by omega, ← List.drop_drop, List.drop_append_of_le_length (by rw [putB_len]; omega), List.drop_of_length_le (l := putB y) (by rw [putB_len]; omega), List.nil_append, ih i (by simpa using hi)]
      rfl
theorem ok_of_ref (x : Int) (t : List Int) (hu : U64s (x :: t)) (h : refOk x t) : unpackOk (x :: t) = true := by
  obtain ⟨h1, h2, h3⟩ := h
  have hx := hu x (by simp)
  obtain ⟨k, rfl⟩ := Int.eq_ofNat_of_zero_le hx.1
  rw [Int.toNat_natCast] at h3
  have hl := bytesW_len t
  have hT : unpackT ((k : Int) :: t) = (bytesW t).take k := by unfold unpackT; simp
  have hTl : ((bytesW t).take k).length = k := by rw [List.length_take, hl]; omega
  have hsplit : bytesW t = (bytesW t).take k ++ List.replicate (8 * t.length - k) 0 := by
    conv => lhs; rw [← List.take_append_drop k (bytesW t)]
    congr 1
    apply List.ext_getElem
    · simp [hl]
    · intro i hi1 hi2
      simp at hi1
      have := h3 (k + i) (by omega) (by omega)
      simp [show k + i < (bytesW t).length by omega] at this
      simp [this]
  have hpk : packW ((bytesW t).take k) = (k : Int) :: t := by
    unfold packW packTo
    rw [hTl, show (k + 7) / 8 = t.length by omega]
    congr 1
    apply List.ext_getElem
    · simp
    · intro i hi1 hi2
      simp only [List.getElem_map, List.getElem_range]
      unfold chunk
      have hlt : 8 * i + 8 ≤ 8 * t.length := by omega
      have e1 := bytesW_at t i hi2
      rw [hsplit, List.drop_append_of_le_length (by rw [hTl]; omega), List.take_append, List.take_replicate] at e1
      have hut := hu (t[i]) (by simp)
      rw [← wd_putB (t[i]) hut.1 hut.2, ← e1, wd_zeros]
  unfold unpackOk
  rw [hT, hpk]
  simp
  omega
theorem ref_of_ok (x : Int) (t : List Int) (hu : U64s (x :: t)) (h : unpackOk (x :: t) = true) : refOk x t := by
  have hx := hu x (by simp)
  obtain ⟨k, rfl⟩ := Int.eq_ofNat_of_zero_le hx.1
  unfold unpackOk at h
  simp only [Bool.and_eq_true, decide_eq_true_eq, List.headD_cons, List.length_cons] at h
  obtain ⟨⟨_, h1⟩, h2⟩ := h
  have h1' : (k : Int) ≤ 8 * (((t.length + 1 : Nat) : Int) - 1) := of_decide_eq_true h1
  clear h1
  have hl := bytesW_len t
  have hT : unpackT ((k : Int) :: t) = (bytesW t).take k := by unfold unpackT; simp
  rw [hT] at h2
  have hTl : ((bytesW t).take k).length = k := by rw [List.length_take, hl]; omega
  have hln := congrArg List.length h2
  rw [packW_len, hTl, List.length_cons] at hln
  refine ⟨by omega, by omega, fun i hi1 hi2 => ?_⟩
  rw [Int.toNat_natCast] at hi1
  have h4 := packW_tail ((bytesW t).take k)
  rw [h2, List.tail_cons, hTl] at h4
  rw [h4]
  simp only [List.getD_eq_getElem?_getD]
  rw [List.getElem?_append_right (by rw [hTl]; exact hi1), List.getElem?_replicate]
  split <;> rfl

theorem runpack_yes (l : List Int) (v : Value) (w : World) (hl : l.length ≤ 90000) (hu : U64s l) (hr : RowAt w v l) (T : List UInt8) (h : unpackOk l = true) (hT : unpackT l = T) :
    Calls Tryd.prog 20 #[v] w fun e w' => e = .returned (.tuple #[.string ⟨T.toArray⟩, .int .i64 0]) ∧ Below w.heap.size w w' := by
  rcases hr with ⟨rfl, p, c, rfl⟩ | ⟨h0, g, o, c, rfl, hc, hg, hw⟩
  · cases h
  · match l, h0 with
    | x :: t, _ =>
      refine (runpack_pos x t g o c w (by simp at hl; omega) hu (by simpa using hc) hg hw).mono ?_
      rintro e w' ⟨⟨_, rfl⟩ | ⟨hn, _⟩, hB⟩
      · exact ⟨by rw [← hT]; rfl, hB⟩
      · exact absurd (ref_of_ok x t hu h) hn
theorem runpack_no (l : List Int) (v : Value) (w : World) (hl : l.length ≤ 90000) (hu : U64s l) (hr : RowAt w v l) (h : unpackOk l = false) :
    Calls Tryd.prog 20 #[v] w fun e w' => e = .returned (.tuple #[.string ⟨#[]⟩, .int .i64 11]) ∧ Below w.heap.size w w' := by
  rcases hr with ⟨rfl, p, c, rfl⟩ | ⟨h0, g, o, c, rfl, hc, hg, hw⟩
  · refine (runpack_nil p c w).mono ?_
    rintro e w' ⟨rfl, rfl⟩
    exact ⟨rfl, Below.refl _ _⟩
  · match l, h0 with
    | x :: t, _ =>
      refine (runpack_pos x t g o c w (by simp at hl; omega) hu (by simpa using hc) hg hw).mono ?_
      rintro e w' ⟨⟨hn, _⟩ | ⟨_, rfl⟩, hB⟩
      · rw [ok_of_ref x t hu hn] at h; cases h
      · exact ⟨rfl, hB⟩

theorem unpacks_big (p : Option Addr) (n c : Nat) (w : World) (hn : n ≤ maxLen) (h : 300 < n) (hT : Tab16 w) :
    Calls Tryd.prog 6 #[.slice p n c] w fun e w' => e = .returned (.bool true) ∧ Below w.heap.size w w' := by
  unfold maxLen at hn
  have h1 : (300 : Int) < (n : Int) := by omega
  have HT := Lib.hid hT
  clear hT
  go_enter Tryd.func6, Tryd.ntmps6
  go_wp2_with (go_at_call 11; refine (known_any _ HT.out).mono ?_; rintro e w7 ⟨rfl, hk⟩; have HK := Lib.hid hk; clear hk)
  go_ret
  exact ⟨rfl, HK.out⟩


set_option maxRecDepth 100000 in
set_option maxHeartbeats 4000000 in
theorem unpacks_in (p : Option Addr) (c : Nat) (l : List Int) (w : World) (hl : l.length ≤ 300) (hu : U64s l) (hr : RowAt w (.slice p l.length c) l) (hT : Tab16 w) :
    Calls Tryd.prog 6 #[.slice p l.length c] w fun e w' => e = .returned (.bool true) ∧ Below w.heap.size w w' := by
  obtain ⟨i0, hi, hz0, hz1, hz2⟩ := info_parts Tryd.info22
  have h1 : ¬ (300 : Int) < (l.length : Int) := by omega
  have HT := Lib.hid hT
  have HR := Lib.hid hr
  have HD := Lib.hid (hr.reads.2)
  cases hok : unpackOk l
  · have HY := Lib.hid (fun v w hr => unpack_no l v w (by omega) hu hr hok)
    have HZ := Lib.hid (fun v w hr => runpack_no l v w (by omega) hu hr hok)
    clear hT hr hu hok
    go_enter Tryd.func6, Tryd.ntmps6
    go_wp2_with (at_builtin; refine wpList_append_any _ rfl (.const (.slice none 0 0)) (.tmp 12) _ rfl w.heap.size 22 i0 _ 1 8 Tryd.underlying36 hi hz0 hz1 hz2 rfl (by omega) (.slice none 0 0) 0 [] rfl (World.ownsRow_nil _ _ _ _) w.heap.size _ l.length c _ rfl HD.out (ints_oneCell .u64 l) (by unfold maxLen; omega) (by omega) (Nat.le_refl _) ?_; intro v2 w2 hown2 hg2 hat2; have hB2 := (Below.refl w.heap.size w).grown hg2 (Nat.le_refl _) (fun r e => by simp [Value.ownBlock] at e); have HB2 := Lib.hid hB2; have HO2 := Lib.hid (RowAt.of_own (l := l) (by simpa using hown2)); obtain ⟨a2, n2, c2, rfl⟩ := own_slice hown2; clear hown2 hg2 hat2 hB2)
    refine (HY.out _ _ HO2.out).mono ?_
    rintro e w3 ⟨rfl, hB3⟩
    have HB3 := Lib.hid (HB2.out.trans (hB3.mono HB2.out.size))
    clear hB3 HB2
    go_wp2_with (fail)
    refine (HZ.out _ _ (HR.out.below HB3.out)).mono ?_
    rintro e w4 ⟨rfl, hB4⟩
    have HB4 := Lib.hid (HB3.out.trans (hB4.mono HB3.out.size))
    clear hB4 HB3
    go_wp2_with (fail)
    refine (known_any _ (HT.out.below HB4.out)).mono ?_
    rintro e w9 ⟨rfl, hB9⟩
    have HB9 := Lib.hid (HB4.out.trans (hB9.mono HB4.out.size))
    clear hB9
    go_wp2_with (fail)
    go_ret
    exact ⟨rfl, HB9.out⟩
  · obtain ⟨T, hTt⟩ : ∃ T, unpackT l = T := ⟨_, rfl⟩
    have HY := Lib.hid (fun v w hr => unpack_yes l v w (by omega) hu hr T hok hTt)
    have HZ := Lib.hid (fun v w hr => runpack_yes l v w (by omega) hu hr T hok hTt)
    have hpk : packW T = l := by
      unfold unpackOk at hok
      simp only [Bool.and_eq_true, decide_eq_true_eq] at hok
      rw [← hTt]; exact hok.2
    have hTl : T.length ≤ 3000 := by
      have := congrArg List.length hpk
      rw [packW_len] at this; omega
    have HPk := Lib.hid (fun w => pack_row T (by omega) w)
    rw [hpk] at HPk
    clear hT hr hu hok hTt hpk
    go_enter Tryd.func6, Tryd.ntmps6
    go_wp2_with (at_builtin; refine wpList_append_any _ rfl (.const (.slice none 0 0)) (.tmp 12) _ rfl w.heap.size 22 i0 _ 1 8 Tryd.underlying36 hi hz0 hz1 hz2 rfl (by omega) (.slice none 0 0) 0 [] rfl (World.ownsRow_nil _ _ _ _) w.heap.size _ l.length c _ rfl HD.out (ints_oneCell .u64 l) (by unfold maxLen; omega) (by omega) (Nat.le_refl _) ?_; intro v2 w2 hown2 hg2 hat2; have hB2 := (Below.refl w.heap.size w).grown hg2 (Nat.le_refl _) (fun r e => by simp [Value.ownBlock] at e); have HB2 := Lib.hid hB2; have HO2 := Lib.hid (RowAt.of_own (l := l) (by simpa using hown2)); obtain ⟨a2, n2, c2, rfl⟩ := own_slice hown2; clear hown2 hg2 hat2 hB2)
    refine (HY.out _ _ HO2.out).mono ?_
    rintro e w3 ⟨rfl, hB3⟩
    have HB3 := Lib.hid (HB2.out.trans (hB3.mono HB2.out.size))
    clear hB3 HB2
    go_wp2_with (fail)
    refine (HZ.out _ _ (HR.out.below HB3.out)).mono ?_
    rintro e w4 ⟨rfl, hB4⟩
    have HB4 := Lib.hid (HB3.out.trans (hB4.mono HB3.out.size))
    clear hB4 HB3
    go_wp2_with (fail)
    refine (HPk.out _).mono ?_
    rintro e w5 ⟨p5, n5, c5, rfl, hr5, hB5⟩
    have HR5 := Lib.hid hr5
    have HB5 := Lib.hid (HB4.out.trans (hB5.mono HB4.out.size))
    clear hr5 hB5
    go_wp2_with (fail)
    refine (same_true l l _ _ _ (by omega) HR5.out (HR.out.below HB5.out) rfl).mono ?_
    rintro e w6 ⟨rfl, q6, rfl⟩
    have HB6 := Lib.hid (below_drewN HB5.out q6)
    go_wp2_with (fail)
    refine (known_any _ (HT.out.below HB6.out)).mono ?_
    rintro e w9 ⟨rfl, hB9⟩
    have HB9 := Lib.hid (HB6.out.trans (hB9.mono HB6.out.size))
    clear hB9
    go_wp2_with (fail)
    go_ret
    exact ⟨rfl, HB9.out⟩
theorem row_of {W : World} {a : Option Addr} {c : Nat} {xs : List Int} (hcap : xs.length ≤ c) (h : 0 < xs.length → ∃ (g o : Nat), a = some ⟨g, o, none⟩ ∧ g < W.heap.size ∧ ∀ i, i < xs.length → W.cell? ⟨g, o + i, none⟩ = some (.int .u64 (xs.getD i 0))) : RowAt W (.slice a xs.length c) xs := by
  by_cases h0 : xs = []
  · subst h0; exact .inl ⟨rfl, _, _, rfl⟩
  · have hp := List.length_pos_iff.2 h0
    obtain ⟨g, o, rfl, h2, h3⟩ := h hp
    exact .inr ⟨hp, g, o, c, rfl, hcap, h2, fun i hi => by rw [h3 i hi]; simp [hi]⟩
end Go.Proofs.YtnmpgjodndfoiaaDoor
