/-
  leveelaw02.known.
-/
import Derived.Test.YticgfnnmjcjnjaaPzb
namespace Go.Proofs.Yticgfnnmjcjnjaa
open Go.RowKit Go.Maps
attribute [local go_sem] Oper.semAt_some
set_option linter.unusedVariables false

/-- bytes as a text -/
theorem conv_rowM {w : World} {B : Nat} {v : Value} {M : List UInt8} (h : w.ownsRow B 5 1 v M.length (bvals M)) : (convert 29 9 v).run Try.prog w = .ok (.string ⟨M.toArray⟩) w := by
  obtain ⟨p, n, c, rfl⟩ := own_slice h
  obtain rfl : n = M.length := own_len h
  have hr := Reads.of_own h
  cases p with
  | none =>
    have hM : M = [] := by
      cases M with
      | nil => rfl
      | cons a t => obtain ⟨ad, e, _⟩ := hr.2 (by simp); cases e
    subst hM
    exact run_convert_bytes_nil (P := Try.prog) (w := w) 29 5 Try.underlying29 Try.underlying5 0 c 9 Try.underlying9
  | some a =>
    refine run_convert_bytes_back (P := Try.prog) w 29 9 5 a c M Try.underlying29 Try.underlying5 Try.underlying9 (fun j hj => ?_)
    obtain ⟨ad, e, _, hc⟩ := hr.2 (by omega)
    cases e
    refine hc j _ ?_
    simp [bvals, List.getElem?_eq_getElem hj]
theorem ext_getD {a b : List Int} (hl : a.length = b.length) (h : ∀ k, k < b.length → a.getD k 0 = b.getD k 0) : a = b := by
  apply List.ext_getElem hl
  intro k h1 h2
  have := h k h2
  simpa [List.getD_eq_getElem?_getD, h1, h2] using this
/-- a memory that a law made: what it is, and what was there stays -/
def KM (W w : World) (mb : Nat) (vs is : List Int) (mk : Int → Nat → Int) (F : Int → List (Int × Int)) (st fl fe : Int) : Prop :=
  ∃ S, MemP w mb S vs is mk F 0 st fl fe ∧ (∀ i, S i → W.heap.size ≤ i) ∧ Below W.heap.size W w
section
variable {W w w' : World} {mb : Nat} {vs is : List Int} {mk : Int → Nat → Int} {F : Int → List (Int × Int)} {st fl fe : Int}
theorem KM.b (h : KM W w mb vs is mk F st fl fe) : Below W.heap.size W w := by obtain ⟨S, h1, h2, h3⟩ := h; exact h3
theorem KM.mono (h : KM W w mb vs is mk F st fl fe) (hB : Below w.heap.size w w') : KM W w' mb vs is mk F st fl fe := by
  obtain ⟨S, h1, h2, h3⟩ := h
  exact ⟨S, h1.below hB, h2, h3.trans (hB.mono h3.size)⟩
theorem KM.memG (h : KM W w mb vs is mk F st fl fe) : ∃ S, MemP w mb S vs is mk F 0 st fl fe ∧ ∀ (vs' is' : List Int) (mk' : Int → Nat → Int) (F' : Int → List (Int × Int)) (st' fl' fe' : Int) (w' : World), MemG w mb S vs' is' mk' F' 0 st' fl' fe' w' → KM W w' mb vs' is' mk' F' st' fl' fe' := by
  obtain ⟨S, h1, h2, h3⟩ := h
  refine ⟨S, h1, fun vs' is' mk' F' st' fl' fe' w' ⟨S', g1, g2, g3⟩ => ⟨S', g1, fun i hi => ?_, h3.keeps (Nat.le_refl _) g3 h2⟩⟩
  rcases g2 i hi with h | h
  · exact h2 i h
  · exact Nat.le_trans h3.size h
theorem km_store (h : KM W w mb vs is mk F st fl fe) (a x : Int) (h0 : 0 ≤ a) (h1 : a ≤ 18446744073709551615) (he : atE vs.length a = 0) (hs : st ≤ 1000000) :
    Calls Try.prog 13 #[.pointer (some ⟨mb, 0, none⟩), .int .u64 a, .int .u64 x] w fun e w' => e = .returned (.int .i64 0) ∧ KM W w' mb (vs.set (a / 8).toNat x) is mk (updF F (lineOf a) (F (lineOf a) ++ [(a, x)])) (st + 1) fl fe := by
  obtain ⟨S, hm, hg⟩ := h.memG
  refine (store_m hm a x h0 h1 he hs).mono ?_
  rintro e w' ⟨rfl, h⟩
  exact ⟨rfl, hg _ _ _ _ _ _ _ _ h⟩
theorem km_flush (h : KM W w mb vs is mk F st fl fe) (c : Nat) (hc : c ≤ 64) (a : Int) (h0 : 0 ≤ a) (h1 : a ≤ 18446744073709551615) (he : atE vs.length a = 0) (hs : st ≤ 1000000) (hf : fl ≤ 1000000) :
    Calls Try.prog 14 #[.pointer (some ⟨mb, 0, none⟩), .int .i64 c, .int .u64 a] w fun e w' => e = .returned (.int .i64 0) ∧ KM W w' mb vs is (updM mk (lineOf a) (mkS (mk (lineOf a)) c (F (lineOf a)).length)) F st (fl + 1) fe := by
  obtain ⟨S, hm, hg⟩ := h.memG
  refine (flush_m hm c hc a h0 h1 he hs hf).mono ?_
  rintro e w' ⟨rfl, h⟩
  exact ⟨rfl, hg _ _ _ _ _ _ _ _ h⟩
theorem km_fence (h : KM W w mb vs is mk F st fl fe) (c : Nat) (hc : c ≤ 64) (hs : st ≤ 1000000) (hf : fe ≤ 1000000) :
    Calls Try.prog 15 #[.pointer (some ⟨mb, 0, none⟩), .int .i64 c] w fun e w' => e = .returned (.int .i64 0) ∧ ∃ mk' is', is'.length = is.length ∧ (∀ k, is'.getD k 0 = imX is F mk c k) ∧ KM W w' mb vs is' mk' (FF F mk c) st fl (fe + 1) := by
  obtain ⟨S, hm, hg⟩ := h.memG
  refine (fence_m hm c hc hs hf).mono ?_
  rintro e w' ⟨rfl, mk', is', _, _, h1, h2, h⟩
  exact ⟨rfl, mk', is', h1, h2, hg _ _ _ _ _ _ _ _ h⟩
theorem km_image (h : KM W w mb vs is mk F st fl fe) (hu : U64s is) (hl : is.length = 16) :
    Calls Try.prog 9 #[.pointer (some ⟨mb, 0, none⟩)] w fun e w' => ∃ v, e = .returned v ∧ w'.ownsRow w.heap.size 5 1 v (bytesW is).length (bvals (bytesW is)) ∧ Below w.heap.size w w' ∧ KM W w' mb vs is mk F st fl fe := by
  obtain ⟨S, hm, hg⟩ := id h
  refine (image_m hm hu).mono ?_
  rintro e w' ⟨v, rfl, ho, hB⟩
  exact ⟨v, rfl, ho, hB, h.mono hB⟩
theorem km_view (h : KM W w mb vs is mk F st fl fe) (hu : U64s vs) :
    Calls Try.prog 8 #[.pointer (some ⟨mb, 0, none⟩)] w fun e w' => ∃ v, e = .returned v ∧ w'.ownsRow w.heap.size 5 1 v (bytesW vs).length (bvals (bytesW vs)) ∧ Below w.heap.size w w' ∧ KM W w' mb vs is mk F st fl fe := by
  obtain ⟨S, hm, hg⟩ := id h
  refine (view_m hm hu).mono ?_
  rintro e w' ⟨v, rfl, ho, hB⟩
  exact ⟨v, rfl, ho, hB, h.mono hB⟩
end
/-- bytes in a row of 128 -/
theorem row128 {w : World} {B : Nat} {v : Value} {is : List Int} (h : w.ownsRow B 5 1 v (bytesW is).length (bvals (bytesW is))) (hl : is.length = 16) :
    ∃ g c, v = .slice (some ⟨g, 0, none⟩) 128 c ∧ B ≤ g ∧ g < w.heap.size ∧ ∀ i, i < 128 → w.cell? ⟨g, i, none⟩ = (bvals (bytesW is))[i]? := by
  have hb : (bytesW is).length = 128 := by rw [bytesW_len, hl]
  rcases own_cases h with ⟨h0, _⟩ | ⟨_, g, c, e, h1, h2, _, _, h3, _⟩
  · omega
  · rw [hb] at e h3
    exact ⟨g, c, e, h1, h2, h3⟩
def kF2 : Int → List (Int × Int) := updF (updF (fun _ => []) (lineOf 0) ([] ++ [(0, 1)])) (lineOf 8) (updF (fun _ => []) (lineOf 0) ([] ++ [(0, 1)]) (lineOf 8) ++ [(8, 2)])
def kMk : Int → Nat → Int := updM (fun _ _ => 0) (lineOf 0) (mkS (fun _ => 0) 0 (kF2 (lineOf 0)).length)
def kF3 : Int → List (Int × Int) := updF kF2 (lineOf 0) (kF2 (lineOf 0) ++ [(0, 3)])
def kF4 : Int → List (Int × Int) := FF kF3 kMk 0
def kF5 : Int → List (Int × Int) := updF kF4 (lineOf 64) (kF4 (lineOf 64) ++ [(64, 5)])
def kIs : List Int := [1, 2, 0, 0, 0, 0, 0, 0, 0, 0, 0, 0, 0, 0, 0, 0]
def kVs : List Int := [3, 2, 0, 0, 0, 0, 0, 0, 0, 0, 0, 0, 0, 0, 0, 0]
def kIz : List Int := [1, 2, 0, 0, 0, 0, 0, 0, 5, 0, 0, 0, 0, 0, 0, 0]
theorem k_small {l : List Int} (h : l.all (fun x => decide (0 ≤ x ∧ x ≤ 9)) = true) : U64s l := fun x hx => by
  have := of_decide_eq_true (List.all_eq_true.1 h x hx)
  omega
theorem kIs_u : U64s kIs := k_small (by decide)
theorem kVs_u : U64s kVs := k_small (by decide)
theorem kIz_u : U64s kIz := k_small (by decide)
theorem kF5_at (a : Int) : kF5 a = if a = 64 then [(64, 5)] else if a = 0 then [(0, 3)] else [] := by
  have e4 : ∀ b, kF4 b = if b = 0 then [(0, 3)] else [] := fun b => by
    show (kF3 b).drop (kMk b 0).toNat = _
    by_cases hb : b = 0
    · subst hb; decide
    · have h3 : kF3 b = [] := by
        have e0 : lineOf 0 = 0 := by decide
        have e8 : lineOf 8 = 0 := by decide
        unfold kF3 kF2 updF
        rw [e0, e8, if_neg hb, if_neg hb, if_neg hb]
      rw [h3, if_neg hb, List.drop_nil]
  have e64 : lineOf 64 = 64 := by decide
  unfold kF5 updF
  rw [e64]
  by_cases h : a = 64
  · rw [if_pos h, if_pos h, e4, if_neg (by decide)]; rfl
  · rw [if_neg h, if_neg h, e4]
theorem srt_pair {xs : List Int} (h : KeysF kF5 xs) : srt xs = [0, 64] := by
  have hm : ∀ a, a ∈ srt xs ↔ a = 0 ∨ a = 64 := fun a => by
    rw [srt_mem, h.2.1 a, kF5_at]
    by_cases h64 : a = 64
    · simp [h64]
    · by_cases h0 : a = 0
      · simp [h0]
      · simp [h64, h0]
  have hnd : (srt xs).Nodup := (srt_perm xs).nodup_iff.2 h.1
  have hs : (srt xs).Pairwise (· ≤ ·) := by
    have := List.pairwise_mergeSort (le := fun x y : Int => decide (x ≤ y)) (fun a b c h1 h2 => by simp at *; omega) (fun a b => by simp; omega) xs
    exact this.imp (fun h => by simpa using h)
  generalize srt xs = l at hm hnd hs
  match l, hm, hnd, hs with
  | [], hm, _, _ => exact absurd ((hm 0).2 (.inl rfl)) (by simp)
  | [a], hm, _, _ =>
    have h1 := (hm 0).2 (.inl rfl)
    have h2 := (hm 64).2 (.inr rfl)
    simp at h1 h2
    omega
  | [a, b], hm, hnd, hs =>
    have h1 := (hm a).1 (by simp)
    have h2 := (hm b).1 (by simp)
    simp at hnd hs
    have e1 : a = 0 := by omega
    have e2 : b = 64 := by omega
    rw [e1, e2]
  | a :: b :: c :: r, hm, hnd, hs =>
    have h1 := (hm a).1 (by simp)
    have h2 := (hm b).1 (by simp)
    have h3 := (hm c).1 (by simp)
    simp at hnd
    omega
theorem kn_fence {is' : List Int} (hl : is'.length = (List.replicate 16 (0 : Int)).length) (h : ∀ k, is'.getD k 0 = imX (List.replicate 16 0) kF3 kMk 0 k) : is' = kIs := by
  refine ext_getD (by rw [hl]; rfl) (fun k hk => ?_)
  rw [h k]
  have : ∀ k, k < 16 → imX (List.replicate 16 0) kF3 kMk 0 k = kIs.getD k 0 := by decide
  exact this k hk
theorem kn_crash {isF xs : List Int} (hk : KeysF kF5 xs) (hl : isF.length = kIs.length) (h : ∀ k, isF.getD k 0 = (lastIm kIs ((kF5 (lnW k)).take (foldQ kF5 [0, 1] (srt xs) (List.finRange (srt xs).length) (lnW k)))).getD k 0) : isF = kIz := by
  refine ext_getD (by rw [hl]; rfl) (fun k hk16 => ?_)
  rw [h k, srt_pair hk]
  have : ∀ k, k < 16 → (lastIm kIs ((kF5 (lnW k)).take (foldQ kF5 [0, 1] [0, 64] (List.finRange 2) (lnW k)))).getD k 0 = kIz.getD k 0 := by decide
  exact this k hk16
/-- the crash that known has -/
theorem km_crash {W w : World} {mb : Nat} {mk : Int → Nat → Int} {st fl fe : Int} (h : KM W w mb (kVs.set 8 5) kIs mk kF5 st fl fe) (hs : st ≤ 1000000) (t : TypeId) :
    Calls Try.prog 17 #[.pointer (some ⟨mb, 0, none⟩), .slice (some ⟨w.heap.size, 0, none⟩) 2 2] (w.alloc (.cells #[.int .i64 0, .int .i64 1] t)) fun e w' => e = .returned (.tuple #[]) ∧ KM W w' mb kIz kIz (fun _ _ => 0) (fun _ => []) st fl fe := by
  have hB : Below w.heap.size w (w.alloc (.cells #[.int .i64 0, .int .i64 1] t)) := (Below.refl _ w).alloc (Nat.le_refl _) _
  obtain ⟨S, h1, h2, h3⟩ := h.mono hB
  have hlt : ∀ i, S i → i < w.heap.size ∨ True := fun _ _ => .inr trivial
  obtain ⟨S0, g1, g2, g3⟩ := h
  have hm : MemD (w.alloc (.cells #[.int .i64 0, .int .i64 1] t)) mb S0 ⟨kVs.set 8 5, kIs, mk, kF5, 0, st, fl, fe⟩ := g1.below hB
  have hsz : (w.alloc (.cells #[.int .i64 0, .int .i64 1] t)).heap.size = w.heap.size + 1 := by simp
  refine (crash_m (ks := [0, 1]) hm (show (kVs.set 8 5).length ≤ 1000 by decide) hs (some ⟨w.heap.size, 0, none⟩) 2 (by decide) (by decide) (fun _ => ⟨w.heap.size, 0, rfl, by omega, fun hS => by have := g1.lt hS; omega, fun i hi => ?_⟩)).mono ?_
  · have hblk : Blk (w.alloc (.cells #[.int .i64 0, .int .i64 1] t)) w.heap.size #[.int .i64 0, .int .i64 1] t := Blk.new w _ _
    have hc := hblk.cell
    rw [hc]
    match i, hi with
    | 0, _ => rfl
    | 1, _ => rfl
  · rintro e w' ⟨rfl, S', isF, xs, hk, hl, hi, hm', hS', hK⟩
    obtain rfl := kn_crash hk hl hi
    refine ⟨rfl, S', hm', fun i hi => ?_, ?_⟩
    · rcases hS' i hi with h | h
      · exact g2 i h
      · have := g3.size; omega
    · exact (g3.trans (hB.mono g3.size)).keeps (Nat.le_refl _) hK g2
set_option maxRecDepth 100000 in
set_option maxHeartbeats 4000000 in
theorem known_v (w : World) : Calls Try.prog 6 #[] w fun e w' => e = .returned (.bool true) ∧ Below w.heap.size w w' := by
  have HN := Lib.hid (new_z 16 w (by decide) (by decide) (by decide))
  go_enter Try.func6, Try.ntmps6
  go_wp2_with (fail)
  refine HN.out.mono ?_
  rintro e w1 ⟨mb, S, rfl, hm, hS, hB⟩
  have HK1 := Lib.hid (show KM w w1 mb (List.replicate 16 0) (List.replicate 16 0) (fun _ _ => 0) (fun _ => []) 0 0 0 from ⟨S, hm, hS, hB⟩)
  clear hm hS hB
  go_wp2_with (fail)
  refine (km_store HK1.out 0 1 (by decide) (by decide) (by decide) (by decide)).mono ?_
  rintro e w2 ⟨rfl, hk⟩
  have HK2 := Lib.hid hk
  clear hk
  go_wp2_with (fail)
  refine (km_store HK2.out 8 2 (by decide) (by decide) (by decide) (by decide)).mono ?_
  rintro e w3 ⟨rfl, hk⟩
  have HK3 := Lib.hid hk
  clear hk
  go_wp2_with (fail)
  refine (km_flush HK3.out 0 (by decide) 0 (by decide) (by decide) (by decide) (by decide) (by decide)).mono ?_
  rintro e w4 ⟨rfl, hk⟩
  have HK4 := Lib.hid hk
  clear hk
  go_wp2_with (fail)
  refine (km_store HK4.out 0 3 (by decide) (by decide) (by decide) (by decide)).mono ?_
  rintro e w5 ⟨rfl, hk⟩
  have HK5 := Lib.hid hk
  clear hk
  go_wp2_with (fail)
  refine (km_fence HK5.out 0 (by decide) (by decide) (by decide)).mono ?_
  rintro e w6 ⟨rfl, mk', is', hl, hi, hk⟩
  obtain rfl := kn_fence hl hi
  have HK6 := Lib.hid (show KM w w6 mb kVs kIs mk' kF4 3 1 1 from hk)
  clear hk hl hi HK1 HK2 HK3 HK4 HK5
  go_wp2_with (fail)
  refine (km_image HK6.out kIs_u rfl).mono ?_
  rintro e w7 ⟨v1, rfl, hr1, hb7, hk⟩
  obtain ⟨g1, c1, rfl, hg1, hl1, hc1⟩ := row128 hr1 rfl
  have HK7 := Lib.hid hk
  have HA7 := Lib.hid (And.intro hl1 (And.intro ((hc1 0 (by decide)).trans (show _ = some (Value.int .u8 1) by kernel_rfl)) ((hc1 8 (by decide)).trans (show _ = some (Value.int .u8 2) by kernel_rfl))))
  clear hk hr1 hb7 hg1 hl1 hc1
  go_wp2_with (fail)
  refine (km_view HK7.out kVs_u).mono ?_
  rintro e w8 ⟨v2, rfl, hr2, hb8, hk⟩
  obtain ⟨g2, c2, rfl, hg2, hl2, hc2⟩ := row128 hr2 rfl
  have HK8 := Lib.hid hk
  have d1 : w8.cell? ⟨g1, 0, none⟩ = some (.int .u8 1) := (hb8.cell (p := ⟨g1, 0, none⟩) HA7.out.1).trans HA7.out.2.1
  have d2 : w8.cell? ⟨g1, 8, none⟩ = some (.int .u8 2) := (hb8.cell (p := ⟨g1, 8, none⟩) HA7.out.1).trans HA7.out.2.2
  have d3 : w8.cell? ⟨g2, 0, none⟩ = some (.int .u8 3) := (hc2 0 (by decide)).trans (by kernel_rfl)
  clear hk hr2 hb8 hg2 hl2 hc2 HK7 HA7
  have HPd := Lib.hid (show Calls Try.prog 16 #[.pointer (some ⟨mb, 0, none⟩), .int .u64 8] w8 fun e w' => e = .returned (.int .i64 1) ∧ w' = w8.drew by
    obtain ⟨S, hm, _, _⟩ := HK8.out
    exact pend_m hm 8 (by decide) (by decide) (by decide))
  go_wp2_with (fail)
  refine HPd.out.mono ?_
  rintro e w9 ⟨rfl, rfl⟩
  have HK9 := Lib.hid (HK8.out.mono (Below.refl _ _).drew)
  clear d1 d2 d3 HPd HK8
  generalize w8.drew = w9 at HK9
  go_wp2_with (fail)
  refine (km_store HK9.out 64 5 (by decide) (by decide) (by decide) (by decide)).mono ?_
  rintro e w10 ⟨rfl, hk⟩
  have HK10 := Lib.hid (show KM w w10 mb (kVs.set 8 5) kIs mk' kF5 4 1 1 from hk)
  clear hk HK9
  go_wp2_with (fail)
  refine (km_crash HK10.out (by decide) _).mono ?_
  rintro e w11 ⟨rfl, hk⟩
  have HK11 := Lib.hid hk
  clear hk HK10
  go_wp2_with (fail)
  refine (km_image HK11.out kIz_u rfl).mono ?_
  rintro e w12 ⟨v3, rfl, hr3, hb12, hk⟩
  obtain ⟨MI, hMI⟩ : ∃ MI, bytesW kIz = MI := ⟨_, rfl⟩
  obtain ⟨BI, hBI⟩ : ∃ BI : ByteArray, (⟨MI.toArray⟩ : ByteArray) = BI := ⟨_, rfl⟩
  obtain ⟨g3, c3, rfl, hg3, hl3, hc3⟩ := row128 hr3 rfl
  have HVw := Lib.hid (fun W (hB : Below w12.heap.size w12 W) => km_view (hk.mono hB) kIz_u)
  have HCb := Lib.hid (fun W (hB : Below w12.heap.size w12 W) => And.intro ((hB.cell (p := ⟨g3, 0, none⟩) hl3).trans ((hc3 0 (by decide)).trans (show _ = some (Value.int .u8 1) by kernel_rfl))) (And.intro ((hB.cell (p := ⟨g3, 8, none⟩) hl3).trans ((hc3 8 (by decide)).trans (show _ = some (Value.int .u8 2) by kernel_rfl))) ((hB.cell (p := ⟨g3, 64, none⟩) hl3).trans ((hc3 64 (by decide)).trans (show _ = some (Value.int .u8 5) by kernel_rfl)))))
  rw [hMI] at hr3 HVw
  have HRb := Lib.hid (fun W (hB : Below w12.heap.size w12 W) => conv_rowM (own_keeps hr3 (Keeps.of_below' hB) (fun _ _ h => h)))
  rw [hBI] at HRb
  have HBI := Lib.hid hBI
  have HBw := Lib.hid hk.b
  clear hk hr3 hb12 hg3 hl3 hc3 hMI hBI HK11
  go_wp2_with (fail)
  --GEN r_kn15
  refine wp_region_vals [Is (.slice (some ⟨g3, 0, none⟩) 128 c3), Is (.int .i64 128), Is (.bool true), Is (.bool true), Is (.slice (some ⟨g3, 0, none⟩) 128 c3), Is (.pointer (some ⟨g3, 0, none⟩)), Is (.int .u8 1), Is (.bool true), Is (.bool true), Is (.bool true), Is (.slice (some ⟨g3, 0, none⟩) 128 c3), Is (.pointer (some ⟨g3, 8, none⟩)), Is (.int .u8 2), Is (.bool true), Is (.bool true), Is (.bool true), Is (.slice (some ⟨g3, 0, none⟩) 128 c3), Is (.pointer (some ⟨g3, 64, none⟩)), Is (.int .u8 5), Is (.bool true), Is (.bool true), Is (.bool true), Is (.slice (some ⟨g3, 0, none⟩) 128 c3), Is (.string BI), Is (.pointer (some ⟨mb, 0, none⟩)), fun v W => W.ownsRow w12.heap.size 5 1 v MI.length (bvals MI), Is (.string BI), Is (.bool true), Is (.bool true), Is (.bool true)]
    (fun _ W W' => Below W.heap.size W W') (fun _ W => Below w12.heap.size w12 W) (by kernel_rfl) (by kernel_rfl) (by kernel_rfl) ?hst ?h0 ⟨?o0, ?o1, ?o2, ?o3, ?o4, ?o5, ?o6, ?o7, ?o8, ?o9, ?o10, ?o11, ?o12, ?o13, ?o14, ?o15, ?o16, ?o17, ?o18, ?o19, ?o20, ?o21, ?o22, ?o23, ?o24, ?o25, ?o26, ?o27, ?o28, ?o29, trivial⟩ ?he
  case hst =>
    exact ⟨(fun _ _ _ _ _ _ h _ => h), (fun _ _ _ _ _ _ h _ => h), (fun _ _ _ _ _ _ h _ => h), (fun _ _ _ _ _ _ h _ => h), (fun _ _ _ _ _ _ h _ => h), (fun _ _ _ _ _ _ h _ => h), (fun _ _ _ _ _ _ h _ => h), (fun _ _ _ _ _ _ h _ => h), (fun _ _ _ _ _ _ h _ => h), (fun _ _ _ _ _ _ h _ => h), (fun _ _ _ _ _ _ h _ => h), (fun _ _ _ _ _ _ h _ => h), (fun _ _ _ _ _ _ h _ => h), (fun _ _ _ _ _ _ h _ => h), (fun _ _ _ _ _ _ h _ => h), (fun _ _ _ _ _ _ h _ => h), (fun _ _ _ _ _ _ h _ => h), (fun _ _ _ _ _ _ h _ => h), (fun _ _ _ _ _ _ h _ => h), (fun _ _ _ _ _ _ h _ => h), (fun _ _ _ _ _ _ h _ => h), (fun _ _ _ _ _ _ h _ => h), (fun _ _ _ _ _ _ h _ => h), (fun _ _ _ _ _ _ h _ => h), (fun _ _ _ _ _ _ h _ => h), (fun _ _ _ _ _ _ h hR => own_keeps h (Keeps.of_below' hR) (fun _ _ h => h)), (fun _ _ _ _ _ _ h _ => h), (fun _ _ _ _ _ _ h _ => h), (fun _ _ _ _ _ _ h _ => h), (fun _ _ _ _ _ _ h _ => h), trivial⟩
  case h0 =>
    exact (Below.refl _ _).drew
  case o0 =>
    intro L vs A W H hf hd K hK
    have e5 : A.tmps[5]?.getD undef = .slice (some ⟨g3, 0, none⟩) 128 c3 := H.old 5 (by kernel_rfl)
    go_simp
    exact hK _ _ (Below.refl _ _) rfl (H.glob)
  case o1 =>
    intro L vs A W H hf hd K hK
    have e68 := H.is 0 68 rfl rfl rfl (deps_of' hd 0 (by kernel_rfl)) (by kernel_rfl)
    go_simp
    exact hK _ _ (Below.refl _ _) rfl (H.glob)
  case o2 =>
    intro L vs A W H hf hd K hK
    have e69 := H.is 1 69 rfl rfl rfl (deps_of' hd 1 (by kernel_rfl)) (by kernel_rfl)
    go_simp
    exact hK _ _ (Below.refl _ _) rfl (H.glob)
  case o3 =>
    intro L vs A W H hf hd K hK
    have e70 := H.is 2 70 rfl rfl rfl (deps_of' hd 2 (by kernel_rfl)) (by kernel_rfl)
    go_simp
    exact hK _ _ (Below.refl _ _) rfl (H.glob)
  case o4 =>
    intro L vs A W H hf hd K hK
    have e71 := H.is 3 71 rfl rfl rfl (deps_of' hd 3 (by kernel_rfl)) (by kernel_rfl)
    refine if_wanted (j := 3) (s := 71) rfl rfl rfl e71 rfl ?_
    have e5 : A.tmps[5]?.getD undef = .slice (some ⟨g3, 0, none⟩) 128 c3 := H.old 5 (by kernel_rfl)
    go_simp
    exact hK _ _ (Below.refl _ _) rfl (H.glob)
  case o5 =>
    intro L vs A W H hf hd K hK
    have e71 := H.is 3 71 rfl rfl rfl (deps_of' hd 3 (by kernel_rfl)) (by kernel_rfl)
    refine if_wanted (j := 3) (s := 71) rfl rfl rfl e71 rfl ?_
    have e72 := H.is 4 72 rfl rfl rfl (deps_of' hd 4 (by kernel_rfl)) (by kernel_rfl)
    go_simp
    exact hK _ _ (Below.refl _ _) rfl (H.glob)
  case o6 =>
    intro L vs A W H hf hd K hK
    have e71 := H.is 3 71 rfl rfl rfl (deps_of' hd 3 (by kernel_rfl)) (by kernel_rfl)
    refine if_wanted (j := 3) (s := 71) rfl rfl rfl e71 rfl ?_
    have e73 := H.is 5 73 rfl rfl rfl (deps_of' hd 5 (by kernel_rfl)) (by kernel_rfl)
    have d : W.cell? ⟨g3, 0, none⟩ = some (.int .u8 1) := (HCb.out W H.glob).1
    go_simp
    exact hK _ _ (Below.refl _ _) rfl (H.glob)
  case o7 =>
    intro L vs A W H hf hd K hK
    have e71 := H.is 3 71 rfl rfl rfl (deps_of' hd 3 (by kernel_rfl)) (by kernel_rfl)
    refine if_wanted (j := 3) (s := 71) rfl rfl rfl e71 rfl ?_
    have e74 := H.is 6 74 rfl rfl rfl (deps_of' hd 6 (by kernel_rfl)) (by kernel_rfl)
    go_simp
    exact hK _ _ (Below.refl _ _) rfl (H.glob)
  case o8 =>
    intro L vs A W H hf hd K hK
    have e71 := H.is 3 71 rfl rfl rfl (deps_of' hd 3 (by kernel_rfl)) (by kernel_rfl)
    have e75 := H.is 7 75 rfl rfl rfl (deps_of' hd 7 (by kernel_rfl)) (by kernel_rfl)
    go_simp
    exact hK _ _ (Below.refl _ _) rfl (H.glob)
  case o9 =>
    intro L vs A W H hf hd K hK
    have e76 := H.is 8 76 rfl rfl rfl (deps_of' hd 8 (by kernel_rfl)) (by kernel_rfl)
    go_simp
    exact hK _ _ (Below.refl _ _) rfl (H.glob)
  case o10 =>
    intro L vs A W H hf hd K hK
    have e77 := H.is 9 77 rfl rfl rfl (deps_of' hd 9 (by kernel_rfl)) (by kernel_rfl)
    refine if_wanted (j := 9) (s := 77) rfl rfl rfl e77 rfl ?_
    have e5 : A.tmps[5]?.getD undef = .slice (some ⟨g3, 0, none⟩) 128 c3 := H.old 5 (by kernel_rfl)
    go_simp
    exact hK _ _ (Below.refl _ _) rfl (H.glob)
  case o11 =>
    intro L vs A W H hf hd K hK
    have e77 := H.is 9 77 rfl rfl rfl (deps_of' hd 9 (by kernel_rfl)) (by kernel_rfl)
    refine if_wanted (j := 9) (s := 77) rfl rfl rfl e77 rfl ?_
    have e78 := H.is 10 78 rfl rfl rfl (deps_of' hd 10 (by kernel_rfl)) (by kernel_rfl)
    go_simp
    exact hK _ _ (Below.refl _ _) rfl (H.glob)
  case o12 =>
    intro L vs A W H hf hd K hK
    have e77 := H.is 9 77 rfl rfl rfl (deps_of' hd 9 (by kernel_rfl)) (by kernel_rfl)
    refine if_wanted (j := 9) (s := 77) rfl rfl rfl e77 rfl ?_
    have e79 := H.is 11 79 rfl rfl rfl (deps_of' hd 11 (by kernel_rfl)) (by kernel_rfl)
    have d : W.cell? ⟨g3, 8, none⟩ = some (.int .u8 2) := (HCb.out W H.glob).2.1
    go_simp
    exact hK _ _ (Below.refl _ _) rfl (H.glob)
  case o13 =>
    intro L vs A W H hf hd K hK
    have e77 := H.is 9 77 rfl rfl rfl (deps_of' hd 9 (by kernel_rfl)) (by kernel_rfl)
    refine if_wanted (j := 9) (s := 77) rfl rfl rfl e77 rfl ?_
    have e80 := H.is 12 80 rfl rfl rfl (deps_of' hd 12 (by kernel_rfl)) (by kernel_rfl)
    go_simp
    exact hK _ _ (Below.refl _ _) rfl (H.glob)
  case o14 =>
    intro L vs A W H hf hd K hK
    have e77 := H.is 9 77 rfl rfl rfl (deps_of' hd 9 (by kernel_rfl)) (by kernel_rfl)
    have e81 := H.is 13 81 rfl rfl rfl (deps_of' hd 13 (by kernel_rfl)) (by kernel_rfl)
    go_simp
    exact hK _ _ (Below.refl _ _) rfl (H.glob)
  case o15 =>
    intro L vs A W H hf hd K hK
    have e82 := H.is 14 82 rfl rfl rfl (deps_of' hd 14 (by kernel_rfl)) (by kernel_rfl)
    go_simp
    exact hK _ _ (Below.refl _ _) rfl (H.glob)
  case o16 =>
    intro L vs A W H hf hd K hK
    have e83 := H.is 15 83 rfl rfl rfl (deps_of' hd 15 (by kernel_rfl)) (by kernel_rfl)
    refine if_wanted (j := 15) (s := 83) rfl rfl rfl e83 rfl ?_
    have e5 : A.tmps[5]?.getD undef = .slice (some ⟨g3, 0, none⟩) 128 c3 := H.old 5 (by kernel_rfl)
    go_simp
    exact hK _ _ (Below.refl _ _) rfl (H.glob)
  case o17 =>
    intro L vs A W H hf hd K hK
    have e83 := H.is 15 83 rfl rfl rfl (deps_of' hd 15 (by kernel_rfl)) (by kernel_rfl)
    refine if_wanted (j := 15) (s := 83) rfl rfl rfl e83 rfl ?_
    have e84 := H.is 16 84 rfl rfl rfl (deps_of' hd 16 (by kernel_rfl)) (by kernel_rfl)
    go_simp
    exact hK _ _ (Below.refl _ _) rfl (H.glob)
  case o18 =>
    intro L vs A W H hf hd K hK
    have e83 := H.is 15 83 rfl rfl rfl (deps_of' hd 15 (by kernel_rfl)) (by kernel_rfl)
    refine if_wanted (j := 15) (s := 83) rfl rfl rfl e83 rfl ?_
    have e85 := H.is 17 85 rfl rfl rfl (deps_of' hd 17 (by kernel_rfl)) (by kernel_rfl)
    have d : W.cell? ⟨g3, 64, none⟩ = some (.int .u8 5) := (HCb.out W H.glob).2.2
    go_simp
    exact hK _ _ (Below.refl _ _) rfl (H.glob)
  case o19 =>
    intro L vs A W H hf hd K hK
    have e83 := H.is 15 83 rfl rfl rfl (deps_of' hd 15 (by kernel_rfl)) (by kernel_rfl)
    refine if_wanted (j := 15) (s := 83) rfl rfl rfl e83 rfl ?_
    have e86 := H.is 18 86 rfl rfl rfl (deps_of' hd 18 (by kernel_rfl)) (by kernel_rfl)
    go_simp
    exact hK _ _ (Below.refl _ _) rfl (H.glob)
  case o20 =>
    intro L vs A W H hf hd K hK
    have e83 := H.is 15 83 rfl rfl rfl (deps_of' hd 15 (by kernel_rfl)) (by kernel_rfl)
    have e87 := H.is 19 87 rfl rfl rfl (deps_of' hd 19 (by kernel_rfl)) (by kernel_rfl)
    go_simp
    exact hK _ _ (Below.refl _ _) rfl (H.glob)
  case o21 =>
    intro L vs A W H hf hd K hK
    have e88 := H.is 20 88 rfl rfl rfl (deps_of' hd 20 (by kernel_rfl)) (by kernel_rfl)
    go_simp
    exact hK _ _ (Below.refl _ _) rfl (H.glob)
  case o22 =>
    intro L vs A W H hf hd K hK
    have e89 := H.is 21 89 rfl rfl rfl (deps_of' hd 21 (by kernel_rfl)) (by kernel_rfl)
    refine if_wanted (j := 21) (s := 89) rfl rfl rfl e89 rfl ?_
    have e5 : A.tmps[5]?.getD undef = .slice (some ⟨g3, 0, none⟩) 128 c3 := H.old 5 (by kernel_rfl)
    go_simp
    exact hK _ _ (Below.refl _ _) rfl (H.glob)
  case o23 =>
    intro L vs A W H hf hd K hK
    have e89 := H.is 21 89 rfl rfl rfl (deps_of' hd 21 (by kernel_rfl)) (by kernel_rfl)
    refine if_wanted (j := 21) (s := 89) rfl rfl rfl e89 rfl ?_
    have e90 := H.is 22 90 rfl rfl rfl (deps_of' hd 22 (by kernel_rfl)) (by kernel_rfl)
    have hcv := HRb.out W H.glob
    go_simp
    exact hK _ _ (Below.refl _ _) rfl H.glob
  case o24 =>
    intro L vs A W H hf hd K hK
    have e89 := H.is 21 89 rfl rfl rfl (deps_of' hd 21 (by kernel_rfl)) (by kernel_rfl)
    refine if_wanted (j := 21) (s := 89) rfl rfl rfl e89 rfl ?_
    have e1 : A.tmps[1]?.getD undef = .pointer (some ⟨mb, 0, none⟩) := H.old 1 (by kernel_rfl)
    go_simp
    exact hK _ _ (Below.refl _ _) rfl (H.glob)
  case o25 =>
    intro L vs A W H hf hd K hK
    have e89 := H.is 21 89 rfl rfl rfl (deps_of' hd 21 (by kernel_rfl)) (by kernel_rfl)
    refine if_wanted (j := 21) (s := 89) rfl rfl rfl e89 rfl ?_
    have e92 := H.is 24 92 rfl rfl rfl (deps_of' hd 24 (by kernel_rfl)) (by kernel_rfl)
    go_simp
    refine (HVw.out _ H.glob).mono ?_
    rintro e W2 ⟨v, rfl, ho, hB, _⟩
    go_simp
    exact hK _ _ hB (own_mono ho H.glob.size) (H.glob.trans (hB.mono H.glob.size))
  case o26 =>
    intro L vs A W H hf hd K hK
    have e89 := H.is 21 89 rfl rfl rfl (deps_of' hd 21 (by kernel_rfl)) (by kernel_rfl)
    refine if_wanted (j := 21) (s := 89) rfl rfl rfl e89 rfl ?_
    obtain ⟨v93, e93, q93⟩ := H.val 25 93 rfl rfl rfl (deps_of' hd 25 (by kernel_rfl)) (by kernel_rfl)
    have hcv := conv_rowM q93
    rw [HBI.out] at hcv
    obtain ⟨p9, n9, c9, rfl⟩ := own_slice q93
    go_simp
    exact hK _ _ (Below.refl _ _) rfl H.glob
  case o27 =>
    intro L vs A W H hf hd K hK
    have e89 := H.is 21 89 rfl rfl rfl (deps_of' hd 21 (by kernel_rfl)) (by kernel_rfl)
    refine if_wanted (j := 21) (s := 89) rfl rfl rfl e89 rfl ?_
    have e91 := H.is 23 91 rfl rfl rfl (deps_of' hd 23 (by kernel_rfl)) (by kernel_rfl)
    have e94 := H.is 26 94 rfl rfl rfl (deps_of' hd 26 (by kernel_rfl)) (by kernel_rfl)
    go_simp
    exact hK _ _ (Below.refl _ _) rfl (H.glob)
  case o28 =>
    intro L vs A W H hf hd K hK
    have e89 := H.is 21 89 rfl rfl rfl (deps_of' hd 21 (by kernel_rfl)) (by kernel_rfl)
    have e95 := H.is 27 95 rfl rfl rfl (deps_of' hd 27 (by kernel_rfl)) (by kernel_rfl)
    go_simp
    exact hK _ _ (Below.refl _ _) rfl (H.glob)
  case o29 =>
    intro L vs A W H hf hd K hK
    have e96 := H.is 28 96 rfl rfl rfl (deps_of' hd 28 (by kernel_rfl)) (by kernel_rfl)
    go_simp
    exact hK _ _ (Below.refl _ _) rfl (H.glob)
  case he =>
    intro vs W hlen hv
    match vs, hlen, hv with
    | [x0_, x1_, x2_, x3_, x4_, x5_, x6_, x7_, x8_, x9_, x10_, x11_, x12_, x13_, x14_, x15_, x16_, x17_, x18_, x19_, x20_, x21_, x22_, x23_, x24_, x25_, x26_, x27_, x28_, x29_], _, hv =>
    obtain rfl : (.slice (some ⟨g3, 0, none⟩) 128 c3) = x0_ := by obtain ⟨z, h1, h2⟩ := hv 0 _ rfl; cases h1; exact h2.symm
    obtain rfl : (.int .i64 128) = x1_ := by obtain ⟨z, h1, h2⟩ := hv 1 _ rfl; cases h1; exact h2.symm
    obtain rfl : (.bool true) = x2_ := by obtain ⟨z, h1, h2⟩ := hv 2 _ rfl; cases h1; exact h2.symm
    obtain rfl : (.bool true) = x3_ := by obtain ⟨z, h1, h2⟩ := hv 3 _ rfl; cases h1; exact h2.symm
    obtain rfl : (.slice (some ⟨g3, 0, none⟩) 128 c3) = x4_ := by obtain ⟨z, h1, h2⟩ := hv 4 _ rfl; cases h1; exact h2.symm
    obtain rfl : (.pointer (some ⟨g3, 0, none⟩)) = x5_ := by obtain ⟨z, h1, h2⟩ := hv 5 _ rfl; cases h1; exact h2.symm
    obtain rfl : (.int .u8 1) = x6_ := by obtain ⟨z, h1, h2⟩ := hv 6 _ rfl; cases h1; exact h2.symm
    obtain rfl : (.bool true) = x7_ := by obtain ⟨z, h1, h2⟩ := hv 7 _ rfl; cases h1; exact h2.symm
    obtain rfl : (.bool true) = x8_ := by obtain ⟨z, h1, h2⟩ := hv 8 _ rfl; cases h1; exact h2.symm
    obtain rfl : (.bool true) = x9_ := by obtain ⟨z, h1, h2⟩ := hv 9 _ rfl; cases h1; exact h2.symm
    obtain rfl : (.slice (some ⟨g3, 0, none⟩) 128 c3) = x10_ := by obtain ⟨z, h1, h2⟩ := hv 10 _ rfl; cases h1; exact h2.symm
    obtain rfl : (.pointer (some ⟨g3, 8, none⟩)) = x11_ := by obtain ⟨z, h1, h2⟩ := hv 11 _ rfl; cases h1; exact h2.symm
    obtain rfl : (.int .u8 2) = x12_ := by obtain ⟨z, h1, h2⟩ := hv 12 _ rfl; cases h1; exact h2.symm
    obtain rfl : (.bool true) = x13_ := by obtain ⟨z, h1, h2⟩ := hv 13 _ rfl; cases h1; exact h2.symm
    obtain rfl : (.bool true) = x14_ := by obtain ⟨z, h1, h2⟩ := hv 14 _ rfl; cases h1; exact h2.symm
    obtain rfl : (.bool true) = x15_ := by obtain ⟨z, h1, h2⟩ := hv 15 _ rfl; cases h1; exact h2.symm
    obtain rfl : (.slice (some ⟨g3, 0, none⟩) 128 c3) = x16_ := by obtain ⟨z, h1, h2⟩ := hv 16 _ rfl; cases h1; exact h2.symm
    obtain rfl : (.pointer (some ⟨g3, 64, none⟩)) = x17_ := by obtain ⟨z, h1, h2⟩ := hv 17 _ rfl; cases h1; exact h2.symm
    obtain rfl : (.int .u8 5) = x18_ := by obtain ⟨z, h1, h2⟩ := hv 18 _ rfl; cases h1; exact h2.symm
    obtain rfl : (.bool true) = x19_ := by obtain ⟨z, h1, h2⟩ := hv 19 _ rfl; cases h1; exact h2.symm
    obtain rfl : (.bool true) = x20_ := by obtain ⟨z, h1, h2⟩ := hv 20 _ rfl; cases h1; exact h2.symm
    obtain rfl : (.bool true) = x21_ := by obtain ⟨z, h1, h2⟩ := hv 21 _ rfl; cases h1; exact h2.symm
    obtain rfl : (.slice (some ⟨g3, 0, none⟩) 128 c3) = x22_ := by obtain ⟨z, h1, h2⟩ := hv 22 _ rfl; cases h1; exact h2.symm
    obtain rfl : (.string BI) = x23_ := by obtain ⟨z, h1, h2⟩ := hv 23 _ rfl; cases h1; exact h2.symm
    obtain rfl : (.pointer (some ⟨mb, 0, none⟩)) = x24_ := by obtain ⟨z, h1, h2⟩ := hv 24 _ rfl; cases h1; exact h2.symm
    have hx25 : (fun v W => W.ownsRow w12.heap.size 5 1 v MI.length (bvals MI)) x25_ W := by obtain ⟨z, h1, h2⟩ := hv 25 _ rfl; cases h1; exact h2
    obtain rfl : (.string BI) = x26_ := by obtain ⟨z, h1, h2⟩ := hv 26 _ rfl; cases h1; exact h2.symm
    obtain rfl : (.bool true) = x27_ := by obtain ⟨z, h1, h2⟩ := hv 27 _ rfl; cases h1; exact h2.symm
    obtain rfl : (.bool true) = x28_ := by obtain ⟨z, h1, h2⟩ := hv 28 _ rfl; cases h1; exact h2.symm
    obtain rfl : (.bool true) = x29_ := by obtain ⟨z, h1, h2⟩ := hv 29 _ rfl; cases h1; exact h2.symm
    intro L hall hG
    clear hv hlen
    have HG := Lib.hid hG
    clear hG hall hx25
    simp only [fill, if_true]
    simp [Act.put]
  --END
    go_wp2_with (fail)
    go_ret
    exact ⟨rfl, HBw.out.trans (HG.out.mono HBw.out.size)⟩
end Go.Proofs.Yticgfnnmjcjnjaa
