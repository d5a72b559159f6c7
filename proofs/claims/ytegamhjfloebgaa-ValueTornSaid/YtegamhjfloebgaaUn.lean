/-
  slices.Equal of words, word.Unpack: contracts.
-/
import Derived.Test.YtegamhjfloebgaaU
import Derived.Test.YtegamhjfloebgaaPu
import Derived.Laws.IdiomStrings
import Derived.Deep.RegionWith
import Derived.StillTactics
namespace Go.Proofs.Ytegamhjfloebgaa
open Go.RowKit

theorem drewN_add (w : World) (a b : Nat) : (w.drewN a).drewN b = w.drewN (a + b) := by simp [World.drewN, Nat.add_assoc]
theorem below_drewN {B : Nat} {a w : World} (h : Below B a w) (n : Nat) : Below B a (w.drewN n) := ⟨h.os, h.tape, h.output, h.size, h.block⟩
theorem equal_nil (p q : Option Addr) (c d : Nat) (w : World) : Calls Try.prog 71 #[.slice p 0 c, .slice q 0 d] w fun e w' => e = .returned (.bool true) ∧ w = w' := by
  go_enter Try.func71, Try.ntmps71
  go_wp2_with (fail)
  refine wp_loop_rounds 1 ?_
  rw [rounds_succ]
  go_wp2_with (fail)
  go_ret
  exact ⟨rfl, rfl⟩
theorem equal_len (p q : Option Addr) (m n c d : Nat) (h : m ≠ n) (w : World) : Calls Try.prog 71 #[.slice p m c, .slice q n d] w fun e w' => e = .returned (.bool false) ∧ w = w' := by
  have hd : ((m : Int) == (n : Int)) = false := by simp; omega
  have hd2 : ((m : Int) != (n : Int)) = true := by simp; omega
  have H := Lib.hid h
  clear h
  go_enter Try.func71, Try.ntmps71
  go_wp2_with (fail)
  go_ret
  exact ⟨rfl, rfl⟩

theorem ext_eq (a b : List Int) (hl : a.length = b.length) (h : ∀ i, (ha : i < a.length) → a[i] = b[i]'(by omega)) : a = b := List.ext_getElem hl fun i h1 _ => h i h1

set_option maxRecDepth 100000 in
theorem equal_pos (a b : List Int) (ga oa ca gb ob cb : Nat) (w : World) (hn : a.length ≤ 1000000) (hl : a.length = b.length) (hA : WordsAt w ga oa a) (hB : WordsAt w gb ob b) :
    Calls Try.prog 71 #[.slice (some ⟨ga, oa, none⟩) a.length ca, .slice (some ⟨gb, ob, none⟩) a.length cb] w fun e w' => e = .returned (.bool (decide (a = b))) ∧ ∃ q, w' = w.drewN q := by
  have HA := Lib.hid hA
  have HB := Lib.hid hB
  have HL := Lib.hid hl
  have FIN := Lib.hid (fun (r : Bool) (hr : decide (a = b) = r) => show Ending.returned (.bool r) = .returned (.bool (decide (a = b))) by rw [hr])
  clear hA hB hl
  go_enter Try.func71, Try.ntmps71
  go_wp2_with (fail)
  go_loopw [13] (fun iv wr => ∃ k : Nat, k ≤ a.length ∧ iv = .int .i64 k ∧ (∃ q, wr = w.drewN q) ∧ Hid (∀ i, (h : i < k) → (ha : i < a.length) → a[i] = b[i]'(by have := HL.out; omega))) (fun iv _ => a.length - (intOf iv).toNat)
  case atStart => exact ⟨0, by omega, rfl, ⟨0, rfl⟩, Lib.hid (fun i h => by omega)⟩
  case round =>
    obtain ⟨k, hk, rfl, ⟨q, rfl⟩, hall⟩ := hrel
    by_cases hlt : k < a.length
    · have hlb : k < b.length := by have := HL.out; omega
      have c1 := HA.out k hlt
      have c2 := HB.out k hlb
      obtain ⟨x, hx⟩ : ∃ x, a[k] = x := ⟨_, rfl⟩
      obtain ⟨y, hy⟩ : ∃ y, b[k] = y := ⟨_, rfl⟩
      rw [hx] at c1
      rw [hy] at c2
      have HX := Lib.hid hx
      have HY := Lib.hid hy
      have bk : (k : Int) < (a.length : Int) := by omega
      have b9 : ((k : Int)).toNat = k := by omega
      clear hx hy
      cases hxy : (x != y)
      · have hxy' : x = y := by simpa using hxy
        have HXY := Lib.hid hxy'
        clear hxy'
        go_wp2_with (fail)
        go_quiet (fail)
        go_wp2_with (fail)
        go_roundw
        case rel => exact ⟨k + 1, by omega, by go_num, ⟨_, rfl⟩, Lib.hid (fun i h ha => by
          rcases Nat.lt_succ_iff_lt_or_eq.1 h with h' | h'
          · exact hall.out i h' ha
          · subst h'; rw [HX.out, HY.out, HXY.out])⟩
        case measure => simp [intOf]; omega
      · have HF := Lib.hid (show decide (a = b) = false from decide_eq_false (fun e => by
          subst e
          rw [HX.out] at HY
          have := HY.out
          subst this
          simp at hxy))
        go_wp2_with (fail)
        go_quiet (fail)
        go_wp2_with (fail)
        go_ret
        exact ⟨FIN.out _ HF.out, ⟨_, drewN_add _ _ _⟩⟩
    · have HF := Lib.hid (show decide (a = b) = true from decide_eq_true (ext_eq a b HL.out (fun i hi => hall.out i (by omega) hi)))
      go_wp2_with (fail)
      go_ret
      exact ⟨FIN.out _ HF.out, ⟨_, rfl⟩⟩

/-- a row of words -/
def RowAt (w : World) (v : Value) (l : List Int) : Prop := (l = [] ∧ ∃ p c, v = .slice p 0 c) ∨ (0 < l.length ∧ ∃ g o cap, v = .slice (some ⟨g, o, none⟩) l.length cap ∧ l.length ≤ cap ∧ g < w.heap.size ∧ WordsAt w g o l)
theorem RowAt.of_own {w : World} {base : Nat} {e : TypeId} {v : Value} {l : List Int} (h : w.ownsRow base e 1 v l.length (l.map (Value.int .u64))) : RowAt w v l := by
  rcases own_cases h with ⟨h0, a, c, rfl⟩ | ⟨hp, g, cap, rfl, _, h2, h3, _, h5, _⟩
  · exact .inl ⟨List.eq_nil_of_length_eq_zero h0, a, c, rfl⟩
  · exact .inr ⟨hp, g, 0, cap, rfl, h3, h2, fun i hi => by rw [Nat.zero_add, h5 i hi]; simp [hi]⟩
theorem RowAt.below {w w' : World} {v : Value} {l : List Int} (h : RowAt w v l) (hB : Below w.heap.size w w') : RowAt w' v l := by
  rcases h with h | ⟨h1, g, o, cap, h2, h3, h4, h5⟩
  · exact .inl h
  · exact .inr ⟨h1, g, o, cap, h2, h3, by have := hB.size; omega, h5.below hB h4⟩
theorem equal_r (a b : List Int) (va vb : Value) (w : World) (ha : a.length ≤ 1000000) (hA : RowAt w va a) (hB : RowAt w vb b) :
    Calls Try.prog 71 #[va, vb] w fun e w' => e = .returned (.bool (decide (a = b))) ∧ Below w.heap.size w w' := by
  rcases hA with ⟨rfl, p, c, rfl⟩ | ⟨h1, g, o, cap, rfl, _, _, hwa⟩
  · rcases hB with ⟨rfl, p2, c2, rfl⟩ | ⟨h2, g2, o2, cap2, rfl, _, _, hwb⟩
    · exact (equal_nil p p2 c c2 w).mono fun e w' ⟨h, hw⟩ => ⟨by rw [h]; simp, by subst hw; exact Below.refl _ _⟩
    · refine (equal_len p (some ⟨g2, o2, none⟩) 0 b.length c cap2 (by omega) w).mono fun e w' ⟨h, hw⟩ => ⟨?_, by subst hw; exact Below.refl _ _⟩
      rw [h, decide_eq_false]; intro e'; rw [← e'] at h2; exact absurd h2 (by simp)
  · rcases hB with ⟨rfl, p2, c2, rfl⟩ | ⟨h2, g2, o2, cap2, rfl, _, _, hwb⟩
    · refine (equal_len (some ⟨g, o, none⟩) p2 a.length 0 cap c2 (by omega) w).mono fun e w' ⟨h, hw⟩ => ⟨?_, by subst hw; exact Below.refl _ _⟩
      rw [h, decide_eq_false]; intro e'; rw [e'] at h1; exact absurd h1 (by simp)
    · by_cases hl : a.length = b.length
      · rw [← hl]
        exact (equal_pos a b g o cap g2 o2 cap2 w ha hl hwa hwb).mono fun e w' ⟨h, q, hw⟩ => ⟨h, by subst hw; exact below_drewN (Below.refl _ _) q⟩
      · refine (equal_len (some ⟨g, o, none⟩) (some ⟨g2, o2, none⟩) a.length b.length cap cap2 hl w).mono fun e w' ⟨h, hw⟩ => ⟨?_, by subst hw; exact Below.refl _ _⟩
        rw [h, decide_eq_false]; intro e'; exact hl (by rw [e'])

/-- the text of words, if they are one's -/
def unpackT (l : List Int) : List UInt8 := (bytesW l.tail).take (l.headD 0).toNat
def unpackOk (l : List Int) : Bool := !l.isEmpty && decide (l.headD 0 ≤ 8 * ((l.length : Int) - 1)) && decide (packW (unpackT l) = l)
def UnpackPost (w : World) (l : List Int) (e : Ending) (w' : World) : Prop :=
  (e = if unpackOk l = true then .returned (.tuple #[.string ⟨(unpackT l).toArray⟩, .int .i64 0]) else .returned (.tuple #[.string ⟨#[]⟩, .int .i64 11])) ∧ Below w.heap.size w w'

theorem unpack_nil (p : Option Addr) (c : Nat) (w : World) : Calls Try.prog 59 #[.slice p 0 c] w (UnpackPost w []) := by
  go_enter Try.func59, Try.ntmps59
  go_wp2_with (fail)
  go_ret2
  exact ⟨rfl, Below.refl _ _⟩

set_option maxRecDepth 100000 in
theorem unpack_big (l : List Int) (g o cap : Nat) (w : World) (hl : l.length ≤ 1000000) (hp : 0 < l.length) (hw : WordsAt w g o l) (hb : 8 * ((l.length : Int) - 1) < l.headD 0) :
    Calls Try.prog 59 #[.slice (some ⟨g, o, none⟩) l.length cap] w (UnpackPost w l) := by
  have HN := Lib.hid (show unpackOk l = false by unfold unpackOk; rw [decide_eq_false (by omega : ¬ l.headD 0 ≤ 8 * ((l.length : Int) - 1))]; simp)
  have c0 := hw 0 hp
  obtain ⟨x, hx⟩ : ∃ x, l.headD 0 = x := ⟨_, rfl⟩
  rw [show l[0] = l.headD 0 by cases l; simp at hp; rfl, hx] at c0
  rw [hx] at hb
  rw [Nat.add_zero] at c0
  have hz : ((l.length : Int) == 0) = false := by simp; intro e; subst e; simp at hp
  clear hx hw
  go_enter Try.func59, Try.ntmps59
  go_wp2_with (fail)
  go_ret2
  exact ⟨by rw [HN.out]; rfl, Below.refl _ _⟩

set_option maxRecDepth 100000 in
set_option maxHeartbeats 800000 in
theorem unpack_pos (l : List Int) (g o cap : Nat) (w : World) (hl : l.length ≤ 100000) (hcap : l.length ≤ cap) (hp : 1 < l.length) (hg : g < w.heap.size) (hw : WordsAt w g o l) (hu : U64s l) (hb : l.headD 0 ≤ 8 * ((l.length : Int) - 1)) :
    Calls Try.prog 59 #[.slice (some ⟨g, o, none⟩) l.length cap] w (UnpackPost w l) := by
  obtain ⟨r, hr⟩ : ∃ r, l.tail = r := ⟨_, rfl⟩
  have hrl : r.length = l.length - 1 := by rw [← hr]; simp
  have hx0 : 0 ≤ l.headD 0 := by
    cases l with
    | nil => simp
    | cons x t => exact (hu x (by simp)).1
  obtain ⟨n, hn⟩ := Int.eq_ofNat_of_zero_le hx0
  have c0 := hw 0 (by omega)
  rw [show l[0] = l.headD 0 by cases l; simp at hp; rfl, hn, Nat.add_zero] at c0
  have hwr : WordsAt w g (o + 1) r := fun i hi => by
    have := hw (i + 1) (by omega)
    rw [show o + 1 + i = o + (i + 1) by omega, this]
    subst hr
    simp
  have hur : U64s r := fun x hx => hu x (by subst hr; exact List.mem_of_mem_tail hx)
  have hnb : n ≤ 8 * r.length := by omega
  have HBy := Lib.hid (fun (w' : World) (hB : Below w.heap.size w w') => show Calls Try.prog 70 #[.slice (some ⟨g, o + 1, none⟩) (l.length - 1) (cap - 1)] w' (fun e w'' => ∃ v, e = .returned v ∧ w''.ownsRow w'.heap.size 5 1 v (bytesW r).length (bvals (bytesW r)) ∧ Below w'.heap.size w' w'') by
    have := bytes_l r g (o + 1) (cap - 1) (by omega) hur w' (by omega) (hwr.below hB hg)
    rwa [hrl] at this)
  obtain ⟨s, hs⟩ : ∃ s, s = unpackT l := ⟨_, rfl⟩
  have HS := Lib.hid hs
  have hsl : s.length = n := by rw [hs]; unfold unpackT; rw [hr, hn, List.length_take, bytesW_len]; omega
  have hst : s = (bytesW r).take n := by rw [hs]; unfold unpackT; rw [hr, hn]; rfl
  have FY := Lib.hid (fun (w' : World) (h : packW s = l) (hB : Below w.heap.size w w') => show UnpackPost w l (.returned (.tuple #[.string ⟨s.toArray⟩, .int .i64 0])) w' from ⟨by
    have : unpackOk l = true := by
      unfold unpackOk
      rw [← hs, decide_eq_true hb, decide_eq_true h]
      cases l; simp at hp; rfl
    rw [if_pos this, hs], hB⟩)
  have FN := Lib.hid (fun (w' : World) (h : packW s ≠ l) (hB : Below w.heap.size w w') => show UnpackPost w l (.returned (.tuple #[.string ⟨#[]⟩, .int .i64 11])) w' from ⟨by
    have : unpackOk l = false := by
      unfold unpackOk
      rw [← hs, decide_eq_false h]; simp
    rw [if_neg (by rw [this]; simp)], hB⟩)
  have hbb : (n : Int) ≤ 8 * ((l.length : Int) - 1) := by omega
  have HCV := Lib.hid (show ∀ (w2 : World) (B : Nat) (v : Value), w2.ownsRow B 5 1 v (bytesW r).length (bvals (bytesW r)) → ∃ g2 cap2, v = .slice (some ⟨g2, 0, none⟩) (bytesW r).length cap2 ∧
      (convert 48 9 (.slice (some ⟨g2, 0, none⟩) n cap2)).run Try.prog w2 = .ok (.string ⟨s.toArray⟩) w2 ∧ n ≤ cap2 from fun w2 B v hown => by
    obtain ⟨g2, cap2, rfl, _, _, h3, _, _, h5, _⟩ := own_shape hown (by rw [bytesW_len]; omega)
    refine ⟨g2, cap2, rfl, ?_, by rw [bytesW_len] at h3; omega⟩
    have := run_convert_bytes_back (P := Try.prog) w2 48 9 5 ⟨g2, 0, none⟩ cap2 s Try.underlying48 Try.underlying5 Try.underlying9 (fun j hj => by
      have hj2 : j < (bytesW r).length := by rw [bytesW_len]; omega
      have e1 : (⟨g2, 0, none⟩ : Addr).add j = ⟨g2, j, none⟩ := by unfold Addr.add; split; (rename_i h; subst h; rfl); simp
      rw [e1, h5 j hj2]
      subst hst
      simp [bvals, hj2])
    rw [hsl] at this
    exact this)
  have hbl8 : ((bytesW r).length : Int) = 8 * ((l.length : Int) - 1) := by rw [bytesW_len]; omega
  have hnl : (n : Int) ≤ ((bytesW r).length : Int) := by omega
  have hl1 : (1 : Int) ≤ (l.length : Int) := by omega
  have hl0 : 0 < l.length := by omega
  have hlc : (l.length : Int) ≤ (cap : Int) := by omega
  have HW := Lib.hid hw
  have HRL := Lib.hid hrl
  have H8 := Lib.hid hbl8
  have HSL := Lib.hid hsl
  have HST := Lib.hid hst
  have hn6 : n ≤ 1000000 := by omega
  have hcap1 : 1 < cap := by omega
  have hcne : ¬ cap = 1 := by omega
  have hz : ((l.length : Int) == 0) = false := by simp; intro e; subst e; simp at hp
  clear hs hsl hst hx0 hn hr hb hw hwr hur hu hrl hnb hbl8
  go_enter Try.func59, Try.ntmps59
  go_wp2_with (fail)
  go_region_with (go_at_call 70; refine (HBy.out _ ((Below.refl _ _).drew)).mono ?_; rintro e w2 ⟨v, rfl, hown, hB2⟩; obtain ⟨g2, cap2, rfl, hcv, hnc⟩ := HCV.out _ _ _ hown; have hc2 := ((((Below.refl w.heap.size w).drew).trans hB2).cell (p := ⟨g, o, none⟩) hg).trans c0; have HB2 := Lib.hid (((Below.refl w.heap.size w).drew).trans hB2); clear hown hB2)
  all_goals
    have hs2 := HB2.out.size
    go_wp2_with (fail)
    refine (pack_s s (by rw [HSL.out]; omega) w2).mono ?_
    rintro e w3 ⟨v, rfl, hown, hB3⟩
    have HR := Lib.hid (RowAt.of_own hown)
    have HB3 := Lib.hid (HB2.out.trans (hB3.mono hs2))
    have HWl := Lib.hid (show RowAt w3 (.slice (some ⟨g, o, none⟩) l.length cap) l from .inr ⟨by omega, g, o, cap, rfl, hcap, by have := HB3.out.size; omega, HW.out.below HB3.out hg⟩)
    clear hown hB3 hcv
    go_wp2_with (fail)
    have hpl : (packW s).length ≤ 1000000 := by rw [packW_len, HSL.out]; omega
    refine (equal_r (packW s) l _ _ w3 hpl HR.out HWl.out).mono ?_
    rintro e w4 ⟨rfl, hB4⟩
    have HB4 := Lib.hid (HB3.out.trans (hB4.mono HB3.out.size))
    clear hB4 hpl
    by_cases hd : packW s = l
    · rw [decide_eq_true hd]
      have HD := Lib.hid hd
      clear hd
      go_wp2_with (fail)
      go_ret2
      exact FY.out _ HD.out HB4.out
    · rw [decide_eq_false hd]
      have HD := Lib.hid hd
      clear hd
      go_wp2_with (fail)
      go_ret2
      exact FN.out _ HD.out HB4.out

set_option maxRecDepth 100000 in
set_option maxHeartbeats 800000 in
theorem unpack_zero (g o cap : Nat) (w : World) (hcap : 1 ≤ cap) (hg : g < w.heap.size) (hw : w.cell? ⟨g, o, none⟩ = some (.int .u64 0)) :
    Calls Try.prog 59 #[.slice (some ⟨g, o, none⟩) 1 cap] w (UnpackPost w [0]) := by
  have hcv : ∀ w' : World, (convert 48 9 (.slice none 0 0)).run Try.prog w' = .ok (.string ByteArray.empty) w' := fun w' => run_convert_bytes_nil (P := Try.prog) (w := w') 48 5 Try.underlying48 Try.underlying5 0 0 9 Try.underlying9
  have FY := Lib.hid (fun (w' : World) (hB : Below w.heap.size w w') => show UnpackPost w [0] (.returned (.tuple #[.string ByteArray.empty, .int .i64 0])) w' from ⟨by
    rw [if_pos (by decide)]; rfl, hB⟩)
  have hc1 : (1 : Int) ≤ (cap : Int) := by omega
  by_cases h1 : cap = 1
  · subst h1
    go_enter Try.func59, Try.ntmps59
    go_wp2_with (fail)
    go_region_with (go_at_call 70; refine (bytes_nil _ _ _).mono ?_; rintro e w2 ⟨rfl, rfl⟩)
    all_goals
      have hB2 := (Below.refl w.heap.size w).drew
      generalize w.drew = w2 at *
      have HB2 := Lib.hid hB2
      have hs2 := hB2.size
      clear hB2
      go_wp2_with (fail)
      refine (pack_s [] (by simp) w2).mono ?_
      rintro e w3 ⟨v, rfl, hown, hB3⟩
      have HR := Lib.hid (RowAt.of_own hown)
      have HB3 := Lib.hid (HB2.out.trans (hB3.mono hs2))
      have hw3 := (HB3.out.cell (p := ⟨g, o, none⟩) hg).trans hw
      have HWl := Lib.hid (show RowAt w3 (.slice (some ⟨g, o, none⟩) 1 1) [0] from .inr ⟨by simp, g, o, 1, rfl, hcap, by have := HB3.out.size; omega, fun i hi => by
        have hi0 : i = 0 := by simp at hi; exact hi
        subst hi0
        exact hw3⟩)
      clear hown hB3 hw3 hcv
      go_wp2_with (fail)
      refine (equal_r (packW []) [0] _ _ w3 (by decide) HR.out HWl.out).mono ?_
      rintro e w4 ⟨rfl, hB4⟩
      have HB4 := Lib.hid (HB3.out.trans (hB4.mono HB3.out.size))
      clear hB4
      rw [show decide (packW [] = [0]) = true from by decide]
      go_wp2_with (fail)
      go_ret2
      exact FY.out _ HB4.out
  · go_enter Try.func59, Try.ntmps59
    go_wp2_with (fail)
    go_region_with (go_at_call 70; refine (bytes_nil _ _ _).mono ?_; rintro e w2 ⟨rfl, rfl⟩)
    all_goals
      have hB2 := (Below.refl w.heap.size w).drew
      generalize w.drew = w2 at *
      have HB2 := Lib.hid hB2
      have hs2 := hB2.size
      clear hB2
      go_wp2_with (fail)
      refine (pack_s [] (by simp) w2).mono ?_
      rintro e w3 ⟨v, rfl, hown, hB3⟩
      have HR := Lib.hid (RowAt.of_own hown)
      have HB3 := Lib.hid (HB2.out.trans (hB3.mono hs2))
      have hw3 := (HB3.out.cell (p := ⟨g, o, none⟩) hg).trans hw
      have HWl := Lib.hid (show RowAt w3 (.slice (some ⟨g, o, none⟩) 1 cap) [0] from .inr ⟨by simp, g, o, cap, rfl, hcap, by have := HB3.out.size; omega, fun i hi => by
        have hi0 : i = 0 := by simp at hi; exact hi
        subst hi0
        exact hw3⟩)
      clear hown hB3 hw3 hcv
      go_wp2_with (fail)
      refine (equal_r (packW []) [0] _ _ w3 (by decide) HR.out HWl.out).mono ?_
      rintro e w4 ⟨rfl, hB4⟩
      have HB4 := Lib.hid (HB3.out.trans (hB4.mono HB3.out.size))
      clear hB4
      rw [show decide (packW [] = [0]) = true from by decide]
      go_wp2_with (fail)
      go_ret2
      exact FY.out _ HB4.out

theorem unpack_r (l : List Int) (v : Value) (w : World) (hl : l.length ≤ 100000) (hu : U64s l) (hr : RowAt w v l) : Calls Try.prog 59 #[v] w (UnpackPost w l) := by
  rcases hr with ⟨rfl, p, c, rfl⟩ | ⟨h1, g, o, cap, rfl, hcap, hg, hw⟩
  · exact unpack_nil p c w
  · by_cases hb : 8 * ((l.length : Int) - 1) < l.headD 0
    · exact unpack_big l g o cap w (by omega) h1 hw hb
    · by_cases h2 : 1 < l.length
      · exact unpack_pos l g o cap w hl hcap h2 hg hw hu (by omega)
      · match l, h1, h2, hu, hw, hb, hcap with
        | [x], _, _, hu, hw, hb, hcap =>
          have hx := (hu x (by simp)).1
          simp at hb
          obtain rfl : x = 0 := by omega
          exact unpack_zero g o cap w hcap hg (hw 0 (by simp))
        | x :: y :: t, _, h2, _, _, _, _ => exact absurd h2 (by simp)
end Go.Proofs.Ytegamhjfloebgaa
