/-
  value.Parse: contract.
-/
import Derived.Test.YtegamhjfloebgaaUn
namespace Go.Proofs.Ytegamhjfloebgaa
open Go.RowKit

def UP (l : List Int) : List UInt8 × Int := if unpackOk l = true then (unpackT l, 0) else ([], 11)
def parseV (c : Int) (l : List Int) : List UInt8 × Int :=
  if c < 1 ∨ 2 < c ∨ l = [] then ([], 2) else if 120 < l.headD 0 ∨ clsN (l.headD 0) ≠ c then ([], 11) else
    if l.length < (wordsN (l.headD 0)).toNat then ([], 2) else UP (l.take (wordsN (l.headD 0)).toNat)
def TextPost (w : World) (r : List UInt8 × Int) (e : Ending) (w' : World) : Prop := e = .returned (.tuple #[.string ⟨r.1.toArray⟩, .int .i64 r.2]) ∧ Below w.heap.size w w'

theorem unpack_up {w : World} {l : List Int} {e : Ending} {w' : World} (h : UnpackPost w l e w') : TextPost w (UP l) e w' := by
  obtain ⟨h1, h2⟩ := h
  refine ⟨?_, h2⟩
  rw [h1]; unfold UP
  split <;> rfl

theorem vunpack_r (l : List Int) (v : Value) (w : World) (hl : l.length ≤ 100000) (hu : U64s l) (hr : RowAt w v l) : Calls Try.prog 38 #[v] w (TextPost w (UP l)) := by
  have H := Lib.hid (unpack_r l v w hl hu hr)
  clear hr hu
  go_enter Try.func38, Try.ntmps38
  go_wp2_with (fail)
  refine H.out.mono ?_
  rintro e w1 h1
  obtain ⟨rfl, hB⟩ := unpack_up h1
  clear h1
  go_wp2_with (fail)
  go_ret2
  exact ⟨rfl, hB⟩

theorem parse_nil (c : Int) (p : Option Addr) (cp : Nat) (w : World) : Calls Try.prog 18 #[.int .i64 c, .slice p 0 cp] w (TextPost w (parseV c [])) := by
  have FIN := Lib.hid (show parseV c [] = ([], 2) by unfold parseV; rw [if_pos (.inr (.inr rfl))])
  by_cases h1 : c < 1
  · go_enter Try.func18, Try.ntmps18
    go_wp2_with (fail)
    go_ret2
    exact ⟨by rw [FIN.out]; rfl, Below.refl _ _⟩
  · by_cases h2 : 2 < c
    · go_enter Try.func18, Try.ntmps18
      go_wp2_with (fail)
      go_ret2
      exact ⟨by rw [FIN.out]; rfl, Below.refl _ _⟩
    · have d2 : decide (2 < c) = false := decide_eq_false h2
      go_enter Try.func18, Try.ntmps18
      go_wp2_with (fail)
      go_ret2
      exact ⟨by rw [FIN.out]; rfl, Below.refl _ _⟩

set_option maxRecDepth 100000 in
set_option maxHeartbeats 800000 in
theorem parse_pos (c : Int) (l : List Int) (g o cap : Nat) (w : World) (hl : l.length ≤ 100000) (hp : 0 < l.length) (hcap : l.length ≤ cap) (hg : g < w.heap.size) (hw : WordsAt w g o l) (hu : U64s l) :
    Calls Try.prog 18 #[.int .i64 c, .slice (some ⟨g, o, none⟩) l.length cap] w (TextPost w (parseV c l)) := by
  have hz : ((l.length : Int) == 0) = false := by simp; intro e; subst e; simp at hp
  by_cases h1 : c < 1
  · have FIN := Lib.hid (show parseV c l = ([], 2) by unfold parseV; rw [if_pos (.inl h1)])
    go_enter Try.func18, Try.ntmps18
    go_wp2_with (fail)
    go_ret2
    exact ⟨by rw [FIN.out]; rfl, Below.refl _ _⟩
  by_cases h2 : 2 < c
  · have FIN := Lib.hid (show parseV c l = ([], 2) by unfold parseV; rw [if_pos (.inr (.inl h2))])
    go_enter Try.func18, Try.ntmps18
    go_wp2_with (fail)
    go_ret2
    exact ⟨by rw [FIN.out]; rfl, Below.refl _ _⟩
  have d2 : decide (2 < c) = false := decide_eq_false h2
  have hne : l ≠ [] := by intro e; subst e; simp at hp
  have E0 : parseV c l = if 120 < l.headD 0 ∨ clsN (l.headD 0) ≠ c then ([], 11) else if l.length < (wordsN (l.headD 0)).toNat then ([], 2) else UP (l.take (wordsN (l.headD 0)).toNat) := by
    unfold parseV; rw [if_neg (by intro h; rcases h with h | h | h; exact h1 h; exact h2 h; exact hne h)]
  have c0 := hw 0 hp
  obtain ⟨x, hx⟩ : ∃ x, l.headD 0 = x := ⟨_, rfl⟩
  have hx2 : l[0] = x := by rw [← hx]; cases l; simp at hp; rfl
  rw [hx2, Nat.add_zero] at c0
  have hxu := hu x (by rw [← hx2]; exact List.getElem_mem _)
  rw [hx] at E0
  obtain ⟨x0, x1⟩ := hxu
  have E := Lib.hid E0
  have hl0 : 0 < l.length := hp
  by_cases h3 : 120 < x
  · have FIN := Lib.hid (E.out.trans (if_pos (.inl h3)))
    clear hx hx2 E0 hne hw hu
    go_enter Try.func18, Try.ntmps18
    go_wp2_with (fail)
    go_ret2
    exact ⟨by rw [FIN.out]; rfl, Below.refl _ _⟩
  have d3 : decide (120 < x) = false := decide_eq_false h3
  have HC := Lib.hid (class_n x w)
  obtain ⟨y, hy⟩ : ∃ y, clsN x = y := ⟨_, rfl⟩
  rw [hy] at HC
  by_cases h4 : y = c
  · have hyb : (y != c) = false := by simpa using h4
    have hE2 := E.out.trans (if_neg (by rw [hy]; intro h; rcases h with h | h; exact h3 h; exact h h4))
    have HW := Lib.hid (words_n x)
    obtain ⟨n, hn⟩ : ∃ n : Nat, wordsN x = (n : Int) := ⟨(wordsN x).toNat, by unfold wordsN; rw [if_neg (by omega)]; omega⟩
    have hnb : 1 ≤ n ∧ n ≤ 16 := by unfold wordsN at hn; rw [if_neg (by omega)] at hn; omega
    rw [hn] at HW
    rw [hn, Int.toNat_natCast] at hE2
    have E2 := Lib.hid hE2
    obtain ⟨n1, n2⟩ := hnb
    have HWA := Lib.hid hw
    have HU := Lib.hid hu
    by_cases h5 : l.length < n
    · have FIN := Lib.hid (E2.out.trans (if_pos h5))
      have d5 : decide ((l.length : Int) < (n : Int)) = true := decide_eq_true (by omega)
      clear hx hx2 E0 hne hw hu hy h4 hE2 hn
      go_enter Try.func18, Try.ntmps18
      go_wp2_with (first
        | (go_at_call 31; refine HC.out.mono ?_; rintro e w1 ⟨rfl, hB⟩; have HB := Lib.hid hB; have c1 := (hB.cell (p := ⟨g, o, none⟩) hg).trans c0; clear hB)
        | (go_at_call 13; refine (HW.out _).mono ?_; rintro e w2 ⟨rfl, rfl⟩))
      go_ret2
      exact ⟨by rw [FIN.out]; rfl, HB.out⟩
    · have FIN := Lib.hid (E2.out.trans (if_neg h5))
      have hlt : (l.take n).length = n := by rw [List.length_take]; omega
      have HUP := Lib.hid (fun (w1 : World) (hB : Below w.heap.size w w1) => show Calls Try.prog 38 #[.slice (some ⟨g, o, none⟩) n n] w1 (TextPost w1 (UP (l.take n))) from
        vunpack_r (l.take n) _ w1 (by omega) (fun z hz => HU.out z (List.mem_of_mem_take hz)) (.inr ⟨by omega, g, o, n, by rw [hlt], by omega, by have := hB.size; omega, fun i hi => by
          have := HWA.out.below hB hg i (by omega)
          rw [this]; simp⟩))
      have d5 : decide ((l.length : Int) < (n : Int)) = false := decide_eq_false (by omega)
      have d6 : (n : Int) ≤ (cap : Int) := by omega
      clear hx hx2 E0 hne hw hu hy h4 hE2 hn hlt
      go_enter Try.func18, Try.ntmps18
      go_wp2_with (first
        | (go_at_call 31; refine HC.out.mono ?_; rintro e w1 ⟨rfl, hB⟩; have HB := Lib.hid hB; have c1 := (hB.cell (p := ⟨g, o, none⟩) hg).trans c0; clear hB)
        | (go_at_call 13; refine (HW.out _).mono ?_; rintro e w2 ⟨rfl, rfl⟩))
      refine (HUP.out _ HB.out).mono ?_
      rintro e w3 ⟨rfl, hB3⟩
      have HB3 := Lib.hid (HB.out.trans (hB3.mono HB.out.size))
      clear hB3
      go_wp2_with (fail)
      go_ret2
      exact ⟨by rw [FIN.out]; rfl, HB3.out⟩
  · have hyb : (y != c) = true := by simpa using h4
    have FIN := Lib.hid (E.out.trans (if_pos (.inr (by rw [hy]; exact h4))))
    clear hx hx2 E0 hne hw hu hy h4
    go_enter Try.func18, Try.ntmps18
    go_wp2_with (go_at_call 31; refine HC.out.mono ?_; rintro e w1 ⟨rfl, hB⟩)
    go_ret2
    exact ⟨by rw [FIN.out]; rfl, hB⟩
end Go.Proofs.Ytegamhjfloebgaa
