/-
  ValuePuts: THE WALK.
-/
import Derived.Test.YtegamhjfloebgaaVn
namespace Go.Proofs.Ytegamhjfloebgaa
open Go.RowKit

def eK (l : List (Int × Int)) (i : Nat) : Int := (l.getD i (0, 0)).1
def eP (l : List (Int × Int)) (i : Nat) : Int := (l.getD i (0, 0)).2
def EntsAt (w : World) (g o : Nat) (l : List (Int × Int)) : Prop :=
  ∀ i, i < l.length → w.cell? ⟨g, o + i * 2, none⟩ = some (.int .u64 (eK l i)) ∧ w.cell? ⟨g, o + i * 2 + 1, none⟩ = some (.int .u64 (eP l i))
theorem EntsAt.below {w w' : World} {B g o : Nat} {l : List (Int × Int)} (h : EntsAt w g o l) (hB : Below B w w') (hg : g < B) : EntsAt w' g o l := by
  intro i hi
  obtain ⟨h1, h2⟩ := h i hi
  exact ⟨(hB.cell (p := ⟨g, o + i * 2, none⟩) hg).trans h1, (hB.cell (p := ⟨g, o + i * 2 + 1, none⟩) hg).trans h2⟩
theorem ecells_get (l : List (Int × Int)) : ∀ i, i < l.length → (ecells l)[i * 2]? = some (.int .u64 (eK l i)) ∧ (ecells l)[i * 2 + 1]? = some (.int .u64 (eP l i)) := by
  induction l with
  | nil => intro i h; simp at h
  | cons x r ih =>
    intro i h
    cases i with
    | zero => simp [ecells, eK, eP]
    | succ i =>
      have := ih i (by simpa using h)
      have e : ecells (x :: r) = .int .u64 x.1 :: .int .u64 x.2 :: ecells r := by simp [ecells]
      rw [e, show (i + 1) * 2 = i * 2 + 1 + 1 by omega]
      simpa [eK, eP] using this
theorem own_ents {w : World} {base : Nat} {e : TypeId} {v : Value} {n : Nat} {l : List (Int × Int)} (h : w.ownsRow base e 2 v n (ecells l)) (hn : n = l.length) (hp : 0 < n) :
    ∃ g cap, v = .slice (some ⟨g, 0, none⟩) n cap ∧ base ≤ g ∧ g < w.heap.size ∧ n ≤ cap ∧ cap ≤ maxLen ∧ EntsAt w g 0 l := by
  obtain ⟨g, cap, h1, h2, h3, h4, h5, _, h7, _⟩ := own_shapeK h hp
  refine ⟨g, cap, h1, h2, h3, h4, h5, fun i hi => ?_⟩
  obtain ⟨e1, e2⟩ := ecells_get l i hi
  rw [Nat.zero_add]
  exact ⟨(h7 (i * 2) (by omega)).trans e1, (h7 (i * 2 + 1) (by omega)).trans e2⟩

theorem vputs_long (base n : Int) (s : ByteArray) (w : World) (h : 300 < s.size) (hm : s.size ≤ maxLen) :
    Calls Try.prog 3 #[.int .u64 base, .string s, .int .i64 n] w fun e w' => e = .returned (.bool true) ∧ Below w.heap.size w w' := by
  unfold maxLen at hm
  have h1 : (300 : Int) < (s.size : Int) := by omega
  go_enter Try.func3, Try.ntmps3
  go_wp2_with (go_at_call 8; refine (known_any _).mono ?_; rintro e w' ⟨rfl, hB⟩)
  go_ret
  exact ⟨rfl, hB⟩

set_option maxRecDepth 100000 in
set_option maxHeartbeats 1600000 in
theorem vputs_short (base n : Int) (l : List UInt8) (w : World) (h : l.length ≤ 300) (h0 : 0 ≤ base) (hm : base ≤ 18446744073709551615) :
    Calls Try.prog 3 #[.int .u64 base, .string ⟨l.toArray⟩, .int .i64 n] w fun e w' => e = .returned (.bool true) ∧ Below w.heap.size w w' := by
  have HV := Lib.hid (vclass_s l w (by omega))
  have HP := Lib.hid (fun w1 => puts_s base l (by omega) h0 hm w1)
  have HR := Lib.hid (fun w1 => rputs_s base l (by omega) w1)
  have HC := Lib.hid (fun w1 => rclass_n l.length w1)
  have HW := Lib.hid (fun w1 => words_n n w1)
  have HRW := Lib.hid (fun w1 => rwords_n n w1)
  obtain ⟨wn, hwn⟩ : ∃ wn, wordsN n = wn := ⟨_, rfl⟩
  rw [hwn] at HW HRW
  have h300 : ¬ (300 : Int) < (l.length : Int) := by omega
  clear hwn
  by_cases h120 : 120 < l.length
  · have hcl := cls_0 l.length h120
    rw [hcl] at HV HC
    rw [if_neg (by decide)] at HV
    have d1 : decide ((120 : Int) < (l.length : Int)) = true := decide_eq_true (by omega)
    have H1 := Lib.hid h120
    clear hcl h120
    go_enter Try.func3, Try.ntmps3
    go_wp2_with (fail)
    refine HV.out.mono ?_
    rintro e w1 ⟨rfl, hB1⟩
    have HB1 := Lib.hid hB1
    clear hB1
    go_wp2_with (fail)
    refine (HP.out w1).mono ?_
    rintro e w2 ⟨hx, hB2⟩
    rw [if_pos H1.out] at hx
    subst hx
    have HB2 := Lib.hid (HB1.out.trans (hB2.mono HB1.out.size))
    clear hB2
    go_wp2_with (fail)
    refine (HR.out w2).mono ?_
    rintro e w3 ⟨hx, hB3⟩
    rw [if_pos H1.out] at hx
    subst hx
    have HB3 := Lib.hid (HB2.out.trans (hB3.mono HB2.out.size))
    clear hB3
    go_wp2_with (first
      | (go_at_call 12; refine (HC.out _).mono ?_; rintro e w4 ⟨rfl, rfl⟩)
      | (go_at_call 13; refine (HW.out _).mono ?_; rintro e w4 ⟨rfl, rfl⟩)
      | (go_at_call 14; refine (HRW.out _).mono ?_; rintro e w4 ⟨rfl, rfl⟩))
    refine wp_loop_rounds 1 ?_
    rw [rounds_succ]
    go_wp2_with (go_at_call 8; refine (known_any _).mono ?_; rintro e w5 ⟨rfl, hB5⟩)
    go_ret
    exact ⟨rfl, HB3.out.trans (hB5.mono HB3.out.size)⟩
  · have hcl := cls_12 l.length (by omega)
    obtain ⟨c, hc⟩ : ∃ c, c = clsN l.length := ⟨_, rfl⟩
    rw [← hc] at hcl HV HC
    rw [if_pos (by omega)] at HV
    have d1 : decide ((120 : Int) < (l.length : Int)) = false := decide_eq_false (by omega)
    have H1 := Lib.hid h120
    have HCC := Lib.hid hc
    clear hcl h120 hc
    go_enter Try.func3, Try.ntmps3
    go_wp2_with (fail)
    refine HV.out.mono ?_
    rintro e w1 ⟨rfl, hB1⟩
    have HB1 := Lib.hid hB1
    clear hB1
    go_wp2_with (fail)
    refine (HP.out w1).mono ?_
    rintro e w2 ⟨hx, hB2⟩
    rw [if_neg H1.out] at hx
    have HB2 := Lib.hid (HB1.out.trans (hB2.mono HB1.out.size))
    clear hB2
    rcases hx with ⟨hn, rfl⟩ | ⟨hy, v, rfl, hown⟩
    · have HN := Lib.hid hn
      clear hn
      go_wp2_with (fail)
      refine (HR.out w2).mono ?_
      rintro e w3 ⟨hx, hB3⟩
      rw [if_neg H1.out] at hx
      have HB3 := Lib.hid (HB2.out.trans (hB3.mono HB2.out.size))
      clear hB3
      rcases hx with ⟨hn, rfl⟩ | ⟨hy, _⟩
      · clear hn
        go_wp2_with (first
          | (go_at_call 12; refine (HC.out _).mono ?_; rintro e w4 ⟨rfl, rfl⟩)
          | (go_at_call 13; refine (HW.out _).mono ?_; rintro e w4 ⟨rfl, rfl⟩)
          | (go_at_call 14; refine (HRW.out _).mono ?_; rintro e w4 ⟨rfl, rfl⟩))
        refine wp_loop_rounds 1 ?_
        rw [rounds_succ]
        go_wp2_with (go_at_call 8; refine (known_any _).mono ?_; rintro e w5 ⟨rfl, hB5⟩)
        go_ret
        exact ⟨rfl, HB3.out.trans (hB5.mono HB3.out.size)⟩
      · exact absurd hy HN.out
    · have HY := Lib.hid hy
      have hpl := packW_len l
      have hLL : (putsL base l).length = (packW l).length := by unfold putsL; rw [putTo_len]
      obtain ⟨L, hL⟩ : ∃ L, putsL base l = L := ⟨_, rfl⟩
      rw [hL] at hLL hown
      have hLp : 0 < L.length := by omega
      have hLm : L.length ≤ 20 := by have := H1.out; omega
      have hwl : wordsN (l.length : Int) = (L.length : Int) := by unfold wordsN; rw [if_neg (by have := H1.out; omega)]; omega
      have HWL := Lib.hid (fun w1 => rwords_n (l.length : Int) w1)
      rw [hwl] at HWL
      obtain ⟨ga, ca, rfl, _, hga, _, _, hA⟩ := own_ents hown rfl hLp
      have HA := Lib.hid hA
      have HL := Lib.hid hL
      clear hy hpl hLL hL hwl hown hA
      go_wp2_with (fail)
      refine (HR.out w2).mono ?_
      rintro e w3 ⟨hx, hB3⟩
      rw [if_neg H1.out] at hx
      have HA3 := Lib.hid (HA.out.below hB3 hga)
      have hga3 : ga < w3.heap.size := by have := hB3.size; omega
      have HB3 := Lib.hid (HB2.out.trans (hB3.mono HB2.out.size))
      clear hB3
      rcases hx with ⟨hn, _⟩ | ⟨_, v, rfl, hown⟩
      · exact absurd HY.out hn
      · rw [HL.out] at hown
        obtain ⟨gb, cb, rfl, _, hgb, _, _, hB⟩ := own_ents hown rfl hLp
        have HBb := Lib.hid hB
        clear hown hB
        go_wp2_with (first
          | (go_at_call 12; refine (HC.out _).mono ?_; rintro e w4 ⟨rfl, rfl⟩)
          | (go_at_call 13; refine (HW.out _).mono ?_; rintro e w4 ⟨rfl, rfl⟩)
          | (go_at_call 14; refine (HRW.out _).mono ?_; rintro e w4 ⟨rfl, rfl⟩))
        go_loopw [13] (fun iv wr => ∃ k : Nat, k ≤ L.length ∧ iv = .int .i64 k ∧ Below w3.heap.size w3 wr) (fun iv _ => L.length - (intOf iv).toNat)
        case atStart => exact ⟨0, by omega, rfl, Below.refl _ _⟩
        case round =>
          obtain ⟨k, hk, rfl, hBr⟩ := hrel
          have HBr := Lib.hid hBr
          by_cases hlt : k < L.length
          · obtain ⟨c1, c2⟩ := HA3.out.below hBr hga3 k hlt
            obtain ⟨d1', d2'⟩ := HBb.out.below hBr hgb k hlt
            generalize eK L k = x at *
            generalize eP L k = y at *
            rw [Nat.zero_add] at c1 c2 d1' d2'
            have b5 : (k : Int) < (L.length : Int) := by omega
            have b9 : ((k : Int)).toNat = k := by omega
            clear hBr
            go_wp2_with (fail)
            go_quiet (fail)
            have HBq := Lib.hid (below_drewN HBr.out nq)
            go_wp2_with (fail)
            go_roundw
            case rel => exact ⟨k + 1, by omega, by go_num, HBq.out⟩
            case measure => simp [intOf]; omega
          · have HBx := Lib.hid (HB3.out.trans (hBr.mono HB3.out.size))
            clear hBr
            go_wp2_with (first
              | (go_at_call 14; refine (HWL.out _).mono ?_; rintro e w4 ⟨rfl, rfl⟩)
              | (go_at_call 8; refine (known_any _).mono ?_; rintro e w5 ⟨rfl, hB5⟩))
            go_ret
            exact ⟨rfl, HBx.out.trans (hB5.mono HBx.out.size)⟩
end Go.Proofs.Ytegamhjfloebgaa
