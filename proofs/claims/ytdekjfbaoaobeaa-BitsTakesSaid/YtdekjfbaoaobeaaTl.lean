/-
  The law BitsTakes, walked.
-/
import Derived.Test.YtdekjfbaoaobeaaTk
import Derived.Test.YtdekjfbaoaobeaaKn
import Derived.Test.YtdekjfbaoaobeaaCls
import Derived.BigQuiet
import Derived.Deep.QuietTactic
namespace Go.Proofs.Ytdekjfbaoaobeaa
open Go.RowKit

theorem takes_out (a a2 : Option Addr) (n c n2 c2 : Nat) (w : World) (hn : n ≤ maxLen) (hn2 : n2 ≤ maxLen) (h : 200 < n ∨ 200 < n2) :
    Calls Try.prog 6 #[.slice a n c, .slice a2 n2 c2] w fun e w' => e = .returned (.bool true) ∧ Below w.heap.size w w' := by
  unfold maxLen at hn hn2
  by_cases h1 : 200 < n
  · have h1' : (200 : Int) < (n : Int) := by omega
    go_enter Try.func6, Try.ntmps6
    go_wp2_with (go_at_call 15; refine (known_any _).mono ?_; rintro e w7 ⟨rfl, hk⟩; have HK := Lib.hid hk; clear hk)
    go_ret
    exact ⟨rfl, HK.out⟩
  · have h1' : ¬ (200 : Int) < (n : Int) := by omega
    have h2' : (200 : Int) < (n2 : Int) := by omega
    go_enter Try.func6, Try.ntmps6
    go_wp2_with (go_at_call 15; refine (known_any _).mono ?_; rintro e w7 ⟨rfl, hk⟩; have HK := Lib.hid hk; clear hk)
    go_ret
    exact ⟨rfl, HK.out⟩

def InS (L O : List Int) (k : Nat) (S : List Int) : Prop := S.Nodup ∧ (∀ x, x ∈ S ↔ (x ∈ L ∧ x ≠ 0) ∧ x ∉ O.take k) ∧ S.length ≤ 200
theorem InS.next {L O : List Int} {k : Nat} {S : List Int} (h : InS L O k S) (hk : k < O.length) : InS L O (k + 1) (S.erase (O.getD k 0)) := by
  obtain ⟨h1, h2, h3⟩ := h
  refine ⟨h1.erase _, fun x => ?_, Nat.le_trans (List.length_erase_le ..) h3⟩
  rw [h1.mem_erase_iff, h2, take_snocI O k hk, List.mem_append, List.mem_singleton]
  constructor
  · rintro ⟨a, b, c⟩; exact ⟨b, fun e => e.elim c a⟩
  · rintro ⟨b, c⟩; exact ⟨fun e => c (.inr e), b, fun e => c (.inl e)⟩

theorem KSet.drewN {B : Nat} {w0 w : World} {b : Nat} {S : List Int} (h : KSet B w0 b S w) (q : Nat) : KSet B w0 b S (w.drewN q) := by
  obtain ⟨v, l, hs, hp, ho, hb, hB, hW⟩ := h
  exact ⟨v, l, ⟨hs.hv.drewN q, hs.hp, hs.nd⟩, hp, ho, hb, hB, belowN hW q⟩
def hasB2 (x : Int) (R : List Int) (k : Nat) : Bool := decide (x ∈ R.take k)
def goneB (x : Int) (O : List Int) (k : Nat) : Bool := decide (x = 0 ∨ x ∈ O.take k)

set_option maxRecDepth 100000 in
set_option maxHeartbeats 4000000 in
theorem takes_in (a a2 : Option Addr) (c c2 : Nat) (L O : List Int) (w : World) (hL : ReadL w a L) (hO : ReadL w a2 O) (h1 : L.length ≤ 200) (h2 : O.length ≤ 200) (hb : ∀ x ∈ L, 0 ≤ x) :
    Calls Try.prog 6 #[.slice a L.length c, .slice a2 O.length c2] w fun e w' => e = .returned (.bool true) ∧ Below w.heap.size w w' := by
  have h1' : ¬ (200 : Int) < (L.length : Int) := by omega
  have h2' : ¬ (200 : Int) < (O.length : Int) := by omega
  have HL := Lib.hid hL
  have HO := Lib.hid hO
  have HN := Lib.hid hb
  clear hL hO hb
  go_enter Try.func6, Try.ntmps6
  go_wp2_with (fail)
  refine (newfree_k a c L w HL.out (by omega)).mono ?_
  rintro e w1 ⟨S0, rfl, hk0, hd0, hm0, hl0⟩
  have HK0 := Lib.hid hk0
  have HI0 := Lib.hid (show InS L O 0 S0 from ⟨hd0, fun x => by rw [hm0]; simp, by omega⟩)
  clear hk0 hd0 hm0 hl0
  go_wp2_with (fail)
  go_loopw [6] (fun iv wr => ∃ (k : Nat) (S : List Int), iv = .int .i64 k ∧ k ≤ O.length ∧ KSet w.heap.size w w.heap.size S wr ∧ InS L O k S) (fun iv _ => O.length - (intOf iv).toNat)
  case atStart => exact ⟨0, S0, rfl, Nat.zero_le _, HK0.out, HI0.out⟩
  case round =>
    obtain ⟨k, S, rfl, hk, hks, hin⟩ := hrel
    have HK := Lib.hid hks
    have HI := Lib.hid hin
    have hsl := hin.2.2
    obtain ⟨_, _, _, _, _, _, _, hBW⟩ := hks
    have HBW := Lib.hid hBW
    clear hin hBW
    by_cases hlt : k < O.length
    · obtain ⟨g, o, rfl, hg, hc⟩ := (HO.out.keep HBW.out).at hlt
      obtain ⟨x, hx⟩ : ∃ x, O.getD k 0 = x := ⟨_, rfl⟩
      rw [hx] at hc
      have HX := Lib.hid hx
      have b1 : (k : Int) < (O.length : Int) := by omega
      have b3 : ((k : Int)).toNat = k := by omega
      have HLT := Lib.hid hlt
      clear hx hlt
      go_wp2_with (fail)
      refine (drop_k x HK.out (by omega)).mono ?_
      rintro e w2 ⟨rfl, h2⟩
      have HK2 := Lib.hid h2
      clear h2
      go_wp2_with (fail)
      go_roundw
      case rel => exact ⟨k + 1, _, by go_num, HLT.out, HK2.out, by rw [← HX.out]; exact HI.out.next HLT.out⟩
      case measure => have := HLT.out; simp [intOf]; omega
    · have hk2 : k = O.length := by omega
      subst hk2
      go_wp2_with (fail)
      refine (all_row HK.out (by omega)).mono ?_
      rintro e w2 ⟨ua, uc, rfl, h2⟩
      have HR2 := Lib.hid h2
      have hd := HI.out.1
      have HD := Lib.hid hd
      have hrl : (srt S).length ≤ 200 := by rw [srt_len]; omega
      have HP := Lib.hid (show KRow w.heap.size w w.heap.size ((srt S).drop 0) (.slice ua (srt S).length uc) (srt S) w2 from by
        obtain ⟨v, l, q1, q2, q3⟩ := h2
        exact ⟨v, l, q1, q2.trans (srt_perm S).symm, q3⟩)
      have HRI := Lib.hid (fun i j h1 h2 => srt_rises hd (i := i) (j := j) h1 h2)
      have HLE := Lib.hid (fun k => srt_least hd (k := k))
      have HM := Lib.hid (show ∀ x, x ∈ srt S ↔ (x ∈ L ∧ x ≠ 0) ∧ x ∉ O from fun x => by rw [srt_mem, HI.out.2.1, List.take_length])
      obtain ⟨R, hR⟩ : ∃ R, srt S = R := ⟨_, rfl⟩
      rw [hR] at HP HRI HLE HM HR2 hrl ⊢
      clear h2 hd hR
      go_wp2_with (fail)
      go_loopw [8, 9] (fun lv iv wr => ∃ (k : Nat) (q : Int), iv = .int .i64 k ∧ lv = .int .u64 q ∧ k ≤ R.length ∧ KRow w.heap.size w w.heap.size (R.drop k) (.slice ua R.length uc) R wr ∧ Hid (k < R.length → q < R.getD k 0)) (fun _ iv _ => R.length - (intOf iv).toNat)
      case atStart =>
        refine ⟨0, 0, rfl, rfl, Nat.zero_le _, HP.out, Lib.hid fun h => ?_⟩
        have hm : R.getD 0 0 ∈ R := by simp [h]
        have := (HM.out _).1 hm
        have := HN.out _ this.1.1
        omega
      case round =>
        obtain ⟨k, q, rfl, rfl, hk, hkr, hq⟩ := hrel
        have HK := Lib.hid hkr
        obtain ⟨_, _, _, _, _, _, _, hBW2, _⟩ := hkr
        have HBW2 := Lib.hid hBW2
        clear hBW2
        by_cases hlt : k < R.length
        · obtain ⟨g, rfl, hc⟩ := HK.out.at hlt
          have hq1 := hq.out hlt
          have HKd := HK.out
          rw [drop_consI R k hlt] at HKd
          have HK1 := Lib.hid HKd
          have hle := HLE.out k
          have HLE1 := Lib.hid hle
          have hnm : R.getD k 0 ∉ R.drop (k + 1) := fun hm => by have := hle _ hm; omega
          have HNM := Lib.hid hnm
          have hdl : (R.drop (k + 1)).length ≤ 200 := by simp; omega
          have HNX := Lib.hid (show k + 1 < R.length → R.getD k 0 < R.getD (k + 1) 0 from fun h => HRI.out k (k + 1) (by omega) h)
          clear HKd hle hnm hc
          obtain ⟨x, hx⟩ : ∃ x, R.getD k 0 = x := ⟨_, rfl⟩
          rw [hx] at HK1 HLE1 HNM HNX hq1
          have HX := Lib.hid hx
          have b1 : (k : Int) < (R.length : Int) := by omega
          have b3 : ((k : Int)).toNat = k := by omega
          have b4 : ¬ x ≤ q := by omega
          have HLT := Lib.hid hlt
          clear hx hlt
          go_wp2_with (fail)
          refine (take_row HK1.out (fun y hy => by have := HLE1.out y hy; omega) (by omega)).mono ?_
          rintro e w3 ⟨rfl, h3⟩
          have HK3 := Lib.hid h3
          obtain ⟨g3, e3, hc3⟩ := h3.at HLT.out
          cases e3
          rw [HX.out] at hc3
          have hh := has_row x h3 (by omega)
          rw [decide_eq_false HNM.out] at hh
          have HH := Lib.hid hh
          clear h3 hh
          go_wp2_with (go_at_call 27; refine HH.out.mono ?_; rintro e w4 ⟨rfl, h4⟩; have HK4 := Lib.hid h4; clear h4)
          go_roundw
          case rel => exact ⟨k + 1, x, by go_num, rfl, HLT.out, HK4.out, Lib.hid HNX.out⟩
          case measure => have := HLT.out; simp [intOf]; omega
        · have hk2 : k = R.length := by omega
          subst hk2
          have HKe := HK.out
          rw [List.drop_length] at HKe
          have HE := Lib.hid HKe
          clear HKe
          go_wp2_with (fail)
          refine (takenil_row HE.out).mono ?_
          rintro e w3 ⟨rfl, rfl⟩
          obtain ⟨wo, rfl⟩ : ∃ wo : World, wo = wr := ⟨_, rfl⟩
          go_wp2_with (fail)
          go_loopw [14] (fun iv wr => ∃ i q : Nat, iv = .int .i64 i ∧ i ≤ L.length ∧ wr = wo.drewN q) (fun iv _ => L.length - (intOf iv).toNat)
          case atStart => exact ⟨0, 0, rfl, Nat.zero_le _, rfl⟩
          case round =>
            obtain ⟨i, qi, rfl, hi, rfl⟩ := hrel
            by_cases hlti : i < L.length
            · obtain ⟨g, o, rfl, hg, hc⟩ := (HL.out.keep HBW2.out).at hlti
              obtain ⟨x, hx⟩ : ∃ x, L.getD i 0 = x := ⟨_, rfl⟩
              rw [hx] at hc
              have HX := Lib.hid hx
              have b1 : (i : Int) < (L.length : Int) := by omega
              have b2 : (0 : Int) ≤ (i : Int) := by omega
              have b3 : ((i : Int)).toNat = i := by omega
              have HLT := Lib.hid hlti
              have hxg : (x == 0) = goneB x O 0 := by unfold goneB; simp; rw [Bool.eq_iff_iff]; simp
              clear hx hlti
              go_wp2_with (fail)
              go_quiet (fail)
              go_wp2_with (fail)
              go_loopw [15, 17] (fun hv kv wr => ∃ k q : Nat, kv = .int .i64 k ∧ k ≤ R.length ∧ hv = .bool (hasB2 x R k) ∧ wr = wo.drewN q) (fun _ kv _ => R.length - (intOf kv).toNat)
              case atStart => exact ⟨0, _, rfl, Nat.zero_le _, by simp [hasB2], by first | rfl | exact World.drewN_drewN _ _ _⟩
              case round =>
                obtain ⟨k2, q2, rfl, hk2, rfl, rfl⟩ := hrel
                by_cases hlt2 : k2 < R.length
                · obtain ⟨g2, rfl, hc2⟩ := HE.out.at hlt2
                  have b5 : (k2 : Int) < (R.length : Int) := by omega
                  have b6 : (0 : Int) ≤ (k2 : Int) := by omega
                  have b7 : ((k2 : Int)).toNat = k2 := by omega
                  have HT := Lib.hid (take_snocI R k2 hlt2)
                  have HLT2 := Lib.hid hlt2
                  clear hlt2
                  cases hb : hasB2 x R k2
                  · obtain ⟨y, hy⟩ : ∃ y, R.getD k2 0 = y := ⟨_, rfl⟩
                    rw [hy] at hc2 HT
                    have HBn := Lib.hid (show hasB2 x R (k2 + 1) = (y == x) by
                      unfold hasB2 at *
                      rw [HT.out]
                      simp only [List.mem_append, List.mem_singleton]
                      have := of_decide_eq_false hb
                      rw [Bool.eq_iff_iff]; simp [this]; exact eq_comm)
                    clear hb hy
                    go_wp2_with (fail)
                    go_quiet (fail)
                    go_wp2_with (fail)
                    go_roundw
                    case rel => exact ⟨k2 + 1, _, by go_num, HLT2.out, by rw [HBn.out], by first | rfl | exact World.drewN_drewN _ _ _⟩
                    case measure => have := HLT2.out; simp [intOf]; omega
                  · have HBn := Lib.hid (show hasB2 x R (k2 + 1) = true by
                      unfold hasB2 at *
                      rw [HT.out]
                      have := of_decide_eq_true hb
                      simp [this])
                    clear hb hc2
                    go_wp2_with (fail)
                    go_quiet (fail)
                    go_wp2_with (fail)
                    go_roundw
                    case rel => exact ⟨k2 + 1, _, by go_num, HLT2.out, by rw [HBn.out], by first | rfl | exact World.drewN_drewN _ _ _⟩
                    case measure => have := HLT2.out; simp [intOf]; omega
                · have hk3 : k2 = R.length := by omega
                  subst hk3
                  go_wp2_with (fail)
                  go_loopw [16, 18] (fun hv kv wr => ∃ k q : Nat, kv = .int .i64 k ∧ k ≤ O.length ∧ hv = .bool (goneB x O k) ∧ wr = wo.drewN q) (fun _ kv _ => O.length - (intOf kv).toNat)
                  case atStart => exact ⟨0, _, rfl, Nat.zero_le _, rfl, by first | rfl | exact World.drewN_drewN _ _ _⟩
                  case round =>
                    obtain ⟨k3, q3, rfl, hk3, rfl, rfl⟩ := hrel
                    by_cases hlt3 : k3 < O.length
                    · obtain ⟨g3, o3, rfl, _, hc3⟩ := (HO.out.keep HBW2.out).at hlt3
                      have b5 : (k3 : Int) < (O.length : Int) := by omega
                      have b6 : (0 : Int) ≤ (k3 : Int) := by omega
                      have b7 : ((k3 : Int)).toNat = k3 := by omega
                      have HT := Lib.hid (take_snocI O k3 hlt3)
                      have HLT3 := Lib.hid hlt3
                      clear hlt3
                      cases hb : goneB x O k3
                      · obtain ⟨y, hy⟩ : ∃ y, O.getD k3 0 = y := ⟨_, rfl⟩
                        rw [hy] at hc3 HT
                        have HBn := Lib.hid (show goneB x O (k3 + 1) = (y == x) by
                          unfold goneB at *
                          rw [HT.out]
                          simp only [List.mem_append, List.mem_singleton]
                          have := of_decide_eq_false hb
                          rw [Bool.eq_iff_iff]; simp at this ⊢; simp [this]; exact eq_comm)
                        clear hb hy
                        go_wp2_with (fail)
                        go_quiet (fail)
                        go_wp2_with (fail)
                        go_roundw
                        case rel => exact ⟨k3 + 1, _, by go_num, HLT3.out, by rw [HBn.out], by first | rfl | exact World.drewN_drewN _ _ _⟩
                        case measure => have := HLT3.out; simp [intOf]; omega
                      · have HBn := Lib.hid (show goneB x O (k3 + 1) = true by
                          unfold goneB at *
                          rw [HT.out]
                          have := of_decide_eq_true hb
                          rcases this with h | h <;> simp [h])
                        clear hb hc3
                        go_wp2_with (fail)
                        go_quiet (fail)
                        go_wp2_with (fail)
                        go_roundw
                        case rel => exact ⟨k3 + 1, _, by go_num, HLT3.out, by rw [HBn.out], by first | rfl | exact World.drewN_drewN _ _ _⟩
                        case measure => have := HLT3.out; simp [intOf]; omega
                    · have hk4 : k3 = O.length := by omega
                      subst hk4
                      have hne : (hasB2 x R R.length == goneB x O O.length) = false := by
                        unfold hasB2 goneB
                        rw [List.take_length, List.take_length]
                        have h1 := HM.out x
                        have h2 : x ∈ L := by rw [← HX.out]; have := HLT.out; simp [this]
                        simp only [beq_eq_false_iff_ne, ne_eq, decide_eq_decide]
                        intro e
                        by_cases hxo : x ∈ O <;> by_cases hx0 : x = 0 <;> simp [hxo, hx0, h2] at h1 e <;> simp_all
                      go_wp2_with (fail)
                      go_roundw
                      case rel => exact ⟨i + 1, _, by go_num, HLT.out, by first | rfl | exact World.drewN_drewN _ _ _⟩
                      case measure => have := HLT.out; simp [intOf]; omega
            · have hi2 : i = L.length := by omega
              subst hi2
              have HE2 := Lib.hid (HE.out.set.drewN qi)
              go_wp2_with (go_at_call 28; refine (len_k HE2.out).mono ?_; rintro e w4 ⟨rfl, rfl⟩)
              refine (known_any _).mono ?_
              rintro e w7 ⟨rfl, hk7⟩
              have HK7 := Lib.hid hk7
              have HB7 := Lib.hid HBW2.out
              clear hk7
              go_wp2_with (fail)
              go_ret
              exact ⟨rfl, (belowN HB7.out qi).trans (HK7.out.mono (by have := HB7.out.size; simp; omega))⟩
end Go.Proofs.Ytdekjfbaoaobeaa
