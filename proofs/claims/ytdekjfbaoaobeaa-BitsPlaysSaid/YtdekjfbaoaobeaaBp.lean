/-
  The law BitsPlays, walked.
-/
import Derived.Test.YtdekjfbaoaobeaaTc
import Derived.Test.YtdekjfbaoaobeaaKn
import Derived.Test.YtdekjfbaoaobeaaCls
import Derived.BigQuiet
import Derived.Deep.QuietTactic
import Derived.Deep.RegionWith
namespace Go.Proofs.Ytdekjfbaoaobeaa
open Go.RowKit

theorem plays_out (a a2 : Option Addr) (n c n2 c2 : Nat) (w : World) (hn : n ≤ maxLen) (hn2 : n2 ≤ maxLen) (h : 100 < n ∨ 150 < n2) :
    Calls Try.prog 7 #[.slice a n c, .slice a2 n2 c2] w fun e w' => e = .returned (.bool true) ∧ Below w.heap.size w w' := by
  unfold maxLen at hn hn2
  by_cases h1 : 100 < n
  · have h1' : (100 : Int) < (n : Int) := by omega
    go_enter Try.func7, Try.ntmps7
    go_wp2_with (go_at_call 15; refine (known_any _).mono ?_; rintro e w7 ⟨rfl, hk⟩; have HK := Lib.hid hk; clear hk)
    go_ret
    exact ⟨rfl, HK.out⟩
  · have h1' : ¬ (100 : Int) < (n : Int) := by omega
    have h2' : (150 : Int) < (n2 : Int) := by omega
    go_enter Try.func7, Try.ntmps7
    go_wp2_with (go_at_call 15; refine (known_any _).mono ?_; rintro e w7 ⟨rfl, hk⟩; have HK := Lib.hid hk; clear hk)
    go_ret
    exact ⟨rfl, HK.out⟩

/-- the acts, as they lie -/
def ActsR (w : World) (a : Option Addr) (n : Nat) (K A : Nat → Int) : Prop :=
  n = 0 ∨ ∃ g o, a = some ⟨g, o, none⟩ ∧ g < w.heap.size ∧ ∀ i, i < n → w.cell? ⟨g, o + i * 2, none⟩ = some (.int .i64 (K i)) ∧ w.cell? ⟨g, o + i * 2 + 1, none⟩ = some (.int .u64 (A i))
def OwnRow (w : World) (B B1 : Nat) (v : Value) (n : Nat) : Prop := ∃ xs, w.ownsRow B 39 1 v n xs ∧ ∀ g, v.ownBlock = some g → g < B1
theorem OwnRow.keep {w w' : World} {B B1 : Nat} {v : Value} {n : Nat} (h : OwnRow w B B1 v n) (hB : Below B1 w w') : OwnRow w' B B1 v n := by
  obtain ⟨xs, h1, h2⟩ := h
  exact ⟨xs, own_keeps h1 (Keeps.of_below hB) (fun g hg hS => by have := h2 g hg; omega), h2⟩
theorem OwnRow.at {w : World} {B B1 : Nat} {a : Option Addr} {n c : Nat} (h : OwnRow w B B1 (.slice a n c) n) {k : Nat} (hk : k < n) :
    ∃ g u, a = some ⟨g, 0, none⟩ ∧ B ≤ g ∧ g < B1 ∧ w.cell? ⟨g, k, none⟩ = some u ∧ w.frozen? ⟨g, k, none⟩ = false := by
  obtain ⟨xs, h1, h2⟩ := h
  obtain ⟨g, cap, e, hb, hg, _, _, hl, hc, hf⟩ := own_shape h1 (by omega)
  cases e
  exact ⟨g, xs[k], rfl, hb, h2 g rfl, by rw [hc k hk]; exact List.getElem?_eq_getElem (by omega), hf k⟩
theorem OwnRow.set {w : World} {B B1 g n c k : Nat} {x : Value} (h : OwnRow w B B1 (.slice (some ⟨g, 0, none⟩) n c) n) : OwnRow (w.setCell ⟨g, k, none⟩ x) B B1 (.slice (some ⟨g, 0, none⟩) n c) n := by
  obtain ⟨xs, h1, h2⟩ := h
  exact ⟨xs.set k x, (h1.stored k x).1, h2⟩

def InL (L Lk : List Int) (k : Nat) : Prop := Rises Lk ∧ (∀ x, x ∈ Lk ↔ x ∈ L.take k ∧ x ≠ 0) ∧ Lk.length ≤ k
theorem InL.next {L Lk L' : List Int} {k : Nat} {x : Int} (h : InL L Lk k) (hk : k < L.length) (hx : L.getD k 0 = x) (hr : Rises L') (hp : L'.Perm (putS Lk x)) : InL L L' (k + 1) := by
  refine ⟨hr, fun y => ?_, ?_⟩
  · rw [hp.mem_iff, putS_mem, h.2.1, take_snocI L k hk, List.mem_append, List.mem_singleton, hx]
    constructor
    · rintro (⟨e1, e2⟩ | ⟨e1, e2⟩)
      · exact ⟨.inl e1, e2⟩
      · exact ⟨.inr e1, e1 ▸ e2⟩
    · rintro ⟨e1 | e1, e2⟩
      · exact .inl ⟨e1, e2⟩
      · exact .inr ⟨e1, e1 ▸ e2⟩
  · have := putS_len Lk x
    have := hp.length_eq
    have := h.2.2
    omega


set_option maxRecDepth 100000 in
set_option maxHeartbeats 8000000 in
theorem plays_in (a a2 : Option Addr) (c c2 n2 : Nat) (L : List Int) (K A : Nat → Int) (w : World) (hL : ReadL w a L) (hA : ActsR w a2 n2 K A) (h1 : L.length ≤ 100) (h2 : n2 ≤ 150) :
    Calls Try.prog 7 #[.slice a L.length c, .slice a2 n2 c2] w fun e w' => e = .returned (.bool true) ∧ Below w.heap.size w w' := by
  obtain ⟨i0, hi, hz0, hz1, hz2⟩ := info_parts Try.infoA
  have h1' : ¬ (100 : Int) < (L.length : Int) := by omega
  have h2' : ¬ (150 : Int) < (n2 : Int) := by omega
  have HL := Lib.hid hL
  have HA := Lib.hid hA
  have HRd := Lib.hid hL.reads
  clear hL hA
  go_enter Try.func7, Try.ntmps7
  go_wp2_with (at_builtin; refine wpList_append_any _ rfl (.const (.slice none 0 0)) (.tmp 27) _ rfl w.heap.size 39 i0 _ 1 8 Try.underlying35 hi hz0 hz1 hz2 rfl (by omega) (.slice none 0 0) 0 [] rfl (World.ownsRow_nil _ _ _ _) w.heap.size _ L.length c _ rfl HRd.out (ints_oneCell .u64 L) (by unfold maxLen; omega) (by omega) (Nat.le_refl _) ?_; intro v1 w1 hown1 hg1 hat1; have hB1 := (Below.refl w.heap.size w).grown hg1 (Nat.le_refl _) (fun r e => by simp [Value.ownBlock] at e); obtain ⟨a1, n1, c1, rfl⟩ := own_slice hown1; have hn1 := own_len hown1; simp [lenOf] at hn1; subst hn1; have HO := Lib.hid hown1; have HB := Lib.hid hB1; clear hown1 hg1 hat1 hB1)
  have ho1 : w1.ownsRow w.heap.size 39 1 (.slice a1 L.length c1) L.length (L.map (Value.int .u64)) := by simpa using HO.out
  refine (newfree_k a1 c1 L w1 (ReadL.of_own ho1) (by omega)).mono ?_
  rintro e w2 ⟨S0, rfl, hk0, hd0, hm0, hl0⟩
  have hb12 : Below w1.heap.size w1 w2 := by obtain ⟨_, _, _, _, _, _, _, h⟩ := hk0; exact h
  have HT := Lib.hid (two_start hk0 hb12.size)
  have HOw := Lib.hid (show OwnRow (w2.alloc (.cells #[.slice none 0 0] 48)) w.heap.size w1.heap.size (.slice a1 L.length c1) L.length from
    ⟨_, own_keeps ho1 (Keeps.of_below' (hb12.alloc hb12.size _)) (fun _ _ => id), own_lt ho1⟩)
  have HBw := Lib.hid ((HB.out.trans (hb12.mono HB.out.size)).alloc (Nat.le_trans HB.out.size hb12.size) (.cells #[.slice none 0 0] 48))
  have HM0 := Lib.hid (show S0.Nodup ∧ ∀ x, x ∈ S0 ↔ x ∈ L ∧ x ≠ 0 from ⟨hd0, hm0⟩)
  have HBB := Lib.hid HB.out.size
  clear hk0 hd0 hm0 hb12 ho1
  go_wp2_with (fail)
  obtain ⟨B1, hB1⟩ : ∃ B1, w1.heap.size = B1 := ⟨_, rfl⟩
  obtain ⟨sb, hsb⟩ : ∃ sb, w2.heap.size = sb := ⟨_, rfl⟩
  rw [hB1] at HT HOw HBB ⊢
  rw [hsb] at HT ⊢
  clear hB1 hsb HO HB
  generalize (w2.alloc (.cells #[.slice none 0 0] 48)) = w3 at *
  go_loopw [8] (fun jv wr => ∃ (k : Nat) (Lk : List Int), jv = .int .i64 k ∧ k ≤ L.length ∧ Hid (Two B1 B1 S0 sb Lk wr) ∧ Hid (InL L Lk k) ∧ Hid (OwnRow wr w.heap.size B1 (.slice a1 L.length c1) L.length) ∧ Hid (Below w.heap.size w wr)) (fun jv _ => L.length - (intOf jv).toNat)
  case atStart => exact ⟨0, [], rfl, Nat.zero_le _, HT, Lib.hid ⟨List.Pairwise.nil, fun x => by simp, Nat.le_refl _⟩, HOw, HBw⟩
  case round =>
    obtain ⟨k, Lk, rfl, hk, HTk, HIk, HOk, HBk⟩ := hrel
    have hlk := HIk.out.2.2
    by_cases hlt : k < L.length
    · obtain ⟨g, o, rfl, hg, hc⟩ := (HL.out.keep HBk.out).at hlt
      obtain ⟨x, hx⟩ : ∃ x, L.getD k 0 = x := ⟨_, rfl⟩
      rw [hx] at hc
      have HX := Lib.hid hx
      have b1 : (k : Int) < (L.length : Int) := by omega
      have b2 : (0 : Int) ≤ (k : Int) := by omega
      have b3 : ((k : Int)).toNat = k := by omega
      have HLT := Lib.hid hlt
      clear hx hlt
      go_wp2_with (fail)
      refine (two_sput x HTk.out HIk.out.1 (by omega)).mono ?_
      rintro e w4 ⟨rfl, L', hr', hp', ht', hb'⟩
      have HI' := Lib.hid (HIk.out.next HLT.out HX.out hr' hp')
      have HO' := HOk.out.keep hb'
      obtain ⟨g1, u, rfl, hg1, hg1B, hcu, hfu⟩ := HO'.at HLT.out
      have HT' := Lib.hid (ht'.set (i := k) hg1B (.int .u64 7))
      have HOs := Lib.hid (OwnRow.set (k := k) (x := .int .u64 7) HO')
      have HBs := Lib.hid ((HBk.out.trans (hb'.mono HBB.out)).setCell (p := ⟨g1, k, none⟩) hg1 (.int .u64 7))
      clear hr' hp' ht' hb' HO' hg1 hg1B
      go_wp2_with (fail)
      go_roundw
      case rel => exact ⟨k + 1, L', by go_num, HLT.out, HT', HI', HOs, HBs⟩
      case measure => have := HLT.out; simp [intOf]; omega
    · have hk2 : k = L.length := by omega
      subst hk2
      have HTs := Lib.hid (HTk.out.perm (perm_nodup HM0.out.1 HIk.out.1.nodup (fun x => by rw [HM0.out.2, HIk.out.2.1, List.take_length])))
      have HRs := Lib.hid HIk.out.1
      clear HTk HIk HOk HOw HT HM0 HBw hk
      obtain ⟨wo, rfl⟩ : ∃ wo : World, wo = wr := ⟨_, rfl⟩
      have hLk : Lk.length ≤ 100 := by omega
      go_wp2_with (fail)
      go_loopw [6, 9] (fun fv iv wr => ∃ (k b : Nat) (Lc : List Int), fv = .pointer (some ⟨b, 0, none⟩) ∧ iv = .int .i64 k ∧ k ≤ n2 ∧ Two B1 b Lc sb Lc wr ∧ Rises Lc ∧ Lc.length ≤ 100 + k ∧ Hid (Below w.heap.size w wr)) (fun _ iv _ => n2 - (intOf iv).toNat)
      case atStart => exact ⟨0, B1, Lk, rfl, rfl, Nat.zero_le _, HTs.out, HRs.out, by omega, HBk⟩
      case round =>
        obtain ⟨k, b, Lc, rfl, rfl, hk, ht, hr, hlc, HBc⟩ := hrel
        have HTc := Lib.hid ht
        have HRc := Lib.hid hr
        clear ht hr HTs HRs HBk
        by_cases hlt : k < n2
        · rcases HA.out with e0 | ⟨g, o, rfl, hg, hcs⟩
          · omega
          obtain ⟨K0, hK0⟩ : ∃ x, K k = x := ⟨_, rfl⟩
          obtain ⟨A0, hA0⟩ : ∃ x, A k = x := ⟨_, rfl⟩
          have cK := (HBc.out.cell (p := ⟨g, o + k * 2, none⟩) hg).trans (hcs k hlt).1
          have cA := (HBc.out.cell (p := ⟨g, o + k * 2 + 1, none⟩) hg).trans (hcs k hlt).2
          rw [hK0] at cK
          rw [hA0] at cA
          have b1 : (k : Int) < (n2 : Int) := by omega
          have b2 : (0 : Int) ≤ (k : Int) := by omega
          have b3 : ((k : Int)).toNat = k := by omega
          have HLT := Lib.hid hlt
          clear hcs hK0 hA0 hlt
          by_cases hk1 : K0 = 1
          · subst hk1
            go_wp2_with (fail)
            refine (two_fput A0 HTc.out (by omega)).mono ?_
            rintro e w4 ⟨rfl, ht4, hb4⟩
            have HT4 := Lib.hid ht4
            have HB4 := Lib.hid (HBc.out.trans (hb4.mono HBB.out))
            clear ht4 hb4
            go_wp2_with (fail)
            refine (two_sput A0 HT4.out HRc.out (by omega)).mono ?_
            rintro e w5 ⟨rfl, L5, hr5, hp5, ht5, hb5⟩
            have hl5 : L5.length ≤ 101 + k := by have := hp5.length_eq; have := putS_len Lc A0; omega
            have HT5 := Lib.hid (ht5.perm hp5.symm)
            have HR5 := Lib.hid hr5
            have HB5 := Lib.hid (HB4.out.trans (hb5.mono HBB.out))
            obtain ⟨b5, rfl⟩ : ∃ b5 : Nat, b5 = b := ⟨_, rfl⟩
            clear hr5 hp5 ht5 hb5 HT4 HB4
            go_wp2_with (fail)
            refine (two_fall HT5.out (List.Perm.refl _) HR5.out (by omega)).mono ?_
            rintro e w6 ⟨ua, uc, rfl, ho6, ht6, hb6⟩
            have HO6 := Lib.hid ho6
            have HT6 := Lib.hid ht6
            have HB6 := Lib.hid hb6
            obtain ⟨sa, sc, hcs, hrs⟩ := ht6.lies
            have hru := ReadL.of_own ho6
            have hsl : sb < w6.heap.size := World.block_lt_of_cell? w6 ⟨sb, 0, none⟩ hcs
            obtain ⟨S, f, fne, f0, fB, fI⟩ := cls_of w6
            have y0 : ∀ x, (f x).cell? ⟨sb, 0, none⟩ = some (.slice sa L5.length sc) := fun x => ((fB x).cell (p := ⟨sb, 0, none⟩) hsl).trans hcs
            have Q1 := Lib.hid (fun x => two_fhas A0 (ht6.keep (fB x)) (List.Perm.refl _) (by omega))
            have Q2 := Lib.hid (fun x => two_shas A0 (ht6.keep (fB x)) (by omega))
            have Q3 := Lib.hid (fun x => two_flen (ht6.keep (fB x)) L5.length rfl)
            have Q4 := Lib.hid (fun x => asame_v ua sa uc sc L5 (f x) (hru.keep (fB x)) (hrs.keep (fB x)) (by omega))
            have FB := Lib.hid fB
            have FI := Lib.hid fI
            have F0 := Lib.hid f0
            obtain ⟨r, hr⟩ : ∃ r, decide (A0 ∈ L5) = r := ⟨_, rfl⟩
            rw [hr] at Q1 Q2
            clear fB fI f0 ho6 ht6 hb6 hcs hrs hru hr
            go_wp2_with (fail)
            (refine wp_region_cls f (by kernel_rfl) (by kernel_rfl) F0.out ?_; (repeat (go_big_quiet_step ((first | (go_at_call 27; exact calls_cls FI.out FB.out (Q1.out _)) | (go_at_call 34; exact calls_cls FI.out FB.out ((Q2.out _).mono fun _ _ ⟨h1, h2⟩ => ⟨h1, h2 ▸ Below.refl _ _⟩)) | (go_at_call 28; exact calls_cls FI.out FB.out ((Q3.out _).mono fun _ _ ⟨h1, h2⟩ => ⟨h1, h2 ▸ Below.refl _ _⟩)) | (go_at_call 35; exact calls_cls FI.out FB.out ((Q4.out _).mono fun _ _ ⟨h1, q, h2⟩ => ⟨h1, h2 ▸ belowN (Below.refl _ _) q⟩)))))); refine wpQuiet_nil ?_; intro _ hw'; obtain ⟨xq, hw''⟩ := hw'; subst hw'')
            have HB7 := Lib.hid (HB6.out.trans ((FB.out xq).mono HB6.out.size))
            have HO7 := Lib.hid (own_keeps HO6.out (Keeps.of_below' (FB.out xq)) (fun _ _ => id))
            clear y0 hsl
            generalize f xq = w7 at *
            clear Q1 Q2 Q3 Q4 FB FI F0
            go_wp2_with (fail)
            go_loopw [17] (fun jv wr => ∃ (j : Nat) (xs : List Value), jv = .int .i64 j ∧ j ≤ L5.length ∧ Hid (wr.ownsRow w5.heap.size 39 1 (.slice ua L5.length uc) L5.length xs) ∧ Hid (Below w5.heap.size w5 wr)) (fun jv _ => L5.length - (intOf jv).toNat)
            case atStart => exact ⟨0, _, rfl, Nat.zero_le _, HO7, HB7⟩
            case round =>
              obtain ⟨j, xs, rfl, hj, HX, HBx⟩ := hrel
              by_cases hltj : j < L5.length
              · obtain ⟨gu, cap, e, hbg, hgu, _, _, hl, hcj, hfj⟩ := own_shape HX.out (by omega)
                cases e
                have hcu : wr.cell? ⟨gu, j, none⟩ = some xs[j] := by rw [hcj j hltj]; exact List.getElem?_eq_getElem (by omega)
                have hfu := hfj j
                have HXs := Lib.hid (HX.out.stored j (.int .u64 3)).1
                have HBs := Lib.hid (HBx.out.setCell (p := ⟨gu, j, none⟩) hbg (.int .u64 3))
                have b1 : (j : Int) < (L5.length : Int) := by omega
                have b2 : (0 : Int) ≤ (j : Int) := by omega
                have b3 : ((j : Int)).toNat = j := by omega
                generalize xs[j] = u at *
                have HLJ := Lib.hid hltj
                have HL := Lib.hid hl
                clear hcj hfj hltj hl
                go_wp2_with (fail)
                go_roundw
                case rel => exact ⟨j + 1, _, by go_num, HLJ.out, HXs, HBs⟩
                case measure => have := HLJ.out; simp [intOf]; omega
              · have hj2 : j = L5.length := by omega
                subst hj2
                have HT8 := Lib.hid (HT5.out.keep HBx.out)
                have HB8 := Lib.hid (HB5.out.trans (HBx.out.mono HB5.out.size))
                go_wp2_with (fail)
                go_roundw
                case rel => exact ⟨k + 1, b5, L5, rfl, by go_num, HLT.out, HT8.out, HR5.out, by omega, HB8⟩
                case measure => have := HLT.out; simp [intOf]; omega
          by_cases hk2 : K0 = 2
          · subst hk2
            go_wp2_with (fail)
            refine (two_ftake HTc.out (List.Perm.refl _) HRc.out (by omega)).mono ?_
            rintro e w4 ⟨rfl, ht4, hb4⟩
            have HT4 := Lib.hid ht4
            have HB4 := Lib.hid (HBc.out.trans (hb4.mono HBB.out))
            have TK := Lib.hid (two_stake ht4 (by omega))
            obtain ⟨x, hx⟩ : ∃ x, Lc.headD 0 = x := ⟨_, rfl⟩
            obtain ⟨y, hy⟩ : ∃ y, (!Lc.isEmpty) = y := ⟨_, rfl⟩
            rw [hx, hy] at TK ⊢
            clear ht4 hb4 hx hy
            go_wp2_with (fail)
            refine TK.out.mono ?_
            rintro e w5 ⟨rfl, ht5, hb5⟩
            obtain ⟨L5, hL5⟩ : ∃ L5, Lc.tail = L5 := ⟨_, rfl⟩
            have hl5 : L5.length ≤ 101 + k := by rw [← hL5]; simp; omega
            have HR5 := Lib.hid (hL5 ▸ HRc.out.tail : Rises L5)
            rw [hL5] at ht5
            have HT5 := Lib.hid ht5
            have HB5 := Lib.hid (HB4.out.trans (hb5.mono HBB.out))
            obtain ⟨b5, rfl⟩ : ∃ b5 : Nat, b5 = b := ⟨_, rfl⟩
            clear ht5 hb5 HT4 HB4 TK hL5
            go_wp2_with (fail)
            refine (two_fall HT5.out (List.Perm.refl _) HR5.out (by omega)).mono ?_
            rintro e w6 ⟨ua, uc, rfl, ho6, ht6, hb6⟩
            have HO6 := Lib.hid ho6
            have HT6 := Lib.hid ht6
            have HB6 := Lib.hid hb6
            obtain ⟨sa, sc, hcs, hrs⟩ := ht6.lies
            have hru := ReadL.of_own ho6
            have hsl : sb < w6.heap.size := World.block_lt_of_cell? w6 ⟨sb, 0, none⟩ hcs
            obtain ⟨S, f, fne, f0, fB, fI⟩ := cls_of w6
            have y0 : ∀ x, (f x).cell? ⟨sb, 0, none⟩ = some (.slice sa L5.length sc) := fun x => ((fB x).cell (p := ⟨sb, 0, none⟩) hsl).trans hcs
            have Q1 := Lib.hid (fun x => two_fhas A0 (ht6.keep (fB x)) (List.Perm.refl _) (by omega))
            have Q2 := Lib.hid (fun x => two_shas A0 (ht6.keep (fB x)) (by omega))
            have Q3 := Lib.hid (fun x => two_flen (ht6.keep (fB x)) L5.length rfl)
            have Q4 := Lib.hid (fun x => asame_v ua sa uc sc L5 (f x) (hru.keep (fB x)) (hrs.keep (fB x)) (by omega))
            have FB := Lib.hid fB
            have FI := Lib.hid fI
            have F0 := Lib.hid f0
            obtain ⟨r, hr⟩ : ∃ r, decide (A0 ∈ L5) = r := ⟨_, rfl⟩
            rw [hr] at Q1 Q2
            clear fB fI f0 ho6 ht6 hb6 hcs hrs hru hr
            go_wp2_with (fail)
            (refine wp_region_cls f (by kernel_rfl) (by kernel_rfl) F0.out ?_; (repeat (go_big_quiet_step ((first | (go_at_call 27; exact calls_cls FI.out FB.out (Q1.out _)) | (go_at_call 34; exact calls_cls FI.out FB.out ((Q2.out _).mono fun _ _ ⟨h1, h2⟩ => ⟨h1, h2 ▸ Below.refl _ _⟩)) | (go_at_call 28; exact calls_cls FI.out FB.out ((Q3.out _).mono fun _ _ ⟨h1, h2⟩ => ⟨h1, h2 ▸ Below.refl _ _⟩)) | (go_at_call 35; exact calls_cls FI.out FB.out ((Q4.out _).mono fun _ _ ⟨h1, q, h2⟩ => ⟨h1, h2 ▸ belowN (Below.refl _ _) q⟩)))))); refine wpQuiet_nil ?_; intro _ hw'; obtain ⟨xq, hw''⟩ := hw'; subst hw'')
            have HB7 := Lib.hid (HB6.out.trans ((FB.out xq).mono HB6.out.size))
            have HO7 := Lib.hid (own_keeps HO6.out (Keeps.of_below' (FB.out xq)) (fun _ _ => id))
            clear y0 hsl
            generalize f xq = w7 at *
            clear Q1 Q2 Q3 Q4 FB FI F0
            go_wp2_with (fail)
            go_loopw [17] (fun jv wr => ∃ (j : Nat) (xs : List Value), jv = .int .i64 j ∧ j ≤ L5.length ∧ Hid (wr.ownsRow w5.heap.size 39 1 (.slice ua L5.length uc) L5.length xs) ∧ Hid (Below w5.heap.size w5 wr)) (fun jv _ => L5.length - (intOf jv).toNat)
            case atStart => exact ⟨0, _, rfl, Nat.zero_le _, HO7, HB7⟩
            case round =>
              obtain ⟨j, xs, rfl, hj, HX, HBx⟩ := hrel
              by_cases hltj : j < L5.length
              · obtain ⟨gu, cap, e, hbg, hgu, _, _, hl, hcj, hfj⟩ := own_shape HX.out (by omega)
                cases e
                have hcu : wr.cell? ⟨gu, j, none⟩ = some xs[j] := by rw [hcj j hltj]; exact List.getElem?_eq_getElem (by omega)
                have hfu := hfj j
                have HXs := Lib.hid (HX.out.stored j (.int .u64 3)).1
                have HBs := Lib.hid (HBx.out.setCell (p := ⟨gu, j, none⟩) hbg (.int .u64 3))
                have b1 : (j : Int) < (L5.length : Int) := by omega
                have b2 : (0 : Int) ≤ (j : Int) := by omega
                have b3 : ((j : Int)).toNat = j := by omega
                generalize xs[j] = u at *
                have HLJ := Lib.hid hltj
                have HL := Lib.hid hl
                clear hcj hfj hltj hl
                go_wp2_with (fail)
                go_roundw
                case rel => exact ⟨j + 1, _, by go_num, HLJ.out, HXs, HBs⟩
                case measure => have := HLJ.out; simp [intOf]; omega
              · have hj2 : j = L5.length := by omega
                subst hj2
                have HT8 := Lib.hid (HT5.out.keep HBx.out)
                have HB8 := Lib.hid (HB5.out.trans (HBx.out.mono HB5.out.size))
                go_wp2_with (fail)
                go_roundw
                case rel => exact ⟨k + 1, b5, L5, rfl, by go_num, HLT.out, HT8.out, HR5.out, by omega, HB8⟩
                case measure => have := HLT.out; simp [intOf]; omega
          by_cases hk3 : K0 = 3
          · subst hk3
            go_wp2_with (fail)
            refine (two_fdrop A0 HTc.out (List.Perm.refl _) (by omega)).mono ?_
            rintro e w4 ⟨rfl, ht4, hb4⟩
            have HT4 := Lib.hid ht4
            have HB4 := Lib.hid (HBc.out.trans (hb4.mono HBB.out))
            have TK := Lib.hid (two_sdrop A0 ht4 (by omega))
            obtain ⟨y, hy⟩ : ∃ y, decide (A0 ∈ Lc) = y := ⟨_, rfl⟩
            rw [hy] at TK ⊢
            clear ht4 hb4 hy
            go_wp2_with (fail)
            refine TK.out.mono ?_
            rintro e w5 ⟨rfl, ht5, hb5⟩
            obtain ⟨L5, hL5⟩ : ∃ L5, dropL Lc A0 = L5 := ⟨_, rfl⟩
            have hl5 : L5.length ≤ 101 + k := by rw [← hL5]; have := dropL_len Lc A0; omega
            have HR5 := Lib.hid (hL5 ▸ dropL_rises HRc.out A0 : Rises L5)
            rw [hL5] at ht5
            have HT5 := Lib.hid ht5
            have HB5 := Lib.hid (HB4.out.trans (hb5.mono HBB.out))
            obtain ⟨b5, rfl⟩ : ∃ b5 : Nat, b5 = b := ⟨_, rfl⟩
            clear ht5 hb5 HT4 HB4 TK hL5
            go_wp2_with (fail)
            refine (two_fall HT5.out (List.Perm.refl _) HR5.out (by omega)).mono ?_
            rintro e w6 ⟨ua, uc, rfl, ho6, ht6, hb6⟩
            have HO6 := Lib.hid ho6
            have HT6 := Lib.hid ht6
            have HB6 := Lib.hid hb6
            obtain ⟨sa, sc, hcs, hrs⟩ := ht6.lies
            have hru := ReadL.of_own ho6
            have hsl : sb < w6.heap.size := World.block_lt_of_cell? w6 ⟨sb, 0, none⟩ hcs
            obtain ⟨S, f, fne, f0, fB, fI⟩ := cls_of w6
            have y0 : ∀ x, (f x).cell? ⟨sb, 0, none⟩ = some (.slice sa L5.length sc) := fun x => ((fB x).cell (p := ⟨sb, 0, none⟩) hsl).trans hcs
            have Q1 := Lib.hid (fun x => two_fhas A0 (ht6.keep (fB x)) (List.Perm.refl _) (by omega))
            have Q2 := Lib.hid (fun x => two_shas A0 (ht6.keep (fB x)) (by omega))
            have Q3 := Lib.hid (fun x => two_flen (ht6.keep (fB x)) L5.length rfl)
            have Q4 := Lib.hid (fun x => asame_v ua sa uc sc L5 (f x) (hru.keep (fB x)) (hrs.keep (fB x)) (by omega))
            have FB := Lib.hid fB
            have FI := Lib.hid fI
            have F0 := Lib.hid f0
            obtain ⟨r, hr⟩ : ∃ r, decide (A0 ∈ L5) = r := ⟨_, rfl⟩
            rw [hr] at Q1 Q2
            clear fB fI f0 ho6 ht6 hb6 hcs hrs hru hr
            go_wp2_with (fail)
            (refine wp_region_cls f (by kernel_rfl) (by kernel_rfl) F0.out ?_; (repeat (go_big_quiet_step ((first | (go_at_call 27; exact calls_cls FI.out FB.out (Q1.out _)) | (go_at_call 34; exact calls_cls FI.out FB.out ((Q2.out _).mono fun _ _ ⟨h1, h2⟩ => ⟨h1, h2 ▸ Below.refl _ _⟩)) | (go_at_call 28; exact calls_cls FI.out FB.out ((Q3.out _).mono fun _ _ ⟨h1, h2⟩ => ⟨h1, h2 ▸ Below.refl _ _⟩)) | (go_at_call 35; exact calls_cls FI.out FB.out ((Q4.out _).mono fun _ _ ⟨h1, q, h2⟩ => ⟨h1, h2 ▸ belowN (Below.refl _ _) q⟩)))))); refine wpQuiet_nil ?_; intro _ hw'; obtain ⟨xq, hw''⟩ := hw'; subst hw'')
            have HB7 := Lib.hid (HB6.out.trans ((FB.out xq).mono HB6.out.size))
            have HO7 := Lib.hid (own_keeps HO6.out (Keeps.of_below' (FB.out xq)) (fun _ _ => id))
            clear y0 hsl
            generalize f xq = w7 at *
            clear Q1 Q2 Q3 Q4 FB FI F0
            go_wp2_with (fail)
            go_loopw [17] (fun jv wr => ∃ (j : Nat) (xs : List Value), jv = .int .i64 j ∧ j ≤ L5.length ∧ Hid (wr.ownsRow w5.heap.size 39 1 (.slice ua L5.length uc) L5.length xs) ∧ Hid (Below w5.heap.size w5 wr)) (fun jv _ => L5.length - (intOf jv).toNat)
            case atStart => exact ⟨0, _, rfl, Nat.zero_le _, HO7, HB7⟩
            case round =>
              obtain ⟨j, xs, rfl, hj, HX, HBx⟩ := hrel
              by_cases hltj : j < L5.length
              · obtain ⟨gu, cap, e, hbg, hgu, _, _, hl, hcj, hfj⟩ := own_shape HX.out (by omega)
                cases e
                have hcu : wr.cell? ⟨gu, j, none⟩ = some xs[j] := by rw [hcj j hltj]; exact List.getElem?_eq_getElem (by omega)
                have hfu := hfj j
                have HXs := Lib.hid (HX.out.stored j (.int .u64 3)).1
                have HBs := Lib.hid (HBx.out.setCell (p := ⟨gu, j, none⟩) hbg (.int .u64 3))
                have b1 : (j : Int) < (L5.length : Int) := by omega
                have b2 : (0 : Int) ≤ (j : Int) := by omega
                have b3 : ((j : Int)).toNat = j := by omega
                generalize xs[j] = u at *
                have HLJ := Lib.hid hltj
                have HL := Lib.hid hl
                clear hcj hfj hltj hl
                go_wp2_with (fail)
                go_roundw
                case rel => exact ⟨j + 1, _, by go_num, HLJ.out, HXs, HBs⟩
                case measure => have := HLJ.out; simp [intOf]; omega
              · have hj2 : j = L5.length := by omega
                subst hj2
                have HT8 := Lib.hid (HT5.out.keep HBx.out)
                have HB8 := Lib.hid (HB5.out.trans (HBx.out.mono HB5.out.size))
                go_wp2_with (fail)
                go_roundw
                case rel => exact ⟨k + 1, b5, L5, rfl, by go_num, HLT.out, HT8.out, HR5.out, by omega, HB8⟩
                case measure => have := HLT.out; simp [intOf]; omega
          by_cases hk5 : K0 = 5
          · subst hk5
            go_wp2_with (fail)
            refine (two_fcopy HTc.out (by omega)).mono ?_
            rintro e w3' ⟨b5, rfl, hc3, hb3⟩
            have HB3 := Lib.hid (HBc.out.trans (hb3.mono HBB.out))
            have TK := Lib.hid (junk_take hc3)
            clear hc3 hb3
            go_wp2_with (fail)
            refine TK.out.mono ?_
            rintro e w4 hj4
            have HB4 := Lib.hid (HB3.out.trans (hj4.2.2.mono HBB.out))
            have TP := Lib.hid (junk_put A0 hj4)
            obtain ⟨⟨x, y, rfl⟩, _⟩ := hj4
            go_wp2_with (fail)
            refine TP.out.mono ?_
            rintro e w5 ⟨rfl, ht5, hb5⟩
            have HT5 := Lib.hid ht5
            have HB5 := Lib.hid (HB4.out.trans (hb5.mono HBB.out))
            obtain ⟨L5, rfl⟩ : ∃ L5 : List Int, L5 = Lc := ⟨_, rfl⟩
            have HR5 := HRc
            clear ht5 hb5 HB4 HB3 TK TP
            go_wp2_with (fail)
            refine (two_fall HT5.out (List.Perm.refl _) HR5.out (by omega)).mono ?_
            rintro e w6 ⟨ua, uc, rfl, ho6, ht6, hb6⟩
            have HO6 := Lib.hid ho6
            have HT6 := Lib.hid ht6
            have HB6 := Lib.hid hb6
            obtain ⟨sa, sc, hcs, hrs⟩ := ht6.lies
            have hru := ReadL.of_own ho6
            have hsl : sb < w6.heap.size := World.block_lt_of_cell? w6 ⟨sb, 0, none⟩ hcs
            obtain ⟨S, f, fne, f0, fB, fI⟩ := cls_of w6
            have y0 : ∀ x, (f x).cell? ⟨sb, 0, none⟩ = some (.slice sa L5.length sc) := fun x => ((fB x).cell (p := ⟨sb, 0, none⟩) hsl).trans hcs
            have Q1 := Lib.hid (fun x => two_fhas A0 (ht6.keep (fB x)) (List.Perm.refl _) (by omega))
            have Q2 := Lib.hid (fun x => two_shas A0 (ht6.keep (fB x)) (by omega))
            have Q3 := Lib.hid (fun x => two_flen (ht6.keep (fB x)) L5.length rfl)
            have Q4 := Lib.hid (fun x => asame_v ua sa uc sc L5 (f x) (hru.keep (fB x)) (hrs.keep (fB x)) (by omega))
            have FB := Lib.hid fB
            have FI := Lib.hid fI
            have F0 := Lib.hid f0
            obtain ⟨r, hr⟩ : ∃ r, decide (A0 ∈ L5) = r := ⟨_, rfl⟩
            rw [hr] at Q1 Q2
            clear fB fI f0 ho6 ht6 hb6 hcs hrs hru hr
            go_wp2_with (fail)
            (refine wp_region_cls f (by kernel_rfl) (by kernel_rfl) F0.out ?_; (repeat (go_big_quiet_step ((first | (go_at_call 27; exact calls_cls FI.out FB.out (Q1.out _)) | (go_at_call 34; exact calls_cls FI.out FB.out ((Q2.out _).mono fun _ _ ⟨h1, h2⟩ => ⟨h1, h2 ▸ Below.refl _ _⟩)) | (go_at_call 28; exact calls_cls FI.out FB.out ((Q3.out _).mono fun _ _ ⟨h1, h2⟩ => ⟨h1, h2 ▸ Below.refl _ _⟩)) | (go_at_call 35; exact calls_cls FI.out FB.out ((Q4.out _).mono fun _ _ ⟨h1, q, h2⟩ => ⟨h1, h2 ▸ belowN (Below.refl _ _) q⟩)))))); refine wpQuiet_nil ?_; intro _ hw'; obtain ⟨xq, hw''⟩ := hw'; subst hw'')
            have HB7 := Lib.hid (HB6.out.trans ((FB.out xq).mono HB6.out.size))
            have HO7 := Lib.hid (own_keeps HO6.out (Keeps.of_below' (FB.out xq)) (fun _ _ => id))
            clear y0 hsl
            generalize f xq = w7 at *
            clear Q1 Q2 Q3 Q4 FB FI F0
            go_wp2_with (fail)
            go_loopw [17] (fun jv wr => ∃ (j : Nat) (xs : List Value), jv = .int .i64 j ∧ j ≤ L5.length ∧ Hid (wr.ownsRow w5.heap.size 39 1 (.slice ua L5.length uc) L5.length xs) ∧ Hid (Below w5.heap.size w5 wr)) (fun jv _ => L5.length - (intOf jv).toNat)
            case atStart => exact ⟨0, _, rfl, Nat.zero_le _, HO7, HB7⟩
            case round =>
              obtain ⟨j, xs, rfl, hj, HX, HBx⟩ := hrel
              by_cases hltj : j < L5.length
              · obtain ⟨gu, cap, e, hbg, hgu, _, _, hl, hcj, hfj⟩ := own_shape HX.out (by omega)
                cases e
                have hcu : wr.cell? ⟨gu, j, none⟩ = some xs[j] := by rw [hcj j hltj]; exact List.getElem?_eq_getElem (by omega)
                have hfu := hfj j
                have HXs := Lib.hid (HX.out.stored j (.int .u64 3)).1
                have HBs := Lib.hid (HBx.out.setCell (p := ⟨gu, j, none⟩) hbg (.int .u64 3))
                have b1 : (j : Int) < (L5.length : Int) := by omega
                have b2 : (0 : Int) ≤ (j : Int) := by omega
                have b3 : ((j : Int)).toNat = j := by omega
                generalize xs[j] = u at *
                have HLJ := Lib.hid hltj
                have HL := Lib.hid hl
                clear hcj hfj hltj hl
                go_wp2_with (fail)
                go_roundw
                case rel => exact ⟨j + 1, _, by go_num, HLJ.out, HXs, HBs⟩
                case measure => have := HLJ.out; simp [intOf]; omega
              · have hj2 : j = L5.length := by omega
                subst hj2
                have HT8 := Lib.hid (HT5.out.keep HBx.out)
                have HB8 := Lib.hid (HB5.out.trans (HBx.out.mono HB5.out.size))
                go_wp2_with (fail)
                go_roundw
                case rel => exact ⟨k + 1, b5, L5, rfl, by go_num, HLT.out, HT8.out, HR5.out, by omega, HB8⟩
                case measure => have := HLT.out; simp [intOf]; omega
          · have q1 : (K0 == 1) = false := by simpa using hk1
            have q2 : (K0 == 2) = false := by simpa using hk2
            have q3 : (K0 == 3) = false := by simpa using hk3
            have q5 : (K0 == 5) = false := by simpa using hk5
            clear hk1 hk2 hk3 hk5
            obtain ⟨w5, rfl⟩ : ∃ w5 : World, w5 = wr := ⟨_, rfl⟩
            obtain ⟨b5, rfl⟩ : ∃ b5 : Nat, b5 = b := ⟨_, rfl⟩
            obtain ⟨L5, rfl⟩ : ∃ L5 : List Int, L5 = Lc := ⟨_, rfl⟩
            have HT5 := HTc
            have HR5 := HRc
            have HB5 := HBc
            go_wp2_with (fail)
            refine (two_fall HT5.out (List.Perm.refl _) HR5.out (by omega)).mono ?_
            rintro e w6 ⟨ua, uc, rfl, ho6, ht6, hb6⟩
            have HO6 := Lib.hid ho6
            have HT6 := Lib.hid ht6
            have HB6 := Lib.hid hb6
            obtain ⟨sa, sc, hcs, hrs⟩ := ht6.lies
            have hru := ReadL.of_own ho6
            have hsl : sb < w6.heap.size := World.block_lt_of_cell? w6 ⟨sb, 0, none⟩ hcs
            obtain ⟨S, f, fne, f0, fB, fI⟩ := cls_of w6
            have y0 : ∀ x, (f x).cell? ⟨sb, 0, none⟩ = some (.slice sa L5.length sc) := fun x => ((fB x).cell (p := ⟨sb, 0, none⟩) hsl).trans hcs
            have Q1 := Lib.hid (fun x => two_fhas A0 (ht6.keep (fB x)) (List.Perm.refl _) (by omega))
            have Q2 := Lib.hid (fun x => two_shas A0 (ht6.keep (fB x)) (by omega))
            have Q3 := Lib.hid (fun x => two_flen (ht6.keep (fB x)) L5.length rfl)
            have Q4 := Lib.hid (fun x => asame_v ua sa uc sc L5 (f x) (hru.keep (fB x)) (hrs.keep (fB x)) (by omega))
            have FB := Lib.hid fB
            have FI := Lib.hid fI
            have F0 := Lib.hid f0
            obtain ⟨r, hr⟩ : ∃ r, decide (A0 ∈ L5) = r := ⟨_, rfl⟩
            rw [hr] at Q1 Q2
            clear fB fI f0 ho6 ht6 hb6 hcs hrs hru hr
            go_wp2_with (fail)
            (refine wp_region_cls f (by kernel_rfl) (by kernel_rfl) F0.out ?_; (repeat (go_big_quiet_step ((first | (go_at_call 27; exact calls_cls FI.out FB.out (Q1.out _)) | (go_at_call 34; exact calls_cls FI.out FB.out ((Q2.out _).mono fun _ _ ⟨h1, h2⟩ => ⟨h1, h2 ▸ Below.refl _ _⟩)) | (go_at_call 28; exact calls_cls FI.out FB.out ((Q3.out _).mono fun _ _ ⟨h1, h2⟩ => ⟨h1, h2 ▸ Below.refl _ _⟩)) | (go_at_call 35; exact calls_cls FI.out FB.out ((Q4.out _).mono fun _ _ ⟨h1, q, h2⟩ => ⟨h1, h2 ▸ belowN (Below.refl _ _) q⟩)))))); refine wpQuiet_nil ?_; intro _ hw'; obtain ⟨xq, hw''⟩ := hw'; subst hw'')
            have HB7 := Lib.hid (HB6.out.trans ((FB.out xq).mono HB6.out.size))
            have HO7 := Lib.hid (own_keeps HO6.out (Keeps.of_below' (FB.out xq)) (fun _ _ => id))
            clear y0 hsl
            generalize f xq = w7 at *
            clear Q1 Q2 Q3 Q4 FB FI F0
            go_wp2_with (fail)
            go_loopw [17] (fun jv wr => ∃ (j : Nat) (xs : List Value), jv = .int .i64 j ∧ j ≤ L5.length ∧ Hid (wr.ownsRow w5.heap.size 39 1 (.slice ua L5.length uc) L5.length xs) ∧ Hid (Below w5.heap.size w5 wr)) (fun jv _ => L5.length - (intOf jv).toNat)
            case atStart => exact ⟨0, _, rfl, Nat.zero_le _, HO7, HB7⟩
            case round =>
              obtain ⟨j, xs, rfl, hj, HX, HBx⟩ := hrel
              by_cases hltj : j < L5.length
              · obtain ⟨gu, cap, e, hbg, hgu, _, _, hl, hcj, hfj⟩ := own_shape HX.out (by omega)
                cases e
                have hcu : wr.cell? ⟨gu, j, none⟩ = some xs[j] := by rw [hcj j hltj]; exact List.getElem?_eq_getElem (by omega)
                have hfu := hfj j
                have HXs := Lib.hid (HX.out.stored j (.int .u64 3)).1
                have HBs := Lib.hid (HBx.out.setCell (p := ⟨gu, j, none⟩) hbg (.int .u64 3))
                have b1 : (j : Int) < (L5.length : Int) := by omega
                have b2 : (0 : Int) ≤ (j : Int) := by omega
                have b3 : ((j : Int)).toNat = j := by omega
                generalize xs[j] = u at *
                have HLJ := Lib.hid hltj
                have HL := Lib.hid hl
                clear hcj hfj hltj hl
                go_wp2_with (fail)
                go_roundw
                case rel => exact ⟨j + 1, _, by go_num, HLJ.out, HXs, HBs⟩
                case measure => have := HLJ.out; simp [intOf]; omega
              · have hj2 : j = L5.length := by omega
                subst hj2
                have HT8 := Lib.hid (HT5.out.keep HBx.out)
                have HB8 := Lib.hid (HB5.out.trans (HBx.out.mono HB5.out.size))
                go_wp2_with (fail)
                go_roundw
                case rel => exact ⟨k + 1, b5, L5, rfl, by go_num, HLT.out, HT8.out, HR5.out, by omega, HB8⟩
                case measure => have := HLT.out; simp [intOf]; omega
        · have hk2 : k = n2 := by omega
          subst hk2
          obtain ⟨sa, sc, hcs, hrs⟩ := HTc.out.lies
          have hsl : sb < wr.heap.size := World.block_lt_of_cell? wr ⟨sb, 0, none⟩ hcs
          have QA := Lib.hid (fun w' (hb : Below wr.heap.size wr w') => two_fall (HTc.out.keep hb) (List.Perm.refl _) HRc.out (by omega))
          have HRS := Lib.hid hrs
          clear hrs
          go_wp2_with (fail)
          go_region_with (first
            | (go_at_call 25; refine (QA.out _ ((Below.refl _ _).drew)).mono ?_; rintro e w6 ⟨ua, uc, rfl, ho6, ht6, hb6⟩; have hb6' := ((Below.refl wr.heap.size wr).drew).trans hb6; have hc6 := (hb6'.cell (p := ⟨sb, 0, none⟩) hsl).trans hcs; have HS6 := Lib.hid (asame_v ua sa uc sc Lc w6 (ReadL.of_own ho6) (HRS.out.keep hb6') (by omega)); have HB6 := Lib.hid hb6'; clear ho6 ht6 hb6 hb6')
            | (go_at_call 35; refine (Hid.out (by assumption) : Calls Try.prog 35 _ _ _).mono ?_; rintro e w7 ⟨rfl, q, rfl⟩)
            | (go_at_call 15; refine (known_any _).mono ?_; rintro e w8 ⟨rfl, hk8⟩; have HK8 := Lib.hid hk8; clear hk8))
          all_goals
            go_wp2_with (fail)
            go_ret
            have X := belowN (HBc.out.trans (HB6.out.mono HBc.out.size)) q
            exact ⟨rfl, X.trans (HK8.out.mono X.size)⟩
end Go.Proofs.Ytdekjfbaoaobeaa
