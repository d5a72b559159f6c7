/-
  The law PmemSizes.
-/
import Derived.Test.YticgfnnmjcjnjaaPzk
namespace Go.Proofs.Yticgfnnmjcjnjaa
open Go.RowKit Go.Maps
attribute [local go_sem] Oper.semAt_some
set_option linter.unusedVariables false

def TrueQ (w : World) (e : Ending) (w' : World) : Prop := e = .returned (.bool true) ∧ Below w.heap.size w w'
theorem bytesW_zero : ∀ N, bytesW (List.replicate N 0) = List.replicate (8 * N) 0
  | 0 => rfl
  | N + 1 => by
    have h : bytesW (List.replicate (N + 1) 0) = putB 0 ++ bytesW (List.replicate N 0) := by
      rw [List.replicate_succ]; rfl
    rw [h, bytesW_zero N, show putB 0 = List.replicate 8 0 by decide, List.replicate_append_replicate]
    congr 1
    omega
theorem zero_u64 (N : Nat) : U64s (List.replicate N 0) := fun x hx => by
  have := List.eq_of_mem_replicate hx
  subst this
  decide
set_option maxRecDepth 100000 in
set_option maxHeartbeats 4000000 in
theorem sizes_v (n : Int) (w : World) (hr : -9223372036854775808 ≤ n ∧ n ≤ 9223372036854775807) : Calls Try.prog 3 #[.int .i64 n] w (TrueQ w) := by
  cases hm : mayI n with
  | false =>
    have HN := Lib.hid (new_no w n hm)
    have HM := Lib.hid (rmay_v w n)
    rw [hm] at HM
    have HK := Lib.hid (known_v w)
    have HB0 := Lib.hid (Below.refl w.heap.size w)
    clear hm hr
    go_enter Try.func3, Try.ntmps3
    go_wp2_with (fail)
    refine HN.out.mono ?_
    rintro e w1 ⟨rfl, rfl⟩
    go_wp2_with (fail)
    refine HM.out.mono ?_
    rintro e w1 ⟨rfl, rfl⟩
    go_wp2_with (fail)
    refine HK.out.mono ?_
    rintro e w9 ⟨rfl, hB9⟩
    have HB9 := Lib.hid (HB0.out.trans (hB9.mono HB0.out.size))
    clear hB9
    go_wp2_with (fail)
    go_ret
    exact ⟨rfl, HB9.out⟩
  | true =>
    obtain ⟨N, rfl, hN0, hN1, hmb⟩ := mayI_form hm
    have HN := Lib.hid (new_z N w hN0 hN1 hmb)
    have HM := Lib.hid (fun W => rmay_v W ((8 * N : Nat) : Int))
    rw [hm] at HM
    have HNn := Lib.hid (And.intro hN0 hN1)
    obtain ⟨sz, hsz⟩ : ∃ sz, 8 * N = sz := ⟨_, rfl⟩
    have HSz := Lib.hid hsz
    rw [hsz] at HN HM ⊢
    clear hm hr hN0 hN1 hmb hsz
    go_enter Try.func3, Try.ntmps3
    go_wp2_with (fail)
    refine HN.out.mono ?_
    rintro e w1 ⟨mb, S, rfl, hm, hS, hB⟩
    have HMm := Lib.hid hm
    have HB1 := Lib.hid hB
    have HSi := Lib.hid (size_m hm)
    rw [List.length_replicate, show 8 * (N : Int) = (sz : Int) from by have := HSz.out; omega] at HSi
    clear hm hS hB
    go_wp2_with (fail)
    refine (HM.out w1).mono ?_
    rintro e w2 ⟨rfl, rfl⟩
    go_wp2_with (fail)
    refine HSi.out.mono ?_
    rintro e w2 ⟨rfl, rfl⟩
    have HK := Lib.hid (known_v w1)
    by_cases hbig : (4096 : Int) < (sz : Int)
    · have hbb := hbig
      clear hbig
      go_wp2_with (fail)
      refine HK.out.mono ?_
      rintro e w9 ⟨rfl, hB9⟩
      have HB9 := Lib.hid (HB1.out.trans (hB9.mono HB1.out.size))
      clear hB9
      go_wp2_with (fail)
      go_ret
      exact ⟨rfl, HB9.out⟩
    · clear HK
      have HSm := Lib.hid (show sz ≤ 4096 from by omega)
      have HVw := Lib.hid (view_m HMm.out (zero_u64 N))
      have hsm : (sz : Int) ≤ 4096 := by omega
      clear hbig
      go_wp2_with (fail)
      refine HVw.out.mono ?_
      rintro e w3 ⟨v, rfl, hr3, hb3⟩
      have hbl : (bytesW (List.replicate N 0)).length = sz := by rw [bytesW_len, List.length_replicate, HSz.out]
      obtain ⟨MI, hMI⟩ : ∃ MI, bytesW (List.replicate N 0) = MI := ⟨_, rfl⟩
      obtain ⟨BI, hBI⟩ : ∃ BI : ByteArray, (⟨MI.toArray⟩ : ByteArray) = BI := ⟨_, rfl⟩
      rw [hMI] at hbl hr3
      have hsz0 : 0 < sz := by have := HNn.out; have := HSz.out; omega
      rcases own_cases hr3 with ⟨h0, _⟩ | ⟨_, g, c, rfl, hg, hgl, _, _, hcs, _⟩
      · omega
      rw [hbl] at hcs ⊢
      have HC := Lib.hid (show ∀ k, k < sz → w3.cell? ⟨g, k, none⟩ = some (.int .u8 0) from fun k hk => by
        rw [hcs k hk, ← hMI, bytesW_zero]
        have : k < 8 * N := by have := HSz.out; omega
        simp [bvals, this])
      have HRb := Lib.hid (fun W (hB : Below w3.heap.size w3 W) => conv_rowM (own_keeps hr3 (Keeps.of_below' hB) (fun _ _ h => h)))
      rw [hBI] at HRb
      rw [hbl] at HRb
      have hm3 := HMm.out.below hb3
      have HIm := Lib.hid (fun W (hB : Below w3.heap.size w3 W) => image_m (hm3.below hB) (zero_u64 N))
      have HLn := Lib.hid (fun W (hB : Below w3.heap.size w3 W) => lines_m (hm3.below hB))
      rw [hMI] at HIm
      have HBI := Lib.hid hBI
      have HMb := Lib.hid hbl
      have HB3 := Lib.hid (HB1.out.trans (hb3.mono HB1.out.size))
      clear hr3 hb3 hcs hMI hBI hg hgl hm3 HVw HMm HB1 hbl
      go_wp2_with (fail)
      go_loopw [6] (fun iv wr => ∃ k : Nat, k ≤ sz ∧ iv = .int .i64 k ∧ wr = w3) (fun iv _ => sz - (intOf iv).toNat)
      case atStart => exact ⟨0, by omega, rfl, rfl⟩
      case round =>
        obtain ⟨k, hk, rfl, rfl⟩ := hrel
        by_cases hlt : k < sz
        · have d := HC.out k hlt
          have hkb : (k : Int) < (sz : Int) := by omega
          have HLt := Lib.hid hlt
          have hk9 : (k : Int) ≤ 4096 := by omega
          clear hlt hk
          go_wp2_with (fail)
          go_roundw
          case rel => exact ⟨k + 1, HLt.out, by go_num, trivial⟩
          case measure => have := HLt.out; simp [intOf]; omega
        · obtain rfl : k = sz := by omega
          clear hlt hk
          go_wp2_with (fail)
          --GEN r_sz14
          refine wp_region_vals [Is (.slice (some ⟨g, 0, none⟩) k c), Is (.int .i64 (k : Int)), Is (.int .i64 (k : Int)), Is (.bool true), Is (.bool true), Is (.pointer (some ⟨mb, 0, none⟩)), fun v W => W.ownsRow wr.heap.size 5 1 v MI.length (bvals MI), Is (.string BI), Is (.slice (some ⟨g, 0, none⟩) k c), Is (.string BI), Is (.bool true), Is (.bool true), Is (.bool true), Is (.pointer (some ⟨mb, 0, none⟩)), fun v _ => ∃ p c, v = .slice p 0 c, Is (.int .i64 0), Is (.bool true), Is (.bool true), Is (.bool true), Is (.bool true), Is (.bool true), Is (.bool true)]
            (fun _ W W' => Below W.heap.size W W') (fun _ W => Below wr.heap.size wr W) (by kernel_rfl) (by kernel_rfl) (by kernel_rfl) ?hst ?h0 ⟨?o0, ?o1, ?o2, ?o3, ?o4, ?o5, ?o6, ?o7, ?o8, ?o9, ?o10, ?o11, ?o12, ?o13, ?o14, ?o15, ?o16, ?o17, ?o18, ?o19, ?o20, ?o21, trivial⟩ ?he
          case hst =>
            exact ⟨(fun _ _ _ _ _ _ h _ => h), (fun _ _ _ _ _ _ h _ => h), (fun _ _ _ _ _ _ h _ => h), (fun _ _ _ _ _ _ h _ => h), (fun _ _ _ _ _ _ h _ => h), (fun _ _ _ _ _ _ h _ => h), (fun _ _ _ _ _ _ h hR => own_keeps h (Keeps.of_below' hR) (fun _ _ h => h)), (fun _ _ _ _ _ _ h _ => h), (fun _ _ _ _ _ _ h _ => h), (fun _ _ _ _ _ _ h _ => h), (fun _ _ _ _ _ _ h _ => h), (fun _ _ _ _ _ _ h _ => h), (fun _ _ _ _ _ _ h _ => h), (fun _ _ _ _ _ _ h _ => h), (fun _ _ _ _ _ _ h _ => h), (fun _ _ _ _ _ _ h _ => h), (fun _ _ _ _ _ _ h _ => h), (fun _ _ _ _ _ _ h _ => h), (fun _ _ _ _ _ _ h _ => h), (fun _ _ _ _ _ _ h _ => h), (fun _ _ _ _ _ _ h _ => h), (fun _ _ _ _ _ _ h _ => h), trivial⟩
          case h0 =>
            exact (Below.refl _ _).drew
          case o0 =>
            intro L vs A W H hf hd K hK
            have e5 : A.tmps[5]?.getD undef = .slice (some ⟨g, 0, none⟩) k c := H.old 5 (by kernel_rfl)
            go_simp
            exact hK _ _ (Below.refl _ _) rfl (H.glob)
          case o1 =>
            intro L vs A W H hf hd K hK
            have e52 := H.is 0 52 rfl rfl rfl (deps_of' hd 0 (by kernel_rfl)) (by kernel_rfl)
            go_simp
            exact hK _ _ (Below.refl _ _) rfl (H.glob)
          case o2 =>
            intro L vs A W H hf hd K hK
            have e0 : A.tmps[0]?.getD undef = .int .i64 (k : Int) := H.old 0 (by kernel_rfl)
            go_simp
            exact hK _ _ (Below.refl _ _) rfl (H.glob)
          case o3 =>
            intro L vs A W H hf hd K hK
            have e53 := H.is 1 53 rfl rfl rfl (deps_of' hd 1 (by kernel_rfl)) (by kernel_rfl)
            have e54 := H.is 2 54 rfl rfl rfl (deps_of' hd 2 (by kernel_rfl)) (by kernel_rfl)
            go_simp
            exact hK _ _ (Below.refl _ _) rfl (H.glob)
          case o4 =>
            intro L vs A W H hf hd K hK
            have e55 := H.is 3 55 rfl rfl rfl (deps_of' hd 3 (by kernel_rfl)) (by kernel_rfl)
            go_simp
            exact hK _ _ (Below.refl _ _) rfl (H.glob)
          case o5 =>
            intro L vs A W H hf hd K hK
            have e56 := H.is 4 56 rfl rfl rfl (deps_of' hd 4 (by kernel_rfl)) (by kernel_rfl)
            refine if_wanted (j := 4) (s := 56) rfl rfl rfl e56 rfl ?_
            have e3 : A.tmps[3]?.getD undef = .pointer (some ⟨mb, 0, none⟩) := H.old 3 (by kernel_rfl)
            go_simp
            exact hK _ _ (Below.refl _ _) rfl (H.glob)
          case o6 =>
            intro L vs A W H hf hd K hK
            have e56 := H.is 4 56 rfl rfl rfl (deps_of' hd 4 (by kernel_rfl)) (by kernel_rfl)
            refine if_wanted (j := 4) (s := 56) rfl rfl rfl e56 rfl ?_
            have e57 := H.is 5 57 rfl rfl rfl (deps_of' hd 5 (by kernel_rfl)) (by kernel_rfl)
            go_simp
            refine (HIm.out _ H.glob).mono ?_
            rintro e W2 ⟨v, rfl, ho, hB⟩
            go_simp
            exact hK _ _ hB (own_mono ho H.glob.size) (H.glob.trans (hB.mono H.glob.size))
          case o7 =>
            intro L vs A W H hf hd K hK
            have e56 := H.is 4 56 rfl rfl rfl (deps_of' hd 4 (by kernel_rfl)) (by kernel_rfl)
            refine if_wanted (j := 4) (s := 56) rfl rfl rfl e56 rfl ?_
            obtain ⟨v58, e58, q58⟩ := H.val 6 58 rfl rfl rfl (deps_of' hd 6 (by kernel_rfl)) (by kernel_rfl)
            have hcv := conv_rowM q58
            rw [HBI.out] at hcv
            obtain ⟨p9, n9, c9, rfl⟩ := own_slice q58
            go_simp
            exact hK _ _ (Below.refl _ _) rfl H.glob
          case o8 =>
            intro L vs A W H hf hd K hK
            have e56 := H.is 4 56 rfl rfl rfl (deps_of' hd 4 (by kernel_rfl)) (by kernel_rfl)
            refine if_wanted (j := 4) (s := 56) rfl rfl rfl e56 rfl ?_
            have e5 : A.tmps[5]?.getD undef = .slice (some ⟨g, 0, none⟩) k c := H.old 5 (by kernel_rfl)
            go_simp
            exact hK _ _ (Below.refl _ _) rfl (H.glob)
          case o9 =>
            intro L vs A W H hf hd K hK
            have e56 := H.is 4 56 rfl rfl rfl (deps_of' hd 4 (by kernel_rfl)) (by kernel_rfl)
            refine if_wanted (j := 4) (s := 56) rfl rfl rfl e56 rfl ?_
            have e60 := H.is 8 60 rfl rfl rfl (deps_of' hd 8 (by kernel_rfl)) (by kernel_rfl)
            have hcv := HRb.out W H.glob
            go_simp
            exact hK _ _ (Below.refl _ _) rfl H.glob
          case o10 =>
            intro L vs A W H hf hd K hK
            have e56 := H.is 4 56 rfl rfl rfl (deps_of' hd 4 (by kernel_rfl)) (by kernel_rfl)
            refine if_wanted (j := 4) (s := 56) rfl rfl rfl e56 rfl ?_
            have e59 := H.is 7 59 rfl rfl rfl (deps_of' hd 7 (by kernel_rfl)) (by kernel_rfl)
            have e61 := H.is 9 61 rfl rfl rfl (deps_of' hd 9 (by kernel_rfl)) (by kernel_rfl)
            go_simp
            exact hK _ _ (Below.refl _ _) rfl (H.glob)
          case o11 =>
            intro L vs A W H hf hd K hK
            have e56 := H.is 4 56 rfl rfl rfl (deps_of' hd 4 (by kernel_rfl)) (by kernel_rfl)
            have e62 := H.is 10 62 rfl rfl rfl (deps_of' hd 10 (by kernel_rfl)) (by kernel_rfl)
            go_simp
            exact hK _ _ (Below.refl _ _) rfl (H.glob)
          case o12 =>
            intro L vs A W H hf hd K hK
            have e63 := H.is 11 63 rfl rfl rfl (deps_of' hd 11 (by kernel_rfl)) (by kernel_rfl)
            go_simp
            exact hK _ _ (Below.refl _ _) rfl (H.glob)
          case o13 =>
            intro L vs A W H hf hd K hK
            have e64 := H.is 12 64 rfl rfl rfl (deps_of' hd 12 (by kernel_rfl)) (by kernel_rfl)
            refine if_wanted (j := 12) (s := 64) rfl rfl rfl e64 rfl ?_
            have e3 : A.tmps[3]?.getD undef = .pointer (some ⟨mb, 0, none⟩) := H.old 3 (by kernel_rfl)
            go_simp
            exact hK _ _ (Below.refl _ _) rfl (H.glob)
          case o14 =>
            intro L vs A W H hf hd K hK
            have e64 := H.is 12 64 rfl rfl rfl (deps_of' hd 12 (by kernel_rfl)) (by kernel_rfl)
            refine if_wanted (j := 12) (s := 64) rfl rfl rfl e64 rfl ?_
            have e65 := H.is 13 65 rfl rfl rfl (deps_of' hd 13 (by kernel_rfl)) (by kernel_rfl)
            go_simp
            refine (HLn.out _ H.glob).mono ?_
            rintro e W2 ⟨u, xs, rfl, hks, hown, hB⟩
            obtain rfl := hks.nil (fun _ => rfl)
            obtain ⟨p, n, cp, rfl⟩ := own_slice hown
            have hn0 : n = (srt []).length := own_len hown
            rw [srt_len] at hn0
            obtain rfl : n = 0 := hn0
            go_simp
            exact hK _ _ hB ⟨p, cp, rfl⟩ (H.glob.trans (hB.mono H.glob.size))
          case o15 =>
            intro L vs A W H hf hd K hK
            have e64 := H.is 12 64 rfl rfl rfl (deps_of' hd 12 (by kernel_rfl)) (by kernel_rfl)
            refine if_wanted (j := 12) (s := 64) rfl rfl rfl e64 rfl ?_
            obtain ⟨v66, e66, q66⟩ := H.val 14 66 rfl rfl rfl (deps_of' hd 14 (by kernel_rfl)) (by kernel_rfl)
            obtain ⟨p9, c9, rfl⟩ := q66
            go_simp
            exact hK _ _ (Below.refl _ _) rfl (H.glob)
          case o16 =>
            intro L vs A W H hf hd K hK
            have e64 := H.is 12 64 rfl rfl rfl (deps_of' hd 12 (by kernel_rfl)) (by kernel_rfl)
            refine if_wanted (j := 12) (s := 64) rfl rfl rfl e64 rfl ?_
            have e67 := H.is 15 67 rfl rfl rfl (deps_of' hd 15 (by kernel_rfl)) (by kernel_rfl)
            go_simp
            exact hK _ _ (Below.refl _ _) rfl (H.glob)
          case o17 =>
            intro L vs A W H hf hd K hK
            have e64 := H.is 12 64 rfl rfl rfl (deps_of' hd 12 (by kernel_rfl)) (by kernel_rfl)
            have e68 := H.is 16 68 rfl rfl rfl (deps_of' hd 16 (by kernel_rfl)) (by kernel_rfl)
            go_simp
            exact hK _ _ (Below.refl _ _) rfl (H.glob)
          case o18 =>
            intro L vs A W H hf hd K hK
            have e69 := H.is 17 69 rfl rfl rfl (deps_of' hd 17 (by kernel_rfl)) (by kernel_rfl)
            go_simp
            exact hK _ _ (Below.refl _ _) rfl (H.glob)
          case o19 =>
            intro L vs A W H hf hd K hK
            have e70 := H.is 18 70 rfl rfl rfl (deps_of' hd 18 (by kernel_rfl)) (by kernel_rfl)
            refine if_wanted (j := 18) (s := 70) rfl rfl rfl e70 rfl ?_
            go_simp
            refine (known_v _).mono ?_
            rintro e W2 ⟨rfl, hB⟩
            go_simp
            exact hK _ _ hB rfl (H.glob.trans (hB.mono H.glob.size))
          case o20 =>
            intro L vs A W H hf hd K hK
            have e70 := H.is 18 70 rfl rfl rfl (deps_of' hd 18 (by kernel_rfl)) (by kernel_rfl)
            have e71 := H.is 19 71 rfl rfl rfl (deps_of' hd 19 (by kernel_rfl)) (by kernel_rfl)
            go_simp
            exact hK _ _ (Below.refl _ _) rfl (H.glob)
          case o21 =>
            intro L vs A W H hf hd K hK
            have e72 := H.is 20 72 rfl rfl rfl (deps_of' hd 20 (by kernel_rfl)) (by kernel_rfl)
            go_simp
            exact hK _ _ (Below.refl _ _) rfl (H.glob)
          case he =>
            intro vs W hlen hv
            match vs, hlen, hv with
            | [x0_, x1_, x2_, x3_, x4_, x5_, x6_, x7_, x8_, x9_, x10_, x11_, x12_, x13_, x14_, x15_, x16_, x17_, x18_, x19_, x20_, x21_], _, hv =>
            obtain rfl : (.slice (some ⟨g, 0, none⟩) k c) = x0_ := by obtain ⟨z, h1, h2⟩ := hv 0 _ rfl; cases h1; exact h2.symm
            obtain rfl : (.int .i64 (k : Int)) = x1_ := by obtain ⟨z, h1, h2⟩ := hv 1 _ rfl; cases h1; exact h2.symm
            obtain rfl : (.int .i64 (k : Int)) = x2_ := by obtain ⟨z, h1, h2⟩ := hv 2 _ rfl; cases h1; exact h2.symm
            obtain rfl : (.bool true) = x3_ := by obtain ⟨z, h1, h2⟩ := hv 3 _ rfl; cases h1; exact h2.symm
            obtain rfl : (.bool true) = x4_ := by obtain ⟨z, h1, h2⟩ := hv 4 _ rfl; cases h1; exact h2.symm
            obtain rfl : (.pointer (some ⟨mb, 0, none⟩)) = x5_ := by obtain ⟨z, h1, h2⟩ := hv 5 _ rfl; cases h1; exact h2.symm
            have hx6 : (fun v W => W.ownsRow wr.heap.size 5 1 v MI.length (bvals MI)) x6_ W := by obtain ⟨z, h1, h2⟩ := hv 6 _ rfl; cases h1; exact h2
            obtain rfl : (.string BI) = x7_ := by obtain ⟨z, h1, h2⟩ := hv 7 _ rfl; cases h1; exact h2.symm
            obtain rfl : (.slice (some ⟨g, 0, none⟩) k c) = x8_ := by obtain ⟨z, h1, h2⟩ := hv 8 _ rfl; cases h1; exact h2.symm
            obtain rfl : (.string BI) = x9_ := by obtain ⟨z, h1, h2⟩ := hv 9 _ rfl; cases h1; exact h2.symm
            obtain rfl : (.bool true) = x10_ := by obtain ⟨z, h1, h2⟩ := hv 10 _ rfl; cases h1; exact h2.symm
            obtain rfl : (.bool true) = x11_ := by obtain ⟨z, h1, h2⟩ := hv 11 _ rfl; cases h1; exact h2.symm
            obtain rfl : (.bool true) = x12_ := by obtain ⟨z, h1, h2⟩ := hv 12 _ rfl; cases h1; exact h2.symm
            obtain rfl : (.pointer (some ⟨mb, 0, none⟩)) = x13_ := by obtain ⟨z, h1, h2⟩ := hv 13 _ rfl; cases h1; exact h2.symm
            have hx14 : (fun v _ => ∃ p c, v = .slice p 0 c) x14_ W := by obtain ⟨z, h1, h2⟩ := hv 14 _ rfl; cases h1; exact h2
            obtain rfl : (.int .i64 0) = x15_ := by obtain ⟨z, h1, h2⟩ := hv 15 _ rfl; cases h1; exact h2.symm
            obtain rfl : (.bool true) = x16_ := by obtain ⟨z, h1, h2⟩ := hv 16 _ rfl; cases h1; exact h2.symm
            obtain rfl : (.bool true) = x17_ := by obtain ⟨z, h1, h2⟩ := hv 17 _ rfl; cases h1; exact h2.symm
            obtain rfl : (.bool true) = x18_ := by obtain ⟨z, h1, h2⟩ := hv 18 _ rfl; cases h1; exact h2.symm
            obtain rfl : (.bool true) = x19_ := by obtain ⟨z, h1, h2⟩ := hv 19 _ rfl; cases h1; exact h2.symm
            obtain rfl : (.bool true) = x20_ := by obtain ⟨z, h1, h2⟩ := hv 20 _ rfl; cases h1; exact h2.symm
            obtain rfl : (.bool true) = x21_ := by obtain ⟨z, h1, h2⟩ := hv 21 _ rfl; cases h1; exact h2.symm
            intro L hall hG
            clear hv hlen
            have HG := Lib.hid hG
            clear hG hall hx6 hx14
            simp only [fill, if_true]
            simp [Act.put]
          --END
            go_wp2_with (fail)
            go_ret
            exact ⟨rfl, HB3.out.trans (HG.out.mono HB3.out.size)⟩
end Go.Proofs.Yticgfnnmjcjnjaa
