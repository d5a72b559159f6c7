/-
  The law SnapReads: the walk.
-/
import Derived.Test.YtgmbnoimlffgcaaSnp
namespace Go.Proofs.Ytgmbnoimlffgcaa
open Go.RowKit
attribute [local go_sem] Oper.semAt_some
set_option linter.unusedVariables false

/-- the worlds of a drawn region with one store, at j -/
structure LdJ (w3 : World) (S0 : Nat → Prop) (mb : Nat) (wr : World) (vs : List Int) (st : Int) (j : Nat) (L : Nat → Bool) (W : World) : Prop where
  n : L j = false → W = wr.drew
  y : L j = true → MemE w3 S0 mb vs 0 st 0 0 W
  k : Keeps (SE w3 S0) wr W
theorem LdJ.keep {w3 : World} {S0 : Nat → Prop} {mb : Nat} {wr : World} {vs : List Int} {st : Int} {j : Nat} {L L' : Nat → Bool} {W : World} (h : LdJ w3 S0 mb wr vs st j L W) (e : L' j = L j) : LdJ w3 S0 mb wr vs st j L' W := ⟨by rw [e]; exact h.n, by rw [e]; exact h.y, h.k⟩
def PutsIn (w : World) (a : Option Addr) (l : List (Int × Int)) : Prop := 0 < l.length → ∃ g o, a = some ⟨g, o, none⟩ ∧ g < w.heap.size ∧ EntsAt w g o l
set_option maxRecDepth 100000 in
theorem sreads_out (a : Option Addr) (len c : Nat) (at_ : Int) (w : World) (hn : 40 < len) (hm : len ≤ maxLen) :
    Calls Try.prog 3 #[.slice a len c, .int .u64 at_] w fun e w' => e = .returned (.bool true) ∧ Below w.heap.size w w' := by
  have HNew := Lib.hid (show ∀ W, Calls Try.prog 7 #[.int .i64 1024] W fun e w' => ∃ mb S vs0, e = .returned (.tuple #[.pointer (some ⟨mb, 0, none⟩), .int .i64 0]) ∧ U64s vs0 ∧ vs0.length = 128 ∧ MemP w' mb S vs0 vs0 (fun _ _ => 0) (fun _ => []) 0 0 0 0 ∧ (∀ i, S i → W.heap.size ≤ i) ∧ Below W.heap.size W w' from fun W => new_m 128 W (by decide) (by decide) (by decide))
  have h40 : (40 : Int) < (len : Int) := by omega
  go_enter Try.func3, Try.ntmps3
  go_wp2_with (fail)
  refine (HNew.out w).mono ?_
  rintro e w1 ⟨mb, S0, vs0, rfl, _, _, _, _, hB1⟩
  have HK := Lib.hid (known_v w1)
  have HB1 := Lib.hid hB1
  clear hB1
  go_wp2_with (fail)
  refine HK.out.mono ?_
  rintro e w2 ⟨rfl, hB2⟩
  have HB2 := Lib.hid (HB1.out.trans (hB2.mono HB1.out.size))
  clear hB2
  go_wp2_with (fail)
  go_ret
  exact ⟨rfl, HB2.out⟩
set_option maxRecDepth 100000 in
set_option maxHeartbeats 40000000 in
theorem sreads_in (a : Option Addr) (l : List (Int × Int)) (cl : Nat) (at_ : Int) (hat0 : 0 ≤ at_) (hat1 : at_ ≤ 18446744073709551615) (w : World) (hk : l.length ≤ 40) (hl : PutsIn w a l)
    (hu : ∀ i, i < l.length → (0 ≤ eK l i ∧ eK l i < 18446744073709551616) ∧ 0 ≤ eP l i ∧ eP l i ≤ 18446744073709551615) :
    Calls Try.prog 3 #[.slice a l.length cl, .int .u64 at_] w fun e w' => e = .returned (.bool true) ∧ Below w.heap.size w w' := by
  have HNew := Lib.hid (show ∀ W, Calls Try.prog 7 #[.int .i64 1024] W fun e w' => ∃ mb S vs0, e = .returned (.tuple #[.pointer (some ⟨mb, 0, none⟩), .int .i64 0]) ∧ U64s vs0 ∧ vs0.length = 128 ∧ MemP w' mb S vs0 vs0 (fun _ _ => 0) (fun _ => []) 0 0 0 0 ∧ (∀ i, S i → W.heap.size ≤ i) ∧ Below W.heap.size W w' from fun W => new_m 128 W (by decide) (by decide) (by decide))
  obtain ⟨ln, hln⟩ : ∃ ln, l.length = ln := ⟨_, rfl⟩
  have HLn := Lib.hid hln
  have HPu := Lib.hid hl
  have HU := Lib.hid hu
  rw [hln] at hk HU ⊢
  have h40 : ¬ (40 : Int) < (ln : Int) := by omega
  clear hl hu hln
  go_enter Try.func3, Try.ntmps3
  go_wp2_with (fail)
  refine (HNew.out w).mono ?_
  rintro e w6 ⟨mb, S0, vs0, rfl, hu0, hl0, hm0, hS0, hB1⟩
  have HM6 := Lib.hid (show MemV w6 mb S0 vs0 0 0 0 0 from ⟨_, _, _, hm0⟩)
  have HS0 := Lib.hid (show ∀ i, S0 i → w.heap.size ≤ i ∧ i < w6.heap.size from fun i hi => ⟨hS0 i hi, hm0.lt hi⟩)
  have HI0 := Lib.hid (show MemE w6 S0 mb vs0 0 ((0 : Nat) : Int) 0 0 w6 from MemE.start HM6.out)
  have HU0 := Lib.hid hu0
  have HL0 := Lib.hid hl0
  have HB6 := Lib.hid hB1
  clear hu0 hl0 hm0 hS0 hB1 HNew
  go_wp2_with (fail)
  go_loopw [7] (fun iv wq => ∃ (k : Nat) (vsk : List Int), k ≤ ln ∧ iv = .int .i64 k ∧ vsk.length = 128 ∧ U64s vsk ∧ MemE w6 S0 mb vsk 0 (k : Int) 0 0 wq) (fun iv _ => ln - (intOf iv).toNat)
  case atStart => exact ⟨0, vs0, by omega, rfl, HL0.out, HU0.out, HI0.out⟩
  case round =>
    obtain ⟨k, vsk, hk2, rfl, hvl, hvu, hI⟩ := hrel
    have HI := Lib.hid hI
    have HVl := Lib.hid hvl
    have HVu := Lib.hid hvu
    clear hI hvu hvl
    by_cases hlt : k < ln
    · have hkb : (k : Int) < (ln : Int) := by omega
      have HLT := Lib.hid hlt
      have hkl : k < l.length := by rw [HLn.out]; exact hlt
      obtain ⟨gl, ol, rfl, hgl, hE⟩ := HPu.out (by omega)
      have hck := hE k hkl
      have hbd := HU.out k hlt
      obtain ⟨a0, ha0⟩ : ∃ a0, eK l k = a0 := ⟨_, rfl⟩
      obtain ⟨wk, hwk⟩ : ∃ wk, eP l k = wk := ⟨_, rfl⟩
      rw [ha0, hwk] at hck hbd
      obtain ⟨a1, ha1⟩ : ∃ a1, a0 % 1024 = a1 := ⟨_, rfl⟩
      obtain ⟨a2, ha2⟩ : ∃ a2, a1 / 8 = a2 := ⟨_, rfl⟩
      obtain ⟨ad, had⟩ : ∃ ad, a2 * 8 = ad := ⟨_, rfl⟩
      have hadb : 0 ≤ ad ∧ ad < 1024 ∧ ad % 8 = 0 := by omega
      have Hr1 := Lib.hid (show a0.tmod 1024 = a1 by rw [Int.tmod_eq_emod_of_nonneg hbd.1.1]; exact ha1)
      have Hr2 := Lib.hid (show IntKind.u64.wrap (a1.tdiv 8) = a2 by rw [Int.tdiv_eq_ediv_of_nonneg (by omega), ha2]; exact IntWalk.u64_in _ (by omega))
      have Hr3 := Lib.hid (show IntKind.u64.wrap (a2 * 8) = ad by rw [had]; exact IntWalk.u64_in _ (by omega))
      have HSt := Lib.hid ((HI.out.below (Below.refl _ wr).drew).store ad wk hadb.1 (by omega) (by rw [HVl.out]; unfold atE; rw [if_neg (by omega)]) (by omega))
      have hgS : ¬ SE w6 S0 gl := fun h => by
        rcases h with h | h
        · have := (HS0.out gl h).1; omega
        · have := HB6.out.size; omega
      have hkk : Keeps (SE w6 S0) w6 wr := HI.out.k.mono (fun _ _ h => .inl h)
      have hg6 : gl < w6.heap.size := Nat.lt_of_lt_of_le hgl HB6.out.size
      have hce : ∀ j, wr.cell? ⟨gl, j, none⟩ = w.cell? ⟨gl, j, none⟩ := fun j => (hkk.cell (p := ⟨gl, j, none⟩) hg6 hgS).trans (HB6.out.cell (p := ⟨gl, j, none⟩) hgl)
      have HCk := Lib.hid (And.intro ((hce _).trans hck.1) ((hce _).trans hck.2))
      have HGr := Lib.hid (And.intro (Nat.lt_of_lt_of_le hg6 HI.out.k.size) hgS)
      have HN := Lib.hid (show (vsk.set (ad / 8).toNat wk).length = 128 ∧ U64s (vsk.set (ad / 8).toNat wk) from ⟨by rw [List.length_set]; exact HVl.out, fun x hx => by
        rcases List.mem_or_eq_of_mem_set hx with h | h
        · exact HVu.out x h
        · rw [h]; exact hbd.2⟩)
      clear hE hck hbd ha0 hwk ha1 ha2 had hadb hgS hkk hg6 hgl hce hlt hkl
      go_wp2_with (fail)
      --GEN r_sr7
      refine wp_region_vals [Is (.pointer (some ⟨mb, 0, none⟩)), Is (.slice (some ⟨gl, ol, none⟩) ln cl), Is (.int .i64 (k : Int)), Is (.pointer (some ⟨gl, ol + k * 2, none⟩)), Is (.pointer (some ⟨gl, ol + k * 2, none⟩)), Is (.int .u64 a0), Is (.int .u64 a1), Is (.int .u64 a2), Is (.int .u64 ad), Is (.slice (some ⟨gl, ol, none⟩) ln cl), Is (.int .i64 (k : Int)), Is (.pointer (some ⟨gl, ol + k * 2, none⟩)), Is (.pointer (some ⟨gl, ol + k * 2 + 1, none⟩)), Is (.int .u64 wk), Any]
        (fun _ _ _ => True) (fun L W => LdJ w6 S0 mb wr (vsk.set (ad / 8).toNat wk) ((k : Int) + 1) 14 L W) (by kernel_rfl) (by kernel_rfl) (by kernel_rfl) ?hst ?h0 ⟨?o0, ?o1, ?o2, ?o3, ?o4, ?o5, ?o6, ?o7, ?o8, ?o9, ?o10, ?o11, ?o12, ?o13, ?o14, trivial⟩ ?he
      case hst =>
        exact ⟨(fun _ _ _ _ _ _ h _ => h), (fun _ _ _ _ _ _ h _ => h), (fun _ _ _ _ _ _ h _ => h), (fun _ _ _ _ _ _ h _ => h), (fun _ _ _ _ _ _ h _ => h), (fun _ _ _ _ _ _ h _ => h), (fun _ _ _ _ _ _ h _ => h), (fun _ _ _ _ _ _ h _ => h), (fun _ _ _ _ _ _ h _ => h), (fun _ _ _ _ _ _ h _ => h), (fun _ _ _ _ _ _ h _ => h), (fun _ _ _ _ _ _ h _ => h), (fun _ _ _ _ _ _ h _ => h), (fun _ _ _ _ _ _ h _ => h), (fun _ _ _ _ _ _ h _ => h), trivial⟩
      case h0 =>
        exact ⟨fun _ => rfl, fun e => (by cases e), (Keeps.refl _ _).drew⟩
      case o0 =>
        intro L vs A W H hf hd K hK
        have e5 : A.tmps[5]?.getD undef = .pointer (some ⟨mb, 0, none⟩) := H.old 5 (by kernel_rfl)
        go_simp
        exact hK _ _ (trivial) rfl (H.glob.keep rfl)
      case o1 =>
        intro L vs A W H hf hd K hK
        have e0 : A.tmps[0]?.getD undef = .slice (some ⟨gl, ol, none⟩) ln cl := H.old 0 (by kernel_rfl)
        go_simp
        exact hK _ _ (trivial) rfl (H.glob.keep rfl)
      case o2 =>
        intro L vs A W H hf hd K hK
        have e7 : A.tmps[7]?.getD undef = .int .i64 (k : Int) := H.old 7 (by kernel_rfl)
        go_simp
        exact hK _ _ (trivial) rfl (H.glob.keep rfl)
      case o3 =>
        intro L vs A W H hf hd K hK
        have e46 := H.is 1 46 rfl rfl rfl (deps_of' hd 1 (by kernel_rfl)) (by kernel_rfl)
        have e47 := H.is 2 47 rfl rfl rfl (deps_of' hd 2 (by kernel_rfl)) (by kernel_rfl)
        go_simp
        exact hK _ _ (trivial) rfl (H.glob.keep rfl)
      case o4 =>
        intro L vs A W H hf hd K hK
        have e48 := H.is 3 48 rfl rfl rfl (deps_of' hd 3 (by kernel_rfl)) (by kernel_rfl)
        go_simp
        exact hK _ _ (trivial) rfl (H.glob.keep rfl)
      case o5 =>
        intro L vs A W H hf hd K hK
        have e49 := H.is 4 49 rfl rfl rfl (deps_of' hd 4 (by kernel_rfl)) (by kernel_rfl)
        have d := (H.glob.k.cell (p := ⟨gl, ol + k * 2, none⟩) HGr.out.1 HGr.out.2).trans HCk.out.1
        go_simp
        exact hK _ _ (trivial) rfl (H.glob.keep rfl)
      case o6 =>
        intro L vs A W H hf hd K hK
        have e50 := H.is 5 50 rfl rfl rfl (deps_of' hd 5 (by kernel_rfl)) (by kernel_rfl)
        have hr := Hr1.out
        go_simp
        exact hK _ _ (trivial) rfl (H.glob.keep rfl)
      case o7 =>
        intro L vs A W H hf hd K hK
        have e51 := H.is 6 51 rfl rfl rfl (deps_of' hd 6 (by kernel_rfl)) (by kernel_rfl)
        have hr := Hr2.out
        go_simp
        exact hK _ _ (trivial) rfl (H.glob.keep rfl)
      case o8 =>
        intro L vs A W H hf hd K hK
        have e52 := H.is 7 52 rfl rfl rfl (deps_of' hd 7 (by kernel_rfl)) (by kernel_rfl)
        have hr := Hr3.out
        go_simp
        exact hK _ _ (trivial) rfl (H.glob.keep rfl)
      case o9 =>
        intro L vs A W H hf hd K hK
        have e0 : A.tmps[0]?.getD undef = .slice (some ⟨gl, ol, none⟩) ln cl := H.old 0 (by kernel_rfl)
        go_simp
        exact hK _ _ (trivial) rfl (H.glob.keep rfl)
      case o10 =>
        intro L vs A W H hf hd K hK
        have e7 : A.tmps[7]?.getD undef = .int .i64 (k : Int) := H.old 7 (by kernel_rfl)
        go_simp
        exact hK _ _ (trivial) rfl (H.glob.keep rfl)
      case o11 =>
        intro L vs A W H hf hd K hK
        have e54 := H.is 9 54 rfl rfl rfl (deps_of' hd 9 (by kernel_rfl)) (by kernel_rfl)
        have e55 := H.is 10 55 rfl rfl rfl (deps_of' hd 10 (by kernel_rfl)) (by kernel_rfl)
        go_simp
        exact hK _ _ (trivial) rfl (H.glob.keep rfl)
      case o12 =>
        intro L vs A W H hf hd K hK
        have e56 := H.is 11 56 rfl rfl rfl (deps_of' hd 11 (by kernel_rfl)) (by kernel_rfl)
        go_simp
        exact hK _ _ (trivial) rfl (H.glob.keep rfl)
      case o13 =>
        intro L vs A W H hf hd K hK
        have e57 := H.is 12 57 rfl rfl rfl (deps_of' hd 12 (by kernel_rfl)) (by kernel_rfl)
        have d := (H.glob.k.cell (p := ⟨gl, ol + k * 2 + 1, none⟩) HGr.out.1 HGr.out.2).trans HCk.out.2
        go_simp
        exact hK _ _ (trivial) rfl (H.glob.keep rfl)
      case o14 =>
        intro L vs A W H hf hd K hK
        have e45 := H.is 0 45 rfl rfl rfl (deps_of' hd 0 (by kernel_rfl)) (by kernel_rfl)
        have e53 := H.is 8 53 rfl rfl rfl (deps_of' hd 8 (by kernel_rfl)) (by kernel_rfl)
        have e58 := H.is 13 58 rfl rfl rfl (deps_of' hd 13 (by kernel_rfl)) (by kernel_rfl)
        have hW := H.glob.n hf
        subst hW
        go_simp
        refine HSt.out.mono ?_
        rintro e w' ⟨rfl, hI, hk1⟩
        go_simp
        exact hK _ _ trivial trivial ⟨fun e => (by simp [lset] at e), fun _ => hI, (Keeps.refl _ wr).drew.trans hk1⟩
      case he =>
        intro vs W hlen hv
        match vs, hlen, hv with
        | [x0_, x1_, x2_, x3_, x4_, x5_, x6_, x7_, x8_, x9_, x10_, x11_, x12_, x13_, x14_], _, hv =>
        obtain rfl : (.pointer (some ⟨mb, 0, none⟩)) = x0_ := by obtain ⟨z, h1, h2⟩ := hv 0 _ rfl; cases h1; exact h2.symm
        obtain rfl : (.slice (some ⟨gl, ol, none⟩) ln cl) = x1_ := by obtain ⟨z, h1, h2⟩ := hv 1 _ rfl; cases h1; exact h2.symm
        obtain rfl : (.int .i64 (k : Int)) = x2_ := by obtain ⟨z, h1, h2⟩ := hv 2 _ rfl; cases h1; exact h2.symm
        obtain rfl : (.pointer (some ⟨gl, ol + k * 2, none⟩)) = x3_ := by obtain ⟨z, h1, h2⟩ := hv 3 _ rfl; cases h1; exact h2.symm
        obtain rfl : (.pointer (some ⟨gl, ol + k * 2, none⟩)) = x4_ := by obtain ⟨z, h1, h2⟩ := hv 4 _ rfl; cases h1; exact h2.symm
        obtain rfl : (.int .u64 a0) = x5_ := by obtain ⟨z, h1, h2⟩ := hv 5 _ rfl; cases h1; exact h2.symm
        obtain rfl : (.int .u64 a1) = x6_ := by obtain ⟨z, h1, h2⟩ := hv 6 _ rfl; cases h1; exact h2.symm
        obtain rfl : (.int .u64 a2) = x7_ := by obtain ⟨z, h1, h2⟩ := hv 7 _ rfl; cases h1; exact h2.symm
        obtain rfl : (.int .u64 ad) = x8_ := by obtain ⟨z, h1, h2⟩ := hv 8 _ rfl; cases h1; exact h2.symm
        obtain rfl : (.slice (some ⟨gl, ol, none⟩) ln cl) = x9_ := by obtain ⟨z, h1, h2⟩ := hv 9 _ rfl; cases h1; exact h2.symm
        obtain rfl : (.int .i64 (k : Int)) = x10_ := by obtain ⟨z, h1, h2⟩ := hv 10 _ rfl; cases h1; exact h2.symm
        obtain rfl : (.pointer (some ⟨gl, ol + k * 2, none⟩)) = x11_ := by obtain ⟨z, h1, h2⟩ := hv 11 _ rfl; cases h1; exact h2.symm
        obtain rfl : (.pointer (some ⟨gl, ol + k * 2 + 1, none⟩)) = x12_ := by obtain ⟨z, h1, h2⟩ := hv 12 _ rfl; cases h1; exact h2.symm
        obtain rfl : (.int .u64 wk) = x13_ := by obtain ⟨z, h1, h2⟩ := hv 13 _ rfl; cases h1; exact h2.symm
        intro L hall hG
        clear hv hlen
        have HW := Lib.hid (hG.y (hall 14 (by decide)))
        clear hG hall
        simp only [fill, if_true]
      --END
        simp [Act.put]
        go_wp2_with (fail)
        go_roundw
        case rel => exact ⟨k + 1, _, by have := HLT.out; omega, by go_num, HN.out.1, HN.out.2, by have := HW.out; rwa [show ((k + 1 : Nat) : Int) = (k : Int) + 1 by omega]⟩
        case measure => have := HLT.out; simp [intOf]; omega
    · have hkn : k = ln := by omega
      subst hkn
      obtain ⟨⟨S, hm7, hs7⟩, hk7⟩ := HI.out
      have HS7 := Lib.hid (show ∀ i, S i → w.heap.size ≤ i ∧ i < wr.heap.size from fun i hi => ⟨by
        rcases hs7 i hi with h | h
        · exact (HS0.out i h).1
        · have := HB6.out.size; omega, by obtain ⟨is, mk, F, hm⟩ := hm7; exact hm.lt hi⟩)
      have HM7 := Lib.hid hm7
      have HB7 := Lib.hid (show Below w.heap.size w wr from HB6.out.trans ⟨hk7.os, hk7.tape, hk7.output, hk7.size, fun i hi => hk7.block i (Nat.lt_of_lt_of_le hi HB6.out.size) (fun h => by have := (HS0.out i h).1; omega)⟩)
      clear hm7 hs7 hk7 HI HI0 hk2 hlt HU HPu HM6 HS0 HB6
      go_wp2_with (fail)
      refine (new_v (some ⟨mb, 0, none⟩) at_ wr).mono ?_
      rintro e w8 ⟨rfl, hb8, hB8⟩
      obtain ⟨sb, hsb⟩ : ∃ sb, wr.heap.size = sb := ⟨_, rfl⟩
      have HSb := Lib.hid hsb
      have HS8 := Lib.hid (show ¬ S sb from fun h => by have := (HS7.out sb h).2; omega)
      rw [hsb] at hb8 ⊢
      have HI8 := Lib.hid (show SnW w8 sb mb S vsk at_ (k : Int) 0 0 0 w8 from ⟨⟨_, hb8, SnI.new _ _ _ _⟩, ⟨0, by obtain ⟨is, mk, F, hm⟩ := HM7.out; exact ⟨is, mk, F, hm.below hB8⟩⟩, Keeps.refl _ _⟩)
      have HB8 := Lib.hid (HB7.out.trans (hB8.mono HB7.out.size))
      have HX8 := Lib.hid (show ∀ i, (i = sb ∨ S i) → w.heap.size ≤ i from fun i hi => by
        rcases hi with rfl | hi
        · rw [← hsb]; exact HB7.out.size
        · exact (HS7.out i hi).1)
      have hmN : (k : Int) ≤ 1000000 := by omega
      have HSbl := Lib.hid hb8.lt
      clear hb8 hB8 hsb HM7
      go_wp2_with (fail)
      go_loopw [6, 9, 10] (fun ev dv iv wq => ∃ (j : Nat), iv = .int .i64 j ∧ ((dv = .bool false ∧ ev = .int .i64 0 ∧ SnW w8 sb mb S vsk at_ (k : Int) 0 0 j wq) ∨ (∃ er, dv = .bool true ∧ ev = .int .i64 er ∧ j ≤ 43 ∧ SnZ w8 sb mb S vsk at_ (k : Int) 0 0 er wq))) (fun _ _ iv _ => 65 - (intOf iv).toNat)
      case atStart => exact ⟨0, rfl, .inl ⟨rfl, rfl, HI8.out⟩⟩
      case round =>
        obtain ⟨j, rfl, ⟨rfl, rfl, hI⟩ | ⟨er, rfl, rfl, hj64, hZ⟩⟩ := hrel
        · have hk42 : j ≤ 42 := by obtain ⟨⟨s, _, hs⟩, _, _⟩ := hI; exact hs.le
          have hkb : (j : Int) < 64 := by omega
          have HK42 := Lib.hid hk42
          have HSt := Lib.hid (step_w hI HS8.out HVu.out)
          clear hI hk42
          go_wp2_with (fail)
          refine HSt.out.mono ?_
          rintro e w9 (⟨rfl, hI⟩ | ⟨er, rfl, hZ⟩)
          · have HI := Lib.hid hI
            clear hI
            go_wp2_with (fail)
            go_roundw
            case rel => exact ⟨j + 1, by go_num, .inl ⟨rfl, rfl, HI.out⟩⟩
            case measure => have := HK42.out; simp [intOf]; omega
          · have HZ := Lib.hid hZ
            clear hZ
            go_wp2_with (fail)
            go_roundw
            case rel => exact ⟨j + 1, by go_num, .inr ⟨er, rfl, rfl, by have := HK42.out; omega, HZ.out⟩⟩
            case measure => have := HK42.out; simp [intOf]; omega
        · have hkb : (j : Int) < 64 := by omega
          obtain ⟨⟨s, hb9, hD⟩, ⟨lo9, hm9⟩, hk9⟩ := hZ
          obtain ⟨f, hf⟩ := hD.step
          have HHi := Lib.hid (show ∀ W, Below wr.heap.size wr W → Calls Try.prog 13 #[.pointer (some ⟨sb, 0, none⟩)] W fun e w' => e = .returned (.tuple #[.int .u64 (highP s).1, .bool (highP s).2]) ∧ Below W.heap.size W w' from fun W hB => high_v s sb f W (hb9.kept (Keeps.of_below' hB) (fun h => h)) hf)
          have HNo := Lib.hid (node_v s sb f wr hb9 hf)
          have HB9 := Lib.hid (show Below w.heap.size w wr from HB8.out.trans ⟨hk9.os, hk9.tape, hk9.output, hk9.size, fun i hi => hk9.block i (Nat.lt_of_lt_of_le hi HB8.out.size) (fun h => by have := HX8.out i h; omega)⟩)
          have HM9 := Lib.hid hm9
          have HK98 := Lib.hid hk9.size
          have HSl := Lib.hid (show ∀ i, S i → w.heap.size ≤ i from fun i hi => (HS7.out i hi).1)
          clear hb9 hk9 hf hm9
          have hnp : nodeP s = if er ≠ 0 then (nd0, er) else (s.found, 0) := by unfold nodeP; rw [hD.over, if_neg (by decide), hD.e]
          obtain ⟨x1, hx1⟩ : ∃ x1, (nodeP s).1 = x1 := ⟨_, rfl⟩
          rw [hx1] at HNo
          have hn2 : (nodeP s).2 = er := by
            rw [hnp]
            by_cases h : er = 0
            · rw [if_neg (fun h2 => h2 h)]; exact h.symm
            · rw [if_pos h]
          rw [hn2] at HNo
          have HHP := Lib.hid (show er ≠ 0 → highP s = (0, false) from fun h => by unfold highP; rw [hn2, if_neg h])
          have HX1 := Lib.hid hx1
          have HNP := Lib.hid hnp
          have HD := Lib.hid hD
          clear hnp hn2 hD hx1
          go_wp2_with (fail)
          refine HNo.out.mono ?_
          rintro e w10 ⟨rfl, hB10⟩
          have hz := Blk.new w10 (ndCells nd0) 40
          have hzr := hz.row (ndCells x1)
          have k11 : Below wr.heap.size wr ((w10.alloc (.cells (ndCells nd0) 40)).setRow w10.heap.size (ndCells x1)) := below_setRow (hB10.alloc hB10.size _) hB10.size _
          obtain ⟨xb, hxb⟩ : ∃ xb, w10.heap.size = xb := ⟨_, rfl⟩
          have hxlt : wr.heap.size ≤ xb := by rw [← hxb]; exact hB10.size
          have HSx := Lib.hid (show w8.heap.size ≤ xb from Nat.le_trans HK98.out hxlt)
          rw [hxb] at hz hzr k11
          have HXb := Lib.hid hxb
          have HZ := Lib.hid hz
          obtain ⟨w11, hw11⟩ : ∃ w11, (w10.alloc (.cells (ndCells nd0) 40)).setRow xb (ndCells x1) = w11 := ⟨_, rfl⟩
          have HW11 := Lib.hid hw11
          rw [hw11] at hzr k11
          have HX11 := Lib.hid hzr
          have HK11 := Lib.hid k11
          have HB11 := Lib.hid (HB9.out.trans (k11.mono HB9.out.size))
          clear hz hzr hxb hw11 k11 HNo hB10
          go_upto_region 17 with (first
            | ((with_reducible refine wpList_alloc_ndAt (o := ⟨some 11, _, _, _, _, _⟩) rfl rfl xb ?hz ?_); (case hz => exact HXb.out))
            | ((with_reducible refine wpList_store_ndc (o := ⟨none, .store 40 (.tmp 11) (.tmp 81), _, _, _, _⟩) ?hgc (.tmp 11) (.tmp 81) ?hoc xb (ndCells x1) x1 nd0 ?hxc ?hyc ?hbc ?hmc ?_); (case hgc => rfl); (case hoc => rfl); (case hxc => exact ev_tmp (by simp [Act.put])); (case hyc => exact ev_tmp (by simp [Act.put])); (case hmc => rfl); (case hbc => exact HZ.out); rw [HW11.out]; simp [Act.put]))
          have her : (er = 0 ∨ er = 3 ∨ er = 11) := by
            rcases HD.out.res with ⟨h, _⟩ | ⟨h, _⟩
            · exact .inr (.inl h)
            · unfold ofV at h
              split at h
              · exact .inr (.inr h)
              · exact .inl h
          rcases her with rfl | rfl | rfl
          case inr.inl =>
            have hh := HHi.out w11 HK11.out
            rw [HHP.out (by decide)] at hh
            have hx0 : x1 = nd0 := by rw [← HX1.out, HNP.out, if_pos (by decide)]
            rw [hx0] at HX11
            have HH := Lib.hid hh
            clear hh hx0 HHi HHP HX1 HNP HD HM9
            go_wp2_with (fail)
            refine HH.out.mono ?_
            rintro e w12 ⟨rfl, hB12⟩
            have HX12 := Lib.hid (HX11.out.kept (Keeps.of_below' hB12) (fun h => h))
            have HB12 := Lib.hid (HB11.out.trans (hB12.mono HB11.out.size))
            have HKn := Lib.hid (known_v w12)
            clear hB12 HX11 HH
            go_wp2_with (first
              | ((with_reducible refine wpList_load_ndg (o := ⟨some 105, .load 40 (.tmp 11), _, _, _, _⟩) ?hw (.tmp 11) ?ho xb nd0 ?hx ?hb ?_); (case hw => rfl); (case ho => rfl); (case hx => exact ev_tmp (by simp)); (case hb => exact HX12.out))
              | ((with_reducible refine wpList_eq_ndg _ 105 106 _ _ _ _ nd0 ?hw3 ?hx3 ?hy3 ?_); (case hw3 => rfl); (case hx3 => rfl); (case hy3 => rfl)))
            refine HKn.out.mono ?_
            rintro e w13 ⟨rfl, hB13⟩
            have HB13 := Lib.hid (HB12.out.trans (hB13.mono HB12.out.size))
            clear hB13
            go_wp2_with (fail)
            go_ret
            exact ⟨rfl, HB13.out⟩
          case inr.inr =>
            have hh := HHi.out w11 HK11.out
            rw [HHP.out (by decide)] at hh
            have hx0 : x1 = nd0 := by rw [← HX1.out, HNP.out, if_pos (by decide)]
            rw [hx0] at HX11
            have HH := Lib.hid hh
            clear hh hx0 HHi HHP HX1 HNP HD HM9
            go_wp2_with (fail)
            refine HH.out.mono ?_
            rintro e w12 ⟨rfl, hB12⟩
            have HX12 := Lib.hid (HX11.out.kept (Keeps.of_below' hB12) (fun h => h))
            have HB12 := Lib.hid (HB11.out.trans (hB12.mono HB11.out.size))
            have HKn := Lib.hid (known_v w12)
            clear hB12 HX11 HH
            go_wp2_with (first
              | ((with_reducible refine wpList_load_ndg (o := ⟨some 105, .load 40 (.tmp 11), _, _, _, _⟩) ?hw (.tmp 11) ?ho xb nd0 ?hx ?hb ?_); (case hw => rfl); (case ho => rfl); (case hx => exact ev_tmp (by simp)); (case hb => exact HX12.out))
              | ((with_reducible refine wpList_eq_ndg _ 105 106 _ _ _ _ nd0 ?hw3 ?hx3 ?hy3 ?_); (case hw3 => rfl); (case hx3 => rfl); (case hy3 => rfl)))
            refine HKn.out.mono ?_
            rintro e w13 ⟨rfl, hB13⟩
            have HB13 := Lib.hid (HB12.out.trans (hB13.mono HB12.out.size))
            clear hB13
            go_wp2_with (fail)
            go_ret
            exact ⟨rfl, HB13.out⟩
          case inl =>
            have hx0 : x1 = s.found := by rw [← HX1.out, HNP.out, if_neg (fun h => h rfl)]
            have hfd : s.found = nTo (rdW (wdM vsk at_) 24) 8 ∧ ofBad (rdW (wdM vsk at_) 24) = false := by
              rcases HD.out.res with ⟨h, _⟩ | ⟨h, hf, _⟩
              · cases h
              · unfold ofV at h hf
                cases hb : ofBad (rdW (wdM vsk at_) 24) with
                | true => rw [hb, if_pos rfl] at h; cases h
                | false => rw [hb, if_neg (by decide)] at hf; exact ⟨hf, rfl⟩
            have HFd := Lib.hid (show x1 = nTo (rdW (wdM vsk at_) 24) 8 from hx0.trans hfd.1)
            have HBd := Lib.hid hfd.2
            have HM11 := Lib.hid (show MemV w11 mb S vsk lo9 (k : Int) 0 0 from by obtain ⟨is, mk, F, hm⟩ := HM9.out; exact ⟨is, mk, F, hm.below HK11.out⟩)
            clear hx0 hfd HHi HHP HX1 HNP HD HM9
            obtain ⟨wb, hwb⟩ : ∃ wb, w11.heap.size = wb := ⟨_, rfl⟩
            have hb12 : Blk (w11.alloc (.cells (wdCells (fun _ => 0)) 45)) wb (wdCells (fun _ => 0)) 45 := by rw [← hwb]; exact Blk.new w11 _ _
            have hB12 : Below w11.heap.size w11 (w11.alloc (.cells (wdCells (fun _ => 0)) 45)) := (Below.refl _ w11).alloc (Nat.le_refl _) _
            obtain ⟨w12, hw12⟩ : ∃ w12, w11.alloc (.cells (wdCells (fun _ => 0)) 45) = w12 := ⟨_, rfl⟩
            have HW12 := Lib.hid hw12
            have HWb := Lib.hid hwb
            rw [hw12] at hb12 hB12
            have HSw := Lib.hid (show ¬ S wb from fun h => by obtain ⟨is, mk, F, hm⟩ := HM11.out; have := hm.lt h; omega)
            have HM12 := Lib.hid (show MemV w12 mb S vsk lo9 (k : Int) 0 0 from by obtain ⟨is, mk, F, hm⟩ := HM11.out; exact ⟨is, mk, F, hm.below hB12⟩)
            have HX12 := Lib.hid (HX11.out.kept (Keeps.of_below' hB12) (fun h => h))
            have HXn := Lib.hid (show ¬ (xb = wb ∨ S xb) from fun h => by
              rcases h with h | h
              · have := HX11.out.lt; omega
              · have := (HS7.out xb h).2; have := HSb.out; have := HSbl.out; have := HSx.out; omega)
            have HB12 := Lib.hid (HB11.out.trans (hB12.mono HB11.out.size))
            have HF0 := Lib.hid (show Blk w12 wb (wdCells (fun i => if i < 0 then wdM vsk at_ i else 0)) 45 from by
              have e : (fun i => if i < 0 then wdM vsk at_ i else 0) = (fun _ => (0 : Int)) := funext (fun i => if_neg (by omega))
              rw [e]; exact hb12)
            have HWl := Lib.hid (show w.heap.size ≤ wb from by rw [← hwb]; exact HB11.out.size)
            clear hb12 hw12 hwb HM11 HK11 HX11 HW11 HZ HXb
            go_upto_region 23 with ((with_reducible refine wpList_alloc_wdAt (o := ⟨some 15, _, _, _, _, _⟩) rfl rfl wb ?hz ?_); (case hz => exact HWb.out); rw [HW12.out])
            simp [Act.put]
            clear HW12
            go_wp2_with (fail)
            go_loopw [16] (fun iv wq => ∃ j : Nat, j ≤ 24 ∧ iv = .int .i64 j ∧ (∃ lo, MemV wq mb S vsk lo (k : Int) 0 0) ∧ Blk wq wb (wdCells (fun i => if i < j then wdM vsk at_ i else 0)) 45 ∧ Keeps (fun i => i = wb ∨ S i) w12 wq) (fun iv _ => 24 - (intOf iv).toNat)
            case atStart => exact ⟨0, by omega, rfl, ⟨_, HM12.out⟩, HF0.out, Keeps.refl _ _⟩
            case round =>
              obtain ⟨i, hi, rfl, ⟨lo, is, mk, F, hm⟩, hb, hk⟩ := hrel
              by_cases hlt : i < 24
              · have hkb : (i : Int) < 24 := by omega
                have hkn : (0 : Int) ≤ (i : Int) := by omega
                have HLT := Lib.hid hlt
                have hw1 : IntKind.i64.wrap (8 * (i : Int)) = 8 * (i : Int) := IntWalk.i64_in _ (by omega)
                have hw2 : IntKind.u64.wrap (8 * (i : Int)) = 8 * (i : Int) := IntWalk.u64_in _ (by omega)
                obtain ⟨ad, had⟩ : ∃ ad, IntKind.u64.wrap (at_ + 8 * (i : Int)) = ad := ⟨_, rfl⟩
                have hadb : 0 ≤ ad ∧ ad ≤ 18446744073709551615 := by rw [← had]; exact u64_rng _
                have HLd := Lib.hid (load_w hm ad hadb.1 hadb.2)
                have HWi := Lib.hid (show ldW vsk ad = wdM vsk at_ i by rw [← had]; rfl)
                have HB := Lib.hid hb
                have HK := Lib.hid hk
                clear hm hb hk hadb hlt hi
                go_wp2_with (fail)
                refine HLd.out.mono ?_
                rintro e w14 ⟨rfl, hm14, hk14⟩
                have hb14 := HB.out.kept hk14 HSw.out
                have dk : w14.cell? ⟨wb, i, none⟩ = some (.int .u64 (if i < i then wdM vsk at_ i else 0)) := (hb14.cell i).trans (wdCells_get _ i HLT.out)
                have fk := hb14.frozen i
                obtain ⟨xv, hxv⟩ : ∃ xv, ldW vsk ad = xv := ⟨_, rfl⟩
                have hb15 := hb14.setw i xv
                have hk15 : Keeps (fun i => i = wb) w14 (w14.setCell ⟨wb, i, none⟩ (.int .u64 xv)) := (Keeps.refl (fun i => i = wb) w14).setCell (p := ⟨wb, i, none⟩) (.inl rfl) _
                have HM15 := Lib.hid (show MemV (w14.setCell ⟨wb, i, none⟩ (.int .u64 xv)) mb S vsk (ldN vsk.length ad lo) (k : Int) 0 0 from ⟨is, mk, F, hm14.kept hk15 (fun q hq e => HSw.out (e ▸ hq))⟩)
                have HK15 := Lib.hid ((HK.out.trans (hk14.mono (fun _ _ h => .inr h))).trans (hk15.mono (fun _ _ h => .inl h)))
                have hfe : wset (fun q => if q < i then wdM vsk at_ q else 0) i xv = fun q => if q < i + 1 then wdM vsk at_ q else 0 := by
                  funext q
                  show (if q = i then xv else (if q < i then wdM vsk at_ q else 0)) = (if q < i + 1 then wdM vsk at_ q else 0)
                  by_cases e : q = i
                  · rw [if_pos e, if_pos (by omega), e, ← hxv]; exact HWi.out
                  · rw [if_neg e]
                    by_cases c : q < i
                    · rw [if_pos c, if_pos (by omega)]
                    · rw [if_neg c, if_neg (by omega)]
                rw [hfe] at hb15
                have HB15 := Lib.hid hb15
                rw [hxv]
                clear hb14 hb15 hk15 hm14 hk14 hfe hxv had
                go_wp2_with (fail)
                go_roundw
                case rel => exact ⟨i + 1, by have := HLT.out; omega, by go_num, ⟨_, HM15.out⟩, HB15.out, HK15.out⟩
                case measure => have := HLT.out; simp [intOf]; omega
              · have hi24 : i = 24 := by omega
                subst hi24
                have HXr := Lib.hid (HX12.out.kept hk HXn.out)
                have HBr := Lib.hid (show Below w.heap.size w wr from HB12.out.trans ⟨hk.os, hk.tape, hk.output, hk.size, fun q hq => hk.block q (Nat.lt_of_lt_of_le hq HB12.out.size) (fun h => by
                  rcases h with h | h
                  · have := HWl.out; omega
                  · have := HSl.out q h; omega)⟩)
                have HLb := Lib.hid (wdLoad hb)
                obtain ⟨ff, hff⟩ : ∃ ff, (fun q => if q < 24 then wdM vsk at_ q else 0) = ff := ⟨_, rfl⟩
                have HFf := Lib.hid hff
                rw [hff] at HLb hb
                have hf0 : ff 0 = wdM vsk at_ 0 := by rw [← hff]; rfl
                have hr0 : rdW (wdM vsk at_) 24 0 = wdM vsk at_ 0 := rdW_at ((pthB_iff _ 0).2 (.inl (by decide))) (by decide)
                have hob : ofBad ff = false := by
                  have := HBd.out
                  unfold ofBad at this ⊢
                  rw [hr0] at this
                  rw [hf0]; exact this
                have hov : ofV ff = (nTo ff 8, 0) := by unfold ofV; rw [hob]; rfl
                obtain ⟨y1, hy1⟩ : ∃ y1, nTo ff 8 = y1 := ⟨_, rfl⟩
                have HOf := Lib.hid (show ∀ W, Calls Try.prog 15 #[.agg (wdCells ff)] W fun e w' => e = .returned (.tuple #[.agg (ndCells y1), .int .i64 0]) ∧ Below W.heap.size W w' from fun W => by
                  have := rof_v ff (by rw [hf0]; exact ldW_u64 HVu.out _) W
                  rw [hov, hy1] at this
                  exact this)
                have hty : ndCells (trimN y1) = ndCells (trimN x1) := by
                  rw [← hy1, HFd.out, trim_read]
                  have e : nTo ff 8 = nTo (wdM vsk at_) 8 := by
                    unfold nTo
                    have hq : ∀ q, q < 24 → ff q = wdM vsk at_ q := fun q hq => by rw [← hff]; exact if_pos hq
                    rw [hq 0 (by decide), hq 1 (by decide), hq 2 (by decide), hq 3 (by decide), hq 4 (by decide)]
                    congr 1
                    · funext q
                      by_cases c : q < 8
                      · rw [if_pos c, if_pos c, hq _ (by omega)]
                      · rw [if_neg c, if_neg c]
                    · funext q
                      by_cases c : q < 8
                      · rw [if_pos c, if_pos c, hq _ (by omega)]
                      · rw [if_neg c, if_neg c]
                  rw [e]
                obtain ⟨tx, htx⟩ : ∃ tx, trimN x1 = tx := ⟨_, rfl⟩
                have HTx := Lib.hid (show ∀ W, Calls Try.prog 16 #[.agg (ndCells x1)] W fun e w' => e = .returned (.agg (ndCells tx)) ∧ Below W.heap.size W w' from fun W => by rw [← htx]; exact trim_v x1 W)
                have HTy := Lib.hid (show ∀ W, Calls Try.prog 16 #[.agg (ndCells y1)] W fun e w' => e = .returned (.agg (ndCells tx)) ∧ Below W.heap.size W w' from fun W => by rw [← htx, ← hty]; exact trim_v y1 W)
                clear hty htx hy1 hov hob hf0 hr0 hff hm hb hk hlt hi HFf HBd HFd HX12 HB12
                go_wp2_with ((with_reducible refine wpList_load_part (o := ⟨some 136, .load 45 (.tmp 15), _, _, _, _⟩) ?hg 45 (.tmp 15) ?ho wb 0 ?hx (wdCells ff) ?dd ?hc ?hu ?hd ?hi ?_); (case hg => rfl); (case ho => rfl); (case hx => rfl); (case hc => exact HLb.out); (case hu => exact Try.underlying45); (case hd => rfl); (case hi => exact infoWd ff))
                refine (HOf.out wr).mono ?_
                rintro e w16 ⟨rfl, hB16⟩
                have hz := Blk.new w16 (ndCells nd0) 40
                have hzr := hz.row (ndCells y1)
                have k17 : Below wr.heap.size wr ((w16.alloc (.cells (ndCells nd0) 40)).setRow w16.heap.size (ndCells y1)) := below_setRow (hB16.alloc hB16.size _) hB16.size _
                obtain ⟨yb, hyb⟩ : ∃ yb, w16.heap.size = yb := ⟨_, rfl⟩
                rw [hyb] at hz hzr k17
                have HYb := Lib.hid hyb
                have HZ := Lib.hid hz
                obtain ⟨W8, hW8⟩ : ∃ W8, (w16.alloc (.cells (ndCells nd0) 40)).setRow yb (ndCells y1) = W8 := ⟨_, rfl⟩
                have HW8 := Lib.hid hW8
                rw [hW8] at hzr k17
                have HY8 := Lib.hid hzr
                have HX8 := Lib.hid (HXr.out.kept (Keeps.of_below' k17) (fun h => h))
                have HB8 := Lib.hid (HBr.out.trans (k17.mono HBr.out.size))
                clear hz hzr hyb hW8 k17 hB16 HOf HXr HLb
                go_upto_region 28 with (first
                  | ((with_reducible refine wpList_alloc_ndAt (o := ⟨some 17, _, _, _, _, _⟩) rfl rfl yb ?hz ?_); (case hz => exact HYb.out))
                  | ((with_reducible refine wpList_store_ndc (o := ⟨none, .store 40 (.tmp 17) (.tmp 138), _, _, _, _⟩) ?hgc (.tmp 17) (.tmp 138) ?hoc yb (ndCells y1) y1 nd0 ?hxc ?hyc ?hbc ?hmc ?_); (case hgc => rfl); (case hoc => rfl); (case hxc => exact ev_tmp (by simp [Act.put])); (case hyc => exact ev_tmp (by simp [Act.put])); (case hmc => rfl); (case hbc => exact HZ.out); rw [HW8.out]; simp [Act.put]))
                go_wp2_with (fail)
                --GEN r_sr28
                refine wp_region_vals [Is (.int .i64 0), Is (.bool true), Is (.bool true), Is (.agg (ndCells x1)), Is (.agg (ndCells tx)), Is (.agg (ndCells y1)), Is (.agg (ndCells tx)), Is (.bool true), Is (.bool true), Is (.bool true), Is (.bool true), Is (.bool true), Is (.bool true)]
                  (fun _ _ _ => True) (fun _ W => Below W8.heap.size W8 W) (by kernel_rfl) (by kernel_rfl) (by kernel_rfl) ?hst ?h0 ⟨?o0, ?o1, ?o2, ?o3, ?o4, ?o5, ?o6, ?o7, ?o8, ?o9, ?o10, ?o11, ?o12, trivial⟩ ?he
                case hst =>
                  exact ⟨(fun _ _ _ _ _ _ h _ => h), (fun _ _ _ _ _ _ h _ => h), (fun _ _ _ _ _ _ h _ => h), (fun _ _ _ _ _ _ h _ => h), (fun _ _ _ _ _ _ h _ => h), (fun _ _ _ _ _ _ h _ => h), (fun _ _ _ _ _ _ h _ => h), (fun _ _ _ _ _ _ h _ => h), (fun _ _ _ _ _ _ h _ => h), (fun _ _ _ _ _ _ h _ => h), (fun _ _ _ _ _ _ h _ => h), (fun _ _ _ _ _ _ h _ => h), (fun _ _ _ _ _ _ h _ => h), trivial⟩
                case h0 =>
                  exact (Below.refl _ W8).drew
                case o0 =>
                  intro L vs A W H hf hd K hK
                  have e18 : A.tmps[18]?.getD undef = .int .i64 0 := H.old 18 (by kernel_rfl)
                  go_simp
                  exact hK _ _ (trivial) rfl (H.glob)
                case o1 =>
                  intro L vs A W H hf hd K hK
                  have e140 := H.is 0 140 rfl rfl rfl (deps_of' hd 0 (by kernel_rfl)) (by kernel_rfl)
                  go_simp
                  exact hK _ _ (trivial) rfl (H.glob)
                case o2 =>
                  intro L vs A W H hf hd K hK
                  have e141 := H.is 1 141 rfl rfl rfl (deps_of' hd 1 (by kernel_rfl)) (by kernel_rfl)
                  go_simp
                  exact hK _ _ (trivial) rfl (H.glob)
                case o3 =>
                  intro L vs A W H hf hd K hK
                  have e142 := H.is 2 142 rfl rfl rfl (deps_of' hd 2 (by kernel_rfl)) (by kernel_rfl)
                  refine if_wanted (j := 2) (s := 142) rfl rfl rfl e142 rfl ?_
                  have e11 : A.tmps[11]?.getD undef = .pointer (some ⟨xb, 0, none⟩) := H.old 11 (by kernel_rfl)
                  exact wp_load_nd (.tmp 11) rfl xb x1 (ev_tmp e11) (HX8.out.kept (Keeps.of_below' H.glob) (fun h => h)) (hK _ _ trivial rfl H.glob)
                case o4 =>
                  intro L vs A W H hf hd K hK
                  have e142 := H.is 2 142 rfl rfl rfl (deps_of' hd 2 (by kernel_rfl)) (by kernel_rfl)
                  refine if_wanted (j := 2) (s := 142) rfl rfl rfl e142 rfl ?_
                  have e143 := H.is 3 143 rfl rfl rfl (deps_of' hd 3 (by kernel_rfl)) (by kernel_rfl)
                  have HL := Lib.hid (HTx.out W)
                  go_simp
                  refine HL.out.mono ?_
                  rintro e w' ⟨rfl, hB⟩
                  go_simp
                  exact hK _ _ trivial rfl (H.glob.trans (hB.mono H.glob.size))
                case o5 =>
                  intro L vs A W H hf hd K hK
                  have e142 := H.is 2 142 rfl rfl rfl (deps_of' hd 2 (by kernel_rfl)) (by kernel_rfl)
                  refine if_wanted (j := 2) (s := 142) rfl rfl rfl e142 rfl ?_
                  have e17 : A.tmps[17]?.getD undef = .pointer (some ⟨yb, 0, none⟩) := H.old 17 (by kernel_rfl)
                  exact wp_load_nd (.tmp 17) rfl yb y1 (ev_tmp e17) (HY8.out.kept (Keeps.of_below' H.glob) (fun h => h)) (hK _ _ trivial rfl H.glob)
                case o6 =>
                  intro L vs A W H hf hd K hK
                  have e142 := H.is 2 142 rfl rfl rfl (deps_of' hd 2 (by kernel_rfl)) (by kernel_rfl)
                  refine if_wanted (j := 2) (s := 142) rfl rfl rfl e142 rfl ?_
                  have e145 := H.is 5 145 rfl rfl rfl (deps_of' hd 5 (by kernel_rfl)) (by kernel_rfl)
                  have HL := Lib.hid (HTy.out W)
                  go_simp
                  refine HL.out.mono ?_
                  rintro e w' ⟨rfl, hB⟩
                  go_simp
                  exact hK _ _ trivial rfl (H.glob.trans (hB.mono H.glob.size))
                case o7 =>
                  intro L vs A W H hf hd K hK
                  have e142 := H.is 2 142 rfl rfl rfl (deps_of' hd 2 (by kernel_rfl)) (by kernel_rfl)
                  refine if_wanted (j := 2) (s := 142) rfl rfl rfl e142 rfl ?_
                  have e144 := H.is 4 144 rfl rfl rfl (deps_of' hd 4 (by kernel_rfl)) (by kernel_rfl)
                  have e146 := H.is 6 146 rfl rfl rfl (deps_of' hd 6 (by kernel_rfl)) (by kernel_rfl)
                  exact wp_eq_nd _ 144 146 _ _ _ _ tx e144 e146 (hK _ _ trivial rfl H.glob)
                case o8 =>
                  intro L vs A W H hf hd K hK
                  have e142 := H.is 2 142 rfl rfl rfl (deps_of' hd 2 (by kernel_rfl)) (by kernel_rfl)
                  have e147 := H.is 7 147 rfl rfl rfl (deps_of' hd 7 (by kernel_rfl)) (by kernel_rfl)
                  go_simp
                  exact hK _ _ (trivial) rfl (H.glob)
                case o9 =>
                  intro L vs A W H hf hd K hK
                  have e148 := H.is 8 148 rfl rfl rfl (deps_of' hd 8 (by kernel_rfl)) (by kernel_rfl)
                  go_simp
                  exact hK _ _ (trivial) rfl (H.glob)
                case o10 =>
                  intro L vs A W H hf hd K hK
                  have e149 := H.is 9 149 rfl rfl rfl (deps_of' hd 9 (by kernel_rfl)) (by kernel_rfl)
                  refine if_wanted (j := 9) (s := 149) rfl rfl rfl e149 rfl ?_
                  have HL := Lib.hid (known_v W)
                  go_simp
                  refine HL.out.mono ?_
                  rintro e w' ⟨rfl, hB⟩
                  go_simp
                  exact hK _ _ trivial rfl (H.glob.trans (hB.mono H.glob.size))
                case o11 =>
                  intro L vs A W H hf hd K hK
                  have e149 := H.is 9 149 rfl rfl rfl (deps_of' hd 9 (by kernel_rfl)) (by kernel_rfl)
                  have e150 := H.is 10 150 rfl rfl rfl (deps_of' hd 10 (by kernel_rfl)) (by kernel_rfl)
                  go_simp
                  exact hK _ _ (trivial) rfl (H.glob)
                case o12 =>
                  intro L vs A W H hf hd K hK
                  have e151 := H.is 11 151 rfl rfl rfl (deps_of' hd 11 (by kernel_rfl)) (by kernel_rfl)
                  go_simp
                  exact hK _ _ (trivial) rfl (H.glob)
                case he =>
                  intro vs W hlen hv
                  match vs, hlen, hv with
                  | [x0_, x1_, x2_, x3_, x4_, x5_, x6_, x7_, x8_, x9_, x10_, x11_, x12_], _, hv =>
                  obtain rfl : (.int .i64 0) = x0_ := by obtain ⟨z, h1, h2⟩ := hv 0 _ rfl; cases h1; exact h2.symm
                  obtain rfl : (.bool true) = x1_ := by obtain ⟨z, h1, h2⟩ := hv 1 _ rfl; cases h1; exact h2.symm
                  obtain rfl : (.bool true) = x2_ := by obtain ⟨z, h1, h2⟩ := hv 2 _ rfl; cases h1; exact h2.symm
                  obtain rfl : (.agg (ndCells x1)) = x3_ := by obtain ⟨z, h1, h2⟩ := hv 3 _ rfl; cases h1; exact h2.symm
                  obtain rfl : (.agg (ndCells tx)) = x4_ := by obtain ⟨z, h1, h2⟩ := hv 4 _ rfl; cases h1; exact h2.symm
                  obtain rfl : (.agg (ndCells y1)) = x5_ := by obtain ⟨z, h1, h2⟩ := hv 5 _ rfl; cases h1; exact h2.symm
                  obtain rfl : (.agg (ndCells tx)) = x6_ := by obtain ⟨z, h1, h2⟩ := hv 6 _ rfl; cases h1; exact h2.symm
                  obtain rfl : (.bool true) = x7_ := by obtain ⟨z, h1, h2⟩ := hv 7 _ rfl; cases h1; exact h2.symm
                  obtain rfl : (.bool true) = x8_ := by obtain ⟨z, h1, h2⟩ := hv 8 _ rfl; cases h1; exact h2.symm
                  obtain rfl : (.bool true) = x9_ := by obtain ⟨z, h1, h2⟩ := hv 9 _ rfl; cases h1; exact h2.symm
                  obtain rfl : (.bool true) = x10_ := by obtain ⟨z, h1, h2⟩ := hv 10 _ rfl; cases h1; exact h2.symm
                  obtain rfl : (.bool true) = x11_ := by obtain ⟨z, h1, h2⟩ := hv 11 _ rfl; cases h1; exact h2.symm
                  obtain rfl : (.bool true) = x12_ := by obtain ⟨z, h1, h2⟩ := hv 12 _ rfl; cases h1; exact h2.symm
                  intro L hall hG
                  clear hv hlen
                  have HB9 := Lib.hid hG
                  clear hG hall
                  simp only [fill, if_true]
                --END
                  simp [Act.put]
                  go_wp2_with (fail)
                  go_ret
                  exact ⟨rfl, HB8.out.trans (HB9.out.mono HB8.out.size)⟩
end Go.Proofs.Ytgmbnoimlffgcaa
