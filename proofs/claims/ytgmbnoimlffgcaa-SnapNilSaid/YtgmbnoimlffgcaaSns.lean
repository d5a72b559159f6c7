/-
  The law SnapAlone: the walk.
-/
import Derived.Test.YtgmbnoimlffgcaaSnp
namespace Go.Proofs.Ytgmbnoimlffgcaa
open Go.RowKit
attribute [local go_sem] Oper.semAt_some
set_option linter.unusedVariables false

/-- the worlds of a drawn region with one store, at j -/
structure LdJ (w3 : World) (S0 : Nat → Prop) (mb : Nat) (wr : World) (vs : List Int) (st : Int) (j : Nat) (L : Nat → Bool) (W : World) : Prop where
  n : L j = false → W = wr.drew
  y : L j = true → MemE w3 S0 mb vs 0 st 0 0 W
  k : Keeps (SE w3 S0) wr W
theorem LdJ.keep {w3 : World} {S0 : Nat → Prop} {mb : Nat} {wr : World} {vs : List Int} {st : Int} {j : Nat} {L L' : Nat → Bool} {W : World} (h : LdJ w3 S0 mb wr vs st j L W) (e : L' j = L j) : LdJ w3 S0 mb wr vs st j L' W := ⟨by rw [e]; exact h.n, by rw [e]; exact h.y, h.k⟩
def PutsIn (w : World) (a : Option Addr) (l : List (Int × Int)) : Prop := 0 < l.length → ∃ g o, a = some ⟨g, o, none⟩ ∧ g < w.heap.size ∧ EntsAt w g o l
set_option maxRecDepth 100000 in
theorem sreads_out (a : Option Addr) (len c : Nat) (at_ : Int) (w : World) (hn : 40 < len) (hm : len ≤ maxLen) :
    Calls Try.prog 3 #[.slice a len c, .int .u64 at_] w fun e w' => e = .returned (.bool true) ∧ Below w.heap.size w w' := by
  have HNew := Lib.hid (show ∀ W, Calls Try.prog 7 #[.int .i64 1024] W fun e w' => ∃ mb S vs0, e = .returned (.tuple #[.pointer (some ⟨mb, 0, none⟩), .int .i64 0]) ∧ U64s vs0 ∧ vs0.length = 128 ∧ MemP w' mb S vs0 vs0 (fun _ _ => 0) (fun _ => []) 0 0 0 0 ∧ (∀ i, S i → W.heap.size ≤ i) ∧ Below W.heap.size W w' from fun W => new_m 128 W (by decide) (by decide) (by decide))
  have h40 : (40 : Int) < (len : Int) := by omega
  go_enter Try.func3, Try.ntmps3
  go_wp2_with (fail)
  refine (HNew.out w).mono ?_
  rintro e w1 ⟨mb, S0, vs0, rfl, _, _, _, _, hB1⟩
  have HK := Lib.hid (known_v w1)
  have HB1 := Lib.hid hB1
  clear hB1
  go_wp2_with (fail)
  refine HK.out.mono ?_
  rintro e w2 ⟨rfl, hB2⟩
  have HB2 := Lib.hid (HB1.out.trans (hB2.mono HB1.out.size))
  clear hB2
  go_wp2_with (fail)
  go_ret
  exact ⟨rfl, HB2.out⟩
set_option maxRecDepth 100000 in
set_option maxHeartbeats 40000000 in
theorem sreads_in (a : Option Addr) (l : List (Int × Int)) (cl : Nat) (at_ : Int) (hat0 : 0 ≤ at_) (hat1 : at_ ≤ 18446744073709551615) (w : World) (hk : l.length ≤ 40) (hl : PutsIn w a l)
    (hu : ∀ i, i < l.length → (0 ≤ eK l i ∧ eK l i < 18446744073709551616) ∧ 0 ≤ eP l i ∧ eP l i ≤ 18446744073709551615) :
    Calls Try.prog 3 #[.slice a l.length cl, .int .u64 at_] w fun e w' => e = .returned (.bool true) ∧ Below w.heap.size w w' := by
  have HNew := Lib.hid (show ∀ W, Calls Try.prog 7 #[.int .i64 1024] W fun e w' => ∃ mb S vs0, e = .returned (.tuple #[.pointer (some ⟨mb, 0, none⟩), .int .i64 0]) ∧ U64s vs0 ∧ vs0.length = 128 ∧ MemP w' mb S vs0 vs0 (fun _ _ => 0) (fun _ => []) 0 0 0 0 ∧ (∀ i, S i → W.heap.size ≤ i) ∧ Below W.heap.size W w' from fun W => new_m 128 W (by decide) (by decide) (by decide))
  obtain ⟨ln, hln⟩ : ∃ ln, l.length = ln := ⟨_, rfl⟩
  have HLn := Lib.hid hln
  have HPu := Lib.hid hl
  have HU := Lib.hid hu
  rw [hln] at hk HU ⊢
  have h40 : ¬ (40 : Int) < (ln : Int) := by omega
  clear hl hu hln
  go_enter Try.func3, Try.ntmps3
  go_wp2_with (fail)
  refine (HNew.out w).mono ?_
  rintro e w6 ⟨mb, S0, vs0, rfl, hu0, hl0, hm0, hS0, hB1⟩
  have HM6 := Lib.hid (show MemV w6 mb S0 vs0 0 0 0 0 from ⟨_, _, _, hm0⟩)
  have HS0 := Lib.hid (show ∀ i, S0 i → w.heap.size ≤ i ∧ i < w6.heap.size from fun i hi => ⟨hS0 i hi, hm0.lt hi⟩)
  have HI0 := Lib.hid (show MemE w6 S0 mb vs0 0 ((0 : Nat) : Int) 0 0 w6 from MemE.start HM6.out)
  have HU0 := Lib.hid hu0
  have HL0 := Lib.hid hl0
  have HB6 := Lib.hid hB1
  clear hu0 hl0 hm0 hS0 hB1 HNew
  go_wp2_with (fail)
  go_loopw [7] (fun iv wq => ∃ (k : Nat) (vsk : List Int), k ≤ ln ∧ iv = .int .i64 k ∧ vsk.length = 128 ∧ U64s vsk ∧ MemE w6 S0 mb vsk 0 (k : Int) 0 0 wq) (fun iv _ => ln - (intOf iv).toNat)
  case atStart => exact ⟨0, vs0, by omega, rfl, HL0.out, HU0.out, HI0.out⟩
  case round =>
    obtain ⟨k, vsk, hk2, rfl, hvl, hvu, hI⟩ := hrel
    have HI := Lib.hid hI
    have HVl := Lib.hid hvl
    have HVu := Lib.hid hvu
    clear hI hvu hvl
    by_cases hlt : k < ln
    · have hkb : (k : Int) < (ln : Int) := by omega
      have HLT := Lib.hid hlt
      have hkl : k < l.length := by rw [HLn.out]; exact hlt
      obtain ⟨gl, ol, rfl, hgl, hE⟩ := HPu.out (by omega)
      have hck := hE k hkl
      have hbd := HU.out k hlt
      obtain ⟨a0, ha0⟩ : ∃ a0, eK l k = a0 := ⟨_, rfl⟩
      obtain ⟨wk, hwk⟩ : ∃ wk, eP l k = wk := ⟨_, rfl⟩
      rw [ha0, hwk] at hck hbd
      obtain ⟨a1, ha1⟩ : ∃ a1, a0 % 1024 = a1 := ⟨_, rfl⟩
      obtain ⟨a2, ha2⟩ : ∃ a2, a1 / 8 = a2 := ⟨_, rfl⟩
      obtain ⟨ad, had⟩ : ∃ ad, a2 * 8 = ad := ⟨_, rfl⟩
      have hadb : 0 ≤ ad ∧ ad < 1024 ∧ ad % 8 = 0 := by omega
      have Hr1 := Lib.hid (show a0.tmod 1024 = a1 by rw [Int.tmod_eq_emod_of_nonneg hbd.1.1]; exact ha1)
      have Hr2 := Lib.hid (show IntKind.u64.wrap (a1.tdiv 8) = a2 by rw [Int.tdiv_eq_ediv_of_nonneg (by omega), ha2]; exact IntWalk.u64_in _ (by omega))
      have Hr3 := Lib.hid (show IntKind.u64.wrap (a2 * 8) = ad by rw [had]; exact IntWalk.u64_in _ (by omega))
      have HSt := Lib.hid ((HI.out.below (Below.refl _ wr).drew).store ad wk hadb.1 (by omega) (by rw [HVl.out]; unfold atE; rw [if_neg (by omega)]) (by omega))
      have hgS : ¬ SE w6 S0 gl := fun h => by
        rcases h with h | h
        · have := (HS0.out gl h).1; omega
        · have := HB6.out.size; omega
      have hkk : Keeps (SE w6 S0) w6 wr := HI.out.k.mono (fun _ _ h => .inl h)
      have hg6 : gl < w6.heap.size := Nat.lt_of_lt_of_le hgl HB6.out.size
      have hce : ∀ j, wr.cell? ⟨gl, j, none⟩ = w.cell? ⟨gl, j, none⟩ := fun j => (hkk.cell (p := ⟨gl, j, none⟩) hg6 hgS).trans (HB6.out.cell (p := ⟨gl, j, none⟩) hgl)
      have HCk := Lib.hid (And.intro ((hce _).trans hck.1) ((hce _).trans hck.2))
      have HGr := Lib.hid (And.intro (Nat.lt_of_lt_of_le hg6 HI.out.k.size) hgS)
      have HN := Lib.hid (show (vsk.set (ad / 8).toNat wk).length = 128 ∧ U64s (vsk.set (ad / 8).toNat wk) from ⟨by rw [List.length_set]; exact HVl.out, fun x hx => by
        rcases List.mem_or_eq_of_mem_set hx with h | h
        · exact HVu.out x h
        · rw [h]; exact hbd.2⟩)
      clear hE hck hbd ha0 hwk ha1 ha2 had hadb hgS hkk hg6 hgl hce hlt hkl
      go_wp2_with (fail)
      --GEN r_sr7
      refine wp_region_vals [Is (.pointer (some ⟨mb, 0, none⟩)), Is (.slice (some ⟨gl, ol, none⟩) ln cl), Is (.int .i64 (k : Int)), Is (.pointer (some ⟨gl, ol + k * 2, none⟩)), Is (.pointer (some ⟨gl, ol + k * 2, none⟩)), Is (.int .u64 a0), Is (.int .u64 a1), Is (.int .u64 a2), Is (.int .u64 ad), Is (.slice (some ⟨gl, ol, none⟩) ln cl), Is (.int .i64 (k : Int)), Is (.pointer (some ⟨gl, ol + k * 2, none⟩)), Is (.pointer (some ⟨gl, ol + k * 2 + 1, none⟩)), Is (.int .u64 wk), Any]
        (fun _ _ _ => True) (fun L W => LdJ w6 S0 mb wr (vsk.set (ad / 8).toNat wk) ((k : Int) + 1) 14 L W) (by kernel_rfl) (by kernel_rfl) (by kernel_rfl) ?hst ?h0 ⟨?o0, ?o1, ?o2, ?o3, ?o4, ?o5, ?o6, ?o7, ?o8, ?o9, ?o10, ?o11, ?o12, ?o13, ?o14, trivial⟩ ?he
      case hst =>
        exact ⟨(fun _ _ _ _ _ _ h _ => h), (fun _ _ _ _ _ _ h _ => h), (fun _ _ _ _ _ _ h _ => h), (fun _ _ _ _ _ _ h _ => h), (fun _ _ _ _ _ _ h _ => h), (fun _ _ _ _ _ _ h _ => h), (fun _ _ _ _ _ _ h _ => h), (fun _ _ _ _ _ _ h _ => h), (fun _ _ _ _ _ _ h _ => h), (fun _ _ _ _ _ _ h _ => h), (fun _ _ _ _ _ _ h _ => h), (fun _ _ _ _ _ _ h _ => h), (fun _ _ _ _ _ _ h _ => h), (fun _ _ _ _ _ _ h _ => h), (fun _ _ _ _ _ _ h _ => h), trivial⟩
      case h0 =>
        exact ⟨fun _ => rfl, fun e => (by cases e), (Keeps.refl _ _).drew⟩
      case o0 =>
        intro L vs A W H hf hd K hK
        have e5 : A.tmps[5]?.getD undef = .pointer (some ⟨mb, 0, none⟩) := H.old 5 (by kernel_rfl)
        go_simp
        exact hK _ _ (trivial) rfl (H.glob.keep rfl)
      case o1 =>
        intro L vs A W H hf hd K hK
        have e0 : A.tmps[0]?.getD undef = .slice (some ⟨gl, ol, none⟩) ln cl := H.old 0 (by kernel_rfl)
        go_simp
        exact hK _ _ (trivial) rfl (H.glob.keep rfl)
      case o2 =>
        intro L vs A W H hf hd K hK
        have e7 : A.tmps[7]?.getD undef = .int .i64 (k : Int) := H.old 7 (by kernel_rfl)
        go_simp
        exact hK _ _ (trivial) rfl (H.glob.keep rfl)
      case o3 =>
        intro L vs A W H hf hd K hK
        have e46 := H.is 1 46 rfl rfl rfl (deps_of' hd 1 (by kernel_rfl)) (by kernel_rfl)
        have e47 := H.is 2 47 rfl rfl rfl (deps_of' hd 2 (by kernel_rfl)) (by kernel_rfl)
        go_simp
        exact hK _ _ (trivial) rfl (H.glob.keep rfl)
      case o4 =>
        intro L vs A W H hf hd K hK
        have e48 := H.is 3 48 rfl rfl rfl (deps_of' hd 3 (by kernel_rfl)) (by kernel_rfl)
        go_simp
        exact hK _ _ (trivial) rfl (H.glob.keep rfl)
      case o5 =>
        intro L vs A W H hf hd K hK
        have e49 := H.is 4 49 rfl rfl rfl (deps_of' hd 4 (by kernel_rfl)) (by kernel_rfl)
        have d := (H.glob.k.cell (p := ⟨gl, ol + k * 2, none⟩) HGr.out.1 HGr.out.2).trans HCk.out.1
        go_simp
        exact hK _ _ (trivial) rfl (H.glob.keep rfl)
      case o6 =>
        intro L vs A W H hf hd K hK
        have e50 := H.is 5 50 rfl rfl rfl (deps_of' hd 5 (by kernel_rfl)) (by kernel_rfl)
        have hr := Hr1.out
        go_simp
        exact hK _ _ (trivial) rfl (H.glob.keep rfl)
      case o7 =>
        intro L vs A W H hf hd K hK
        have e51 := H.is 6 51 rfl rfl rfl (deps_of' hd 6 (by kernel_rfl)) (by kernel_rfl)
        have hr := Hr2.out
        go_simp
        exact hK _ _ (trivial) rfl (H.glob.keep rfl)
      case o8 =>
        intro L vs A W H hf hd K hK
        have e52 := H.is 7 52 rfl rfl rfl (deps_of' hd 7 (by kernel_rfl)) (by kernel_rfl)
        have hr := Hr3.out
        go_simp
        exact hK _ _ (trivial) rfl (H.glob.keep rfl)
      case o9 =>
        intro L vs A W H hf hd K hK
        have e0 : A.tmps[0]?.getD undef = .slice (some ⟨gl, ol, none⟩) ln cl := H.old 0 (by kernel_rfl)
        go_simp
        exact hK _ _ (trivial) rfl (H.glob.keep rfl)
      case o10 =>
        intro L vs A W H hf hd K hK
        have e7 : A.tmps[7]?.getD undef = .int .i64 (k : Int) := H.old 7 (by kernel_rfl)
        go_simp
        exact hK _ _ (trivial) rfl (H.glob.keep rfl)
      case o11 =>
        intro L vs A W H hf hd K hK
        have e54 := H.is 9 54 rfl rfl rfl (deps_of' hd 9 (by kernel_rfl)) (by kernel_rfl)
        have e55 := H.is 10 55 rfl rfl rfl (deps_of' hd 10 (by kernel_rfl)) (by kernel_rfl)
        go_simp
        exact hK _ _ (trivial) rfl (H.glob.keep rfl)
      case o12 =>
        intro L vs A W H hf hd K hK
        have e56 := H.is 11 56 rfl rfl rfl (deps_of' hd 11 (by kernel_rfl)) (by kernel_rfl)
        go_simp
        exact hK _ _ (trivial) rfl (H.glob.keep rfl)
      case o13 =>
        intro L vs A W H hf hd K hK
        have e57 := H.is 12 57 rfl rfl rfl (deps_of' hd 12 (by kernel_rfl)) (by kernel_rfl)
        have d := (H.glob.k.cell (p := ⟨gl, ol + k * 2 + 1, none⟩) HGr.out.1 HGr.out.2).trans HCk.out.2
        go_simp
        exact hK _ _ (trivial) rfl (H.glob.keep rfl)
      case o14 =>
        intro L vs A W H hf hd K hK
        have e45 := H.is 0 45 rfl rfl rfl (deps_of' hd 0 (by kernel_rfl)) (by kernel_rfl)
        have e53 := H.is 8 53 rfl rfl rfl (deps_of' hd 8 (by kernel_rfl)) (by kernel_rfl)
        have e58 := H.is 13 58 rfl rfl rfl (deps_of' hd 13 (by kernel_rfl)) (by kernel_rfl)
        have hW := H.glob.n hf
        subst hW
        go_simp
        refine HSt.out.mono ?_
        rintro e w' ⟨rfl, hI, hk1⟩
        go_simp
        exact hK _ _ trivial trivial ⟨fun e => (by simp [lset] at e), fun _ => hI, (Keeps.refl _ wr).drew.trans hk1⟩
      case he =>
        intro vs W hlen hv
        match vs, hlen, hv with
        | [x0_, x1_, x2_, x3_, x4_, x5_, x6_, x7_, x8_, x9_, x10_, x11_, x12_, x13_, x14_], _, hv =>
        obtain rfl : (.pointer (some ⟨mb, 0, none⟩)) = x0_ := by obtain ⟨z, h1, h2⟩ := hv 0 _ rfl; cases h1; exact h2.symm
        obtain rfl : (.slice (some ⟨gl, ol, none⟩) ln cl) = x1_ := by obtain ⟨z, h1, h2⟩ := hv 1 _ rfl; cases h1; exact h2.symm
        obtain rfl : (.int .i64 (k : Int)) = x2_ := by obtain ⟨z, h1, h2⟩ := hv 2 _ rfl; cases h1; exact h2.symm
        obtain rfl : (.pointer (some ⟨gl, ol + k * 2, none⟩)) = x3_ := by obtain ⟨z, h1, h2⟩ := hv 3 _ rfl; cases h1; exact h2.symm
        obtain rfl : (.pointer (some ⟨gl, ol + k * 2, none⟩)) = x4_ := by obtain ⟨z, h1, h2⟩ := hv 4 _ rfl; cases h1; exact h2.symm
        obtain rfl : (.int .u64 a0) = x5_ := by obtain ⟨z, h1, h2⟩ := hv 5 _ rfl; cases h1; exact h2.symm
        obtain rfl : (.int .u64 a1) = x6_ := by obtain ⟨z, h1, h2⟩ := hv 6 _ rfl; cases h1; exact h2.symm
        obtain rfl : (.int .u64 a2) = x7_ := by obtain ⟨z, h1, h2⟩ := hv 7 _ rfl; cases h1; exact h2.symm
        obtain rfl : (.int .u64 ad) = x8_ := by obtain ⟨z, h1, h2⟩ := hv 8 _ rfl; cases h1; exact h2.symm
        obtain rfl : (.slice (some ⟨gl, ol, none⟩) ln cl) = x9_ := by obtain ⟨z, h1, h2⟩ := hv 9 _ rfl; cases h1; exact h2.symm
        obtain rfl : (.int .i64 (k : Int)) = x10_ := by obtain ⟨z, h1, h2⟩ := hv 10 _ rfl; cases h1; exact h2.symm
        obtain rfl : (.pointer (some ⟨gl, ol + k * 2, none⟩)) = x11_ := by obtain ⟨z, h1, h2⟩ := hv 11 _ rfl; cases h1; exact h2.symm
        obtain rfl : (.pointer (some ⟨gl, ol + k * 2 + 1, none⟩)) = x12_ := by obtain ⟨z, h1, h2⟩ := hv 12 _ rfl; cases h1; exact h2.symm
        obtain rfl : (.int .u64 wk) = x13_ := by obtain ⟨z, h1, h2⟩ := hv 13 _ rfl; cases h1; exact h2.symm
        intro L hall hG
        clear hv hlen
        have HW := Lib.hid (hG.y (hall 14 (by decide)))
        clear hG hall
        simp only [fill, if_true]
      --END
        simp [Act.put]
        go_wp2_with (fail)
        go_roundw
        case rel => exact ⟨k + 1, _, by have := HLT.out; omega, by go_num, HN.out.1, HN.out.2, by have := HW.out; rwa [show ((k + 1 : Nat) : Int) = (k : Int) + 1 by omega]⟩
        case measure => have := HLT.out; simp [intOf]; omega
    · have hkn : k = ln := by omega
      subst hkn
      obtain ⟨⟨S, hm7, hs7⟩, hk7⟩ := HI.out
      have HS7 := Lib.hid (show ∀ i, S i → w.heap.size ≤ i ∧ i < wr.heap.size from fun i hi => ⟨by
        rcases hs7 i hi with h | h
        · exact (HS0.out i h).1
        · have := HB6.out.size; omega, by obtain ⟨is, mk, F, hm⟩ := hm7; exact hm.lt hi⟩)
      have HM7 := Lib.hid hm7
      have HB7 := Lib.hid (show Below w.heap.size w wr from HB6.out.trans ⟨hk7.os, hk7.tape, hk7.output, hk7.size, fun i hi => hk7.block i (Nat.lt_of_lt_of_le hi HB6.out.size) (fun h => by have := (HS0.out i h).1; omega)⟩)
      clear hm7 hs7 hk7 HI HI0 hk2 hlt HU HPu HM6 HS0 HB6
      go_wp2_with (fail)
      refine (new_v (some ⟨mb, 0, none⟩) at_ wr).mono ?_
      rintro e w8 ⟨rfl, hb8, hB8⟩
      obtain ⟨sb, hsb⟩ : ∃ sb, wr.heap.size = sb := ⟨_, rfl⟩
      have HSb := Lib.hid hsb
      have HS8 := Lib.hid (show ¬ S sb from fun h => by have := (HS7.out sb h).2; omega)
      rw [hsb] at hb8 ⊢
      have HI8 := Lib.hid (show SnW w8 sb mb S vsk at_ (k : Int) 0 0 0 w8 from ⟨⟨_, hb8, SnI.new _ _ _ _⟩, ⟨0, by obtain ⟨is, mk, F, hm⟩ := HM7.out; exact ⟨is, mk, F, hm.below hB8⟩⟩, Keeps.refl _ _⟩)
      have HB8 := Lib.hid (HB7.out.trans (hB8.mono HB7.out.size))
      have HX8 := Lib.hid (show ∀ i, (i = sb ∨ S i) → w.heap.size ≤ i from fun i hi => by
        rcases hi with rfl | hi
        · rw [← hsb]; exact HB7.out.size
        · exact (HS7.out i hi).1)
      have hmN : (k : Int) ≤ 1000000 := by omega
      have HSbl := Lib.hid hb8.lt
      clear hb8 hB8 hsb HM7
      go_wp2_with (fail)
      go_loopw [6, 9, 10] (fun ev dv iv wq => ∃ (j : Nat), iv = .int .i64 j ∧ ((dv = .bool false ∧ ev = .int .i64 0 ∧ SnW w8 sb mb S vsk at_ (k : Int) 0 0 j wq) ∨ (∃ er, dv = .bool true ∧ ev = .int .i64 er ∧ j ≤ 43 ∧ SnZ w8 sb mb S vsk at_ (k : Int) 0 0 er wq))) (fun _ _ iv _ => 65 - (intOf iv).toNat)
      case atStart => exact ⟨0, rfl, .inl ⟨rfl, rfl, HI8.out⟩⟩
      case round =>
        obtain ⟨j, rfl, ⟨rfl, rfl, hI⟩ | ⟨er, rfl, rfl, hj64, hZ⟩⟩ := hrel
        · have hk42 : j ≤ 42 := by obtain ⟨⟨s, _, hs⟩, _, _⟩ := hI; exact hs.le
          have hkb : (j : Int) < 64 := by omega
          have HK42 := Lib.hid hk42
          have HSt := Lib.hid (step_w hI HS8.out HVu.out)
          clear hI hk42
          go_wp2_with (fail)
          refine HSt.out.mono ?_
          rintro e w9 (⟨rfl, hI⟩ | ⟨er, rfl, hZ⟩)
          · have HI := Lib.hid hI
            clear hI
            go_wp2_with (fail)
            go_roundw
            case rel => exact ⟨j + 1, by go_num, .inl ⟨rfl, rfl, HI.out⟩⟩
            case measure => have := HK42.out; simp [intOf]; omega
          · have HZ := Lib.hid hZ
            clear hZ
            go_wp2_with (fail)
            go_roundw
            case rel => exact ⟨j + 1, by go_num, .inr ⟨er, rfl, rfl, by have := HK42.out; omega, HZ.out⟩⟩
            case measure => have := HK42.out; simp [intOf]; omega
        · have hkb : (j : Int) < 64 := by omega
          obtain ⟨⟨s, hb9, hD⟩, ⟨lo9, hm9⟩, hk9⟩ := hZ
          obtain ⟨f, hf⟩ := hD.step
          have HHi := Lib.hid (show ∀ W, Below wr.heap.size wr W → Calls Try.prog 13 #[.pointer (some ⟨sb, 0, none⟩)] W fun e w' => e = .returned (.tuple #[.int .u64 (highP s).1, .bool (highP s).2]) ∧ Below W.heap.size W w' from fun W hB => high_v s sb f W (hb9.kept (Keeps.of_below' hB) (fun h => h)) hf)
          have HNo := Lib.hid (node_v s sb f wr hb9 hf)
          have HB9 := Lib.hid (show Below w.heap.size w wr from HB8.out.trans ⟨hk9.os, hk9.tape, hk9.output, hk9.size, fun i hi => hk9.block i (Nat.lt_of_lt_of_le hi HB8.out.size) (fun h => by have := HX8.out i h; omega)⟩)
          have HM9 := Lib.hid hm9
          have HK98 := Lib.hid hk9.size
          have HSl := Lib.hid (show ∀ i, S i → w.heap.size ≤ i from fun i hi => (HS7.out i hi).1)
          clear hb9 hk9 hf hm9
          have hnp : nodeP s = if er ≠ 0 then (nd0, er) else (s.found, 0) := by unfold nodeP; rw [hD.over, if_neg (by decide), hD.e]
          obtain ⟨x1, hx1⟩ : ∃ x1, (nodeP s).1 = x1 := ⟨_, rfl⟩
          rw [hx1] at HNo
          have hn2 : (nodeP s).2 = er := by
            rw [hnp]
            by_cases h : er = 0
            · rw [if_neg (fun h2 => h2 h)]; exact h.symm
            · rw [if_pos h]
          rw [hn2] at HNo
          have HHP := Lib.hid (show er ≠ 0 → highP s = (0, false) from fun h => by unfold highP; rw [hn2, if_neg h])
          have HX1 := Lib.hid hx1
          have HNP := Lib.hid hnp
          have HD := Lib.hid hD
          clear hnp hn2 hD hx1
          go_wp2_with (fail)
          refine HNo.out.mono ?_
          rintro e w10 ⟨rfl, hB10⟩
          have hz := Blk.new w10 (ndCells nd0) 40
          have hzr := hz.row (ndCells x1)
          have k11 : Below wr.heap.size wr ((w10.alloc (.cells (ndCells nd0) 40)).setRow w10.heap.size (ndCells x1)) := below_setRow (hB10.alloc hB10.size _) hB10.size _
          obtain ⟨xb, hxb⟩ : ∃ xb, w10.heap.size = xb := ⟨_, rfl⟩
          have hxlt : wr.heap.size ≤ xb := by rw [← hxb]; exact hB10.size
          have HSx := Lib.hid (show w8.heap.size ≤ xb from Nat.le_trans HK98.out hxlt)
          rw [hxb] at hz hzr k11
          have HXb := Lib.hid hxb
          have HZ := Lib.hid hz
          obtain ⟨w11, hw11⟩ : ∃ w11, (w10.alloc (.cells (ndCells nd0) 40)).setRow xb (ndCells x1) = w11 := ⟨_, rfl⟩
          have HW11 := Lib.hid hw11
          rw [hw11] at hzr k11
          have HX11 := Lib.hid hzr
          have HK11 := Lib.hid k11
          have HB11 := Lib.hid (HB9.out.trans (k11.mono HB9.out.size))
          clear hz hzr hxb hw11 k11 HNo hB10
          go_upto_region 17 with (first
            | ((with_reducible refine wpList_alloc_ndAt (o := ⟨some 11, _, _, _, _, _⟩) rfl rfl xb ?hz ?_); (case hz => exact HXb.out))
            | ((with_reducible refine wpList_store_ndc (o := ⟨none, .store 40 (.tmp 11) (.tmp 81), _, _, _, _⟩) ?hgc (.tmp 11) (.tmp 81) ?hoc xb (ndCells x1) x1 nd0 ?hxc ?hyc ?hbc ?hmc ?_); (case hgc => rfl); (case hoc => rfl); (case hxc => exact ev_tmp (by simp [Act.put])); (case hyc => exact ev_tmp (by simp [Act.put])); (case hmc => rfl); (case hbc => exact HZ.out); rw [HW11.out]; simp [Act.put]))
          have her : (er = 0 ∨ er = 3 ∨ er = 11) := by
            rcases HD.out.res with ⟨h, _⟩ | ⟨h, _⟩
            · exact .inr (.inl h)
            · unfold ofV at h
              split at h
              · exact .inr (.inr h)
              · exact .inl h
          rcases her with rfl | rfl | rfl
          case inr.inl =>
            have hh := HHi.out w11 HK11.out
            rw [HHP.out (by decide)] at hh
            have hx0 : x1 = nd0 := by rw [← HX1.out, HNP.out, if_pos (by decide)]
            rw [hx0] at HX11
            have HH := Lib.hid hh
            clear hh hx0 HHi HHP HX1 HNP HD HM9
            go_wp2_with (fail)
            refine HH.out.mono ?_
            rintro e w12 ⟨rfl, hB12⟩
            have HX12 := Lib.hid (HX11.out.kept (Keeps.of_below' hB12) (fun h => h))
            have HB12 := Lib.hid (HB11.out.trans (hB12.mono HB11.out.size))
            have HKn := Lib.hid (known_v w12)
            clear hB12 HX11 HH
            go_wp2_with (first
              | ((with_reducible refine wpList_load_ndg (o := ⟨some 105, .load 40 (.tmp 11), _, _, _, _⟩) ?hw (.tmp 11) ?ho xb nd0 ?hx ?hb ?_); (case hw => rfl); (case ho => rfl); (case hx => exact ev_tmp (by simp)); (case hb => exact HX12.out))
              | ((with_reducible refine wpList_eq_ndg _ 105 106 _ _ _ _ nd0 ?hw3 ?hx3 ?hy3 ?_); (case hw3 => rfl); (case hx3 => rfl); (case hy3 => rfl)))
            refine HKn.out.mono ?_
            rintro e w13 ⟨rfl, hB13⟩
            have HB13 := Lib.hid (HB12.out.trans (hB13.mono HB12.out.size))
            clear hB13
            go_wp2_with (fail)
            go_ret
            exact ⟨rfl, HB13.out⟩
          case inr.inr =>
            have hh := HHi.out w11 HK11.out
            rw [HHP.out (by decide)] at hh
            have hx0 : x1 = nd0 := by rw [← HX1.out, HNP.out, if_pos (by decide)]
            rw [hx0] at HX11
            have HH := Lib.hid hh
            clear hh hx0 HHi HHP HX1 HNP HD HM9
            go_wp2_with (fail)
            refine HH.out.mono ?_
            rintro e w12 ⟨rfl, hB12⟩
            have HX12 := Lib.hid (HX11.out.kept (Keeps.of_below' hB12) (fun h => h))
            have HB12 := Lib.hid (HB11.out.trans (hB12.mono HB11.out.size))
            have HKn := Lib.hid (known_v w12)
            clear hB12 HX11 HH
            go_wp2_with (first
              | ((with_reducible refine wpList_load_ndg (o := ⟨some 105, .load 40 (.tmp 11), _, _, _, _⟩) ?hw (.tmp 11) ?ho xb nd0 ?hx ?hb ?_); (case hw => rfl); (case ho => rfl); (case hx => exact ev_tmp (by simp)); (case hb => exact HX12.out))
              | ((with_reducible refine wpList_eq_ndg _ 105 106 _ _ _ _ nd0 ?hw3 ?hx3 ?hy3 ?_); (case hw3 => rfl); (case hx3 => rfl); (case hy3 => rfl)))
            refine HKn.out.mono ?_
            rintro e w13 ⟨rfl, hB13⟩
            have HB13 := Lib.hid (HB12.out.trans (hB13.mono HB12.out.size))
            clear hB13
            go_wp2_with (fail)
            go_ret
            exact ⟨rfl, HB13.out⟩
          case inl =>
            have hx0 : x1 = s.found := by rw [← HX1.out, HNP.out, if_neg (fun h => h rfl)]
            have hfd : s.found = nTo (rdW (wdM vsk at_) 24) 8 ∧ ofBad (rdW (wdM vsk at_) 24) = false := by
              rcases HD.out.res with ⟨h, _⟩ | ⟨h, hf, _⟩
              · cases h
              · unfold ofV at h hf
                cases hb : ofBad (rdW (wdM vsk at_) 24) with
                | true => rw [hb, if_pos rfl] at h; cases h
                | false => rw [hb, if_neg (by decide)] at hf; exact ⟨hf, rfl⟩
            have HFd := Lib.hid (show x1 = nTo (rdW (wdM vsk at_) 24) 8 from hx0.trans hfd.1)
            have HBd := Lib.hid hfd.2
            have HM11 := Lib.hid (show MemV w11 mb S vsk lo9 (k : Int) 0 0 from by obtain ⟨is, mk, F, hm⟩ := HM9.out; exact ⟨is, mk, F, hm.below HK11.out⟩)
            clear hx0 hfd HHi HHP HX1 HNP HD HM9
            obtain ⟨wb, hwb⟩ : ∃ wb, w11.heap.size = wb := ⟨_, rfl⟩
            have hb12 : Blk (w11.alloc (.cells (wdCells (fun _ => 0)) 45)) wb (wdCells (fun _ => 0)) 45 := by rw [← hwb]; exact Blk.new w11 _ _
            have hB12 : Below w11.heap.size w11 (w11.alloc (.cells (wdCells (fun _ => 0)) 45)) := (Below.refl _ w11).alloc (Nat.le_refl _) _
            obtain ⟨w12, hw12⟩ : ∃ w12, w11.alloc (.cells (wdCells (fun _ => 0)) 45) = w12 := ⟨_, rfl⟩
            have HW12 := Lib.hid hw12
            have HWb := Lib.hid hwb
            rw [hw12] at hb12 hB12
            have HSw := Lib.hid (show ¬ S wb from fun h => by obtain ⟨is, mk, F, hm⟩ := HM11.out; have := hm.lt h; omega)
            have HM12 := Lib.hid (show MemV w12 mb S vsk lo9 (k : Int) 0 0 from by obtain ⟨is, mk, F, hm⟩ := HM11.out; exact ⟨is, mk, F, hm.below hB12⟩)
            have HX12 := Lib.hid (HX11.out.kept (Keeps.of_below' hB12) (fun h => h))
            have HXn := Lib.hid (show ¬ (xb = wb ∨ S xb) from fun h => by
              rcases h with h | h
              · have := HX11.out.lt; omega
              · have := (HS7.out xb h).2; have := HSb.out; have := HSbl.out; have := HSx.out; omega)
            have HB12 := Lib.hid (HB11.out.trans (hB12.mono HB11.out.size))
            have HF0 := Lib.hid (show Blk w12 wb (wdCells (fun i => if i < 0 then wdM vsk at_ i else 0)) 45 from by
              have e : (fun i => if i < 0 then wdM vsk at_ i else 0) = (fun _ => (0 : Int)) := funext (fun i => if_neg (by omega))
              rw [e]; exact hb12)
            have HWl := Lib.hid (show w.heap.size ≤ wb from by rw [← hwb]; exact HB11.out.size)
            clear hb12 hw12 hwb HM11 HK11 HX11 HW11 HZ HXb
            go_upto_region 23 with ((with_reducible refine wpList_alloc_wdAt (o := ⟨some 15, _, _, _, _, _⟩) rfl rfl wb ?hz ?_); (case hz => exact HWb.out); rw [HW12.out])
            simp [Act.put]
            clear HW12
            go_wp2_with (fail)
            go_loopw [16] (fun iv wq => ∃ j : Nat, j ≤ 24 ∧ iv = .int .i64 j ∧ (∃ lo, MemV wq mb S vsk lo (k : Int) 0 0) ∧ Blk wq wb (wdCells (fun i => if i < j then wdM vsk at_ i else 0)) 45 ∧ Keeps (fun i => i = wb ∨ S i) w12 wq) (fun iv _ => 24 - (intOf iv).toNat)
            case atStart => exact ⟨0, by omega, rfl, ⟨_, HM12.out⟩, HF0.out, Keeps.refl _ _⟩
            case round =>
              obtain ⟨i, hi, rfl, ⟨lo, is, mk, F, hm⟩, hb, hk⟩ := hrel
              by_cases hlt : i < 24
              · have hkb : (i : Int) < 24 := by omega
                have hkn : (0 : Int) ≤ (i : Int) := by omega
                have HLT := Lib.hid hlt
                have hw1 : IntKind.i64.wrap (8 * (i : Int)) = 8 * (i : Int) := IntWalk.i64_in _ (by omega)
                have hw2 : IntKind.u64.wrap (8 * (i : Int)) = 8 * (i : Int) := IntWalk.u64_in _ (by omega)
                obtain ⟨ad, had⟩ : ∃ ad, IntKind.u64.wrap (at_ + 8 * (i : Int)) = ad := ⟨_, rfl⟩
                have hadb : 0 ≤ ad ∧ ad ≤ 18446744073709551615 := by rw [← had]; exact u64_rng _
                have HLd := Lib.hid (load_w hm ad hadb.1 hadb.2)
                have HWi := Lib.hid (show ldW vsk ad = wdM vsk at_ i by rw [← had]; rfl)
                have HB := Lib.hid hb
                have HK := Lib.hid hk
                clear hm hb hk hadb hlt hi
                go_wp2_with (fail)
                refine HLd.out.mono ?_
                rintro e w14 ⟨rfl, hm14, hk14⟩
                have hb14 := HB.out.kept hk14 HSw.out
                have dk : w14.cell? ⟨wb, i, none⟩ = some (.int .u64 (if i < i then wdM vsk at_ i else 0)) := (hb14.cell i).trans (wdCells_get _ i HLT.out)
                have fk := hb14.frozen i
                obtain ⟨xv, hxv⟩ : ∃ xv, ldW vsk ad = xv := ⟨_, rfl⟩
                have hb15 := hb14.setw i xv
                have hk15 : Keeps (fun i => i = wb) w14 (w14.setCell ⟨wb, i, none⟩ (.int .u64 xv)) := (Keeps.refl (fun i => i = wb) w14).setCell (p := ⟨wb, i, none⟩) (.inl rfl) _
                have HM15 := Lib.hid (show MemV (w14.setCell ⟨wb, i, none⟩ (.int .u64 xv)) mb S vsk (ldN vsk.length ad lo) (k : Int) 0 0 from ⟨is, mk, F, hm14.kept hk15 (fun q hq e => HSw.out (e ▸ hq))⟩)
                have HK15 := Lib.hid ((HK.out.trans (hk14.mono (fun _ _ h => .inr h))).trans (hk15.mono (fun _ _ h => .inl h)))
                have hfe : wset (fun q => if q < i then wdM vsk at_ q else 0) i xv = fun q => if q < i + 1 then wdM vsk at_ q else 0 := by
                  funext q
                  show (if q = i then xv else (if q < i then wdM vsk at_ q else 0)) = (if q < i + 1 then wdM vsk at_ q else 0)
                  by_cases e : q = i
                  · rw [if_pos e, if_pos (by omega), e, ← hxv]; exact HWi.out
                  · rw [if_neg e]
                    by_cases c : q < i
                    · rw [if_pos c, if_pos (by omega)]
                    · rw [if_neg c, if_neg (by omega)]
                rw [hfe] at hb15
                have HB15 := Lib.hid hb15
                rw [hxv]
                clear hb14 hb15 hk15 hm14 hk14 hfe hxv had
                go_wp2_with (fail)
                go_roundw
                case rel => exact ⟨i + 1, by have := HLT.out; omega, by go_num, ⟨_, HM15.out⟩, HB15.out, HK15.out⟩
                case measure => have := HLT.out; simp [intOf]; omega
              · have hi24 : i = 24 := by omega
                subst hi24
                have HXr := Lib.hid (HX12.out.kept hk HXn.out)
                have HBr := Lib.hid (show Below w.heap.size w wr from HB12.out.trans ⟨hk.os, hk.tape, hk.output, hk.size, fun q hq => hk.block q (Nat.lt_of_lt_of_le hq HB12.out.size) (fun h => by
                  rcases h with h | h
                  · have := HWl.out; omega
                  · have := HSl.out q h; omega)⟩)
                have HLb := Lib.hid (wdLoad hb)
                obtain ⟨ff, hff⟩ : ∃ ff, (fun q => if q < 24 then wdM vsk at_ q else 0) = ff := ⟨_, rfl⟩
                have HFf := Lib.hid hff
                rw [hff] at HLb hb
                have hf0 : ff 0 = wdM vsk at_ 0 := by rw [← hff]; rfl
                have hr0 : rdW (wdM vsk at_) 24 0 = wdM vsk at_ 0 := rdW_at ((pthB_iff _ 0).2 (.inl (by decide))) (by decide)
                have hob : ofBad ff = false := by
                  have := HBd.out
                  unfold ofBad at this ⊢
                  rw [hr0] at this
                  rw [hf0]; exact this
                have hov : ofV ff = (nTo ff 8, 0) := by unfold ofV; rw [hob]; rfl
                obtain ⟨y1, hy1⟩ : ∃ y1, nTo ff 8 = y1 := ⟨_, rfl⟩
                have HOf := Lib.hid (show ∀ W, Calls Try.prog 15 #[.agg (wdCells ff)] W fun e w' => e = .returned (.tuple #[.agg (ndCells y1), .int .i64 0]) ∧ Below W.heap.size W w' from fun W => by
                  have := rof_v ff (by rw [hf0]; exact ldW_u64 HVu.out _) W
                  rw [hov, hy1] at this
                  exact this)
                have hty : ndCells (trimN y1) = ndCells (trimN x1) := by
                  rw [← hy1, HFd.out, trim_read]
                  have e : nTo ff 8 = nTo (wdM vsk at_) 8 := by
                    unfold nTo
                    have hq : ∀ q, q < 24 → ff q = wdM vsk at_ q := fun q hq => by rw [← hff]; exact if_pos hq
                    rw [hq 0 (by decide), hq 1 (by decide), hq 2 (by decide), hq 3 (by decide), hq 4 (by decide)]
                    congr 1
                    · funext q
                      by_cases c : q < 8
                      · rw [if_pos c, if_pos c, hq _ (by omega)]
                      · rw [if_neg c, if_neg c]
                    · funext q
                      by_cases c : q < 8
                      · rw [if_pos c, if_pos c, hq _ (by omega)]
                      · rw [if_neg c, if_neg c]
                  rw [e]
                obtain ⟨tx, htx⟩ : ∃ tx, trimN x1 = tx := ⟨_, rfl⟩
                have HTx := Lib.hid (show ∀ W, Calls Try.prog 16 #[.agg (ndCells x1)] W fun e w' => e = .returned (.agg (ndCells tx)) ∧ Below W.heap.size W w' from fun W => by rw [← htx]; exact trim_v x1 W)
                have HTy := Lib.hid (show ∀ W, Calls Try.prog 16 #[.agg (ndCells y1)] W fun e w' => e = .returned (.agg (ndCells tx)) ∧ Below W.heap.size W w' from fun W => by rw [← htx, ← hty]; exact trim_v y1 W)
                clear hty htx hy1 hov hob hf0 hr0 hff hm hb hk hlt hi HFf HBd HFd HX12 HB12
                go_wp2_with ((with_reducible refine wpList_load_part (o := ⟨some 136, .load 45 (.tmp 15), _, _, _, _⟩) ?hg 45 (.tmp 15) ?ho wb 0 ?hx (wdCells ff) ?dd ?hc ?hu ?hd ?hi ?_); (case hg => rfl); (case ho => rfl); (case hx => rfl); (case hc => exact HLb.out); (case hu => exact Try.underlying45); (case hd => rfl); (case hi => exact infoWd ff))
                refine (HOf.out wr).mono ?_
                rintro e w16 ⟨rfl, hB16⟩
                have hz := Blk.new w16 (ndCells nd0) 40
                have hzr := hz.row (ndCells y1)
                have k17 : Below wr.heap.size wr ((w16.alloc (.cells (ndCells nd0) 40)).setRow w16.heap.size (ndCells y1)) := below_setRow (hB16.alloc hB16.size _) hB16.size _
                obtain ⟨yb, hyb⟩ : ∃ yb, w16.heap.size = yb := ⟨_, rfl⟩
                rw [hyb] at hz hzr k17
                have HYb := Lib.hid hyb
                have HZ := Lib.hid hz
                obtain ⟨W8, hW8⟩ : ∃ W8, (w16.alloc (.cells (ndCells nd0) 40)).setRow yb (ndCells y1) = W8 := ⟨_, rfl⟩
                have HW8 := Lib.hid hW8
                rw [hW8] at hzr k17
                have HY8 := Lib.hid hzr
                have HX8 := Lib.hid (HXr.out.kept (Keeps.of_below' k17) (fun h => h))
                have HB8 := Lib.hid (HBr.out.trans (k17.mono HBr.out.size))
                clear hz hzr hyb hW8 k17 hB16 HOf HXr HLb
                go_upto_region 28 with (first
                  | ((with_reducible refine wpList_alloc_ndAt (o := ⟨some 17, _, _, _, _, _⟩) rfl rfl yb ?hz ?_); (case hz => exact HYb.out))
                  | ((with_reducible refine wpList_store_ndc (o := ⟨none, .store 40 (.tmp 17) (.tmp 138), _, _, _, _⟩) ?hgc (.tmp 17) (.tmp 138) ?hoc yb (ndCells y1) y1 nd0 ?hxc ?hyc ?hbc ?hmc ?_); (case hgc => rfl); (case hoc => rfl); (case hxc => exact ev_tmp (by simp [Act.put])); (case hyc => exact ev_tmp (by simp [Act.put])); (case hmc => rfl); (case hbc => exact HZ.out); rw [HW8.out]; simp [Act.put]))
                go_wp2_with (fail)
                --GEN r_sr28
                refine wp_region_vals [Is (.int .i64 0), Is (.bool true), Is (.bool true), Is (.agg (ndCells x1)), Is (.agg (ndCells tx)), Is (.agg (ndCells y1)), Is (.agg (ndCells tx)), Is (.bool true), Is (.bool true), Is (.bool true), Is (.bool true), Is (.bool true), Is (.bool true)]
                  (fun _ _ _ => True) (fun _ W => Below W8.heap.size W8 W) (by kernel_rfl) (by kernel_rfl) (by kernel_rfl) ?hst ?h0 ⟨?o0, ?o1, ?o2, ?o3, ?o4, ?o5, ?o6, ?o7, ?o8, ?o9, ?o10, ?o11, ?o12, trivial⟩ ?he
                case hst =>
                  exact ⟨(fun _ _ _ _ _ _ h _ => h), (fun _ _ _ _ _ _ h _ => h), (fun _ _ _ _ _ _ h _ => h), (fun _ _ _ _ _ _ h _ => h), (fun _ _ _ _ _ _ h _ => h), (fun _ _ _ _ _ _ h _ => h), (fun _ _ _ _ _ _ h _ => h), (fun _ _ _ _ _ _ h _ => h), (fun _ _ _ _ _ _ h _ => h), (fun _ _ _ _ _ _ h _ => h), (fun _ _ _ _ _ _ h _ => h), (fun _ _ _ _ _ _ h _ => h), (fun _ _ _ _ _ _ h _ => h), trivial⟩
                case h0 =>
                  exact (Below.refl _ W8).drew
                case o0 =>
                  intro L vs A W H hf hd K hK
                  have e18 : A.tmps[18]?.getD undef = .int .i64 0 := H.old 18 (by kernel_rfl)
                  go_simp
                  exact hK _ _ (trivial) rfl (H.glob)
                case o1 =>
                  intro L vs A W H hf hd K hK
                  have e140 := H.is 0 140 rfl rfl rfl (deps_of' hd 0 (by kernel_rfl)) (by kernel_rfl)
                  go_simp
                  exact hK _ _ (trivial) rfl (H.glob)
                case o2 =>
                  intro L vs A W H hf hd K hK
                  have e141 := H.is 1 141 rfl rfl rfl (deps_of' hd 1 (by kernel_rfl)) (by kernel_rfl)
                  go_simp
                  exact hK _ _ (trivial) rfl (H.glob)
                case o3 =>
                  intro L vs A W H hf hd K hK
                  have e142 := H.is 2 142 rfl rfl rfl (deps_of' hd 2 (by kernel_rfl)) (by kernel_rfl)
                  refine if_wanted (j := 2) (s := 142) rfl rfl rfl e142 rfl ?_
                  have e11 : A.tmps[11]?.getD undef = .pointer (some ⟨xb, 0, none⟩) := H.old 11 (by kernel_rfl)
                  exact wp_load_nd (.tmp 11) rfl xb x1 (ev_tmp e11) (HX8.out.kept (Keeps.of_below' H.glob) (fun h => h)) (hK _ _ trivial rfl H.glob)
                case o4 =>
                  intro L vs A W H hf hd K hK
                  have e142 := H.is 2 142 rfl rfl rfl (deps_of' hd 2 (by kernel_rfl)) (by kernel_rfl)
                  refine if_wanted (j := 2) (s := 142) rfl rfl rfl e142 rfl ?_
                  have e143 := H.is 3 143 rfl rfl rfl (deps_of' hd 3 (by kernel_rfl)) (by kernel_rfl)
                  have HL := Lib.hid (HTx.out W)
                  go_simp
                  refine HL.out.mono ?_
                  rintro e w' ⟨rfl, hB⟩
                  go_simp
                  exact hK _ _ trivial rfl (H.glob.trans (hB.mono H.glob.size))
                case o5 =>
                  intro L vs A W H hf hd K hK
                  have e142 := H.is 2 142 rfl rfl rfl (deps_of' hd 2 (by kernel_rfl)) (by kernel_rfl)
                  refine if_wanted (j := 2) (s := 142) rfl rfl rfl e142 rfl ?_
                  have e17 : A.tmps[17]?.getD undef = .pointer (some ⟨yb, 0, none⟩) := H.old 17 (by kernel_rfl)
                  exact wp_load_nd (.tmp 17) rfl yb y1 (ev_tmp e17) (HY8.out.kept (Keeps.of_below' H.glob) (fun h => h)) (hK _ _ trivial rfl H.glob)
                case o6 =>
                  intro L vs A W H hf hd K hK
                  have e142 := H.is 2 142 rfl rfl rfl (deps_of' hd 2 (by kernel_rfl)) (by kernel_rfl)
                  refine if_wanted (j := 2) (s := 142) rfl rfl rfl e142 rfl ?_
                  have e145 := H.is 5 145 rfl rfl rfl (deps_of' hd 5 (by kernel_rfl)) (by kernel_rfl)
                  have HL := Lib.hid (HTy.out W)
                  go_simp
                  refine HL.out.mono ?_
                  rintro e w' ⟨rfl, hB⟩
                  go_simp
                  exact hK _ _ trivial rfl (H.glob.trans (hB.mono H.glob.size))
                case o7 =>
                  intro L vs A W H hf hd K hK
                  have e142 := H.is 2 142 rfl rfl rfl (deps_of' hd 2 (by kernel_rfl)) (by kernel_rfl)
                  refine if_wanted (j := 2) (s := 142) rfl rfl rfl e142 rfl ?_
                  have e144 := H.is 4 144 rfl rfl rfl (deps_of' hd 4 (by kernel_rfl)) (by kernel_rfl)
                  have e146 := H.is 6 146 rfl rfl rfl (deps_of' hd 6 (by kernel_rfl)) (by kernel_rfl)
                  exact wp_eq_nd _ 144 146 _ _ _ _ tx e144 e146 (hK _ _ trivial rfl H.glob)
                case o8 =>
                  intro L vs A W H hf hd K hK
                  have e142 := H.is 2 142 rfl rfl rfl (deps_of' hd 2 (by kernel_rfl)) (by kernel_rfl)
                  have e147 := H.is 7 147 rfl rfl rfl (deps_of' hd 7 (by kernel_rfl)) (by kernel_rfl)
                  go_simp
                  exact hK _ _ (trivial) rfl (H.glob)
                case o9 =>
                  intro L vs A W H hf hd K hK
                  have e148 := H.is 8 148 rfl rfl rfl (deps_of' hd 8 (by kernel_rfl)) (by kernel_rfl)
                  go_simp
                  exact hK _ _ (trivial) rfl (H.glob)
                case o10 =>
                  intro L vs A W H hf hd K hK
                  have e149 := H.is 9 149 rfl rfl rfl (deps_of' hd 9 (by kernel_rfl)) (by kernel_rfl)
                  refine if_wanted (j := 9) (s := 149) rfl rfl rfl e149 rfl ?_
                  have HL := Lib.hid (known_v W)
                  go_simp
                  refine HL.out.mono ?_
                  rintro e w' ⟨rfl, hB⟩
                  go_simp
                  exact hK _ _ trivial rfl (H.glob.trans (hB.mono H.glob.size))
                case o11 =>
                  intro L vs A W H hf hd K hK
                  have e149 := H.is 9 149 rfl rfl rfl (deps_of' hd 9 (by kernel_rfl)) (by kernel_rfl)
                  have e150 := H.is 10 150 rfl rfl rfl (deps_of' hd 10 (by kernel_rfl)) (by kernel_rfl)
                  go_simp
                  exact hK _ _ (trivial) rfl (H.glob)
                case o12 =>
                  intro L vs A W H hf hd K hK
                  have e151 := H.is 11 151 rfl rfl rfl (deps_of' hd 11 (by kernel_rfl)) (by kernel_rfl)
                  go_simp
                  exact hK _ _ (trivial) rfl (H.glob)
                case he =>
                  intro vs W hlen hv
                  match vs, hlen, hv with
                  | [x0_, x1_, x2_, x3_, x4_, x5_, x6_, x7_, x8_, x9_, x10_, x11_, x12_], _, hv =>
                  obtain rfl : (.int .i64 0) = x0_ := by obtain ⟨z, h1, h2⟩ := hv 0 _ rfl; cases h1; exact h2.symm
                  obtain rfl : (.bool true) = x1_ := by obtain ⟨z, h1, h2⟩ := hv 1 _ rfl; cases h1; exact h2.symm
                  obtain rfl : (.bool true) = x2_ := by obtain ⟨z, h1, h2⟩ := hv 2 _ rfl; cases h1; exact h2.symm
                  obtain rfl : (.agg (ndCells x1)) = x3_ := by obtain ⟨z, h1, h2⟩ := hv 3 _ rfl; cases h1; exact h2.symm
                  obtain rfl : (.agg (ndCells tx)) = x4_ := by obtain ⟨z, h1, h2⟩ := hv 4 _ rfl; cases h1; exact h2.symm
                  obtain rfl : (.agg (ndCells y1)) = x5_ := by obtain ⟨z, h1, h2⟩ := hv 5 _ rfl; cases h1; exact h2.symm
                  obtain rfl : (.agg (ndCells tx)) = x6_ := by obtain ⟨z, h1, h2⟩ := hv 6 _ rfl; cases h1; exact h2.symm
                  obtain rfl : (.bool true) = x7_ := by obtain ⟨z, h1, h2⟩ := hv 7 _ rfl; cases h1; exact h2.symm
                  obtain rfl : (.bool true) = x8_ := by obtain ⟨z, h1, h2⟩ := hv 8 _ rfl; cases h1; exact h2.symm
                  obtain rfl : (.bool true) = x9_ := by obtain ⟨z, h1, h2⟩ := hv 9 _ rfl; cases h1; exact h2.symm
                  obtain rfl : (.bool true) = x10_ := by obtain ⟨z, h1, h2⟩ := hv 10 _ rfl; cases h1; exact h2.symm
                  obtain rfl : (.bool true) = x11_ := by obtain ⟨z, h1, h2⟩ := hv 11 _ rfl; cases h1; exact h2.symm
                  obtain rfl : (.bool true) = x12_ := by obtain ⟨z, h1, h2⟩ := hv 12 _ rfl; cases h1; exact h2.symm
                  intro L hall hG
                  clear hv hlen
                  have HB9 := Lib.hid hG
                  clear hG hall
                  simp only [fill, if_true]
                --END
                  simp [Act.put]
                  go_wp2_with (fail)
                  go_ret
                  exact ⟨rfl, HB8.out.trans (HB9.out.mono HB8.out.size)⟩
end Go.Proofs.Ytgmbnoimlffgcaa
namespace Go.Proofs.Ytgmbnoimlffgcaa
open Go.RowKit
attribute [local go_sem] Oper.semAt_some
set_option linter.unusedVariables false

/-! ### a snapshot under way, with its loads -/
structure SnA (w5 : World) (sb mb : Nat) (S : Nat → Prop) (vs : List Int) (a st fl fe : Int) (k : Nat) (lo : Int) (wr : World) : Prop where
  s : ∃ s, Blk wr sb (snCells s) 62 ∧ SnI sb (some ⟨mb, 0, none⟩) vs a k s
  m : MemV wr mb S vs lo st fl fe
  k : Keeps (fun i => i = sb ∨ S i) w5 wr
structure SnZA (w5 : World) (sb mb : Nat) (S : Nat → Prop) (vs : List Int) (a st fl fe er : Int) (lo : Int) (wr : World) : Prop where
  s : ∃ s, Blk wr sb (snCells s) 62 ∧ SnD sb vs a er s
  m : MemV wr mb S vs lo st fl fe
  k : Keeps (fun i => i = sb ∨ S i) w5 wr
def StepA (w5 : World) (sb mb : Nat) (S : Nat → Prop) (vs : List Int) (a st fl fe : Int) (k : Nat) (lo : Int) (e : Ending) (w' : World) : Prop :=
  ∃ lo', (lo' = lo ∨ lo' = lo + 1) ∧ ((e = .returned (.tuple #[.bool false, .int .i64 0]) ∧ SnA w5 sb mb S vs a st fl fe (k + 1) lo' w') ∨ (∃ er, e = .returned (.tuple #[.bool true, .int .i64 er]) ∧ SnZA w5 sb mb S vs a st fl fe er lo' w'))
section
variable {w5 wr wr' : World} {sb mb : Nat} {S : Nat → Prop} {vs : List Int} {a st fl fe : Int} {k : Nat} {lo er : Int}
theorem SnA.below (h : SnA w5 sb mb S vs a st fl fe k lo wr) (hB : Below wr.heap.size wr wr') : SnA w5 sb mb S vs a st fl fe k lo wr' := by
  obtain ⟨⟨s, hb, hI⟩, ⟨is, mk, F, hm⟩, hk⟩ := h
  exact ⟨⟨s, hb.kept (Keeps.of_below' hB) (fun h => h), hI⟩, ⟨is, mk, F, hm.below hB⟩, hk.trans ((Keeps.of_below' hB).mono (fun _ _ h => h.elim))⟩
theorem SnZA.below (h : SnZA w5 sb mb S vs a st fl fe er lo wr) (hB : Below wr.heap.size wr wr') : SnZA w5 sb mb S vs a st fl fe er lo wr' := by
  obtain ⟨⟨s, hb, hI⟩, ⟨is, mk, F, hm⟩, hk⟩ := h
  exact ⟨⟨s, hb.kept (Keeps.of_below' hB) (fun h => h), hI⟩, ⟨is, mk, F, hm.below hB⟩, hk.trans ((Keeps.of_below' hB).mono (fun _ _ h => h.elim))⟩
theorem step_a (h : SnA w5 sb mb S vs a st fl fe k lo wr) (hS : ¬ S sb) (hu : U64s vs) (hlo0 : 0 ≤ lo) (hlo1 : lo ≤ 1000) :
    Calls Try.prog 11 #[.pointer (some ⟨sb, 0, none⟩)] wr fun e w' => StepA w5 sb mb S vs a st fl fe k lo e w' ∧ Keeps (fun i => i = sb ∨ S i) wr w' := by
  obtain ⟨⟨s, hb, hI⟩, ⟨is, mk, F, hm⟩, hk⟩ := h
  refine (step_i wr s sb mb S vs is mk F lo st fl fe a k hb hm hS hI hu).mono ?_
  rintro e w' ⟨d, er, s', lo', hR, hP, hl⟩
  have hk' := hk.trans hP.k
  have hw : IntKind.u64.wrap (lo + 1) = lo + 1 := IntWalk.u64_in _ (by omega)
  rw [hw] at hl
  refine ⟨⟨lo', hl, ?_⟩, hP.k⟩
  rcases hR with ⟨rfl, rfl, hI'⟩ | ⟨rfl, hD⟩
  · exact .inl ⟨hP.e, ⟨s', hP.b, hI'⟩, ⟨is, mk, F, hP.m⟩, hk'⟩
  · exact .inr ⟨er, hP.e, ⟨s', hP.b, hD⟩, ⟨is, mk, F, hP.m⟩, hk'⟩
theorem SnA.stats (h : SnA w5 sb mb S vs a st fl fe k lo wr) : Calls Try.prog 19 #[.pointer (some ⟨mb, 0, none⟩)] wr fun e w' => e = .returned (.agg (statCells lo st fl fe)) ∧ Below wr.heap.size wr w' := by
  obtain ⟨_, ⟨is, mk, F, hm⟩, _⟩ := h
  exact stats_m hm
theorem SnZA.stats (h : SnZA w5 sb mb S vs a st fl fe er lo wr) : Calls Try.prog 19 #[.pointer (some ⟨mb, 0, none⟩)] wr fun e w' => e = .returned (.agg (statCells lo st fl fe)) ∧ Below wr.heap.size wr w' := by
  obtain ⟨_, ⟨is, mk, F, hm⟩, _⟩ := h
  exact stats_m hm
end
/-! ### right -/
def rightN (n : Nd) : Nd := if n.nx = 0 then n else { n with nx := 1280 }
def rightB (n : Nd) : Bool := n.mayB 0 false && decide (n.inval < 0)
structure RtW (w : World) (b1 b2 : Nat) (m : Nd) (L : Nat → Bool) (W : World) : Prop where
  f : Blk W b1 (ndCells m) 40
  r : Blk W b2 (ndCells (if L 8 = true then m else nd0)) 40
  b : Below w.heap.size w W
  lt : w.heap.size ≤ b1 ∧ b1 < b2
section
variable {w W W' : World} {b1 b2 : Nat} {m : Nd} {L L' : Nat → Bool}
theorem RtW.keep (h : RtW w b1 b2 m L W) (e : L' 8 = L 8) : RtW w b1 b2 m L' W := ⟨h.f, by rw [e]; exact h.r, h.b, h.lt⟩
theorem RtW.below (h : RtW w b1 b2 m L W) (hB : Below W.heap.size W W') (e : L' 8 = L 8) : RtW w b1 b2 m L' W' :=
  ⟨h.f.kept (Keeps.of_below' hB) (fun h => h), by rw [e]; exact h.r.kept (Keeps.of_below' hB) (fun h => h), h.b.trans (hB.mono h.b.size), h.lt⟩
theorem RtW.store (h : RtW w b1 b2 m L W) : RtW w b1 b2 m (lset L 8) (W.setRow b2 (ndCells m)) :=
  ⟨h.f.rowOther _ (by have := h.lt; omega), by rw [if_pos (by simp [lset])]; exact h.r.row _, below_setRow h.b (by have := h.lt; omega) _, h.lt⟩
theorem TrW.rt (h : TrW w b1 b2 m W) : RtW w b1 b2 m (fun _ => false) W.drew := ⟨h.f.drew, by rw [if_neg (by simp)]; exact h.r.drew, h.b.drew, h.lt⟩
end
set_option maxRecDepth 100000 in
set_option maxHeartbeats 16000000 in
theorem right_v (n : Nd) (w : World) : Calls Try.prog 17 #[.agg (ndCells n)] w fun e w' => e = .returned (.tuple #[.agg (ndCells (rightN n)), .bool (rightB (rightN n))]) ∧ Below w.heap.size w w' := by
  have HT0 := Lib.hid (TrW.start w n)
  have hs1 : (w.alloc (.cells (ndCells n) 40)).heap.size = w.heap.size + 1 := by simp
  obtain ⟨b1, hb1⟩ : ∃ b1, w.heap.size = b1 := ⟨_, rfl⟩
  obtain ⟨b2, hb2⟩ : ∃ b2, b1 + 1 = b2 := ⟨_, rfl⟩
  rw [hb1, hb2] at HT0 hs1
  have HZ := Lib.hid hs1
  clear hs1
  go_enter Try.func17, Try.ntmps17
  go_upto_region 1 with ((with_reducible refine wpList_alloc_ndAt (o := ⟨some 2, _, _, _, _, _⟩) rfl rfl b2 ?hz ?_); (case hz => exact HZ.out))
  generalize (w.alloc (.cells (ndCells n) 40)).alloc (.cells (ndCells nd0) 40) = w0 at *
  have d2 : w0.cell? ⟨b1, 2, none⟩ = some (.int .u64 n.nx) := (HT0.out.f.cell 2).trans (ndCells_2 n)
  have f2 := HT0.out.f.frozen 2
  obtain ⟨x, hx⟩ : ∃ x, n.nx = x := ⟨_, rfl⟩
  rw [hx] at d2
  by_cases hz : x = 0
  · have HRn := Lib.hid (show rightN n = n by unfold rightN; rw [hx, if_pos hz])
    subst hz
    go_upto_region 3 with (fail)
    obtain ⟨W3, hW3⟩ : ∃ W3, w0 = W3 := ⟨_, rfl⟩
    rw [hW3] at HT0 ⊢
    have HT3 := Lib.hid HT0.out
    obtain ⟨m, hm⟩ : ∃ m, n = m := ⟨_, rfl⟩
    have HRn := Lib.hid (show rightN n = m by rw [HRn.out, hm])
    rw [hm] at HT3
    clear hm HT0 hW3 hx d2 f2
    go_wp2_with (fail)
    have HMay := Lib.hid (show ∀ W, Calls Try.prog 38 #[.agg (ndCells m), .int .u64 0, .bool false] W fun e w' => e = .returned (.bool (m.mayB 0 false)) ∧ Below W.heap.size W w' from fun W => rmay_calls m 0 false W)
    have HInv := Lib.hid (fun W => rinvalid_calls m W)
    obtain ⟨iv, hiv⟩ : ∃ iv, m.inval = iv := ⟨_, rfl⟩
    obtain ⟨bm, hbm⟩ : ∃ bm, m.mayB 0 false = bm := ⟨_, rfl⟩
    have HRb := Lib.hid (show rightB m = (bm && decide (iv < 0)) by unfold rightB; rw [hbm, hiv])
    rw [hiv] at HInv
    rw [hbm] at HMay
    clear hiv hbm
    cases bm with
    | true =>
      --GEN r_rt3t
      refine wp_region_vals [Is (.agg (ndCells m)), Is (.agg (ndCells m)), Is (.bool true), Is (.bool true), Is (.agg (ndCells m)), Is (.int .i64 iv), Is (.bool (decide (iv < 0))), Is (.bool (decide (iv < 0))), Any, Is (.bool (decide (iv < 0)))]
        (fun _ _ _ => True) (fun L W => RtW w b1 b2 m L W) (by kernel_rfl) (by kernel_rfl) (by kernel_rfl) ?hst ?h0 ⟨?o0, ?o1, ?o2, ?o3, ?o4, ?o5, ?o6, ?o7, ?o8, ?o9, trivial⟩ ?he
      case hst =>
        exact ⟨(fun _ _ _ _ _ _ h _ => h), (fun _ _ _ _ _ _ h _ => h), (fun _ _ _ _ _ _ h _ => h), (fun _ _ _ _ _ _ h _ => h), (fun _ _ _ _ _ _ h _ => h), (fun _ _ _ _ _ _ h _ => h), (fun _ _ _ _ _ _ h _ => h), (fun _ _ _ _ _ _ h _ => h), (fun _ _ _ _ _ _ h _ => h), (fun _ _ _ _ _ _ h _ => h), trivial⟩
      case h0 =>
        exact HT3.out.rt
      case o0 =>
        intro L vs A W H hf hd K hK
        have e1 : A.tmps[1]?.getD undef = .pointer (some ⟨b1, 0, none⟩) := H.old 1 (by kernel_rfl)
        exact wp_load_nd (.tmp 1) rfl b1 m (ev_tmp e1) H.glob.f (hK _ _ trivial rfl (H.glob.keep rfl))
      case o1 =>
        intro L vs A W H hf hd K hK
        have e1 : A.tmps[1]?.getD undef = .pointer (some ⟨b1, 0, none⟩) := H.old 1 (by kernel_rfl)
        exact wp_load_nd (.tmp 1) rfl b1 m (ev_tmp e1) H.glob.f (hK _ _ trivial rfl (H.glob.keep rfl))
      case o2 =>
        intro L vs A W H hf hd K hK
        have e9 := H.is 1 9 rfl rfl rfl (deps_of' hd 1 (by kernel_rfl)) (by kernel_rfl)
        have HL := Lib.hid (HMay.out W)
        go_simp
        refine HL.out.mono ?_
        rintro e w' ⟨rfl, hB⟩
        go_simp
        exact hK _ _ trivial rfl (H.glob.below hB rfl)
      case o3 =>
        intro L vs A W H hf hd K hK
        have e10 := H.is 2 10 rfl rfl rfl (deps_of' hd 2 (by kernel_rfl)) (by kernel_rfl)
        go_simp
        exact hK _ _ (trivial) rfl (H.glob.keep rfl)
      case o4 =>
        intro L vs A W H hf hd K hK
        have e11 := H.is 3 11 rfl rfl rfl (deps_of' hd 3 (by kernel_rfl)) (by kernel_rfl)
        refine if_wanted (j := 3) (s := 11) rfl rfl rfl e11 rfl ?_
        have e1 : A.tmps[1]?.getD undef = .pointer (some ⟨b1, 0, none⟩) := H.old 1 (by kernel_rfl)
        exact wp_load_nd (.tmp 1) rfl b1 m (ev_tmp e1) H.glob.f (hK _ _ trivial rfl (H.glob.keep rfl))
      case o5 =>
        intro L vs A W H hf hd K hK
        have e11 := H.is 3 11 rfl rfl rfl (deps_of' hd 3 (by kernel_rfl)) (by kernel_rfl)
        refine if_wanted (j := 3) (s := 11) rfl rfl rfl e11 rfl ?_
        have e12 := H.is 4 12 rfl rfl rfl (deps_of' hd 4 (by kernel_rfl)) (by kernel_rfl)
        have HL := Lib.hid (HInv.out W)
        go_simp
        refine HL.out.mono ?_
        rintro e w' ⟨rfl, hB⟩
        go_simp
        exact hK _ _ trivial rfl (H.glob.below hB rfl)
      case o6 =>
        intro L vs A W H hf hd K hK
        have e11 := H.is 3 11 rfl rfl rfl (deps_of' hd 3 (by kernel_rfl)) (by kernel_rfl)
        refine if_wanted (j := 3) (s := 11) rfl rfl rfl e11 rfl ?_
        have e13 := H.is 5 13 rfl rfl rfl (deps_of' hd 5 (by kernel_rfl)) (by kernel_rfl)
        go_simp
        exact hK _ _ (trivial) rfl (H.glob.keep rfl)
      case o7 =>
        intro L vs A W H hf hd K hK
        have e11 := H.is 3 11 rfl rfl rfl (deps_of' hd 3 (by kernel_rfl)) (by kernel_rfl)
        have e14 := H.is 6 14 rfl rfl rfl (deps_of' hd 6 (by kernel_rfl)) (by kernel_rfl)
        go_simp
        exact hK _ _ (trivial) rfl (H.glob.keep rfl)
      case o8 =>
        intro L vs A W H hf hd K hK
        have e2 : A.tmps[2]?.getD undef = .pointer (some ⟨b2, 0, none⟩) := H.old 2 (by kernel_rfl)
        have e8 := H.is 0 8 rfl rfl rfl (deps_of' hd 0 (by kernel_rfl)) (by kernel_rfl)
        exact wp_store_nd (.tmp 2) (.tmp 8) rfl b2 m nd0 (ev_tmp e2) (ev_tmp e8) (by have := H.glob.r; rwa [if_neg (by rw [hf]; decide)] at this) (hK undef _ trivial trivial H.glob.store)
      case o9 =>
        intro L vs A W H hf hd K hK
        have e15 := H.is 7 15 rfl rfl rfl (deps_of' hd 7 (by kernel_rfl)) (by kernel_rfl)
        go_simp
        exact hK _ _ (trivial) rfl (H.glob.keep rfl)
      case he =>
        intro vs W hlen hv
        match vs, hlen, hv with
        | [x0_, x1_, x2_, x3_, x4_, x5_, x6_, x7_, x8_, x9_], _, hv =>
        obtain rfl : (.agg (ndCells m)) = x0_ := by obtain ⟨z, h1, h2⟩ := hv 0 _ rfl; cases h1; exact h2.symm
        obtain rfl : (.agg (ndCells m)) = x1_ := by obtain ⟨z, h1, h2⟩ := hv 1 _ rfl; cases h1; exact h2.symm
        obtain rfl : (.bool true) = x2_ := by obtain ⟨z, h1, h2⟩ := hv 2 _ rfl; cases h1; exact h2.symm
        obtain rfl : (.bool true) = x3_ := by obtain ⟨z, h1, h2⟩ := hv 3 _ rfl; cases h1; exact h2.symm
        obtain rfl : (.agg (ndCells m)) = x4_ := by obtain ⟨z, h1, h2⟩ := hv 4 _ rfl; cases h1; exact h2.symm
        obtain rfl : (.int .i64 iv) = x5_ := by obtain ⟨z, h1, h2⟩ := hv 5 _ rfl; cases h1; exact h2.symm
        obtain rfl : (.bool (decide (iv < 0))) = x6_ := by obtain ⟨z, h1, h2⟩ := hv 6 _ rfl; cases h1; exact h2.symm
        obtain rfl : (.bool (decide (iv < 0))) = x7_ := by obtain ⟨z, h1, h2⟩ := hv 7 _ rfl; cases h1; exact h2.symm
        obtain rfl : (.bool (decide (iv < 0))) = x9_ := by obtain ⟨z, h1, h2⟩ := hv 9 _ rfl; cases h1; exact h2.symm
        intro L hall hG
        clear hv hlen
        have HG := Lib.hid hG
        have H8 := Lib.hid (hall 8 (by decide))
        clear hG hall
        simp only [fill, if_true]
      --END
        simp [Act.put]
        go_wp2_with (fail)
        have hr := HG.out.r
        rw [if_pos H8.out] at hr
        (try simp only [Exit.inBlock, Exit.then])
        refine bodyPost_ret (results_nd (fn := Try.f17) rfl _ b2 m rfl hr) rfl ?_
        rw [HRn.out, HRb.out]
        exact ⟨by rw [Bool.true_and]; rfl, HG.out.b⟩
    | false =>
      --GEN r_rt3f
      refine wp_region_vals [Is (.agg (ndCells m)), Is (.agg (ndCells m)), Is (.bool false), Is (.bool false), Any, Any, Any, Is (.bool false), Any, Is (.bool false)]
        (fun _ _ _ => True) (fun L W => RtW w b1 b2 m L W) (by kernel_rfl) (by kernel_rfl) (by kernel_rfl) ?hst ?h0 ⟨?o0, ?o1, ?o2, ?o3, ?o4, ?o5, ?o6, ?o7, ?o8, ?o9, trivial⟩ ?he
      case hst =>
        exact ⟨(fun _ _ _ _ _ _ h _ => h), (fun _ _ _ _ _ _ h _ => h), (fun _ _ _ _ _ _ h _ => h), (fun _ _ _ _ _ _ h _ => h), (fun _ _ _ _ _ _ h _ => h), (fun _ _ _ _ _ _ h _ => h), (fun _ _ _ _ _ _ h _ => h), (fun _ _ _ _ _ _ h _ => h), (fun _ _ _ _ _ _ h _ => h), (fun _ _ _ _ _ _ h _ => h), trivial⟩
      case h0 =>
        exact HT3.out.rt
      case o0 =>
        intro L vs A W H hf hd K hK
        have e1 : A.tmps[1]?.getD undef = .pointer (some ⟨b1, 0, none⟩) := H.old 1 (by kernel_rfl)
        exact wp_load_nd (.tmp 1) rfl b1 m (ev_tmp e1) H.glob.f (hK _ _ trivial rfl (H.glob.keep rfl))
      case o1 =>
        intro L vs A W H hf hd K hK
        have e1 : A.tmps[1]?.getD undef = .pointer (some ⟨b1, 0, none⟩) := H.old 1 (by kernel_rfl)
        exact wp_load_nd (.tmp 1) rfl b1 m (ev_tmp e1) H.glob.f (hK _ _ trivial rfl (H.glob.keep rfl))
      case o2 =>
        intro L vs A W H hf hd K hK
        have e9 := H.is 1 9 rfl rfl rfl (deps_of' hd 1 (by kernel_rfl)) (by kernel_rfl)
        have HL := Lib.hid (HMay.out W)
        go_simp
        refine HL.out.mono ?_
        rintro e w' ⟨rfl, hB⟩
        go_simp
        exact hK _ _ trivial rfl (H.glob.below hB rfl)
      case o3 =>
        intro L vs A W H hf hd K hK
        have e10 := H.is 2 10 rfl rfl rfl (deps_of' hd 2 (by kernel_rfl)) (by kernel_rfl)
        go_simp
        exact hK _ _ (trivial) rfl (H.glob.keep rfl)
      case o4 =>
        intro L vs A W H hf hd K hK
        have e11 := H.is 3 11 rfl rfl rfl (deps_of' hd 3 (by kernel_rfl)) (by kernel_rfl)
        refine if_unwanted (j := 3) (s := 11) rfl rfl rfl e11 rfl ?_
        exact hK _ _ (trivial) trivial (H.glob.keep rfl)
      case o5 =>
        intro L vs A W H hf hd K hK
        have e11 := H.is 3 11 rfl rfl rfl (deps_of' hd 3 (by kernel_rfl)) (by kernel_rfl)
        refine if_unwanted (j := 3) (s := 11) rfl rfl rfl e11 rfl ?_
        exact hK _ _ (trivial) trivial (H.glob.keep rfl)
      case o6 =>
        intro L vs A W H hf hd K hK
        have e11 := H.is 3 11 rfl rfl rfl (deps_of' hd 3 (by kernel_rfl)) (by kernel_rfl)
        refine if_unwanted (j := 3) (s := 11) rfl rfl rfl e11 rfl ?_
        exact hK _ _ (trivial) trivial (H.glob.keep rfl)
      case o7 =>
        intro L vs A W H hf hd K hK
        have e11 := H.is 3 11 rfl rfl rfl (deps_of' hd 3 (by kernel_rfl)) (by kernel_rfl)
        obtain ⟨v14, e14, q14⟩ := H.val 6 14 rfl rfl rfl (deps_of' hd 6 (by kernel_rfl)) (by kernel_rfl)
        go_simp
        exact hK _ _ (trivial) rfl (H.glob.keep rfl)
      case o8 =>
        intro L vs A W H hf hd K hK
        have e2 : A.tmps[2]?.getD undef = .pointer (some ⟨b2, 0, none⟩) := H.old 2 (by kernel_rfl)
        have e8 := H.is 0 8 rfl rfl rfl (deps_of' hd 0 (by kernel_rfl)) (by kernel_rfl)
        exact wp_store_nd (.tmp 2) (.tmp 8) rfl b2 m nd0 (ev_tmp e2) (ev_tmp e8) (by have := H.glob.r; rwa [if_neg (by rw [hf]; decide)] at this) (hK undef _ trivial trivial H.glob.store)
      case o9 =>
        intro L vs A W H hf hd K hK
        have e15 := H.is 7 15 rfl rfl rfl (deps_of' hd 7 (by kernel_rfl)) (by kernel_rfl)
        go_simp
        exact hK _ _ (trivial) rfl (H.glob.keep rfl)
      case he =>
        intro vs W hlen hv
        match vs, hlen, hv with
        | [x0_, x1_, x2_, x3_, x4_, x5_, x6_, x7_, x8_, x9_], _, hv =>
        obtain rfl : (.agg (ndCells m)) = x0_ := by obtain ⟨z, h1, h2⟩ := hv 0 _ rfl; cases h1; exact h2.symm
        obtain rfl : (.agg (ndCells m)) = x1_ := by obtain ⟨z, h1, h2⟩ := hv 1 _ rfl; cases h1; exact h2.symm
        obtain rfl : (.bool false) = x2_ := by obtain ⟨z, h1, h2⟩ := hv 2 _ rfl; cases h1; exact h2.symm
        obtain rfl : (.bool false) = x3_ := by obtain ⟨z, h1, h2⟩ := hv 3 _ rfl; cases h1; exact h2.symm
        obtain rfl : (.bool false) = x7_ := by obtain ⟨z, h1, h2⟩ := hv 7 _ rfl; cases h1; exact h2.symm
        obtain rfl : (.bool false) = x9_ := by obtain ⟨z, h1, h2⟩ := hv 9 _ rfl; cases h1; exact h2.symm
        intro L hall hG
        clear hv hlen
        have HG := Lib.hid hG
        have H8 := Lib.hid (hall 8 (by decide))
        clear hG hall
        simp only [fill, if_true]
      --END
        simp [Act.put]
        go_wp2_with (fail)
        have hr := HG.out.r
        rw [if_pos H8.out] at hr
        (try simp only [Exit.inBlock, Exit.then])
        refine bodyPost_ret (results_nd (fn := Try.f17) rfl _ b2 m rfl hr) rfl ?_
        rw [HRn.out, HRb.out]
        exact ⟨by rw [Bool.false_and]; rfl, HG.out.b⟩
  · have HRn := Lib.hid (show rightN n = { n with nx := 1280 } by unfold rightN; rw [hx, if_neg hz])
    have hxn : (x != 0) = true := bne_iff_ne.2 hz
    go_upto_region 3 with (fail)
    have hf3 := HT0.out.f.set 2 (.int .u64 1280)
    rw [ndCells_set2] at hf3
    obtain ⟨m, hm⟩ : ∃ m, { n with nx := 1280 } = m := ⟨_, rfl⟩
    rw [hm] at hf3 HRn
    have HT3 := Lib.hid (show TrW w b1 b2 m (w0.setCell ⟨b1, 2, none⟩ (.int .u64 1280)) from ⟨hf3, HT0.out.r.other _ _ (by have := HT0.out.lt; omega), HT0.out.b.setCell (p := ⟨b1, 2, none⟩) HT0.out.lt.1 _, HT0.out.lt⟩)
    obtain ⟨W3, hW3⟩ : ∃ W3, w0.setCell ⟨b1, 2, none⟩ (.int .u64 1280) = W3 := ⟨_, rfl⟩
    rw [hW3] at HT3 ⊢
    clear hm HT0 hW3 hx d2 f2 hf3 hxn hz
    go_wp2_with (fail)
    have HMay := Lib.hid (show ∀ W, Calls Try.prog 38 #[.agg (ndCells m), .int .u64 0, .bool false] W fun e w' => e = .returned (.bool (m.mayB 0 false)) ∧ Below W.heap.size W w' from fun W => rmay_calls m 0 false W)
    have HInv := Lib.hid (fun W => rinvalid_calls m W)
    obtain ⟨iv, hiv⟩ : ∃ iv, m.inval = iv := ⟨_, rfl⟩
    obtain ⟨bm, hbm⟩ : ∃ bm, m.mayB 0 false = bm := ⟨_, rfl⟩
    have HRb := Lib.hid (show rightB m = (bm && decide (iv < 0)) by unfold rightB; rw [hbm, hiv])
    rw [hiv] at HInv
    rw [hbm] at HMay
    clear hiv hbm
    cases bm with
    | true =>
      --GEN r_rt3t
      refine wp_region_vals [Is (.agg (ndCells m)), Is (.agg (ndCells m)), Is (.bool true), Is (.bool true), Is (.agg (ndCells m)), Is (.int .i64 iv), Is (.bool (decide (iv < 0))), Is (.bool (decide (iv < 0))), Any, Is (.bool (decide (iv < 0)))]
        (fun _ _ _ => True) (fun L W => RtW w b1 b2 m L W) (by kernel_rfl) (by kernel_rfl) (by kernel_rfl) ?hst ?h0 ⟨?o0, ?o1, ?o2, ?o3, ?o4, ?o5, ?o6, ?o7, ?o8, ?o9, trivial⟩ ?he
      case hst =>
        exact ⟨(fun _ _ _ _ _ _ h _ => h), (fun _ _ _ _ _ _ h _ => h), (fun _ _ _ _ _ _ h _ => h), (fun _ _ _ _ _ _ h _ => h), (fun _ _ _ _ _ _ h _ => h), (fun _ _ _ _ _ _ h _ => h), (fun _ _ _ _ _ _ h _ => h), (fun _ _ _ _ _ _ h _ => h), (fun _ _ _ _ _ _ h _ => h), (fun _ _ _ _ _ _ h _ => h), trivial⟩
      case h0 =>
        exact HT3.out.rt
      case o0 =>
        intro L vs A W H hf hd K hK
        have e1 : A.tmps[1]?.getD undef = .pointer (some ⟨b1, 0, none⟩) := H.old 1 (by kernel_rfl)
        exact wp_load_nd (.tmp 1) rfl b1 m (ev_tmp e1) H.glob.f (hK _ _ trivial rfl (H.glob.keep rfl))
      case o1 =>
        intro L vs A W H hf hd K hK
        have e1 : A.tmps[1]?.getD undef = .pointer (some ⟨b1, 0, none⟩) := H.old 1 (by kernel_rfl)
        exact wp_load_nd (.tmp 1) rfl b1 m (ev_tmp e1) H.glob.f (hK _ _ trivial rfl (H.glob.keep rfl))
      case o2 =>
        intro L vs A W H hf hd K hK
        have e9 := H.is 1 9 rfl rfl rfl (deps_of' hd 1 (by kernel_rfl)) (by kernel_rfl)
        have HL := Lib.hid (HMay.out W)
        go_simp
        refine HL.out.mono ?_
        rintro e w' ⟨rfl, hB⟩
        go_simp
        exact hK _ _ trivial rfl (H.glob.below hB rfl)
      case o3 =>
        intro L vs A W H hf hd K hK
        have e10 := H.is 2 10 rfl rfl rfl (deps_of' hd 2 (by kernel_rfl)) (by kernel_rfl)
        go_simp
        exact hK _ _ (trivial) rfl (H.glob.keep rfl)
      case o4 =>
        intro L vs A W H hf hd K hK
        have e11 := H.is 3 11 rfl rfl rfl (deps_of' hd 3 (by kernel_rfl)) (by kernel_rfl)
        refine if_wanted (j := 3) (s := 11) rfl rfl rfl e11 rfl ?_
        have e1 : A.tmps[1]?.getD undef = .pointer (some ⟨b1, 0, none⟩) := H.old 1 (by kernel_rfl)
        exact wp_load_nd (.tmp 1) rfl b1 m (ev_tmp e1) H.glob.f (hK _ _ trivial rfl (H.glob.keep rfl))
      case o5 =>
        intro L vs A W H hf hd K hK
        have e11 := H.is 3 11 rfl rfl rfl (deps_of' hd 3 (by kernel_rfl)) (by kernel_rfl)
        refine if_wanted (j := 3) (s := 11) rfl rfl rfl e11 rfl ?_
        have e12 := H.is 4 12 rfl rfl rfl (deps_of' hd 4 (by kernel_rfl)) (by kernel_rfl)
        have HL := Lib.hid (HInv.out W)
        go_simp
        refine HL.out.mono ?_
        rintro e w' ⟨rfl, hB⟩
        go_simp
        exact hK _ _ trivial rfl (H.glob.below hB rfl)
      case o6 =>
        intro L vs A W H hf hd K hK
        have e11 := H.is 3 11 rfl rfl rfl (deps_of' hd 3 (by kernel_rfl)) (by kernel_rfl)
        refine if_wanted (j := 3) (s := 11) rfl rfl rfl e11 rfl ?_
        have e13 := H.is 5 13 rfl rfl rfl (deps_of' hd 5 (by kernel_rfl)) (by kernel_rfl)
        go_simp
        exact hK _ _ (trivial) rfl (H.glob.keep rfl)
      case o7 =>
        intro L vs A W H hf hd K hK
        have e11 := H.is 3 11 rfl rfl rfl (deps_of' hd 3 (by kernel_rfl)) (by kernel_rfl)
        have e14 := H.is 6 14 rfl rfl rfl (deps_of' hd 6 (by kernel_rfl)) (by kernel_rfl)
        go_simp
        exact hK _ _ (trivial) rfl (H.glob.keep rfl)
      case o8 =>
        intro L vs A W H hf hd K hK
        have e2 : A.tmps[2]?.getD undef = .pointer (some ⟨b2, 0, none⟩) := H.old 2 (by kernel_rfl)
        have e8 := H.is 0 8 rfl rfl rfl (deps_of' hd 0 (by kernel_rfl)) (by kernel_rfl)
        exact wp_store_nd (.tmp 2) (.tmp 8) rfl b2 m nd0 (ev_tmp e2) (ev_tmp e8) (by have := H.glob.r; rwa [if_neg (by rw [hf]; decide)] at this) (hK undef _ trivial trivial H.glob.store)
      case o9 =>
        intro L vs A W H hf hd K hK
        have e15 := H.is 7 15 rfl rfl rfl (deps_of' hd 7 (by kernel_rfl)) (by kernel_rfl)
        go_simp
        exact hK _ _ (trivial) rfl (H.glob.keep rfl)
      case he =>
        intro vs W hlen hv
        match vs, hlen, hv with
        | [x0_, x1_, x2_, x3_, x4_, x5_, x6_, x7_, x8_, x9_], _, hv =>
        obtain rfl : (.agg (ndCells m)) = x0_ := by obtain ⟨z, h1, h2⟩ := hv 0 _ rfl; cases h1; exact h2.symm
        obtain rfl : (.agg (ndCells m)) = x1_ := by obtain ⟨z, h1, h2⟩ := hv 1 _ rfl; cases h1; exact h2.symm
        obtain rfl : (.bool true) = x2_ := by obtain ⟨z, h1, h2⟩ := hv 2 _ rfl; cases h1; exact h2.symm
        obtain rfl : (.bool true) = x3_ := by obtain ⟨z, h1, h2⟩ := hv 3 _ rfl; cases h1; exact h2.symm
        obtain rfl : (.agg (ndCells m)) = x4_ := by obtain ⟨z, h1, h2⟩ := hv 4 _ rfl; cases h1; exact h2.symm
        obtain rfl : (.int .i64 iv) = x5_ := by obtain ⟨z, h1, h2⟩ := hv 5 _ rfl; cases h1; exact h2.symm
        obtain rfl : (.bool (decide (iv < 0))) = x6_ := by obtain ⟨z, h1, h2⟩ := hv 6 _ rfl; cases h1; exact h2.symm
        obtain rfl : (.bool (decide (iv < 0))) = x7_ := by obtain ⟨z, h1, h2⟩ := hv 7 _ rfl; cases h1; exact h2.symm
        obtain rfl : (.bool (decide (iv < 0))) = x9_ := by obtain ⟨z, h1, h2⟩ := hv 9 _ rfl; cases h1; exact h2.symm
        intro L hall hG
        clear hv hlen
        have HG := Lib.hid hG
        have H8 := Lib.hid (hall 8 (by decide))
        clear hG hall
        simp only [fill, if_true]
      --END
        simp [Act.put]
        go_wp2_with (fail)
        have hr := HG.out.r
        rw [if_pos H8.out] at hr
        (try simp only [Exit.inBlock, Exit.then])
        refine bodyPost_ret (results_nd (fn := Try.f17) rfl _ b2 m rfl hr) rfl ?_
        rw [HRn.out, HRb.out]
        exact ⟨by rw [Bool.true_and]; rfl, HG.out.b⟩
    | false =>
      --GEN r_rt3f
      refine wp_region_vals [Is (.agg (ndCells m)), Is (.agg (ndCells m)), Is (.bool false), Is (.bool false), Any, Any, Any, Is (.bool false), Any, Is (.bool false)]
        (fun _ _ _ => True) (fun L W => RtW w b1 b2 m L W) (by kernel_rfl) (by kernel_rfl) (by kernel_rfl) ?hst ?h0 ⟨?o0, ?o1, ?o2, ?o3, ?o4, ?o5, ?o6, ?o7, ?o8, ?o9, trivial⟩ ?he
      case hst =>
        exact ⟨(fun _ _ _ _ _ _ h _ => h), (fun _ _ _ _ _ _ h _ => h), (fun _ _ _ _ _ _ h _ => h), (fun _ _ _ _ _ _ h _ => h), (fun _ _ _ _ _ _ h _ => h), (fun _ _ _ _ _ _ h _ => h), (fun _ _ _ _ _ _ h _ => h), (fun _ _ _ _ _ _ h _ => h), (fun _ _ _ _ _ _ h _ => h), (fun _ _ _ _ _ _ h _ => h), trivial⟩
      case h0 =>
        exact HT3.out.rt
      case o0 =>
        intro L vs A W H hf hd K hK
        have e1 : A.tmps[1]?.getD undef = .pointer (some ⟨b1, 0, none⟩) := H.old 1 (by kernel_rfl)
        exact wp_load_nd (.tmp 1) rfl b1 m (ev_tmp e1) H.glob.f (hK _ _ trivial rfl (H.glob.keep rfl))
      case o1 =>
        intro L vs A W H hf hd K hK
        have e1 : A.tmps[1]?.getD undef = .pointer (some ⟨b1, 0, none⟩) := H.old 1 (by kernel_rfl)
        exact wp_load_nd (.tmp 1) rfl b1 m (ev_tmp e1) H.glob.f (hK _ _ trivial rfl (H.glob.keep rfl))
      case o2 =>
        intro L vs A W H hf hd K hK
        have e9 := H.is 1 9 rfl rfl rfl (deps_of' hd 1 (by kernel_rfl)) (by kernel_rfl)
        have HL := Lib.hid (HMay.out W)
        go_simp
        refine HL.out.mono ?_
        rintro e w' ⟨rfl, hB⟩
        go_simp
        exact hK _ _ trivial rfl (H.glob.below hB rfl)
      case o3 =>
        intro L vs A W H hf hd K hK
        have e10 := H.is 2 10 rfl rfl rfl (deps_of' hd 2 (by kernel_rfl)) (by kernel_rfl)
        go_simp
        exact hK _ _ (trivial) rfl (H.glob.keep rfl)
      case o4 =>
        intro L vs A W H hf hd K hK
        have e11 := H.is 3 11 rfl rfl rfl (deps_of' hd 3 (by kernel_rfl)) (by kernel_rfl)
        refine if_unwanted (j := 3) (s := 11) rfl rfl rfl e11 rfl ?_
        exact hK _ _ (trivial) trivial (H.glob.keep rfl)
      case o5 =>
        intro L vs A W H hf hd K hK
        have e11 := H.is 3 11 rfl rfl rfl (deps_of' hd 3 (by kernel_rfl)) (by kernel_rfl)
        refine if_unwanted (j := 3) (s := 11) rfl rfl rfl e11 rfl ?_
        exact hK _ _ (trivial) trivial (H.glob.keep rfl)
      case o6 =>
        intro L vs A W H hf hd K hK
        have e11 := H.is 3 11 rfl rfl rfl (deps_of' hd 3 (by kernel_rfl)) (by kernel_rfl)
        refine if_unwanted (j := 3) (s := 11) rfl rfl rfl e11 rfl ?_
        exact hK _ _ (trivial) trivial (H.glob.keep rfl)
      case o7 =>
        intro L vs A W H hf hd K hK
        have e11 := H.is 3 11 rfl rfl rfl (deps_of' hd 3 (by kernel_rfl)) (by kernel_rfl)
        obtain ⟨v14, e14, q14⟩ := H.val 6 14 rfl rfl rfl (deps_of' hd 6 (by kernel_rfl)) (by kernel_rfl)
        go_simp
        exact hK _ _ (trivial) rfl (H.glob.keep rfl)
      case o8 =>
        intro L vs A W H hf hd K hK
        have e2 : A.tmps[2]?.getD undef = .pointer (some ⟨b2, 0, none⟩) := H.old 2 (by kernel_rfl)
        have e8 := H.is 0 8 rfl rfl rfl (deps_of' hd 0 (by kernel_rfl)) (by kernel_rfl)
        exact wp_store_nd (.tmp 2) (.tmp 8) rfl b2 m nd0 (ev_tmp e2) (ev_tmp e8) (by have := H.glob.r; rwa [if_neg (by rw [hf]; decide)] at this) (hK undef _ trivial trivial H.glob.store)
      case o9 =>
        intro L vs A W H hf hd K hK
        have e15 := H.is 7 15 rfl rfl rfl (deps_of' hd 7 (by kernel_rfl)) (by kernel_rfl)
        go_simp
        exact hK _ _ (trivial) rfl (H.glob.keep rfl)
      case he =>
        intro vs W hlen hv
        match vs, hlen, hv with
        | [x0_, x1_, x2_, x3_, x4_, x5_, x6_, x7_, x8_, x9_], _, hv =>
        obtain rfl : (.agg (ndCells m)) = x0_ := by obtain ⟨z, h1, h2⟩ := hv 0 _ rfl; cases h1; exact h2.symm
        obtain rfl : (.agg (ndCells m)) = x1_ := by obtain ⟨z, h1, h2⟩ := hv 1 _ rfl; cases h1; exact h2.symm
        obtain rfl : (.bool false) = x2_ := by obtain ⟨z, h1, h2⟩ := hv 2 _ rfl; cases h1; exact h2.symm
        obtain rfl : (.bool false) = x3_ := by obtain ⟨z, h1, h2⟩ := hv 3 _ rfl; cases h1; exact h2.symm
        obtain rfl : (.bool false) = x7_ := by obtain ⟨z, h1, h2⟩ := hv 7 _ rfl; cases h1; exact h2.symm
        obtain rfl : (.bool false) = x9_ := by obtain ⟨z, h1, h2⟩ := hv 9 _ rfl; cases h1; exact h2.symm
        intro L hall hG
        clear hv hlen
        have HG := Lib.hid hG
        have H8 := Lib.hid (hall 8 (by decide))
        clear hG hall
        simp only [fill, if_true]
      --END
        simp [Act.put]
        go_wp2_with (fail)
        have hr := HG.out.r
        rw [if_pos H8.out] at hr
        (try simp only [Exit.inBlock, Exit.then])
        refine bodyPost_ret (results_nd (fn := Try.f17) rfl _ b2 m rfl hr) rfl ?_
        rw [HRn.out, HRb.out]
        exact ⟨by rw [Bool.false_and]; rfl, HG.out.b⟩
end Go.Proofs.Ytgmbnoimlffgcaa
namespace Go.Proofs.Ytgmbnoimlffgcaa
open Go.RowKit
attribute [local go_sem] Oper.semAt_some
set_option linter.unusedVariables false

/-! ### plain -/
theorem may_lv {m : Nd} (h : rightB m = true) : ¬ (m.lv < 0 ∨ 15 < m.lv) := by
  unfold rightB Nd.mayB at h
  simp only [Bool.and_eq_true, Bool.not_eq_true', Bool.or_eq_false_iff, decide_eq_false_iff_not] at h
  have := h.1.1.1.1.1
  omega
theorem rightN_nx (n : Nd) : (rightN n).nx = 0 ∨ (rightN n).nx = 1280 := by
  unfold rightN
  split
  · rename_i h; exact .inl h
  · exact .inr rfl
theorem rightN_wf {n : Nd} (h : n.Wf) : (rightN n).Wf := by
  unfold rightN
  split
  · exact h
  · exact ⟨h.lv, h.lo, (show (Lit.int .u64 1280).wf = true by decide), h.ct, h.fi, h.k, h.p⟩
theorem alone_over {sb : Nat} {vs : List Int} {er low : Int} {s : Sn} {m : Nd} (hl : vs.length = 512) (hv : ∀ i, i < 24 → vs.getD (136 + i) 0 = wordsF m i) (hs : ∀ i, i < 24 → vs.getD (160 + i) 0 = wordsF (sideN low) i) (hlv : ¬ (m.lv < 0 ∨ 15 < m.lv)) (hnx : m.nx = 0 ∨ m.nx = 1280)
    (h : SnD sb vs 1088 er s) : er = 0 ∧ ndCells (trimN s.found) = ndCells (trimN m) ∧ s.has = decide (m.nx ≠ 0) ∧ (m.nx ≠ 0 → s.high = low) := by
  have hW : ∀ i, i < 24 → wdM vs 1088 i = fullW m i := fun i hi => by
    rw [(wdM_at hl i hi).1, hv i hi]
    unfold wordsF
    rw [if_neg hlv]
    exact if_pos (by omega)
  have hE : ∀ i, i < 24 → erM vs 1088 i = 0 := fun i hi => (wdM_at hl i hi).2
  have h2 : wdM vs 1088 2 = m.nx := hW 2 (by decide)
  have hb1 : m.nx ≠ 0 → atE vs.length (wrdA m.nx 1) = 0 ∧ ldW vs (wrdA m.nx 1) = low := fun hz => by
    have e : m.nx = 1280 := hnx.resolve_left hz
    have e1 : wrdA m.nx 1 = 1288 := by rw [e]; decide
    have e2 : atE vs.length 1288 = 0 := by rw [hl]; decide
    rw [e1]
    refine ⟨e2, ?_⟩
    unfold ldW
    rw [e2, if_pos rfl]
    exact (hs 1 (by decide)).trans rfl
  rcases h.res with ⟨_, h3 | ⟨j, _, hj, h3⟩ | ⟨h3, h4⟩⟩ | ⟨he, hf, hh, hhi⟩
  · rw [hE 3 (by decide)] at h3; cases h3
  · rw [hE j hj] at h3; cases h3
  · rw [h2] at h3 h4; rw [(hb1 h3).1] at h4; cases h4
  · have hb : ofBad (rdW (wdM vs 1088) 24) = false := by
      have e0 : rdW (wdM vs 1088) 24 0 = tagM + m.lv := (rdW_at ((pthB_iff _ 0).2 (.inl (by decide))) (by decide)).trans (hW 0 (by decide))
      unfold ofBad
      rw [e0, decide_eq_false (by omega), decide_eq_false (by omega)]; rfl
    have ho : ofV (rdW (wdM vs 1088) 24) = (nTo (rdW (wdM vs 1088) 24) 8, 0) := by unfold ofV; rw [hb]; rfl
    rw [ho] at he hf
    refine ⟨he, ?_, by rw [hh, h2], fun hz => ?_⟩
    · rw [hf, trim_read]
      have hk : ∀ i, i < 8 → (nTo (wdM vs 1088) 8).k i = m.k i := fun i hi => by
        show (if i < 8 then wdM vs 1088 (8 + 2 * i) else 0) = m.k i
        rw [if_pos hi, hW _ (by omega)]
        unfold fullW
        rw [if_neg (by omega), if_neg (by omega), if_neg (by omega), if_neg (by omega), if_neg (by omega), if_neg (by omega), if_pos (by omega)]
        congr 1; omega
      have hp : ∀ i, i < 8 → (nTo (wdM vs 1088) 8).p i = m.p i := fun i hi => by
        show (if i < 8 then wdM vs 1088 (9 + 2 * i) else 0) = m.p i
        rw [if_pos hi, hW _ (by omega)]
        unfold fullW
        rw [if_neg (by omega), if_neg (by omega), if_neg (by omega), if_neg (by omega), if_neg (by omega), if_neg (by omega), if_neg (by omega)]
        congr 1; omega
      have hm8 := m.len_le
      have hlen : (nTo (wdM vs 1088) 8).len = m.len := len_unique (fun j hj => hp j (by omega)) (fun h => by rw [hp _ h]; exact m.p_len h)
      have hl8 : (nTo (wdM vs 1088) 8).len ≤ 8 := Nd.len_le _
      refine trim_same ?_ (hW 1 (by decide)) (hW 2 (by decide)) (hW 3 (by decide)) (hW 4 (by decide)) hlen (fun i hi => hk i (by omega)) (fun i hi => hp i (by omega))
      show wdM vs 1088 0 - tagM = m.lv
      rw [hW 0 (by decide)]
      show tagM + m.lv - tagM = m.lv
      omega
    · have := hhi (by rw [h2]; exact hz)
      rw [h2] at this
      rw [this]; exact (hb1 hz).2
set_option maxRecDepth 100000 in
set_option maxHeartbeats 40000000 in
theorem alone_v (n : Nd) (hw : n.Wf) (low : Int) (hl0 : 0 ≤ low) (hl1 : low ≤ 18446744073709551615) (w : World) :
    Calls Try.prog 4 #[.agg (ndCells n), .int .u64 low] w fun e w' => e = .returned (.bool true) ∧ Below w.heap.size w w' := by
  have hwm := rightN_wf hw
  have hnx := rightN_nx n
  have HRt := Lib.hid (fun W => right_v n W)
  obtain ⟨m, hm⟩ : ∃ m, rightN n = m := ⟨_, rfl⟩
  rw [hm] at hwm hnx HRt
  obtain ⟨ib, hib⟩ : ∃ ib, rightB m = ib := ⟨_, rfl⟩
  rw [hib] at HRt
  have HLa := Lib.hid (fun W => laid_v m hwm.lv (fun i => wordsF_rng hwm i) low hl0 hl1 W)
  have HIb := Lib.hid hib
  have HNx := Lib.hid hnx
  have hb0 : Blk (w.alloc (.cells (ndCells n) 40)) w.heap.size (ndCells n) 40 := Blk.new w _ _
  have hB0 : Below w.heap.size w (w.alloc (.cells (ndCells n) 40)) := (Below.refl _ w).alloc (Nat.le_refl _) _
  obtain ⟨b, hb⟩ : ∃ b, w.heap.size = b := ⟨_, rfl⟩
  rw [hb] at hb0 hB0
  have HBE := Lib.hid hb
  have HB0 := Lib.hid hb0
  have HK0 := Lib.hid hB0
  have HL0 := Lib.hid (ndLoad hb0)
  clear hm hib hwm hnx hw hl0 hl1 hb0 hB0
  go_enter Try.func4, Try.ntmps4
  rw [hb]
  clear hb
  go_upto_region 1 with (fail)
  rw [HBE.out]
  generalize w.alloc (.cells (ndCells n) 40) = w0 at *
  go_wp2_with ((with_reducible refine wpList_load_part (o := ⟨some 18, .load 40 (.tmp 2), _, _, _, _⟩) ?hg 40 (.tmp 2) ?ho b 0 ?hx (ndCells n) ?dd ?hc ?hu ?hd ?hi ?_); (case hg => rfl); (case ho => rfl); (case hx => rfl); (case hc => exact HL0.out); (case hu => exact Try.underlying40); (case hd => rfl); (case hi => exact info27 n))
  refine (HRt.out w0).mono ?_
  rintro e w1 ⟨rfl, hB1⟩
  have hb1 := HB0.out.kept (Keeps.of_below' hB1) (fun h => h)
  have hbr := hb1.row (ndCells m)
  have HB1 := Lib.hid hb1
  have hK1 : Below b w (w1.setRow b (ndCells m)) := below_setRow (HK0.out.trans (hB1.mono (by rw [← HBE.out]; exact HK0.out.size))) (Nat.le_refl _) _
  obtain ⟨w2, hw2⟩ : ∃ w2, w1.setRow b (ndCells m) = w2 := ⟨_, rfl⟩
  rw [hw2] at hbr hK1
  have HW2 := Lib.hid hw2
  have HM2 := Lib.hid hbr
  have HK2 := Lib.hid hK1
  have HL2 := Lib.hid (ndLoad hbr)
  clear hb1 hbr hK1 hw2 hB1 HL0 HB0 HK0 HRt
  go_upto_region 2 with ((with_reducible refine wpList_store_ndc (o := ⟨none, .store 40 (.tmp 2) (.tmp 20), _, _, _, _⟩) ?hgc (.tmp 2) (.tmp 20) ?hoc b (ndCells m) m n ?hxc ?hyc ?hbc ?hmc ?_); (case hgc => rfl); (case hoc => rfl); (case hxc => exact ev_tmp (by simp)); (case hyc => exact ev_tmp (by simp)); (case hmc => rfl); (case hbc => exact HB1.out); rw [HW2.out]; simp [Act.put])
  go_wp2_with ((with_reducible refine wpList_load_part (o := ⟨some 22, .load 40 (.tmp 2), _, _, _, _⟩) ?hg 40 (.tmp 2) ?ho b 0 ?hx (ndCells m) ?dd ?hc ?hu ?hd ?hi ?_); (case hg => rfl); (case ho => rfl); (case hx => rfl); (case hc => exact HL2.out); (case hu => exact Try.underlying40); (case hd => rfl); (case hi => exact info27 m))
  refine (HLa.out w2).mono ?_
  rintro e w5 ⟨mb, S, vs, rfl, hm5, hu5, hl5, hv5, hs5, hS5, hB5⟩
  have HM5 := Lib.hid hm5
  have HU5 := Lib.hid hu5
  have HL5 := Lib.hid hl5
  have HV5 := Lib.hid hv5
  have HSd := Lib.hid hs5
  have HS5 := Lib.hid (show ∀ i, S i → w2.heap.size ≤ i ∧ i < w5.heap.size from fun i hi => ⟨hS5 i hi, by obtain ⟨is, mk, F, hm⟩ := hm5; exact hm.lt hi⟩)
  have HBm := Lib.hid (HM2.out.kept (Keeps.of_below' hB5) (fun h => h))
  have HB5 := Lib.hid (HK2.out.trans (hB5.mono (by rw [← HBE.out]; exact HK2.out.size)))
  have HN4 := Lib.hid HM2.out.lt
  clear hm5 hu5 hl5 hv5 hs5 hS5 hB5 HLa HL2 HK2 HM2 HB1 HW2
  cases ib with
  | false =>
    have HKn := Lib.hid (known_v w5)
    go_wp2_with (fail)
    refine HKn.out.mono ?_
    rintro e w6 ⟨rfl, hB6⟩
    have HB6 := Lib.hid (HB5.out.trans (hB6.mono (by rw [← HBE.out]; exact HB5.out.size)))
    clear hB6
    go_wp2_with (fail)
    go_ret
    exact ⟨rfl, HB6.out⟩
  | true =>
    have HLv := Lib.hid (may_lv HIb.out)
    go_wp2_with (fail)
    refine (new_v (some ⟨mb, 0, none⟩) 1088 w5).mono ?_
    rintro e w8 ⟨rfl, hb8, hB8⟩
    obtain ⟨sb, hsb⟩ : ∃ sb, w5.heap.size = sb := ⟨_, rfl⟩
    rw [hsb] at hb8 ⊢
    have HS8 := Lib.hid (show ¬ S sb from fun h => by have := (HS5.out sb h).2; omega)
    have HX8 := Lib.hid (show ∀ i, (i = sb ∨ S i) → b < i ∧ i < w8.heap.size from fun i hi => by
      have h1 := HN4.out
      have h3 := hb8.lt
      rcases hi with rfl | hi
      · have h2 := HBm.out.lt; omega
      · have := HS5.out i hi; omega)
    have HI8 := Lib.hid (show SnA w8 sb mb S vs 1088 48 6 1 0 0 w8 from ⟨⟨_, hb8, SnI.new _ _ _ _⟩, by obtain ⟨is, mk, F, hm⟩ := HM5.out; exact ⟨is, mk, F, hm.below hB8⟩, Keeps.refl _ _⟩)
    have HM8 := Lib.hid (HBm.out.kept (Keeps.of_below' hB8) (fun h => h))
    have HB8 := Lib.hid (HB5.out.trans (hB8.mono (by rw [← HBE.out]; exact HB5.out.size)))
    clear hb8 hB8 hsb HM5 HBm
    go_wp2_with (fail)
    go_loopw [8] (fun iv wq => ∃ (j : Nat) (lo : Int), iv = .int .i64 j ∧ 0 ≤ lo ∧ lo ≤ j ∧ SnA w8 sb mb S vs 1088 48 6 1 j lo wq) (fun iv _ => 65 - (intOf iv).toNat)
    case atStart => exact ⟨0, 0, rfl, Int.le_refl _, Int.le_refl _, HI8.out⟩
    case round =>
      obtain ⟨j, lo, rfl, hlo0, hlo1, hI⟩ := hrel
      have hk42 : j ≤ 42 := by obtain ⟨⟨s, _, hs⟩, _, _⟩ := hI; exact hs.le
      have hkb : (j : Int) < 64 := by omega
      have HK42 := Lib.hid hk42
      have HLo := Lib.hid (And.intro hlo0 hlo1)
      have HI := Lib.hid hI
      have HSt := Lib.hid hI.stats
      unfold statCells at HSt
      clear hI hk42 hlo0 hlo1
      go_wp2_with (fail)
      refine HSt.out.mono ?_
      rintro e w9 ⟨rfl, hB9⟩
      obtain ⟨ab, hab⟩ : ∃ ab, w9.heap.size = ab := ⟨_, rfl⟩
      have hba : Blk (w9.alloc (.cells #[.int .u64 lo, .int .u64 48, .int .u64 6, .int .u64 1] 56)) ab #[.int .u64 lo, .int .u64 48, .int .u64 6, .int .u64 1] 56 := by rw [← hab]; exact Blk.new w9 _ _
      have hB10 : Below wr.heap.size wr (w9.alloc (.cells #[.int .u64 lo, .int .u64 48, .int .u64 6, .int .u64 1] 56)) := hB9.alloc hB9.size _
      have HAb := Lib.hid hab
      have HBA := Lib.hid hba
      have HB10 := Lib.hid hB10
      have HAn := Lib.hid (show ¬ (ab = sb ∨ S ab) from fun h => by
        have h1 := (HX8.out ab h).2
        have h2 := HI.out.k.size
        have h3 := hB9.size
        omega)
      clear hba hB10 hB9 HSt
      go_upto_region 12 with (fail)
      obtain ⟨w10, hw10⟩ : ∃ w10, w9.alloc (.cells #[.int .u64 lo, .int .u64 48, .int .u64 6, .int .u64 1] 56) = w10 := ⟨_, rfl⟩
      rw [hw10] at HBA HB10 ⊢
      clear hw10 hab
      have HSp := Lib.hid (step_a (HI.out.below HB10.out) HS8.out HU5.out HLo.out.1 (by have := HLo.out.2; have := HK42.out; omega))
      clear HI
      go_wp2_with (fail)
      refine HSp.out.mono ?_
      rintro e w11 ⟨⟨lo', hll, ⟨rfl, hI⟩ | ⟨er, rfl, hZ⟩⟩, hk11⟩
      · have HBA11 := Lib.hid (HBA.out.kept hk11 HAn.out)
        have HSt := Lib.hid hI.stats
        unfold statCells at HSt
        have HI := Lib.hid hI
        clear hI hk11 HSp
        go_wp2_with (fail)
        refine HSt.out.mono ?_
        rintro e w12 ⟨rfl, hB12⟩
        have hba := HBA11.out.kept (Keeps.of_below' hB12) (fun h => h)
        have hba2 := hba.alloc (.cells #[.int .u64 lo', .int .u64 48, .int .u64 6, .int .u64 1] 56)
        have HI13 := Lib.hid (HI.out.below (hB12.alloc hB12.size (.cells #[.int .u64 lo', .int .u64 48, .int .u64 6, .int .u64 1] 56)))
        have e0 := hba2.cell 0
        have e1 := hba2.cell 1
        have e2 := hba2.cell 2
        have e3 := hba2.cell 3
        have hlo := HLo.out
        have hdf : decide ((1 : Int) < IntKind.u64.wrap (lo' - lo)) = false := decide_eq_false (by
          rcases hll with rfl | rfl
          · rw [show lo' - lo' = 0 by omega]; decide
          · rw [show lo + 1 - lo = 1 by omega]; decide)
        have HL2 := Lib.hid (show 0 ≤ lo' ∧ lo' ≤ (j : Int) + 1 from by rcases hll with rfl | rfl <;> omega)
        clear hll hlo hB12 hba hba2 HI HSt
        go_wp2_with (fail)
        go_roundw
        case rel => exact ⟨j + 1, lo', by go_num, HL2.out.1, by have := HL2.out.2; omega, HI13.out⟩
        case measure => have := HK42.out; simp [intOf]; omega
      · have HBA11 := Lib.hid (HBA.out.kept hk11 HAn.out)
        have HSt := Lib.hid hZ.stats
        unfold statCells at HSt
        have HZ := Lib.hid hZ
        clear hZ hk11 HSp
        go_wp2_with (fail)
        refine HSt.out.mono ?_
        rintro e w12 ⟨rfl, hB12⟩
        have hba := HBA11.out.kept (Keeps.of_below' hB12) (fun h => h)
        have hba2 := hba.alloc (.cells #[.int .u64 lo', .int .u64 48, .int .u64 6, .int .u64 1] 56)
        have HZ13 := Lib.hid (HZ.out.below (hB12.alloc hB12.size (.cells #[.int .u64 lo', .int .u64 48, .int .u64 6, .int .u64 1] 56)))
        have e0 := hba2.cell 0
        have e1 := hba2.cell 1
        have e2 := hba2.cell 2
        have e3 := hba2.cell 3
        have hdf : decide ((1 : Int) < IntKind.u64.wrap (lo' - lo)) = false := decide_eq_false (by
          rcases hll with rfl | rfl
          · rw [show lo' - lo' = 0 by omega]; decide
          · rw [show lo + 1 - lo = 1 by omega]; decide)
        obtain ⟨⟨s, hb13, hD⟩, hm13, hk13⟩ := HZ13.out
        obtain ⟨hz, hft, hha, hhi⟩ := alone_over HL5.out HV5.out HSd.out HLv.out HNx.out hD
        subst hz
        obtain ⟨f, hf⟩ := hD.step
        have hnp : nodeP s = (s.found, 0) := by unfold nodeP; rw [hD.over, if_neg (by decide), hD.e, if_neg (fun h => h rfl)]
        obtain ⟨w13, hw13⟩ : ∃ w13, w12.alloc (.cells #[.int .u64 lo', .int .u64 48, .int .u64 6, .int .u64 1] 56) = w13 := ⟨_, rfl⟩
        have HW13 := Lib.hid hw13
        rw [hw13] at hb13 hk13
        obtain ⟨x1, hx1⟩ : ∃ x1, s.found = x1 := ⟨_, rfl⟩
        have HNo := Lib.hid (show Calls Try.prog 12 #[.pointer (some ⟨sb, 0, none⟩)] w13 fun e w' => e = .returned (.tuple #[.agg (ndCells x1), .int .i64 0]) ∧ Below w13.heap.size w13 w' from by
          have := node_v s sb f w13 hb13 hf
          rw [hnp, hx1] at this
          exact this)
        have HHi := Lib.hid (show ∀ W, Below w13.heap.size w13 W → Calls Try.prog 13 #[.pointer (some ⟨sb, 0, none⟩)] W fun e w' => e = .returned (.tuple #[.int .u64 (highP s).1, .bool (highP s).2]) ∧ Below W.heap.size W w' from fun W hB => high_v s sb f W (hb13.kept (Keeps.of_below' hB) (fun h => h)) hf)
        have HHP := Lib.hid (show highP s = if s.has = true then (s.high, true) else (0, false) from by unfold highP; rw [hnp, if_pos rfl])
        have HHa := Lib.hid hha
        have HHh := Lib.hid hhi
        obtain ⟨tx, htx⟩ : ∃ tx, trimN x1 = tx := ⟨_, rfl⟩
        rw [hx1] at hft
        have HTx := Lib.hid (show ∀ W, Calls Try.prog 16 #[.agg (ndCells x1)] W fun e w' => e = .returned (.agg (ndCells tx)) ∧ Below W.heap.size W w' from fun W => by rw [← htx]; exact trim_v x1 W)
        have HTm := Lib.hid (show ∀ W, Calls Try.prog 16 #[.agg (ndCells m)] W fun e w' => e = .returned (.agg (ndCells tx)) ∧ Below W.heap.size W w' from fun W => by rw [← htx, hft]; exact trim_v m W)
        have HM13 := Lib.hid (HM8.out.kept hk13 (fun h => by have := (HX8.out b h).1; omega))
        have HB13 := Lib.hid (show Below b w w13 from HB8.out.trans ⟨hk13.os, hk13.tape, hk13.output, hk13.size, fun i hi => hk13.block i (Nat.lt_of_lt_of_le hi (by rw [← HBE.out]; exact HB8.out.size)) (fun h => by have := (HX8.out i h).1; omega)⟩)
        clear hb13 hk13 hm13 hD hnp hf hft htx hha hhi hx1 hw13 hll hB12 hba hba2 HZ13 HZ HSt HBA HBA11
        go_upto_region 17 with (fail)
        rw [HW13.out]
        clear e0 e1 e2 e3 hdf
        go_wp2_with (fail)
        refine HNo.out.mono ?_
        rintro e w14 ⟨rfl, hB14⟩
        have hz := Blk.new w14 (ndCells nd0) 40
        have hzr := hz.row (ndCells x1)
        have k15 : Below w13.heap.size w13 ((w14.alloc (.cells (ndCells nd0) 40)).setRow w14.heap.size (ndCells x1)) := below_setRow (hB14.alloc hB14.size _) hB14.size _
        obtain ⟨xb, hxb⟩ : ∃ xb, w14.heap.size = xb := ⟨_, rfl⟩
        rw [hxb] at hz hzr k15
        have HXb := Lib.hid hxb
        have HZb := Lib.hid hz
        obtain ⟨w15, hw15⟩ : ∃ w15, (w14.alloc (.cells (ndCells nd0) 40)).setRow xb (ndCells x1) = w15 := ⟨_, rfl⟩
        have HW15 := Lib.hid hw15
        rw [hw15] at hzr k15
        have HX15 := Lib.hid hzr
        have HM15 := Lib.hid (HM13.out.kept (Keeps.of_below' k15) (fun h => h))
        have HK15 := Lib.hid k15
        have HB15 := Lib.hid (HB13.out.trans (k15.mono (by rw [← HBE.out]; exact HB13.out.size)))
        clear hz hzr hxb hw15 k15 hB14 HNo
        go_upto_region 18 with (first
          | ((with_reducible refine wpList_alloc_ndAt (o := ⟨some 13, _, _, _, _, _⟩) rfl rfl xb ?hz ?_); (case hz => exact HXb.out))
          | ((with_reducible refine wpList_store_ndc (o := ⟨none, .store 40 (.tmp 13) (.tmp 78), _, _, _, _⟩) ?hgc (.tmp 13) (.tmp 78) ?hoc xb (ndCells x1) x1 nd0 ?hxc ?hyc ?hbc ?hmc ?_); (case hgc => rfl); (case hoc => rfl); (case hxc => exact ev_tmp (by simp [Act.put])); (case hyc => exact ev_tmp (by simp [Act.put])); (case hmc => rfl); (case hbc => exact HZb.out); rw [HW15.out]; simp [Act.put]))
        obtain ⟨nx, hnx⟩ : ∃ nx, m.nx = nx := ⟨_, rfl⟩
        have Hnx := Lib.hid hnx
        by_cases hz : nx = 0
        · have hh := HHi.out w15 HK15.out
          rw [HHP.out, HHa.out, hnx, decide_eq_false (fun h => h hz), if_neg (by decide)] at hh
          have Hnb := Lib.hid (show (nx != 0) = false by rw [hz]; rfl)
          have HH := Lib.hid hh
          clear hh hz hnx HHi HHP HHa HHh
          go_wp2_with (fail)
          refine HH.out.mono ?_
          rintro e W8 ⟨rfl, hB16⟩
          have HX8 := Lib.hid (HX15.out.kept (Keeps.of_below' hB16) (fun h => h))
          have HM8 := Lib.hid (HM15.out.kept (Keeps.of_below' hB16) (fun h => h))
          have HB8 := Lib.hid (HB15.out.trans (hB16.mono (by rw [← HBE.out]; exact HB15.out.size)))
          clear hB16 HX15 HM15
          go_wp2_with (fail)
          --GEN r_al19f
          refine wp_region_vals [Is (.int .i64 0), Is (.bool true), Is (.bool true), Is (.agg (ndCells x1)), Is (.agg (ndCells tx)), Is (.agg (ndCells m)), Is (.agg (ndCells tx)), Is (.bool true), Is (.bool true), Is (.bool true), Is (.bool false), Is (.pointer (some ⟨b, 2, none⟩)), Is (.int .u64 nx), Is (.bool false), Is (.bool true), Is (.bool true), Is (.bool true), Is (.bool false), Is (.bool true), Is (.bool true), Any, Any, Any, Is (.bool true), Is (.bool true), Is (.bool true), Is (.bool true), Is (.bool true), Is (.bool true)]
            (fun _ _ _ => True) (fun _ W => Below W8.heap.size W8 W) (by kernel_rfl) (by kernel_rfl) (by kernel_rfl) ?hst ?h0 ⟨?o0, ?o1, ?o2, ?o3, ?o4, ?o5, ?o6, ?o7, ?o8, ?o9, ?o10, ?o11, ?o12, ?o13, ?o14, ?o15, ?o16, ?o17, ?o18, ?o19, ?o20, ?o21, ?o22, ?o23, ?o24, ?o25, ?o26, ?o27, ?o28, trivial⟩ ?he
          case hst =>
            exact ⟨(fun _ _ _ _ _ _ h _ => h), (fun _ _ _ _ _ _ h _ => h), (fun _ _ _ _ _ _ h _ => h), (fun _ _ _ _ _ _ h _ => h), (fun _ _ _ _ _ _ h _ => h), (fun _ _ _ _ _ _ h _ => h), (fun _ _ _ _ _ _ h _ => h), (fun _ _ _ _ _ _ h _ => h), (fun _ _ _ _ _ _ h _ => h), (fun _ _ _ _ _ _ h _ => h), (fun _ _ _ _ _ _ h _ => h), (fun _ _ _ _ _ _ h _ => h), (fun _ _ _ _ _ _ h _ => h), (fun _ _ _ _ _ _ h _ => h), (fun _ _ _ _ _ _ h _ => h), (fun _ _ _ _ _ _ h _ => h), (fun _ _ _ _ _ _ h _ => h), (fun _ _ _ _ _ _ h _ => h), (fun _ _ _ _ _ _ h _ => h), (fun _ _ _ _ _ _ h _ => h), (fun _ _ _ _ _ _ h _ => h), (fun _ _ _ _ _ _ h _ => h), (fun _ _ _ _ _ _ h _ => h), (fun _ _ _ _ _ _ h _ => h), (fun _ _ _ _ _ _ h _ => h), (fun _ _ _ _ _ _ h _ => h), (fun _ _ _ _ _ _ h _ => h), (fun _ _ _ _ _ _ h _ => h), (fun _ _ _ _ _ _ h _ => h), trivial⟩
          case h0 =>
            exact (Below.refl _ W8).drew
          case o0 =>
            intro L vs A W H hf hd K hK
            have e14 : A.tmps[14]?.getD undef = .int .i64 0 := H.old 14 (by kernel_rfl)
            go_simp
            exact hK _ _ (trivial) rfl (H.glob)
          case o1 =>
            intro L vs A W H hf hd K hK
            have e85 := H.is 0 85 rfl rfl rfl (deps_of' hd 0 (by kernel_rfl)) (by kernel_rfl)
            go_simp
            exact hK _ _ (trivial) rfl (H.glob)
          case o2 =>
            intro L vs A W H hf hd K hK
            have e86 := H.is 1 86 rfl rfl rfl (deps_of' hd 1 (by kernel_rfl)) (by kernel_rfl)
            go_simp
            exact hK _ _ (trivial) rfl (H.glob)
          case o3 =>
            intro L vs A W H hf hd K hK
            have e87 := H.is 2 87 rfl rfl rfl (deps_of' hd 2 (by kernel_rfl)) (by kernel_rfl)
            refine if_wanted (j := 2) (s := 87) rfl rfl rfl e87 rfl ?_
            have e13 : A.tmps[13]?.getD undef = .pointer (some ⟨xb, 0, none⟩) := H.old 13 (by kernel_rfl)
            exact wp_load_nd (.tmp 13) rfl xb x1 (ev_tmp e13) (HX8.out.kept (Keeps.of_below' H.glob) (fun h => h)) (hK _ _ trivial rfl H.glob)
          case o4 =>
            intro L vs A W H hf hd K hK
            have e87 := H.is 2 87 rfl rfl rfl (deps_of' hd 2 (by kernel_rfl)) (by kernel_rfl)
            refine if_wanted (j := 2) (s := 87) rfl rfl rfl e87 rfl ?_
            have e88 := H.is 3 88 rfl rfl rfl (deps_of' hd 3 (by kernel_rfl)) (by kernel_rfl)
            have HL := Lib.hid (HTx.out W)
            go_simp
            refine HL.out.mono ?_
            rintro e w' ⟨rfl, hB⟩
            go_simp
            exact hK _ _ trivial rfl (H.glob.trans (hB.mono H.glob.size))
          case o5 =>
            intro L vs A W H hf hd K hK
            have e87 := H.is 2 87 rfl rfl rfl (deps_of' hd 2 (by kernel_rfl)) (by kernel_rfl)
            refine if_wanted (j := 2) (s := 87) rfl rfl rfl e87 rfl ?_
            have e2 : A.tmps[2]?.getD undef = .pointer (some ⟨b, 0, none⟩) := H.old 2 (by kernel_rfl)
            exact wp_load_nd (.tmp 2) rfl b m (ev_tmp e2) (HM8.out.kept (Keeps.of_below' H.glob) (fun h => h)) (hK _ _ trivial rfl H.glob)
          case o6 =>
            intro L vs A W H hf hd K hK
            have e87 := H.is 2 87 rfl rfl rfl (deps_of' hd 2 (by kernel_rfl)) (by kernel_rfl)
            refine if_wanted (j := 2) (s := 87) rfl rfl rfl e87 rfl ?_
            have e90 := H.is 5 90 rfl rfl rfl (deps_of' hd 5 (by kernel_rfl)) (by kernel_rfl)
            have HL := Lib.hid (HTm.out W)
            go_simp
            refine HL.out.mono ?_
            rintro e w' ⟨rfl, hB⟩
            go_simp
            exact hK _ _ trivial rfl (H.glob.trans (hB.mono H.glob.size))
          case o7 =>
            intro L vs A W H hf hd K hK
            have e87 := H.is 2 87 rfl rfl rfl (deps_of' hd 2 (by kernel_rfl)) (by kernel_rfl)
            refine if_wanted (j := 2) (s := 87) rfl rfl rfl e87 rfl ?_
            have e89 := H.is 4 89 rfl rfl rfl (deps_of' hd 4 (by kernel_rfl)) (by kernel_rfl)
            have e91 := H.is 6 91 rfl rfl rfl (deps_of' hd 6 (by kernel_rfl)) (by kernel_rfl)
            exact wp_eq_nd _ 89 91 _ _ _ _ tx e89 e91 (hK _ _ trivial rfl H.glob)
          case o8 =>
            intro L vs A W H hf hd K hK
            have e87 := H.is 2 87 rfl rfl rfl (deps_of' hd 2 (by kernel_rfl)) (by kernel_rfl)
            have e92 := H.is 7 92 rfl rfl rfl (deps_of' hd 7 (by kernel_rfl)) (by kernel_rfl)
            go_simp
            exact hK _ _ (trivial) rfl (H.glob)
          case o9 =>
            intro L vs A W H hf hd K hK
            have e93 := H.is 8 93 rfl rfl rfl (deps_of' hd 8 (by kernel_rfl)) (by kernel_rfl)
            go_simp
            exact hK _ _ (trivial) rfl (H.glob)
          case o10 =>
            intro L vs A W H hf hd K hK
            have e94 := H.is 9 94 rfl rfl rfl (deps_of' hd 9 (by kernel_rfl)) (by kernel_rfl)
            refine if_wanted (j := 9) (s := 94) rfl rfl rfl e94 rfl ?_
            have e16 : A.tmps[16]?.getD undef = .bool false := H.old 16 (by kernel_rfl)
            go_simp
            exact hK _ _ (trivial) rfl (H.glob)
          case o11 =>
            intro L vs A W H hf hd K hK
            have e94 := H.is 9 94 rfl rfl rfl (deps_of' hd 9 (by kernel_rfl)) (by kernel_rfl)
            refine if_wanted (j := 9) (s := 94) rfl rfl rfl e94 rfl ?_
            have e2 : A.tmps[2]?.getD undef = .pointer (some ⟨b, 0, none⟩) := H.old 2 (by kernel_rfl)
            go_simp
            exact hK _ _ (trivial) rfl (H.glob)
          case o12 =>
            intro L vs A W H hf hd K hK
            have e94 := H.is 9 94 rfl rfl rfl (deps_of' hd 9 (by kernel_rfl)) (by kernel_rfl)
            refine if_wanted (j := 9) (s := 94) rfl rfl rfl e94 rfl ?_
            have e96 := H.is 11 96 rfl rfl rfl (deps_of' hd 11 (by kernel_rfl)) (by kernel_rfl)
            have d : W.cell? ⟨b, 2, none⟩ = some (.int .u64 nx) := ((HM8.out.kept (Keeps.of_below' H.glob) (fun h => h)).cell 2).trans ((ndCells_2 m).trans (by rw [Hnx.out]))
            go_simp
            exact hK _ _ (trivial) rfl (H.glob)
          case o13 =>
            intro L vs A W H hf hd K hK
            have e94 := H.is 9 94 rfl rfl rfl (deps_of' hd 9 (by kernel_rfl)) (by kernel_rfl)
            refine if_wanted (j := 9) (s := 94) rfl rfl rfl e94 rfl ?_
            have e97 := H.is 12 97 rfl rfl rfl (deps_of' hd 12 (by kernel_rfl)) (by kernel_rfl)
            have hq := Hnb.out
            go_simp
            exact hK _ _ (trivial) rfl (H.glob)
          case o14 =>
            intro L vs A W H hf hd K hK
            have e94 := H.is 9 94 rfl rfl rfl (deps_of' hd 9 (by kernel_rfl)) (by kernel_rfl)
            refine if_wanted (j := 9) (s := 94) rfl rfl rfl e94 rfl ?_
            have e95 := H.is 10 95 rfl rfl rfl (deps_of' hd 10 (by kernel_rfl)) (by kernel_rfl)
            have e98 := H.is 13 98 rfl rfl rfl (deps_of' hd 13 (by kernel_rfl)) (by kernel_rfl)
            go_simp
            exact hK _ _ (trivial) rfl (H.glob)
          case o15 =>
            intro L vs A W H hf hd K hK
            have e94 := H.is 9 94 rfl rfl rfl (deps_of' hd 9 (by kernel_rfl)) (by kernel_rfl)
            have e99 := H.is 14 99 rfl rfl rfl (deps_of' hd 14 (by kernel_rfl)) (by kernel_rfl)
            go_simp
            exact hK _ _ (trivial) rfl (H.glob)
          case o16 =>
            intro L vs A W H hf hd K hK
            have e100 := H.is 15 100 rfl rfl rfl (deps_of' hd 15 (by kernel_rfl)) (by kernel_rfl)
            go_simp
            exact hK _ _ (trivial) rfl (H.glob)
          case o17 =>
            intro L vs A W H hf hd K hK
            have e101 := H.is 16 101 rfl rfl rfl (deps_of' hd 16 (by kernel_rfl)) (by kernel_rfl)
            refine if_wanted (j := 16) (s := 101) rfl rfl rfl e101 rfl ?_
            have e16 : A.tmps[16]?.getD undef = .bool false := H.old 16 (by kernel_rfl)
            go_simp
            exact hK _ _ (trivial) rfl (H.glob)
          case o18 =>
            intro L vs A W H hf hd K hK
            have e101 := H.is 16 101 rfl rfl rfl (deps_of' hd 16 (by kernel_rfl)) (by kernel_rfl)
            refine if_wanted (j := 16) (s := 101) rfl rfl rfl e101 rfl ?_
            have e102 := H.is 17 102 rfl rfl rfl (deps_of' hd 17 (by kernel_rfl)) (by kernel_rfl)
            go_simp
            exact hK _ _ (trivial) rfl (H.glob)
          case o19 =>
            intro L vs A W H hf hd K hK
            have e101 := H.is 16 101 rfl rfl rfl (deps_of' hd 16 (by kernel_rfl)) (by kernel_rfl)
            refine if_wanted (j := 16) (s := 101) rfl rfl rfl e101 rfl ?_
            have e103 := H.is 18 103 rfl rfl rfl (deps_of' hd 18 (by kernel_rfl)) (by kernel_rfl)
            go_simp
            exact hK _ _ (trivial) rfl (H.glob)
          case o20 =>
            intro L vs A W H hf hd K hK
            have e104 := H.is 19 104 rfl rfl rfl (deps_of' hd 19 (by kernel_rfl)) (by kernel_rfl)
            refine if_unwanted (j := 19) (s := 104) rfl rfl rfl e104 rfl ?_
            exact hK _ _ (trivial) trivial (H.glob)
          case o21 =>
            intro L vs A W H hf hd K hK
            have e104 := H.is 19 104 rfl rfl rfl (deps_of' hd 19 (by kernel_rfl)) (by kernel_rfl)
            refine if_unwanted (j := 19) (s := 104) rfl rfl rfl e104 rfl ?_
            exact hK _ _ (trivial) trivial (H.glob)
          case o22 =>
            intro L vs A W H hf hd K hK
            have e104 := H.is 19 104 rfl rfl rfl (deps_of' hd 19 (by kernel_rfl)) (by kernel_rfl)
            refine if_unwanted (j := 19) (s := 104) rfl rfl rfl e104 rfl ?_
            exact hK _ _ (trivial) trivial (H.glob)
          case o23 =>
            intro L vs A W H hf hd K hK
            have e101 := H.is 16 101 rfl rfl rfl (deps_of' hd 16 (by kernel_rfl)) (by kernel_rfl)
            refine if_wanted (j := 16) (s := 101) rfl rfl rfl e101 rfl ?_
            have e104 := H.is 19 104 rfl rfl rfl (deps_of' hd 19 (by kernel_rfl)) (by kernel_rfl)
            obtain ⟨v107, e107, q107⟩ := H.val 22 107 rfl rfl rfl (deps_of' hd 22 (by kernel_rfl)) (by kernel_rfl)
            go_simp
            exact hK _ _ (trivial) rfl (H.glob)
          case o24 =>
            intro L vs A W H hf hd K hK
            have e101 := H.is 16 101 rfl rfl rfl (deps_of' hd 16 (by kernel_rfl)) (by kernel_rfl)
            have e108 := H.is 23 108 rfl rfl rfl (deps_of' hd 23 (by kernel_rfl)) (by kernel_rfl)
            go_simp
            exact hK _ _ (trivial) rfl (H.glob)
          case o25 =>
            intro L vs A W H hf hd K hK
            have e109 := H.is 24 109 rfl rfl rfl (deps_of' hd 24 (by kernel_rfl)) (by kernel_rfl)
            go_simp
            exact hK _ _ (trivial) rfl (H.glob)
          case o26 =>
            intro L vs A W H hf hd K hK
            have e110 := H.is 25 110 rfl rfl rfl (deps_of' hd 25 (by kernel_rfl)) (by kernel_rfl)
            refine if_wanted (j := 25) (s := 110) rfl rfl rfl e110 rfl ?_
            have HL := Lib.hid (known_v W)
            go_simp
            refine HL.out.mono ?_
            rintro e w' ⟨rfl, hB⟩
            go_simp
            exact hK _ _ trivial rfl (H.glob.trans (hB.mono H.glob.size))
          case o27 =>
            intro L vs A W H hf hd K hK
            have e110 := H.is 25 110 rfl rfl rfl (deps_of' hd 25 (by kernel_rfl)) (by kernel_rfl)
            have e111 := H.is 26 111 rfl rfl rfl (deps_of' hd 26 (by kernel_rfl)) (by kernel_rfl)
            go_simp
            exact hK _ _ (trivial) rfl (H.glob)
          case o28 =>
            intro L vs A W H hf hd K hK
            have e112 := H.is 27 112 rfl rfl rfl (deps_of' hd 27 (by kernel_rfl)) (by kernel_rfl)
            go_simp
            exact hK _ _ (trivial) rfl (H.glob)
          case he =>
            intro vs W hlen hv
            match vs, hlen, hv with
            | [x0_, x1_, x2_, x3_, x4_, x5_, x6_, x7_, x8_, x9_, x10_, x11_, x12_, x13_, x14_, x15_, x16_, x17_, x18_, x19_, x20_, x21_, x22_, x23_, x24_, x25_, x26_, x27_, x28_], _, hv =>
            obtain rfl : (.int .i64 0) = x0_ := by obtain ⟨z, h1, h2⟩ := hv 0 _ rfl; cases h1; exact h2.symm
            obtain rfl : (.bool true) = x1_ := by obtain ⟨z, h1, h2⟩ := hv 1 _ rfl; cases h1; exact h2.symm
            obtain rfl : (.bool true) = x2_ := by obtain ⟨z, h1, h2⟩ := hv 2 _ rfl; cases h1; exact h2.symm
            obtain rfl : (.agg (ndCells x1)) = x3_ := by obtain ⟨z, h1, h2⟩ := hv 3 _ rfl; cases h1; exact h2.symm
            obtain rfl : (.agg (ndCells tx)) = x4_ := by obtain ⟨z, h1, h2⟩ := hv 4 _ rfl; cases h1; exact h2.symm
            obtain rfl : (.agg (ndCells m)) = x5_ := by obtain ⟨z, h1, h2⟩ := hv 5 _ rfl; cases h1; exact h2.symm
            obtain rfl : (.agg (ndCells tx)) = x6_ := by obtain ⟨z, h1, h2⟩ := hv 6 _ rfl; cases h1; exact h2.symm
            obtain rfl : (.bool true) = x7_ := by obtain ⟨z, h1, h2⟩ := hv 7 _ rfl; cases h1; exact h2.symm
            obtain rfl : (.bool true) = x8_ := by obtain ⟨z, h1, h2⟩ := hv 8 _ rfl; cases h1; exact h2.symm
            obtain rfl : (.bool true) = x9_ := by obtain ⟨z, h1, h2⟩ := hv 9 _ rfl; cases h1; exact h2.symm
            obtain rfl : (.bool false) = x10_ := by obtain ⟨z, h1, h2⟩ := hv 10 _ rfl; cases h1; exact h2.symm
            obtain rfl : (.pointer (some ⟨b, 2, none⟩)) = x11_ := by obtain ⟨z, h1, h2⟩ := hv 11 _ rfl; cases h1; exact h2.symm
            obtain rfl : (.int .u64 nx) = x12_ := by obtain ⟨z, h1, h2⟩ := hv 12 _ rfl; cases h1; exact h2.symm
            obtain rfl : (.bool false) = x13_ := by obtain ⟨z, h1, h2⟩ := hv 13 _ rfl; cases h1; exact h2.symm
            obtain rfl : (.bool true) = x14_ := by obtain ⟨z, h1, h2⟩ := hv 14 _ rfl; cases h1; exact h2.symm
            obtain rfl : (.bool true) = x15_ := by obtain ⟨z, h1, h2⟩ := hv 15 _ rfl; cases h1; exact h2.symm
            obtain rfl : (.bool true) = x16_ := by obtain ⟨z, h1, h2⟩ := hv 16 _ rfl; cases h1; exact h2.symm
            obtain rfl : (.bool false) = x17_ := by obtain ⟨z, h1, h2⟩ := hv 17 _ rfl; cases h1; exact h2.symm
            obtain rfl : (.bool true) = x18_ := by obtain ⟨z, h1, h2⟩ := hv 18 _ rfl; cases h1; exact h2.symm
            obtain rfl : (.bool true) = x19_ := by obtain ⟨z, h1, h2⟩ := hv 19 _ rfl; cases h1; exact h2.symm
            obtain rfl : (.bool true) = x23_ := by obtain ⟨z, h1, h2⟩ := hv 23 _ rfl; cases h1; exact h2.symm
            obtain rfl : (.bool true) = x24_ := by obtain ⟨z, h1, h2⟩ := hv 24 _ rfl; cases h1; exact h2.symm
            obtain rfl : (.bool true) = x25_ := by obtain ⟨z, h1, h2⟩ := hv 25 _ rfl; cases h1; exact h2.symm
            obtain rfl : (.bool true) = x26_ := by obtain ⟨z, h1, h2⟩ := hv 26 _ rfl; cases h1; exact h2.symm
            obtain rfl : (.bool true) = x27_ := by obtain ⟨z, h1, h2⟩ := hv 27 _ rfl; cases h1; exact h2.symm
            obtain rfl : (.bool true) = x28_ := by obtain ⟨z, h1, h2⟩ := hv 28 _ rfl; cases h1; exact h2.symm
            intro L hall hG
            clear hv hlen
            have HB9 := Lib.hid hG
            clear hG hall
            simp only [fill, if_true]
          --END
            simp [Act.put]
            go_wp2_with (fail)
            go_ret
            exact ⟨rfl, HB8.out.trans (HB9.out.mono (by rw [← HBE.out]; exact HB8.out.size))⟩
        · have hh := HHi.out w15 HK15.out
          rw [HHP.out, HHa.out, hnx, decide_eq_true hz, if_pos rfl, HHh.out (by rw [hnx]; exact hz)] at hh
          have Hnb := Lib.hid (show (nx != 0) = true from bne_iff_ne.2 hz)
          have HH := Lib.hid hh
          clear hh hz hnx HHi HHP HHa HHh
          go_wp2_with (fail)
          refine HH.out.mono ?_
          rintro e W8 ⟨rfl, hB16⟩
          have HX8 := Lib.hid (HX15.out.kept (Keeps.of_below' hB16) (fun h => h))
          have HM8 := Lib.hid (HM15.out.kept (Keeps.of_below' hB16) (fun h => h))
          have HB8 := Lib.hid (HB15.out.trans (hB16.mono (by rw [← HBE.out]; exact HB15.out.size)))
          clear hB16 HX15 HM15
          go_wp2_with (fail)
          --GEN r_al19t
          refine wp_region_vals [Is (.int .i64 0), Is (.bool true), Is (.bool true), Is (.agg (ndCells x1)), Is (.agg (ndCells tx)), Is (.agg (ndCells m)), Is (.agg (ndCells tx)), Is (.bool true), Is (.bool true), Is (.bool true), Is (.bool true), Is (.pointer (some ⟨b, 2, none⟩)), Is (.int .u64 nx), Is (.bool true), Is (.bool true), Is (.bool true), Is (.bool true), Is (.bool true), Is (.bool false), Is (.bool false), Is (.int .u64 low), Is (.int .u64 low), Is (.bool true), Is (.bool true), Is (.bool true), Is (.bool true), Is (.bool true), Is (.bool true), Is (.bool true)]
            (fun _ _ _ => True) (fun _ W => Below W8.heap.size W8 W) (by kernel_rfl) (by kernel_rfl) (by kernel_rfl) ?hst ?h0 ⟨?o0, ?o1, ?o2, ?o3, ?o4, ?o5, ?o6, ?o7, ?o8, ?o9, ?o10, ?o11, ?o12, ?o13, ?o14, ?o15, ?o16, ?o17, ?o18, ?o19, ?o20, ?o21, ?o22, ?o23, ?o24, ?o25, ?o26, ?o27, ?o28, trivial⟩ ?he
          case hst =>
            exact ⟨(fun _ _ _ _ _ _ h _ => h), (fun _ _ _ _ _ _ h _ => h), (fun _ _ _ _ _ _ h _ => h), (fun _ _ _ _ _ _ h _ => h), (fun _ _ _ _ _ _ h _ => h), (fun _ _ _ _ _ _ h _ => h), (fun _ _ _ _ _ _ h _ => h), (fun _ _ _ _ _ _ h _ => h), (fun _ _ _ _ _ _ h _ => h), (fun _ _ _ _ _ _ h _ => h), (fun _ _ _ _ _ _ h _ => h), (fun _ _ _ _ _ _ h _ => h), (fun _ _ _ _ _ _ h _ => h), (fun _ _ _ _ _ _ h _ => h), (fun _ _ _ _ _ _ h _ => h), (fun _ _ _ _ _ _ h _ => h), (fun _ _ _ _ _ _ h _ => h), (fun _ _ _ _ _ _ h _ => h), (fun _ _ _ _ _ _ h _ => h), (fun _ _ _ _ _ _ h _ => h), (fun _ _ _ _ _ _ h _ => h), (fun _ _ _ _ _ _ h _ => h), (fun _ _ _ _ _ _ h _ => h), (fun _ _ _ _ _ _ h _ => h), (fun _ _ _ _ _ _ h _ => h), (fun _ _ _ _ _ _ h _ => h), (fun _ _ _ _ _ _ h _ => h), (fun _ _ _ _ _ _ h _ => h), (fun _ _ _ _ _ _ h _ => h), trivial⟩
          case h0 =>
            exact (Below.refl _ W8).drew
          case o0 =>
            intro L vs A W H hf hd K hK
            have e14 : A.tmps[14]?.getD undef = .int .i64 0 := H.old 14 (by kernel_rfl)
            go_simp
            exact hK _ _ (trivial) rfl (H.glob)
          case o1 =>
            intro L vs A W H hf hd K hK
            have e85 := H.is 0 85 rfl rfl rfl (deps_of' hd 0 (by kernel_rfl)) (by kernel_rfl)
            go_simp
            exact hK _ _ (trivial) rfl (H.glob)
          case o2 =>
            intro L vs A W H hf hd K hK
            have e86 := H.is 1 86 rfl rfl rfl (deps_of' hd 1 (by kernel_rfl)) (by kernel_rfl)
            go_simp
            exact hK _ _ (trivial) rfl (H.glob)
          case o3 =>
            intro L vs A W H hf hd K hK
            have e87 := H.is 2 87 rfl rfl rfl (deps_of' hd 2 (by kernel_rfl)) (by kernel_rfl)
            refine if_wanted (j := 2) (s := 87) rfl rfl rfl e87 rfl ?_
            have e13 : A.tmps[13]?.getD undef = .pointer (some ⟨xb, 0, none⟩) := H.old 13 (by kernel_rfl)
            exact wp_load_nd (.tmp 13) rfl xb x1 (ev_tmp e13) (HX8.out.kept (Keeps.of_below' H.glob) (fun h => h)) (hK _ _ trivial rfl H.glob)
          case o4 =>
            intro L vs A W H hf hd K hK
            have e87 := H.is 2 87 rfl rfl rfl (deps_of' hd 2 (by kernel_rfl)) (by kernel_rfl)
            refine if_wanted (j := 2) (s := 87) rfl rfl rfl e87 rfl ?_
            have e88 := H.is 3 88 rfl rfl rfl (deps_of' hd 3 (by kernel_rfl)) (by kernel_rfl)
            have HL := Lib.hid (HTx.out W)
            go_simp
            refine HL.out.mono ?_
            rintro e w' ⟨rfl, hB⟩
            go_simp
            exact hK _ _ trivial rfl (H.glob.trans (hB.mono H.glob.size))
          case o5 =>
            intro L vs A W H hf hd K hK
            have e87 := H.is 2 87 rfl rfl rfl (deps_of' hd 2 (by kernel_rfl)) (by kernel_rfl)
            refine if_wanted (j := 2) (s := 87) rfl rfl rfl e87 rfl ?_
            have e2 : A.tmps[2]?.getD undef = .pointer (some ⟨b, 0, none⟩) := H.old 2 (by kernel_rfl)
            exact wp_load_nd (.tmp 2) rfl b m (ev_tmp e2) (HM8.out.kept (Keeps.of_below' H.glob) (fun h => h)) (hK _ _ trivial rfl H.glob)
          case o6 =>
            intro L vs A W H hf hd K hK
            have e87 := H.is 2 87 rfl rfl rfl (deps_of' hd 2 (by kernel_rfl)) (by kernel_rfl)
            refine if_wanted (j := 2) (s := 87) rfl rfl rfl e87 rfl ?_
            have e90 := H.is 5 90 rfl rfl rfl (deps_of' hd 5 (by kernel_rfl)) (by kernel_rfl)
            have HL := Lib.hid (HTm.out W)
            go_simp
            refine HL.out.mono ?_
            rintro e w' ⟨rfl, hB⟩
            go_simp
            exact hK _ _ trivial rfl (H.glob.trans (hB.mono H.glob.size))
          case o7 =>
            intro L vs A W H hf hd K hK
            have e87 := H.is 2 87 rfl rfl rfl (deps_of' hd 2 (by kernel_rfl)) (by kernel_rfl)
            refine if_wanted (j := 2) (s := 87) rfl rfl rfl e87 rfl ?_
            have e89 := H.is 4 89 rfl rfl rfl (deps_of' hd 4 (by kernel_rfl)) (by kernel_rfl)
            have e91 := H.is 6 91 rfl rfl rfl (deps_of' hd 6 (by kernel_rfl)) (by kernel_rfl)
            exact wp_eq_nd _ 89 91 _ _ _ _ tx e89 e91 (hK _ _ trivial rfl H.glob)
          case o8 =>
            intro L vs A W H hf hd K hK
            have e87 := H.is 2 87 rfl rfl rfl (deps_of' hd 2 (by kernel_rfl)) (by kernel_rfl)
            have e92 := H.is 7 92 rfl rfl rfl (deps_of' hd 7 (by kernel_rfl)) (by kernel_rfl)
            go_simp
            exact hK _ _ (trivial) rfl (H.glob)
          case o9 =>
            intro L vs A W H hf hd K hK
            have e93 := H.is 8 93 rfl rfl rfl (deps_of' hd 8 (by kernel_rfl)) (by kernel_rfl)
            go_simp
            exact hK _ _ (trivial) rfl (H.glob)
          case o10 =>
            intro L vs A W H hf hd K hK
            have e94 := H.is 9 94 rfl rfl rfl (deps_of' hd 9 (by kernel_rfl)) (by kernel_rfl)
            refine if_wanted (j := 9) (s := 94) rfl rfl rfl e94 rfl ?_
            have e16 : A.tmps[16]?.getD undef = .bool true := H.old 16 (by kernel_rfl)
            go_simp
            exact hK _ _ (trivial) rfl (H.glob)
          case o11 =>
            intro L vs A W H hf hd K hK
            have e94 := H.is 9 94 rfl rfl rfl (deps_of' hd 9 (by kernel_rfl)) (by kernel_rfl)
            refine if_wanted (j := 9) (s := 94) rfl rfl rfl e94 rfl ?_
            have e2 : A.tmps[2]?.getD undef = .pointer (some ⟨b, 0, none⟩) := H.old 2 (by kernel_rfl)
            go_simp
            exact hK _ _ (trivial) rfl (H.glob)
          case o12 =>
            intro L vs A W H hf hd K hK
            have e94 := H.is 9 94 rfl rfl rfl (deps_of' hd 9 (by kernel_rfl)) (by kernel_rfl)
            refine if_wanted (j := 9) (s := 94) rfl rfl rfl e94 rfl ?_
            have e96 := H.is 11 96 rfl rfl rfl (deps_of' hd 11 (by kernel_rfl)) (by kernel_rfl)
            have d : W.cell? ⟨b, 2, none⟩ = some (.int .u64 nx) := ((HM8.out.kept (Keeps.of_below' H.glob) (fun h => h)).cell 2).trans ((ndCells_2 m).trans (by rw [Hnx.out]))
            go_simp
            exact hK _ _ (trivial) rfl (H.glob)
          case o13 =>
            intro L vs A W H hf hd K hK
            have e94 := H.is 9 94 rfl rfl rfl (deps_of' hd 9 (by kernel_rfl)) (by kernel_rfl)
            refine if_wanted (j := 9) (s := 94) rfl rfl rfl e94 rfl ?_
            have e97 := H.is 12 97 rfl rfl rfl (deps_of' hd 12 (by kernel_rfl)) (by kernel_rfl)
            have hq := Hnb.out
            go_simp
            exact hK _ _ (trivial) rfl (H.glob)
          case o14 =>
            intro L vs A W H hf hd K hK
            have e94 := H.is 9 94 rfl rfl rfl (deps_of' hd 9 (by kernel_rfl)) (by kernel_rfl)
            refine if_wanted (j := 9) (s := 94) rfl rfl rfl e94 rfl ?_
            have e95 := H.is 10 95 rfl rfl rfl (deps_of' hd 10 (by kernel_rfl)) (by kernel_rfl)
            have e98 := H.is 13 98 rfl rfl rfl (deps_of' hd 13 (by kernel_rfl)) (by kernel_rfl)
            go_simp
            exact hK _ _ (trivial) rfl (H.glob)
          case o15 =>
            intro L vs A W H hf hd K hK
            have e94 := H.is 9 94 rfl rfl rfl (deps_of' hd 9 (by kernel_rfl)) (by kernel_rfl)
            have e99 := H.is 14 99 rfl rfl rfl (deps_of' hd 14 (by kernel_rfl)) (by kernel_rfl)
            go_simp
            exact hK _ _ (trivial) rfl (H.glob)
          case o16 =>
            intro L vs A W H hf hd K hK
            have e100 := H.is 15 100 rfl rfl rfl (deps_of' hd 15 (by kernel_rfl)) (by kernel_rfl)
            go_simp
            exact hK _ _ (trivial) rfl (H.glob)
          case o17 =>
            intro L vs A W H hf hd K hK
            have e101 := H.is 16 101 rfl rfl rfl (deps_of' hd 16 (by kernel_rfl)) (by kernel_rfl)
            refine if_wanted (j := 16) (s := 101) rfl rfl rfl e101 rfl ?_
            have e16 : A.tmps[16]?.getD undef = .bool true := H.old 16 (by kernel_rfl)
            go_simp
            exact hK _ _ (trivial) rfl (H.glob)
          case o18 =>
            intro L vs A W H hf hd K hK
            have e101 := H.is 16 101 rfl rfl rfl (deps_of' hd 16 (by kernel_rfl)) (by kernel_rfl)
            refine if_wanted (j := 16) (s := 101) rfl rfl rfl e101 rfl ?_
            have e102 := H.is 17 102 rfl rfl rfl (deps_of' hd 17 (by kernel_rfl)) (by kernel_rfl)
            go_simp
            exact hK _ _ (trivial) rfl (H.glob)
          case o19 =>
            intro L vs A W H hf hd K hK
            have e101 := H.is 16 101 rfl rfl rfl (deps_of' hd 16 (by kernel_rfl)) (by kernel_rfl)
            refine if_wanted (j := 16) (s := 101) rfl rfl rfl e101 rfl ?_
            have e103 := H.is 18 103 rfl rfl rfl (deps_of' hd 18 (by kernel_rfl)) (by kernel_rfl)
            go_simp
            exact hK _ _ (trivial) rfl (H.glob)
          case o20 =>
            intro L vs A W H hf hd K hK
            have e104 := H.is 19 104 rfl rfl rfl (deps_of' hd 19 (by kernel_rfl)) (by kernel_rfl)
            refine if_wanted (j := 19) (s := 104) rfl rfl rfl e104 rfl ?_
            have e15 : A.tmps[15]?.getD undef = .int .u64 low := H.old 15 (by kernel_rfl)
            go_simp
            exact hK _ _ (trivial) rfl (H.glob)
          case o21 =>
            intro L vs A W H hf hd K hK
            have e104 := H.is 19 104 rfl rfl rfl (deps_of' hd 19 (by kernel_rfl)) (by kernel_rfl)
            refine if_wanted (j := 19) (s := 104) rfl rfl rfl e104 rfl ?_
            have e1 : A.tmps[1]?.getD undef = .int .u64 low := H.old 1 (by kernel_rfl)
            go_simp
            exact hK _ _ (trivial) rfl (H.glob)
          case o22 =>
            intro L vs A W H hf hd K hK
            have e104 := H.is 19 104 rfl rfl rfl (deps_of' hd 19 (by kernel_rfl)) (by kernel_rfl)
            refine if_wanted (j := 19) (s := 104) rfl rfl rfl e104 rfl ?_
            have e105 := H.is 20 105 rfl rfl rfl (deps_of' hd 20 (by kernel_rfl)) (by kernel_rfl)
            have e106 := H.is 21 106 rfl rfl rfl (deps_of' hd 21 (by kernel_rfl)) (by kernel_rfl)
            have hq : (low == low) = true := beq_self_eq_true _
            go_simp
            exact hK _ _ (trivial) rfl (H.glob)
          case o23 =>
            intro L vs A W H hf hd K hK
            have e101 := H.is 16 101 rfl rfl rfl (deps_of' hd 16 (by kernel_rfl)) (by kernel_rfl)
            refine if_wanted (j := 16) (s := 101) rfl rfl rfl e101 rfl ?_
            have e104 := H.is 19 104 rfl rfl rfl (deps_of' hd 19 (by kernel_rfl)) (by kernel_rfl)
            have e107 := H.is 22 107 rfl rfl rfl (deps_of' hd 22 (by kernel_rfl)) (by kernel_rfl)
            go_simp
            exact hK _ _ (trivial) rfl (H.glob)
          case o24 =>
            intro L vs A W H hf hd K hK
            have e101 := H.is 16 101 rfl rfl rfl (deps_of' hd 16 (by kernel_rfl)) (by kernel_rfl)
            have e108 := H.is 23 108 rfl rfl rfl (deps_of' hd 23 (by kernel_rfl)) (by kernel_rfl)
            go_simp
            exact hK _ _ (trivial) rfl (H.glob)
          case o25 =>
            intro L vs A W H hf hd K hK
            have e109 := H.is 24 109 rfl rfl rfl (deps_of' hd 24 (by kernel_rfl)) (by kernel_rfl)
            go_simp
            exact hK _ _ (trivial) rfl (H.glob)
          case o26 =>
            intro L vs A W H hf hd K hK
            have e110 := H.is 25 110 rfl rfl rfl (deps_of' hd 25 (by kernel_rfl)) (by kernel_rfl)
            refine if_wanted (j := 25) (s := 110) rfl rfl rfl e110 rfl ?_
            have HL := Lib.hid (known_v W)
            go_simp
            refine HL.out.mono ?_
            rintro e w' ⟨rfl, hB⟩
            go_simp
            exact hK _ _ trivial rfl (H.glob.trans (hB.mono H.glob.size))
          case o27 =>
            intro L vs A W H hf hd K hK
            have e110 := H.is 25 110 rfl rfl rfl (deps_of' hd 25 (by kernel_rfl)) (by kernel_rfl)
            have e111 := H.is 26 111 rfl rfl rfl (deps_of' hd 26 (by kernel_rfl)) (by kernel_rfl)
            go_simp
            exact hK _ _ (trivial) rfl (H.glob)
          case o28 =>
            intro L vs A W H hf hd K hK
            have e112 := H.is 27 112 rfl rfl rfl (deps_of' hd 27 (by kernel_rfl)) (by kernel_rfl)
            go_simp
            exact hK _ _ (trivial) rfl (H.glob)
          case he =>
            intro vs W hlen hv
            match vs, hlen, hv with
            | [x0_, x1_, x2_, x3_, x4_, x5_, x6_, x7_, x8_, x9_, x10_, x11_, x12_, x13_, x14_, x15_, x16_, x17_, x18_, x19_, x20_, x21_, x22_, x23_, x24_, x25_, x26_, x27_, x28_], _, hv =>
            obtain rfl : (.int .i64 0) = x0_ := by obtain ⟨z, h1, h2⟩ := hv 0 _ rfl; cases h1; exact h2.symm
            obtain rfl : (.bool true) = x1_ := by obtain ⟨z, h1, h2⟩ := hv 1 _ rfl; cases h1; exact h2.symm
            obtain rfl : (.bool true) = x2_ := by obtain ⟨z, h1, h2⟩ := hv 2 _ rfl; cases h1; exact h2.symm
            obtain rfl : (.agg (ndCells x1)) = x3_ := by obtain ⟨z, h1, h2⟩ := hv 3 _ rfl; cases h1; exact h2.symm
            obtain rfl : (.agg (ndCells tx)) = x4_ := by obtain ⟨z, h1, h2⟩ := hv 4 _ rfl; cases h1; exact h2.symm
            obtain rfl : (.agg (ndCells m)) = x5_ := by obtain ⟨z, h1, h2⟩ := hv 5 _ rfl; cases h1; exact h2.symm
            obtain rfl : (.agg (ndCells tx)) = x6_ := by obtain ⟨z, h1, h2⟩ := hv 6 _ rfl; cases h1; exact h2.symm
            obtain rfl : (.bool true) = x7_ := by obtain ⟨z, h1, h2⟩ := hv 7 _ rfl; cases h1; exact h2.symm
            obtain rfl : (.bool true) = x8_ := by obtain ⟨z, h1, h2⟩ := hv 8 _ rfl; cases h1; exact h2.symm
            obtain rfl : (.bool true) = x9_ := by obtain ⟨z, h1, h2⟩ := hv 9 _ rfl; cases h1; exact h2.symm
            obtain rfl : (.bool true) = x10_ := by obtain ⟨z, h1, h2⟩ := hv 10 _ rfl; cases h1; exact h2.symm
            obtain rfl : (.pointer (some ⟨b, 2, none⟩)) = x11_ := by obtain ⟨z, h1, h2⟩ := hv 11 _ rfl; cases h1; exact h2.symm
            obtain rfl : (.int .u64 nx) = x12_ := by obtain ⟨z, h1, h2⟩ := hv 12 _ rfl; cases h1; exact h2.symm
            obtain rfl : (.bool true) = x13_ := by obtain ⟨z, h1, h2⟩ := hv 13 _ rfl; cases h1; exact h2.symm
            obtain rfl : (.bool true) = x14_ := by obtain ⟨z, h1, h2⟩ := hv 14 _ rfl; cases h1; exact h2.symm
            obtain rfl : (.bool true) = x15_ := by obtain ⟨z, h1, h2⟩ := hv 15 _ rfl; cases h1; exact h2.symm
            obtain rfl : (.bool true) = x16_ := by obtain ⟨z, h1, h2⟩ := hv 16 _ rfl; cases h1; exact h2.symm
            obtain rfl : (.bool true) = x17_ := by obtain ⟨z, h1, h2⟩ := hv 17 _ rfl; cases h1; exact h2.symm
            obtain rfl : (.bool false) = x18_ := by obtain ⟨z, h1, h2⟩ := hv 18 _ rfl; cases h1; exact h2.symm
            obtain rfl : (.bool false) = x19_ := by obtain ⟨z, h1, h2⟩ := hv 19 _ rfl; cases h1; exact h2.symm
            obtain rfl : (.int .u64 low) = x20_ := by obtain ⟨z, h1, h2⟩ := hv 20 _ rfl; cases h1; exact h2.symm
            obtain rfl : (.int .u64 low) = x21_ := by obtain ⟨z, h1, h2⟩ := hv 21 _ rfl; cases h1; exact h2.symm
            obtain rfl : (.bool true) = x22_ := by obtain ⟨z, h1, h2⟩ := hv 22 _ rfl; cases h1; exact h2.symm
            obtain rfl : (.bool true) = x23_ := by obtain ⟨z, h1, h2⟩ := hv 23 _ rfl; cases h1; exact h2.symm
            obtain rfl : (.bool true) = x24_ := by obtain ⟨z, h1, h2⟩ := hv 24 _ rfl; cases h1; exact h2.symm
            obtain rfl : (.bool true) = x25_ := by obtain ⟨z, h1, h2⟩ := hv 25 _ rfl; cases h1; exact h2.symm
            obtain rfl : (.bool true) = x26_ := by obtain ⟨z, h1, h2⟩ := hv 26 _ rfl; cases h1; exact h2.symm
            obtain rfl : (.bool true) = x27_ := by obtain ⟨z, h1, h2⟩ := hv 27 _ rfl; cases h1; exact h2.symm
            obtain rfl : (.bool true) = x28_ := by obtain ⟨z, h1, h2⟩ := hv 28 _ rfl; cases h1; exact h2.symm
            intro L hall hG
            clear hv hlen
            have HB9 := Lib.hid hG
            clear hG hall
            simp only [fill, if_true]
          --END
            simp [Act.put]
            go_wp2_with (fail)
            go_ret
            exact ⟨rfl, HB8.out.trans (HB9.out.mono (by rw [← HBE.out]; exact HB8.out.size))⟩
end Go.Proofs.Ytgmbnoimlffgcaa
