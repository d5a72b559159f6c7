/-
  The law NodeMay.
-/
import Derived.Test.YtkfpoekeofnglaaDoorKn
import Derived.Test.YtkfpoekeofnglaaDoorAe
import Derived.Test.YtkfpoekeofnglaaDoorOn
namespace Go.Proofs.YtkfpoekeofnglaaDoor
open Go.RowKit
set_option linter.unusedVariables false

set_option maxRecDepth 100000 in
set_option maxHeartbeats 6400000 in
theorem may_law (n : Nd) (high : Int) (has : Bool) (w : World) (ht : Tens w) :
    Calls Tryd.prog 9 #[.agg (ndCells n), .int .u64 high, .bool has] w fun e W' => e = .returned (.bool true) ∧ Below w.heap.size w W' := by
  obtain ⟨mb, hmb⟩ : ∃ b, n.mayB high has = b := ⟨_, rfl⟩
  have HQ := Lib.hid (show (mb == mb) = true by simp)
  have HMn := Lib.hid (show ∀ w, Calls Tryd.prog 20 #[.agg (ndCells n), .int .u64 high, .bool has] w fun e W' => e = .returned (.bool mb) ∧ Below w.heap.size w W' from fun w => by rw [← hmb]; exact nmay_calls n high has w)
  have HMr := Lib.hid (show ∀ w, Calls Tryd.prog 10 #[.agg (ndCells n), .int .u64 high, .bool has] w fun e W' => e = .returned (.bool mb) ∧ Below w.heap.size w W' from fun w => by rw [← hmb]; exact rmay_calls n high has w)
  obtain ⟨l, hl⟩ : ∃ l, n.active has high = l := ⟨_, rfl⟩
  have HAn := Lib.hid (show ∀ w, Calls Tryd.prog 31 #[.agg (ndCells n), .int .u64 high, .bool has] w fun e W' => ∃ v, e = .returned v ∧ W'.ownsRow w.heap.size 57 2 v l.length (ecells l) ∧ Below w.heap.size w W' from fun w => by rw [← hl]; exact nactive_calls n high has w)
  have HAr := Lib.hid (show ∀ w, Calls Tryd.prog 32 #[.agg (ndCells n), .int .u64 high, .bool has] w fun e W' => ∃ v, e = .returned v ∧ W'.ownsRow w.heap.size 57 2 v l.length (ecells l) ∧ Below w.heap.size w W' from fun w => by rw [← hl]; exact ractive_calls n high has w)
  have hl8 : l.length ≤ 1000000 := by
    rw [← hl]
    have h1 := keepL_len has high n.valid
    have h2 := plN_len n
    have h3 : n.valid.length = (plN n).length := by simp [Nd.valid]
    unfold Nd.active
    omega
  have HEs := Lib.hid (show ∀ (v1 v2 : Value) (b1 b2 : Nat) (w : World), w.ownsRow b1 57 2 v1 l.length (ecells l) → w.ownsRow b2 57 2 v2 l.length (ecells l) → Calls Tryd.prog 19 #[v1, v2] w fun e W' => e = .returned (.bool true) ∧ Below w.heap.size w W' from fun v1 v2 b1 b2 w h1 h2 => by
    have := esame_calls l l v1 v2 b1 b2 w hl8 h1 h2
    rwa [beq_self_eq_true] at this)
  have HT := Lib.hid ht
  have HBw := Lib.hid ((Below.refl w.heap.size w).alloc (Nat.le_refl _) (.cells (ndCells n) 27))
  have HK := Lib.hid (Blk.new w (ndCells n) 27)
  clear hmb hl hl8 ht
  go_enter Tryd.func9, Tryd.ntmps9
  go_wp2_with (fail)
  obtain ⟨b3, hb3⟩ : ∃ b, w.heap.size = b := ⟨_, rfl⟩
  rw [hb3] at HK ⊢
  have HB3 := Lib.hid hb3
  clear hb3
  generalize w.alloc (.cells (ndCells n) 27) = w0 at *
  --GEN r_may
  refine wp_region_vals [Is (.agg (ndCells n)), Is (.int .u64 high), Is (.bool has), Is (.bool mb), Is (.agg (ndCells n)), Is (.int .u64 high), Is (.bool has), Is (.bool mb), Is (.bool true), Is (.bool true), Is (.agg (ndCells n)), Is (.int .u64 high), Is (.bool has), fun v W => W.ownsRow w0.heap.size 57 2 v l.length (ecells l), Is (.agg (ndCells n)), Is (.int .u64 high), Is (.bool has), fun v W => W.ownsRow w0.heap.size 57 2 v l.length (ecells l), Is (.bool true), Is (.bool true), Is (.bool true), Is (.bool true), Is (.bool true), Is (.bool true)]
    (fun _ W W' => Below W.heap.size W W') (fun _ W => Below w0.heap.size w0 W) (by kernel_rfl) (by kernel_rfl) (by kernel_rfl) ?hst ?h0 ⟨?o0, ?o1, ?o2, ?o3, ?o4, ?o5, ?o6, ?o7, ?o8, ?o9, ?o10, ?o11, ?o12, ?o13, ?o14, ?o15, ?o16, ?o17, ?o18, ?o19, ?o20, ?o21, ?o22, ?o23, trivial⟩ ?he
  case hst =>
    exact ⟨(fun _ _ _ _ _ _ h _ => h), (fun _ _ _ _ _ _ h _ => h), (fun _ _ _ _ _ _ h _ => h), (fun _ _ _ _ _ _ h _ => h), (fun _ _ _ _ _ _ h _ => h), (fun _ _ _ _ _ _ h _ => h), (fun _ _ _ _ _ _ h _ => h), (fun _ _ _ _ _ _ h _ => h), (fun _ _ _ _ _ _ h _ => h), (fun _ _ _ _ _ _ h _ => h), (fun _ _ _ _ _ _ h _ => h), (fun _ _ _ _ _ _ h _ => h), (fun _ _ _ _ _ _ h _ => h), (fun _ _ _ _ _ _ h hR => own_below h hR), (fun _ _ _ _ _ _ h _ => h), (fun _ _ _ _ _ _ h _ => h), (fun _ _ _ _ _ _ h _ => h), (fun _ _ _ _ _ _ h hR => own_below h hR), (fun _ _ _ _ _ _ h _ => h), (fun _ _ _ _ _ _ h _ => h), (fun _ _ _ _ _ _ h _ => h), (fun _ _ _ _ _ _ h _ => h), (fun _ _ _ _ _ _ h _ => h), (fun _ _ _ _ _ _ h _ => h), trivial⟩
  case h0 =>
    exact (Below.refl _ _).drew
  case o0 =>
    intro L vs A W H hf hd K hK
    have e3 : A.tmps[3]?.getD undef = .pointer (some ⟨b3, 0, none⟩) := H.old 3 (by kernel_rfl)
    rw [if_pos (show Region.wanted _ _ = true from rfl)]
    exact wp_load_nd _ rfl b3 n (ev_tmp e3) (HK.out.below H.glob HK.out.lt) (hK _ _ (Below.refl _ _) rfl H.glob)
  case o1 =>
    intro L vs A W H hf hd K hK
    have e1 : A.tmps[1]?.getD undef = .int .u64 high := H.old 1 (by kernel_rfl)
    go_simp
    exact hK _ _ (Below.refl _ _) rfl (H.glob)
  case o2 =>
    intro L vs A W H hf hd K hK
    have e2 : A.tmps[2]?.getD undef = .bool has := H.old 2 (by kernel_rfl)
    go_simp
    exact hK _ _ (Below.refl _ _) rfl (H.glob)
  case o3 =>
    intro L vs A W H hf hd K hK
    have e7 := H.is 0 7 rfl rfl rfl (deps_of' hd 0 (by kernel_rfl)) (by kernel_rfl)
    have e8 := H.is 1 8 rfl rfl rfl (deps_of' hd 1 (by kernel_rfl)) (by kernel_rfl)
    have e9 := H.is 2 9 rfl rfl rfl (deps_of' hd 2 (by kernel_rfl)) (by kernel_rfl)
    go_wp2_with (fail)
    refine (HMn.out _).mono ?_
    rintro e W2 ⟨rfl, hB⟩
    exact hK _ _ hB rfl (H.glob.trans (hB.mono H.glob.size))
  case o4 =>
    intro L vs A W H hf hd K hK
    have e3 : A.tmps[3]?.getD undef = .pointer (some ⟨b3, 0, none⟩) := H.old 3 (by kernel_rfl)
    rw [if_pos (show Region.wanted _ _ = true from rfl)]
    exact wp_load_nd _ rfl b3 n (ev_tmp e3) (HK.out.below H.glob HK.out.lt) (hK _ _ (Below.refl _ _) rfl H.glob)
  case o5 =>
    intro L vs A W H hf hd K hK
    have e1 : A.tmps[1]?.getD undef = .int .u64 high := H.old 1 (by kernel_rfl)
    go_simp
    exact hK _ _ (Below.refl _ _) rfl (H.glob)
  case o6 =>
    intro L vs A W H hf hd K hK
    have e2 : A.tmps[2]?.getD undef = .bool has := H.old 2 (by kernel_rfl)
    go_simp
    exact hK _ _ (Below.refl _ _) rfl (H.glob)
  case o7 =>
    intro L vs A W H hf hd K hK
    have e11 := H.is 4 11 rfl rfl rfl (deps_of' hd 4 (by kernel_rfl)) (by kernel_rfl)
    have e12 := H.is 5 12 rfl rfl rfl (deps_of' hd 5 (by kernel_rfl)) (by kernel_rfl)
    have e13 := H.is 6 13 rfl rfl rfl (deps_of' hd 6 (by kernel_rfl)) (by kernel_rfl)
    go_wp2_with (fail)
    refine (HMr.out _).mono ?_
    rintro e W2 ⟨rfl, hB⟩
    exact hK _ _ hB rfl (H.glob.trans (hB.mono H.glob.size))
  case o8 =>
    intro L vs A W H hf hd K hK
    have e10 := H.is 3 10 rfl rfl rfl (deps_of' hd 3 (by kernel_rfl)) (by kernel_rfl)
    have e14 := H.is 7 14 rfl rfl rfl (deps_of' hd 7 (by kernel_rfl)) (by kernel_rfl)
    have hq := HQ.out
    go_simp
    exact hK _ _ (Below.refl _ _) rfl (H.glob)
  case o9 =>
    intro L vs A W H hf hd K hK
    have e15 := H.is 8 15 rfl rfl rfl (deps_of' hd 8 (by kernel_rfl)) (by kernel_rfl)
    go_simp
    exact hK _ _ (Below.refl _ _) rfl (H.glob)
  case o10 =>
    intro L vs A W H hf hd K hK
    have e16 := H.is 9 16 rfl rfl rfl (deps_of' hd 9 (by kernel_rfl)) (by kernel_rfl)
    refine if_wanted (j := 9) (s := 16) rfl rfl rfl e16 rfl ?_
    have e3 : A.tmps[3]?.getD undef = .pointer (some ⟨b3, 0, none⟩) := H.old 3 (by kernel_rfl)
    exact wp_load_nd _ rfl b3 n (ev_tmp e3) (HK.out.below H.glob HK.out.lt) (hK _ _ (Below.refl _ _) rfl H.glob)
  case o11 =>
    intro L vs A W H hf hd K hK
    have e16 := H.is 9 16 rfl rfl rfl (deps_of' hd 9 (by kernel_rfl)) (by kernel_rfl)
    refine if_wanted (j := 9) (s := 16) rfl rfl rfl e16 rfl ?_
    have e1 : A.tmps[1]?.getD undef = .int .u64 high := H.old 1 (by kernel_rfl)
    go_simp
    exact hK _ _ (Below.refl _ _) rfl (H.glob)
  case o12 =>
    intro L vs A W H hf hd K hK
    have e16 := H.is 9 16 rfl rfl rfl (deps_of' hd 9 (by kernel_rfl)) (by kernel_rfl)
    refine if_wanted (j := 9) (s := 16) rfl rfl rfl e16 rfl ?_
    have e2 : A.tmps[2]?.getD undef = .bool has := H.old 2 (by kernel_rfl)
    go_simp
    exact hK _ _ (Below.refl _ _) rfl (H.glob)
  case o13 =>
    intro L vs A W H hf hd K hK
    have e16 := H.is 9 16 rfl rfl rfl (deps_of' hd 9 (by kernel_rfl)) (by kernel_rfl)
    refine if_wanted (j := 9) (s := 16) rfl rfl rfl e16 rfl ?_
    have e17 := H.is 10 17 rfl rfl rfl (deps_of' hd 10 (by kernel_rfl)) (by kernel_rfl)
    have e18 := H.is 11 18 rfl rfl rfl (deps_of' hd 11 (by kernel_rfl)) (by kernel_rfl)
    have e19 := H.is 12 19 rfl rfl rfl (deps_of' hd 12 (by kernel_rfl)) (by kernel_rfl)
    go_wp2_with (fail)
    refine (HAn.out _).mono ?_
    rintro e W2 ⟨v, rfl, hv, hB⟩
    exact hK _ _ hB (own_mono hv H.glob.size) (H.glob.trans (hB.mono H.glob.size))
  case o14 =>
    intro L vs A W H hf hd K hK
    have e16 := H.is 9 16 rfl rfl rfl (deps_of' hd 9 (by kernel_rfl)) (by kernel_rfl)
    refine if_wanted (j := 9) (s := 16) rfl rfl rfl e16 rfl ?_
    have e3 : A.tmps[3]?.getD undef = .pointer (some ⟨b3, 0, none⟩) := H.old 3 (by kernel_rfl)
    exact wp_load_nd _ rfl b3 n (ev_tmp e3) (HK.out.below H.glob HK.out.lt) (hK _ _ (Below.refl _ _) rfl H.glob)
  case o15 =>
    intro L vs A W H hf hd K hK
    have e16 := H.is 9 16 rfl rfl rfl (deps_of' hd 9 (by kernel_rfl)) (by kernel_rfl)
    refine if_wanted (j := 9) (s := 16) rfl rfl rfl e16 rfl ?_
    have e1 : A.tmps[1]?.getD undef = .int .u64 high := H.old 1 (by kernel_rfl)
    go_simp
    exact hK _ _ (Below.refl _ _) rfl (H.glob)
  case o16 =>
    intro L vs A W H hf hd K hK
    have e16 := H.is 9 16 rfl rfl rfl (deps_of' hd 9 (by kernel_rfl)) (by kernel_rfl)
    refine if_wanted (j := 9) (s := 16) rfl rfl rfl e16 rfl ?_
    have e2 : A.tmps[2]?.getD undef = .bool has := H.old 2 (by kernel_rfl)
    go_simp
    exact hK _ _ (Below.refl _ _) rfl (H.glob)
  case o17 =>
    intro L vs A W H hf hd K hK
    have e16 := H.is 9 16 rfl rfl rfl (deps_of' hd 9 (by kernel_rfl)) (by kernel_rfl)
    refine if_wanted (j := 9) (s := 16) rfl rfl rfl e16 rfl ?_
    have e21 := H.is 14 21 rfl rfl rfl (deps_of' hd 14 (by kernel_rfl)) (by kernel_rfl)
    have e22 := H.is 15 22 rfl rfl rfl (deps_of' hd 15 (by kernel_rfl)) (by kernel_rfl)
    have e23 := H.is 16 23 rfl rfl rfl (deps_of' hd 16 (by kernel_rfl)) (by kernel_rfl)
    go_wp2_with (fail)
    refine (HAr.out _).mono ?_
    rintro e W2 ⟨v, rfl, hv, hB⟩
    exact hK _ _ hB (own_mono hv H.glob.size) (H.glob.trans (hB.mono H.glob.size))
  case o18 =>
    intro L vs A W H hf hd K hK
    have e16 := H.is 9 16 rfl rfl rfl (deps_of' hd 9 (by kernel_rfl)) (by kernel_rfl)
    refine if_wanted (j := 9) (s := 16) rfl rfl rfl e16 rfl ?_
    obtain ⟨v20, e20, q20⟩ := H.val 13 20 rfl rfl rfl (deps_of' hd 13 (by kernel_rfl)) (by kernel_rfl)
    obtain ⟨v24, e24, q24⟩ := H.val 17 24 rfl rfl rfl (deps_of' hd 17 (by kernel_rfl)) (by kernel_rfl)
    go_wp2_with (fail)
    refine (HEs.out _ _ _ _ _ q20 q24).mono ?_
    rintro e W2 ⟨rfl, hB⟩
    exact hK _ _ hB rfl (H.glob.trans (hB.mono H.glob.size))
  case o19 =>
    intro L vs A W H hf hd K hK
    have e16 := H.is 9 16 rfl rfl rfl (deps_of' hd 9 (by kernel_rfl)) (by kernel_rfl)
    have e25 := H.is 18 25 rfl rfl rfl (deps_of' hd 18 (by kernel_rfl)) (by kernel_rfl)
    go_simp
    exact hK _ _ (Below.refl _ _) rfl (H.glob)
  case o20 =>
    intro L vs A W H hf hd K hK
    have e26 := H.is 19 26 rfl rfl rfl (deps_of' hd 19 (by kernel_rfl)) (by kernel_rfl)
    go_simp
    exact hK _ _ (Below.refl _ _) rfl (H.glob)
  case o21 =>
    intro L vs A W H hf hd K hK
    have e27 := H.is 20 27 rfl rfl rfl (deps_of' hd 20 (by kernel_rfl)) (by kernel_rfl)
    refine if_wanted (j := 20) (s := 27) rfl rfl rfl e27 rfl ?_
    go_wp2_with (fail)
    refine (known_v _ (HT.out.below (HBw.out.trans (H.glob.mono HBw.out.size)))).mono ?_
    rintro e W2 ⟨rfl, hB⟩
    exact hK _ _ hB rfl (H.glob.trans (hB.mono H.glob.size))
  case o22 =>
    intro L vs A W H hf hd K hK
    have e27 := H.is 20 27 rfl rfl rfl (deps_of' hd 20 (by kernel_rfl)) (by kernel_rfl)
    have e28 := H.is 21 28 rfl rfl rfl (deps_of' hd 21 (by kernel_rfl)) (by kernel_rfl)
    go_simp
    exact hK _ _ (Below.refl _ _) rfl (H.glob)
  case o23 =>
    intro L vs A W H hf hd K hK
    have e29 := H.is 22 29 rfl rfl rfl (deps_of' hd 22 (by kernel_rfl)) (by kernel_rfl)
    go_simp
    exact hK _ _ (Below.refl _ _) rfl (H.glob)
  case he =>
    intro vs W hlen hv
    match vs, hlen, hv with
    | [x0_, x1_, x2_, x3_, x4_, x5_, x6_, x7_, x8_, x9_, x10_, x11_, x12_, x13_, x14_, x15_, x16_, x17_, x18_, x19_, x20_, x21_, x22_, x23_], _, hv =>
    obtain rfl : (.agg (ndCells n)) = x0_ := by obtain ⟨z, h1, h2⟩ := hv 0 _ rfl; cases h1; exact h2.symm
    obtain rfl : (.int .u64 high) = x1_ := by obtain ⟨z, h1, h2⟩ := hv 1 _ rfl; cases h1; exact h2.symm
    obtain rfl : (.bool has) = x2_ := by obtain ⟨z, h1, h2⟩ := hv 2 _ rfl; cases h1; exact h2.symm
    obtain rfl : (.bool mb) = x3_ := by obtain ⟨z, h1, h2⟩ := hv 3 _ rfl; cases h1; exact h2.symm
    obtain rfl : (.agg (ndCells n)) = x4_ := by obtain ⟨z, h1, h2⟩ := hv 4 _ rfl; cases h1; exact h2.symm
    obtain rfl : (.int .u64 high) = x5_ := by obtain ⟨z, h1, h2⟩ := hv 5 _ rfl; cases h1; exact h2.symm
    obtain rfl : (.bool has) = x6_ := by obtain ⟨z, h1, h2⟩ := hv 6 _ rfl; cases h1; exact h2.symm
    obtain rfl : (.bool mb) = x7_ := by obtain ⟨z, h1, h2⟩ := hv 7 _ rfl; cases h1; exact h2.symm
    obtain rfl : (.bool true) = x8_ := by obtain ⟨z, h1, h2⟩ := hv 8 _ rfl; cases h1; exact h2.symm
    obtain rfl : (.bool true) = x9_ := by obtain ⟨z, h1, h2⟩ := hv 9 _ rfl; cases h1; exact h2.symm
    obtain rfl : (.agg (ndCells n)) = x10_ := by obtain ⟨z, h1, h2⟩ := hv 10 _ rfl; cases h1; exact h2.symm
    obtain rfl : (.int .u64 high) = x11_ := by obtain ⟨z, h1, h2⟩ := hv 11 _ rfl; cases h1; exact h2.symm
    obtain rfl : (.bool has) = x12_ := by obtain ⟨z, h1, h2⟩ := hv 12 _ rfl; cases h1; exact h2.symm
    have hx13 : (fun v W => W.ownsRow w0.heap.size 57 2 v l.length (ecells l)) x13_ W := by obtain ⟨z, h1, h2⟩ := hv 13 _ rfl; cases h1; exact h2
    obtain rfl : (.agg (ndCells n)) = x14_ := by obtain ⟨z, h1, h2⟩ := hv 14 _ rfl; cases h1; exact h2.symm
    obtain rfl : (.int .u64 high) = x15_ := by obtain ⟨z, h1, h2⟩ := hv 15 _ rfl; cases h1; exact h2.symm
    obtain rfl : (.bool has) = x16_ := by obtain ⟨z, h1, h2⟩ := hv 16 _ rfl; cases h1; exact h2.symm
    have hx17 : (fun v W => W.ownsRow w0.heap.size 57 2 v l.length (ecells l)) x17_ W := by obtain ⟨z, h1, h2⟩ := hv 17 _ rfl; cases h1; exact h2
    obtain rfl : (.bool true) = x18_ := by obtain ⟨z, h1, h2⟩ := hv 18 _ rfl; cases h1; exact h2.symm
    obtain rfl : (.bool true) = x19_ := by obtain ⟨z, h1, h2⟩ := hv 19 _ rfl; cases h1; exact h2.symm
    obtain rfl : (.bool true) = x20_ := by obtain ⟨z, h1, h2⟩ := hv 20 _ rfl; cases h1; exact h2.symm
    obtain rfl : (.bool true) = x21_ := by obtain ⟨z, h1, h2⟩ := hv 21 _ rfl; cases h1; exact h2.symm
    obtain rfl : (.bool true) = x22_ := by obtain ⟨z, h1, h2⟩ := hv 22 _ rfl; cases h1; exact h2.symm
    obtain rfl : (.bool true) = x23_ := by obtain ⟨z, h1, h2⟩ := hv 23 _ rfl; cases h1; exact h2.symm
    intro L hall hG
    clear hv hlen
    have HB := Lib.hid (HBw.out.trans (hG.mono HBw.out.size))
    clear hG hall
    simp only [fill, if_true]
    go_simp
    go_wp2_with (fail)
    go_ret
    exact ⟨rfl, HB.out⟩
  --END
end Go.Proofs.YtkfpoekeofnglaaDoor
