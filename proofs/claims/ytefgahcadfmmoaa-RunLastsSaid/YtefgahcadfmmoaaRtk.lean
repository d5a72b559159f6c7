/-
  TWO RUNS over one memory, in lines of their own.
-/
import Derived.Test.YtefgahcadfmmoaaRap
namespace Go.Proofs.Ytefgahcadfmmoaa
open Go.RowKit
attribute [local go_sem] Oper.semAt_some
set_option linter.unusedVariables false

theorem bvals_at {M : List UInt8} {i : Nat} (h : i < M.length) : (bvals M)[i]? = some (.int .u8 ((M.getD i 0).toNat : Int)) := by
  unfold bvals
  simp [List.getElem?_map, List.getElem?_eq_getElem h, List.getD_eq_getElem?_getD]
set_option maxRecDepth 100000 in
set_option maxHeartbeats 40000000 in
theorem begins_v (N odd least most jp : Nat) (hN : 0 < N ∧ N ≤ 128) (ho : odd < 2) (MB : List UInt8) (vb : Value) (B : Nat) (a : Option Addr) (l : List (Int × Int)) (cap : Nat) (w1 : World) (hvb : w1.ownsRow B 5 1 vb MB.length (bvals MB)) (hml : MB.length = 8 * N)
    (hp : PutsAt w1 a l) (hl : l.length ≤ 1000) {P : Int → Prop} (hok : LOk P N l) (hmost : most ≤ l.length) (h1 : least ≤ jp) (h2 : jp ≤ most) (hmt : ∀ i, i < 8 * N → i / 64 % 2 = odd → MB.getD i 0 = (bytesW (vsOf N l jp)).getD i 0) :
    Calls Try.prog 24 #[vb, .slice a l.length cap, .int .i64 (least : Int), .int .i64 (most : Int), .int .i64 (odd : Int)] w1 fun e w' => e = .returned (.bool true) ∧ Below w1.heap.size w1 w' := by
  have hIm := fun (k : Nat) (hk : k ≤ most) (W : World) (hB : Below w1.heap.size w1 W) => rimage_v N k (by omega) a l cap W (hp.below hB) hl (fun i hi => (hok i (by omega)).2) (by omega)
  obtain ⟨gb, cb, evb, _, hgb⟩ := hvb.form (by omega)
  subst evb
  obtain ⟨sz, hsz⟩ : ∃ sz, 8 * N = sz := ⟨_, rfl⟩
  have hmsz : MB.length = sz := by omega
  rw [hmsz] at hvb ⊢
  have HIm := Lib.hid hIm
  have HVb := Lib.hid (And.intro hvb hgb)
  have HSz := Lib.hid (show 8 * N = sz ∧ 0 < sz ∧ sz ≤ 1024 ∧ MB.length = sz from by omega)
  have HJ := Lib.hid (show least ≤ jp ∧ jp ≤ most ∧ most ≤ 1000 from by omega)
  have HMt := Lib.hid hmt
  obtain ⟨ln, hln⟩ : ∃ ln, l.length = ln := ⟨_, rfl⟩
  rw [hln] at HIm ⊢
  obtain ⟨od, hod⟩ : ∃ od : Int, (odd : Int) = od := ⟨_, rfl⟩
  have HOd := Lib.hid hod
  rw [hod]
  have hszb : (sz : Int) ≤ 1024 := by omega
  clear hIm hvb hgb hmsz hsz hp hl hok hmost h1 h2 hmt hln hN ho hml hod
  go_enter Try.func24, Try.ntmps24
  go_wp2_with (fail)
  go_loopw [11] (fun jv wr => ∃ j : Nat, j ≤ jp ∧ least ≤ j ∧ jv = .int .i64 j ∧ Below w1.heap.size w1 wr) (fun jv _ => most + 1 - (intOf jv).toNat)
  case atStart => exact ⟨least, HJ.out.1, Nat.le_refl _, rfl, Below.refl _ _⟩
  case round =>
    obtain ⟨j, hj, hjl, rfl, hB⟩ := hrel
    have HB := Lib.hid hB
    have hjm : (j : Int) ≤ (most : Int) := by have := HJ.out; omega
    have HI1 := Lib.hid (HIm.out j (by have := HJ.out; omega) wr hB)
    have HJj := Lib.hid (And.intro hj hjl)
    have hm1 : (most : Int) ≤ 1000 := by have := HJ.out; omega
    rw [HSz.out.1] at HI1
    clear hB hj hjl
    go_wp2_with (fail)
    refine HI1.out.mono ?_
    rintro e w2 ⟨vw, rfl, hby, hB2⟩
    have hbl : (bytesW (vsOf N l j)).length = sz := by rw [bytesW_len, vsOf_len]; exact HSz.out.1
    unfold ByB at hby
    obtain ⟨gw, cw, evw, _, hgw⟩ := hby.form (by have := HSz.out; omega)
    subst evw
    rw [hbl] at hby ⊢
    obtain ⟨WB, hWB⟩ : ∃ WB, bytesW (vsOf N l j) = WB := ⟨_, rfl⟩
    rw [hWB] at hby hbl
    have HW2 := Lib.hid (And.intro hby hgw)
    have HWb := Lib.hid (And.intro hbl hWB)
    have HVb2 := Lib.hid (own_keeps (own_keeps HVb.out.1 (Keeps.of_below' HB.out) (fun _ _ h => h)) (Keeps.of_below' hB2) (fun _ _ h => h))
    have HB2 := Lib.hid (HB.out.trans (hB2.mono HB.out.size))
    clear hby hgw hbl hWB hB2
    go_wp2_with (fail)
    go_loopw [13, 14] (fun sv iv wr => ∃ (i : Nat) (sb : Bool), i ≤ sz ∧ iv = .int .i64 i ∧ sv = .bool sb ∧ (sb = false → j ≠ jp) ∧ Below w2.heap.size w2 wr) (fun _ iv _ => sz - (intOf iv).toNat)
    case atStart => exact ⟨0, true, by omega, rfl, rfl, fun h => (by cases h), Below.refl _ _⟩
    case round =>
      obtain ⟨i, sb, hi, rfl, rfl, hsb, hB⟩ := hrel
      have HSb := Lib.hid hsb
      have HB3 := Lib.hid hB
      clear hsb
      by_cases hlt : i < sz
      · have hib : (i : Int) < (sz : Int) := by omega
        have c1 : wr.drew.cell? ⟨gb, i, none⟩ = some (.int .u8 ((MB.getD i 0).toNat : Int)) := ((own_keeps HVb2.out (Keeps.of_below' hB) (fun _ _ h => h)).cellAt i (by omega)).trans (bvals_at (by have := HSz.out; omega))
        have c2 : wr.drew.cell? ⟨gw, i, none⟩ = some (.int .u8 ((WB.getD i 0).toNat : Int)) := ((own_keeps HW2.out.1 (Keeps.of_below' hB) (fun _ _ h => h)).cellAt i (by omega)).trans (bvals_at (by have := HWb.out.1; omega))
        obtain ⟨x, hx⟩ : ∃ x : Int, ((MB.getD i 0).toNat : Int) = x := ⟨_, rfl⟩
        obtain ⟨y, hy⟩ : ∃ y : Int, ((WB.getD i 0).toNat : Int) = y := ⟨_, rfl⟩
        rw [hx] at c1
        rw [hy] at c2
        have HC := Lib.hid (And.intro c1 c2)
        obtain ⟨q1, hq1⟩ : ∃ q1 : Int, (i : Int) / 64 = q1 := ⟨_, rfl⟩
        obtain ⟨q2, hq2⟩ : ∃ q2 : Int, q1 % 2 = q2 := ⟨_, rfl⟩
        have HQ := Lib.hid (show (i : Int).tdiv 64 = q1 ∧ IntKind.i64.wrap q1 = q1 ∧ q1.tmod 2 = q2 ∧ q1 % 2 = q2 from ⟨by rw [Int.tdiv_eq_ediv_of_nonneg (by omega)]; exact hq1, IntWalk.i64_in _ (by omega), by rw [Int.tmod_eq_emod_of_nonneg (by omega)]; exact hq2, hq2⟩)
        have HI := Lib.hid hib
        have HLt := Lib.hid hlt
        by_cases hodd : q2 = od
        · have HE := Lib.hid (show (q2 == od) = true from by rw [hodd]; simp)
          obtain ⟨bb, hbb⟩ : ∃ bb, (x != y) = bb := ⟨_, rfl⟩
          have HBb := Lib.hid hbb
          have HNe := Lib.hid (show bb = true → j ≠ jp from fun e hj => by
            rw [e] at hbb
            have hne : x ≠ y := by simpa using hbb
            have := HMt.out i (by have := HSz.out; omega) (by have := HOd.out; omega)
            rw [← hj, HWb.out.2] at this
            exact hne (by rw [← hx, ← hy, this]))
          clear hq1 hq2 hodd hbb hx hy c1 c2 hlt hi hB
          go_wp2_with (fail)
          --GEN r_bg9t
          refine wp_region_vals [Is (.int .i64 (i : Int)), Is (.int .i64 q1), Is (.int .i64 q2), Is (.int .i64 od), Is (.bool true), Is (.bool true), Is (.slice (some ⟨gb, 0, none⟩) sz cb), Is (.int .i64 (i : Int)), Is (.pointer (some ⟨gb, i, none⟩)), Is (.int .u8 x), Is (.slice (some ⟨gw, 0, none⟩) sz cw), Is (.int .i64 (i : Int)), Is (.pointer (some ⟨gw, i, none⟩)), Is (.int .u8 y), Is (.bool bb), Is (.bool bb)]
            (fun _ _ _ => True) (fun _ W => W = wr.drew) (by kernel_rfl) (by kernel_rfl) (by kernel_rfl) ?hst ?h0 ⟨?o0, ?o1, ?o2, ?o3, ?o4, ?o5, ?o6, ?o7, ?o8, ?o9, ?o10, ?o11, ?o12, ?o13, ?o14, ?o15, trivial⟩ ?he
          case hst =>
            exact ⟨(fun _ _ _ _ _ _ h _ => h), (fun _ _ _ _ _ _ h _ => h), (fun _ _ _ _ _ _ h _ => h), (fun _ _ _ _ _ _ h _ => h), (fun _ _ _ _ _ _ h _ => h), (fun _ _ _ _ _ _ h _ => h), (fun _ _ _ _ _ _ h _ => h), (fun _ _ _ _ _ _ h _ => h), (fun _ _ _ _ _ _ h _ => h), (fun _ _ _ _ _ _ h _ => h), (fun _ _ _ _ _ _ h _ => h), (fun _ _ _ _ _ _ h _ => h), (fun _ _ _ _ _ _ h _ => h), (fun _ _ _ _ _ _ h _ => h), (fun _ _ _ _ _ _ h _ => h), (fun _ _ _ _ _ _ h _ => h), trivial⟩
          case h0 =>
            exact rfl
          case o0 =>
            intro L vs A W H hf hd K hK
            have e14 : A.tmps[14]?.getD undef = .int .i64 (i : Int) := H.old 14 (by kernel_rfl)
            go_simp
            exact hK _ _ (trivial) rfl (H.glob)
          case o1 =>
            intro L vs A W H hf hd K hK
            have e32 := H.is 0 32 rfl rfl rfl (deps_of' hd 0 (by kernel_rfl)) (by kernel_rfl)
            have hw := HQ.out.1
            have hw2 := HQ.out.2.1
            go_simp
            exact hK _ _ (trivial) rfl (H.glob)
          case o2 =>
            intro L vs A W H hf hd K hK
            have e33 := H.is 1 33 rfl rfl rfl (deps_of' hd 1 (by kernel_rfl)) (by kernel_rfl)
            have hw := HQ.out.2.2.1
            have hw2 := HQ.out.2.2.2
            go_simp
            exact hK _ _ (trivial) rfl (H.glob)
          case o3 =>
            intro L vs A W H hf hd K hK
            have e4 : A.tmps[4]?.getD undef = .int .i64 od := H.old 4 (by kernel_rfl)
            go_simp
            exact hK _ _ (trivial) rfl (H.glob)
          case o4 =>
            intro L vs A W H hf hd K hK
            have e34 := H.is 2 34 rfl rfl rfl (deps_of' hd 2 (by kernel_rfl)) (by kernel_rfl)
            have e35 := H.is 3 35 rfl rfl rfl (deps_of' hd 3 (by kernel_rfl)) (by kernel_rfl)
            have hw := HE.out
            go_simp
            exact hK _ _ (trivial) rfl (H.glob)
          case o5 =>
            intro L vs A W H hf hd K hK
            have e36 := H.is 4 36 rfl rfl rfl (deps_of' hd 4 (by kernel_rfl)) (by kernel_rfl)
            go_simp
            exact hK _ _ (trivial) rfl (H.glob)
          case o6 =>
            intro L vs A W H hf hd K hK
            have e37 := H.is 5 37 rfl rfl rfl (deps_of' hd 5 (by kernel_rfl)) (by kernel_rfl)
            refine if_wanted (j := 5) (s := 37) rfl rfl rfl e37 rfl ?_
            have e0 : A.tmps[0]?.getD undef = .slice (some ⟨gb, 0, none⟩) sz cb := H.old 0 (by kernel_rfl)
            go_simp
            exact hK _ _ (trivial) rfl (H.glob)
          case o7 =>
            intro L vs A W H hf hd K hK
            have e37 := H.is 5 37 rfl rfl rfl (deps_of' hd 5 (by kernel_rfl)) (by kernel_rfl)
            refine if_wanted (j := 5) (s := 37) rfl rfl rfl e37 rfl ?_
            have e14 : A.tmps[14]?.getD undef = .int .i64 (i : Int) := H.old 14 (by kernel_rfl)
            go_simp
            exact hK _ _ (trivial) rfl (H.glob)
          case o8 =>
            intro L vs A W H hf hd K hK
            have e37 := H.is 5 37 rfl rfl rfl (deps_of' hd 5 (by kernel_rfl)) (by kernel_rfl)
            refine if_wanted (j := 5) (s := 37) rfl rfl rfl e37 rfl ?_
            have e38 := H.is 6 38 rfl rfl rfl (deps_of' hd 6 (by kernel_rfl)) (by kernel_rfl)
            have e39 := H.is 7 39 rfl rfl rfl (deps_of' hd 7 (by kernel_rfl)) (by kernel_rfl)
            have hkl := HI.out
            go_simp
            exact hK _ _ (trivial) rfl (H.glob)
          case o9 =>
            intro L vs A W H hf hd K hK
            have e37 := H.is 5 37 rfl rfl rfl (deps_of' hd 5 (by kernel_rfl)) (by kernel_rfl)
            refine if_wanted (j := 5) (s := 37) rfl rfl rfl e37 rfl ?_
            have e40 := H.is 8 40 rfl rfl rfl (deps_of' hd 8 (by kernel_rfl)) (by kernel_rfl)
            have d : W.cell? ⟨gb, i, none⟩ = some (.int .u8 x) := (by rw [H.glob]; exact HC.out.1)
            go_simp
            exact hK _ _ (trivial) rfl (H.glob)
          case o10 =>
            intro L vs A W H hf hd K hK
            have e37 := H.is 5 37 rfl rfl rfl (deps_of' hd 5 (by kernel_rfl)) (by kernel_rfl)
            refine if_wanted (j := 5) (s := 37) rfl rfl rfl e37 rfl ?_
            have e12 : A.tmps[12]?.getD undef = .slice (some ⟨gw, 0, none⟩) sz cw := H.old 12 (by kernel_rfl)
            go_simp
            exact hK _ _ (trivial) rfl (H.glob)
          case o11 =>
            intro L vs A W H hf hd K hK
            have e37 := H.is 5 37 rfl rfl rfl (deps_of' hd 5 (by kernel_rfl)) (by kernel_rfl)
            refine if_wanted (j := 5) (s := 37) rfl rfl rfl e37 rfl ?_
            have e14 : A.tmps[14]?.getD undef = .int .i64 (i : Int) := H.old 14 (by kernel_rfl)
            go_simp
            exact hK _ _ (trivial) rfl (H.glob)
          case o12 =>
            intro L vs A W H hf hd K hK
            have e37 := H.is 5 37 rfl rfl rfl (deps_of' hd 5 (by kernel_rfl)) (by kernel_rfl)
            refine if_wanted (j := 5) (s := 37) rfl rfl rfl e37 rfl ?_
            have e42 := H.is 10 42 rfl rfl rfl (deps_of' hd 10 (by kernel_rfl)) (by kernel_rfl)
            have e43 := H.is 11 43 rfl rfl rfl (deps_of' hd 11 (by kernel_rfl)) (by kernel_rfl)
            have hkl := HI.out
            go_simp
            exact hK _ _ (trivial) rfl (H.glob)
          case o13 =>
            intro L vs A W H hf hd K hK
            have e37 := H.is 5 37 rfl rfl rfl (deps_of' hd 5 (by kernel_rfl)) (by kernel_rfl)
            refine if_wanted (j := 5) (s := 37) rfl rfl rfl e37 rfl ?_
            have e44 := H.is 12 44 rfl rfl rfl (deps_of' hd 12 (by kernel_rfl)) (by kernel_rfl)
            have d : W.cell? ⟨gw, i, none⟩ = some (.int .u8 y) := (by rw [H.glob]; exact HC.out.2)
            go_simp
            exact hK _ _ (trivial) rfl (H.glob)
          case o14 =>
            intro L vs A W H hf hd K hK
            have e37 := H.is 5 37 rfl rfl rfl (deps_of' hd 5 (by kernel_rfl)) (by kernel_rfl)
            refine if_wanted (j := 5) (s := 37) rfl rfl rfl e37 rfl ?_
            have e41 := H.is 9 41 rfl rfl rfl (deps_of' hd 9 (by kernel_rfl)) (by kernel_rfl)
            have e45 := H.is 13 45 rfl rfl rfl (deps_of' hd 13 (by kernel_rfl)) (by kernel_rfl)
            have hw := HBb.out
            go_simp
            exact hK _ _ (trivial) rfl (H.glob)
          case o15 =>
            intro L vs A W H hf hd K hK
            have e37 := H.is 5 37 rfl rfl rfl (deps_of' hd 5 (by kernel_rfl)) (by kernel_rfl)
            have e46 := H.is 14 46 rfl rfl rfl (deps_of' hd 14 (by kernel_rfl)) (by kernel_rfl)
            go_simp
            exact hK _ _ (trivial) rfl (H.glob)
          case he =>
            intro vs W hlen hv
            match vs, hlen, hv with
            | [x0_, x1_, x2_, x3_, x4_, x5_, x6_, x7_, x8_, x9_, x10_, x11_, x12_, x13_, x14_, x15_], _, hv =>
            obtain rfl : (.int .i64 (i : Int)) = x0_ := by obtain ⟨z, h1, h2⟩ := hv 0 _ rfl; cases h1; exact h2.symm
            obtain rfl : (.int .i64 q1) = x1_ := by obtain ⟨z, h1, h2⟩ := hv 1 _ rfl; cases h1; exact h2.symm
            obtain rfl : (.int .i64 q2) = x2_ := by obtain ⟨z, h1, h2⟩ := hv 2 _ rfl; cases h1; exact h2.symm
            obtain rfl : (.int .i64 od) = x3_ := by obtain ⟨z, h1, h2⟩ := hv 3 _ rfl; cases h1; exact h2.symm
            obtain rfl : (.bool true) = x4_ := by obtain ⟨z, h1, h2⟩ := hv 4 _ rfl; cases h1; exact h2.symm
            obtain rfl : (.bool true) = x5_ := by obtain ⟨z, h1, h2⟩ := hv 5 _ rfl; cases h1; exact h2.symm
            obtain rfl : (.slice (some ⟨gb, 0, none⟩) sz cb) = x6_ := by obtain ⟨z, h1, h2⟩ := hv 6 _ rfl; cases h1; exact h2.symm
            obtain rfl : (.int .i64 (i : Int)) = x7_ := by obtain ⟨z, h1, h2⟩ := hv 7 _ rfl; cases h1; exact h2.symm
            obtain rfl : (.pointer (some ⟨gb, i, none⟩)) = x8_ := by obtain ⟨z, h1, h2⟩ := hv 8 _ rfl; cases h1; exact h2.symm
            obtain rfl : (.int .u8 x) = x9_ := by obtain ⟨z, h1, h2⟩ := hv 9 _ rfl; cases h1; exact h2.symm
            obtain rfl : (.slice (some ⟨gw, 0, none⟩) sz cw) = x10_ := by obtain ⟨z, h1, h2⟩ := hv 10 _ rfl; cases h1; exact h2.symm
            obtain rfl : (.int .i64 (i : Int)) = x11_ := by obtain ⟨z, h1, h2⟩ := hv 11 _ rfl; cases h1; exact h2.symm
            obtain rfl : (.pointer (some ⟨gw, i, none⟩)) = x12_ := by obtain ⟨z, h1, h2⟩ := hv 12 _ rfl; cases h1; exact h2.symm
            obtain rfl : (.int .u8 y) = x13_ := by obtain ⟨z, h1, h2⟩ := hv 13 _ rfl; cases h1; exact h2.symm
            obtain rfl : (.bool bb) = x14_ := by obtain ⟨z, h1, h2⟩ := hv 14 _ rfl; cases h1; exact h2.symm
            obtain rfl : (.bool bb) = x15_ := by obtain ⟨z, h1, h2⟩ := hv 15 _ rfl; cases h1; exact h2.symm
            intro L hall hG
            clear hv hlen
            have HW := hG
            clear hG hall
            subst HW
            simp only [fill, if_true]
            simp [Act.put]
          --END
            cases bb with
            | true =>
              go_wp2_with (fail)
              go_roundw
              case rel => exact ⟨i + 1, false, HLt.out, by go_num, rfl, fun _ => HNe.out rfl, HB3.out.drew⟩
              case measure => have := HLt.out; simp [intOf]; omega
            | false =>
              go_wp2_with (fail)
              go_roundw
              case rel => exact ⟨i + 1, sb, HLt.out, by go_num, rfl, HSb.out, HB3.out.drew⟩
              case measure => have := HLt.out; simp [intOf]; omega
        · have HE := Lib.hid (show (q2 == od) = false from beq_eq_false_iff_ne.2 hodd)
          clear hq1 hq2 hodd hx hy c1 c2 hlt hi hB
          go_wp2_with (fail)
          --GEN r_bg9f
          refine wp_region_vals [Is (.int .i64 (i : Int)), Is (.int .i64 q1), Is (.int .i64 q2), Is (.int .i64 od), Is (.bool false), Is (.bool false), Any, Any, Any, Any, Any, Any, Any, Any, Any, Is (.bool false)]
            (fun _ _ _ => True) (fun _ W => W = wr.drew) (by kernel_rfl) (by kernel_rfl) (by kernel_rfl) ?hst ?h0 ⟨?o0, ?o1, ?o2, ?o3, ?o4, ?o5, ?o6, ?o7, ?o8, ?o9, ?o10, ?o11, ?o12, ?o13, ?o14, ?o15, trivial⟩ ?he
          case hst =>
            exact ⟨(fun _ _ _ _ _ _ h _ => h), (fun _ _ _ _ _ _ h _ => h), (fun _ _ _ _ _ _ h _ => h), (fun _ _ _ _ _ _ h _ => h), (fun _ _ _ _ _ _ h _ => h), (fun _ _ _ _ _ _ h _ => h), (fun _ _ _ _ _ _ h _ => h), (fun _ _ _ _ _ _ h _ => h), (fun _ _ _ _ _ _ h _ => h), (fun _ _ _ _ _ _ h _ => h), (fun _ _ _ _ _ _ h _ => h), (fun _ _ _ _ _ _ h _ => h), (fun _ _ _ _ _ _ h _ => h), (fun _ _ _ _ _ _ h _ => h), (fun _ _ _ _ _ _ h _ => h), (fun _ _ _ _ _ _ h _ => h), trivial⟩
          case h0 =>
            exact rfl
          case o0 =>
            intro L vs A W H hf hd K hK
            have e14 : A.tmps[14]?.getD undef = .int .i64 (i : Int) := H.old 14 (by kernel_rfl)
            go_simp
            exact hK _ _ (trivial) rfl (H.glob)
          case o1 =>
            intro L vs A W H hf hd K hK
            have e32 := H.is 0 32 rfl rfl rfl (deps_of' hd 0 (by kernel_rfl)) (by kernel_rfl)
            have hw := HQ.out.1
            have hw2 := HQ.out.2.1
            go_simp
            exact hK _ _ (trivial) rfl (H.glob)
          case o2 =>
            intro L vs A W H hf hd K hK
            have e33 := H.is 1 33 rfl rfl rfl (deps_of' hd 1 (by kernel_rfl)) (by kernel_rfl)
            have hw := HQ.out.2.2.1
            have hw2 := HQ.out.2.2.2
            go_simp
            exact hK _ _ (trivial) rfl (H.glob)
          case o3 =>
            intro L vs A W H hf hd K hK
            have e4 : A.tmps[4]?.getD undef = .int .i64 od := H.old 4 (by kernel_rfl)
            go_simp
            exact hK _ _ (trivial) rfl (H.glob)
          case o4 =>
            intro L vs A W H hf hd K hK
            have e34 := H.is 2 34 rfl rfl rfl (deps_of' hd 2 (by kernel_rfl)) (by kernel_rfl)
            have e35 := H.is 3 35 rfl rfl rfl (deps_of' hd 3 (by kernel_rfl)) (by kernel_rfl)
            have hw := HE.out
            go_simp
            exact hK _ _ (trivial) rfl (H.glob)
          case o5 =>
            intro L vs A W H hf hd K hK
            have e36 := H.is 4 36 rfl rfl rfl (deps_of' hd 4 (by kernel_rfl)) (by kernel_rfl)
            go_simp
            exact hK _ _ (trivial) rfl (H.glob)
          case o6 =>
            intro L vs A W H hf hd K hK
            have e37 := H.is 5 37 rfl rfl rfl (deps_of' hd 5 (by kernel_rfl)) (by kernel_rfl)
            refine if_unwanted (j := 5) (s := 37) rfl rfl rfl e37 rfl ?_
            exact hK _ _ (trivial) trivial (H.glob)
          case o7 =>
            intro L vs A W H hf hd K hK
            have e37 := H.is 5 37 rfl rfl rfl (deps_of' hd 5 (by kernel_rfl)) (by kernel_rfl)
            refine if_unwanted (j := 5) (s := 37) rfl rfl rfl e37 rfl ?_
            exact hK _ _ (trivial) trivial (H.glob)
          case o8 =>
            intro L vs A W H hf hd K hK
            have e37 := H.is 5 37 rfl rfl rfl (deps_of' hd 5 (by kernel_rfl)) (by kernel_rfl)
            refine if_unwanted (j := 5) (s := 37) rfl rfl rfl e37 rfl ?_
            exact hK _ _ (trivial) trivial (H.glob)
          case o9 =>
            intro L vs A W H hf hd K hK
            have e37 := H.is 5 37 rfl rfl rfl (deps_of' hd 5 (by kernel_rfl)) (by kernel_rfl)
            refine if_unwanted (j := 5) (s := 37) rfl rfl rfl e37 rfl ?_
            exact hK _ _ (trivial) trivial (H.glob)
          case o10 =>
            intro L vs A W H hf hd K hK
            have e37 := H.is 5 37 rfl rfl rfl (deps_of' hd 5 (by kernel_rfl)) (by kernel_rfl)
            refine if_unwanted (j := 5) (s := 37) rfl rfl rfl e37 rfl ?_
            exact hK _ _ (trivial) trivial (H.glob)
          case o11 =>
            intro L vs A W H hf hd K hK
            have e37 := H.is 5 37 rfl rfl rfl (deps_of' hd 5 (by kernel_rfl)) (by kernel_rfl)
            refine if_unwanted (j := 5) (s := 37) rfl rfl rfl e37 rfl ?_
            exact hK _ _ (trivial) trivial (H.glob)
          case o12 =>
            intro L vs A W H hf hd K hK
            have e37 := H.is 5 37 rfl rfl rfl (deps_of' hd 5 (by kernel_rfl)) (by kernel_rfl)
            refine if_unwanted (j := 5) (s := 37) rfl rfl rfl e37 rfl ?_
            exact hK _ _ (trivial) trivial (H.glob)
          case o13 =>
            intro L vs A W H hf hd K hK
            have e37 := H.is 5 37 rfl rfl rfl (deps_of' hd 5 (by kernel_rfl)) (by kernel_rfl)
            refine if_unwanted (j := 5) (s := 37) rfl rfl rfl e37 rfl ?_
            exact hK _ _ (trivial) trivial (H.glob)
          case o14 =>
            intro L vs A W H hf hd K hK
            have e37 := H.is 5 37 rfl rfl rfl (deps_of' hd 5 (by kernel_rfl)) (by kernel_rfl)
            refine if_unwanted (j := 5) (s := 37) rfl rfl rfl e37 rfl ?_
            exact hK _ _ (trivial) trivial (H.glob)
          case o15 =>
            intro L vs A W H hf hd K hK
            have e37 := H.is 5 37 rfl rfl rfl (deps_of' hd 5 (by kernel_rfl)) (by kernel_rfl)
            obtain ⟨v46, e46, q46⟩ := H.val 14 46 rfl rfl rfl (deps_of' hd 14 (by kernel_rfl)) (by kernel_rfl)
            go_simp
            exact hK _ _ (trivial) rfl (H.glob)
          case he =>
            intro vs W hlen hv
            match vs, hlen, hv with
            | [x0_, x1_, x2_, x3_, x4_, x5_, x6_, x7_, x8_, x9_, x10_, x11_, x12_, x13_, x14_, x15_], _, hv =>
            obtain rfl : (.int .i64 (i : Int)) = x0_ := by obtain ⟨z, h1, h2⟩ := hv 0 _ rfl; cases h1; exact h2.symm
            obtain rfl : (.int .i64 q1) = x1_ := by obtain ⟨z, h1, h2⟩ := hv 1 _ rfl; cases h1; exact h2.symm
            obtain rfl : (.int .i64 q2) = x2_ := by obtain ⟨z, h1, h2⟩ := hv 2 _ rfl; cases h1; exact h2.symm
            obtain rfl : (.int .i64 od) = x3_ := by obtain ⟨z, h1, h2⟩ := hv 3 _ rfl; cases h1; exact h2.symm
            obtain rfl : (.bool false) = x4_ := by obtain ⟨z, h1, h2⟩ := hv 4 _ rfl; cases h1; exact h2.symm
            obtain rfl : (.bool false) = x5_ := by obtain ⟨z, h1, h2⟩ := hv 5 _ rfl; cases h1; exact h2.symm
            obtain rfl : (.bool false) = x15_ := by obtain ⟨z, h1, h2⟩ := hv 15 _ rfl; cases h1; exact h2.symm
            intro L hall hG
            clear hv hlen
            have HW := hG
            clear hG hall
            subst HW
            simp only [fill, if_true]
            simp [Act.put]
          --END
            go_wp2_with (fail)
            go_roundw
            case rel => exact ⟨i + 1, sb, HLt.out, by go_num, rfl, HSb.out, HB3.out.drew⟩
            case measure => have := HLt.out; simp [intOf]; omega
      · obtain rfl : i = sz := by omega
        clear hlt hB
        cases sb with
        | true =>
          go_wp2_with (fail)
          go_ret
          exact ⟨rfl, HB2.out.trans (HB3.out.mono HB2.out.size)⟩
        | false =>
          have hne := HSb.out rfl
          have HNe := Lib.hid (show j + 1 ≤ jp from by have := HJj.out; omega)
          clear hne
          go_wp2_with (fail)
          go_roundw
          case rel => exact ⟨j + 1, HNe.out, by have := HJj.out; omega, by go_num, HB2.out.trans (HB3.out.mono HB2.out.size)⟩
          case measure => have := HNe.out; have := HJ.out; simp [intOf]; omega
end Go.Proofs.Ytefgahcadfmmoaa
namespace Go.Proofs.Ytefgahcadfmmoaa
open Go.RowKit
set_option linter.unusedVariables false

theorem RnO.kept2 {w w' : World} {rb mb : Nat} {S S' T : Nat → Prop} {l : List (Int × Int)} {c : Int} {k ph : Nat} {ov : Bool} (h : RnO w rb mb S l c k ph ov) (hk : Keeps T w w')
    (hg : ∀ g, 0 < l.length → EntsAt w g 0 l → g < w.heap.size → ¬ S g → ¬ T g) (hr : ¬ T rb) (hS : ∀ i, i < w.heap.size → S' i → S i) : RnO w' rb mb S' l c k ph ov := by
  obtain ⟨r, ga, cap, hb, h1, h2, h3, h4, h5, h6, h7, h8, h9⟩ := h.o
  refine ⟨r, ga, cap, hb.kept hk hr, h1, h2, h3, h4, h5, h6, h7, fun e => h8 (hS _ hb.lt e), fun hp => ?_⟩
  obtain ⟨g, e, hgl, he, hs, hn⟩ := h9 hp
  exact ⟨g, e, Nat.lt_of_lt_of_le hgl hk.size, he.kept hk hgl (hg g hp he hgl hs), fun e => hs (hS _ hgl e), hn⟩
theorem RnO.rb_lt {w : World} {rb mb : Nat} {S : Nat → Prop} {l : List (Int × Int)} {c : Int} {k ph : Nat} {ov : Bool} (h : RnO w rb mb S l c k ph ov) : rb < w.heap.size ∧ ¬ S rb := by
  obtain ⟨r, ga, cap, hb, h1, h2, h3, h4, h5, h6, h7, h8, h9⟩ := h.o
  exact ⟨hb.lt, h8⟩
/-- a run's own block holds no stores -/
theorem RnO.notEnts {w : World} {rb mb : Nat} {S : Nat → Prop} {l l2 : List (Int × Int)} {c : Int} {k ph : Nat} {ov : Bool} (h : RnO w rb mb S l c k ph ov) {g : Nat} (hp : 0 < l2.length) (he : EntsAt w g 0 l2) : g ≠ rb := by
  obtain ⟨r, ga, cap, hb, h1, h2, h3, h4, h5, h6, h7, h8, h9⟩ := h.o
  rintro rfl
  have h0 := (he 0 hp).1
  have hc : w.cell? ⟨g, 0, none⟩ = some (.pointer r.mv) := (hb.cell 0).trans rfl
  rw [show (0 + 0 * 2) = 0 from rfl, hc] at h0
  cases h0
structure TwoK (S0 : Nat → Prop) (W w : World) (mb N : Nat) (P1 P2 : Int → Prop) (c1 c2 rb1 rb2 : Nat) (l1 l2 : List (Int × Int)) (k1 ph1 : Nat) (ov1 : Bool) (k2 ph2 : Nat) (ov2 : Bool) (n : Int) : Prop where
  o : ∃ S j1 j2 M, RnO w rb1 mb S l1 c1 k1 ph1 ov1 ∧ RnO w rb2 mb S l2 c2 k2 ph2 ov2 ∧ MemD w mb S M ∧ RI P1 N l1 c1 k1 ph1 j1 M ∧ RI P2 N l2 c2 k2 ph2 j2 M ∧ M.st ≤ n ∧ M.fl ≤ n ∧ M.fe ≤ n ∧ ∀ i, S i → S0 i ∨ W.heap.size ≤ i
  b : Keeps (fun i => i = rb1 ∨ i = rb2 ∨ S0 i) W w
  d : rb1 ≠ rb2
section
variable {S0 : Nat → Prop} {W w : World} {mb N : Nat} {P1 P2 : Int → Prop} {c1 c2 rb1 rb2 : Nat} {l1 l2 : List (Int × Int)} {k1 ph1 : Nat} {ov1 : Bool} {k2 ph2 : Nat} {ov2 : Bool} {n : Int}
theorem TwoK.swap (h : TwoK S0 W w mb N P1 P2 c1 c2 rb1 rb2 l1 l2 k1 ph1 ov1 k2 ph2 ov2 n) : TwoK S0 W w mb N P2 P1 c2 c1 rb2 rb1 l2 l1 k2 ph2 ov2 k1 ph1 ov1 n := by
  obtain ⟨⟨S, j1, j2, M, a1, a2, a3, a4, a5, a6, a7, a8, a9⟩, hb, hd⟩ := h
  exact ⟨⟨S, j2, j1, M, a2, a1, a3, a5, a4, a6, a7, a8, a9⟩, hb.mono (fun i _ h => by rcases h with h | h | h; exact .inr (.inl h); exact .inl h; exact .inr (.inr h)), hd.symm⟩
theorem TwoK.mono {w' : World} (h : TwoK S0 W w mb N P1 P2 c1 c2 rb1 rb2 l1 l2 k1 ph1 ov1 k2 ph2 ov2 n) (hB : Below w.heap.size w w') : TwoK S0 W w' mb N P1 P2 c1 c2 rb1 rb2 l1 l2 k1 ph1 ov1 k2 ph2 ov2 n := by
  obtain ⟨⟨S, j1, j2, M, a1, a2, a3, a4, a5, a6, a7, a8, a9⟩, hb, hd⟩ := h
  have a3' : MemP w mb S M.vs M.is M.mk M.F M.lo M.st M.fl M.fe := a3
  exact ⟨⟨S, j1, j2, M, a1.kept2 (Keeps.of_below' hB) (fun _ _ _ _ _ h => h) (fun h => h) (fun _ _ h => h), a2.kept2 (Keeps.of_below' hB) (fun _ _ _ _ _ h => h) (fun h => h) (fun _ _ h => h), a3'.below hB, a4, a5, a6, a7, a8, a9⟩, hb.trans ((Keeps.of_below' hB).mono (fun _ _ h => h.elim)), hd⟩
theorem TwoK.step (h : TwoK S0 W w mb N P1 P2 c1 c2 rb1 rb2 l1 l2 k1 ph1 ov1 k2 ph2 ov2 n) (hl1 : LOk P1 N l1) (hl2 : LOk P2 N l2) (hP : ∀ a, P2 a → ¬ P1 a) (hc : c1 ≤ 64) (hcc : c1 ≠ c2) (hn1 : l1.length ≤ 1000000) (hn : n ≤ 1000000) :
    Calls Try.prog 12 #[.pointer (some ⟨rb1, 0, none⟩)] w fun e w' => ∃ k1' ph1' ov1', e = .returned (.tuple #[.bool ov1', .int .i64 0]) ∧ TwoK S0 W w' mb N P1 P2 c1 c2 rb1 rb2 l1 l2 k1' ph1' ov1' k2 ph2 ov2 (n + 1) := by
  obtain ⟨⟨S, j1, j2, M, a1, a2, a3, a4, a5, a6, a7, a8, a9⟩, hb, hd⟩ := h
  have hlen := a3.len
  have hat : ∀ i, i < l1.length → atE M.vs.length (eK l1 i) = 0 := fun i hi => hl1.at a4.lv hi
  refine (step_v w rb1 mb S l1 c1 k1 ph1 ov1 M a1 a3 hc hn1 (hl1.bd (by rw [← a4.lv]; exact hlen)) a4.kl (fun _ _ hk => hat _ hk) a4.pl (fun hp => ⟨(a4.p1 hp).1, hat _ (by have := a4.kl; have := (a4.p1 hp).1; omega)⟩) (by omega) (by omega) (by omega)).mono ?_
  rintro e w' ⟨dd, k', ph', ov', M', S', rfl, hs, hR', hM', hsub, hk⟩
  obtain ⟨t1, t2, t3⟩ := hs.t
  obtain ⟨j', hI', _⟩ := a4.step hl1 hs
  have hI2 := a5.other hl2 hl1 hP hcc a4.kl hs
  have hcnt : M'.st ≤ n + 1 ∧ M'.fl ≤ n + 1 ∧ M'.fe ≤ n + 1 := by
    rcases t3.inv with ⟨_, _, _, _, e1, e2, e3⟩ | ⟨_, _, _, _, _, _, e1, e2, e3⟩ | ⟨_, _, _, _, _, _, e1, e2, e3⟩ | ⟨_, _, _, _, _, _, e1, e2, e3⟩ | ⟨_, _, _, _, _, e1, e2, e3⟩ <;> omega
  have hr2 := a2.rb_lt
  have hR2 : RnO w' rb2 mb S' l2 c2 k2 ph2 ov2 := a2.kept2 hk (fun g hp he hg hs2 ht => by
    rcases ht with ht | ht
    · exact a1.notEnts hp he ht
    · exact hs2 ht) (fun ht => by
    rcases ht with ht | ht
    · exact hd ht.symm
    · exact hr2.2 ht) (fun i hi h => by
    rcases hsub i h with h | h
    · exact h
    · omega)
  refine ⟨k', ph', ov', by rw [t1], ⟨⟨S', j', j2, M', hR', hR2, hM', hI', hI2, hcnt.1, hcnt.2.1, hcnt.2.2, fun i hi => ?_⟩, hb.trans' hk (fun i hi h => ?_), hd⟩⟩
  · rcases hsub i hi with h | h
    · exact a9 i h
    · exact .inr (Nat.le_trans hb.size h)
  · rcases h with h | h
    · exact .inl h
    · rcases a9 i h with h | h
      · exact .inr (.inr h)
      · omega
theorem TwoK.evict (h : TwoK S0 W w mb N P1 P2 c1 c2 rb1 rb2 l1 l2 k1 ph1 ov1 k2 ph2 ov2 n) (hl1 : LOk P1 N l1) (hl2 : LOk P2 N l2) (hN8 : N % 8 = 0) (hn : n ≤ 1000000) (x nn : Int) (hx : -9223372036854775808 ≤ x ∧ x ≤ 9223372036854775807) (hnn : nn ≤ 9223372036854775807) :
    Calls Try.prog 22 #[.pointer (some ⟨mb, 0, none⟩), .agg #[.int .i64 x, .int .i64 nn]] w fun e w' => e = .returned (.tuple #[]) ∧ TwoK S0 W w' mb N P1 P2 c1 c2 rb1 rb2 l1 l2 k1 ph1 ov1 k2 ph2 ov2 n := by
  obtain ⟨⟨S, j1, j2, M, a1, a2, a3, a4, a5, a6, a7, a8, a9⟩, hb, hd⟩ := h
  have hok : LnOk M.F N := by
    obtain ⟨N0, vv, vi, ml, D, sl, hm, hN, hS, hp, hl, hi, hok, r⟩ := id a3
    rw [a4.lv] at hok
    exact hok
  refine (levict_v a3 (by rw [a4.lv]; exact hN8) x nn hx hnn (by omega)).mono ?_
  rintro e w' ⟨rfl, S', M', hor, hM', hsub, hk⟩
  have hsub' : ∀ i, i < w.heap.size → S' i → S i := fun i hi h => by
    rcases hsub i h with h | h
    · exact h
    · omega
  have hr1 := a1.rb_lt
  have hr2 := a2.rb_lt
  have hR1 : RnO w' rb1 mb S' l1 c1 k1 ph1 ov1 := a1.kept2 hk (fun g hp he hg hs2 ht => hs2 ht) hr1.2 hsub'
  have hR2 : RnO w' rb2 mb S' l2 c2 k2 ph2 ov2 := a2.kept2 hk (fun g hp he hg hs2 ht => hs2 ht) hr2.2 hsub'
  have hcn : (∃ j, RI P1 N l1 c1 k1 ph1 j M') ∧ (∃ j, RI P2 N l2 c2 k2 ph2 j M') ∧ M'.st ≤ n ∧ M'.fl ≤ n ∧ M'.fe ≤ n := by
    rcases hor with rfl | ⟨a, q, hE⟩
    · exact ⟨⟨j1, a4⟩, ⟨j2, a5⟩, a6, a7, a8⟩
    · obtain ⟨j1', h1, _⟩ := a4.evict hl1 hok hE
      obtain ⟨j2', h2, _⟩ := a5.evict hl2 hok hE
      obtain ⟨mk', hmk⟩ := hE
      exact ⟨⟨j1', h1⟩, ⟨j2', h2⟩, a6, a7, a8⟩
  obtain ⟨⟨j1', h1⟩, ⟨j2', h2⟩, b1, b2, b3⟩ := hcn
  refine ⟨rfl, ⟨S', j1', j2', M', hR1, hR2, hM', h1, h2, b1, b2, b3, fun i hi => ?_⟩, hb.trans' hk (fun i hi h => ?_), hd⟩
  · rcases hsub i hi with h | h
    · exact a9 i h
    · exact .inr (Nat.le_trans hb.size h)
  · rcases a9 i h with h | h
    · exact .inr (.inr h)
    · omega
end
/-- what two runs and a crash leave -/
structure TwoC (S0 : Nat → Prop) (W w : World) (mb N : Nat) (P1 P2 : Int → Prop) (rb1 rb2 : Nat) (l1 l2 : List (Int × Int)) (k1 k2 : Nat) (isF : List Int) : Prop where
  m : ∃ (S : Nat → Prop) (M : MSt), MemP w mb S M.vs isF M.mk M.F M.lo M.st M.fl M.fe
  f1 : ∃ r ga cap, Blk w rb1 (rnCells r) 41 ∧ r.sl = .slice ga l1.length cap ∧ r.at_ = (k1 : Int)
  f2 : ∃ r ga cap, Blk w rb2 (rnCells r) 41 ∧ r.sl = .slice ga l2.length cap ∧ r.at_ = (k2 : Int)
  p1 : k1 ≤ l1.length ∧ ∃ j, (∀ r, FrOk l1 k1 r → r ≤ j) ∧ j ≤ k1 ∧ ∀ i, i < N → P1 (lnW i) → isF.getD i 0 = (vsOf N l1 j).getD i 0
  p2 : k2 ≤ l2.length ∧ ∃ j, (∀ r, FrOk l2 k2 r → r ≤ j) ∧ j ≤ k2 ∧ ∀ i, i < N → P2 (lnW i) → isF.getD i 0 = (vsOf N l2 j).getD i 0
  l : isF.length = N
  b : Keeps (fun i => i = rb1 ∨ i = rb2 ∨ S0 i) W w
theorem TwoC.mono {S0 : Nat → Prop} {W w w' : World} {mb N : Nat} {P1 P2 : Int → Prop} {rb1 rb2 : Nat} {l1 l2 : List (Int × Int)} {k1 k2 : Nat} {isF : List Int} (h : TwoC S0 W w mb N P1 P2 rb1 rb2 l1 l2 k1 k2 isF) (hB : Below w.heap.size w w') : TwoC S0 W w' mb N P1 P2 rb1 rb2 l1 l2 k1 k2 isF := by
  obtain ⟨⟨S, M, hm⟩, ⟨r1, g1, c1, b1, e1⟩, ⟨r2, g2, c2, b2, e2⟩, hp1, hp2, hl, hb⟩ := h
  exact ⟨⟨S, M, hm.below hB⟩, ⟨r1, g1, c1, b1.kept (Keeps.of_below' hB) (fun h => h), e1⟩, ⟨r2, g2, c2, b2.kept (Keeps.of_below' hB) (fun h => h), e2⟩, hp1, hp2, hl, hb.trans ((Keeps.of_below' hB).mono (fun _ _ h => h.elim))⟩
theorem TwoK.crash {S0 : Nat → Prop} {W w : World} {mb N : Nat} {P1 P2 : Int → Prop} {c1 c2 rb1 rb2 : Nat} {l1 l2 : List (Int × Int)} {k1 ph1 : Nat} {ov1 : Bool} {k2 ph2 : Nat} {ov2 : Bool} {n : Int}
    (h : TwoK S0 W w mb N P1 P2 c1 c2 rb1 rb2 l1 l2 k1 ph1 ov1 k2 ph2 ov2 n) (hl1 : LOk P1 N l1) (hl2 : LOk P2 N l2) (hN : N ≤ 1000) (hn : n ≤ 1000000) (p : Option Addr) (cK : Nat) (ks : List Int) (hks : ks.length ≤ 1000) (hk64 : ∀ x ∈ ks, -9223372036854775808 ≤ x ∧ x ≤ 9223372036854775807)
    (hka : ∀ S : Nat → Prop, (∀ i, S i → S0 i ∨ W.heap.size ≤ i) → NumsAt w S p ks) :
    Calls Try.prog 23 #[.pointer (some ⟨mb, 0, none⟩), .slice p ks.length cK] w fun e w' => e = .returned (.tuple #[]) ∧ ∃ isF, TwoC S0 W w' mb N P1 P2 rb1 rb2 l1 l2 k1 k2 isF := by
  obtain ⟨⟨S, j1, j2, M, a1, a2, a3, a4, a5, a6, a7, a8, a9⟩, hb, hd⟩ := h
  refine (crash_m a3 (by rw [a4.lv]; exact hN) (by omega) p cK ks hks hk64 (hka S a9)).mono ?_
  rintro e w' ⟨rfl, S', isF, xs, _, hlen, himg, hM', hsub, hk⟩
  obtain ⟨r1, g1, cp1, hb1, _, _, hs1, ht1, _, _, _, hn1, _⟩ := a1.o
  obtain ⟨r2, g2, cp2, hb2, _, _, hs2, ht2, _, _, _, hn2, _⟩ := a2.o
  obtain ⟨q1, u1, v1, x1⟩ := a4.crash hl1 isF _ himg
  obtain ⟨q2, u2, v2, x2⟩ := a5.crash hl2 isF _ himg
  refine ⟨rfl, isF, ⟨⟨S', _, hM'⟩, ⟨r1, g1, cp1, hb1.kept hk hn1, hs1, ht1⟩, ⟨r2, g2, cp2, hb2.kept hk hn2, hs2, ht2⟩, ⟨a4.kl, q1, fun r hr => Nat.le_trans (hr.least a4.jk a4.g) u1, v1, x1⟩, ⟨a5.kl, q2, fun r hr => Nat.le_trans (hr.least a5.jk a5.g) u2, v2, x2⟩, by rw [hlen]; exact a4.li, hb.trans' hk (fun i hi h => ?_)⟩⟩
  rcases a9 i h with h | h
  · exact .inr (.inr h)
  · omega
/-! ### bytes of words -/
theorem bytesW_getD : ∀ (vs : List Int) (i : Nat), i < 8 * vs.length → (bytesW vs).getD i 0 = (putB (vs.getD (i / 8) 0)).getD (i % 8) 0
  | [], i, h => absurd h (by simp)
  | v :: vs, i, h => by
    show (putB v ++ bytesW vs).getD i 0 = _
    by_cases hi : i < 8
    · rw [List.getD_eq_getElem?_getD, List.getElem?_append_left (by rw [putB_len]; exact hi), show i / 8 = 0 by omega, show i % 8 = i by omega, ← List.getD_eq_getElem?_getD]
      rfl
    · rw [List.getD_eq_getElem?_getD, List.getElem?_append_right (by rw [putB_len]; omega), putB_len, ← List.getD_eq_getElem?_getD, bytesW_getD vs (i - 8) (by simp at h; omega)]
      rw [show i / 8 = (i - 8) / 8 + 1 by omega, show (i - 8) % 8 = i % 8 by omega]
      rfl
theorem match_of {N odd : Nat} {A B : List Int} (hA : A.length = N) (hB : B.length = N) (h : ∀ i, i < N → OddL odd (lnW i) → A.getD i 0 = B.getD i 0) : ∀ i, i < 8 * N → i / 64 % 2 = odd → (bytesW A).getD i 0 = (bytesW B).getD i 0 := by
  intro i hi ho
  rw [bytesW_getD A i (by omega), bytesW_getD B i (by omega), h (i / 8) (by omega) (by unfold OddL lnW lineOf; omega)]
end Go.Proofs.Ytefgahcadfmmoaa
