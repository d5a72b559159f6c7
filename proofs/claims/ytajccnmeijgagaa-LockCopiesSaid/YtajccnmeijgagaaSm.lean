/-
  leveelaw07's same: both tables say the same of each client, and each lock.
-/
import Derived.Test.YtajccnmeijgagaaDo
namespace Go.Proofs.Ytajccnmeijgagaa
open Go.RowKit Go.Maps
set_option linter.unusedVariables false

set_option maxRecDepth 100000 in
set_option maxHeartbeats 1000000 in
theorem asame_v (v1 v2 : Value) (B1 B2 : Nat) (L : List Int) (w : World) (h1 : w.ownsRow B1 29 1 v1 L.length (L.map (Value.int .u64))) (h2 : w.ownsRow B2 29 1 v2 L.length (L.map (Value.int .u64))) (hn : L.length ≤ 1000000) :
    Calls Try.prog 37 #[v1, v2] w fun e w' => e = .returned (.bool true) ∧ Below w.heap.size w w' := by
  obtain ⟨a1, c1, rfl⟩ := own_form h1
  obtain ⟨a2, c2, rfl⟩ := own_form h2
  have H1 := Lib.hid h1
  have H2 := Lib.hid h2
  clear h1 h2
  go_enter Try.func37, Try.ntmps37
  go_wp2_with (fail)
  go_loopw [5] (fun jv wr => ∃ k q : Nat, jv = .int .i64 k ∧ k ≤ L.length ∧ wr = w.drewN q) (fun jv _ => L.length - (intOf jv).toNat)
  case atStart => exact ⟨0, 0, rfl, Nat.zero_le _, rfl⟩
  case round =>
    obtain ⟨k, q, rfl, hk, rfl⟩ := hrel
    by_cases hlt : k < L.length
    · obtain ⟨g, cp, e1, _, hg, _, _, _, hc, _⟩ := own_shapeK H1.out (by omega)
      obtain ⟨g2, cp2, e2, _, hg2, _, _, _, hc2, _⟩ := own_shapeK H2.out (by omega)
      injection e1 with e3 _ e5
      injection e2 with e4 _ e6
      obtain rfl : c1 = cp := e5
      obtain rfl : c2 = cp2 := e6
      subst e3
      subst e4
      replace hc := hc k (by omega)
      replace hc2 := hc2 k (by omega)
      obtain ⟨x, hx⟩ : ∃ x, L.getD k 0 = x := ⟨_, rfl⟩
      have hx2 : (L.map (Value.int .u64))[k]? = some (.int .u64 x) := by rw [← hx]; simp [hlt]
      rw [hx2] at hc hc2
      have b1 : (k : Int) < (L.length : Int) := by omega
      have b2 : (0 : Int) ≤ (k : Int) := by omega
      have b3 : ((k : Int)).toNat = k := by omega
      have HLT := Lib.hid hlt
      clear hx hlt hx2
      go_wp2_with (fail)
      go_quiet (fail)
      go_wp2_with (fail)
      go_roundw
      case rel => exact ⟨k + 1, _, by go_num, HLT.out, by first | rfl | exact World.drewN_drewN _ _ _⟩
      case measure => have := HLT.out; simp [intOf]; omega
    · have hk2 : k = L.length := by omega
      subst hk2
      go_wp2_with (fail)
      go_ret
      exact ⟨rfl, ((Keeps.refl NoB w).drewN q).below⟩
/-- what a client has, by the list -/
def heldX (n : Nat) (l : List (Int × Int)) (c : Int) : List Int := if 0 ≤ c ∧ c < (n : Int) then heldL l c else []
theorem heldX_at {n : Nat} {h : Int → Option Int} {l : List (Int × Int)} (H : Agr n h l) {c : Int} {i : Nat} (hi : i < (heldX n l c).length) : h ((heldX n l c).getD i 0) = some c ∧ (Lit.int .u64 ((heldX n l c).getD i 0)).wf = true := by
  have hm : (heldX n l c).getD i 0 ∈ heldX n l c := by simp [hi]
  generalize (heldX n l c).getD i 0 = a at *
  unfold heldX at hm
  split at hm
  · have e := (heldL_mem H.nd c a).1 hm
    exact ⟨by rw [H.eq]; exact e, H.wf (a, c) ((lk_mem l H.nd a c).2 e)⟩
  · cases hm
set_option maxRecDepth 100000 in
set_option maxHeartbeats 4000000 in
theorem same_v (n : Nat) (w : World) (b r K : Nat) (S : Nat → Prop) (J : JT n w b r K S) (hn : 1 ≤ n) (h64 : n ≤ 64) (hK : K ≤ 1000) :
    Calls Try.prog 16 #[.pointer (some ⟨b, 0, none⟩), .pointer (some ⟨r, 0, none⟩)] w fun e w' => e = .returned (.bool true) ∧ Below w.heap.size w w' := by
  obtain ⟨m, h, W0, k, l, vL, vW, t, q, ag, hk, hl, _⟩ := J
  obtain ⟨aw, cw, rfl⟩ := own_form q.wts
  obtain ⟨gw, rfl, _⟩ := q.wAt (i := 0) (by omega)
  have HT := Lib.hid t
  have HR := Lib.hid q
  have HAg := Lib.hid ag
  have HnP := Lib.hid (show (0 : Int) < (n : Int) by omega)
  have HnM := Lib.hid (show (n : Int) ≤ 64 by omega)
  have Hkl := Lib.hid (show k ≤ 1000 ∧ l.length ≤ 1000 from ⟨by omega, by omega⟩)
  clear t q ag hk hl
  go_enter Try.func16, Try.ntmps16
  go_upto_region 1 with (fail)
  --GEN r_sm1
  refine wp_region_vals [Is (.pointer (some ⟨b, 0, none⟩)), Is (.int .i64 n), Is (.pointer (some ⟨r, 0, none⟩)), Is (.pointer (some ⟨r, 0, none⟩)), Is (.pointer (some ⟨r, 1, none⟩)), Is (.slice (some ⟨gw, 0, none⟩) n cw), Is (.int .i64 n), Is (.bool false)]
    (fun _ W W' => Below W.heap.size W W') (fun _ W => Below w.heap.size w W) (by kernel_rfl) (by kernel_rfl) (by kernel_rfl) ?hst ?h0 ⟨?o0, ?o1, ?o2, ?o3, ?o4, ?o5, ?o6, ?o7, trivial⟩ ?he
  case hst =>
    exact ⟨(fun _ _ _ _ _ _ h _ => h), (fun _ _ _ _ _ _ h _ => h), (fun _ _ _ _ _ _ h _ => h), (fun _ _ _ _ _ _ h _ => h), (fun _ _ _ _ _ _ h _ => h), (fun _ _ _ _ _ _ h _ => h), (fun _ _ _ _ _ _ h _ => h), (fun _ _ _ _ _ _ h _ => h), trivial⟩
  case h0 =>
    exact (Below.refl _ _).drew
  case o0 =>
    intro L vs A W H hf hd K hK
    have e0 : A.tmps[0]?.getD undef = .pointer (some ⟨b, 0, none⟩) := H.old 0 (by kernel_rfl)
    go_simp
    exact hK _ _ (Below.refl _ _) rfl (H.glob)
  case o1 =>
    intro L vs A W H hf hd K hK
    have e13 := H.is 0 13 rfl rfl rfl (deps_of' hd 0 (by kernel_rfl)) (by kernel_rfl)
    have HT2 := HT.out.keptN (Keeps.of_below' H.glob)
    rw [if_pos (show Region.wanted _ _ = true from rfl)]
    go_wp2_with (fail)
    refine (clients_v W b m n h W0 k HT2 HnP.out).mono ?_
    rintro e W2 ⟨rfl, rfl⟩
    exact hK _ _ (Below.refl _ _) rfl H.glob
  case o2 =>
    intro L vs A W H hf hd K hK
    have e1 : A.tmps[1]?.getD undef = .pointer (some ⟨r, 0, none⟩) := H.old 1 (by kernel_rfl)
    go_simp
    exact hK _ _ (Below.refl _ _) rfl (H.glob)
  case o3 =>
    intro L vs A W H hf hd K hK
    have e15 := H.is 2 15 rfl rfl rfl (deps_of' hd 2 (by kernel_rfl)) (by kernel_rfl)
    go_simp
    exact hK _ _ (Below.refl _ _) rfl (H.glob)
  case o4 =>
    intro L vs A W H hf hd K hK
    have e16 := H.is 3 16 rfl rfl rfl (deps_of' hd 3 (by kernel_rfl)) (by kernel_rfl)
    go_simp
    exact hK _ _ (Below.refl _ _) rfl (H.glob)
  case o5 =>
    intro L vs A W H hf hd K hK
    have e17 := H.is 4 17 rfl rfl rfl (deps_of' hd 4 (by kernel_rfl)) (by kernel_rfl)
    have d := (H.glob.cell (p := ⟨r, 1, none⟩) HR.out.blk.lt).trans HR.out.c1
    go_simp
    exact hK _ _ (Below.refl _ _) rfl (H.glob)
  case o6 =>
    intro L vs A W H hf hd K hK
    have e18 := H.is 5 18 rfl rfl rfl (deps_of' hd 5 (by kernel_rfl)) (by kernel_rfl)
    go_simp
    exact hK _ _ (Below.refl _ _) rfl (H.glob)
  case o7 =>
    intro L vs A W H hf hd K hK
    have e14 := H.is 1 14 rfl rfl rfl (deps_of' hd 1 (by kernel_rfl)) (by kernel_rfl)
    have e19 := H.is 6 19 rfl rfl rfl (deps_of' hd 6 (by kernel_rfl)) (by kernel_rfl)
    have dn : ((n : Int) != (n : Int)) = false := bne_self_eq_false _
    go_simp
    exact hK _ _ (Below.refl _ _) rfl (H.glob)
  case he =>
    intro vs W hlen hv
    match vs, hlen, hv with
    | [x0_, x1_, x2_, x3_, x4_, x5_, x6_, x7_], _, hv =>
    obtain rfl : (.pointer (some ⟨b, 0, none⟩)) = x0_ := by obtain ⟨z, h1, h2⟩ := hv 0 _ rfl; cases h1; exact h2.symm
    obtain rfl : (.int .i64 n) = x1_ := by obtain ⟨z, h1, h2⟩ := hv 1 _ rfl; cases h1; exact h2.symm
    obtain rfl : (.pointer (some ⟨r, 0, none⟩)) = x2_ := by obtain ⟨z, h1, h2⟩ := hv 2 _ rfl; cases h1; exact h2.symm
    obtain rfl : (.pointer (some ⟨r, 0, none⟩)) = x3_ := by obtain ⟨z, h1, h2⟩ := hv 3 _ rfl; cases h1; exact h2.symm
    obtain rfl : (.pointer (some ⟨r, 1, none⟩)) = x4_ := by obtain ⟨z, h1, h2⟩ := hv 4 _ rfl; cases h1; exact h2.symm
    obtain rfl : (.slice (some ⟨gw, 0, none⟩) n cw) = x5_ := by obtain ⟨z, h1, h2⟩ := hv 5 _ rfl; cases h1; exact h2.symm
    obtain rfl : (.int .i64 n) = x6_ := by obtain ⟨z, h1, h2⟩ := hv 6 _ rfl; cases h1; exact h2.symm
    obtain rfl : (.bool false) = x7_ := by obtain ⟨z, h1, h2⟩ := hv 7 _ rfl; cases h1; exact h2.symm
    intro L hall hG
    clear hv hlen
    have HB1 := Lib.hid (hG : Below w.heap.size w W)
    clear hG hall
    simp only [fill, if_true]
    go_simp
  --END
    go_wp2_with (fail)
    go_loopw [5] (fun cv wr => ∃ c : Int, -1 ≤ c ∧ c ≤ (n : Int) + 1 ∧ cv = .int .i64 c ∧ Hid (Below w.heap.size w wr)) (fun cv _ => ((n : Int) + 1 - intOf cv).toNat)
    case atStart => exact ⟨-1, by omega, by omega, rfl, HB1⟩
    case round =>
      obtain ⟨c, hc0, hc1, rfl, hB⟩ := hrel
      clear HB1
      have HT1 := Lib.hid (HT.out.keptN (Keeps.of_below' hB.out))
      have HR1 := Lib.hid (HR.out.keptN (Keeps.of_below' hB.out))
      have c1 := HR1.out.c1
      by_cases hcn : c ≤ (n : Int)
      · have HCn := Lib.hid (show -1 ≤ c ∧ c ≤ (n : Int) from ⟨hc0, hcn⟩)
        have HWa := Lib.hid (wants_f wr b m n h W0 k HT1.out HnP.out HnM.out c)
        obtain ⟨wt, hwt⟩ : ∃ x, wantN n W0 c = x := ⟨_, rfl⟩
        have HWt := Lib.hid hwt
        rw [hwt] at HWa
        clear hwt
        go_wp2_with (fail)
        refine HWa.out.mono ?_
        rintro e w2 ⟨rfl, hB2⟩
        have HB2 := Lib.hid (hB.out.trans (hB2.mono hB.out.size))
        have HT2 := Lib.hid (HT.out.keptN (Keeps.of_below' HB2.out))
        have HR2 := Lib.hid (HR.out.keptN (Keeps.of_below' HB2.out))
        have c1 := HR2.out.c1
        have HIs := Lib.hid (is_v w2 r n l W0 vL _ HR2.out c)
        clear hB2
        go_upto_region 8 with (fail)
        go_cut [9] (fun s9 wx => s9 = .slice none 0 0 ∧ wx = w2)
        case first =>
          go_wp2_with (fail)
          go_meet
          exact ⟨rfl, rfl⟩
        case rest =>
        obtain ⟨rfl, hwc⟩ := hcut
        rw [hwc]
        clear hwc
        go_step
        go_step
        go_cut [8, 9] (fun s8 s9 wx => s8 = .int .u64 wt ∧ Hid (wx.ownsRow w2.heap.size 29 1 s9 (heldX n l c).length ((heldX n l c).map (Value.int .u64))) ∧ Hid (Below w2.heap.size w2 wx))
        case first =>
          by_cases hc : 0 ≤ c ∧ c < (n : Int)
          · rw [show isB n c = true from decide_eq_true hc] at HIs
            have HX := Lib.hid (show heldX n l c = heldL l c by unfold heldX; rw [if_pos hc])
            have HWt2 := Lib.hid (show W0 c.toNat = wt by rw [← HWt.out]; unfold wantN; rw [if_pos hc])
            obtain ⟨q, rfl⟩ : ∃ q : Nat, (q : Int) = c := ⟨c.toNat, by omega⟩
            obtain ⟨_, e0, hgl, hm, d1, _⟩ := HR2.out.wAt (i := q) (by omega)
            cases e0
            rw [Int.toNat_natCast] at HWt2
            rw [HWt2.out] at d1
            have HHe := Lib.hid (rheld_v w2 r n l W0 vL _ HR2.out Hkl.out.2 q)
            unfold maxLen at hm
            go_wp2_with (fail)
            refine HIs.out.mono ?_
            rintro e w3 ⟨rfl, rfl⟩
            go_wp2_with (fail)
            refine HHe.out.mono ?_
            rintro e w3 ⟨v9, rfl, ho, hB3⟩
            have HO := Lib.hid ho
            have HB3 := Lib.hid hB3
            clear ho hB3
            go_wp2_with (fail)
            go_meet
            exact ⟨rfl, Lib.hid (by rw [HX.out]; exact HO.out), HB3⟩
          · rw [show isB n c = false from decide_eq_false hc] at HIs
            have HX := Lib.hid (show heldX n l c = [] by unfold heldX; rw [if_neg hc])
            have HWt2 := Lib.hid (show (0 : Int) = wt by rw [← HWt.out]; unfold wantN; rw [if_neg hc])
            go_wp2_with (fail)
            refine HIs.out.mono ?_
            rintro e w3 ⟨rfl, rfl⟩
            go_wp2_with (fail)
            go_meet
            exact ⟨by rw [HWt2.out], Lib.hid (by rw [HX.out]; exact World.ownsRow_nil _ _ _ _), Lib.hid (Below.refl _ _)⟩
        case rest =>
          obtain ⟨rfl, HO, HBc⟩ := hcut
          have HBw := Lib.hid (HB2.out.trans (HBc.out.mono HB2.out.size))
          have HT3 := Lib.hid (HT.out.keptN (Keeps.of_below' HBw.out))
          have HR3 := Lib.hid (HR.out.keptN (Keeps.of_below' HBw.out))
          have HHe := Lib.hid (show Calls Try.prog 13 #[.pointer (some ⟨b, 0, none⟩), .int .i64 c] wc fun e w' => ∃ v, e = .returned v ∧ w'.ownsRow wc.heap.size 29 1 v (heldX n l c).length ((heldX n l c).map (Value.int .u64)) ∧ Below wc.heap.size wc w' from held_f wc b m n h W0 k HT3.out HnP.out (by have := Hkl.out.1; omega) l HAg.out.eq HAg.out.nd c)
          have HAt := Lib.hid (fun i hi => heldX_at HAg.out (c := c) (i := i) hi)
          have HXl := Lib.hid (show (heldX n l c).length ≤ 1000 by
            unfold heldX; split
            · exact Nat.le_trans (heldL_len l c) Hkl.out.2
            · simp)
          obtain ⟨xs, hxs⟩ : ∃ x, heldX n l c = x := ⟨_, rfl⟩
          rw [hxs] at HO HHe HAt HXl
          obtain ⟨ah, ch, rfl⟩ := own_form HO.out
          have e1 : (wt != wt) = false := bne_self_eq_false _
          have e2 : ((wt != 0) != (wt != 0)) = false := bne_self_eq_false _
          clear hxs HT1 HR1 HT2 HR2 HIs HWa
          go_wp2_with (fail)
          refine HHe.out.mono ?_
          rintro e w4 ⟨v61, rfl, ho4, hB4⟩
          have HSa := Lib.hid (asame_v v61 (.slice ah xs.length ch) _ _ xs w4 ho4 (own_below' HO.out hB4) (by have := HXl.out; omega))
          have HB4 := Lib.hid (HBw.out.trans (hB4.mono HBw.out.size))
          have HO4 := Lib.hid (own_below' HO.out hB4)
          clear ho4 hB4
          go_wp2_with (fail)
          refine HSa.out.mono ?_
          rintro e w5 ⟨rfl, hB5⟩
          have HB5 := Lib.hid (HB4.out.trans (hB5.mono HB4.out.size))
          have HO5 := Lib.hid (own_below' HO4.out hB5)
          have HT5 := Lib.hid (HT.out.keptN (Keeps.of_below' HB5.out))
          have HRu := Lib.hid (runs_f w5 b m n h W0 k HT5.out HnP.out HnM.out c HAg.out.rng)
          obtain ⟨ru, hru⟩ : ∃ x, (if 0 ≤ c ∧ c < (n : Int) then runsF (nxt h W0) ((n : Int).toNat + 1) [] c else -1) = x := ⟨_, rfl⟩
          rw [hru] at HRu
          rw [HAg.out.nxt, Int.toNat_natCast] at hru
          have HRq := Lib.hid hru
          clear hB5 hru
          go_wp2_with (fail)
          refine HRu.out.mono ?_
          rintro e w6 ⟨rfl, hB6⟩
          have HB6 := Lib.hid (HB5.out.trans (hB6.mono HB5.out.size))
          have HO6 := Lib.hid (own_below' HO5.out hB6)
          have HR6 := Lib.hid (HR.out.keptN (Keeps.of_below' HB6.out))
          have HT6 := Lib.hid (HT.out.keptN (Keeps.of_below' HB6.out))
          have HRr := Lib.hid (rruns_v w6 r n l W0 vL _ HR6.out h64 (by have := HAg.out.rng; rwa [show h = lk l from funext HAg.out.eq] at this) HAg.out.z c)
          rw [HRq.out] at HRr
          have e3 : (ru != ru) = false := bne_self_eq_false _
          clear hB6
          go_wp2_with (fail)
          refine HRr.out.mono ?_
          rintro e w7 ⟨rfl, rfl⟩
          go_wp2_with (fail)
          go_loopw [10] (fun iv wr => ∃ i : Nat, i ≤ xs.length ∧ iv = .int .i64 (i : Int) ∧ wr = w6) (fun iv _ => xs.length - (intOf iv).toNat)
          case atStart => exact ⟨0, Nat.zero_le _, rfl, rfl⟩
          case round =>
            obtain ⟨i, hi, rfl, rfl⟩ := hrel
            have hxl := HXl.out
            by_cases hlt : i < xs.length
            · obtain ⟨g, cp, e4, _, hg, _, _, _, hcs, _⟩ := own_shapeK HO6.out (by omega)
              injection e4 with e5 _ e6
              obtain rfl : ch = cp := e6
              subst e5
              have d0 : wr.cell? ⟨g, i, none⟩ = some (.int .u64 (xs.getD i 0)) := by rw [hcs i (by omega)]; simp [hlt]
              obtain ⟨hx1, hx2⟩ := HAt.out i hlt
              obtain ⟨id, hid⟩ : ∃ x, xs.getD i 0 = x := ⟨_, rfl⟩
              rw [hid] at d0 hx1 hx2
              have b1 : (i : Int) < (xs.length : Int) := by omega
              have HHo := Lib.hid (holder_is wr b m n h W0 k HT6.out HnP.out id hx2 c hx1)
              have e7 : (c != c) = false := bne_self_eq_false _
              have HLT := Lib.hid hlt
              clear hcs hid hx1 hx2
              go_wp2_with (fail)
              refine HHo.out.mono ?_
              rintro e w8 ⟨rfl, rfl⟩
              go_wp2_with (fail)
              go_roundw
              case rel => exact ⟨i + 1, HLT.out, by go_num, by first | rfl | trivial⟩
              case measure => simp [intOf]; have := HLT.out; omega
            · have b1 : ¬ (i : Int) < (xs.length : Int) := by omega
              go_wp2_with (fail)
              go_roundw
              case rel => exact ⟨c + 1, by have := HCn.out; omega, by have := HCn.out; omega, by first | rfl | go_num, HB6⟩
              case measure => simp [intOf]; have := HCn.out; omega
      · have hcn2 : ¬ c ≤ (n : Int) := hcn
        go_wp2_with (fail)
        go_ret
        exact ⟨rfl, hB.out⟩
end Go.Proofs.Ytajccnmeijgagaa
