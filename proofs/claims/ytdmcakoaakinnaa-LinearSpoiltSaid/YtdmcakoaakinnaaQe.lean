/-
  linear.rise, May, Whole, Tells: contracts.
-/
import Derived.Test.YtdmcakoaakinnaaQd
namespace Go.Proofs.Ytdmcakoaakinnaa
open Go.RowKit
attribute [local go_sem] Oper.semAt_some
set_option linter.unusedVariables false
set_option linter.unusedSimpArgs false

theorem riseP_iff (l : List Pr) : riseP l = true ↔ ∀ i, i + 1 < l.length → (l.getD i prZ).key < (l.getD (i + 1) prZ).key := by
  unfold riseP
  rw [List.all_eq_true]
  constructor
  · intro h i hi
    exact of_decide_eq_true (h i (List.mem_range.2 (by omega)))
  · intro h i hi
    exact decide_eq_true (h i (by have := List.mem_range.1 hi; omega))
set_option maxRecDepth 100000 in
set_option maxHeartbeats 1600000 in
theorem rise_v (l : List Pr) (a : Option Addr) (cap : Nat) (w : World) (hm : l.length ≤ 9223372036854775807) (hE : PrsAt w a l) :
    Calls Try.prog 38 #[.slice a l.length cap] w fun e w' => e = .returned (.bool (riseP l)) ∧ Below w.heap.size w w' := by
  have FIN := Lib.hid (fun (r : Bool) (hr : riseP l = r) => show Ending.returned (.bool r) = .returned (.bool (riseP l)) by rw [hr])
  have HE := Lib.hid hE
  clear hE
  go_enter Try.func38, Try.ntmps38
  go_wp2_with (fail)
  go_loopw [3] (fun iv wr => ∃ j : Nat, j ≤ l.length ∧ iv = .int .i64 ((j : Int) + 1) ∧ Hid (∀ i, i + 1 < l.length → i < j → (l.getD i prZ).key < (l.getD (i + 1) prZ).key) ∧ Below w.heap.size w wr) (fun iv _ => l.length + 1 - (intOf iv).toNat)
  case atStart => exact ⟨0, Nat.zero_le _, rfl, Lib.hid (fun i _ h => absurd h (by omega)), Below.refl _ _⟩
  case round =>
    obtain ⟨j, hj, rfl, hR, hB⟩ := hrel
    have HB := Lib.hid hB
    by_cases hlt : j + 1 < l.length
    · obtain ⟨g, o, rfl, hg, hc⟩ := (HE.out.below hB) (by omega)
      have h1 := hc (j + 1) hlt 0 (by decide)
      have h0 := hc j (by omega) 0 (by decide)
      obtain ⟨p1, hp1⟩ : ∃ x, l.getD (j + 1) prZ = x := ⟨_, rfl⟩
      obtain ⟨p0, hp0⟩ : ∃ x, l.getD j prZ = x := ⟨_, rfl⟩
      simp only [hp1] at h1
      simp only [hp0] at h0
      have HP := Lib.hid (And.intro hp0 hp1)
      have HC := Lib.hid (fun W (hW : Below w.heap.size w W) => (show W.cell? ⟨g, o + j * 2, none⟩ = some (.int .u64 p0.key) ∧ W.cell? ⟨g, o + (j + 1) * 2, none⟩ = some (.int .u64 p1.key) by
        obtain ⟨g', o', e, _, hc'⟩ := (HE.out.below hW) (by omega)
        cases e
        have h1 := hc' (j + 1) hlt 0 (by decide)
        have h0 := hc' j (by omega) 0 (by decide)
        simp only [hp1] at h1
        simp only [hp0] at h0
        exact ⟨h0, h1⟩))
      have HW := Lib.hid (show IntKind.i64.wrap (j : Int) = (j : Int) from IntWalk.i64_in _ (by omega))
      have HJ0 := Lib.hid (show (j : Int) < (l.length : Int) from by omega)
      have HJ1 := Lib.hid (show (j : Int) + 1 < (l.length : Int) from by omega)
      have HLt := Lib.hid hlt
      have hjb : (j : Int) + 1 < (l.length : Int) := by omega
      clear hB hc h0 h1 hp0 hp1 hg hlt hj
      go_wp2_with (fail)
      clear hjb
      --GEN r_rise4
      refine wp_region_vals [Is (.slice (some ⟨g, o, none⟩) l.length cap), Is (.int .i64 ((j : Int) + 1)), Is (.pointer (some ⟨g, o + (j + 1) * 2, none⟩)), Is (.pointer (some ⟨g, o + (j + 1) * 2, none⟩)), Is (.int .u64 p1.key), Is (.slice (some ⟨g, o, none⟩) l.length cap), Is (.int .i64 ((j : Int) + 1)), Is (.int .i64 (j : Int)), Is (.pointer (some ⟨g, o + j * 2, none⟩)), Is (.pointer (some ⟨g, o + j * 2, none⟩)), Is (.int .u64 p0.key), Is (.bool (decide (p1.key ≤ p0.key)))]
        (fun _ W W' => Below w.heap.size w W → Below w.heap.size w W') (fun _ W => Below w.heap.size w W) (by kernel_rfl) (by kernel_rfl) (by kernel_rfl) ?hst ?h0 ⟨?o0, ?o1, ?o2, ?o3, ?o4, ?o5, ?o6, ?o7, ?o8, ?o9, ?o10, ?o11, trivial⟩ ?he
      case hst =>
        exact ⟨(fun _ _ _ _ _ _ h _ => h), (fun _ _ _ _ _ _ h _ => h), (fun _ _ _ _ _ _ h _ => h), (fun _ _ _ _ _ _ h _ => h), (fun _ _ _ _ _ _ h _ => h), (fun _ _ _ _ _ _ h _ => h), (fun _ _ _ _ _ _ h _ => h), (fun _ _ _ _ _ _ h _ => h), (fun _ _ _ _ _ _ h _ => h), (fun _ _ _ _ _ _ h _ => h), (fun _ _ _ _ _ _ h _ => h), (fun _ _ _ _ _ _ h _ => h), trivial⟩
      case h0 =>
        exact HB.out.drew
      case o0 =>
        intro L vs A W H hf hd K hK
        have e0 : A.tmps[0]?.getD undef = .slice (some ⟨g, o, none⟩) l.length cap := H.old 0 (by kernel_rfl)
        go_simp
        exact hK _ _ (fun h => h) rfl (H.glob)
      case o1 =>
        intro L vs A W H hf hd K hK
        have e3 : A.tmps[3]?.getD undef = .int .i64 ((j : Int) + 1) := H.old 3 (by kernel_rfl)
        go_simp
        exact hK _ _ (fun h => h) rfl (H.glob)
      case o2 =>
        intro L vs A W H hf hd K hK
        have e10 := H.is 0 10 rfl rfl rfl (deps_of' hd 0 (by kernel_rfl)) (by kernel_rfl)
        have e11 := H.is 1 11 rfl rfl rfl (deps_of' hd 1 (by kernel_rfl)) (by kernel_rfl)
        have hj1 := HJ1.out
        go_simp
        exact hK _ _ (fun h => h) rfl (H.glob)
      case o3 =>
        intro L vs A W H hf hd K hK
        have e12 := H.is 2 12 rfl rfl rfl (deps_of' hd 2 (by kernel_rfl)) (by kernel_rfl)
        go_simp
        exact hK _ _ (fun h => h) rfl (H.glob)
      case o4 =>
        intro L vs A W H hf hd K hK
        have e13 := H.is 3 13 rfl rfl rfl (deps_of' hd 3 (by kernel_rfl)) (by kernel_rfl)
        have d : W.cell? ⟨g, o + (j + 1) * 2, none⟩ = some (.int .u64 p1.key) := (HC.out W H.glob).2
        go_simp
        exact hK _ _ (fun h => h) rfl (H.glob)
      case o5 =>
        intro L vs A W H hf hd K hK
        have e0 : A.tmps[0]?.getD undef = .slice (some ⟨g, o, none⟩) l.length cap := H.old 0 (by kernel_rfl)
        go_simp
        exact hK _ _ (fun h => h) rfl (H.glob)
      case o6 =>
        intro L vs A W H hf hd K hK
        have e3 : A.tmps[3]?.getD undef = .int .i64 ((j : Int) + 1) := H.old 3 (by kernel_rfl)
        go_simp
        exact hK _ _ (fun h => h) rfl (H.glob)
      case o7 =>
        intro L vs A W H hf hd K hK
        have e16 := H.is 6 16 rfl rfl rfl (deps_of' hd 6 (by kernel_rfl)) (by kernel_rfl)
        have hw := HW.out
        go_simp
        exact hK _ _ (fun h => h) rfl (H.glob)
      case o8 =>
        intro L vs A W H hf hd K hK
        have e15 := H.is 5 15 rfl rfl rfl (deps_of' hd 5 (by kernel_rfl)) (by kernel_rfl)
        have e17 := H.is 7 17 rfl rfl rfl (deps_of' hd 7 (by kernel_rfl)) (by kernel_rfl)
        have hj0 := HJ0.out
        go_simp
        exact hK _ _ (fun h => h) rfl (H.glob)
      case o9 =>
        intro L vs A W H hf hd K hK
        have e18 := H.is 8 18 rfl rfl rfl (deps_of' hd 8 (by kernel_rfl)) (by kernel_rfl)
        go_simp
        exact hK _ _ (fun h => h) rfl (H.glob)
      case o10 =>
        intro L vs A W H hf hd K hK
        have e19 := H.is 9 19 rfl rfl rfl (deps_of' hd 9 (by kernel_rfl)) (by kernel_rfl)
        have d : W.cell? ⟨g, o + j * 2, none⟩ = some (.int .u64 p0.key) := (HC.out W H.glob).1
        go_simp
        exact hK _ _ (fun h => h) rfl (H.glob)
      case o11 =>
        intro L vs A W H hf hd K hK
        have e14 := H.is 4 14 rfl rfl rfl (deps_of' hd 4 (by kernel_rfl)) (by kernel_rfl)
        have e20 := H.is 10 20 rfl rfl rfl (deps_of' hd 10 (by kernel_rfl)) (by kernel_rfl)
        go_simp
        exact hK _ _ (fun h => h) rfl (H.glob)
      case he =>
        intro vs W hlen hv
        match vs, hlen, hv with
        | [x0_, x1_, x2_, x3_, x4_, x5_, x6_, x7_, x8_, x9_, x10_, x11_], _, hv =>
        obtain rfl : (.slice (some ⟨g, o, none⟩) l.length cap) = x0_ := by obtain ⟨z, h1, h2⟩ := hv 0 _ rfl; cases h1; exact h2.symm
        obtain rfl : (.int .i64 ((j : Int) + 1)) = x1_ := by obtain ⟨z, h1, h2⟩ := hv 1 _ rfl; cases h1; exact h2.symm
        obtain rfl : (.pointer (some ⟨g, o + (j + 1) * 2, none⟩)) = x2_ := by obtain ⟨z, h1, h2⟩ := hv 2 _ rfl; cases h1; exact h2.symm
        obtain rfl : (.pointer (some ⟨g, o + (j + 1) * 2, none⟩)) = x3_ := by obtain ⟨z, h1, h2⟩ := hv 3 _ rfl; cases h1; exact h2.symm
        obtain rfl : (.int .u64 p1.key) = x4_ := by obtain ⟨z, h1, h2⟩ := hv 4 _ rfl; cases h1; exact h2.symm
        obtain rfl : (.slice (some ⟨g, o, none⟩) l.length cap) = x5_ := by obtain ⟨z, h1, h2⟩ := hv 5 _ rfl; cases h1; exact h2.symm
        obtain rfl : (.int .i64 ((j : Int) + 1)) = x6_ := by obtain ⟨z, h1, h2⟩ := hv 6 _ rfl; cases h1; exact h2.symm
        obtain rfl : (.int .i64 (j : Int)) = x7_ := by obtain ⟨z, h1, h2⟩ := hv 7 _ rfl; cases h1; exact h2.symm
        obtain rfl : (.pointer (some ⟨g, o + j * 2, none⟩)) = x8_ := by obtain ⟨z, h1, h2⟩ := hv 8 _ rfl; cases h1; exact h2.symm
        obtain rfl : (.pointer (some ⟨g, o + j * 2, none⟩)) = x9_ := by obtain ⟨z, h1, h2⟩ := hv 9 _ rfl; cases h1; exact h2.symm
        obtain rfl : (.int .u64 p0.key) = x10_ := by obtain ⟨z, h1, h2⟩ := hv 10 _ rfl; cases h1; exact h2.symm
        obtain rfl : (.bool (decide (p1.key ≤ p0.key))) = x11_ := by obtain ⟨z, h1, h2⟩ := hv 11 _ rfl; cases h1; exact h2.symm
        intro L hall hG
        clear hv hlen
        have HG := Lib.hid hG
        clear hG hall
        simp only [fill, if_true]
        simp [Act.put]
      --END
        by_cases hle : p1.key ≤ p0.key
        · have hr : riseP l = false := by
            refine Bool.eq_false_iff.2 (fun h => ?_)
            have := (riseP_iff l).1 h j HLt.out
            rw [HP.out.1, HP.out.2] at this
            omega
          have HR := Lib.hid hr
          clear hr
          go_wp2_with (fail)
          go_ret
          exact ⟨FIN.out _ HR.out, HG.out⟩
        · have HLe := Lib.hid hle
          have hjs := HJ1.out
          go_wp2_with (fail)
          go_roundw
          case rel => exact ⟨j + 1, by have := HLt.out; omega, by go_num, Lib.hid (fun i hi hij => by
            by_cases e : i = j
            · subst e; rw [HP.out.1, HP.out.2]; have := HLe.out; omega
            · exact hR.out i hi (by omega)), HG.out⟩
          case measure => have := HLt.out; simp [intOf]; omega
    · have hr : riseP l = true := (riseP_iff l).2 (fun i hi => hR.out i hi (by omega))
      have HR := Lib.hid hr
      have hjb : ¬ ((j : Int) + 1 < (l.length : Int)) := by omega
      clear hB hr hlt
      go_wp2_with (fail)
      go_ret
      exact ⟨FIN.out _ HR.out, HB.out⟩
theorem ErsAt.at_ {w : World} {a : Option Addr} {l : List Er} (h : ErsAt w a l) {k : Nat} (hk : k < l.length) : ∃ g o, a = some ⟨g, o, none⟩ ∧ g < w.heap.size ∧ cellsAt w g (o + k * 3) (erCells (l.getD k erZ)) := by
  obtain ⟨g, o, e, hg, hc⟩ := h.1 (by omega)
  refine ⟨g, o, e, hg, fun j v hj => ?_⟩
  have hjn : j < 3 := by have := (Array.getElem?_eq_some_iff.1 hj).1; exact this
  rw [hc k hk j hjn]; exact hj
theorem DnsAt.at_ {w : World} {a : Option Addr} {l : List Dn} (h : DnsAt w a l) {k : Nat} (hk : k < l.length) : ∃ g o, a = some ⟨g, o, none⟩ ∧ g < w.heap.size ∧ cellsAt w g (o + k * 11) (dnCells (l.getD k dnZ)) := by
  obtain ⟨g, o, e, hg, hc⟩ := h.1 (by omega)
  refine ⟨g, o, e, hg, fun j v hj => ?_⟩
  have hjn : j < 11 := by have := (Array.getElem?_eq_some_iff.1 hj).1; exact this
  rw [hc k hk j hjn]; exact hj
/-- lengths are what Go's ints let -/
def DnL (d : Dn) : Prop := d.ps.length ≤ 9223372036854775807
def ErL (e : Er) : Prop := e.cs.length ≤ 9223372036854775807 ∧ e.af.length ≤ 9223372036854775807 ∧ ∀ d ∈ e.cs, DnL d
def mayE (e : Er) : Bool := !(e.cs.any oddP) && riseP e.af
set_option maxRecDepth 100000 in
set_option maxHeartbeats 1600000 in
theorem may_v (first : List Pr) (l : List Er) (a1 a2 : Option Addr) (cap1 cap9 : Nat) (w : World) (hm1 : first.length ≤ 9223372036854775807) (hm : l.length ≤ 9223372036854775807) (hL : ∀ e ∈ l, ErL e) (hF : PrsAt w a1 first) (hE : ErsAt w a2 l) :
    Calls Try.prog 17 #[.slice a1 first.length cap1, .slice a2 l.length cap9] w fun e w' => e = .returned (.bool (mayP first l)) ∧ Below w.heap.size w w' := by
  have FIN := Lib.hid (fun (r : Bool) (hr : mayP first l = r) => show Ending.returned (.bool r) = .returned (.bool (mayP first l)) by rw [hr])
  have HE := Lib.hid hE
  have HL := Lib.hid hL
  have HRf := Lib.hid (fun W (hW : Below w.heap.size w W) => rise_v first a1 cap1 W hm1 (hF.below hW))
  have HMl := Lib.hid hm
  clear hE hL hF hm1
  go_enter Try.func17, Try.ntmps17
  go_wp2_with (fail)
  go_loopw [10] (fun iv wr => ∃ k : Nat, k ≤ l.length ∧ iv = .int .i64 k ∧ Hid ((l.take k).all mayE = true) ∧ Below w.heap.size w wr) (fun iv _ => l.length - (intOf iv).toNat)
  case atStart => exact ⟨0, Nat.zero_le _, rfl, Lib.hid rfl, Below.refl _ _⟩
  case round =>
    obtain ⟨k, hk, rfl, hR, hB⟩ := hrel
    have HB := Lib.hid hB
    by_cases hlt : k < l.length
    · obtain ⟨g, o, rfl, hg, hc⟩ := (HE.out.below hB).at_ hlt
      obtain ⟨d, hd⟩ : ∃ x, l.getD k erZ = x := ⟨_, rfl⟩
      rw [hd] at hc
      have HCl := Lib.hid hc
      have HLt := Lib.hid hlt
      have HD := Lib.hid hd
      have hmem : d ∈ l := by rw [← hd]; exact getD_memL l k erZ hlt
      have hErL := HL.out d hmem
      have hErA := HE.out.2 d hmem
      have hB1 := hB.alloc hB.size (.cells (erCells d) 46)
      have HOdd := Lib.hid (fun W (hW : Below w.heap.size w W) => idxMC d.cs d.ca d.cc W hErL.1 (hErA.1.below hW) oddP (fun x W2 _ _ => odd_v x W2))
      have HRa := Lib.hid (fun W (hW : Below w.heap.size w W) => rise_v d.af d.aa d.ac W hErL.2.1 (hErA.2.below hW))
      have HB1 := Lib.hid hB1
      have hkb : (k : Int) < (l.length : Int) := by omega
      clear hc hd hmem hErL hErA hB hB1 hlt hk
      go_upto_region 5 with (first
        | (with_reducible refine wpList_idx_er ?h1 ?h2 (.tmp 8) (.tmp 10) 12 ?hd ?ho1 ?ho2 g o l.length cap9 k d ?hx ?hy ?hk ?hs ?hc ?_; (case h1 => rfl); (case h2 => rfl); (case hd => rfl); (case ho1 => rfl); (case ho2 => rfl); (case hx => exact ev_tmp (by simp)); (case hy => exact ev_tmp (by simp)); (case hk => exact HLt.out); (case hs => simp); (case hc => exact HCl.out))
        | (with_reducible refine wpList_anew_er ?a1 ?a2 7 (.tmp 13) ?ad ?ao1 ?ao2 d ?ay ?az ?_; (case a1 => rfl); (case a2 => rfl); (case ad => rfl); (case ao1 => rfl); (case ao2 => rfl); (case ay => exact ev_tmp (by simp [Act.put])); (case az => simp [Act.put])))
      have hb := Blk.new wr (erCells d) 46
      generalize wr.alloc (.cells (erCells d) 46) = W1 at HB1 hb ⊢
      generalize wr.heap.size = nb at hb ⊢
      have HBk := Lib.hid hb
      have c0 : W1.cell? ⟨nb, 0, none⟩ = some (.slice d.ca d.cs.length d.cc) := by rw [hb.cell]; rfl
      clear hb
      go_wp2_with (fail)
      refine (HOdd.out W1 HB1.out).mono ?_
      rintro e W2 ⟨rfl, hB2⟩
      have c1 : W2.cell? ⟨nb, 1, none⟩ = some (.slice d.aa d.af.length d.ac) := by rw [(HBk.out.kept (Keeps.of_below' hB2) (fun h => h)).cell]; rfl
      have HB2 := Lib.hid (HB1.out.trans (hB2.mono HB1.out.size))
      clear hB2 c0
      cases ho : d.cs.any oddP with
      | true =>
        have hr : mayP first l = false := by
          unfold mayP
          rw [Bool.and_eq_false_iff]
          refine .inl (Bool.eq_false_iff.2 (fun h => ?_))
          have := List.all_eq_true.1 h d (by rw [← HD.out]; exact getD_memL l k erZ HLt.out)
          simp [ho] at this
        have HF := Lib.hid (FIN.out false hr)
        clear ho hr
        go_wp2_with (fail)
        go_ret
        exact ⟨HF.out, HB2.out⟩
      | false =>
        have HO := Lib.hid ho
        clear ho
        go_wp2_with (fail)
        refine (HRa.out W2 HB2.out).mono ?_
        rintro e W3 ⟨rfl, hB3⟩
        have HB3 := Lib.hid (HB2.out.trans (hB3.mono HB2.out.size))
        clear hB3 c1
        cases ha : riseP d.af with
        | false =>
          have hr : mayP first l = false := by
            unfold mayP
            rw [Bool.and_eq_false_iff]
            refine .inl (Bool.eq_false_iff.2 (fun h => ?_))
            have := List.all_eq_true.1 h d (by rw [← HD.out]; exact getD_memL l k erZ HLt.out)
            simp [ha] at this
          have HF := Lib.hid (FIN.out false hr)
          clear ha hr
          go_wp2_with (fail)
          go_ret
          exact ⟨HF.out, HB3.out⟩
        | true =>
          have hst : (l.take (k + 1)).all mayE = true := by
            have hk1 := HLt.out
            rw [List.take_add_one, List.all_append, hR.out, List.getElem?_eq_getElem hk1]
            have e : l[k] = d := by rw [← HD.out]; exact (getD_eq l k erZ hk1).symm
            simp [e, mayE, HO.out, ha]
          have HS := Lib.hid hst
          clear hst ha
          go_wp2_with (fail)
          go_roundw
          case rel => exact ⟨k + 1, HLt.out, by go_num, HS.out, HB3.out⟩
          case measure => have := HLt.out; simp [intOf]; omega
    · have hall : l.all mayE = true := by have := hR.out; rwa [List.take_of_length_le (by omega)] at this
      have HR2 := Lib.hid (show mayP first l = riseP first from by unfold mayP; rw [show (l.all fun e => !(e.cs.any oddP) && riseP e.af) = true from hall, Bool.true_and])
      have hkb : ¬ ((k : Int) < (l.length : Int)) := by omega
      clear hB hall hlt hk
      go_wp2_with (fail)
      refine (HRf.out wr HB.out).mono ?_
      rintro e W3 ⟨rfl, hB3⟩
      go_wp2_with (fail)
      go_ret
      exact ⟨FIN.out _ HR2.out, HB.out.trans (hB3.mono HB.out.size)⟩
end Go.Proofs.Ytdmcakoaakinnaa
