/-
  leveelaw28.LinearNil: the walk.
-/
import Derived.Test.YtdmcakoaakinnaaQzc
namespace Go.Proofs.Ytdmcakoaakinnaa
open Go.RowKit
attribute [local go_sem] Oper.semAt_some
set_option linter.unusedVariables false
set_option linter.unusedSimpArgs false

/-- an era of a row of calls -/
theorem EraAt.row {w : World} {B : Nat} {e : TypeId} {v : Value} {l : List Dn} (h : w.ownsRow B e 11 v l.length (dcells l)) (hn : 0 < l.length) (hp : ∀ d ∈ l, d.ps = []) : ∃ g c, v = .slice (some ⟨g, 0, none⟩) l.length c ∧ DnsAt w (some ⟨g, 0, none⟩) l ∧ (l.length ≤ c ∧ c ≤ maxLen) := by
  obtain ⟨a, c, h1, h2, _⟩ := own_dnsAt h (fun d hd => by rw [hp d hd]; exact PrsAt.nil _ _)
  obtain ⟨g, cap, cur, hv, _, _, hc, hm, _⟩ : ∃ g cap cur, v = .slice (some ⟨g, 0, none⟩) l.length cap ∧ B ≤ g ∧ w.heap[g]? = some (.cells cur e (0, 0)) ∧ l.length ≤ cap ∧ cap ≤ maxLen ∧ cur.size = cap * 11 ∧ cur.toList.take (l.length * 11) = dcells l := by
    rcases h.2 with ⟨_, h0⟩ | h
    · omega
    · exact h
  rw [h1] at hv
  injection hv with e1 e2 e3
  subst e1 e3
  exact ⟨g, c, h1, h2, hc, hm⟩
theorem row_ers {w : World} {ca : Option Addr} {cc : Nat} {l : List Dn} (h : DnsAt w ca l) : ErsAt (w.alloc (.cells (ecellsE [eN ca cc l]).toArray 46)) (some ⟨w.heap.size, 0, none⟩) [eN ca cc l] :=
  blk_ers (Blk.new w _ _) (fun x hx => by obtain rfl := List.mem_singleton.1 hx; exact ⟨h.below (alloc_below w _), PrsAt.nil _ _⟩)
theorem lP_zero : lP 0 = [] := rfl
theorem lM_zero : lM 0 = [] := rfl
theorem lP_pre {w : World} {a : Option Addr} (h : DnsAt w a (lP 61)) : DnsAt w a (lP 60) :=
  ⟨fun _ => by
    obtain ⟨g, o, e, hg, hc⟩ := h.1 (by rw [lP_len]; omega)
    refine ⟨g, o, e, hg, fun i hi j hj => ?_⟩
    rw [lP_len] at hi
    have := hc i (by rw [lP_len]; omega) j hj
    change _ = (dnCells ((lP 61).getD i dnZ))[j]? at this
    show _ = (dnCells ((lP 60).getD i dnZ))[j]?
    rw [lP_get (by omega)] at this
    rw [lP_get hi]
    exact this, fun d hd => by
    obtain ⟨f, t, rfl⟩ := lP_mem hd
    exact PrsAt.nil _ _⟩
theorem lP_lit (a : Option Addr) (c : Nat) : Obj.cells #[.slice a 60 c, .slice none 0 0, .bool false] 46 = .cells (ecellsE [eN a c (lP 60)]).toArray 46 := by simp [ecellsE, erCells, eN, lP_len]
theorem lM_pre {w : World} {a : Option Addr} (h : DnsAt w a (lM 13)) : DnsAt w a (lM 12) :=
  ⟨fun _ => by
    obtain ⟨g, o, e, hg, hc⟩ := h.1 (by rw [lM_len]; omega)
    refine ⟨g, o, e, hg, fun i hi j hj => ?_⟩
    rw [lM_len] at hi
    have := hc i (by rw [lM_len]; omega) j hj
    change _ = (dnCells ((lM 13).getD i dnZ))[j]? at this
    show _ = (dnCells ((lM 12).getD i dnZ))[j]?
    rw [lM_get (by omega)] at this
    rw [lM_get hi]
    exact this, fun d hd => by
    obtain ⟨f, t, rfl⟩ := lM_mem hd
    exact PrsAt.nil _ _⟩
theorem lM_lit (a : Option Addr) (c : Nat) : Obj.cells #[.slice a 12 c, .slice none 0 0, .bool false] 46 = .cells (ecellsE [eN a c (lM 12)]).toArray 46 := by simp [ecellsE, erCells, eN, lM_len]
attribute [local irreducible] lP lM
set_option maxRecDepth 100000 in
set_option maxHeartbeats 8000000 in
theorem nil_v (w : World) : Calls Try.prog 6 #[] w fun e w' => e = .returned (.bool true) ∧ Below w.heap.size w w' := by
  have HB0 := Lib.hid (Below.refl w.heap.size w)
  go_enter Try.func6, Try.ntmps6
  go_wp2_with (fail)
  go_loopw [1, 2] (fun vo iv wr => ∃ k : Nat, k ≤ 61 ∧ iv = .int .i64 k ∧ wr.ownsRow w.heap.size 53 11 vo (lP k).length (dcells (lP k)) ∧ Below w.heap.size w wr) (fun _ iv _ => 61 - (intOf iv).toNat)
  case atStart => exact ⟨0, Nat.zero_le _, rfl, by rw [lP_zero]; exact World.ownsRow_nil _ _ _ _, HB0.out⟩
  case round =>
    obtain ⟨k, hk, rfl, hO, hB⟩ := hrel
    obtain ⟨ao, no, co, rfl⟩ := own_slice hO
    have HB := Lib.hid hB
    have HO := Lib.hid hO
    have hk61 : (k : Int) ≤ 61 := by omega
    clear hO hB
    by_cases hlt : k < 61
    · have hkb : (k : Int) < 61 := by omega
      have HLt := Lib.hid hlt
      clear hlt hk
      go_wp2_with (fail)
      refine (put_v sx (2 * (k : Int)) (2 * (k : Int) + 1) _).mono ?_
      rintro e w2 ⟨rfl, hB2⟩
      have HB2 := Lib.hid (HB.out.trans (hB2.mono HB.out.size))
      have HO2 := Lib.hid (own_keeps HO.out (Keeps.of_below' hB2) (fun _ _ h => h))
      clear hB2
      go_simp
      go_step
      refine wpList_push_dn rfl rfl (.tmp 32) (.tmp 26) 33 rfl rfl rfl (putD sx (2 * (k : Int)) (2 * (k : Int) + 1)) (ev_tmp (by first | rfl | simp)) (.slice ao no co) _ w.heap.size (ev_tmp (by simp [Act.put])) HO2.out (by simp) (by rw [lP_len]; have := HLt.out; omega) HB2.out.size ?_
      intro v7 w7 hO7 hK7
      have HO7 := Lib.hid hO7
      have HB7 := Lib.hid (below_keeps HB2.out (Nat.le_refl _) hK7 (fun i hi => own_base HO2.out i hi))
      clear hO7 hK7
      go_wp2_with (fail)
      go_roundw
      case rel => exact ⟨k + 1, HLt.out, by go_num, by rw [lP_succ]; exact HO7.out, HB7.out⟩
      case measure => have := HLt.out; simp [intOf]; omega
    · obtain rfl : k = 61 := by omega
      clear hk hlt hk61
      go_upto_region 6 with (fail)
      obtain ⟨g1, c1, he1, hD1, hc1⟩ := EraAt.row HO.out (by rw [lP_len]; omega) (fun d hd => by obtain ⟨f, t, rfl⟩ := lP_mem hd; rfl)
      rw [he1]
      clear he1 HO
      rw [lP_len] at hc1
      have HC1 := Lib.hid hc1
      clear hc1
      go_step
      refine wpList_plain rfl (fun K hK => ?_)
      go_simp
      refine hK _ _ ?_
      clear hK K
      refine wpList_plain rfl (fun K hK => ?_)
      go_simp
      refine hK _ _ ?_
      clear hK K
      refine wpList_bs2_pr rfl (.tmp 36) (.tmp 37) rfl ⟨1, ⟨#[]⟩⟩ ⟨1, ⟨#[]⟩⟩ rfl rfl ?_
      have hP : PrsAt (wr.alloc (.cells (pcells [⟨1, ⟨#[]⟩⟩, ⟨1, ⟨#[]⟩⟩]).toArray 59)) (some ⟨wr.heap.size, 0, none⟩) twice := blk_prs (Blk.new wr _ _)
      have hk := alloc_below wr (.cells (pcells [⟨1, ⟨#[]⟩⟩, ⟨1, ⟨#[]⟩⟩]).toArray 59)
      have HB1 := Lib.hid (HB.out.trans (hk.mono HB.out.size))
      have HD1 := Lib.hid (hD1.below hk)
      clear hk hD1
      generalize wr.alloc (.cells (pcells [⟨1, ⟨#[]⟩⟩, ⟨1, ⟨#[]⟩⟩]).toArray 59) = w1 at hP HB1 HD1 ⊢
      generalize wr.heap.size = n1 at hP ⊢
      have HX1 := Lib.hid (explains_v twice [] (some ⟨n1, 0, none⟩) none 2 0 w1 histTwice (fun a _ => keyBTwice a) hP ⟨fun h => absurd h (by simp), fun e h => by cases h⟩)
      clear hP
      go_wp2_with (fail)
      refine HX1.out.mono ?_
      rintro e w2 ⟨b, k, er, rfl, hp, hB⟩
      obtain ⟨rfl, rfl, rfl⟩ := ansTwice hp
      have HB2 := Lib.hid (HB1.out.trans (hB.mono HB1.out.size))
      have HD2 := Lib.hid (HD1.out.below hB)
      clear hp hB HX1 HD1 HB1 HB
      go_wp2_with (fail)
      refine (put_v sx 1 1 _).mono ?_
      rintro e w3 ⟨rfl, hB⟩
      have HB3 := Lib.hid (HB2.out.trans (hB.mono HB2.out.size))
      have HD3 := Lib.hid (HD2.out.below hB)
      clear hB HB2 HD2
      go_simp
      go_step
      refine wpList_bs1_dn rfl (.tmp 44) rfl (putD sx 1 1) (by first | rfl | exact ev_tmp (by simp)) ?_
      refine wpList_plain rfl (fun K hK => ?_)
      go_simp
      refine hK _ _ ?_
      clear hK K
      refine wpList_bs1_er rfl (.tmp 46) rfl (eN (some ⟨w3.heap.size, 0, none⟩) 1 [putD sx 1 1]) (by first | rfl | exact ev_tmp (by simp [Act.put, eN, erCells])) ?_
      have hO : ErsAt ((w3.alloc (.cells (dcells [putD sx 1 1]).toArray 53)).alloc (.cells (ecellsE [eN (some ⟨w3.heap.size, 0, none⟩) 1 [putD sx 1 1]]).toArray 46)) (some ⟨(w3.alloc (.cells (dcells [putD sx 1 1]).toArray 53)).heap.size, 0, none⟩) [eN (some ⟨w3.heap.size, 0, none⟩) 1 [putD sx 1 1]] :=
        row_ers (blk_dns (Blk.new w3 _ _) (fun d hd => by obtain rfl := List.mem_singleton.1 hd; exact PrsAt.nil _ _))
      have e4 : (w3.alloc (.cells (dcells [putD sx 1 1]).toArray 53)).heap.size = w3.heap.size + 1 := by simp
      rw [e4] at hO
      try rw [e4]
      have hk := two_below (Below.refl w3.heap.size w3) (.cells (dcells [putD sx 1 1]).toArray 53) (.cells (ecellsE [eN (some ⟨w3.heap.size, 0, none⟩) 1 [putD sx 1 1]]).toArray 46)
      have HB4 := Lib.hid (HB3.out.trans (hk.mono HB3.out.size))
      have HD4 := Lib.hid (HD3.out.below hk)
      clear hk HB3 HD3
      have HX2 := Lib.hid (explains_v [] [eN (some ⟨w3.heap.size, 0, none⟩) 1 [putD sx 1 1]] none _ 0 1 _ (histOdd _ _) (fun a _ => keyBOdd _ _ a) (PrsAt.nil _ _) hO)
      clear hO
      generalize (w3.alloc (.cells (dcells [putD sx 1 1]).toArray 53)).alloc (.cells (ecellsE [eN (some ⟨w3.heap.size, 0, none⟩) 1 [putD sx 1 1]]).toArray 46) = w4 at HB4 HD4 HX2 ⊢
      generalize w3.heap.size + 1 = n4 at HX2 ⊢
      go_wp2_with (fail)
      refine HX2.out.mono ?_
      rintro e w5 ⟨b, k, er, rfl, hp, hB⟩
      obtain ⟨rfl, rfl, rfl⟩ := ansOdd _ _ hp
      have HB5 := Lib.hid (HB4.out.trans (hB.mono HB4.out.size))
      have HD5 := Lib.hid (HD4.out.below hB)
      clear hp hB HX2 HD4 HB4
      go_upto_region 8 with (fail)
      go_step
      refine wpList_plain rfl (fun K hK => ?_)
      go_simp
      refine hK _ _ ?_
      clear hK K
      refine wpList_plain rfl (fun K hK => ?_)
      go_simp
      refine hK _ _ ?_
      clear hK K
      refine wpList_bs1_er rfl (.tmp 54) rfl (eN (some ⟨g1, 0, none⟩) c1 (lP 61)) rfl ?_
      have hO := row_ers (cc := c1) HD5.out
      have hk := alloc_below w5 (.cells (ecellsE [eN (some ⟨g1, 0, none⟩) c1 (lP 61)]).toArray 46)
      have HB6 := Lib.hid (HB5.out.trans (hk.mono HB5.out.size))
      have HD6 := Lib.hid (HD5.out.below hk)
      clear hk HB5 HD5
      generalize w5.alloc (.cells (ecellsE [eN (some ⟨g1, 0, none⟩) c1 (lP 61)]).toArray 46) = w6 at HB6 HD6 hO ⊢
      generalize w5.heap.size = n5 at hO ⊢
      have HX3 := Lib.hid (explains_v [] [eN (some ⟨g1, 0, none⟩) c1 (lP 61)] none (some ⟨n5, 0, none⟩) 0 1 w6 (lP_hist (some ⟨g1, 0, none⟩) c1 61 (by omega)) (fun a ha => keyB61 (some ⟨g1, 0, none⟩) c1 a ha) (PrsAt.nil _ _) hO)
      clear hO
      go_wp2_with (fail)
      refine HX3.out.mono ?_
      rintro e w7 ⟨b, k, er, rfl, hp, hB⟩
      obtain ⟨rfl, rfl, rfl⟩ := ans61 _ _ hp
      have HB7 := Lib.hid (HB6.out.trans (hB.mono HB6.out.size))
      have HD7 := Lib.hid (HD6.out.below hB)
      clear hp hB HX3 HD6 HB6
      go_upto_region 9 with (fail)
      go_step
      refine wpList_plain rfl (fun K hK => ?_)
      go_simp
      refine hK _ _ ?_
      clear hK K
      refine wpList_plain rfl (fun K hK => ?_)
      go_simp
      refine hK _ _ ?_
      clear hK K
      refine wpList_bs1_er rfl (.tmp 62) rfl (eN (some ⟨g1, 0, none⟩) c1 (lP 61)) rfl ?_
      have hO := row_ers (cc := c1) HD7.out
      have hk := alloc_below w7 (.cells (ecellsE [eN (some ⟨g1, 0, none⟩) c1 (lP 61)]).toArray 46)
      have HB8 := Lib.hid (HB7.out.trans (hk.mono HB7.out.size))
      have HD8 := Lib.hid (HD7.out.below hk)
      clear hk HB7 HD7
      generalize w7.alloc (.cells (ecellsE [eN (some ⟨g1, 0, none⟩) c1 (lP 61)]).toArray 46) = w8 at HB8 HD8 hO ⊢
      generalize w7.heap.size = n7 at hO ⊢
      obtain ⟨U6, hU6⟩ := keyB6 (some ⟨g1, 0, none⟩) c1
      have hH := lP_hist (some ⟨g1, 0, none⟩) c1 61 (by omega)
      have HX4 := Lib.hid (key_v 6 [] [eN (some ⟨g1, 0, none⟩) c1 (lP 61)] none (some ⟨n7, 0, none⟩) 0 1 w8 U6 hU6 (by simp) hH.ll hH.le hH.c hH.v (PrsAt.nil _ _) hO)
      clear hO hH hU6
      go_wp2_with (fail)
      refine HX4.out.mono ?_
      rintro e w9 ⟨b, rfl, hb, hB⟩
      rw [keyE6] at hb ⊢
      obtain rfl : b = true := hb.2 ⟨rfl, keyT6 (some ⟨g1, 0, none⟩) c1⟩
      have HB9 := Lib.hid (HB8.out.trans (hB.mono HB8.out.size))
      have HD9 := Lib.hid (HD8.out.below hB)
      clear hb hB HX4 HD8 HB8
      go_wp2_with (fail)
      have HN9 := Lib.hid (Below.refl w9.heap.size w9)
      go_loopw [14, 15] (fun vo iv wr2 => ∃ k : Nat, k ≤ 13 ∧ iv = .int .i64 k ∧ wr2.ownsRow w9.heap.size 53 11 vo (lM k).length (dcells (lM k)) ∧ Below w9.heap.size w9 wr2) (fun _ iv _ => 13 - (intOf iv).toNat)
      case atStart => exact ⟨0, Nat.zero_le _, rfl, by rw [lM_zero]; exact World.ownsRow_nil _ _ _ _, HN9.out⟩
      case round =>
        obtain ⟨k, hk, rfl, hO, hB⟩ := hrel
        obtain ⟨am, nm, cm, rfl⟩ := own_slice hO
        have HC := Lib.hid hB
        have HO := Lib.hid hO
        have hk61 : (k : Int) ≤ 13 := by omega
        clear hO hB
        by_cases hlt : k < 13
        · have hkb : (k : Int) < 13 := by omega
          have HLt := Lib.hid hlt
          clear hlt hk
          go_wp2_with (fail)
          refine (put_v sx (k : Int) (12 + (k : Int)) _).mono ?_
          rintro e w12 ⟨rfl, hB2⟩
          have HC2 := Lib.hid (HC.out.trans (hB2.mono HC.out.size))
          have HO2 := Lib.hid (own_keeps HO.out (Keeps.of_below' hB2) (fun _ _ h => h))
          clear hB2
          go_simp
          go_step
          refine wpList_push_dn rfl rfl (.tmp 75) (.tmp 71) 76 rfl rfl rfl (putD sx (k : Int) (12 + (k : Int))) (ev_tmp (by first | rfl | simp)) (.slice am nm cm) _ w9.heap.size (ev_tmp (by first | rfl | simp [Act.put])) HO2.out (by simp) (by rw [lM_len]; have := HLt.out; omega) HC2.out.size ?_
          intro v7 w17 hO7 hK7
          have HO7 := Lib.hid hO7
          have HC7 := Lib.hid (below_keeps HC2.out (Nat.le_refl _) hK7 (fun i hi => own_base HO2.out i hi))
          clear hO7 hK7
          go_wp2_with (fail)
          go_roundw
          case rel => exact ⟨k + 1, HLt.out, by go_num, by rw [lM_succ]; exact HO7.out, HC7.out⟩
          case measure => have := HLt.out; simp [intOf]; omega
        · obtain rfl : k = 13 := by omega
          clear hk hlt hk61
          go_upto_region 15 with (fail)
          obtain ⟨g2, c2, he2, hM, hc2⟩ := EraAt.row HO.out (by rw [lM_len]; omega) (fun d hd => by obtain ⟨f, t, rfl⟩ := lM_mem hd; rfl)
          rw [he2]
          have HB10 := Lib.hid (HB9.out.trans (HC.out.mono HB9.out.size))
          have HD10 := Lib.hid (HD9.out.below HC.out)
          have HM10 := Lib.hid hM
          rw [lM_len] at hc2
          have HC2 := Lib.hid hc2
          clear he2 hM HO HC HB9 HD9 HN9 hc2
          go_step
          refine wpList_plain rfl (fun K hK => ?_)
          go_simp
          refine hK _ _ ?_
          clear hK K
          refine wpList_plain rfl (fun K hK => ?_)
          go_simp
          refine hK _ _ ?_
          clear hK K
          refine wpList_bs1_er rfl (.tmp 80) rfl (eN (some ⟨g2, 0, none⟩) c2 (lM 13)) rfl ?_
          have hO := row_ers (cc := c2) HM10.out
          have hk := alloc_below wr (.cells (ecellsE [eN (some ⟨g2, 0, none⟩) c2 (lM 13)]).toArray 46)
          have HB11 := Lib.hid (HB10.out.trans (hk.mono HB10.out.size))
          have HD11 := Lib.hid (HD10.out.below hk)
          have HM11 := Lib.hid (HM10.out.below hk)
          clear hk HB10 HD10 HM10
          generalize wr.alloc (.cells (ecellsE [eN (some ⟨g2, 0, none⟩) c2 (lM 13)]).toArray 46) = w11 at HB11 HD11 HM11 hO ⊢
          generalize wr.heap.size = n11 at hO ⊢
          obtain ⟨U13, hU13⟩ := keyBM (some ⟨g2, 0, none⟩) c2 13 (by omega) 5
          have hH := lM_hist (some ⟨g2, 0, none⟩) c2 13 (by omega)
          have HX5 := Lib.hid (key_v 5 [] [eN (some ⟨g2, 0, none⟩) c2 (lM 13)] none (some ⟨n11, 0, none⟩) 0 1 w11 U13 hU13 (by simp) hH.ll hH.le hH.c hH.v (PrsAt.nil _ _) hO)
          clear hO hH hU13
          go_wp2_with (fail)
          refine HX5.out.mono ?_
          rintro e w12 ⟨b, rfl, hb, hB⟩
          rw [keyE13]
          have HB12 := Lib.hid (HB11.out.trans (hB.mono HB11.out.size))
          have HD12 := Lib.hid (HD11.out.below hB)
          have HM12 := Lib.hid (HM11.out.below hB)
          clear hb hB HX5 HD11 HB11 HM11
          go_upto_region 16 with (fail)
          go_step
          refine wpList_plain rfl (fun K hK => ?_)
          go_simp
          refine hK _ _ ?_
          clear hK K
          refine wpList_plain rfl (fun K hK => ?_)
          go_simp
          refine hK _ _ ?_
          clear hK K
          refine wpList_bs1_pr rfl (.tmp 86) rfl ⟨10, ⟨#[]⟩⟩ rfl ?_
          refine wpList_plain rfl (fun K hK => ?_)
          go_simp
          refine hK _ _ ?_
          clear hK K
          refine wpList_plain rfl (fun K hK => ?_)
          go_simp
          refine hK _ _ ?_
          clear hK K
          refine wpList_anew_dn rfl rfl 18 (.tmp 89) rfl rfl rfl (scD (some ⟨w12.heap.size, 0, none⟩) 1) (by first | rfl | exact ev_tmp (by simp [Act.put, scD, dnCells])) (by simp) ?_
          go_upto_region 17 with (fail)
          have hk0 := alloc_below w12 (.cells (pcells [⟨10, ⟨#[]⟩⟩]).toArray 59)
          have e13 : (w12.alloc (.cells (pcells [⟨10, ⟨#[]⟩⟩]).toArray 59)).heap.size = w12.heap.size + 1 := by simp
          have hp0 : PrsAt (w12.alloc (.cells (pcells [⟨10, ⟨#[]⟩⟩]).toArray 59)) (some ⟨w12.heap.size, 0, none⟩) [⟨10, ⟨#[]⟩⟩] := blk_prs (Blk.new w12 _ _)
          try rw [e13]
          have hk1 := two_below (Below.refl w12.heap.size w12) (.cells (pcells [⟨10, ⟨#[]⟩⟩]).toArray 59) (.cells (dnCells (scD (some ⟨w12.heap.size, 0, none⟩) 1)) 53)
          have hp1 := hp0.below (alloc_below _ (.cells (dnCells (scD (some ⟨w12.heap.size, 0, none⟩) 1)) 53))
          have hs1 : Blk ((w12.alloc (.cells (pcells [⟨10, ⟨#[]⟩⟩]).toArray 59)).alloc (.cells (dnCells (scD (some ⟨w12.heap.size, 0, none⟩) 1)) 53)) (w12.heap.size + 1) (dnCells (scD (some ⟨w12.heap.size, 0, none⟩) 1)) 53 := Blk.newAt e13 _ _
          have HB14 := Lib.hid (HB12.out.trans (hk1.mono HB12.out.size))
          have HD14 := Lib.hid (HD12.out.below hk1)
          have HM14 := Lib.hid (HM12.out.below hk1)
          clear hk0 hk1 e13 hp0 HB12 HD12 HM12
          generalize (w12.alloc (.cells (pcells [⟨10, ⟨#[]⟩⟩]).toArray 59)).alloc (.cells (dnCells (scD (some ⟨w12.heap.size, 0, none⟩) 1)) 53) = w14 at HB14 HD14 HM14 hp1 hs1 ⊢
          generalize w12.heap.size + 1 = n13 at hs1 ⊢
          have HP14 := Lib.hid hp1
          have HS14 := Lib.hid hs1
          clear hp1 hs1
          go_step
          refine wpList_load_dn rfl (.tmp 18) rfl n13 0 (scD (some ⟨w12.heap.size, 0, none⟩) 1) rfl HS14.out.cellsAt ?_
          refine wpList_bs1_dn rfl (.tmp 91) rfl (scD (some ⟨w12.heap.size, 0, none⟩) 1) rfl ?_
          refine wpList_plain rfl (fun K hK => ?_)
          go_simp
          refine hK _ _ ?_
          clear hK K
          refine wpList_bs1_er rfl (.tmp 93) rfl (eN (some ⟨w14.heap.size, 0, none⟩) 1 [scD (some ⟨w12.heap.size, 0, none⟩) 1]) (by first | rfl | exact ev_tmp (by simp [Act.put, eN, erCells])) ?_
          have hO : ErsAt ((w14.alloc (.cells (dcells [scD (some ⟨w12.heap.size, 0, none⟩) 1]).toArray 53)).alloc (.cells (ecellsE [eN (some ⟨w14.heap.size, 0, none⟩) 1 [scD (some ⟨w12.heap.size, 0, none⟩) 1]]).toArray 46)) (some ⟨(w14.alloc (.cells (dcells [scD (some ⟨w12.heap.size, 0, none⟩) 1]).toArray 53)).heap.size, 0, none⟩) [eN (some ⟨w14.heap.size, 0, none⟩) 1 [scD (some ⟨w12.heap.size, 0, none⟩) 1]] :=
            row_ers (blk_dns (Blk.new w14 _ _) (fun d hd => by obtain rfl := List.mem_singleton.1 hd; exact HP14.out.below (alloc_below _ _)))
          have e15 : (w14.alloc (.cells (dcells [scD (some ⟨w12.heap.size, 0, none⟩) 1]).toArray 53)).heap.size = w14.heap.size + 1 := by simp
          rw [e15] at hO
          try rw [e15]
          have hk := two_below (Below.refl w14.heap.size w14) (.cells (dcells [scD (some ⟨w12.heap.size, 0, none⟩) 1]).toArray 53) (.cells (ecellsE [eN (some ⟨w14.heap.size, 0, none⟩) 1 [scD (some ⟨w12.heap.size, 0, none⟩) 1]]).toArray 46)
          have HB15 := Lib.hid (HB14.out.trans (hk.mono HB14.out.size))
          have HD15 := Lib.hid (HD14.out.below hk)
          have HM15 := Lib.hid (HM14.out.below hk)
          clear hk e15 HB14 HD14 HM14
          have HX6 := Lib.hid (explains_v [] [eN (some ⟨w14.heap.size, 0, none⟩) 1 [scD (some ⟨w12.heap.size, 0, none⟩) 1]] none _ 0 1 _ (histSc _ _ _ _) (fun a ha => absurd ha (namedSc _ _ _ _ a)) (PrsAt.nil _ _) hO)
          clear hO
          generalize (w14.alloc (.cells (dcells [scD (some ⟨w12.heap.size, 0, none⟩) 1]).toArray 53)).alloc (.cells (ecellsE [eN (some ⟨w14.heap.size, 0, none⟩) 1 [scD (some ⟨w12.heap.size, 0, none⟩) 1]]).toArray 46) = w15 at HB15 HD15 HM15 HX6 ⊢
          generalize w14.heap.size + 1 = n15 at HX6 ⊢
          go_wp2_with (fail)
          refine HX6.out.mono ?_
          rintro e w16 ⟨b6, k6, er6, rfl, hp6, hB⟩
          obtain ⟨rfl, rfl, rfl⟩ := ansSc _ _ _ _ hp6
          have HB16 := Lib.hid (HB15.out.trans (hB.mono HB15.out.size))
          have HD16 := Lib.hid (HD15.out.below hB)
          have HM16 := Lib.hid (HM15.out.below hB)
          clear hp6 hB HX6 HB15 HD15 HM15
          go_wp2_with (fail)
          refine (explained_v [] none 0 w16 yesNil ⟨fun h => absurd h (by simp), fun e h => by cases h⟩).mono ?_
          rintro e w18 ⟨rfl, hB⟩
          have HB18 := Lib.hid (HB16.out.trans (hB.mono HB16.out.size))
          have HD18 := Lib.hid (HD16.out.below hB)
          have HM18 := Lib.hid (HM16.out.below hB)
          clear hB HB16 HD16 HM16
          obtain ⟨hc1, hm1⟩ := HC1.out
          obtain ⟨hc2, hm2⟩ := HC2.out
          unfold maxLen at hm1 hm2
          have hx1 : (60 : Int) ≤ (c1 : Int) := by omega
          have hx2 : (12 : Int) ≤ (c2 : Int) := by omega
          clear hc1 hm1 hc2 hm2
          rw [lP_len, lM_len]
          go_wp2_with (fail)
          rw [lP_lit]
          have HX7 := Lib.hid (explained_v _ _ 1 _ (yes60 (some ⟨g1, 0, none⟩) c1) (row_ers (cc := c1) (lP_pre HD18.out)))
          have hk := alloc_below w18 (.cells (ecellsE [eN (some ⟨g1, 0, none⟩) c1 (lP 60)]).toArray 46)
          have HB19 := Lib.hid (HB18.out.trans (hk.mono HB18.out.size))
          have HM19 := Lib.hid (HM18.out.below hk)
          clear hk
          refine HX7.out.mono ?_
          rintro e w20 ⟨rfl, hB⟩
          have HB20 := Lib.hid (HB19.out.trans (hB.mono HB19.out.size))
          have HM20 := Lib.hid (HM19.out.below hB)
          clear hB HX7 HB19 HM19 HB18 HM18 HD18
          go_wp2_with (fail)
          rw [lM_lit]
          have HX8 := Lib.hid (explained_v _ _ 1 _ (yes12 (some ⟨g2, 0, none⟩) c2) (row_ers (cc := c2) (lM_pre HM20.out)))
          have hk := alloc_below w20 (.cells (ecellsE [eN (some ⟨g2, 0, none⟩) c2 (lM 12)]).toArray 46)
          have HB21 := Lib.hid (HB20.out.trans (hk.mono HB20.out.size))
          clear hk
          refine HX8.out.mono ?_
          rintro e w22 ⟨rfl, hB⟩
          have HB22 := Lib.hid (HB21.out.trans (hB.mono HB21.out.size))
          clear hB HX8
          go_wp2_with (fail)
          refine (known_v _).mono ?_
          rintro e w23 ⟨rfl, hB⟩
          go_wp2_with (fail)
          go_ret
          exact ⟨rfl, HB22.out.trans (hB.mono HB22.out.size)⟩
end Go.Proofs.Ytdmcakoaakinnaa
