/-
  linear.Explains: contract.
-/
import Derived.Test.YtdmcakoaakinnaaQq
namespace Go.Proofs.Ytdmcakoaakinnaa
open Go.RowKit Go.Maps
attribute [local go_sem] Oper.semAt_some
set_option linter.unusedVariables false
set_option linter.unusedSimpArgs false

def tornP (d : Dn) : Bool := decide (d.op = 4) && okP d && !wholeP d
set_option maxRecDepth 100000 in
set_option maxHeartbeats 4000000 in
theorem torn_v (d : Dn) (w : World) (hm : DnL d) (hE : PrsAt w d.pa d.ps) : Calls Try.prog 33 #[.agg (dnCells d)] w fun e w' => e = .returned (.bool (tornP d)) ∧ Below w.heap.size w w' := by
  have FIN := Lib.hid (fun (r : Bool) (hr : tornP d = r) => show Ending.returned (.bool r) = .returned (.bool (tornP d)) by rw [hr])
  have HWh := Lib.hid (fun W (hW : Below w.heap.size w W) => whole_v d W hm (hE.below hW))
  clear hm hE
  go_enter Try.func33, Try.ntmps33
  go_upto_region 1 with (fail)
  have hb := Blk.new w (dnCells d) 53
  have hB1 := (Below.refl w.heap.size w).alloc (Nat.le_refl _) (.cells (dnCells d) 53)
  generalize w.alloc (.cells (dnCells d) 53) = w1 at hb hB1 ⊢
  obtain ⟨nb, hnb⟩ : ∃ nb, w.heap.size = nb := ⟨_, rfl⟩
  rw [hnb] at hb
  simp only [hnb]
  have HNE := Lib.hid hnb
  have HB1 := Lib.hid hB1
  have HBk := Lib.hid hb
  have c1 : w1.cell? ⟨nb, 1, none⟩ = some (.int .i64 d.op) := by rw [hb.cell]; rfl
  clear hb hB1 hnb
  by_cases h4 : d.op = 4
  · have e4 : (d.op == 4) = true := beq_iff_eq.2 h4
    have H4 := Lib.hid h4
    clear h4
    go_step
    refine wpList_plain rfl (fun K hK => ?_)
    go_simp
    refine hK _ _ ?_
    clear hK K
    refine wpList_plain rfl (fun K hK => ?_)
    go_simp
    refine hK _ _ ?_
    clear hK K
    refine wpList_plain rfl (fun K hK => ?_)
    go_simp
    refine hK _ _ ?_
    clear hK K
    refine wpList_plain rfl (fun K hK => ?_)
    go_simp
    refine hK _ _ ?_
    clear hK K
    refine wpList_plain rfl (fun K hK => ?_)
    go_simp
    refine hK _ _ ?_
    clear hK K
    refine wpList_load_dn rfl (.tmp 1) rfl nb 0 d (ev_tmp (by simp)) HBk.out.cellsAt ?_
    clear c1
    go_wp2_with (fail)
    refine (ok_v d w1).mono ?_
    rintro e w2 ⟨rfl, hB2⟩
    have HBk2 := Lib.hid (HBk.out.kept (Keeps.of_below' hB2) (fun h => h))
    have HB2 := Lib.hid (HB1.out.trans (hB2.mono HB1.out.size))
    clear hB2
    cases ho : okP d with
    | false =>
      have HF := Lib.hid (FIN.out false (by unfold tornP; simp [ho]))
      clear ho
      go_wp2_with (fail)
      go_ret
      exact ⟨HF.out, HB2.out⟩
    | true =>
      have HO := Lib.hid ho
      clear ho
      go_simp
      go_step
      refine wpList_plain rfl (fun K hK => ?_)
      go_simp
      refine hK _ _ ?_
      clear hK K
      refine wpList_plain rfl (fun K hK => ?_)
      go_simp
      refine hK _ _ ?_
      clear hK K
      refine wpList_load_dn rfl (.tmp 1) rfl nb 0 d (ev_tmp (by simp)) HBk2.out.cellsAt ?_
      go_wp2_with (fail)
      refine (HWh.out w2 HB2.out).mono ?_
      rintro e w3 ⟨rfl, hB3⟩
      have HB3 := Lib.hid (HB2.out.trans (hB3.mono HB2.out.size))
      have HF := Lib.hid (FIN.out (!wholeP d) (by unfold tornP; simp [H4.out, HO.out]))
      clear hB3
      cases hw : wholeP d
      · rw [hw] at HF
        go_wp2_with (fail)
        go_ret
        exact ⟨HF.out, HB3.out⟩
      · rw [hw] at HF
        go_wp2_with (fail)
        go_ret
        exact ⟨HF.out, HB3.out⟩
  · have HF := Lib.hid (FIN.out false (by unfold tornP; simp [h4]))
    have e4 : (d.op == 4) = false := beq_eq_false_iff_ne.2 h4
    clear h4
    go_wp2_with (fail)
    go_ret
    exact ⟨HF.out, HB1.out⟩
/-- what Explains answers -/
def ExP (first : List Pr) (l : List Er) (b : Bool) (k er : Int) : Prop :=
  (mayP first l = false ∧ b = false ∧ k = 0 ∧ er = 2) ∨ (mayP first l = true ∧ (
    (∃ a, named first l a ∧ keyE a first l ≠ 0 ∧ (∀ a', a' < a → named first l a' → keyE a' first l = 0 ∧ KeyT a' first l) ∧ b = false ∧ k = 0 ∧ er = keyE a first l) ∨
    (∃ a, named first l a ∧ keyE a first l = 0 ∧ ¬ KeyT a first l ∧ (∀ a', a' < a → named first l a' → keyE a' first l = 0 ∧ KeyT a' first l) ∧ b = false ∧ k = a ∧ er = 0) ∨
    ((∀ a, named first l a → keyE a first l = 0 ∧ KeyT a first l) ∧ b = !(l.any fun e => e.cs.any tornP) ∧ k = 0 ∧ er = 0)))
def ExQ (first : List Pr) (l : List Er) (w : World) (e : Ending) (w' : World) : Prop :=
  ∃ b k er, e = .returned (.tuple #[.bool b, .int .u64 k, .int .i64 er]) ∧ ExP first l b k er ∧ Below w.heap.size w w'
/-- what a history must be for the walk -/
structure HistB (first : List Pr) (l : List Er) : Prop where
  fl : first.length ≤ 1000000
  ll : l.length ≤ 1000000
  n : first.length + (l.map nmE).sum ≤ 1000000
  rf : ∀ p ∈ first, U64P p.key
  r : ∀ e ∈ l, ErR e
  le : ∀ e ∈ l, ErL e
  c : ∀ e ∈ l, e.cs.length ≤ 1000000
  v : ∀ e ∈ l, ∀ d ∈ e.cs, DnV d
theorem srt_le (zs : List Int) {i j : Nat} (hij : i ≤ j) (hj : j < (srt zs).length) : (srt zs).getD i 0 ≤ (srt zs).getD j 0 := by
  have hs : (srt zs).Pairwise (fun x y => decide (x ≤ y) = true) := List.pairwise_mergeSort (by simp; omega) (by simp; omega) zs
  have hi : i < (srt zs).length := by omega
  rw [getD_eq _ _ _ hi, getD_eq _ _ _ hj]
  by_cases e : i = j
  · subst e; exact Int.le_refl _
  · have := List.pairwise_iff_getElem.1 hs i j hi hj (by omega)
    simpa using this
set_option maxRecDepth 100000 in
set_option maxHeartbeats 8000000 in
theorem explains_v (first : List Pr) (l : List Er) (a1 a2 : Option Addr) (cap1 cap2 : Nat) (w : World) (hH : HistB first l) (hU : ∀ a, named first l a → ∃ U, KeyB a first l U) (hF : PrsAt w a1 first) (hE : ErsAt w a2 l) :
    Calls Try.prog 12 #[.slice a1 first.length cap1, .slice a2 l.length cap2] w (ExQ first l w) := by
  have HMay := Lib.hid (may_v first l a1 a2 cap1 cap2 w (by have := hH.fl; omega) (by have := hH.ll; omega) hH.le hF hE)
  have HKs := Lib.hid (fun W (hW : Below w.heap.size w W) => keysL_v first l a1 a2 cap1 cap2 W hH.n hH.ll hH.rf hH.r hH.le (hF.below hW) (hE.below hW))
  have HKy := Lib.hid (fun a (ha : named first l a) W (hW : Below w.heap.size w W) => show Calls Try.prog 9 #[.int .u64 a, .slice a1 first.length cap1, .slice a2 l.length cap2] W (KeyQ a first l W) from by
    obtain ⟨U, hU1⟩ := hU a ha
    exact key_v a first l a1 a2 cap1 cap2 W U hU1 (by have := hH.fl; omega) hH.ll hH.le hH.c hH.v (hF.below hW) (hE.below hW))
  have HE := Lib.hid hE
  have HH := Lib.hid hH
  clear hU hF hE hH
  go_enter Try.func12, Try.ntmps12
  go_wp2_with (fail)
  refine HMay.out.mono ?_
  rintro e w1 ⟨rfl, hB1⟩
  have HB1 := Lib.hid hB1
  clear hB1
  cases hmy : mayP first l with
  | false =>
    have HP := Lib.hid (show ExP first l false 0 2 from .inl ⟨hmy, rfl, rfl, rfl⟩)
    clear hmy
    go_wp2_with (fail)
    go_ret3
    exact ⟨false, 0, 2, rfl, HP.out, HB1.out⟩
  | true =>
    have HMy := Lib.hid hmy
    clear hmy
    go_wp2_with (fail)
    refine (HKs.out w1 HB1.out).mono ?_
    rintro e w2 ⟨u, xs, rfl, hnd, hmem, hown, hB2⟩
    have HB2 := Lib.hid (HB1.out.trans (hB2.mono HB1.out.size))
    obtain ⟨ak, nk, ck, rfl⟩ := own_slice hown
    obtain rfl : nk = (srt xs).length := own_len hown
    have HOw := Lib.hid hown
    have HMem := Lib.hid (show ∀ a, a ∈ srt xs ↔ named first l a from fun a => by rw [srt_mem]; exact hmem a)
    have HKl := Lib.hid (show (srt xs).length ≤ 9223372036854775807 from by
      have := own_cases hown
      rcases this with ⟨h, _⟩ | ⟨_, g, cap, _, _, _, h1, h2, _⟩
      · omega
      · unfold maxLen at h2; omega)
    clear hnd hmem hown hB2
    obtain ⟨nk, hnk⟩ : ∃ nk, (srt xs).length = nk := ⟨_, rfl⟩
    rw [hnk] at HOw HKl ⊢
    have HNk := Lib.hid hnk
    clear hnk
    have hkl := HKl.out
    go_wp2_with (fail)
    go_loopw [22] (fun iv wr => ∃ k : Nat, k ≤ nk ∧ iv = .int .i64 k ∧ Hid (∀ j, j < k → keyE ((srt xs).getD j 0) first l = 0 ∧ KeyT ((srt xs).getD j 0) first l) ∧ Below w2.heap.size w2 wr) (fun iv _ => nk - (intOf iv).toNat)
    case atStart => exact ⟨0, Nat.zero_le _, rfl, Lib.hid (fun j hj => by omega), Below.refl _ _⟩
    case round =>
      obtain ⟨k, hk, rfl, hR, hB⟩ := hrel
      have HB := Lib.hid (HB2.out.trans (hB.mono HB2.out.size))
      have HBx := Lib.hid hB
      by_cases hlt : k < nk
      · have hown := own_keeps HOw.out (Keeps.of_below' hB) (fun _ _ h => h)
        rcases own_cases hown with ⟨h0, _⟩ | ⟨_, g, cap, hv, hg, hgl, _, _, hcell, _⟩
        · omega
        cases hv
        obtain ⟨a, ha⟩ : ∃ a, (srt xs).getD k 0 = a := ⟨_, rfl⟩
        have c1 : wr.cell? ⟨g, k, none⟩ = some (.int .u64 a) := by
          have hks : k < (srt xs).length := by have := HNk.out; omega
          rw [hcell k hlt, List.getElem?_map, List.getElem?_eq_getElem hks, ← ha, getD_eq _ _ _ hks]; rfl
        have HA := Lib.hid ha
        have HNa := Lib.hid (show named first l a from by rw [← HMem.out, ← ha]; exact getD_memL _ _ _ (by have := HNk.out; omega))
        have HLs := Lib.hid (show ∀ a', a' < a → named first l a' → keyE a' first l = 0 ∧ KeyT a' first l from fun a' hlt' hn' => by
          have hm := (HMem.out a').2 hn'
          obtain ⟨j, hj, rfl⟩ := List.getElem_of_mem hm
          by_cases hjk : j < k
          · have := hR.out j hjk
            rwa [getD_eq _ _ _ hj] at this
          · have := srt_le xs (i := k) (j := j) (by omega) hj
            rw [ha, getD_eq _ _ _ hj] at this
            omega)
        have HLt := Lib.hid hlt
        have hkb : (k : Int) < (nk : Int) := by omega
        clear hB hown hcell hgl hg ha hlt hk
        go_wp2_with (fail)
        refine (HKy.out a HNa.out wr HB.out).mono ?_
        rintro e w3 ⟨b, rfl, hb, hB3⟩
        have HB3 := Lib.hid (HB.out.trans (hB3.mono HB.out.size))
        have HBx3 := Lib.hid (HBx.out.trans (hB3.mono HBx.out.size))
        have HBb := Lib.hid hb
        obtain ⟨er, her⟩ : ∃ er, keyE a first l = er := ⟨_, rfl⟩
        rw [her] at HBb ⊢
        have HEr := Lib.hid her
        clear hB3 hb her c1
        by_cases h0 : er = 0
        · subst h0
          cases b with
          | false =>
            have HP := Lib.hid (show ExP first l false a 0 from .inr ⟨HMy.out, .inr (.inl ⟨a, HNa.out, HEr.out, fun h => (by have := HBb.out.2 ⟨rfl, h⟩; cases this), HLs.out, rfl, rfl, rfl⟩)⟩)
            go_wp2_with (fail)
            go_ret3
            exact ⟨false, a, 0, rfl, HP.out, HB3.out⟩
          | true =>
            go_wp2_with (fail)
            go_roundw
            case rel => exact ⟨k + 1, HLt.out, by go_num, Lib.hid (fun j hj => by
              by_cases e : j = k
              · subst e; rw [HA.out]; exact ⟨HEr.out, (HBb.out.1 (by trivial)).2⟩
              · exact hR.out j (by omega)), HBx3.out⟩
            case measure => have := HLt.out; simp [intOf]; omega
        · have HP := Lib.hid (show ExP first l false 0 er from .inr ⟨HMy.out, .inl ⟨a, HNa.out, by rw [HEr.out]; exact h0, HLs.out, rfl, rfl, HEr.out.symm⟩⟩)
          have e0 : (er != 0) = true := by simp [h0]
          clear h0
          go_wp2_with (fail)
          go_ret3
          exact ⟨false, 0, er, rfl, HP.out, HB3.out⟩
      · obtain rfl : k = nk := by omega
        have HAll := Lib.hid (show ∀ a, named first l a → keyE a first l = 0 ∧ KeyT a first l from fun a ha => by
          have hm := (HMem.out a).2 ha
          obtain ⟨j, hj, rfl⟩ := List.getElem_of_mem hm
          have := hR.out j (by have := HNk.out; omega)
          rwa [getD_eq _ _ _ hj] at this)
        have hkb : ¬ ((k : Int) < (k : Int)) := by omega
        clear hB hlt hk
        have hll : (l.length : Int) ≤ 1000000 := by have := HH.out.ll; omega
        go_wp2_with (fail)
        go_loopw [44] (fun iv wr2 => ∃ i : Nat, i ≤ l.length ∧ iv = .int .i64 i ∧ Hid ((l.take i).any (fun e => e.cs.any tornP) = false) ∧ Below w.heap.size w wr2) (fun iv _ => l.length - (intOf iv).toNat)
        case atStart => exact ⟨0, Nat.zero_le _, rfl, Lib.hid rfl, HB.out⟩
        case round =>
          obtain ⟨i, hi, rfl, hRi, hBi⟩ := hrel
          have HBi := Lib.hid hBi
          by_cases hil : i < l.length
          · obtain ⟨g, o, hca, hg, hc⟩ := (HE.out.below hBi).at_ hil
            obtain ⟨d, hd⟩ : ∃ x, l.getD i erZ = x := ⟨_, rfl⟩
            rw [hca]
            rw [hd] at hc
            have HCl := Lib.hid hc
            have HLt := Lib.hid hil
            have HD := Lib.hid hd
            have HMm := Lib.hid (show d ∈ l by rw [← hd]; exact getD_memL l i erZ hil)
            have hib : (i : Int) < (l.length : Int) := by omega
            clear hc hd hil hi
            go_upto_region 15 with (fail)
            go_step
            refine wpList_idx_er rfl rfl (.tmp 42) (.tmp 44) 46 rfl rfl rfl g o l.length cap2 i d (ev_tmp (by simp)) (ev_tmp (by simp)) HLt.out (by simp) HCl.out ?_
            refine wpList_anew_er rfl rfl 13 (.tmp 47) rfl rfl rfl d (ev_tmp (by simp [Act.put])) (by simp [Act.put]) ?_
            go_upto_region 16 with (fail)
            have hb := Blk.new wr (erCells d) 46
            have hB5 := hBi.alloc hBi.size (.cells (erCells d) 46)
            generalize wr.alloc (.cells (erCells d) 46) = W5 at hb hB5 ⊢
            generalize wr.heap.size = nd at hb ⊢
            have HB5 := Lib.hid hB5
            have c0 : W5.cell? ⟨nd, 0, none⟩ = some (.slice d.ca d.cs.length d.cc) := by rw [hb.cell]; rfl
            have HCt := Lib.hid (idxEC d.cs d.ca d.cc W5 (HH.out.le d HMm.out).1 ((HE.out.2 d HMm.out).1.below HB5.out) tornP (fun x W2 hx hW2 => torn_v x W2 ((HH.out.le d HMm.out).2.2 x hx) ((((HE.out.2 d HMm.out).1.2 x hx).below HB5.out).below hW2)))
            clear hb hB5 hBi
            go_wp2_with (fail)
            refine HCt.out.mono ?_
            rintro e W6 ⟨rfl, hB6⟩
            have HB6 := Lib.hid (HB5.out.trans (hB6.mono HB5.out.size))
            clear hB6 c0
            cases ht : d.cs.any tornP with
            | true =>
              have HP := Lib.hid (show ExP first l false 0 0 from .inr ⟨HMy.out, .inr (.inr ⟨HAll.out, by
                rw [show (l.any fun e => e.cs.any tornP) = true from List.any_eq_true.2 ⟨d, HMm.out, ht⟩]; rfl, rfl, rfl⟩)⟩)
              clear ht
              go_wp2_with (fail)
              go_ret3
              exact ⟨false, 0, 0, rfl, HP.out, HB6.out⟩
            | false =>
              have HT := Lib.hid ht
              clear ht
              go_wp2_with (fail)
              go_roundw
              case rel => exact ⟨i + 1, HLt.out, by go_num, Lib.hid (by
                have hi1 := HLt.out
                rw [List.take_add_one, List.any_append, hRi.out, List.getElem?_eq_getElem hi1, ← getD_eq l i erZ hi1, HD.out]
                simp [HT.out]), HB6.out⟩
              case measure => have := HLt.out; simp [intOf]; omega
          · have HP := Lib.hid (show ExP first l true 0 0 from .inr ⟨HMy.out, .inr (.inr ⟨HAll.out, by
              have := hRi.out
              rw [List.take_of_length_le (by omega)] at this
              rw [this]; rfl, rfl, rfl⟩)⟩)
            have hib : ¬ ((i : Int) < (l.length : Int)) := by omega
            clear hil hi hBi
            go_wp2_with (fail)
            go_ret3
            exact ⟨true, 0, 0, rfl, HP.out, HBi.out⟩
end Go.Proofs.Ytdmcakoaakinnaa
