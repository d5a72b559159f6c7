/-
  leveelaw11.laid: a contract.
-/
import Derived.Test.YtgmbnoimlffgcaaSnk
namespace Go.Proofs.Ytgmbnoimlffgcaa
open Go.RowKit
attribute [local go_sem] Oper.semAt_some
set_option linter.unusedVariables false

def sideN (low : Int) : Nd := { lv := 0, lo := low, nx := 0, ct := 0, fi := 1280, k := fun _ => 0, p := fun _ => 0 }
theorem u64_wf {x : Int} (h0 : 0 ≤ x) (h1 : x ≤ 18446744073709551615) : (Lit.int .u64 x).wf = true := addr_wf h0 h1
theorem wf_u64 {x : Int} (h : (Lit.int .u64 x).wf = true) : 0 ≤ x ∧ x ≤ 18446744073709551615 := by
  simp [Lit.wf, IntKind.min, IntKind.max, IntKind.signed, IntKind.bits] at h; omega
theorem wordsF_rng {n : Nd} (h : n.Wf) (i : Nat) : 0 ≤ wordsF n i ∧ wordsF n i ≤ 18446744073709551615 := by
  unfold wordsF
  split
  · exact ⟨Int.le_refl 0, (by decide : (0 : Int) ≤ 18446744073709551615)⟩
  · rename_i hlv
    unfold wTo
    split
    · unfold fullW tagM
      split
      · omega
      split
      · exact wf_u64 h.lo
      split
      · exact wf_u64 h.nx
      split
      · exact wf_u64 h.ct
      split
      · exact wf_u64 h.fi
      split
      · exact ⟨by decide, by decide⟩
      split
      · exact wf_u64 (h.k _ (by omega))
      · exact wf_u64 (h.p _ (by omega))
    · exact ⟨by decide, by decide⟩
theorem putW_mem {a : Int} {f : Nat → Int} {k : Nat} {p : Int × Int} (h : p ∈ putW a f k) : ∃ i, i < k ∧ p.1 = a + 8 * (i : Int) ∧ p.2 = f i := by
  unfold putW at h
  obtain ⟨i, hi, rfl⟩ := List.mem_map.1 h
  exact ⟨i, List.mem_range.1 hi, rfl, rfl⟩
theorem sideN_wf {low : Int} (hl0 : 0 ≤ low) (hl1 : low ≤ 18446744073709551615) : (sideN low).Wf := by
  have z0 : (Lit.int .u64 0).wf = true := by decide
  have z1 : (Lit.int .u64 1280).wf = true := by decide
  exact ⟨(show (Lit.int .i64 0).wf = true by decide), u64_wf hl0 hl1, z0, z0, z1, fun _ _ => z0, fun _ _ => z0⟩
theorem Ld8.keep {w3 : World} {S0 : Nat → Prop} {mb : Nat} {wr : World} {vs : List Int} {st : Int} {L L' : Nat → Bool} {W : World} (h : Ld8 w3 S0 mb wr vs st L W) (e : L' 11 = L 11) : Ld8 w3 S0 mb wr vs st L' W := ⟨by rw [e]; exact h.n, by rw [e]; exact h.y, h.k⟩
/-- what laid leaves -/
def LaidP (w : World) (n : Nd) (low : Int) (e : Ending) (w' : World) : Prop :=
  ∃ mb S vs, e = .returned (.pointer (some ⟨mb, 0, none⟩)) ∧ MemV w' mb S vs 0 48 6 1 ∧ U64s vs ∧ vs.length = 512 ∧ (∀ i, i < 24 → vs.getD (136 + i) 0 = wordsF n i) ∧ (∀ i, i < 24 → vs.getD (160 + i) 0 = wordsF (sideN low) i) ∧ (∀ i, S i → w.heap.size ≤ i) ∧ Below w.heap.size w w'
set_option maxRecDepth 100000 in
set_option maxHeartbeats 16000000 in
theorem laid_v (n : Nd) (hw : (Lit.int .i64 n.lv).wf = true) (hwu : ∀ i, 0 ≤ wordsF n i ∧ wordsF n i ≤ 18446744073709551615) (low : Int) (hl0 : 0 ≤ low) (hl1 : low ≤ 18446744073709551615) (w : World) :
    Calls Try.prog 18 #[.agg (ndCells n), .int .u64 low] w (LaidP w n low) := by
  obtain ⟨i0, hi, hz0, hz1, hz2⟩ := info_parts Try.infoPut
  have hws : ∀ i, 0 ≤ wordsF (sideN low) i ∧ wordsF (sideN low) i ≤ 18446744073709551615 := by
    intro i; exact wordsF_rng (sideN_wf hl0 hl1) i
  have HWs := Lib.hid hws
  have HWu := Lib.hid hwu
  have HW0 := Lib.hid (show Blk (w.alloc (.cells (ndCells n) 40)) w.heap.size (ndCells n) 40 ∧ Below w.heap.size w (w.alloc (.cells (ndCells n) 40)) from ⟨Blk.new w _ _, (Below.refl _ w).alloc (Nat.le_refl _) _⟩)
  have HNew := Lib.hid (show ∀ W, Calls Try.prog 7 #[.int .i64 4096] W fun e w' => ∃ mb S vs0, e = .returned (.tuple #[.pointer (some ⟨mb, 0, none⟩), .int .i64 0]) ∧ U64s vs0 ∧ vs0.length = 512 ∧ MemP w' mb S vs0 vs0 (fun _ _ => 0) (fun _ => []) 0 0 0 0 ∧ (∀ i, S i → W.heap.size ≤ i) ∧ Below W.heap.size W w' from fun W => new_m 512 W (by decide) (by decide) (by decide))
  have HR1 := Lib.hid (fun W => rput_v 1088 (by decide) (by decide) n hw W)
  have HR2 := Lib.hid (fun W => rput_v 1280 (by decide) (by decide) (sideN low) (show (Lit.int .i64 0).wf = true by decide) W)
  have HZ := Lib.hid (show ((#[.int .i64 0, .int .u64 low, .int .u64 0, .int .u64 0, .int .u64 1280, .int .u64 0, .int .u64 0, .int .u64 0, .int .u64 0, .int .u64 0, .int .u64 0, .int .u64 0, .int .u64 0, .int .u64 0, .int .u64 0, .int .u64 0, .int .u64 0, .int .u64 0, .int .u64 0, .int .u64 0, .int .u64 0] : Array Value) = ndCells (sideN low)) from rfl)
  clear hw hws hwu
  go_enter Try.func18, Try.ntmps18
  go_wp2_with (fail)
  obtain ⟨w0, hw0⟩ : ∃ w0, w.alloc (.cells (ndCells n) 40) = w0 := ⟨_, rfl⟩
  rw [hw0] at HW0 ⊢
  have hb0 := HW0.out.1.lt
  clear hw0
  refine (HNew.out w0).mono ?_
  rintro e w1 ⟨mb, S0, vs0, rfl, hu0, hlv, hm0, hS0, hB1⟩
  have HU0 := Lib.hid hu0
  have HLv := Lib.hid hlv
  have HM1 := Lib.hid (show MemV w1 mb S0 vs0 0 0 0 0 from ⟨_, _, _, hm0⟩)
  have HS0 := Lib.hid hS0
  have hb1 := HW0.out.1.kept (Keeps.of_below' hB1) (fun h => h)
  have HL1 := Lib.hid (show ∀ j v, (ndCells n)[j]? = some v → w1.cell? ⟨w.heap.size, 0 + j, none⟩ = some v from ndLoad hb1)
  have HB1 := Lib.hid (HW0.out.2.trans (hB1.mono HW0.out.2.size))
  have HS1 := Lib.hid (show ∀ i, S0 i → w.heap.size ≤ i from fun i hi => Nat.le_trans HW0.out.2.size (hS0 i hi))
  clear hu0 hlv hm0 hS0 hb1 hB1 HNew hb0
  go_wp2_with ((with_reducible refine wpList_load_part (o := ⟨some 20, .load 40 (.tmp 2), _, _, _, _⟩) ?hg 40 (.tmp 2) ?ho w.heap.size 0 ?hx (ndCells n) ?dd ?hc ?hu ?hd ?hi ?_); (case hg => rfl); (case ho => rfl); (case hx => rfl); (case hc => exact HL1.out); (case hu => exact Try.underlying40); (case hd => rfl); (case hi => exact info27 n))
  refine (HR1.out w1).mono ?_
  rintro e w2 ⟨v1, rfl, hown1, hB2⟩
  have HO1 := Lib.hid hown1
  have HM2 := Lib.hid (show MemV w2 mb S0 vs0 0 0 0 0 from by obtain ⟨is, mk, F, hm⟩ := HM1.out; exact ⟨is, mk, F, hm.below hB2⟩)
  have HB2 := Lib.hid (HB1.out.trans (hB2.mono HB1.out.size))
  have HS3 := Lib.hid hB2.size
  have HS2 := Lib.hid (show ∀ i, S0 i → i < w1.heap.size from fun i hi => by obtain ⟨is, mk, F, hm⟩ := HM1.out; exact hm.lt hi)
  clear hown1 hB2 HL1 HM1
  go_wp2_with (fail)
  rw [HZ.out]
  refine (HR2.out w2).mono ?_
  rintro e w3 ⟨v2, rfl, hown2, hB3⟩
  have hb32 := hown2
  obtain ⟨g2, c2, rfl, hg1, hg2, _, _, hl2, hcell2, _⟩ := own_shapeK hown2 (by decide)
  have hO13 := own_keeps HO1.out (Keeps.of_below' hB3) (fun _ _ h => h)
  have HM3 := Lib.hid (show MemV w3 mb S0 vs0 0 0 0 0 from by obtain ⟨is, mk, F, hm⟩ := HM2.out; exact ⟨is, mk, F, hm.below hB3⟩)
  have HB3 := Lib.hid (HB2.out.trans (hB3.mono HB2.out.size))
  have hsz3 : w1.heap.size ≤ w3.heap.size := by
    exact Nat.le_trans HS3.out hB3.size
  clear hB3 hb32 hown2
  obtain ⟨l1, hl1e⟩ : ∃ l1, putW 1088 (wordsF n) 24 = l1 := ⟨_, rfl⟩
  obtain ⟨l2, hl2e⟩ : ∃ l2, putW 1280 (wordsF (sideN low)) 24 = l2 := ⟨_, rfl⟩
  rw [hl1e] at hO13
  rw [hl2e] at hl2 hcell2
  have HE1 := Lib.hid hl1e
  have HE2 := Lib.hid hl2e
  clear hl1e hl2e
  go_wp2_with (at_builtin; refine wpList_append_own _ rfl _ _ 22 rfl w1.heap.size 32 i0 (.agg #[.int .u64 0, .int .u64 0]) 2 16 Try.underlying22 hi hz0 hz1 hz2 rfl (by decide) _ _ _ rfl hO13 ⟨g2, 0, none⟩ 24 c2 (ecells l2) rfl hl2 (fun j u hu => by rw [Addr.add_mid, Nat.zero_add, hcell2 j (by rw [← hl2]; exact (List.getElem?_eq_some_iff.1 hu).1)]; exact hu) (ecells_one l2) (by unfold maxLen; omega) (by omega) hsz3 ?_)
  intro v6 w6 hown6 hgrow hnil
  have hk6 : Keeps (fun i => v1.ownBlock = some i) w3 w6 := (Keeps.refl _ w3).grown hgrow (fun k e => .inl e)
  have hb1 : ∀ i, v1.ownBlock = some i → w1.heap.size ≤ i := fun i hi => own_base hO13 i hi
  have HM6 := Lib.hid (show MemV w6 mb S0 vs0 0 0 0 0 from by
    obtain ⟨is, mk, F, hm⟩ := HM3.out
    exact ⟨is, mk, F, hm.kept hk6 (fun i hi e => by have := HS2.out i hi; have := hb1 i e; omega)⟩)
  have HB6 := Lib.hid (show Below w.heap.size w w6 from HB3.out.trans ⟨hk6.os, hk6.tape, hk6.output, Nat.le_trans HB3.out.size hk6.size |> fun h => Nat.le_trans (Nat.le_refl _) hk6.size, fun k hk => hk6.block k (Nat.lt_of_lt_of_le hk HB3.out.size) (fun e => by have := hb1 k e; have := HB1.out.size; omega)⟩)
  obtain ⟨l, hl⟩ : ∃ l, l1 ++ l2 = l := ⟨_, rfl⟩
  have hec : ecells l1 ++ ecells l2 = ecells l := by rw [← hl]; simp [ecells]
  rw [hec] at hown6
  have hll : l.length = 48 := by rw [← hl, List.length_append, ← HE1.out, ← HE2.out, putW_len, putW_len]
  have HLm := Lib.hid (show ∀ p ∈ l, 0 ≤ p.1 ∧ p.1 ≤ 18446744073709551615 ∧ atE 512 p.1 = 0 ∧ 0 ≤ p.2 ∧ p.2 ≤ 18446744073709551615 from by
    intro p hp
    rw [← hl, List.mem_append, ← HE1.out, ← HE2.out] at hp
    rcases hp with hp | hp
    · obtain ⟨i, hi, h1, h2⟩ := putW_mem hp
      rw [h1, h2]
      exact ⟨by omega, by omega, by unfold atE; rw [if_neg (by omega)], (HWu.out i).1, (HWu.out i).2⟩
    · obtain ⟨i, hi, h1, h2⟩ := putW_mem hp
      rw [h1, h2]
      exact ⟨by omega, by omega, by unfold atE; rw [if_neg (by omega)], (HWs.out i).1, (HWs.out i).2⟩)
  have HL12 := Lib.hid hl
  obtain ⟨gl, cl, rfl, hgl1, hgl2, hcl, _, hents⟩ := own_ents hown6 hll.symm (by decide)
  have HGl := Lib.hid (show gl < w6.heap.size ∧ ¬ SE w6 S0 gl from ⟨hgl2, fun h => by
    rcases h with h | h
    · have := HS2.out gl h; omega
    · omega⟩)
  have HEn := Lib.hid (show ∀ k, k < 48 → w6.cell? ⟨gl, k * 2, none⟩ = some (.int .u64 (eK l k)) ∧ w6.cell? ⟨gl, k * 2 + 1, none⟩ = some (.int .u64 (eP l k)) from fun k hk => by
    have := hents k (by omega)
    rwa [Nat.zero_add] at this)
  have HI0 := Lib.hid (show MemE w6 S0 mb (lastIm vs0 (l.take 0)) 0 ((0 : Nat) : Int) 0 0 w6 from MemE.start HM6.out)
  have HLL := Lib.hid hll
  clear hk6 hb1 hl hec hown6 hll hents hgl1 hgl2 hgrow hnil hO13 hsz3 hg1 hg2 hl2 hcell2 HM3 HM2 HO1
  go_wp2_with (fail)
  go_loopw [8] (fun iv wq => ∃ k : Nat, k ≤ 48 ∧ iv = .int .i64 k ∧ MemE w6 S0 mb (lastIm vs0 (l.take k)) 0 (k : Int) 0 0 wq) (fun iv _ => 48 - (intOf iv).toNat)
  case atStart => exact ⟨0, by omega, rfl, HI0.out⟩
  case round =>
    obtain ⟨k, hk, rfl, hI⟩ := hrel
    have HI := Lib.hid hI
    clear hI
    by_cases hlt : k < 48
    · have hkb : (k : Int) < 48 := by omega
      have HLT := Lib.hid hlt
      have hkl : k < l.length := by rw [HLL.out]; exact hlt
      obtain ⟨ad, had⟩ : ∃ ad, l[k].1 = ad := ⟨_, rfl⟩
      obtain ⟨wk, hwk⟩ : ∃ wk, l[k].2 = wk := ⟨_, rfl⟩
      obtain ⟨vsk, hvk⟩ : ∃ vsk, lastIm vs0 (l.take k) = vsk := ⟨_, rfl⟩
      have hmem := HLm.out l[k] (List.getElem_mem hkl)
      rw [had, hwk] at hmem
      have hvl : vsk.length = 512 := by rw [← hvk, lastIm_len]; exact HLv.out
      have HSc := Lib.hid (show lastIm vs0 (l.take (k + 1)) = vsk.set (ad / 8).toNat wk by rw [lastIm_succ vs0 l k hkl, hvk, had, hwk])
      rw [hvk] at HI
      have HSt := Lib.hid ((HI.out.below (Below.refl _ wr).drew).store ad wk hmem.1 hmem.2.1 (by rw [hvl]; exact hmem.2.2.1) (by omega))
      have hck := HEn.out k hlt
      rw [show eK l k = l[k].1 by simp [eK, hkl], show eP l k = l[k].2 by simp [eP, hkl], had, hwk] at hck
      have hke : Keeps (SE w6 S0) w6 wr := HI.out.k.mono (fun _ _ h => .inl h)
      have HCk := Lib.hid (And.intro ((hke.cell (p := ⟨gl, k * 2, none⟩) HGl.out.1 HGl.out.2).trans hck.1) ((hke.cell (p := ⟨gl, k * 2 + 1, none⟩) HGl.out.1 HGl.out.2).trans hck.2))
      have HGr := Lib.hid (And.intro (Nat.lt_of_lt_of_le HGl.out.1 HI.out.k.size) HGl.out.2)
      clear hck had hwk hlt hmem hvl hvk hkl hke
      go_wp2_with (fail)
      --GEN r_ld8
      refine wp_region_vals [Is (.pointer (some ⟨mb, 0, none⟩)), Is (.slice (some ⟨gl, 0, none⟩) 48 cl), Is (.int .i64 (k : Int)), Is (.pointer (some ⟨gl, k * 2, none⟩)), Is (.pointer (some ⟨gl, k * 2, none⟩)), Is (.int .u64 ad), Is (.slice (some ⟨gl, 0, none⟩) 48 cl), Is (.int .i64 (k : Int)), Is (.pointer (some ⟨gl, k * 2, none⟩)), Is (.pointer (some ⟨gl, k * 2 + 1, none⟩)), Is (.int .u64 wk), Any]
        (fun _ _ _ => True) (fun L W => Ld8 w6 S0 mb wr (vsk.set (ad / 8).toNat wk) ((k : Int) + 1) L W) (by kernel_rfl) (by kernel_rfl) (by kernel_rfl) ?hst ?h0 ⟨?o0, ?o1, ?o2, ?o3, ?o4, ?o5, ?o6, ?o7, ?o8, ?o9, ?o10, ?o11, trivial⟩ ?he
      case hst =>
        exact ⟨(fun _ _ _ _ _ _ h _ => h), (fun _ _ _ _ _ _ h _ => h), (fun _ _ _ _ _ _ h _ => h), (fun _ _ _ _ _ _ h _ => h), (fun _ _ _ _ _ _ h _ => h), (fun _ _ _ _ _ _ h _ => h), (fun _ _ _ _ _ _ h _ => h), (fun _ _ _ _ _ _ h _ => h), (fun _ _ _ _ _ _ h _ => h), (fun _ _ _ _ _ _ h _ => h), (fun _ _ _ _ _ _ h _ => h), (fun _ _ _ _ _ _ h _ => h), trivial⟩
      case h0 =>
        exact ⟨fun _ => rfl, fun e => (by cases e), (Keeps.refl _ _).drew⟩
      case o0 =>
        intro L vs A W H hf hd K hK
        have e5 : A.tmps[5]?.getD undef = .pointer (some ⟨mb, 0, none⟩) := H.old 5 (by kernel_rfl)
        go_simp
        exact hK _ _ (trivial) rfl (H.glob.keep rfl)
      case o1 =>
        intro L vs A W H hf hd K hK
        have e7 : A.tmps[7]?.getD undef = .slice (some ⟨gl, 0, none⟩) 48 cl := H.old 7 (by kernel_rfl)
        go_simp
        exact hK _ _ (trivial) rfl (H.glob.keep rfl)
      case o2 =>
        intro L vs A W H hf hd K hK
        have e8 : A.tmps[8]?.getD undef = .int .i64 (k : Int) := H.old 8 (by kernel_rfl)
        go_simp
        exact hK _ _ (trivial) rfl (H.glob.keep rfl)
      case o3 =>
        intro L vs A W H hf hd K hK
        have e33 := H.is 1 33 rfl rfl rfl (deps_of' hd 1 (by kernel_rfl)) (by kernel_rfl)
        have e34 := H.is 2 34 rfl rfl rfl (deps_of' hd 2 (by kernel_rfl)) (by kernel_rfl)
        go_simp
        exact hK _ _ (trivial) rfl (H.glob.keep rfl)
      case o4 =>
        intro L vs A W H hf hd K hK
        have e35 := H.is 3 35 rfl rfl rfl (deps_of' hd 3 (by kernel_rfl)) (by kernel_rfl)
        go_simp
        exact hK _ _ (trivial) rfl (H.glob.keep rfl)
      case o5 =>
        intro L vs A W H hf hd K hK
        have e36 := H.is 4 36 rfl rfl rfl (deps_of' hd 4 (by kernel_rfl)) (by kernel_rfl)
        have d := (H.glob.k.cell (p := ⟨gl, k * 2, none⟩) HGr.out.1 HGr.out.2).trans HCk.out.1
        go_simp
        exact hK _ _ (trivial) rfl (H.glob.keep rfl)
      case o6 =>
        intro L vs A W H hf hd K hK
        have e7 : A.tmps[7]?.getD undef = .slice (some ⟨gl, 0, none⟩) 48 cl := H.old 7 (by kernel_rfl)
        go_simp
        exact hK _ _ (trivial) rfl (H.glob.keep rfl)
      case o7 =>
        intro L vs A W H hf hd K hK
        have e8 : A.tmps[8]?.getD undef = .int .i64 (k : Int) := H.old 8 (by kernel_rfl)
        go_simp
        exact hK _ _ (trivial) rfl (H.glob.keep rfl)
      case o8 =>
        intro L vs A W H hf hd K hK
        have e38 := H.is 6 38 rfl rfl rfl (deps_of' hd 6 (by kernel_rfl)) (by kernel_rfl)
        have e39 := H.is 7 39 rfl rfl rfl (deps_of' hd 7 (by kernel_rfl)) (by kernel_rfl)
        go_simp
        exact hK _ _ (trivial) rfl (H.glob.keep rfl)
      case o9 =>
        intro L vs A W H hf hd K hK
        have e40 := H.is 8 40 rfl rfl rfl (deps_of' hd 8 (by kernel_rfl)) (by kernel_rfl)
        go_simp
        exact hK _ _ (trivial) rfl (H.glob.keep rfl)
      case o10 =>
        intro L vs A W H hf hd K hK
        have e41 := H.is 9 41 rfl rfl rfl (deps_of' hd 9 (by kernel_rfl)) (by kernel_rfl)
        have d := (H.glob.k.cell (p := ⟨gl, k * 2 + 1, none⟩) HGr.out.1 HGr.out.2).trans HCk.out.2
        go_simp
        exact hK _ _ (trivial) rfl (H.glob.keep rfl)
      case o11 =>
        intro L vs A W H hf hd K hK
        have e32 := H.is 0 32 rfl rfl rfl (deps_of' hd 0 (by kernel_rfl)) (by kernel_rfl)
        have e37 := H.is 5 37 rfl rfl rfl (deps_of' hd 5 (by kernel_rfl)) (by kernel_rfl)
        have e42 := H.is 10 42 rfl rfl rfl (deps_of' hd 10 (by kernel_rfl)) (by kernel_rfl)
        have hW := H.glob.n hf
        subst hW
        go_simp
        refine HSt.out.mono ?_
        rintro e w' ⟨rfl, hI, hk1⟩
        go_simp
        exact hK _ _ trivial trivial ⟨fun e => (by cases e), fun _ => hI, (Keeps.refl _ wr).drew.trans hk1⟩
      case he =>
        intro vs W hlen hv
        match vs, hlen, hv with
        | [x0_, x1_, x2_, x3_, x4_, x5_, x6_, x7_, x8_, x9_, x10_, x11_], _, hv =>
        obtain rfl : (.pointer (some ⟨mb, 0, none⟩)) = x0_ := by obtain ⟨z, h1, h2⟩ := hv 0 _ rfl; cases h1; exact h2.symm
        obtain rfl : (.slice (some ⟨gl, 0, none⟩) 48 cl) = x1_ := by obtain ⟨z, h1, h2⟩ := hv 1 _ rfl; cases h1; exact h2.symm
        obtain rfl : (.int .i64 (k : Int)) = x2_ := by obtain ⟨z, h1, h2⟩ := hv 2 _ rfl; cases h1; exact h2.symm
        obtain rfl : (.pointer (some ⟨gl, k * 2, none⟩)) = x3_ := by obtain ⟨z, h1, h2⟩ := hv 3 _ rfl; cases h1; exact h2.symm
        obtain rfl : (.pointer (some ⟨gl, k * 2, none⟩)) = x4_ := by obtain ⟨z, h1, h2⟩ := hv 4 _ rfl; cases h1; exact h2.symm
        obtain rfl : (.int .u64 ad) = x5_ := by obtain ⟨z, h1, h2⟩ := hv 5 _ rfl; cases h1; exact h2.symm
        obtain rfl : (.slice (some ⟨gl, 0, none⟩) 48 cl) = x6_ := by obtain ⟨z, h1, h2⟩ := hv 6 _ rfl; cases h1; exact h2.symm
        obtain rfl : (.int .i64 (k : Int)) = x7_ := by obtain ⟨z, h1, h2⟩ := hv 7 _ rfl; cases h1; exact h2.symm
        obtain rfl : (.pointer (some ⟨gl, k * 2, none⟩)) = x8_ := by obtain ⟨z, h1, h2⟩ := hv 8 _ rfl; cases h1; exact h2.symm
        obtain rfl : (.pointer (some ⟨gl, k * 2 + 1, none⟩)) = x9_ := by obtain ⟨z, h1, h2⟩ := hv 9 _ rfl; cases h1; exact h2.symm
        obtain rfl : (.int .u64 wk) = x10_ := by obtain ⟨z, h1, h2⟩ := hv 10 _ rfl; cases h1; exact h2.symm
        intro L hall hG
        clear hv hlen
        have HW := Lib.hid (hG.y (hall 11 (by decide)))
        clear hG hall
        simp only [fill, if_true]
      --END
        simp [Act.put]
        go_wp2_with (fail)
        go_roundw
        case rel => exact ⟨k + 1, by have := HLT.out; omega, by go_num, by rw [HSc.out]; have := HW.out; rwa [show ((k + 1 : Nat) : Int) = (k : Int) + 1 by omega]⟩
        case measure => have := HLT.out; simp [intOf]; omega
    · have hk48 : k = 48 := by omega
      subst hk48
      rw [List.take_of_length_le (by rw [HLL.out]; exact Nat.le_refl _)] at HI
      clear hlt hk HI0
      rw [show ((48 : Nat) : Int) = 48 from rfl] at HI ⊢
      obtain ⟨vsF, hvF⟩ : ∃ vsF, lastIm vs0 l = vsF := ⟨_, rfl⟩
      rw [hvF] at HI
      have HVF := Lib.hid hvF
      have HVl := Lib.hid (show vsF.length = 512 by rw [← hvF, lastIm_len]; exact HLv.out)
      have HI1 := Lib.hid (show MemE w6 S0 mb vsF 0 48 ((0 : Nat) : Int) 0 wr from HI.out)
      clear hvF HI HEn
      go_wp2_with (fail)
      go_loopw [9] (fun iv wq => ∃ k : Nat, k ≤ 6 ∧ iv = .int .i64 k ∧ MemE w6 S0 mb vsF 0 48 (k : Int) 0 wq) (fun iv _ => 6 - (intOf iv).toNat)
      case atStart => exact ⟨0, by omega, rfl, HI1.out⟩
      case round =>
        obtain ⟨k, hk, rfl, hI⟩ := hrel
        have HI := Lib.hid hI
        clear hI
        by_cases hlt : k < 6
        · have hkb : (k : Int) < 6 := by omega
          have HLT := Lib.hid hlt
          have hw1 : IntKind.i64.wrap (64 * (k : Int)) = 64 * (k : Int) := IntWalk.i64_in _ (by omega)
          have hw2 : IntKind.u64.wrap (64 * (k : Int)) = 64 * (k : Int) := IntWalk.u64_in _ (by omega)
          have hw3 : IntKind.u64.wrap (1088 + 64 * (k : Int)) = 1088 + 64 * (k : Int) := IntWalk.u64_in _ (by omega)
          have HFl := Lib.hid (HI.out.flush 0 (by decide) (1088 + 64 * (k : Int)) (by omega) (by omega) (by rw [HVl.out]; unfold atE; rw [if_neg (by omega)]) (by decide) (by omega))
          clear hlt
          go_wp2_with (fail)
          refine HFl.out.mono ?_
          rintro e w7 ⟨rfl, hI7, _⟩
          have HI7 := Lib.hid hI7
          clear hI7
          go_wp2_with (fail)
          go_roundw
          case rel => exact ⟨k + 1, by have := HLT.out; omega, by go_num, by have := HI7.out; rwa [show ((k + 1 : Nat) : Int) = (k : Int) + 1 by omega]⟩
          case measure => have := HLT.out; simp [intOf]; omega
        · have hk6 : k = 6 := by omega
          subst hk6
          have HFe := Lib.hid (HI.out.fence 0 (by decide) (by decide) (by decide))
          clear hlt hk
          go_wp2_with (fail)
          refine HFe.out.mono ?_
          rintro e w7 ⟨rfl, hI7, _⟩
          have HI7 := Lib.hid hI7
          clear hI7
          go_wp2_with (fail)
          go_ret
          obtain ⟨⟨S, hm, hs⟩, hk7⟩ := HI7.out
          have hsz := HB6.out.size
          refine ⟨mb, S, vsF, rfl, hm, ?_, HVl.out, fun i hi => ?_, fun i hi => ?_, fun i hi => ?_, ?_⟩
          · rw [← HVF.out]
            exact lastIm_u64 l HU0.out (fun p hp => (HLm.out p hp).2.2.2)
          · have hcat : ∀ (l1 l2 : List (Int × Int)) (is : List Int), lastIm is (l1 ++ l2) = lastIm (lastIm is l1) l2 := fun l1 l2 is => by unfold lastIm; rw [List.foldl_append]
            rw [← HVF.out, ← HL12.out, hcat, ← HE1.out, ← HE2.out, show (1280 : Int) = 8 * ((160 : Nat) : Int) by decide, show (1088 : Int) = 8 * ((136 : Nat) : Int) by decide,
              lastIm_putW _ 160 _ 24 (by rw [lastIm_len, HLv.out]; decide), if_neg (by omega), lastIm_putW _ 136 _ 24 (by rw [HLv.out]; decide), if_pos (by omega), Nat.add_sub_cancel_left]
          · have hcat : ∀ (l1 l2 : List (Int × Int)) (is : List Int), lastIm is (l1 ++ l2) = lastIm (lastIm is l1) l2 := fun l1 l2 is => by unfold lastIm; rw [List.foldl_append]
            rw [← HVF.out, ← HL12.out, hcat, ← HE2.out, show (1280 : Int) = 8 * ((160 : Nat) : Int) by decide,
              lastIm_putW _ 160 _ 24 (by rw [lastIm_len, HLv.out]; decide), if_pos (by omega), Nat.add_sub_cancel_left]
          · rcases hs i hi with h | h
            · exact HS1.out i h
            · omega
          · exact HB6.out.trans ⟨hk7.os, hk7.tape, hk7.output, hk7.size, fun k hk => hk7.block k (Nat.lt_of_lt_of_le hk hsz) (fun e => by have := HS1.out k e; omega)⟩
end Go.Proofs.Ytgmbnoimlffgcaa
