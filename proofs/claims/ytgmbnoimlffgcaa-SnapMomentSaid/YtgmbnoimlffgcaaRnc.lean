/-
  run.line; run.Run.store: a contract (at a store that may be).
-/
import Derived.Test.YtgmbnoimlffgcaaRnb
namespace Go.Proofs.Ytgmbnoimlffgcaa
open Go.RowKit
attribute [local go_sem] Oper.semAt_some
set_option linter.unusedVariables false

theorem line_v (a x : Int) (h0 : 0 ≤ a) (h1 : a ≤ 18446744073709551615) (w : World) : Calls Try.prog 84 #[.agg #[.int .u64 a, .int .u64 x]] w fun e w' => e = .returned (.int .u64 (a / 64)) ∧ Below w.heap.size w w' := by
  have hq : IntKind.u64.wrap (a.tdiv 64) = a / 64 := by rw [Int.tdiv_eq_ediv_of_nonneg h0]; exact IntWalk.u64_in _ (by omega)
  have HB := Lib.hid ((Below.refl w.heap.size w).alloc (Nat.le_refl _) (.cells #[.int .u64 a, .int .u64 x] 32))
  go_enter Try.func84, Try.ntmps84
  go_wp2_with (fail)
  go_ret
  exact ⟨rfl, HB.out⟩
/-- the worlds of the region that lays a store into a block -/
structure StS (W3 : World) (pb : Nat) (ad x : Int) (L : Nat → Bool) (W : World) : Prop where
  e : W3.heap.size = pb
  n : L 10 = false → W = W3.drew
  y1 : L 10 = true → L 11 = false → W = W3.drew.alloc (.cells #[.int .u64 0, .int .u64 0] 32)
  y2 : L 11 = true → W = (W3.drew.alloc (.cells #[.int .u64 0, .int .u64 0] 32)).setRow pb #[.int .u64 ad, .int .u64 x]
  kp : Keeps NoB W3 W
section
variable {W3 W : World} {pb : Nat} {ad x : Int} {L L' : Nat → Bool}
theorem StS.start (W3 : World) (pb : Nat) (ad x : Int) (e : W3.heap.size = pb) : StS W3 pb ad x (fun _ => false) W3.drew := ⟨e, (fun _ => rfl), (fun h => (by cases h)), (fun h => (by cases h)), (Keeps.refl _ _).drew⟩
theorem StS.keep (h : StS W3 pb ad x L W) (e1 : L' 10 = L 10) (e2 : L' 11 = L 11) : StS W3 pb ad x L' W := ⟨h.e, by rw [e1]; exact h.n, by rw [e1, e2]; exact h.y1, by rw [e2]; exact h.y2, h.kp⟩
theorem StS.alloc (h : StS W3 pb ad x L W) (h11 : L 11 = false) : StS W3 pb ad x (lset L 10) (W3.drew.alloc (.cells #[.int .u64 0, .int .u64 0] 32)) :=
  ⟨h.e, (fun e => (by simp [lset] at e)), (fun _ _ => rfl), (fun e => (by simp [lset] at e; rw [h11] at e; cases e)), ((Keeps.refl NoB W3).drew).alloc _⟩
theorem StS.blk (h : StS W3 pb ad x L W) (h11 : L 11 = false) (h10 : L 10 = true) : Blk W pb #[.int .u64 0, .int .u64 0] 32 := by
  rw [h.y1 h10 h11, ← h.e]
  exact Blk.new W3.drew _ _
theorem StS.store (h : StS W3 pb ad x L W) (h11 : L 11 = false) (h10 : L 10 = true) : StS W3 pb ad x (lset L 11) (W.setRow pb #[.int .u64 ad, .int .u64 x]) :=
  ⟨h.e, (fun e => (by simp [lset] at e; rw [h10] at e; cases e)), (fun _ e => (by simp [lset] at e)), (fun _ => (by rw [h.y1 h10 h11])), keeps_setRow h.kp (.inr (Nat.le_of_eq h.e)) _⟩
end
def StoP (w : World) (mb : Nat) (S : Nat → Prop) (vw is : List Int) (mk : Int → Nat → Int) (F : Int → List (Int × Int)) (lo st fl fe : Int) (ad x : Int) (w' : World) : Prop :=
  MemG w mb S (vw.set (ad / 8).toNat x) is mk (updF F (lineOf ad) (F (lineOf ad) ++ [(ad, x)])) lo (st + 1) fl fe w'
theorem StoP.keeps {w w' : World} {mb : Nat} {S : Nat → Prop} {vw is : List Int} {mk : Int → Nat → Int} {F : Int → List (Int × Int)} {lo st fl fe ad x : Int} (h : StoP w mb S vw is mk F lo st fl fe ad x w') : Keeps S w w' := by obtain ⟨_, _, _, h⟩ := h; exact h
/-- what a run does next, behind a store -/
def rNext (rb : Nat) (l : List (Int × Int)) (k : Nat) (v : Value) : Value := if k + 1 = l.length ∨ eK l (k + 1) / 64 ≠ eK l k / 64 then rphV rb 85 else v
set_option maxRecDepth 100000 in
set_option maxHeartbeats 40000000 in
theorem rstore_v (w : World) (rb mb g cap : Nat) (S0 : Nat → Prop) (r : Rn) (l : List (Int × Int)) (c k : Nat) (vw is : List Int) (mk : Int → Nat → Int) (F : Int → List (Int × Int)) (lo st fl fe : Int)
    (h : RnS w rb mb g cap S0 r l c) (hm : MemP w mb S0 vw is mk F lo st fl fe) (hat : r.at_ = (k : Int)) (hk : k < l.length) (hl : l.length ≤ 1000000) (hb : ∀ i, i < l.length → 0 ≤ eK l i ∧ eK l i ≤ 18446744073709551615) (he : atE vw.length (eK l k) = 0) (hst : st ≤ 1000000) :
    Calls Try.prog 66 #[.pointer (some ⟨rb, 0, none⟩)] w fun e w' => e = .returned (.tuple #[.bool false, .int .i64 0]) ∧ ∃ S', MemP w' mb S' (vw.set (eK l k / 8).toNat (eP l k)) is mk (updF F (lineOf (eK l k)) (F (lineOf (eK l k)) ++ [(eK l k, eP l k)])) lo (st + 1) fl fe ∧
      (∀ i, S' i → S0 i ∨ w.heap.size ≤ i) ∧ Keeps (fun i => i = rb ∨ S0 i) w w' ∧
      Blk w' rb (rnCells { r with at_ := ((k : Int) + 1), next := rNext rb l k r.next }) 129 := by
  obtain ⟨W1, rfl⟩ : ∃ W1, W1 = w := ⟨_, rfl⟩
  obtain ⟨ln, hln⟩ : ∃ ln, l.length = ln := ⟨_, rfl⟩
  obtain ⟨ad, had⟩ : ∃ ad, eK l k = ad := ⟨_, rfl⟩
  obtain ⟨x, hx⟩ : ∃ x, eP l k = x := ⟨_, rfl⟩
  have hck := h.e k hk
  rw [Nat.zero_add, had, hx] at hck
  have hbk := hb k hk
  rw [had] at hbk
  have HRS := Lib.hid h
  have HM := Lib.hid hm
  have HBd := Lib.hid hb
  have HE := Lib.hid he
  have HX := Lib.hid (And.intro had hx)
  obtain ⟨S, hS⟩ : ∃ S : Nat → Prop, S = NoB := ⟨_, rfl⟩
  have HSN := Lib.hid hS
  have Hc := Lib.hid (show ∀ W, Keeps S W1 W → ∀ j, W.cell? ⟨rb, j, none⟩ = (rnCells r)[j]? from fun W hk j => by rw [hk.cell (p := ⟨rb, j, none⟩) h.b.lt (fun e => by rw [hS] at e; exact e)]; exact h.b.cell j)
  have HR := Lib.hid (show (rnCells r)[0]? = some (.pointer (some ⟨mb, 0, none⟩)) ∧ (rnCells r)[1]? = some (.int .i64 (c : Int)) ∧ (rnCells r)[2]? = some (.slice (some ⟨g, 0, none⟩) ln cap) ∧ (rnCells r)[3]? = some (.int .i64 (k : Int)) from ⟨by rw [← h.mv]; rfl, by rw [← h.cl]; rfl, by rw [← hln, ← h.sl]; rfl, by rw [← hat]; rfl⟩)
  obtain ⟨bq, hbq⟩ : ∃ bq, bq = false := ⟨_, rfl⟩
  have Hbq := Lib.hid (show ((k : Int) == (ln : Int)) = bq from by rw [hbq]; exact beq_eq_false_iff_ne.2 (by omega))
  have HBq := Lib.hid hbq
  have HKl := Lib.hid (show k < ln ∧ ln ≤ 1000000 from by omega)
  have HLn := Lib.hid hln
  have HAt := Lib.hid hat
  have HCk0 := Lib.hid hck
  have HBk := Lib.hid hbk
  rw [had, hx]
  clear h hm hat hk hl hb he hln had hx hck hbk hS hbq
  go_enter Try.func66, Try.ntmps66
  go_wp2_with (fail)
  --GEN r_rs1
  refine wp_region_vals [Is (.pointer (some ⟨rb, 0, none⟩)), Is (.pointer (some ⟨rb, 0, none⟩)), Is (.pointer (some ⟨rb, 3, none⟩)), Is (.int .i64 (k : Int)), Is (.pointer (some ⟨rb, 0, none⟩)), Is (.pointer (some ⟨rb, 0, none⟩)), Is (.pointer (some ⟨rb, 2, none⟩)), Is (.slice (some ⟨g, 0, none⟩) ln cap), Is (.int .i64 (ln : Int)), Is (.bool bq)]
    (fun _ _ _ => True) (fun _ W => Keeps S W1 W) (by kernel_rfl) (by kernel_rfl) (by kernel_rfl) ?hst ?h0 ⟨?o0, ?o1, ?o2, ?o3, ?o4, ?o5, ?o6, ?o7, ?o8, ?o9, trivial⟩ ?he
  case hst =>
    exact ⟨(fun _ _ _ _ _ _ h _ => h), (fun _ _ _ _ _ _ h _ => h), (fun _ _ _ _ _ _ h _ => h), (fun _ _ _ _ _ _ h _ => h), (fun _ _ _ _ _ _ h _ => h), (fun _ _ _ _ _ _ h _ => h), (fun _ _ _ _ _ _ h _ => h), (fun _ _ _ _ _ _ h _ => h), (fun _ _ _ _ _ _ h _ => h), (fun _ _ _ _ _ _ h _ => h), trivial⟩
  case h0 =>
    exact (Keeps.refl S W1).drew
  case o0 =>
    intro L vs A W H hf hd K hK
    have e0 : A.tmps[0]?.getD undef = .pointer (some ⟨rb, 0, none⟩) := H.old 0 (by kernel_rfl)
    go_simp
    exact hK _ _ (trivial) rfl (H.glob)
  case o1 =>
    intro L vs A W H hf hd K hK
    have e6 := H.is 0 6 rfl rfl rfl (deps_of' hd 0 (by kernel_rfl)) (by kernel_rfl)
    go_simp
    exact hK _ _ (trivial) rfl (H.glob)
  case o2 =>
    intro L vs A W H hf hd K hK
    have e7 := H.is 1 7 rfl rfl rfl (deps_of' hd 1 (by kernel_rfl)) (by kernel_rfl)
    go_simp
    exact hK _ _ (trivial) rfl (H.glob)
  case o3 =>
    intro L vs A W H hf hd K hK
    have e8 := H.is 2 8 rfl rfl rfl (deps_of' hd 2 (by kernel_rfl)) (by kernel_rfl)
    have d : W.cell? ⟨rb, 3, none⟩ = some (.int .i64 (k : Int)) := (Hc.out W H.glob 3).trans HR.out.2.2.2
    go_simp
    exact hK _ _ (trivial) rfl (H.glob)
  case o4 =>
    intro L vs A W H hf hd K hK
    have e0 : A.tmps[0]?.getD undef = .pointer (some ⟨rb, 0, none⟩) := H.old 0 (by kernel_rfl)
    go_simp
    exact hK _ _ (trivial) rfl (H.glob)
  case o5 =>
    intro L vs A W H hf hd K hK
    have e10 := H.is 4 10 rfl rfl rfl (deps_of' hd 4 (by kernel_rfl)) (by kernel_rfl)
    go_simp
    exact hK _ _ (trivial) rfl (H.glob)
  case o6 =>
    intro L vs A W H hf hd K hK
    have e11 := H.is 5 11 rfl rfl rfl (deps_of' hd 5 (by kernel_rfl)) (by kernel_rfl)
    go_simp
    exact hK _ _ (trivial) rfl (H.glob)
  case o7 =>
    intro L vs A W H hf hd K hK
    have e12 := H.is 6 12 rfl rfl rfl (deps_of' hd 6 (by kernel_rfl)) (by kernel_rfl)
    have d : W.cell? ⟨rb, 2, none⟩ = some (.slice (some ⟨g, 0, none⟩) ln cap) := (Hc.out W H.glob 2).trans HR.out.2.2.1
    go_simp
    exact hK _ _ (trivial) rfl (H.glob)
  case o8 =>
    intro L vs A W H hf hd K hK
    have e13 := H.is 7 13 rfl rfl rfl (deps_of' hd 7 (by kernel_rfl)) (by kernel_rfl)
    go_simp
    exact hK _ _ (trivial) rfl (H.glob)
  case o9 =>
    intro L vs A W H hf hd K hK
    have e9 := H.is 3 9 rfl rfl rfl (deps_of' hd 3 (by kernel_rfl)) (by kernel_rfl)
    have e14 := H.is 8 14 rfl rfl rfl (deps_of' hd 8 (by kernel_rfl)) (by kernel_rfl)
    have hq := Hbq.out
    go_simp
    exact hK _ _ (trivial) rfl (H.glob)
  case he =>
    intro vs W hlen hv
    match vs, hlen, hv with
    | [x0_, x1_, x2_, x3_, x4_, x5_, x6_, x7_, x8_, x9_], _, hv =>
    obtain rfl : (.pointer (some ⟨rb, 0, none⟩)) = x0_ := by obtain ⟨z, h1, h2⟩ := hv 0 _ rfl; cases h1; exact h2.symm
    obtain rfl : (.pointer (some ⟨rb, 0, none⟩)) = x1_ := by obtain ⟨z, h1, h2⟩ := hv 1 _ rfl; cases h1; exact h2.symm
    obtain rfl : (.pointer (some ⟨rb, 3, none⟩)) = x2_ := by obtain ⟨z, h1, h2⟩ := hv 2 _ rfl; cases h1; exact h2.symm
    obtain rfl : (.int .i64 (k : Int)) = x3_ := by obtain ⟨z, h1, h2⟩ := hv 3 _ rfl; cases h1; exact h2.symm
    obtain rfl : (.pointer (some ⟨rb, 0, none⟩)) = x4_ := by obtain ⟨z, h1, h2⟩ := hv 4 _ rfl; cases h1; exact h2.symm
    obtain rfl : (.pointer (some ⟨rb, 0, none⟩)) = x5_ := by obtain ⟨z, h1, h2⟩ := hv 5 _ rfl; cases h1; exact h2.symm
    obtain rfl : (.pointer (some ⟨rb, 2, none⟩)) = x6_ := by obtain ⟨z, h1, h2⟩ := hv 6 _ rfl; cases h1; exact h2.symm
    obtain rfl : (.slice (some ⟨g, 0, none⟩) ln cap) = x7_ := by obtain ⟨z, h1, h2⟩ := hv 7 _ rfl; cases h1; exact h2.symm
    obtain rfl : (.int .i64 (ln : Int)) = x8_ := by obtain ⟨z, h1, h2⟩ := hv 8 _ rfl; cases h1; exact h2.symm
    obtain rfl : (.bool bq) = x9_ := by obtain ⟨z, h1, h2⟩ := hv 9 _ rfl; cases h1; exact h2.symm
    intro L hall hG
    clear hv hlen
    have HG := Lib.hid hG
    clear hG hall
    simp only [fill, if_true]
  --END
    simp [Act.put]
    have hk1 := HG.out
    rw [HSN.out] at hk1
    have HK1 := Lib.hid hk1
    clear hk1 HG
    rw [HBq.out]
    go_wp2_with (fail)
    obtain ⟨W3, hW3⟩ : ∃ W3, W = W3 := ⟨_, rfl⟩
    rw [hW3] at HK1 ⊢
    clear hW3
    obtain ⟨pb, hpb⟩ : ∃ pb, W3.heap.size = pb := ⟨_, rfl⟩
    have Hpb := Lib.hid hpb
    have Hc := Lib.hid (show ∀ W, Keeps NoB W3 W → ∀ j, W.cell? ⟨rb, j, none⟩ = (rnCells r)[j]? from fun W hk j => by rw [(HK1.out.trans hk).cell (p := ⟨rb, j, none⟩) HRS.out.b.lt (fun h => h)]; exact HRS.out.b.cell j)
    have HCk := Lib.hid (show ∀ W, Keeps NoB W3 W → ∀ j v, (#[Value.int .u64 ad, Value.int .u64 x] : Array Value)[j]? = some v → W.cell? ⟨g, k * 2 + j, none⟩ = some v from fun W hk j v hv => by
      rw [(HK1.out.trans hk).cell (p := ⟨g, k * 2 + j, none⟩) HRS.out.glt (fun h => h)]
      have hj : j < 2 := (Array.getElem?_eq_some_iff.1 hv).1
      have : j = 0 ∨ j = 1 := by omega
      rcases this with rfl | rfl
      · cases hv; exact HCk0.out.1
      · cases hv; exact HCk0.out.2)
    have Hb1 := Lib.hid (show (0 : Int) ≤ (k : Int) from by omega)
    have Hb2 := Lib.hid (show (k : Int) < (ln : Int) from by have := HKl.out; omega)
    --GEN r_rs3
    refine wp_region_vals [Is (.pointer (some ⟨rb, 0, none⟩)), Is (.pointer (some ⟨rb, 0, none⟩)), Is (.pointer (some ⟨rb, 2, none⟩)), Is (.slice (some ⟨g, 0, none⟩) ln cap), Is (.pointer (some ⟨rb, 0, none⟩)), Is (.pointer (some ⟨rb, 0, none⟩)), Is (.pointer (some ⟨rb, 3, none⟩)), Is (.int .i64 (k : Int)), Is (.pointer (some ⟨g, k * 2, none⟩)), Is (.agg #[.int .u64 ad, .int .u64 x]), Is (.pointer (some ⟨pb, 0, none⟩)), Any]
      (fun _ _ _ => True) (fun L W => StS W3 pb ad x L W) (by kernel_rfl) (by kernel_rfl) (by kernel_rfl) ?hst ?h0 ⟨?o0, ?o1, ?o2, ?o3, ?o4, ?o5, ?o6, ?o7, ?o8, ?o9, ?o10, ?o11, trivial⟩ ?he
    case hst =>
      exact ⟨(fun _ _ _ _ _ _ h _ => h), (fun _ _ _ _ _ _ h _ => h), (fun _ _ _ _ _ _ h _ => h), (fun _ _ _ _ _ _ h _ => h), (fun _ _ _ _ _ _ h _ => h), (fun _ _ _ _ _ _ h _ => h), (fun _ _ _ _ _ _ h _ => h), (fun _ _ _ _ _ _ h _ => h), (fun _ _ _ _ _ _ h _ => h), (fun _ _ _ _ _ _ h _ => h), (fun _ _ _ _ _ _ h _ => h), (fun _ _ _ _ _ _ h _ => h), trivial⟩
    case h0 =>
      exact StS.start W3 pb ad x Hpb.out
    case o0 =>
      intro L vs A W H hf hd K hK
      have e0 : A.tmps[0]?.getD undef = .pointer (some ⟨rb, 0, none⟩) := H.old 0 (by kernel_rfl)
      go_simp
      exact hK _ _ (trivial) rfl (H.glob.keep rfl rfl)
    case o1 =>
      intro L vs A W H hf hd K hK
      have e16 := H.is 0 16 rfl rfl rfl (deps_of' hd 0 (by kernel_rfl)) (by kernel_rfl)
      go_simp
      exact hK _ _ (trivial) rfl (H.glob.keep rfl rfl)
    case o2 =>
      intro L vs A W H hf hd K hK
      have e17 := H.is 1 17 rfl rfl rfl (deps_of' hd 1 (by kernel_rfl)) (by kernel_rfl)
      go_simp
      exact hK _ _ (trivial) rfl (H.glob.keep rfl rfl)
    case o3 =>
      intro L vs A W H hf hd K hK
      have e18 := H.is 2 18 rfl rfl rfl (deps_of' hd 2 (by kernel_rfl)) (by kernel_rfl)
      have d : W.cell? ⟨rb, 2, none⟩ = some (.slice (some ⟨g, 0, none⟩) ln cap) := (Hc.out W H.glob.kp 2).trans HR.out.2.2.1
      go_simp
      exact hK _ _ (trivial) rfl (H.glob.keep rfl rfl)
    case o4 =>
      intro L vs A W H hf hd K hK
      have e0 : A.tmps[0]?.getD undef = .pointer (some ⟨rb, 0, none⟩) := H.old 0 (by kernel_rfl)
      go_simp
      exact hK _ _ (trivial) rfl (H.glob.keep rfl rfl)
    case o5 =>
      intro L vs A W H hf hd K hK
      have e20 := H.is 4 20 rfl rfl rfl (deps_of' hd 4 (by kernel_rfl)) (by kernel_rfl)
      go_simp
      exact hK _ _ (trivial) rfl (H.glob.keep rfl rfl)
    case o6 =>
      intro L vs A W H hf hd K hK
      have e21 := H.is 5 21 rfl rfl rfl (deps_of' hd 5 (by kernel_rfl)) (by kernel_rfl)
      go_simp
      exact hK _ _ (trivial) rfl (H.glob.keep rfl rfl)
    case o7 =>
      intro L vs A W H hf hd K hK
      have e22 := H.is 6 22 rfl rfl rfl (deps_of' hd 6 (by kernel_rfl)) (by kernel_rfl)
      have d : W.cell? ⟨rb, 3, none⟩ = some (.int .i64 (k : Int)) := (Hc.out W H.glob.kp 3).trans HR.out.2.2.2
      go_simp
      exact hK _ _ (trivial) rfl (H.glob.keep rfl rfl)
    case o8 =>
      intro L vs A W H hf hd K hK
      have e19 := H.is 3 19 rfl rfl rfl (deps_of' hd 3 (by kernel_rfl)) (by kernel_rfl)
      have e23 := H.is 7 23 rfl rfl rfl (deps_of' hd 7 (by kernel_rfl)) (by kernel_rfl)
      have hb1 := Hb1.out
      have hb2 := Hb2.out
      go_simp
      exact hK _ _ (trivial) rfl (H.glob.keep rfl rfl)
    case o9 =>
      intro L vs A W H hf hd K hK
      have e24 := H.is 8 24 rfl rfl rfl (deps_of' hd 8 (by kernel_rfl)) (by kernel_rfl)
      exact wp_ld_part 32 (.tmp 24) rfl g (k * 2) (ev_tmp e24) #[.int .u64 ad, .int .u64 x] _ (HCk.out W H.glob.kp) Try.underlying32 rfl (by kernel_rfl) (hK _ _ trivial rfl (H.glob.keep rfl rfl))
    case o10 =>
      intro L vs A W H hf hd K hK
      have n11 := H.notYet 11 10 rfl hf (by kernel_rfl)
      have hW := H.glob.n hf
      subst hW
      go_simp
      exact hK _ _ trivial rfl (StS.alloc H.glob n11)
    case o11 =>
      intro L vs A W H hf hd K hK
      have e4 := H.is 10 4 rfl rfl rfl (deps_of' hd 10 (by kernel_rfl)) (by kernel_rfl)
      have e25 := H.is 9 25 rfl rfl rfl (deps_of' hd 9 (by kernel_rfl)) (by kernel_rfl)
      exact wp_store_row 32 (.tmp 4) (.tmp 25) rfl pb #[.int .u64 ad, .int .u64 x] (ev_tmp e4) (ev_tmp e25) 32 #[.int .u64 0, .int .u64 0] (H.glob.blk hf (deps_of' hd 10 (by kernel_rfl))) (by kernel_rfl) rfl (by simp [Value.oneCell']) (hK undef _ trivial trivial (StS.store H.glob hf (deps_of' hd 10 (by kernel_rfl))))
    case he =>
      intro vs W hlen hv
      match vs, hlen, hv with
      | [x0_, x1_, x2_, x3_, x4_, x5_, x6_, x7_, x8_, x9_, x10_, x11_], _, hv =>
      obtain rfl : (.pointer (some ⟨rb, 0, none⟩)) = x0_ := by obtain ⟨z, h1, h2⟩ := hv 0 _ rfl; cases h1; exact h2.symm
      obtain rfl : (.pointer (some ⟨rb, 0, none⟩)) = x1_ := by obtain ⟨z, h1, h2⟩ := hv 1 _ rfl; cases h1; exact h2.symm
      obtain rfl : (.pointer (some ⟨rb, 2, none⟩)) = x2_ := by obtain ⟨z, h1, h2⟩ := hv 2 _ rfl; cases h1; exact h2.symm
      obtain rfl : (.slice (some ⟨g, 0, none⟩) ln cap) = x3_ := by obtain ⟨z, h1, h2⟩ := hv 3 _ rfl; cases h1; exact h2.symm
      obtain rfl : (.pointer (some ⟨rb, 0, none⟩)) = x4_ := by obtain ⟨z, h1, h2⟩ := hv 4 _ rfl; cases h1; exact h2.symm
      obtain rfl : (.pointer (some ⟨rb, 0, none⟩)) = x5_ := by obtain ⟨z, h1, h2⟩ := hv 5 _ rfl; cases h1; exact h2.symm
      obtain rfl : (.pointer (some ⟨rb, 3, none⟩)) = x6_ := by obtain ⟨z, h1, h2⟩ := hv 6 _ rfl; cases h1; exact h2.symm
      obtain rfl : (.int .i64 (k : Int)) = x7_ := by obtain ⟨z, h1, h2⟩ := hv 7 _ rfl; cases h1; exact h2.symm
      obtain rfl : (.pointer (some ⟨g, k * 2, none⟩)) = x8_ := by obtain ⟨z, h1, h2⟩ := hv 8 _ rfl; cases h1; exact h2.symm
      obtain rfl : (.agg #[.int .u64 ad, .int .u64 x]) = x9_ := by obtain ⟨z, h1, h2⟩ := hv 9 _ rfl; cases h1; exact h2.symm
      obtain rfl : (.pointer (some ⟨pb, 0, none⟩)) = x10_ := by obtain ⟨z, h1, h2⟩ := hv 10 _ rfl; cases h1; exact h2.symm
      intro L hall hG
      clear hv hlen
      have HG := Lib.hid (hG.y2 (hall 11 (by decide)))
      clear hG hall
      simp only [fill, if_true]
    --END
      simp [Act.put]
      have hk13 : Keeps NoB W3 W := by
        rw [HG.out]
        exact keeps_setRow (((Keeps.refl NoB W3).drew).alloc _) (.inr (Nat.le_of_eq hpb)) _
      have hbp : Blk W pb #[.int .u64 ad, .int .u64 x] 32 := by
        rw [HG.out, ← hpb]
        exact (Blk.new W3.drew #[.int .u64 0, .int .u64 0] 32).row _
      obtain ⟨W4, hW4⟩ : ∃ W4, W = W4 := ⟨_, rfl⟩
      rw [hW4] at hk13 hbp ⊢
      have HK4 := Lib.hid (HK1.out.trans hk13)
      have HBp := Lib.hid hbp
      have hM4 := HM.out.keptN HK4.out
      have HRb4 := Lib.hid (HRS.out.b.kept HK4.out (fun h => h))
      have HPn := Lib.hid (show ¬ S0 pb ∧ rb ≠ pb ∧ g ≠ pb from ⟨fun h => by have := HM.out.lt h; have := HK1.out.size; omega, by have := HRS.out.b.lt; have := HK1.out.size; omega, by have := HRS.out.glt; have := HK1.out.size; omega⟩)
      have HPs := Lib.hid (show W1.heap.size ≤ pb from by rw [← hpb]; exact HK1.out.size)
      clear hW4 hk13 hbp HG Hc HCk Hb1 Hb2 hpb Hpb HK1 HR
      obtain ⟨S, hS⟩ : ∃ S : Nat → Prop, S = S0 := ⟨_, rfl⟩
      have HS0 := Lib.hid hS
      have Hc := Lib.hid (show ∀ W, Keeps S W4 W → ∀ j, W.cell? ⟨rb, j, none⟩ = (rnCells r)[j]? from fun W hk j => by rw [hk.cell (p := ⟨rb, j, none⟩) HRb4.out.lt (by rw [hS]; exact HRS.out.s.1)]; exact HRb4.out.cell j)
      have HR := Lib.hid (show (rnCells r)[0]? = some (.pointer (some ⟨mb, 0, none⟩)) from by rw [← HRS.out.mv]; rfl)
      have HPc := Lib.hid (show ∀ W, Keeps S W4 W → W.cell? ⟨pb, 0, none⟩ = some (.int .u64 ad) ∧ W.cell? ⟨pb, 1, none⟩ = some (.int .u64 x) from fun W hk => ⟨by rw [hk.cell (p := ⟨pb, 0, none⟩) HBp.out.lt (by rw [hS]; exact HPn.out.1)]; exact HBp.out.cell 0, by rw [hk.cell (p := ⟨pb, 1, none⟩) HBp.out.lt (by rw [hS]; exact HPn.out.1)]; exact HBp.out.cell 1⟩)
      have HSt := Lib.hid (show Calls Try.prog 9 #[.pointer (some ⟨mb, 0, none⟩), .int .u64 ad, .int .u64 x] W4.drew fun e w' => e = .returned (.int .i64 0) ∧ StoP W4.drew mb S vw is mk F lo st fl fe ad x w' from by
        rw [hS]
        have he := HE.out
        rw [HX.out.1] at he
        exact store_m (hM4.below (Below.refl _ W4).drew) ad x HBk.out.1 HBk.out.2 he hst)
      clear hS hM4
      go_wp2_with (fail)
      --GEN r_rs4
      refine wp_region_vals [Is (.pointer (some ⟨rb, 0, none⟩)), Is (.pointer (some ⟨rb, 0, none⟩)), Is (.pointer (some ⟨rb, 0, none⟩)), Is (.pointer (some ⟨mb, 0, none⟩)), Is (.pointer (some ⟨pb, 0, none⟩)), Is (.int .u64 ad), Is (.pointer (some ⟨pb, 1, none⟩)), Is (.int .u64 x), Is (.int .i64 0), Is (.int .i64 0)]
        (fun _ _ _ => True) (fun L W => StC W4 (fun W => StoP W4.drew mb S vw is mk F lo st fl fe ad x W) S 8 L W) (by kernel_rfl) (by kernel_rfl) (by kernel_rfl) ?hst ?h0 ⟨?o0, ?o1, ?o2, ?o3, ?o4, ?o5, ?o6, ?o7, ?o8, ?o9, trivial⟩ ?he
      case hst =>
        exact ⟨(fun _ _ _ _ _ _ h _ => h), (fun _ _ _ _ _ _ h _ => h), (fun _ _ _ _ _ _ h _ => h), (fun _ _ _ _ _ _ h _ => h), (fun _ _ _ _ _ _ h _ => h), (fun _ _ _ _ _ _ h _ => h), (fun _ _ _ _ _ _ h _ => h), (fun _ _ _ _ _ _ h _ => h), (fun _ _ _ _ _ _ h _ => h), (fun _ _ _ _ _ _ h _ => h), trivial⟩
      case h0 =>
        exact ⟨fun _ => rfl, fun e => (by cases e), (Keeps.refl _ _).drew⟩
      case o0 =>
        intro L vs A W H hf hd K hK
        have e0 : A.tmps[0]?.getD undef = .pointer (some ⟨rb, 0, none⟩) := H.old 0 (by kernel_rfl)
        go_simp
        exact hK _ _ (trivial) rfl (H.glob.keep rfl)
      case o1 =>
        intro L vs A W H hf hd K hK
        have e26 := H.is 0 26 rfl rfl rfl (deps_of' hd 0 (by kernel_rfl)) (by kernel_rfl)
        go_simp
        exact hK _ _ (trivial) rfl (H.glob.keep rfl)
      case o2 =>
        intro L vs A W H hf hd K hK
        have e27 := H.is 1 27 rfl rfl rfl (deps_of' hd 1 (by kernel_rfl)) (by kernel_rfl)
        go_simp
        exact hK _ _ (trivial) rfl (H.glob.keep rfl)
      case o3 =>
        intro L vs A W H hf hd K hK
        have e28 := H.is 2 28 rfl rfl rfl (deps_of' hd 2 (by kernel_rfl)) (by kernel_rfl)
        have d : W.cell? ⟨rb, 0, none⟩ = some (.pointer (some ⟨mb, 0, none⟩)) := (Hc.out W H.glob.k 0).trans HR.out
        go_simp
        exact hK _ _ (trivial) rfl (H.glob.keep rfl)
      case o4 =>
        intro L vs A W H hf hd K hK
        have e4 : A.tmps[4]?.getD undef = .pointer (some ⟨pb, 0, none⟩) := H.old 4 (by kernel_rfl)
        go_simp
        exact hK _ _ (trivial) rfl (H.glob.keep rfl)
      case o5 =>
        intro L vs A W H hf hd K hK
        have e30 := H.is 4 30 rfl rfl rfl (deps_of' hd 4 (by kernel_rfl)) (by kernel_rfl)
        have d : W.cell? ⟨pb, 0, none⟩ = some (.int .u64 ad) := (HPc.out W H.glob.k).1
        go_simp
        exact hK _ _ (trivial) rfl (H.glob.keep rfl)
      case o6 =>
        intro L vs A W H hf hd K hK
        have e4 : A.tmps[4]?.getD undef = .pointer (some ⟨pb, 0, none⟩) := H.old 4 (by kernel_rfl)
        go_simp
        exact hK _ _ (trivial) rfl (H.glob.keep rfl)
      case o7 =>
        intro L vs A W H hf hd K hK
        have e32 := H.is 6 32 rfl rfl rfl (deps_of' hd 6 (by kernel_rfl)) (by kernel_rfl)
        have d : W.cell? ⟨pb, 1, none⟩ = some (.int .u64 x) := (HPc.out W H.glob.k).2
        go_simp
        exact hK _ _ (trivial) rfl (H.glob.keep rfl)
      case o8 =>
        intro L vs A W H hf hd K hK
        have e29 := H.is 3 29 rfl rfl rfl (deps_of' hd 3 (by kernel_rfl)) (by kernel_rfl)
        have e31 := H.is 5 31 rfl rfl rfl (deps_of' hd 5 (by kernel_rfl)) (by kernel_rfl)
        have e33 := H.is 7 33 rfl rfl rfl (deps_of' hd 7 (by kernel_rfl)) (by kernel_rfl)
        have hW := H.glob.n hf
        subst hW
        go_simp
        refine HSt.out.mono ?_
        rintro e w' ⟨rfl, hI⟩
        have hk1 := hI.keeps
        go_simp
        exact hK _ _ trivial rfl ⟨fun e => (by simp [lset] at e), fun _ => hI, (Keeps.refl _ W4).drew.trans hk1⟩
      case o9 =>
        intro L vs A W H hf hd K hK
        have e34 := H.is 8 34 rfl rfl rfl (deps_of' hd 8 (by kernel_rfl)) (by kernel_rfl)
        go_simp
        exact hK _ _ (trivial) rfl (H.glob.keep rfl)
      case he =>
        intro vs W hlen hv
        match vs, hlen, hv with
        | [x0_, x1_, x2_, x3_, x4_, x5_, x6_, x7_, x8_, x9_], _, hv =>
        obtain rfl : (.pointer (some ⟨rb, 0, none⟩)) = x0_ := by obtain ⟨z, h1, h2⟩ := hv 0 _ rfl; cases h1; exact h2.symm
        obtain rfl : (.pointer (some ⟨rb, 0, none⟩)) = x1_ := by obtain ⟨z, h1, h2⟩ := hv 1 _ rfl; cases h1; exact h2.symm
        obtain rfl : (.pointer (some ⟨rb, 0, none⟩)) = x2_ := by obtain ⟨z, h1, h2⟩ := hv 2 _ rfl; cases h1; exact h2.symm
        obtain rfl : (.pointer (some ⟨mb, 0, none⟩)) = x3_ := by obtain ⟨z, h1, h2⟩ := hv 3 _ rfl; cases h1; exact h2.symm
        obtain rfl : (.pointer (some ⟨pb, 0, none⟩)) = x4_ := by obtain ⟨z, h1, h2⟩ := hv 4 _ rfl; cases h1; exact h2.symm
        obtain rfl : (.int .u64 ad) = x5_ := by obtain ⟨z, h1, h2⟩ := hv 5 _ rfl; cases h1; exact h2.symm
        obtain rfl : (.pointer (some ⟨pb, 1, none⟩)) = x6_ := by obtain ⟨z, h1, h2⟩ := hv 6 _ rfl; cases h1; exact h2.symm
        obtain rfl : (.int .u64 x) = x7_ := by obtain ⟨z, h1, h2⟩ := hv 7 _ rfl; cases h1; exact h2.symm
        obtain rfl : (.int .i64 0) = x8_ := by obtain ⟨z, h1, h2⟩ := hv 8 _ rfl; cases h1; exact h2.symm
        obtain rfl : (.int .i64 0) = x9_ := by obtain ⟨z, h1, h2⟩ := hv 9 _ rfl; cases h1; exact h2.symm
        intro L hall hG
        clear hv hlen
        have HG := Lib.hid (hG.y (hall 8 (by decide)))
        have HGk := Lib.hid hG.k
        clear hG hall
        simp only [fill, if_true]
      --END
        simp [Act.put]
        have hsto := HG.out
        have hkk := HGk.out
        rw [HS0.out] at hsto hkk
        have HSto := Lib.hid hsto
        have hrb5 := HRb4.out.kept hkk HRS.out.s.1
        have hbp5 := HBp.out.kept hkk HPn.out.1
        have hb6 := hrb5.set 3 (.int .i64 ((k : Int) + 1))
        rw [rn_set3] at hb6
        have d3 : W.cell? ⟨rb, 3, none⟩ = some (.int .i64 (k : Int)) := (hrb5.cell 3).trans (by rw [← HAt.out]; rfl)
        have f3 := hrb5.frozen 3
        have hw1 : IntKind.i64.wrap ((k : Int) + 1) = ((k : Int) + 1) := by exact IntWalk.i64_in _ (by have := HKl.out; omega)
        have hk6 : Keeps (fun i => i = rb) W (W.setCell ⟨rb, 3, none⟩ (.int .i64 ((k : Int) + 1))) := (Keeps.refl (fun i => i = rb) W).setCell (p := ⟨rb, 3, none⟩) (.inl rfl) _
        have HKk := Lib.hid hkk
        have HB6 := Lib.hid hb6
        have HK6 := Lib.hid hk6
        have HP6 := Lib.hid (hbp5.kept hk6 (fun e => HPn.out.2.1 e.symm))
        clear hsto hkk HG HGk hrb5 hbp5 hb6 hk6 HSt Hc HPc HR HRb4 HBp
        go_upto_region 8 with (fail)
        obtain ⟨W7, hW7⟩ : ∃ W7, W.setCell ⟨rb, 3, none⟩ (.int .i64 ((k : Int) + 1)) = W7 := ⟨_, rfl⟩
        rw [hW7] at HB6 HK6 HP6 ⊢
        clear hW7 d3 f3 hw1
        have HK17 := Lib.hid ((HK4.out.mono (S' := fun i => i = rb ∨ S0 i) (fun _ _ h => h.elim)).trans ((HKk.out.mono (fun _ _ h => .inr h)).trans (HK6.out.mono (fun _ _ h => .inl h))))
        have Hc7 := Lib.hid (show ∀ W, Keeps NoB W7 W → ∀ j, W.cell? ⟨rb, j, none⟩ = (rnCells { r with at_ := ((k : Int) + 1) })[j]? from fun W hk j => by rw [hk.cell (p := ⟨rb, j, none⟩) HB6.out.lt (fun h => h)]; exact HB6.out.cell j)
        have HR7 := Lib.hid (show (rnCells { r with at_ := ((k : Int) + 1) })[2]? = some (.slice (some ⟨g, 0, none⟩) ln cap) ∧ (rnCells { r with at_ := ((k : Int) + 1) })[3]? = some (.int .i64 ((k : Int) + 1)) from ⟨by rw [← HLn.out, ← HRS.out.sl]; rfl, rfl⟩)
        by_cases hend : k + 1 = ln
        · have Hq8 := Lib.hid (show (((k : Int) + 1) == (ln : Int)) = true from by rw [show (k : Int) + 1 = (ln : Int) by omega]; exact beq_self_eq_true _)
          have HEnd := Lib.hid hend
          clear hend
          go_wp2_with (fail)
          --GEN r_rs8t
          refine wp_region_vals [Is (.pointer (some ⟨rb, 0, none⟩)), Is (.pointer (some ⟨rb, 0, none⟩)), Is (.pointer (some ⟨rb, 3, none⟩)), Is (.int .i64 ((k : Int) + 1)), Is (.pointer (some ⟨rb, 0, none⟩)), Is (.pointer (some ⟨rb, 0, none⟩)), Is (.pointer (some ⟨rb, 2, none⟩)), Is (.slice (some ⟨g, 0, none⟩) ln cap), Is (.int .i64 (ln : Int)), Is (.bool true), Is (.bool true), Any, Any, Any, Any, Any, Any, Any, Any, Any, Any, Any, Any, Any, Any, Is (.bool true)]
            (fun _ _ _ => True) (fun _ W => Below W7.heap.size W7 W) (by kernel_rfl) (by kernel_rfl) (by kernel_rfl) ?hst ?h0 ⟨?o0, ?o1, ?o2, ?o3, ?o4, ?o5, ?o6, ?o7, ?o8, ?o9, ?o10, ?o11, ?o12, ?o13, ?o14, ?o15, ?o16, ?o17, ?o18, ?o19, ?o20, ?o21, ?o22, ?o23, ?o24, ?o25, trivial⟩ ?he
          case hst =>
            exact ⟨(fun _ _ _ _ _ _ h _ => h), (fun _ _ _ _ _ _ h _ => h), (fun _ _ _ _ _ _ h _ => h), (fun _ _ _ _ _ _ h _ => h), (fun _ _ _ _ _ _ h _ => h), (fun _ _ _ _ _ _ h _ => h), (fun _ _ _ _ _ _ h _ => h), (fun _ _ _ _ _ _ h _ => h), (fun _ _ _ _ _ _ h _ => h), (fun _ _ _ _ _ _ h _ => h), (fun _ _ _ _ _ _ h _ => h), (fun _ _ _ _ _ _ h _ => h), (fun _ _ _ _ _ _ h _ => h), (fun _ _ _ _ _ _ h _ => h), (fun _ _ _ _ _ _ h _ => h), (fun _ _ _ _ _ _ h _ => h), (fun _ _ _ _ _ _ h _ => h), (fun _ _ _ _ _ _ h _ => h), (fun _ _ _ _ _ _ h _ => h), (fun _ _ _ _ _ _ h _ => h), (fun _ _ _ _ _ _ h _ => h), (fun _ _ _ _ _ _ h _ => h), (fun _ _ _ _ _ _ h _ => h), (fun _ _ _ _ _ _ h _ => h), (fun _ _ _ _ _ _ h _ => h), (fun _ _ _ _ _ _ h _ => h), trivial⟩
          case h0 =>
            exact (Below.refl _ W7).drew
          case o0 =>
            intro L vs A W H hf hd K hK
            have e0 : A.tmps[0]?.getD undef = .pointer (some ⟨rb, 0, none⟩) := H.old 0 (by kernel_rfl)
            go_simp
            exact hK _ _ (trivial) rfl (H.glob)
          case o1 =>
            intro L vs A W H hf hd K hK
            have e45 := H.is 0 45 rfl rfl rfl (deps_of' hd 0 (by kernel_rfl)) (by kernel_rfl)
            go_simp
            exact hK _ _ (trivial) rfl (H.glob)
          case o2 =>
            intro L vs A W H hf hd K hK
            have e46 := H.is 1 46 rfl rfl rfl (deps_of' hd 1 (by kernel_rfl)) (by kernel_rfl)
            go_simp
            exact hK _ _ (trivial) rfl (H.glob)
          case o3 =>
            intro L vs A W H hf hd K hK
            have e47 := H.is 2 47 rfl rfl rfl (deps_of' hd 2 (by kernel_rfl)) (by kernel_rfl)
            have d : W.cell? ⟨rb, 3, none⟩ = some (.int .i64 ((k : Int) + 1)) := (Hc7.out W (Keeps.of_below' H.glob) 3).trans HR7.out.2
            go_simp
            exact hK _ _ (trivial) rfl (H.glob)
          case o4 =>
            intro L vs A W H hf hd K hK
            have e0 : A.tmps[0]?.getD undef = .pointer (some ⟨rb, 0, none⟩) := H.old 0 (by kernel_rfl)
            go_simp
            exact hK _ _ (trivial) rfl (H.glob)
          case o5 =>
            intro L vs A W H hf hd K hK
            have e49 := H.is 4 49 rfl rfl rfl (deps_of' hd 4 (by kernel_rfl)) (by kernel_rfl)
            go_simp
            exact hK _ _ (trivial) rfl (H.glob)
          case o6 =>
            intro L vs A W H hf hd K hK
            have e50 := H.is 5 50 rfl rfl rfl (deps_of' hd 5 (by kernel_rfl)) (by kernel_rfl)
            go_simp
            exact hK _ _ (trivial) rfl (H.glob)
          case o7 =>
            intro L vs A W H hf hd K hK
            have e51 := H.is 6 51 rfl rfl rfl (deps_of' hd 6 (by kernel_rfl)) (by kernel_rfl)
            have d : W.cell? ⟨rb, 2, none⟩ = some (.slice (some ⟨g, 0, none⟩) ln cap) := (Hc7.out W (Keeps.of_below' H.glob) 2).trans HR7.out.1
            go_simp
            exact hK _ _ (trivial) rfl (H.glob)
          case o8 =>
            intro L vs A W H hf hd K hK
            have e52 := H.is 7 52 rfl rfl rfl (deps_of' hd 7 (by kernel_rfl)) (by kernel_rfl)
            go_simp
            exact hK _ _ (trivial) rfl (H.glob)
          case o9 =>
            intro L vs A W H hf hd K hK
            have e48 := H.is 3 48 rfl rfl rfl (deps_of' hd 3 (by kernel_rfl)) (by kernel_rfl)
            have e53 := H.is 8 53 rfl rfl rfl (deps_of' hd 8 (by kernel_rfl)) (by kernel_rfl)
            have hq := Hq8.out
            go_simp
            exact hK _ _ (trivial) rfl (H.glob)
          case o10 =>
            intro L vs A W H hf hd K hK
            have e54 := H.is 9 54 rfl rfl rfl (deps_of' hd 9 (by kernel_rfl)) (by kernel_rfl)
            go_simp
            exact hK _ _ (trivial) rfl (H.glob)
          case o11 =>
            intro L vs A W H hf hd K hK
            have e55 := H.is 10 55 rfl rfl rfl (deps_of' hd 10 (by kernel_rfl)) (by kernel_rfl)
            refine if_unwanted (j := 10) (s := 55) rfl rfl rfl e55 rfl ?_
            exact hK _ _ (trivial) trivial (H.glob)
          case o12 =>
            intro L vs A W H hf hd K hK
            have e55 := H.is 10 55 rfl rfl rfl (deps_of' hd 10 (by kernel_rfl)) (by kernel_rfl)
            refine if_unwanted (j := 10) (s := 55) rfl rfl rfl e55 rfl ?_
            exact hK _ _ (trivial) trivial (H.glob)
          case o13 =>
            intro L vs A W H hf hd K hK
            have e55 := H.is 10 55 rfl rfl rfl (deps_of' hd 10 (by kernel_rfl)) (by kernel_rfl)
            refine if_unwanted (j := 10) (s := 55) rfl rfl rfl e55 rfl ?_
            exact hK _ _ (trivial) trivial (H.glob)
          case o14 =>
            intro L vs A W H hf hd K hK
            have e55 := H.is 10 55 rfl rfl rfl (deps_of' hd 10 (by kernel_rfl)) (by kernel_rfl)
            refine if_unwanted (j := 10) (s := 55) rfl rfl rfl e55 rfl ?_
            exact hK _ _ (trivial) trivial (H.glob)
          case o15 =>
            intro L vs A W H hf hd K hK
            have e55 := H.is 10 55 rfl rfl rfl (deps_of' hd 10 (by kernel_rfl)) (by kernel_rfl)
            refine if_unwanted (j := 10) (s := 55) rfl rfl rfl e55 rfl ?_
            exact hK _ _ (trivial) trivial (H.glob)
          case o16 =>
            intro L vs A W H hf hd K hK
            have e55 := H.is 10 55 rfl rfl rfl (deps_of' hd 10 (by kernel_rfl)) (by kernel_rfl)
            refine if_unwanted (j := 10) (s := 55) rfl rfl rfl e55 rfl ?_
            exact hK _ _ (trivial) trivial (H.glob)
          case o17 =>
            intro L vs A W H hf hd K hK
            have e55 := H.is 10 55 rfl rfl rfl (deps_of' hd 10 (by kernel_rfl)) (by kernel_rfl)
            refine if_unwanted (j := 10) (s := 55) rfl rfl rfl e55 rfl ?_
            exact hK _ _ (trivial) trivial (H.glob)
          case o18 =>
            intro L vs A W H hf hd K hK
            have e55 := H.is 10 55 rfl rfl rfl (deps_of' hd 10 (by kernel_rfl)) (by kernel_rfl)
            refine if_unwanted (j := 10) (s := 55) rfl rfl rfl e55 rfl ?_
            exact hK _ _ (trivial) trivial (H.glob)
          case o19 =>
            intro L vs A W H hf hd K hK
            have e55 := H.is 10 55 rfl rfl rfl (deps_of' hd 10 (by kernel_rfl)) (by kernel_rfl)
            refine if_unwanted (j := 10) (s := 55) rfl rfl rfl e55 rfl ?_
            exact hK _ _ (trivial) trivial (H.glob)
          case o20 =>
            intro L vs A W H hf hd K hK
            have e55 := H.is 10 55 rfl rfl rfl (deps_of' hd 10 (by kernel_rfl)) (by kernel_rfl)
            refine if_unwanted (j := 10) (s := 55) rfl rfl rfl e55 rfl ?_
            exact hK _ _ (trivial) trivial (H.glob)
          case o21 =>
            intro L vs A W H hf hd K hK
            have e55 := H.is 10 55 rfl rfl rfl (deps_of' hd 10 (by kernel_rfl)) (by kernel_rfl)
            refine if_unwanted (j := 10) (s := 55) rfl rfl rfl e55 rfl ?_
            exact hK _ _ (trivial) trivial (H.glob)
          case o22 =>
            intro L vs A W H hf hd K hK
            have e55 := H.is 10 55 rfl rfl rfl (deps_of' hd 10 (by kernel_rfl)) (by kernel_rfl)
            refine if_unwanted (j := 10) (s := 55) rfl rfl rfl e55 rfl ?_
            exact hK _ _ (trivial) trivial (H.glob)
          case o23 =>
            intro L vs A W H hf hd K hK
            have e55 := H.is 10 55 rfl rfl rfl (deps_of' hd 10 (by kernel_rfl)) (by kernel_rfl)
            refine if_unwanted (j := 10) (s := 55) rfl rfl rfl e55 rfl ?_
            exact hK _ _ (trivial) trivial (H.glob)
          case o24 =>
            intro L vs A W H hf hd K hK
            have e55 := H.is 10 55 rfl rfl rfl (deps_of' hd 10 (by kernel_rfl)) (by kernel_rfl)
            refine if_unwanted (j := 10) (s := 55) rfl rfl rfl e55 rfl ?_
            exact hK _ _ (trivial) trivial (H.glob)
          case o25 =>
            intro L vs A W H hf hd K hK
            have e55 := H.is 10 55 rfl rfl rfl (deps_of' hd 10 (by kernel_rfl)) (by kernel_rfl)
            obtain ⟨v69, e69, q69⟩ := H.val 24 69 rfl rfl rfl (deps_of' hd 24 (by kernel_rfl)) (by kernel_rfl)
            go_simp
            exact hK _ _ (trivial) rfl (H.glob)
          case he =>
            intro vs W hlen hv
            match vs, hlen, hv with
            | [x0_, x1_, x2_, x3_, x4_, x5_, x6_, x7_, x8_, x9_, x10_, x11_, x12_, x13_, x14_, x15_, x16_, x17_, x18_, x19_, x20_, x21_, x22_, x23_, x24_, x25_], _, hv =>
            obtain rfl : (.pointer (some ⟨rb, 0, none⟩)) = x0_ := by obtain ⟨z, h1, h2⟩ := hv 0 _ rfl; cases h1; exact h2.symm
            obtain rfl : (.pointer (some ⟨rb, 0, none⟩)) = x1_ := by obtain ⟨z, h1, h2⟩ := hv 1 _ rfl; cases h1; exact h2.symm
            obtain rfl : (.pointer (some ⟨rb, 3, none⟩)) = x2_ := by obtain ⟨z, h1, h2⟩ := hv 2 _ rfl; cases h1; exact h2.symm
            obtain rfl : (.int .i64 ((k : Int) + 1)) = x3_ := by obtain ⟨z, h1, h2⟩ := hv 3 _ rfl; cases h1; exact h2.symm
            obtain rfl : (.pointer (some ⟨rb, 0, none⟩)) = x4_ := by obtain ⟨z, h1, h2⟩ := hv 4 _ rfl; cases h1; exact h2.symm
            obtain rfl : (.pointer (some ⟨rb, 0, none⟩)) = x5_ := by obtain ⟨z, h1, h2⟩ := hv 5 _ rfl; cases h1; exact h2.symm
            obtain rfl : (.pointer (some ⟨rb, 2, none⟩)) = x6_ := by obtain ⟨z, h1, h2⟩ := hv 6 _ rfl; cases h1; exact h2.symm
            obtain rfl : (.slice (some ⟨g, 0, none⟩) ln cap) = x7_ := by obtain ⟨z, h1, h2⟩ := hv 7 _ rfl; cases h1; exact h2.symm
            obtain rfl : (.int .i64 (ln : Int)) = x8_ := by obtain ⟨z, h1, h2⟩ := hv 8 _ rfl; cases h1; exact h2.symm
            obtain rfl : (.bool true) = x9_ := by obtain ⟨z, h1, h2⟩ := hv 9 _ rfl; cases h1; exact h2.symm
            obtain rfl : (.bool true) = x10_ := by obtain ⟨z, h1, h2⟩ := hv 10 _ rfl; cases h1; exact h2.symm
            obtain rfl : (.bool true) = x25_ := by obtain ⟨z, h1, h2⟩ := hv 25 _ rfl; cases h1; exact h2.symm
            intro L hall hG
            clear hv hlen
            have HG8 := Lib.hid hG
            clear hG hall
            simp only [fill, if_true]
          --END
            simp [Act.put]
            have hb8 := HB6.out.kept (Keeps.of_below' HG8.out) (fun h => h)
            have HB8 := Lib.hid hb8
            have hb9 := hb8.set 4 (rphV rb 85)
            rw [rn_set4] at hb9
            have hk9 : Keeps (fun i => i = rb) W (W.setCell ⟨rb, 4, none⟩ (rphV rb 85)) := (Keeps.refl (fun i => i = rb) W).setCell (p := ⟨rb, 4, none⟩) (.inl rfl) _
            have HB9 := Lib.hid hb9
            have HK9 := Lib.hid hk9
            have HK8 := Lib.hid ((HK17.out.trans ((Keeps.of_below' HG8.out).mono (fun _ _ h => h.elim))).trans (hk9.mono (fun _ _ h => .inl h)))
            clear hb8 hb9 hk9
            go_wp2_with ((with_reducible refine wpList_store_cellB (o := ⟨none, .store 36 (.tmp 75) (.tmp 73), _, _, _, _⟩) ?hg 36 (.tmp 75) (.tmp 73) ?ho rb 4 (rphV rb 85) ?CC 129 ?hx ?hy ?h1 ?hb ?hs ?hi ?_); (case hg => rfl); (case ho => rfl); (case hx => rfl); (case hy => rfl); (case h1 => rfl); (case hb => exact HB8.out); (case hs => rw [rnCells_size]; decide); (case hi => exact infoFn))
            go_ret2
            obtain ⟨S', hm', hsub, hkS⟩ := HSto.out
            have hlt := HRS.out.b.lt
            have hnS : ¬ S' rb := fun h => by
              rcases hsub rb h with h | h
              · exact HRS.out.s.1 h
              · have : W4.heap.size ≤ rb := h
                have := HK4.out.size; omega
            refine ⟨rfl, S', ((hm'.kept HK6.out (fun i hi e => hnS (e ▸ hi))).below HG8.out).kept HK9.out (fun i hi e => hnS (e ▸ hi)), fun i hi => ?_, HK8.out, ?_⟩
            · rcases hsub i hi with h | h
              · exact .inl h
              · have : W4.heap.size ≤ i := h
                have := HK4.out.size
                exact .inr (by omega)
            · unfold rNext
              rw [HX.out.1, HLn.out, if_pos (.inl (HEnd.out))]
              exact HB9.out
        · have Hq8 := Lib.hid (show (((k : Int) + 1) == (ln : Int)) = false from beq_eq_false_iff_ne.2 (by omega))
          have hk1 : k + 1 < l.length := by rw [HLn.out]; have := HKl.out; omega
          have hck2 := HRS.out.e (k + 1) hk1
          have hbd2 := HBd.out (k + 1) hk1
          have HEnd := Lib.hid hend
          obtain ⟨ad2, had2⟩ : ∃ ad2, eK l (k + 1) = ad2 := ⟨_, rfl⟩
          obtain ⟨x2, hx2⟩ : ∃ x2, eP l (k + 1) = x2 := ⟨_, rfl⟩
          rw [Nat.zero_add, had2, hx2] at hck2
          rw [had2] at hbd2
          have HX2 := Lib.hid had2
          have Hb1 := Lib.hid (show (0 : Int) ≤ (k : Int) + 1 from by omega)
          have Hb2 := Lib.hid (show (k : Int) + 1 < (ln : Int) from by rw [HLn.out] at hk1; omega)
          have HLi1 := Lib.hid (fun W => line_v ad x HBk.out.1 HBk.out.2 W)
          have HLi2 := Lib.hid (fun W => line_v ad2 x2 hbd2.1 hbd2.2 W)
          have hg7 : ∀ j, W7.cell? ⟨g, j, none⟩ = W1.cell? ⟨g, j, none⟩ := fun j => HK17.out.cell (p := ⟨g, j, none⟩) HRS.out.glt (fun h => by
            rcases h with h | h
            · exact HRS.out.s.2.2 h.symm
            · exact HRS.out.s.2.1 h)
          have hglt7 : g < W7.heap.size := Nat.lt_of_lt_of_le HRS.out.glt HK17.out.size
          have HC2 := Lib.hid (show ∀ W, Keeps NoB W7 W → ∀ j v, (#[Value.int .u64 ad2, Value.int .u64 x2] : Array Value)[j]? = some v → W.cell? ⟨g, (k + 1) * 2 + j, none⟩ = some v from fun W hk j v hv => by
            rw [hk.cell (p := ⟨g, (k + 1) * 2 + j, none⟩) hglt7 (fun h => h), hg7]
            have hj : j < 2 := (Array.getElem?_eq_some_iff.1 hv).1
            have : j = 0 ∨ j = 1 := by omega
            rcases this with rfl | rfl
            · cases hv; exact hck2.1
            · cases hv; exact hck2.2)
          have HC1 := Lib.hid (show ∀ W, Keeps NoB W7 W → ∀ j v, (#[Value.int .u64 ad, Value.int .u64 x] : Array Value)[j]? = some v → W.cell? ⟨pb, 0 + j, none⟩ = some v from fun W hk j v hv => by
            rw [hk.cell (p := ⟨pb, 0 + j, none⟩) HP6.out.lt (fun h => h), Nat.zero_add, HP6.out.cell]; exact hv)
          clear hend hk1 hck2 hbd2 had2 hx2 hg7 hglt7
          go_wp2_with (fail)
          --GEN r_rs8f
          refine wp_region_vals [Is (.pointer (some ⟨rb, 0, none⟩)), Is (.pointer (some ⟨rb, 0, none⟩)), Is (.pointer (some ⟨rb, 3, none⟩)), Is (.int .i64 ((k : Int) + 1)), Is (.pointer (some ⟨rb, 0, none⟩)), Is (.pointer (some ⟨rb, 0, none⟩)), Is (.pointer (some ⟨rb, 2, none⟩)), Is (.slice (some ⟨g, 0, none⟩) ln cap), Is (.int .i64 (ln : Int)), Is (.bool false), Is (.bool false), Is (.pointer (some ⟨rb, 0, none⟩)), Is (.pointer (some ⟨rb, 0, none⟩)), Is (.pointer (some ⟨rb, 2, none⟩)), Is (.slice (some ⟨g, 0, none⟩) ln cap), Is (.pointer (some ⟨rb, 0, none⟩)), Is (.pointer (some ⟨rb, 0, none⟩)), Is (.pointer (some ⟨rb, 3, none⟩)), Is (.int .i64 ((k : Int) + 1)), Is (.pointer (some ⟨g, (k + 1) * 2, none⟩)), Is (.agg #[.int .u64 ad2, .int .u64 x2]), Is (.int .u64 (ad2 / 64)), Is (.agg #[.int .u64 ad, .int .u64 x]), Is (.int .u64 (ad / 64)), Is (.bool (ad2 / 64 != ad / 64)), Is (.bool (ad2 / 64 != ad / 64))]
            (fun _ _ _ => True) (fun _ W => Below W7.heap.size W7 W) (by kernel_rfl) (by kernel_rfl) (by kernel_rfl) ?hst ?h0 ⟨?o0, ?o1, ?o2, ?o3, ?o4, ?o5, ?o6, ?o7, ?o8, ?o9, ?o10, ?o11, ?o12, ?o13, ?o14, ?o15, ?o16, ?o17, ?o18, ?o19, ?o20, ?o21, ?o22, ?o23, ?o24, ?o25, trivial⟩ ?he
          case hst =>
            exact ⟨(fun _ _ _ _ _ _ h _ => h), (fun _ _ _ _ _ _ h _ => h), (fun _ _ _ _ _ _ h _ => h), (fun _ _ _ _ _ _ h _ => h), (fun _ _ _ _ _ _ h _ => h), (fun _ _ _ _ _ _ h _ => h), (fun _ _ _ _ _ _ h _ => h), (fun _ _ _ _ _ _ h _ => h), (fun _ _ _ _ _ _ h _ => h), (fun _ _ _ _ _ _ h _ => h), (fun _ _ _ _ _ _ h _ => h), (fun _ _ _ _ _ _ h _ => h), (fun _ _ _ _ _ _ h _ => h), (fun _ _ _ _ _ _ h _ => h), (fun _ _ _ _ _ _ h _ => h), (fun _ _ _ _ _ _ h _ => h), (fun _ _ _ _ _ _ h _ => h), (fun _ _ _ _ _ _ h _ => h), (fun _ _ _ _ _ _ h _ => h), (fun _ _ _ _ _ _ h _ => h), (fun _ _ _ _ _ _ h _ => h), (fun _ _ _ _ _ _ h _ => h), (fun _ _ _ _ _ _ h _ => h), (fun _ _ _ _ _ _ h _ => h), (fun _ _ _ _ _ _ h _ => h), (fun _ _ _ _ _ _ h _ => h), trivial⟩
          case h0 =>
            exact (Below.refl _ W7).drew
          case o0 =>
            intro L vs A W H hf hd K hK
            have e0 : A.tmps[0]?.getD undef = .pointer (some ⟨rb, 0, none⟩) := H.old 0 (by kernel_rfl)
            go_simp
            exact hK _ _ (trivial) rfl (H.glob)
          case o1 =>
            intro L vs A W H hf hd K hK
            have e45 := H.is 0 45 rfl rfl rfl (deps_of' hd 0 (by kernel_rfl)) (by kernel_rfl)
            go_simp
            exact hK _ _ (trivial) rfl (H.glob)
          case o2 =>
            intro L vs A W H hf hd K hK
            have e46 := H.is 1 46 rfl rfl rfl (deps_of' hd 1 (by kernel_rfl)) (by kernel_rfl)
            go_simp
            exact hK _ _ (trivial) rfl (H.glob)
          case o3 =>
            intro L vs A W H hf hd K hK
            have e47 := H.is 2 47 rfl rfl rfl (deps_of' hd 2 (by kernel_rfl)) (by kernel_rfl)
            have d : W.cell? ⟨rb, 3, none⟩ = some (.int .i64 ((k : Int) + 1)) := (Hc7.out W (Keeps.of_below' H.glob) 3).trans HR7.out.2
            go_simp
            exact hK _ _ (trivial) rfl (H.glob)
          case o4 =>
            intro L vs A W H hf hd K hK
            have e0 : A.tmps[0]?.getD undef = .pointer (some ⟨rb, 0, none⟩) := H.old 0 (by kernel_rfl)
            go_simp
            exact hK _ _ (trivial) rfl (H.glob)
          case o5 =>
            intro L vs A W H hf hd K hK
            have e49 := H.is 4 49 rfl rfl rfl (deps_of' hd 4 (by kernel_rfl)) (by kernel_rfl)
            go_simp
            exact hK _ _ (trivial) rfl (H.glob)
          case o6 =>
            intro L vs A W H hf hd K hK
            have e50 := H.is 5 50 rfl rfl rfl (deps_of' hd 5 (by kernel_rfl)) (by kernel_rfl)
            go_simp
            exact hK _ _ (trivial) rfl (H.glob)
          case o7 =>
            intro L vs A W H hf hd K hK
            have e51 := H.is 6 51 rfl rfl rfl (deps_of' hd 6 (by kernel_rfl)) (by kernel_rfl)
            have d : W.cell? ⟨rb, 2, none⟩ = some (.slice (some ⟨g, 0, none⟩) ln cap) := (Hc7.out W (Keeps.of_below' H.glob) 2).trans HR7.out.1
            go_simp
            exact hK _ _ (trivial) rfl (H.glob)
          case o8 =>
            intro L vs A W H hf hd K hK
            have e52 := H.is 7 52 rfl rfl rfl (deps_of' hd 7 (by kernel_rfl)) (by kernel_rfl)
            go_simp
            exact hK _ _ (trivial) rfl (H.glob)
          case o9 =>
            intro L vs A W H hf hd K hK
            have e48 := H.is 3 48 rfl rfl rfl (deps_of' hd 3 (by kernel_rfl)) (by kernel_rfl)
            have e53 := H.is 8 53 rfl rfl rfl (deps_of' hd 8 (by kernel_rfl)) (by kernel_rfl)
            have hq := Hq8.out
            go_simp
            exact hK _ _ (trivial) rfl (H.glob)
          case o10 =>
            intro L vs A W H hf hd K hK
            have e54 := H.is 9 54 rfl rfl rfl (deps_of' hd 9 (by kernel_rfl)) (by kernel_rfl)
            go_simp
            exact hK _ _ (trivial) rfl (H.glob)
          case o11 =>
            intro L vs A W H hf hd K hK
            have e55 := H.is 10 55 rfl rfl rfl (deps_of' hd 10 (by kernel_rfl)) (by kernel_rfl)
            refine if_wanted (j := 10) (s := 55) rfl rfl rfl e55 rfl ?_
            have e0 : A.tmps[0]?.getD undef = .pointer (some ⟨rb, 0, none⟩) := H.old 0 (by kernel_rfl)
            go_simp
            exact hK _ _ (trivial) rfl (H.glob)
          case o12 =>
            intro L vs A W H hf hd K hK
            have e55 := H.is 10 55 rfl rfl rfl (deps_of' hd 10 (by kernel_rfl)) (by kernel_rfl)
            refine if_wanted (j := 10) (s := 55) rfl rfl rfl e55 rfl ?_
            have e56 := H.is 11 56 rfl rfl rfl (deps_of' hd 11 (by kernel_rfl)) (by kernel_rfl)
            go_simp
            exact hK _ _ (trivial) rfl (H.glob)
          case o13 =>
            intro L vs A W H hf hd K hK
            have e55 := H.is 10 55 rfl rfl rfl (deps_of' hd 10 (by kernel_rfl)) (by kernel_rfl)
            refine if_wanted (j := 10) (s := 55) rfl rfl rfl e55 rfl ?_
            have e57 := H.is 12 57 rfl rfl rfl (deps_of' hd 12 (by kernel_rfl)) (by kernel_rfl)
            go_simp
            exact hK _ _ (trivial) rfl (H.glob)
          case o14 =>
            intro L vs A W H hf hd K hK
            have e55 := H.is 10 55 rfl rfl rfl (deps_of' hd 10 (by kernel_rfl)) (by kernel_rfl)
            refine if_wanted (j := 10) (s := 55) rfl rfl rfl e55 rfl ?_
            have e58 := H.is 13 58 rfl rfl rfl (deps_of' hd 13 (by kernel_rfl)) (by kernel_rfl)
            have d : W.cell? ⟨rb, 2, none⟩ = some (.slice (some ⟨g, 0, none⟩) ln cap) := (Hc7.out W (Keeps.of_below' H.glob) 2).trans HR7.out.1
            go_simp
            exact hK _ _ (trivial) rfl (H.glob)
          case o15 =>
            intro L vs A W H hf hd K hK
            have e55 := H.is 10 55 rfl rfl rfl (deps_of' hd 10 (by kernel_rfl)) (by kernel_rfl)
            refine if_wanted (j := 10) (s := 55) rfl rfl rfl e55 rfl ?_
            have e0 : A.tmps[0]?.getD undef = .pointer (some ⟨rb, 0, none⟩) := H.old 0 (by kernel_rfl)
            go_simp
            exact hK _ _ (trivial) rfl (H.glob)
          case o16 =>
            intro L vs A W H hf hd K hK
            have e55 := H.is 10 55 rfl rfl rfl (deps_of' hd 10 (by kernel_rfl)) (by kernel_rfl)
            refine if_wanted (j := 10) (s := 55) rfl rfl rfl e55 rfl ?_
            have e60 := H.is 15 60 rfl rfl rfl (deps_of' hd 15 (by kernel_rfl)) (by kernel_rfl)
            go_simp
            exact hK _ _ (trivial) rfl (H.glob)
          case o17 =>
            intro L vs A W H hf hd K hK
            have e55 := H.is 10 55 rfl rfl rfl (deps_of' hd 10 (by kernel_rfl)) (by kernel_rfl)
            refine if_wanted (j := 10) (s := 55) rfl rfl rfl e55 rfl ?_
            have e61 := H.is 16 61 rfl rfl rfl (deps_of' hd 16 (by kernel_rfl)) (by kernel_rfl)
            go_simp
            exact hK _ _ (trivial) rfl (H.glob)
          case o18 =>
            intro L vs A W H hf hd K hK
            have e55 := H.is 10 55 rfl rfl rfl (deps_of' hd 10 (by kernel_rfl)) (by kernel_rfl)
            refine if_wanted (j := 10) (s := 55) rfl rfl rfl e55 rfl ?_
            have e62 := H.is 17 62 rfl rfl rfl (deps_of' hd 17 (by kernel_rfl)) (by kernel_rfl)
            have d : W.cell? ⟨rb, 3, none⟩ = some (.int .i64 ((k : Int) + 1)) := (Hc7.out W (Keeps.of_below' H.glob) 3).trans HR7.out.2
            go_simp
            exact hK _ _ (trivial) rfl (H.glob)
          case o19 =>
            intro L vs A W H hf hd K hK
            have e55 := H.is 10 55 rfl rfl rfl (deps_of' hd 10 (by kernel_rfl)) (by kernel_rfl)
            refine if_wanted (j := 10) (s := 55) rfl rfl rfl e55 rfl ?_
            have e59 := H.is 14 59 rfl rfl rfl (deps_of' hd 14 (by kernel_rfl)) (by kernel_rfl)
            have e63 := H.is 18 63 rfl rfl rfl (deps_of' hd 18 (by kernel_rfl)) (by kernel_rfl)
            have hb1 := Hb1.out
            have hb2 := Hb2.out
            go_simp
            exact hK _ _ (trivial) rfl (H.glob)
          case o20 =>
            intro L vs A W H hf hd K hK
            have e55 := H.is 10 55 rfl rfl rfl (deps_of' hd 10 (by kernel_rfl)) (by kernel_rfl)
            refine if_wanted (j := 10) (s := 55) rfl rfl rfl e55 rfl ?_
            have e64 := H.is 19 64 rfl rfl rfl (deps_of' hd 19 (by kernel_rfl)) (by kernel_rfl)
            exact wp_ld_part 32 (.tmp 64) rfl g ((k + 1) * 2) (ev_tmp e64) #[.int .u64 ad2, .int .u64 x2] _ (HC2.out W (Keeps.of_below' H.glob)) Try.underlying32 rfl (by kernel_rfl) (hK _ _ trivial rfl H.glob)
          case o21 =>
            intro L vs A W H hf hd K hK
            have e55 := H.is 10 55 rfl rfl rfl (deps_of' hd 10 (by kernel_rfl)) (by kernel_rfl)
            refine if_wanted (j := 10) (s := 55) rfl rfl rfl e55 rfl ?_
            have e65 := H.is 20 65 rfl rfl rfl (deps_of' hd 20 (by kernel_rfl)) (by kernel_rfl)
            have HL := Lib.hid (HLi2.out W)
            go_simp
            refine HL.out.mono ?_
            rintro e w' ⟨rfl, hB⟩
            go_simp
            exact hK _ _ trivial rfl (H.glob.trans (hB.mono H.glob.size))
          case o22 =>
            intro L vs A W H hf hd K hK
            have e55 := H.is 10 55 rfl rfl rfl (deps_of' hd 10 (by kernel_rfl)) (by kernel_rfl)
            refine if_wanted (j := 10) (s := 55) rfl rfl rfl e55 rfl ?_
            have e4 : A.tmps[4]?.getD undef = .pointer (some ⟨pb, 0, none⟩) := H.old 4 (by kernel_rfl)
            exact wp_ld_part 32 (.tmp 4) rfl pb 0 (ev_tmp e4) #[.int .u64 ad, .int .u64 x] _ (HC1.out W (Keeps.of_below' H.glob)) Try.underlying32 rfl (by kernel_rfl) (hK _ _ trivial rfl H.glob)
          case o23 =>
            intro L vs A W H hf hd K hK
            have e55 := H.is 10 55 rfl rfl rfl (deps_of' hd 10 (by kernel_rfl)) (by kernel_rfl)
            refine if_wanted (j := 10) (s := 55) rfl rfl rfl e55 rfl ?_
            have e67 := H.is 22 67 rfl rfl rfl (deps_of' hd 22 (by kernel_rfl)) (by kernel_rfl)
            have HL := Lib.hid (HLi1.out W)
            go_simp
            refine HL.out.mono ?_
            rintro e w' ⟨rfl, hB⟩
            go_simp
            exact hK _ _ trivial rfl (H.glob.trans (hB.mono H.glob.size))
          case o24 =>
            intro L vs A W H hf hd K hK
            have e55 := H.is 10 55 rfl rfl rfl (deps_of' hd 10 (by kernel_rfl)) (by kernel_rfl)
            refine if_wanted (j := 10) (s := 55) rfl rfl rfl e55 rfl ?_
            have e66 := H.is 21 66 rfl rfl rfl (deps_of' hd 21 (by kernel_rfl)) (by kernel_rfl)
            have e68 := H.is 23 68 rfl rfl rfl (deps_of' hd 23 (by kernel_rfl)) (by kernel_rfl)
            go_simp
            exact hK _ _ (trivial) rfl (H.glob)
          case o25 =>
            intro L vs A W H hf hd K hK
            have e55 := H.is 10 55 rfl rfl rfl (deps_of' hd 10 (by kernel_rfl)) (by kernel_rfl)
            have e69 := H.is 24 69 rfl rfl rfl (deps_of' hd 24 (by kernel_rfl)) (by kernel_rfl)
            go_simp
            exact hK _ _ (trivial) rfl (H.glob)
          case he =>
            intro vs W hlen hv
            match vs, hlen, hv with
            | [x0_, x1_, x2_, x3_, x4_, x5_, x6_, x7_, x8_, x9_, x10_, x11_, x12_, x13_, x14_, x15_, x16_, x17_, x18_, x19_, x20_, x21_, x22_, x23_, x24_, x25_], _, hv =>
            obtain rfl : (.pointer (some ⟨rb, 0, none⟩)) = x0_ := by obtain ⟨z, h1, h2⟩ := hv 0 _ rfl; cases h1; exact h2.symm
            obtain rfl : (.pointer (some ⟨rb, 0, none⟩)) = x1_ := by obtain ⟨z, h1, h2⟩ := hv 1 _ rfl; cases h1; exact h2.symm
            obtain rfl : (.pointer (some ⟨rb, 3, none⟩)) = x2_ := by obtain ⟨z, h1, h2⟩ := hv 2 _ rfl; cases h1; exact h2.symm
            obtain rfl : (.int .i64 ((k : Int) + 1)) = x3_ := by obtain ⟨z, h1, h2⟩ := hv 3 _ rfl; cases h1; exact h2.symm
            obtain rfl : (.pointer (some ⟨rb, 0, none⟩)) = x4_ := by obtain ⟨z, h1, h2⟩ := hv 4 _ rfl; cases h1; exact h2.symm
            obtain rfl : (.pointer (some ⟨rb, 0, none⟩)) = x5_ := by obtain ⟨z, h1, h2⟩ := hv 5 _ rfl; cases h1; exact h2.symm
            obtain rfl : (.pointer (some ⟨rb, 2, none⟩)) = x6_ := by obtain ⟨z, h1, h2⟩ := hv 6 _ rfl; cases h1; exact h2.symm
            obtain rfl : (.slice (some ⟨g, 0, none⟩) ln cap) = x7_ := by obtain ⟨z, h1, h2⟩ := hv 7 _ rfl; cases h1; exact h2.symm
            obtain rfl : (.int .i64 (ln : Int)) = x8_ := by obtain ⟨z, h1, h2⟩ := hv 8 _ rfl; cases h1; exact h2.symm
            obtain rfl : (.bool false) = x9_ := by obtain ⟨z, h1, h2⟩ := hv 9 _ rfl; cases h1; exact h2.symm
            obtain rfl : (.bool false) = x10_ := by obtain ⟨z, h1, h2⟩ := hv 10 _ rfl; cases h1; exact h2.symm
            obtain rfl : (.pointer (some ⟨rb, 0, none⟩)) = x11_ := by obtain ⟨z, h1, h2⟩ := hv 11 _ rfl; cases h1; exact h2.symm
            obtain rfl : (.pointer (some ⟨rb, 0, none⟩)) = x12_ := by obtain ⟨z, h1, h2⟩ := hv 12 _ rfl; cases h1; exact h2.symm
            obtain rfl : (.pointer (some ⟨rb, 2, none⟩)) = x13_ := by obtain ⟨z, h1, h2⟩ := hv 13 _ rfl; cases h1; exact h2.symm
            obtain rfl : (.slice (some ⟨g, 0, none⟩) ln cap) = x14_ := by obtain ⟨z, h1, h2⟩ := hv 14 _ rfl; cases h1; exact h2.symm
            obtain rfl : (.pointer (some ⟨rb, 0, none⟩)) = x15_ := by obtain ⟨z, h1, h2⟩ := hv 15 _ rfl; cases h1; exact h2.symm
            obtain rfl : (.pointer (some ⟨rb, 0, none⟩)) = x16_ := by obtain ⟨z, h1, h2⟩ := hv 16 _ rfl; cases h1; exact h2.symm
            obtain rfl : (.pointer (some ⟨rb, 3, none⟩)) = x17_ := by obtain ⟨z, h1, h2⟩ := hv 17 _ rfl; cases h1; exact h2.symm
            obtain rfl : (.int .i64 ((k : Int) + 1)) = x18_ := by obtain ⟨z, h1, h2⟩ := hv 18 _ rfl; cases h1; exact h2.symm
            obtain rfl : (.pointer (some ⟨g, (k + 1) * 2, none⟩)) = x19_ := by obtain ⟨z, h1, h2⟩ := hv 19 _ rfl; cases h1; exact h2.symm
            obtain rfl : (.agg #[.int .u64 ad2, .int .u64 x2]) = x20_ := by obtain ⟨z, h1, h2⟩ := hv 20 _ rfl; cases h1; exact h2.symm
            obtain rfl : (.int .u64 (ad2 / 64)) = x21_ := by obtain ⟨z, h1, h2⟩ := hv 21 _ rfl; cases h1; exact h2.symm
            obtain rfl : (.agg #[.int .u64 ad, .int .u64 x]) = x22_ := by obtain ⟨z, h1, h2⟩ := hv 22 _ rfl; cases h1; exact h2.symm
            obtain rfl : (.int .u64 (ad / 64)) = x23_ := by obtain ⟨z, h1, h2⟩ := hv 23 _ rfl; cases h1; exact h2.symm
            obtain rfl : (.bool (ad2 / 64 != ad / 64)) = x24_ := by obtain ⟨z, h1, h2⟩ := hv 24 _ rfl; cases h1; exact h2.symm
            obtain rfl : (.bool (ad2 / 64 != ad / 64)) = x25_ := by obtain ⟨z, h1, h2⟩ := hv 25 _ rfl; cases h1; exact h2.symm
            intro L hall hG
            clear hv hlen
            have HG8 := Lib.hid hG
            clear hG hall
            simp only [fill, if_true]
          --END
            simp [Act.put]
            cases hne : (ad2 / 64 != ad / 64) with
            | true =>
              have HNe := Lib.hid (show ad2 / 64 ≠ ad / 64 from bne_iff_ne.1 hne)
              clear hne
              have hb8 := HB6.out.kept (Keeps.of_below' HG8.out) (fun h => h)
              have HB8 := Lib.hid hb8
              have hb9 := hb8.set 4 (rphV rb 85)
              rw [rn_set4] at hb9
              have hk9 : Keeps (fun i => i = rb) W (W.setCell ⟨rb, 4, none⟩ (rphV rb 85)) := (Keeps.refl (fun i => i = rb) W).setCell (p := ⟨rb, 4, none⟩) (.inl rfl) _
              have HB9 := Lib.hid hb9
              have HK9 := Lib.hid hk9
              have HK8 := Lib.hid ((HK17.out.trans ((Keeps.of_below' HG8.out).mono (fun _ _ h => h.elim))).trans (hk9.mono (fun _ _ h => .inl h)))
              clear hb8 hb9 hk9
              go_wp2_with ((with_reducible refine wpList_store_cellB (o := ⟨none, .store 36 (.tmp 75) (.tmp 73), _, _, _, _⟩) ?hg 36 (.tmp 75) (.tmp 73) ?ho rb 4 (rphV rb 85) ?CC 129 ?hx ?hy ?h1 ?hb ?hs ?hi ?_); (case hg => rfl); (case ho => rfl); (case hx => rfl); (case hy => rfl); (case h1 => rfl); (case hb => exact HB8.out); (case hs => rw [rnCells_size]; decide); (case hi => exact infoFn))
              go_ret2
              obtain ⟨S', hm', hsub, hkS⟩ := HSto.out
              have hlt := HRS.out.b.lt
              have hnS : ¬ S' rb := fun h => by
                rcases hsub rb h with h | h
                · exact HRS.out.s.1 h
                · have : W4.heap.size ≤ rb := h
                  have := HK4.out.size; omega
              refine ⟨rfl, S', ((hm'.kept HK6.out (fun i hi e => hnS (e ▸ hi))).below HG8.out).kept HK9.out (fun i hi e => hnS (e ▸ hi)), fun i hi => ?_, HK8.out, ?_⟩
              · rcases hsub i hi with h | h
                · exact .inl h
                · have : W4.heap.size ≤ i := h
                  have := HK4.out.size
                  exact .inr (by omega)
              · unfold rNext
                rw [HX.out.1, HLn.out, if_pos (.inr (by rw [HX2.out]; exact HNe.out))]
                exact HB9.out
            | false =>
              have HNe := Lib.hid (show ¬ ad2 / 64 ≠ ad / 64 from fun h => by rw [bne_iff_ne.2 h] at hne; cases hne)
              clear hne
              have HB8 := Lib.hid (HB6.out.kept (Keeps.of_below' HG8.out) (fun h => h))
              have HK8 := Lib.hid (HK17.out.trans ((Keeps.of_below' HG8.out).mono (fun _ _ h => h.elim)))
              go_wp2_with (fail)
              go_ret2
              obtain ⟨S', hm', hsub, hkS⟩ := HSto.out
              have hlt := HRS.out.b.lt
              have hnS : ¬ S' rb := fun h => by
                rcases hsub rb h with h | h
                · exact HRS.out.s.1 h
                · have : W4.heap.size ≤ rb := h
                  have := HK4.out.size; omega
              refine ⟨rfl, S', (hm'.kept HK6.out (fun i hi e => hnS (e ▸ hi))).below HG8.out, fun i hi => ?_, HK8.out, ?_⟩
              · rcases hsub i hi with h | h
                · exact .inl h
                · have : W4.heap.size ≤ i := h
                  have := HK4.out.size
                  exact .inr (by omega)
              · unfold rNext
                rw [HX.out.1, HLn.out, if_neg (fun h => by
                  rw [HX2.out] at h
                  rcases h with h | h
                  · exact HEnd.out h
                  · exact HNe.out h)]
                exact HB8.out
end Go.Proofs.Ytgmbnoimlffgcaa
