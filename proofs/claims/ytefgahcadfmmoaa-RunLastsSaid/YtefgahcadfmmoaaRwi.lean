/-
  leveeref10.Within: a contract.
-/
import Derived.Test.YtefgahcadfmmoaaRkn
import Derived.Test.YtefgahcadfmmoaaSl
namespace Go.Proofs.Ytefgahcadfmmoaa
open Go.RowKit
attribute [local go_sem] Oper.semAt_some
set_option linter.unusedVariables false

/-- stores that came in -/
def PutsAt (w : World) (a : Option Addr) (l : List (Int × Int)) : Prop := 0 < l.length → ∃ g o, a = some ⟨g, o, none⟩ ∧ g < w.heap.size ∧ EntsAt w g o l
theorem PutsAt.below {w w' : World} {a : Option Addr} {l : List (Int × Int)} (h : PutsAt w a l) (hB : Below w.heap.size w w') : PutsAt w' a l := fun hp => by
  obtain ⟨g, o, e, hg, he⟩ := h hp
  exact ⟨g, o, e, Nat.lt_of_lt_of_le hg hB.size, he.below hB hg⟩
def RowB (B : Nat) (l : List (Int × Int)) (v : Value) (W : World) : Prop := W.ownsRow B 25 2 v l.length (ecells l)
theorem RowB.below {B : Nat} {l : List (Int × Int)} {v : Value} {w w' : World} (h : RowB B l v w) (hb : Below w.heap.size w w') : RowB B l v w' := own_keeps h (Keeps.of_below' hb) (fun _ _ h => h)
def One (v0 : Value) (a1 x1 : Int) (v : Value) (W : World) : Prop := ∃ H, v = .slice (some ⟨H, 0, none⟩) 1 1 ∧ Blk W H #[.int .u64 a1, .int .u64 x1] 25 ∧ v0.ownBlock ≠ some H
theorem reads_one2 {W : World} {H : Nat} {a b : Value} {t : TypeId} (h : Blk W H #[a, b] t) : Reads W W.heap.size 2 (some ⟨H, 0, none⟩) 1 [a, b] := by
  refine ⟨by simp, fun _ => ⟨_, rfl, h.lt, fun j u hu => ?_⟩⟩
  have ha : (⟨H, 0, none⟩ : Addr).add j = ⟨H, j, none⟩ := by unfold Addr.add; split <;> simp_all
  rw [ha, h.cell]
  simpa using hu
theorem ecells_appR (a b : List (Int × Int)) : ecells (a ++ b) = ecells a ++ ecells b := by simp [ecells]
theorem row_one {B : Nat} {l0 : List (Int × Int)} {v : Value} {W : World} {a1 x1 : Int} (h : W.ownsRow B 25 2 v (l0.length + 1) (ecells l0 ++ [.int .u64 a1, .int .u64 x1])) : RowB B (l0 ++ [(a1, x1)]) v W := by
  unfold RowB
  rw [ecells_appR]
  simpa [ecells] using h
/-- stores, each brought into a memory of N words -/
def witP (N : Nat) (p : Int × Int) : Int × Int := (p.1 % (8 * (N : Int)) / 8 * 8, p.2)
def withinL (N : Nat) (l : List (Int × Int)) : List (Int × Int) := l.map (witP N)
theorem withinL_len (N : Nat) (l : List (Int × Int)) : (withinL N l).length = l.length := by simp [withinL]
theorem withinL_take (N : Nat) (l : List (Int × Int)) {k : Nat} (h : k < l.length) : withinL N (l.take (k + 1)) = withinL N (l.take k) ++ [witP N (eK l k, eP l k)] := by
  rw [take_succ_e h]
  simp [withinL]
theorem withinL_at (N : Nat) {l : List (Int × Int)} {i : Nat} (h : i < l.length) : eK (withinL N l) i = eK l i % (8 * (N : Int)) / 8 * 8 ∧ eP (withinL N l) i = eP l i := by
  unfold eK eP withinL
  simp [List.getD_eq_getElem?_getD, List.getElem?_map, List.getElem?_eq_getElem h, witP]
theorem withinL_ok (N : Nat) (hN : 0 < N) (l : List (Int × Int)) (hb : ∀ i, i < l.length → 0 ≤ eK l i ∧ 0 ≤ eP l i ∧ eP l i ≤ 18446744073709551615) : LOk AllL N (withinL N l) := by
  intro i hi
  rw [withinL_len] at hi
  obtain ⟨e1, e2⟩ := withinL_at N hi
  rw [e1, e2]
  have h1 := Int.emod_nonneg (eK l i) (show (8 * (N : Int)) ≠ 0 by omega)
  have h2 := Int.emod_lt_of_pos (eK l i) (show 0 < (8 * (N : Int)) by omega)
  have := hb i hi
  exact ⟨trivial, by omega, by omega, by omega, by omega, by omega⟩
set_option maxRecDepth 100000 in
set_option maxHeartbeats 40000000 in
theorem within_v (N : Nat) (hN : 0 < N ∧ N ≤ 1000) (a : Option Addr) (l : List (Int × Int)) (cap : Nat) (w1 : World) (hp : PutsAt w1 a l) (hl : l.length ≤ 1000) (hb : ∀ i, i < l.length → 0 ≤ eK l i ∧ eK l i ≤ 18446744073709551615) :
    Calls Try.prog 13 #[.slice a l.length cap, .int .i64 ((8 * N : Nat) : Int)] w1 fun e w' => ∃ v, e = .returned v ∧ RowB w1.heap.size (withinL N l) v w' ∧ Below w1.heap.size w1 w' := by
  obtain ⟨i0, hi, hz0, hz1, hz2⟩ := info_parts Try.infoPut
  obtain ⟨ln, hln⟩ : ∃ ln, l.length = ln := ⟨_, rfl⟩
  obtain ⟨sz, hsz⟩ : ∃ sz : Int, ((8 * N : Nat) : Int) = sz := ⟨_, rfl⟩
  have HLn := Lib.hid hln
  have HPu := Lib.hid hp
  have HBd := Lib.hid hb
  have HSz0 := Lib.hid (show sz = 8 * (N : Int) ∧ 0 < sz ∧ sz ≤ 8000 from by omega)
  have HLm := Lib.hid (show ln ≤ 1000 from by omega)
  rw [hln, hsz]
  clear hp hb hl hN hln hsz
  go_enter Try.func13, Try.ntmps13
  go_wp2_with (fail)
  go_loopw [5, 6] (fun ov iv wr => ∃ k : Nat, k ≤ ln ∧ iv = .int .i64 k ∧ RowB w1.heap.size (withinL N (l.take k)) ov wr ∧ Below w1.heap.size w1 wr) (fun _ iv _ => ln - (intOf iv).toNat)
  case atStart => exact ⟨0, by omega, rfl, World.ownsRow_nil _ _ _ _, Below.refl _ _⟩
  case round =>
    obtain ⟨k, hk, rfl, hown, hB⟩ := hrel
    have HO := Lib.hid hown
    have HB := Lib.hid hB
    clear hown hB
    by_cases hlt : k < ln
    · have hkl : k < l.length := by have := HLn.out; omega
      obtain ⟨g, o, rfl, hg, he⟩ := HPu.out (by omega)
      obtain ⟨ad, had⟩ : ∃ ad, eK l k = ad := ⟨_, rfl⟩
      obtain ⟨x, hx⟩ : ∃ x, eP l k = x := ⟨_, rfl⟩
      have hck := he k hkl
      rw [had, hx] at hck
      have hbk := HBd.out k hkl
      rw [had] at hbk
      have HTk0 := Lib.hid (withinL_take N l hkl)
      obtain ⟨l0, hl0⟩ : ∃ l0, withinL N (l.take k) = l0 := ⟨_, rfl⟩
      rw [hl0] at HTk0 HO
      have hll : l0.length ≤ 1000 := by rw [← hl0, withinL_len, List.length_take]; have := HLm.out; omega
      obtain ⟨r1, hr1⟩ : ∃ r1, ad % sz = r1 := ⟨_, rfl⟩
      obtain ⟨r2, hr2⟩ : ∃ r2, r1 / 8 = r2 := ⟨_, rfl⟩
      obtain ⟨r3, hr3⟩ : ∃ r3, r2 * 8 = r3 := ⟨_, rfl⟩
      have hrr : 0 ≤ r1 ∧ r1 < sz := by
        have h1 := Int.emod_nonneg ad (show sz ≠ 0 by have := HSz0.out; omega)
        have h2 := Int.emod_lt_of_pos ad (show 0 < sz by have := HSz0.out; omega)
        omega
      have HTk := Lib.hid (show withinL N (l.take (k + 1)) = l0 ++ [(r3, x)] from by
        rw [HTk0.out, had, hx]
        unfold witP
        simp only
        rw [← HSz0.out.1, hr1, hr2, hr3])
      have HSz := Lib.hid (show IntKind.u64.wrap sz = sz ∧ ad.tmod sz = r1 ∧ r1.tdiv 8 = r2 ∧ IntKind.u64.wrap (r2 * 8) = r3 ∧ ¬ sz = 0 from by
        have h0 := HSz0.out
        refine ⟨IntWalk.u64_in _ (by omega), by rw [Int.tmod_eq_emod_of_nonneg hbk.1, hr1], by rw [Int.tdiv_eq_ediv_of_nonneg hrr.1, hr2], by rw [hr3]; exact IntWalk.u64_in _ (by omega), by omega⟩)
      have HR2 := Lib.hid (show IntKind.u64.wrap r2 = r2 from IntWalk.u64_in _ (by have := HSz0.out; omega))
      have HC := Lib.hid hck
      have HGl := Lib.hid hg
      have HKl := Lib.hid (show k < ln ∧ k + 1 ≤ ln from ⟨hlt, hlt⟩)
      have HLl := Lib.hid hll
      have hkb : (k : Int) < (ln : Int) := by omega
      clear had hx hck hbk hl0 hll hr1 hr2 hr3 hrr he hkl hlt hg
      obtain ⟨v0, hv0⟩ : ∃ v0, u5 = v0 := ⟨_, rfl⟩
      rw [hv0] at HO ⊢
      clear hv0
      go_wp2_with (fail)
      --GEN r_wi5
      refine wp_region_vals [Is v0, Is (.slice (some ⟨g, o, none⟩) ln cap), Is (.int .i64 k), Is (.pointer (some ⟨g, o + k * 2, none⟩)), Is (.pointer (some ⟨g, o + k * 2, none⟩)), Is (.int .u64 ad), Is (.int .i64 sz), Is (.int .u64 sz), Is (.int .u64 r1), Is (.int .u64 r2), Is (.int .u64 r3), Is (.slice (some ⟨g, o, none⟩) ln cap), Is (.int .i64 k), Is (.pointer (some ⟨g, o + k * 2, none⟩)), Is (.pointer (some ⟨g, o + k * 2 + 1, none⟩)), Is (.int .u64 x), Is (.agg #[.int .u64 r3, .int .u64 x]), One v0 r3 x, RowB w1.heap.size (l0 ++ [(r3, x)]), RowB w1.heap.size (l0 ++ [(r3, x)])]
        (fun i => Keeps (fun g => i = 18 ∧ v0.ownBlock = some g)) (fun L W => (L 18 = true ∨ RowB w1.heap.size l0 v0 W) ∧ Below w1.heap.size w1 W) (by kernel_rfl) (by kernel_rfl) (by kernel_rfl) ?hst ?h0 ⟨?o0, ?o1, ?o2, ?o3, ?o4, ?o5, ?o6, ?o7, ?o8, ?o9, ?o10, ?o11, ?o12, ?o13, ?o14, ?o15, ?o16, ?o17, ?o18, ?o19, trivial⟩ ?he
      case hst =>
        exact ⟨(fun _ _ _ _ _ _ h _ => h), (fun _ _ _ _ _ _ h _ => h), (fun _ _ _ _ _ _ h _ => h), (fun _ _ _ _ _ _ h _ => h), (fun _ _ _ _ _ _ h _ => h), (fun _ _ _ _ _ _ h _ => h), (fun _ _ _ _ _ _ h _ => h), (fun _ _ _ _ _ _ h _ => h), (fun _ _ _ _ _ _ h _ => h), (fun _ _ _ _ _ _ h _ => h), (fun _ _ _ _ _ _ h _ => h), (fun _ _ _ _ _ _ h _ => h), (fun _ _ _ _ _ _ h _ => h), (fun _ _ _ _ _ _ h _ => h), (fun _ _ _ _ _ _ h _ => h), (fun _ _ _ _ _ _ h _ => h), (fun _ _ _ _ _ _ h _ => h), (fun _ _ _ _ _ _ h hR => by obtain ⟨H, e, hb, hn⟩ := h; exact ⟨H, e, hb.kept hR (fun hx => hn hx.2), hn⟩), (fun _ hij _ _ _ _ h hR => RowB.below h (Keeps.below (hR.mono (fun _ _ hx => hij hx.1)))), (fun i hij hw _ _ _ h hR => (if h20 : i = 18 then by (subst h20; have h3 : false = true := hw.symm.trans (by kernel_rfl); cases h3) else RowB.below h (Keeps.below (hR.mono (fun _ _ hx => h20 hx.1))))), trivial⟩
      case h0 =>
        exact ⟨.inr (HO.out.below (Below.refl _ _).drew), HB.out.drew⟩
      case o0 =>
        intro L vs A W H hf hd K hK
        have e5 : A.tmps[5]?.getD undef = v0 := H.later 5 0 hf (by kernel_rfl)
        go_simp
        exact hK _ _ (Keeps.refl _ _) rfl (H.glob)
      case o1 =>
        intro L vs A W H hf hd K hK
        have e0 : A.tmps[0]?.getD undef = .slice (some ⟨g, o, none⟩) ln cap := H.old 0 (by kernel_rfl)
        go_simp
        exact hK _ _ (Keeps.refl _ _) rfl (H.glob)
      case o2 =>
        intro L vs A W H hf hd K hK
        have e6 : A.tmps[6]?.getD undef = .int .i64 k := H.old 6 (by kernel_rfl)
        go_simp
        exact hK _ _ (Keeps.refl _ _) rfl (H.glob)
      case o3 =>
        intro L vs A W H hf hd K hK
        have e14 := H.is 1 14 rfl rfl rfl (deps_of' hd 1 (by kernel_rfl)) (by kernel_rfl)
        have e15 := H.is 2 15 rfl rfl rfl (deps_of' hd 2 (by kernel_rfl)) (by kernel_rfl)
        have hkl := HKl.out.1
        go_simp
        exact hK _ _ (Keeps.refl _ _) rfl (H.glob)
      case o4 =>
        intro L vs A W H hf hd K hK
        have e16 := H.is 3 16 rfl rfl rfl (deps_of' hd 3 (by kernel_rfl)) (by kernel_rfl)
        go_simp
        exact hK _ _ (Keeps.refl _ _) rfl (H.glob)
      case o5 =>
        intro L vs A W H hf hd K hK
        have e17 := H.is 4 17 rfl rfl rfl (deps_of' hd 4 (by kernel_rfl)) (by kernel_rfl)
        have d := (H.glob.2.cell (p := ⟨g, o + k * 2, none⟩) HGl.out).trans HC.out.1
        go_simp
        exact hK _ _ (Keeps.refl _ _) rfl (H.glob)
      case o6 =>
        intro L vs A W H hf hd K hK
        have e1 : A.tmps[1]?.getD undef = .int .i64 sz := H.old 1 (by kernel_rfl)
        go_simp
        exact hK _ _ (Keeps.refl _ _) rfl (H.glob)
      case o7 =>
        intro L vs A W H hf hd K hK
        have e19 := H.is 6 19 rfl rfl rfl (deps_of' hd 6 (by kernel_rfl)) (by kernel_rfl)
        have hw := HSz.out.1
        go_simp
        exact hK _ _ (Keeps.refl _ _) rfl (H.glob)
      case o8 =>
        intro L vs A W H hf hd K hK
        have e18 := H.is 5 18 rfl rfl rfl (deps_of' hd 5 (by kernel_rfl)) (by kernel_rfl)
        have e20 := H.is 7 20 rfl rfl rfl (deps_of' hd 7 (by kernel_rfl)) (by kernel_rfl)
        have hw := HSz.out.2.1
        have hnz := HSz.out.2.2.2.2
        go_simp
        exact hK _ _ (Keeps.refl _ _) rfl (H.glob)
      case o9 =>
        intro L vs A W H hf hd K hK
        have e21 := H.is 8 21 rfl rfl rfl (deps_of' hd 8 (by kernel_rfl)) (by kernel_rfl)
        have hw := HSz.out.2.2.1
        have hw2 := HR2.out
        go_simp
        exact hK _ _ (Keeps.refl _ _) rfl (H.glob)
      case o10 =>
        intro L vs A W H hf hd K hK
        have e22 := H.is 9 22 rfl rfl rfl (deps_of' hd 9 (by kernel_rfl)) (by kernel_rfl)
        have hw := HSz.out.2.2.2.1
        go_simp
        exact hK _ _ (Keeps.refl _ _) rfl (H.glob)
      case o11 =>
        intro L vs A W H hf hd K hK
        have e0 : A.tmps[0]?.getD undef = .slice (some ⟨g, o, none⟩) ln cap := H.old 0 (by kernel_rfl)
        go_simp
        exact hK _ _ (Keeps.refl _ _) rfl (H.glob)
      case o12 =>
        intro L vs A W H hf hd K hK
        have e6 : A.tmps[6]?.getD undef = .int .i64 k := H.old 6 (by kernel_rfl)
        go_simp
        exact hK _ _ (Keeps.refl _ _) rfl (H.glob)
      case o13 =>
        intro L vs A W H hf hd K hK
        have e24 := H.is 11 24 rfl rfl rfl (deps_of' hd 11 (by kernel_rfl)) (by kernel_rfl)
        have e25 := H.is 12 25 rfl rfl rfl (deps_of' hd 12 (by kernel_rfl)) (by kernel_rfl)
        have hkl := HKl.out.1
        go_simp
        exact hK _ _ (Keeps.refl _ _) rfl (H.glob)
      case o14 =>
        intro L vs A W H hf hd K hK
        have e26 := H.is 13 26 rfl rfl rfl (deps_of' hd 13 (by kernel_rfl)) (by kernel_rfl)
        go_simp
        exact hK _ _ (Keeps.refl _ _) rfl (H.glob)
      case o15 =>
        intro L vs A W H hf hd K hK
        have e27 := H.is 14 27 rfl rfl rfl (deps_of' hd 14 (by kernel_rfl)) (by kernel_rfl)
        have d := (H.glob.2.cell (p := ⟨g, o + k * 2 + 1, none⟩) HGl.out).trans HC.out.2
        go_simp
        exact hK _ _ (Keeps.refl _ _) rfl (H.glob)
      case o16 =>
        intro L vs A W H hf hd K hK
        have e23 := H.is 10 23 rfl rfl rfl (deps_of' hd 10 (by kernel_rfl)) (by kernel_rfl)
        have e28 := H.is 15 28 rfl rfl rfl (deps_of' hd 15 (by kernel_rfl)) (by kernel_rfl)
        go_simp
        exact hK _ _ (Keeps.refl _ _) rfl (H.glob)
      case o17 =>
        intro L vs A W H hf hd K hK
        have e29 := H.is 16 29 rfl rfl rfl (deps_of' hd 16 (by kernel_rfl)) (by kernel_rfl)
        have n18 := H.notYet 18 17 rfl hf (by kernel_rfl)
        have hrow : RowB w1.heap.size l0 v0 W := by rcases H.glob.1 with h | h; (rw [n18] at h; cases h); exact h
        have hnb : v0.ownBlock ≠ some W.heap.size := fun e => by have := World.ownsRow.lt hrow _ e; omega
        have hgb := H.glob.2
        go_simp
        exact hK _ _ ((Keeps.refl _ _).alloc _) ⟨_, rfl, Blk.new _ _ _, hnb⟩ ⟨.inr (hrow.below ((Below.refl _ _).alloc (Nat.le_refl _) _)), hgb.alloc hgb.size _⟩
      case o18 =>
        intro L vs A W H hf hd K hK
        have e13 := H.is 0 13 rfl rfl rfl (deps_of' hd 0 (by kernel_rfl)) (by kernel_rfl)
        obtain ⟨v30, e30, q30⟩ := H.val 17 30 rfl rfl rfl (deps_of' hd 17 (by kernel_rfl)) (by kernel_rfl)
        have hf18 : L 18 = false := hf
        have hrow : RowB w1.heap.size l0 v0 W := by rcases H.glob.1 with h | h; (rw [hf18] at h; cases h); exact h
        have hgb := H.glob.2
        obtain ⟨H2, rfl, hb2, hn2⟩ := q30
        refine step_append_any (w := W) rfl (.tmp 13) (.tmp 30) 34 rfl w1.heap.size 25 i0 _ 2 16 Try.underlying34 hi hz0 hz1 hz2 rfl (by omega) v0 l0.length (ecells l0) (ev_tmp e13) hrow W.heap.size (some ⟨H2, 0, none⟩) 1 1 [.int .u64 r3, .int .u64 x] (ev_tmp e30) (reads_one2 hb2) (by simp [Value.oneCell']) (by unfold maxLen; have := HLl.out; omega) (by have := HLl.out; omega) hgb.size ?_
        intro v' w' hown' hg' _
        exact hK _ _ ((Keeps.refl _ _).grown hg' (fun _ e => .inl ⟨rfl, e⟩)) (row_one hown') ⟨.inl rfl, hgb.grown hg' hgb.size (fun r e => own_base hrow _ e)⟩
      case o19 =>
        intro L vs A W H hf hd K hK
        obtain ⟨v31, e31, q31⟩ := H.val 18 31 rfl rfl rfl (deps_of' hd 18 (by kernel_rfl)) (by kernel_rfl)
        rw [if_pos (show Region.wanted _ _ = true from rfl)]
        go_simp
        exact hK _ _ (Keeps.refl _ _) q31 H.glob
      case he =>
        intro vs W hlen hv
        match vs, hlen, hv with
        | [x0_, x1_, x2_, x3_, x4_, x5_, x6_, x7_, x8_, x9_, x10_, x11_, x12_, x13_, x14_, x15_, x16_, x17_, x18_, x19_], _, hv =>
        obtain rfl : v0 = x0_ := by obtain ⟨z, h1, h2⟩ := hv 0 _ rfl; cases h1; exact h2.symm
        obtain rfl : (.slice (some ⟨g, o, none⟩) ln cap) = x1_ := by obtain ⟨z, h1, h2⟩ := hv 1 _ rfl; cases h1; exact h2.symm
        obtain rfl : (.int .i64 k) = x2_ := by obtain ⟨z, h1, h2⟩ := hv 2 _ rfl; cases h1; exact h2.symm
        obtain rfl : (.pointer (some ⟨g, o + k * 2, none⟩)) = x3_ := by obtain ⟨z, h1, h2⟩ := hv 3 _ rfl; cases h1; exact h2.symm
        obtain rfl : (.pointer (some ⟨g, o + k * 2, none⟩)) = x4_ := by obtain ⟨z, h1, h2⟩ := hv 4 _ rfl; cases h1; exact h2.symm
        obtain rfl : (.int .u64 ad) = x5_ := by obtain ⟨z, h1, h2⟩ := hv 5 _ rfl; cases h1; exact h2.symm
        obtain rfl : (.int .i64 sz) = x6_ := by obtain ⟨z, h1, h2⟩ := hv 6 _ rfl; cases h1; exact h2.symm
        obtain rfl : (.int .u64 sz) = x7_ := by obtain ⟨z, h1, h2⟩ := hv 7 _ rfl; cases h1; exact h2.symm
        obtain rfl : (.int .u64 r1) = x8_ := by obtain ⟨z, h1, h2⟩ := hv 8 _ rfl; cases h1; exact h2.symm
        obtain rfl : (.int .u64 r2) = x9_ := by obtain ⟨z, h1, h2⟩ := hv 9 _ rfl; cases h1; exact h2.symm
        obtain rfl : (.int .u64 r3) = x10_ := by obtain ⟨z, h1, h2⟩ := hv 10 _ rfl; cases h1; exact h2.symm
        obtain rfl : (.slice (some ⟨g, o, none⟩) ln cap) = x11_ := by obtain ⟨z, h1, h2⟩ := hv 11 _ rfl; cases h1; exact h2.symm
        obtain rfl : (.int .i64 k) = x12_ := by obtain ⟨z, h1, h2⟩ := hv 12 _ rfl; cases h1; exact h2.symm
        obtain rfl : (.pointer (some ⟨g, o + k * 2, none⟩)) = x13_ := by obtain ⟨z, h1, h2⟩ := hv 13 _ rfl; cases h1; exact h2.symm
        obtain rfl : (.pointer (some ⟨g, o + k * 2 + 1, none⟩)) = x14_ := by obtain ⟨z, h1, h2⟩ := hv 14 _ rfl; cases h1; exact h2.symm
        obtain rfl : (.int .u64 x) = x15_ := by obtain ⟨z, h1, h2⟩ := hv 15 _ rfl; cases h1; exact h2.symm
        obtain rfl : (.agg #[.int .u64 r3, .int .u64 x]) = x16_ := by obtain ⟨z, h1, h2⟩ := hv 16 _ rfl; cases h1; exact h2.symm
        have hx17 : (One v0 r3 x) x17_ W := by obtain ⟨z, h1, h2⟩ := hv 17 _ rfl; cases h1; exact h2
        have hx18 : (RowB w1.heap.size (l0 ++ [(r3, x)])) x18_ W := by obtain ⟨z, h1, h2⟩ := hv 18 _ rfl; cases h1; exact h2
        have hx19 : (RowB w1.heap.size (l0 ++ [(r3, x)])) x19_ W := by obtain ⟨z, h1, h2⟩ := hv 19 _ rfl; cases h1; exact h2
        intro L hall hG
        clear hv hlen
        have HO2 := Lib.hid hx19
        have HB2 := Lib.hid hG.2
        clear hG hall hx17 hx18 hx19
        simp only [fill, if_true]
        simp [Act.put]
        have hlm := HLm.out
        go_wp2_with (fail)
        go_roundw
        case rel => exact ⟨k + 1, HKl.out.2, by go_num, by rw [HTk.out]; exact HO2.out, HB2.out⟩
        case measure => have := HKl.out; simp [intOf]; omega
      --END
    · have HE := Lib.hid (show l.take k = l from List.take_of_length_le (by have := HLn.out; omega))
      obtain rfl : k = ln := by omega
      clear hlt
      go_wp2_with (fail)
      go_ret
      exact ⟨_, rfl, by have := HO.out; rwa [HE.out] at this, HB.out⟩
end Go.Proofs.Ytefgahcadfmmoaa
