/-
  pmem.Mem.Copy on a memory as a whole.
-/
import Derived.Test.YtefgahcadfmmoaaRcm
import Derived.RangeFuncWrites
namespace Go.Proofs.Ytefgahcadfmmoaa
open Go.RowKit Go.Maps Go.WideElems Go.WideShapes
attribute [local go_sem] Oper.semAt_some
set_option linter.unusedVariables false

theorem wpList_load_ln {ops : Array Oper} {rest : List Oper} {o : Oper} {a : Act} {w : World} {Q : Exit → Act → World → Prop} (hgd : o.guard = none) (x : Operand) (ho : o.op = .load 84 x)
    (g : Nat) (s : Value) (f : Nat → Int) (hx : a.eval x = .pointer (some ⟨g, 0, none⟩)) (hb : Blk w g (lnCells s f) 84)
    (h : wpList Try.prog ops Q rest (a.put o.dst (.agg (lnCells s f))) w) : wpList Try.prog ops Q (o :: rest) a w :=
  wpList_plain hgd fun _ hK => wp_load_ln x ho g s f hx hb (hK _ _ h)
/-- slices.Clone of stores, wherever they begin -/
theorem cloneC_v (a : Option Addr) (c : Nat) (l : List (Int × Int)) (w : World) (hr : Reads w w.heap.size 2 a l.length (ecells l)) (hn : l.length ≤ 1000000) (hz : a = none → l = []) :
    Calls Try.prog 29 #[.slice a l.length c] w fun e w' => ∃ v', e = .returned v' ∧ w'.ownsRow w.heap.size 25 2 v' l.length (ecells l) ∧ Below w.heap.size w w' := by
  obtain ⟨i0, hi, hz0, hz1, hz2⟩ := info_parts Try.infoPut
  have hq : ∀ (w : World) (a : Option Addr) (n c n' c' : Nat), (binOp .eql 34 (.slice a n c) (.slice none n' c')).run Try.prog w = .ok (.bool a.isNone) w := fun w a n c n' c' => Lib.run_eql_slice_nil w _ _ a n c n' c' Try.underlying34
  cases a with
  | none =>
    have := hz rfl
    subst this
    clear hr hz
    go_enter Try.func29, Try.ntmps29
    go_wp2_with (fail)
    go_ret
    exact ⟨_, rfl, World.ownsRow_nil _ _ _ _, Below.refl _ _⟩
  | some ad =>
    have HR := Lib.hid hr
    clear hr hz
    go_enter Try.func29, Try.ntmps29
    go_wp2_with (at_builtin; refine wpList_append_any _ rfl _ _ 34 rfl w.heap.size 25 i0 (.agg #[.int .u64 0, .int .u64 0]) 2 16 Try.underlying34 hi hz0 hz1 hz2 rfl (by decide) _ 0 [] rfl (World.ownsRow_made w #[] 0 (Nat.le_refl _) (Nat.zero_le _) (by simp)) w.heap.size (some ad) l.length c (ecells l) rfl (HR.out.alloc (Nat.le_refl _) _) (ecells_one l) (by unfold maxLen; omega) (by omega) (by simp) ?_)
    intro v' w1 hown hgrow hnil
    obtain ⟨a3, n3, c3, rfl⟩ := own_slice hown
    have HO := Lib.hid hown
    have HB := Lib.hid ((((Below.refl _ w).alloc (Nat.le_refl _) _).grown hgrow (by simp) (by intro k hk; simp [Value.ownBlock] at hk; omega)) : Below w.heap.size w w1)
    clear hown hgrow hnil
    go_wp2_with (fail)
    go_ret
    exact ⟨_, rfl, by simpa using HO.out, HB.out⟩
theorem RowC.reads {w : World} {N0 : Nat} {s : Value} {l : List (Int × Int)} (h : RowC w N0 s l) : ∃ a c, s = .slice a l.length c ∧ Reads w w.heap.size 2 a l.length (ecells l) ∧ (a = none → l = []) := by
  rcases h with h | ⟨g, o, cs, rfl, hm, hg, hh, hc⟩
  · obtain ⟨a, n, c, rfl⟩ := own_slice h
    obtain rfl : n = l.length := own_len h
    refine ⟨a, c, rfl, Reads.of_own h, fun e => ?_⟩
    subst e
    cases l with
    | nil => rfl
    | cons p r => obtain ⟨ad, e, _⟩ := (Reads.of_own h).2 (by simp); cases e
  · refine ⟨_, _, rfl, ⟨ecells_len2 l, fun _ => ⟨⟨g, o, none⟩, rfl, (Array.getElem?_eq_some_iff.1 hh).1, fun j u hu => ?_⟩⟩, fun e => by cases e⟩
    have e1 : (⟨g, o, none⟩ : Addr).add j = ⟨g, o + j, none⟩ := by unfold Addr.add; split; (rename_i h; subst h; rfl); rfl
    rw [e1]
    show w.cell? ⟨g, o + j, none⟩ = some u
    have := hc j u hu
    simp [World.cell?, hh, this]
/-- where the loop of own stands -/
structure CpI (w6 : World) (n : Nat) (D : DataW Value) (mk : Int → Nat → Int) (F : Int → List (Int × Int)) (mo : Nat) (left : Lit → Bool) (cnt : Nat) (wr : World) (n' : Nat) (D' : DataW Value) (sl' : Int → Value) (mk' : Int → Nat → Int) : Prop where
  o : OwnL wr mo n' D'
  e : ∀ a, hasL D' a (.agg (lnCells (sl' a) (mk' a)))
  r : ∀ a, RowC wr w6.heap.size (sl' a) (if left (.int .u64 a) = true then [] else F a)
  d : ∀ a b i, a ≠ b → (sl' a).ownBlock = some i → (sl' b).ownBlock ≠ some i
  m : ∀ a i, mk' a i = 0 ∨ mk' a i = mk a i
  f : ∀ a, left (.int .u64 a) = false → F a ≠ [] → mk' a = mk a
  n : n' + cnt ≤ n
  h : ∀ a, Maps.has D' (.int .u64 a) = true → left (.int .u64 a) = false ∧ Maps.has D (.int .u64 a) = true
  b : Below w6.heap.size w6 wr
  mo : w6.heap.size ≤ mo
theorem ownL_notRow {w : World} {N0 mo n : Nat} {D : DataW Value} (h : OwnL w mo n D) {s : Value} {l : List (Int × Int)} (hr : RowC w N0 s l) : s.ownBlock ≠ some mo := by
  intro e
  obtain ⟨C, hC⟩ := hr.isCells e
  obtain ⟨es, clock, hb, _⟩ := h
  rw [hb] at hC; cases hC
/-- what own leaves -/
def CpP (w : World) (n : Nat) (D : DataW Value) (mk : Int → Nat → Int) (F : Int → List (Int × Int)) (e : Ending) (w' : World) : Prop :=
  ∃ mo n' D' sl' mk', e = .returned (.map (some mo)) ∧ CpI w n D mk F mo (fun _ => false) 0 w' n' D' sl' mk'
set_option maxRecDepth 100000 in
set_option maxHeartbeats 40000000 in
theorem own_v (w : World) (N0 mb : Nat) (vs is : List Int) (vv vi : Value) (ml n : Nat) (D : DataW Value) (sl : Int → Value) (mk : Int → Nat → Int) (F : Int → List (Int × Int)) (lo st fl fe : Int)
    (h : MemC w N0 mb vs is vv vi ml n D sl mk F lo st fl fe) (hn : n ≤ 1000000) (hF : ∀ a, (F a).length ≤ 1000000) :
    Calls Try.prog 39 #[.map (some ml)] w (CpP w n D mk F) := by
  have hmm := @run_makeMap Try.prog
  have HH := Lib.hid h
  have HFl := Lib.hid hF
  obtain ⟨mo, hmo⟩ : ∃ mo, w.heap.size = mo := ⟨_, rfl⟩
  obtain ⟨w1, hw1⟩ : ∃ w1, w.alloc (.map #[] 0) = w1 := ⟨_, rfl⟩
  have hB1 : Below w.heap.size w w1 := by rw [← hw1]; exact (Below.refl _ w).alloc (Nat.le_refl _) _
  have hb1 : w1.heap[mo]? = some (.map #[] 0) := by rw [← hw1, ← hmo]; unfold World.alloc; simp
  have ho1 : OwnL w1 mo 0 (.map []) := ⟨#[], 0, hb1, ⟨by simp, Go.MapKept.stamped_empty 0, by simp⟩, Nat.le_refl _, rfl⟩
  have hH1 := HH.out.kept (Keeps.of_below' hB1) (fun _ _ h => h) (fun _ _ _ h => h)
  have hown := hH1.o
  obtain ⟨ri, hri⟩ : ∃ ri, w1.heap.size = ri := ⟨_, rfl⟩
  have hsz1 : w1.heap.size = w.heap.size + 1 := by rw [← hw1]; simp
  have HO1 := Lib.hid ho1
  have HB1 := Lib.hid hB1
  have HW1 := Lib.hid hw1
  have HMo := Lib.hid (And.intro hmo hsz1)
  clear h hF hb1 ho1 hw1 hB1 hH1 hsz1 hmo
  go_enter Try.func39, Try.ntmps39
  go_wp2_with (at_range; (try rw [HW1.out]); refine wpList_range_own _ rfl _ 72 rfl 23 84 kA Try.underlying72 _ ml n _ rfl hown ?_; intro w2 hrg hg2 hs2)
  rw [hri] at hrg
  have hk2 := (Keeps.refl NoB w1).grown hg2 (fun _ e => by cases e)
  have hB2 : Below w.heap.size w w2 := HB1.out.trans (Keeps.below hk2 |>.mono (by have := HMo.out.2; omega))
  have HI0 := Lib.hid (show CpI w n D mk F mo (Maps.has D) (Maps.size D) w2 0 (.map []) (fun _ => .slice none 0 0) (fun _ _ => 0) from by
    refine ⟨ownL_keeps HO1.out hk2 (fun h => h), fun a => rfl, fun a => ?_, fun a b i _ h => by (cases h), fun a i => .inl rfl, fun a ha hne => ?_, by have := own_size HH.out.o; omega, fun a ha => by simp [Maps.has] at ha, hB2, by have := HMo.out.1; omega⟩
    · cases hh : Maps.has D (.int .u64 a)
      · rw [if_neg (by simp), (hasL_none (HH.out.e a) (HH.out.r a) hh).1]
        exact RowC.nil _ _
      · rw [if_pos rfl]
        exact RowC.nil _ _
    · exact absurd (hasL_none (HH.out.e a) (HH.out.r a) ha).1 hne)
  have HNe := Lib.hid (show mo ≠ ri ∧ ml ≠ ri ∧ ml < w.heap.size ∧ w.heap.size ≤ ri from ⟨by have := HMo.out; omega, by have := HH.out.o.lt; have := HMo.out; omega, HH.out.o.lt, by have := HMo.out; omega⟩)
  rw [hri, HMo.out.1]
  clear hk2 hg2 hs2 hown hri hB2
  go_frame
  go_loopw [4, 5] (fun _ _ wr => ∃ (left : Lit → Bool) (cnt : Nat), wr.ranges Try.prog 23 RV ml ri n D left cnt ∧ Hid (∃ n' D' sl' mk', CpI w n D mk F mo left cnt wr n' D' sl' mk')) (fun _ _ wr => wr.rangeLeft ml ri)
  case atStart => exact ⟨_, _, hrg, Lib.hid ⟨_, _, _, _, HI0.out⟩⟩
  case round =>
    obtain ⟨left, cnt, hrg, hI⟩ := hrel
    clear HI0
    go_wp2_with (at_next; refine wpList_next_ln _ rfl _ rfl ml ri n _ _ _ rfl hrg ?_ ?_)
    · intro hc0 hl0
      have HL0 := Lib.hid (And.intro hc0 hl0)
      clear hl0 hc0
      go_wp2_with (fail)
      go_ret
      obtain ⟨n', D', sl', mk', hI⟩ := hI.out
      refine ⟨mo, n', D', sl', mk', rfl, ⟨hI.o, hI.e, fun a => ?_, hI.d, hI.m, fun a _ => hI.f a (HL0.out.2 _), by have := hI.n; omega, fun a ha => ⟨rfl, (hI.h a ha).2⟩, hI.b, hI.mo⟩⟩
      have := hI.r a
      rw [if_neg (by rw [HL0.out.2]; simp)] at this
      rw [if_neg (by simp)]
      exact this
    · intro x v w2 cnt2 hwx hlk hat hrg2 hlt hg2 hs2 hen
      obtain ⟨n', D', sl', mk', hI⟩ := hI.out
      have hv : v = .agg (lnCells (sl x) (mk x)) := by
        have h1 := HH.out.e x
        unfold hasL at h1
        rw [hat] at h1
        exact DataW.held.inj h1
      subst hv
      have HHx := Lib.hid (Maps.has_true_of_atKey hat)
      obtain ⟨s0, hs0⟩ : ∃ s0, sl x = s0 := ⟨_, rfl⟩
      obtain ⟨f0, hf0⟩ : ∃ f0, mk x = f0 := ⟨_, rfl⟩
      obtain ⟨l0, hl0⟩ : ∃ l0, F x = l0 := ⟨_, rfl⟩
      have hw0 : 0 ≤ x ∧ x ≤ 18446744073709551615 := by
        simp [Lit.wf, IntKind.min, IntKind.max, IntKind.signed, IntKind.bits] at hwx; omega
      have hk2 := (Keeps.refl (fun i => i = ri) wr).grown hg2 (fun k e => by cases e; exact .inl rfl)
      have hrx := HH.out.r x
      rw [hs0, hl0] at hrx
      have hrx2 : RowC w2 N0 s0 l0 := (hrx.keeps (Keeps.of_below' hI.b) (fun _ _ h => h)).keeps hk2 (fun i hi e => by have := hrx.lt hi; have := HNe.out; omega)
      have hCp2 : CpI w n D mk F mo left cnt w2 n' D' sl' mk' := ⟨ownL_keeps hI.o hk2 HNe.out.1, hI.e, fun a => (hI.r a).keeps hk2 (fun i hi e => ranges_notRow hrg (hI.r a) (by rw [hi, e])), hI.d, hI.m, hI.f, hI.n, hI.h, hI.b.keeps (Nat.le_refl _) hk2 (fun i e => by have := HNe.out; omega), hI.mo⟩
      have HI2 := Lib.hid hCp2
      have Hs1 := Lib.hid (show s0.oneCell' = true from hrx.one)
      rw [hs0, hf0] at hen
      have HEn := Lib.hid hen
      have HRx := Lib.hid hrx2
      have HXx := Lib.hid (show sl x = s0 ∧ mk x = f0 ∧ F x = l0 ∧ 0 ≤ x ∧ x ≤ 18446744073709551615 from ⟨hs0, hf0, hl0, hw0⟩)
      clear hI hk2 hrx hrx2 hCp2 hwx hat hs2 hg2 hs0 hf0 hl0 hw0
      go_upto_region 5 with (first | (refine wpList_alloc_ln rfl rfl ?_) | (refine wpList_store_ln rfl _ _ rfl w2.heap.size s0 _ f0 _ Hs1.out rfl rfl (Blk.new w2 _ _) ?_))
      have KX : Keeps NoB w2 ((w2.alloc (.cells (lnCells (.slice none 0 0) (fun _ => 0)) 84)).setRow w2.heap.size (lnCells s0 f0)) := keeps_setRow ((Keeps.refl NoB w2).alloc _) (.inr (Nat.le_refl _)) _
      have BX : Blk ((w2.alloc (.cells (lnCells (.slice none 0 0) (fun _ => 0)) 84)).setRow w2.heap.size (lnCells s0 f0)) w2.heap.size (lnCells s0 f0) 84 := (Blk.new w2 _ _).row _
      obtain ⟨lb, hlb⟩ : ∃ lb, w2.heap.size = lb := ⟨_, rfl⟩
      rw [hlb] at KX BX ⊢
      generalize (w2.alloc (.cells (lnCells (.slice none 0 0) (fun _ => 0)) 84)).setRow lb (lnCells s0 f0) = w3 at *
      have hrg3 := rangesL_keeps hrg2 KX (fun h => h) (fun h => h)
      obtain ⟨a9, c9, e9, hrd, hnl⟩ := (HRx.out.keeps KX (fun _ _ h => h)).reads
      subst e9
      have d0 : w3.cell? ⟨lb, 0, none⟩ = some (.slice a9 l0.length c9) := by rw [BX.cell, lnCells_0]
      have HCl := Lib.hid (cloneC_v a9 c9 l0 w3 hrd (by have := HFl.out x; rw [HXx.out.2.2.1] at this; exact this) hnl)
      have hKB : Below w.heap.size w w3 := HI2.out.b.trans ((Keeps.below KX).mono HI2.out.b.size)
      have HI3 := Lib.hid (show CpI w n D mk F mo left cnt w3 n' D' sl' mk' from ⟨ownL_keeps HI2.out.o KX (fun h => h), HI2.out.e, fun a => (HI2.out.r a).keeps KX (fun _ _ h => h), HI2.out.d, HI2.out.m, HI2.out.f, HI2.out.n, HI2.out.h, hKB, HI2.out.mo⟩)
      have HRg3 := Lib.hid hrg3
      have HBX := Lib.hid BX
      have HLk := Lib.hid (And.intro hlk hlt)
      have HLb := Lib.hid (show w.heap.size ≤ lb ∧ mo < lb ∧ ri < lb ∧ ml < lb from by
        have h1 := HI2.out.b.size; have h2 := HI2.out.o.lt; have h3 := hrg2.lt; have h4 := hrg2.owns.lt; omega)
      have HLt := Lib.hid BX.lt
      clear KX BX hlb hrg3 hrd hnl hKB hlk hlt
      go_wp2_with (fail)
      refine HCl.out.mono ?_
      rintro e w4 ⟨v', rfl, ho4, hB4⟩
      obtain ⟨p9, n9, c9', rfl⟩ := own_slice ho4
      obtain ⟨v', hv'⟩ : ∃ v', Value.slice p9 n9 c9' = v' := ⟨_, rfl⟩
      have HV' := Lib.hid (show v'.oneCell' = true ∧ ∀ i, v'.ownBlock = some i → w3.heap.size ≤ i ∧ i < w4.heap.size from ⟨by rw [← hv']; rfl, fun i hi => by rw [hv'] at ho4; exact ⟨own_base ho4 i hi, own_ltS ho4 hi⟩⟩)
      rw [hv'] at ho4
      have hb4 := HBX.out.kept (Keeps.of_below' hB4) (fun h => h)
      have hb5 := hb4.set 0 v'
      rw [lnCells_set0] at hb5
      have hk5 : Keeps (fun i => i = lb) w4 (w4.setCell ⟨lb, 0, none⟩ v') := (Keeps.refl (fun i => i = lb) w4).setCell (p := ⟨lb, 0, none⟩) (.inl rfl) _
      have hk35 : Keeps (fun i => i = lb) w3 (w4.setCell ⟨lb, 0, none⟩ v') := (keeps_belowS hB4).trans hk5
      have hlt4 := HLt.out
      have ho5 := own_keeps ho4 hk5 (fun i hi e => by have := HV'.out.2 i hi; omega)
      have dA : w4.cell? ⟨lb, 0, none⟩ = some (.slice a9 l0.length c9) := by rw [hb4.cell, lnCells_0]
      have fA : w4.frozen? ⟨lb, 0, none⟩ = false := hb4.frozen 0
      obtain ⟨w5, hw5⟩ : ∃ w5, w4.setCell ⟨lb, 0, none⟩ v' = w5 := ⟨_, rfl⟩
      rw [hw5] at hb5 hk5 hk35 ho5
      have HW5 := Lib.hid hw5
      have hB5 : Below w.heap.size w w5 := HI3.out.b.keeps (Nat.le_refl _) hk35 (fun i e => by have := HLb.out; omega)
      have HI5 := Lib.hid (show CpI w n D mk F mo left cnt w5 n' D' sl' mk' from ⟨ownL_keeps HI3.out.o hk35 (by have := HLb.out; omega), HI3.out.e, fun a => (HI3.out.r a).keeps hk35 (fun i hi e => by
        obtain ⟨C, hC⟩ := (HI3.out.r a).isCells hi
        rw [e, HBX.out] at hC
        have := (Obj.cells.inj (Option.some.inj hC)).2.1
        exact absurd this (by decide)), HI3.out.d, HI3.out.m, HI3.out.f, HI3.out.n, HI3.out.h, hB5, HI3.out.mo⟩)
      have HU5 := Lib.hid (World.ownsMap.update HI5.out.o kA Try.underlying72 (by have := HI5.out.n; unfold maxLen; omega) (keyOf_int_mk Try.underlying23 (addr_wf HXx.out.2.2.2.1 HXx.out.2.2.2.2)) (val := .agg (lnCells v' f0)) (d := .held (.agg (lnCells v' f0))) (ps := []) rfl)
      have HRg5 := Lib.hid (rangesL_keeps HRg3.out hk35 (by have := HLb.out; omega) (by have := HLb.out; omega))
      have HO5 := Lib.hid (own_mono ho5 (show w.heap.size ≤ w3.heap.size from HI3.out.b.size))
      have HB5 := Lib.hid hb5
      have HS5 := Lib.hid hk35.size
      clear ho4 hb4 hb5 hk5 hk35 ho5 hB4 hB5 hw5 hlt4
      have HVe := Lib.hid hv'
      have hcs : (w4.cell? ⟨lb, 0, none⟩).isSome = true := by rw [dA]; rfl
      clear hv'
      go_upto_region 6 with (fail)
      rw [HVe.out, HW5.out]
      clear dA fA hcs
      obtain ⟨w8, hrun, ho8, hg8⟩ := HU5.out
      go_wp2_with (refine wpList_load_ln rfl _ rfl lb v' f0 rfl HB5.out ?_)
      have hk8 : Keeps (fun i => i = mo) w5 w8 := (Keeps.refl (fun i => i = mo) w5).grown hg8 (fun k e => by cases e; exact .inl rfl)
      have hrg8 := rangesL_keeps HRg5.out hk8 (by have := HNe.out; have := HI5.out.mo; omega) (fun e => HNe.out.1 e.symm)
      have hleft : ∀ b, (left (.int .u64 b) && !(Lit.int .u64 b).sameKey (.int .u64 x)) = if b = x then false else left (.int .u64 b) := fun b => by
        rw [same_u64']
        by_cases e : b = x
        · simp [e]
        · simp [e]
      have hrow : ∀ b, (sl' b).ownBlock ≠ some mo := fun b => ownL_notRow HI5.out.o (HI5.out.r b)
      refine ⟨⟨_, cnt2, hrg8, Lib.hid ⟨n' + 1, _, updV sl' x v', fun a => if a = x then f0 else mk' a, ⟨ho8, fun b => ?_, fun b => ?_, fun b b2 i hne h1 h2 => ?_, fun b i => ?_, fun b hb hne => ?_, by have := HI5.out.n; have := HLk.out.2; omega, fun b hb => ?_, HI5.out.b.keeps (Nat.le_refl _) hk8 (fun i e => by have := HI5.out.mo; omega), HI5.out.mo⟩⟩⟩, ?_⟩
      · unfold updV hasL
        by_cases e : b = x
        · subst e
          rw [if_pos rfl, if_pos rfl, atKey_put_same (HI5.out.o.isMap) (show WideAt.IsKeyLit (.int .u64 b) from trivial)]
        · rw [if_neg e, if_neg e, atKey_put_other (by intro h; cases h; exact e rfl)]
          exact HI5.out.e b
      · rw [hleft]
        unfold updV
        by_cases e : b = x
        · rw [if_pos e, if_pos e, if_neg (by simp), e, HXx.out.2.2.1]
          exact .inl (own_keeps HO5.out hk8 (fun i hi h => by have := (HV'.out.2 i hi).1; have := HLb.out; have := HLt.out; omega))
        · rw [if_neg e, if_neg e]
          exact (HI5.out.r b).keeps hk8 (fun i hi h => hrow b (by rw [hi, h]))
      · unfold updV at h1 h2
        by_cases e1 : b = x
        · rw [if_pos e1] at h1
          by_cases e2 : b2 = x
          · exact hne (e1.trans e2.symm)
          · rw [if_neg e2] at h2
            have a1 := (HV'.out.2 i h1).1
            have a2 := (HI3.out.r b2).lt h2
            omega
        · rw [if_neg e1] at h1
          by_cases e2 : b2 = x
          · rw [if_pos e2] at h2
            have a1 := (HV'.out.2 i h2).1
            have a2 := (HI3.out.r b).lt h1
            omega
          · rw [if_neg e2] at h2
            exact HI5.out.d b b2 i hne h1 h2
      · show (if b = x then f0 else mk' b) i = 0 ∨ (if b = x then f0 else mk' b) i = mk b i
        split
        · rename_i e; rw [e, HXx.out.2.1]; exact .inr rfl
        · exact HI5.out.m b i
      · show (if b = x then f0 else mk' b) = mk b
        rw [hleft] at hb
        split
        · rename_i e; rw [e, HXx.out.2.1]
        · rename_i e
          rw [if_neg e] at hb
          exact HI5.out.f b hb hne
      · rw [hleft]
        by_cases e : b = x
        · rw [if_pos e, e]
          exact ⟨rfl, HHx.out⟩
        · rw [if_neg e]
          rw [has_put_other (by intro h; cases h; exact e rfl)] at hb
          exact HI5.out.h b hb
      · rw [hrg8.left_eq, hrg.left_eq]
        exact HLk.out.2
/-- what own leaves, as lines of a memory -/
theorem CpI.done {w w' : World} {n mo n' : Nat} {D D' : DataW Value} {mk mk' : Int → Nat → Int} {F : Int → List (Int × Int)} {sl' : Int → Value} (h : CpI w n D mk F mo (fun _ => false) 0 w' n' D' sl' mk') (a : Int) : RowC w' w.heap.size (sl' a) (F a) := by
  have := h.r a
  rwa [if_neg (by simp)] at this
end Go.Proofs.Ytefgahcadfmmoaa
namespace Go.Proofs.Ytefgahcadfmmoaa
open Go.RowKit Go.Maps
attribute [local go_sem] Oper.semAt_some
set_option linter.unusedVariables false

/-- as MemC; the lines' rows are just apart from the memory's other blocks -/
structure MemQ (w : World) (N0 mb : Nat) (vs is : List Int) (vv vi : Value) (ml n : Nat) (D : DataW Value) (sl : Int → Value) (mk : Int → Nat → Int) (F : Int → List (Int × Int)) (lo st fl fe : Int) : Prop where
  m : MemB w mb vs is vv vi ml lo st fl fe
  o : OwnL w ml n D
  e : ∀ a, hasL D a (.agg (lnCells (sl a) (mk a)))
  r : ∀ a, RowC w 0 (sl a) (F a)
  d : ∀ a a' i, a ≠ a' → (sl a).ownBlock = some i → (sl a').ownBlock ≠ some i
  lt : ∀ i, i = mb ∨ i = ml ∨ vv.ownBlock = some i ∨ vi.ownBlock = some i → i < N0
  x : ml ≠ mb ∧ vv.ownBlock ≠ some ml ∧ vi.ownBlock ≠ some ml
  xv : ∀ i, vv.ownBlock = some i → vi.ownBlock ≠ some i
  ap : ∀ a i, (sl a).ownBlock = some i → i ≠ mb ∧ i ≠ ml ∧ vv.ownBlock ≠ some i ∧ vi.ownBlock ≠ some i
theorem last_doneQ {w w' : World} {N0 mb : Nat} {vs is is' : List Int} {vv vi : Value} {ml n : Nat} {D D' : DataW Value} {sl : Int → Value} {mk : Int → Nat → Int} {F : Int → List (Int × Int)} {lo st fl fe : Int} {at_ : Int} {s' : Value} {f' : Nat → Int} {l' : List (Int × Int)}
    (h : MemQ w N0 mb vs is vv vi ml n D sl mk F lo st fl fe) (hm : MemB w' mb vs is' vv vi ml lo st fl fe) (ho : OwnL w' ml (n + 1) D') (h1 : hasL D' at_ (.agg (lnCells s' f'))) (h2 : ∀ a z, a ≠ at_ → D'.atKey (.int .u64 a) z = D.atKey (.int .u64 a) z)
    (hk : Keeps (fun i => i = ml ∨ vi.ownBlock = some i ∨ w.heap.size ≤ i) w w') (hr : RowC w' 0 s' l') (hs : ∀ i, s'.ownBlock = some i → (sl at_).ownBlock = some i) :
    MemQ w' N0 mb vs is' vv vi ml (n + 1) D' (updV sl at_ s') (fun a => if a = at_ then f' else mk a) (updF F at_ l') lo st fl fe := by
  refine ⟨hm, ho, fun a => ?_, fun a => ?_, fun a b i hne ha => ?_, h.lt, h.x, h.xv, fun a i ha => ?_⟩
  · unfold updV
    by_cases e : a = at_
    · subst e; simp only [if_true]; exact h1
    · simp only [if_neg e]
      unfold hasL
      rw [h2 a _ e]
      exact h.e a
  · unfold updV updF
    by_cases e : a = at_
    · simp only [if_pos e]; exact hr
    · simp only [if_neg e]
      refine (h.r a).keeps hk (fun i hi => ?_)
      have b2 := (h.r a).lt hi
      have b3 := h.ap a i hi
      rintro (x | x | x)
      · exact b3.2.1 x
      · exact b3.2.2.2 x
      · omega
  · unfold updV at ha ⊢
    by_cases e : a = at_
    · rw [if_pos e] at ha
      rw [if_neg (fun e2 => hne (e.trans e2.symm))]
      exact h.d at_ b i (fun e2 => hne (e.trans e2)) (hs i ha)
    · rw [if_neg e] at ha
      by_cases e2 : b = at_
      · rw [if_pos e2]
        intro h3
        exact h.d a at_ i e ha (hs i h3)
      · rw [if_neg e2]
        exact h.d a b i hne ha
  · unfold updV at ha
    by_cases e : a = at_
    · rw [if_pos e] at ha
      exact h.ap at_ i (hs i ha)
    · rw [if_neg e] at ha
      exact h.ap a i ha
/-- what lasting some of a line's stores leaves -/
def LastPQ (w : World) (N0 mb : Nat) (vs is : List Int) (vv vi : Value) (ml n : Nat) (sl : Int → Value) (mk : Int → Nat → Int) (F : Int → List (Int × Int)) (lo st fl fe : Int) (at_ k : Int) (e : Ending) (w' : World) : Prop :=
  e = .returned (.int .i64 (min k ((F at_).length : Int))) ∧
      ∃ s' f' D', MemQ w' N0 mb vs (lastIm is ((F at_).take k.toNat)) vv vi ml (n + 1) D' (updV sl at_ s') (fun a => if a = at_ then f' else mk a) (updF F at_ ((F at_).drop k.toNat)) lo st fl fe ∧
        (∀ c, f' c = if (F at_).drop k.toNat = [] then 0 else max (mk at_ c - min k ((F at_).length : Int)) 0) ∧ Keeps (fun i => i = ml ∨ vi.ownBlock = some i ∨ w.heap.size ≤ i) w w'
def LastQ (w : World) (N0 mb : Nat) (vs is : List Int) (vv vi : Value) (ml n : Nat) (D : DataW Value) (sl : Int → Value) (mk : Int → Nat → Int) (F : Int → List (Int × Int)) (lo st fl fe : Int) (at_ k : Int) (e : Ending) (w' : World) : Prop :=
  e = .returned (.int .i64 (min k ((F at_).length : Int))) ∧
      ∃ s' f' D', MemQ w' N0 mb vs (lastIm is ((F at_).take k.toNat)) vv vi ml (n + 1) D' (updV sl at_ s') (fun a => if a = at_ then f' else mk a) (updF F at_ ((F at_).drop k.toNat)) lo st fl fe ∧
        (∀ c, f' c = if (F at_).drop k.toNat = [] then 0 else max (mk at_ c - min k ((F at_).length : Int)) 0) ∧ Keeps (fun i => i = ml ∨ vi.ownBlock = some i ∨ w.heap.size ≤ i) w w' ∧
        (∀ i, s'.ownBlock = some i → (sl at_).ownBlock = some i) ∧ (∀ b, Maps.has D' (.int .u64 b) = if b = at_ then decide (¬ (F at_).drop k.toNat = []) else Maps.has D (.int .u64 b))
set_option maxRecDepth 100000 in
set_option maxHeartbeats 40000000 in
theorem mlast_q (w : World) (N0 mb : Nat) (vs is : List Int) (vv vi : Value) (ml n : Nat) (D : DataW Value) (sl : Int → Value) (mk : Int → Nat → Int) (F : Int → List (Int × Int)) (lo st fl fe : Int)
    (h : MemQ w N0 mb vs is vv vi ml n D sl mk F lo st fl fe) (hN0 : N0 ≤ w.heap.size) (hni : is.length ≤ 1000000) (at_ : Int) (h0 : 0 ≤ at_) (h1 : at_ ≤ 18446744073709551615) (k : Int) (hk0 : 0 ≤ k) (hk1 : k ≤ 9223372036854775807)
    (hn : n ≤ 1000000) (hF : (F at_).length ≤ 1000000) (hmk : ∀ c, 0 ≤ mk at_ c ∧ mk at_ c ≤ 1000000) (hok : ∀ p ∈ F at_, 0 ≤ p.1 ∧ p.1 / 8 < (is.length : Int)) :
    Calls Try.prog 36 #[.pointer (some ⟨mb, 0, none⟩), .int .u64 at_, .int .i64 k] w (LastQ w N0 mb vs is vv vi ml n D sl mk F lo st fl fe at_ k) := by
  obtain ⟨s0, hs0e⟩ : ∃ s0, sl at_ = s0 := ⟨_, rfl⟩
  obtain ⟨f0, hf0⟩ : ∃ f0, mk at_ = f0 := ⟨_, rfl⟩
  have hE : hasL D at_ (.agg (lnCells s0 f0)) := by rw [← hs0e, ← hf0]; exact h.e at_
  have hR : RowC w 0 s0 (F at_) := by rw [← hs0e]; exact h.r at_
  have c2 : w.cell? ⟨mb, 2, none⟩ = some (.map (some ml)) := h.m.c 2
  have hl : (Instr.lookup 72 (.map (some ml)) (.int .u64 at_) false).run Try.prog w = .ok (.agg (lnCells s0 f0)) w := own_look h.o at_ h0 h1 hE
  have Hs1 := Lib.hid hR.one
  have HH := Lib.hid h
  have HR := Lib.hid hR
  have HE := Lib.hid hE
  have KX : Keeps NoB w ((w.alloc (.cells (lnCells (.slice none 0 0) (fun _ => 0)) 84)).setRow w.heap.size (lnCells s0 f0)) := keeps_setRow ((Keeps.refl NoB w).alloc _) (.inr (Nat.le_refl _)) _
  have BX : Blk ((w.alloc (.cells (lnCells (.slice none 0 0) (fun _ => 0)) 84)).setRow w.heap.size (lnCells s0 f0)) w.heap.size (lnCells s0 f0) 84 := (Blk.new w _ _).row _
  have HKX := Lib.hid KX
  have HBX := Lib.hid BX
  have HOk := Lib.hid hok
  have HMk := Lib.hid hmk
  have HFm := Lib.hid hR.form
  have HS0 := Lib.hid hs0e
  have HF0 := Lib.hid hf0
  clear h hR hE KX BX hok hmk hs0e hf0
  go_enter Try.func36, Try.ntmps36
  go_upto_region 2 with (first | (refine wpList_alloc_ln rfl rfl ?_) | (refine wpList_store_ln rfl _ _ rfl w.heap.size s0 _ f0 _ Hs1.out rfl rfl (Blk.new w _ _) ?_))
  obtain ⟨lb, hlb⟩ : ∃ lb, w.heap.size = lb := ⟨_, rfl⟩
  rw [hlb] at HKX HBX ⊢
  generalize (w.alloc (.cells (lnCells (.slice none 0 0) (fun _ => 0)) 84)).setRow lb (lnCells s0 f0) = w2 at *
  obtain ⟨A, C, hform, hlc, hlm⟩ := HFm.out
  subst hform
  have d0 : w2.cell? ⟨lb, 0, none⟩ = some (.slice A (F at_).length C) := by rw [HBX.out.cell]; exact lnCells_0 _ _
  obtain ⟨l, hl9⟩ : ∃ l, F at_ = l := ⟨_, rfl⟩
  rw [hl9] at d0 hlc hlm HR HBX HOk hF HE HS0
  obtain ⟨m, hm⟩ : ∃ m : Nat, min k (l.length : Int) = (m : Int) := ⟨(min k (l.length : Int)).toNat, by omega⟩
  have hml : m ≤ l.length := by omega
  have hmc : (m : Int) ≤ (C : Int) := by omega
  have hmin1 : (if k ≤ (l.length : Int) then k else (l.length : Int)) = (m : Int) := by split <;> omega
  have hmin2 : (if (l.length : Int) < k then (l.length : Int) else k) = (m : Int) := by split <;> omega
  go_wp2_with (fail)
  have HM2 := Lib.hid (HH.out.m.kept HKX.out (fun _ _ h => h))
  have HR2 := Lib.hid (HR.out.keeps HKX.out (fun _ _ h => h))
  have HLi := Lib.hid (show LsI w2 mb vs is vv vi ml lo st fl fe l 0 w2 from ⟨HM2.out, Keeps.refl _ _⟩)
  have HLb := Lib.hid hlb
  have hsz2 : lb < w2.heap.size := HBX.out.lt
  have HVi := Lib.hid (show ∀ i, vi.ownBlock = some i → i < N0 ∧ i < lb from fun i hi => ⟨HH.out.lt i (.inr (.inr (.inr hi))), by have := HH.out.lt i (.inr (.inr (.inr hi))); rw [← hlb]; omega⟩)
  have HMl := Lib.hid hml
  have HMin := Lib.hid hm
  have HTk := Lib.hid (show l.take k.toNat = l.take m ∧ l.drop k.toNat = l.drop m from by
    by_cases hkl : k ≤ (l.length : Int)
    · have : k.toNat = m := by omega
      rw [this]; exact ⟨rfl, rfl⟩
    · have : m = l.length := by omega
      rw [this, List.take_of_length_le (by omega), List.take_of_length_le (Nat.le_refl _), List.drop_of_length_le (by omega), List.drop_of_length_le (Nat.le_refl _)]; exact ⟨rfl, rfl⟩)
  clear hmin1 hmin2 d0 hl hlb hm hml
  go_loopw [27] (fun jv wq => ∃ j : Nat, j ≤ m ∧ jv = .int .i64 j ∧ LsI w2 mb vs is vv vi ml lo st fl fe l j wq) (fun jv _ => m - (intOf jv).toNat)
  case atStart => exact ⟨0, by omega, rfl, HLi.out⟩
  case round =>
    obtain ⟨j, hj, rfl, hI⟩ := hrel
    have HI := Lib.hid hI
    by_cases hlt : j < m
    · have hjl : j < l.length := by have := HMl.out; omega
      have hjb : (j : Int) < (m : Int) := by omega
      have HJ := Lib.hid hlt
      have hrow : RowC wr 0 (.slice A l.length C) l := HR2.out.keeps hI.kp (fun i hi h => by
        have h1 := HR.out.lt hi
        rcases h with h | h
        · exact (HH.out.ap at_ i (by rw [HS0.out]; exact hi)).2.2.2 h
        · have := HLb.out; omega)
      obtain ⟨g, o, c9, hsl, _, _, hgl, cs, hcs, hget⟩ := hrow.cells (by omega)
      obtain ⟨rfl, rfl⟩ : A = some ⟨g, o, none⟩ ∧ C = c9 := ⟨(Value.slice.inj hsl).1, (Value.slice.inj hsl).2.2⟩
      obtain ⟨e1, e2⟩ := ecells_at l j hjl
      have c1 := cell_cells hcs (hget _ _ e1)
      have c2' := cell_cells hcs (hget _ _ e2)
      rw [← Nat.add_assoc] at c2'
      obtain ⟨ad, had⟩ : ∃ ad, l[j].1 = ad := ⟨_, rfl⟩
      obtain ⟨wd, hwd⟩ : ∃ wd, l[j].2 = wd := ⟨_, rfl⟩
      rw [had] at c1
      rw [hwd] at c2'
      have hok := HOk.out l[j] (List.getElem_mem _)
      rw [had] at hok
      obtain ⟨q, hq⟩ : ∃ q : Nat, ad / 8 = (q : Int) := ⟨(ad / 8).toNat, by omega⟩
      have hqn : q < is.length := by omega
      have hlen := lastIm_len (l.take j) is
      have hsucc := lastIm_succ is l j hjl
      rw [had, hwd, hq, Int.toNat_natCast] at hsucc
      obtain ⟨gi, ci, rfl⟩ : ∃ gi ci, vi = .slice (some ⟨gi, 0, none⟩) is.length ci := by
        rcases hI.m.i.2 with ⟨_, h0⟩ | ⟨gi, ci, cur, hv, _⟩
        · rw [hlen] at h0; omega
        · exact ⟨gi, ci, by rw [hv, hlen]⟩
      have HSu := Lib.hid hsucc
      have HQ := Lib.hid (show IntKind.u64.wrap (ad.tdiv 8) = (q : Int) from by rw [Int.tdiv_eq_ediv_of_nonneg hok.1, hq]; exact IntWalk.u64_in _ (by omega))
      have HQn := Lib.hid (show (q : Int) < (is.length : Int) by omega)
      have hgi := (HVi.out gi rfl)
      have hiown := hI.m.i
      rw [hlen] at hiown
      have hiW : ((wr.alloc (.cells #[.int .u64 ad, .int .u64 wd] 25)).drew).ownsRow 0 22 1 (.slice (some ⟨gi, 0, none⟩) is.length ci) is.length ((lastIm is (l.take j)).map (Value.int .u64)) := own_keeps hiown ((Keeps.refl NoB wr).alloc _).drew (fun _ _ h => h)
      have hfz := own_frozen hiW q
      have hcq := hiW.cells (g := gi) rfl q (.int .u64 ((lastIm is (l.take j)).getD q 0)) (by rw [List.getElem?_map, List.getD_eq_getElem?_getD, List.getElem?_eq_getElem (by rw [hlen]; exact hqn)]; rfl)
      rw [show ((⟨gi, 0, none⟩ : Addr).add q) = ⟨gi, q, none⟩ by unfold Addr.add; split; (rename_i h; subst h; rfl); simp] at hcq
      have HZ := Lib.hid (And.intro hfz hcq)
      have hB6 : Below wr.heap.size wr (wr.alloc (.cells #[.int .u64 ad, .int .u64 wd] 25)).drew := ((Below.refl _ _).alloc (Nat.le_refl _) _).drew
      have hM6 := hI.m.below hB6
      have hnew := Blk.new wr #[.int .u64 ad, .int .u64 wd] 25
      have hnext : LsI w2 mb vs is vv (.slice (some ⟨gi, 0, none⟩) is.length ci) ml lo st fl fe l (j + 1) (((wr.alloc (.cells #[.int .u64 ad, .int .u64 wd] 25)).drew).setCell ⟨gi, q, none⟩ (.int .u64 wd)) := by
        refine ⟨⟨hM6.blk.other q _ (fun e => by have := hM6.ne.2; exact this (by rw [e]; rfl)), ownsRow_setCell_other hM6.v (a := ⟨gi, q, none⟩) (fun e => HH.out.xv gi e rfl) _, ?_⟩, (hI.kp.trans ((Keeps.refl (fun i => (Value.slice (some ⟨gi, 0, none⟩) is.length ci).ownBlock = some i ∨ w2.heap.size ≤ i) wr).alloc _).drew).setCell (p := ⟨gi, q, none⟩) (.inl (.inl rfl)) _⟩
        rw [HSu.out, List.length_set, List.map_set, hlen]
        exact own_set hiW q (.int .u64 wd)
      have HNx := Lib.hid hnext
      obtain ⟨W6, hW6⟩ : ∃ y, wr.alloc (.cells #[.int .u64 ad, .int .u64 wd] 25) = y := ⟨_, rfl⟩
      obtain ⟨pb, hpb⟩ : ∃ pb, wr.heap.size = pb := ⟨_, rfl⟩
      rw [hpb] at hnew
      have HC6 := Lib.hid (show W6.drew.cell? ⟨mb, 1, none⟩ = some (.slice (some ⟨gi, 0, none⟩) is.length ci) ∧ W6.drew.cell? ⟨pb, 0, none⟩ = some (.int .u64 ad) ∧ W6.drew.cell? ⟨pb, 1, none⟩ = some (.int .u64 wd) from ⟨by rw [← hW6]; exact hM6.c 1, by rw [← hW6]; exact hnew.drew.cell 0, by rw [← hW6]; exact hnew.drew.cell 1⟩)
      rw [hW6] at HNx HZ
      clear hI hrow hcs hget e1 e2 hok hq hlen hsucc hiown hiW hfz hcq hB6 hM6 hnew hnext had hwd hlt hsl
      go_wp2_with (fail)
      clear hW6 hpb
      --GEN r_lt6
      refine wp_region_vals [Is (.pointer (some ⟨mb, 0, none⟩)), Is (.pointer (some ⟨mb, 0, none⟩)), Is (.pointer (some ⟨mb, 1, none⟩)), Is (.slice (some ⟨gi, 0, none⟩) is.length ci), Is (.pointer (some ⟨pb, 0, none⟩)), Is (.int .u64 ad), Is (.int .u64 (q : Int)), Is (.pointer (some ⟨pb, 1, none⟩)), Is (.int .u64 wd), Is (.pointer (some ⟨gi, q, none⟩)), Any]
        (fun _ _ _ => True) (fun L W => StQ W6 gi q wd 10 L W) (by kernel_rfl) (by kernel_rfl) (by kernel_rfl) ?hst ?h0 ⟨?o0, ?o1, ?o2, ?o3, ?o4, ?o5, ?o6, ?o7, ?o8, ?o9, ?o10, trivial⟩ ?he
      case hst =>
        exact ⟨(fun _ _ _ _ _ _ h _ => h), (fun _ _ _ _ _ _ h _ => h), (fun _ _ _ _ _ _ h _ => h), (fun _ _ _ _ _ _ h _ => h), (fun _ _ _ _ _ _ h _ => h), (fun _ _ _ _ _ _ h _ => h), (fun _ _ _ _ _ _ h _ => h), (fun _ _ _ _ _ _ h _ => h), (fun _ _ _ _ _ _ h _ => h), (fun _ _ _ _ _ _ h _ => h), (fun _ _ _ _ _ _ h _ => h), trivial⟩
      case h0 =>
        exact ⟨fun _ => rfl, fun e => by cases e⟩
      case o0 =>
        intro L vs A W H hf hd K hK
        have e0 : A.tmps[0]?.getD undef = .pointer (some ⟨mb, 0, none⟩) := H.old 0 (by kernel_rfl)
        go_simp
        exact hK _ _ (trivial) rfl (H.glob)
      case o1 =>
        intro L vs A W H hf hd K hK
        have e31 := H.is 0 31 rfl rfl rfl (deps_of' hd 0 (by kernel_rfl)) (by kernel_rfl)
        go_simp
        exact hK _ _ (trivial) rfl (H.glob)
      case o2 =>
        intro L vs A W H hf hd K hK
        have e32 := H.is 1 32 rfl rfl rfl (deps_of' hd 1 (by kernel_rfl)) (by kernel_rfl)
        go_simp
        exact hK _ _ (trivial) rfl (H.glob)
      case o3 =>
        intro L vs A W H hf hd K hK
        have e33 := H.is 2 33 rfl rfl rfl (deps_of' hd 2 (by kernel_rfl)) (by kernel_rfl)
        have n10 := H.notYet 10 3 rfl hf (by kernel_rfl)
        have d : W.cell? ⟨mb, 1, none⟩ = some (.slice (some ⟨gi, 0, none⟩) is.length ci) := (by rw [H.glob.1 n10]; exact HC6.out.1)
        go_simp
        exact hK _ _ (trivial) rfl (H.glob)
      case o4 =>
        intro L vs A W H hf hd K hK
        have e9 : A.tmps[9]?.getD undef = .pointer (some ⟨pb, 0, none⟩) := H.old 9 (by kernel_rfl)
        go_simp
        exact hK _ _ (trivial) rfl (H.glob)
      case o5 =>
        intro L vs A W H hf hd K hK
        have e35 := H.is 4 35 rfl rfl rfl (deps_of' hd 4 (by kernel_rfl)) (by kernel_rfl)
        have n10 := H.notYet 10 5 rfl hf (by kernel_rfl)
        have d : W.cell? ⟨pb, 0, none⟩ = some (.int .u64 ad) := (by rw [H.glob.1 n10]; exact HC6.out.2.1)
        go_simp
        exact hK _ _ (trivial) rfl (H.glob)
      case o6 =>
        intro L vs A W H hf hd K hK
        have e36 := H.is 5 36 rfl rfl rfl (deps_of' hd 5 (by kernel_rfl)) (by kernel_rfl)
        have hq := HQ.out
        go_simp
        exact hK _ _ (trivial) rfl (H.glob)
      case o7 =>
        intro L vs A W H hf hd K hK
        have e9 : A.tmps[9]?.getD undef = .pointer (some ⟨pb, 0, none⟩) := H.old 9 (by kernel_rfl)
        go_simp
        exact hK _ _ (trivial) rfl (H.glob)
      case o8 =>
        intro L vs A W H hf hd K hK
        have e38 := H.is 7 38 rfl rfl rfl (deps_of' hd 7 (by kernel_rfl)) (by kernel_rfl)
        have n10 := H.notYet 10 8 rfl hf (by kernel_rfl)
        have d : W.cell? ⟨pb, 1, none⟩ = some (.int .u64 wd) := (by rw [H.glob.1 n10]; exact HC6.out.2.2)
        go_simp
        exact hK _ _ (trivial) rfl (H.glob)
      case o9 =>
        intro L vs A W H hf hd K hK
        have e34 := H.is 3 34 rfl rfl rfl (deps_of' hd 3 (by kernel_rfl)) (by kernel_rfl)
        have e37 := H.is 6 37 rfl rfl rfl (deps_of' hd 6 (by kernel_rfl)) (by kernel_rfl)
        have hqn := HQn.out
        go_simp
        exact hK _ _ (trivial) rfl (H.glob)
      case o10 =>
        intro L vs A W H hf hd K hK
        have e40 := H.is 9 40 rfl rfl rfl (deps_of' hd 9 (by kernel_rfl)) (by kernel_rfl)
        have e39 := H.is 8 39 rfl rfl rfl (deps_of' hd 8 (by kernel_rfl)) (by kernel_rfl)
        have hW := H.glob.1 hf
        subst hW
        have hfz := HZ.out.1
        have hsm := HZ.out.2
        go_simp
        exact hK undef _ trivial trivial ⟨fun e => (by cases e), fun _ => rfl⟩
      case he =>
        intro vs W hlen hv
        match vs, hlen, hv with
        | [x0_, x1_, x2_, x3_, x4_, x5_, x6_, x7_, x8_, x9_, x10_], _, hv =>
        obtain rfl : (.pointer (some ⟨mb, 0, none⟩)) = x0_ := by obtain ⟨z, h1, h2⟩ := hv 0 _ rfl; cases h1; exact h2.symm
        obtain rfl : (.pointer (some ⟨mb, 0, none⟩)) = x1_ := by obtain ⟨z, h1, h2⟩ := hv 1 _ rfl; cases h1; exact h2.symm
        obtain rfl : (.pointer (some ⟨mb, 1, none⟩)) = x2_ := by obtain ⟨z, h1, h2⟩ := hv 2 _ rfl; cases h1; exact h2.symm
        obtain rfl : (.slice (some ⟨gi, 0, none⟩) is.length ci) = x3_ := by obtain ⟨z, h1, h2⟩ := hv 3 _ rfl; cases h1; exact h2.symm
        obtain rfl : (.pointer (some ⟨pb, 0, none⟩)) = x4_ := by obtain ⟨z, h1, h2⟩ := hv 4 _ rfl; cases h1; exact h2.symm
        obtain rfl : (.int .u64 ad) = x5_ := by obtain ⟨z, h1, h2⟩ := hv 5 _ rfl; cases h1; exact h2.symm
        obtain rfl : (.int .u64 (q : Int)) = x6_ := by obtain ⟨z, h1, h2⟩ := hv 6 _ rfl; cases h1; exact h2.symm
        obtain rfl : (.pointer (some ⟨pb, 1, none⟩)) = x7_ := by obtain ⟨z, h1, h2⟩ := hv 7 _ rfl; cases h1; exact h2.symm
        obtain rfl : (.int .u64 wd) = x8_ := by obtain ⟨z, h1, h2⟩ := hv 8 _ rfl; cases h1; exact h2.symm
        obtain rfl : (.pointer (some ⟨gi, q, none⟩)) = x9_ := by obtain ⟨z, h1, h2⟩ := hv 9 _ rfl; cases h1; exact h2.symm
        intro L hall hG
        clear hv hlen
        have HW := hG.2 (hall 10 (by decide))
        clear hG hall
        subst HW
        simp only [fill, if_true]
      --END
        simp [Act.put]
        go_wp2_with (fail)
        go_roundw
        case rel => exact ⟨j + 1, HJ.out, by go_num, HNx.out⟩
        case measure => have := HJ.out; simp [intOf]; omega
    · obtain rfl : j = m := by omega
      have BL : Blk wr lb (lnCells (.slice A l.length C) f0) 84 := HBX.out.kept hI.kp (by
        rintro (h | h)
        · have := (HVi.out lb h).2; omega
        · omega)
      have d0 : wr.cell? ⟨lb, 0, none⟩ = some (.slice A l.length C) := by rw [BL.cell]; exact lnCells_0 _ _
      have f0' := BL.frozen 0
      have HBL := Lib.hid BL
      have hjl : j ≤ l.length := HMl.out
      have hjli : (j : Int) ≤ (l.length : Int) := by omega
      have HI9 := Lib.hid hI
      have hlci : (l.length : Int) ≤ (C : Int) := by omega
      clear hI BL hlt
      by_cases hfin : l.length = j
      · obtain rfl : j = l.length := hfin.symm
        clear hfin
        go_wp2_with (fail)
        have hB7 := HBL.out.set 0 (.slice A 0 0)
        rw [lnCells_set0] at hB7
        have HK7 := Lib.hid ((Keeps.refl (fun i => i = lb) wr).setCell (p := ⟨lb, 0, none⟩) (.inl rfl) (.slice A 0 0))
        have HB7 := Lib.hid hB7
        generalize wr.setCell ⟨lb, 0, none⟩ (.slice A 0 0) = w8 at *
        obtain ⟨w9, hw9⟩ : ∃ y, y = wr := ⟨_, rfl⟩
        subst hw9
        obtain ⟨X, hX⟩ : ∃ X, Value.slice A 0 0 = X := ⟨_, rfl⟩
        rw [hX] at HB7
        have HX := Lib.hid hX
        clear hB7 hX d0 f0'
        have HB8 := Lib.hid (show Blk w8 lb (lnCells X (mkM f0 (l.length : Int) 0)) 84 from by
          rw [lnCells_congr X (f := mkM f0 (l.length : Int) 0) (g := f0) (fun i _ => by unfold mkM; rw [if_neg (by omega)])]; exact HB7.out)
        go_loopw [53] (fun jv wq => ∃ c : Nat, c ≤ 65 ∧ jv = .int .i64 c ∧ Blk wq lb (lnCells X (mkM f0 (l.length : Int) c)) 84 ∧ Keeps (fun i => i = lb) w8 wq) (fun jv _ => 65 - (intOf jv).toNat)
        case atStart => exact ⟨0, by omega, rfl, HB8.out, Keeps.refl _ _⟩
        case round =>
          obtain ⟨c, hc, rfl, hb, hk8⟩ := hrel
          have HBc := Lib.hid hb
          have HKc := Lib.hid hk8
          by_cases hlt : c < 65
          · have hcb : (c : Int) < 65 := by omega
            have d1 : wr.cell? ⟨lb, 1 + c, none⟩ = some (.int .i64 (f0 c)) := by
              rw [hb.cell, lnCells_at _ _ _ hlt]
              unfold mkM; rw [if_neg (by omega)]
            have f1 := hb.frozen (1 + c)
            have hmk := HMk.out c
            rw [HF0.out] at hmk
            have qw : IntKind.i64.wrap (f0 c - (l.length : Int)) = f0 c - (l.length : Int) := IntWalk.i64_in _ (by omega)
            have hset := hb.set (1 + c) (.int .i64 (max (f0 c - (l.length : Int)) 0))
            rw [lnCells_setM _ _ _ _ hlt] at hset
            obtain ⟨mx, hmx⟩ : ∃ mx, max (f0 c - (l.length : Int)) 0 = mx := ⟨_, rfl⟩
            rw [hmx] at hset
            have HSt := Lib.hid hset
            obtain ⟨dd, hdd⟩ : ∃ dd, f0 c - (l.length : Int) = dd := ⟨_, rfl⟩
            rw [hdd] at hmx qw
            have hx1 : (if dd ≤ 0 then 0 else dd) = mx := by rw [← hmx]; split <;> omega
            have hx2 : (if 0 ≤ dd then dd else 0) = mx := by rw [← hmx]; split <;> omega
            have hx3 : (if dd < 0 then 0 else dd) = mx := by rw [← hmx]; split <;> omega
            have hx4 : (if 0 < dd then dd else 0) = mx := by rw [← hmx]; split <;> omega
            have hx5 : max dd 0 = mx := hmx
            have HKn := Lib.hid (hk8.setCell (p := ⟨lb, 1 + c, none⟩) (.inl rfl) (.int .i64 mx))
            have HLT := Lib.hid hlt
            clear hb hk8 hset hmx hmk hlt
            go_wp2_with (fail)
            go_roundw
            case rel => exact ⟨c + 1, HLT.out, by go_num, HSt.out, HKn.out⟩
            case measure => have := HLT.out; simp [intOf]; omega
          · obtain rfl : c = 65 := by omega
            clear hb hk8 hlt
            have d0 : wr.cell? ⟨lb, 0, none⟩ = some X := by rw [HBc.out.cell]; exact lnCells_0 _ _
            rw [← HX.out] at d0
            have kW : Keeps (fun i => vi.ownBlock = some i ∨ w.heap.size ≤ i) w wr := (HKX.out.mono (fun _ _ h => h.elim)).trans ((HI9.out.kp.mono (fun i _ h => by rcases h with h | h; exact .inl h; exact .inr (Nat.le_trans HKX.out.size h))).trans (((HK7.out).trans HKc.out).mono (fun i _ h => .inr (by rw [h, HLb.out]; exact Nat.le_refl _))))
            have hmlN := HH.out.lt ml (.inr (.inl rfl))
            have hlN : N0 ≤ lb := by rw [← HLb.out]; exact hN0
            have HO9 := Lib.hid (ownL_keeps HH.out.o kW (by rintro (h | h); exact HH.out.x.2.2 h; have := HLb.out; omega))
            have HM9 := Lib.hid (HI9.out.m.kept (HK7.out.trans HKc.out) (fun i hi e => by have := HH.out.lt i (by rcases hi with h | h | h; exact .inl h; exact .inr (.inr (.inl h)); exact .inr (.inr (.inr h))); omega))
            have HKW := Lib.hid kW
            have dm : wr.cell? ⟨mb, 2, none⟩ = some (.map (some ml)) := HM9.out.c 2
            clear kW
            go_wp2_with (at_delete; refine wpList_delete_own _ rfl _ _ 72 23 rfl 84 kA Try.underlying72 _ ml n D rfl HO9.out _ (.int .u64 at_) rfl (keyOf_int_mk Try.underlying23 (addr_wf h0 h1)) ?_; intro w10 hown10 hturn10)
            go_ret
            have k10 : Keeps (fun i => i = ml) wr w10 := (Keeps.refl (fun i => i = ml) wr).grown hturn10.grown (fun k e => .inl (Option.some.inj e).symm)
            have hdr : l.drop k.toNat = [] := by rw [HTk.out.2]; exact List.drop_of_length_le (Nat.le_refl _)
            unfold LastQ
            rw [hl9]
            refine ⟨by rw [HMin.out]; rfl, .slice none 0 0, fun _ => 0, D.del (.int .u64 at_), ?_, fun c => by rw [if_pos hdr], (HKW.out.mono (fun i _ h => by rcases h with h | h; exact .inr (.inl h); exact .inr (.inr h))).trans (k10.mono (fun i _ h => .inl h)), fun i h => (by cases h), fun b => ?_⟩
            rotate_left 1
            · by_cases hb : b = at_
              · rw [if_pos hb, hb, has_del_same, hdr]; rfl
              · rw [if_neg hb, has_del_other (by intro e; cases e; exact hb rfl)]
            rw [hdr, HTk.out.1]
            refine last_doneQ HH.out (HM9.out.kept k10 (fun i hi e => by
              subst e
              rcases hi with h | h | h
              · exact HH.out.x.1 h
              · exact HH.out.x.2.1 h
              · exact HH.out.x.2.2 h)) (hown10.mono (by omega)) (by unfold hasL; rw [atKey_del_same]; rfl) (fun a z hne => atKey_del_other (by intro e; cases e; exact hne rfl) z) ((HKW.out.mono (fun i _ h => by rcases h with h | h; exact .inr (.inl h); exact .inr (.inr h))).trans (k10.mono (fun i _ h => .inl h))) (RowC.nil _ _) (fun i h => by cases h)
      · have hfn : j < l.length := by omega
        have hfni : (j : Int) < (l.length : Int) := by omega
        have hrow : RowC wr 0 (.slice A l.length C) l := HR2.out.keeps HI9.out.kp (fun i hi h => by
          have h1 := HR.out.lt hi
          rcases h with h | h
          · exact (HH.out.ap at_ i (by rw [HS0.out]; exact hi)).2.2.2 h
          · have := HLb.out; omega)
        obtain ⟨g, o, c9, hsl, hlc9, hgN, hgl, cs, hcs, hget⟩ := hrow.cells (by omega)
        obtain ⟨rfl, rfl⟩ : A = some ⟨g, o, none⟩ ∧ C = c9 := ⟨(Value.slice.inj hsl).1, (Value.slice.inj hsl).2.2⟩
        have hgw : g < w.heap.size := HR.out.lt rfl
        have HRow := Lib.hid (show RowC wr 0 (.slice (some ⟨g, o + j * 2, none⟩) (l.length - j) (l.length - j)) (l.drop j) from .inr ⟨g, o + j * 2, cs, by rw [List.length_drop], by rw [List.length_drop]; omega, hgN, hcs, fun jx u hu => by
          have he : ∀ (l : List (Int × Int)) (j : Nat), ecells (l.drop j) = (ecells l).drop (j * 2) := fun l => by
            induction l with
            | nil => intro j; simp [ecells]
            | cons e r ih =>
              intro j
              cases j with
              | zero => rfl
              | succ j =>
                have e1 : ecells (e :: r) = Value.int .u64 e.1 :: Value.int .u64 e.2 :: ecells r := rfl
                rw [List.drop_succ_cons, ih j, e1, show (j + 1) * 2 = j * 2 + 1 + 1 by omega]
                rfl
          rw [he, List.getElem?_drop] at hu
          rw [Nat.add_assoc]
          exact hget _ u hu⟩)
        clear hrow hcs hget hsl hlc9 hfin
        go_wp2_with (fail)
        have hB7 := HBL.out.set 0 (.slice (some ⟨g, o + j * 2, none⟩) (l.length - j) (l.length - j))
        rw [lnCells_set0] at hB7
        have HK7 := Lib.hid ((Keeps.refl (fun i => i = lb) wr).setCell (p := ⟨lb, 0, none⟩) (.inl rfl) (.slice (some ⟨g, o + j * 2, none⟩) (l.length - j) (l.length - j)))
        have HB7 := Lib.hid hB7
        generalize wr.setCell ⟨lb, 0, none⟩ (.slice (some ⟨g, o + j * 2, none⟩) (l.length - j) (l.length - j)) = w8 at *
        obtain ⟨w9, hw9⟩ : ∃ y, y = wr := ⟨_, rfl⟩
        subst hw9
        obtain ⟨X, hX⟩ : ∃ X, Value.slice (some ⟨g, o + j * 2, none⟩) (l.length - j) (l.length - j) = X := ⟨_, rfl⟩
        rw [hX] at HB7 HRow
        have HX := Lib.hid hX
        clear hB7 hX d0 f0'
        have HB8 := Lib.hid (show Blk w8 lb (lnCells X (mkM f0 (j : Int) 0)) 84 from by
          rw [lnCells_congr X (f := mkM f0 (j : Int) 0) (g := f0) (fun i _ => by unfold mkM; rw [if_neg (by omega)])]; exact HB7.out)
        go_loopw [53] (fun jv wq => ∃ c : Nat, c ≤ 65 ∧ jv = .int .i64 c ∧ Blk wq lb (lnCells X (mkM f0 (j : Int) c)) 84 ∧ Keeps (fun i => i = lb) w8 wq) (fun jv _ => 65 - (intOf jv).toNat)
        case atStart => exact ⟨0, by omega, rfl, HB8.out, Keeps.refl _ _⟩
        case round =>
          obtain ⟨c, hc, rfl, hb, hk8⟩ := hrel
          have HBc := Lib.hid hb
          have HKc := Lib.hid hk8
          by_cases hlt : c < 65
          · have hcb : (c : Int) < 65 := by omega
            have d1 : wr.cell? ⟨lb, 1 + c, none⟩ = some (.int .i64 (f0 c)) := by
              rw [hb.cell, lnCells_at _ _ _ hlt]
              unfold mkM; rw [if_neg (by omega)]
            have f1 := hb.frozen (1 + c)
            have hmk := HMk.out c
            rw [HF0.out] at hmk
            have qw : IntKind.i64.wrap (f0 c - (j : Int)) = f0 c - (j : Int) := IntWalk.i64_in _ (by omega)
            have hset := hb.set (1 + c) (.int .i64 (max (f0 c - (j : Int)) 0))
            rw [lnCells_setM _ _ _ _ hlt] at hset
            obtain ⟨mx, hmx⟩ : ∃ mx, max (f0 c - (j : Int)) 0 = mx := ⟨_, rfl⟩
            rw [hmx] at hset
            have HSt := Lib.hid hset
            obtain ⟨dd, hdd⟩ : ∃ dd, f0 c - (j : Int) = dd := ⟨_, rfl⟩
            rw [hdd] at hmx qw
            have hx1 : (if dd ≤ 0 then 0 else dd) = mx := by rw [← hmx]; split <;> omega
            have hx2 : (if 0 ≤ dd then dd else 0) = mx := by rw [← hmx]; split <;> omega
            have hx3 : (if dd < 0 then 0 else dd) = mx := by rw [← hmx]; split <;> omega
            have hx4 : (if 0 < dd then dd else 0) = mx := by rw [← hmx]; split <;> omega
            have hx5 : max dd 0 = mx := hmx
            have HKn := Lib.hid (hk8.setCell (p := ⟨lb, 1 + c, none⟩) (.inl rfl) (.int .i64 mx))
            have HLT := Lib.hid hlt
            clear hb hk8 hset hmx hmk hlt
            go_wp2_with (fail)
            go_roundw
            case rel => exact ⟨c + 1, HLT.out, by go_num, HSt.out, HKn.out⟩
            case measure => have := HLT.out; simp [intOf]; omega
          · obtain rfl : c = 65 := by omega
            clear hb hk8 hlt
            have d0 : wr.cell? ⟨lb, 0, none⟩ = some X := by rw [HBc.out.cell]; exact lnCells_0 _ _
            have kW : Keeps (fun i => vi.ownBlock = some i ∨ w.heap.size ≤ i) w wr := (HKX.out.mono (fun _ _ h => h.elim)).trans ((HI9.out.kp.mono (fun i _ h => by rcases h with h | h; exact .inl h; exact .inr (Nat.le_trans HKX.out.size h))).trans (((HK7.out).trans HKc.out).mono (fun i _ h => .inr (by rw [h, HLb.out]; exact Nat.le_refl _))))
            have hmlN := HH.out.lt ml (.inr (.inl rfl))
            have hlN : N0 ≤ lb := by rw [← HLb.out]; exact hN0
            have hO9 := ownL_keeps HH.out.o kW (by rintro (h | h); exact HH.out.x.2.2 h; have := HLb.out; omega)
            have HM9 := Lib.hid (HI9.out.m.kept (HK7.out.trans HKc.out) (fun i hi e => by have := HH.out.lt i (by rcases hi with h | h | h; exact .inl h; exact .inr (.inr (.inl h)); exact .inr (.inr (.inr h))); omega))
            have HR9 := Lib.hid (HRow.out.keeps (HK7.out.trans HKc.out) (fun i hi e => by
              rw [← HX.out] at hi
              have e2 := Option.some.inj hi
              have e3 : g = i := e2
              have := HLb.out
              omega))
            have HKW := Lib.hid kW
            have HC7 := Lib.hid (show wr.cell? ⟨mb, 2, none⟩ = some (.map (some ml)) from HM9.out.c 2)
            obtain ⟨f9, hf9⟩ : ∃ f9, mkM f0 (j : Int) 65 = f9 := ⟨_, rfl⟩
            rw [hf9] at HBc
            obtain ⟨D', hD'⟩ : ∃ D', D.put (.int .u64 at_) (.held (.agg (lnCells X f9))) = D' := ⟨_, rfl⟩
            have HU7 := Lib.hid (World.ownsMap.update (hO9.drew) kA Try.underlying72 (by unfold maxLen; omega) (keyOf_int_mk Try.underlying23 (addr_wf h0 h1)) (val := .agg (lnCells X f9)) (d := .held (.agg (lnCells X f9))) (ps := []) rfl)
            rw [hD'] at HU7
            have HB9 := Lib.hid HBc.out
            have HD9 := Lib.hid hD'
            have HF9 := Lib.hid hf9
            have HIm := Lib.hid hO9.isMap
            have hlz : ¬ l.length - j = 0 := by omega
            have hlz2 : ((((l.length - j : Nat) : Int)) == 0) = false := beq_eq_false_iff_ne.2 (by omega)
            rw [← HX.out] at d0
            clear kW hO9 hD' hf9
            go_wp2_with (fail)
            --GEN r_lt16
            refine wp_region_vals [Is (.pointer (some ⟨mb, 0, none⟩)), Is (.pointer (some ⟨mb, 0, none⟩)), Is (.pointer (some ⟨mb, 2, none⟩)), Is (.map (some ml)), Is (.int .u64 at_), Is (.agg (lnCells X f9)), Any]
              (fun _ _ _ => True) (fun L W => StU wr ml n D' 6 L W) (by kernel_rfl) (by kernel_rfl) (by kernel_rfl) ?hst ?h0 ⟨?o0, ?o1, ?o2, ?o3, ?o4, ?o5, ?o6, trivial⟩ ?he
            case hst =>
              exact ⟨(fun _ _ _ _ _ _ h _ => h), (fun _ _ _ _ _ _ h _ => h), (fun _ _ _ _ _ _ h _ => h), (fun _ _ _ _ _ _ h _ => h), (fun _ _ _ _ _ _ h _ => h), (fun _ _ _ _ _ _ h _ => h), (fun _ _ _ _ _ _ h _ => h), trivial⟩
            case h0 =>
              exact ⟨fun _ => rfl, fun e => by cases e⟩
            case o0 =>
              intro L vs A W H hf hd K hK
              have e0 : A.tmps[0]?.getD undef = .pointer (some ⟨mb, 0, none⟩) := H.old 0 (by kernel_rfl)
              go_simp
              exact hK _ _ (trivial) rfl (H.glob)
            case o1 =>
              intro L vs A W H hf hd K hK
              have e76 := H.is 0 76 rfl rfl rfl (deps_of' hd 0 (by kernel_rfl)) (by kernel_rfl)
              go_simp
              exact hK _ _ (trivial) rfl (H.glob)
            case o2 =>
              intro L vs A W H hf hd K hK
              have e77 := H.is 1 77 rfl rfl rfl (deps_of' hd 1 (by kernel_rfl)) (by kernel_rfl)
              go_simp
              exact hK _ _ (trivial) rfl (H.glob)
            case o3 =>
              intro L vs A W H hf hd K hK
              have e78 := H.is 2 78 rfl rfl rfl (deps_of' hd 2 (by kernel_rfl)) (by kernel_rfl)
              have n6 := H.notYet 6 3 rfl hf (by kernel_rfl)
              have d : W.cell? ⟨mb, 2, none⟩ = some (.map (some ml)) := (by rw [H.glob.1 n6]; exact HC7.out)
              go_simp
              exact hK _ _ (trivial) rfl (H.glob)
            case o4 =>
              intro L vs A W H hf hd K hK
              have e1 : A.tmps[1]?.getD undef = .int .u64 at_ := H.old 1 (by kernel_rfl)
              go_simp
              exact hK _ _ (trivial) rfl (H.glob)
            case o5 =>
              intro L vs A W H hf hd K hK
              have e7 : A.tmps[7]?.getD undef = .pointer (some ⟨lb, 0, none⟩) := H.old 7 (by kernel_rfl)
              have n6 := H.notYet 6 5 rfl hf (by kernel_rfl)
              rw [if_pos (show Region.wanted _ _ = true from rfl)]
              exact wp_load_ln _ rfl lb X f9 (ev_tmp e7) (by rw [H.glob.1 n6]; exact HB9.out.drew) (hK _ _ trivial rfl H.glob)
            case o6 =>
              intro L vs A W H hf hd K hK
              have e79 := H.is 3 79 rfl rfl rfl (deps_of' hd 3 (by kernel_rfl)) (by kernel_rfl)
              have e80 := H.is 4 80 rfl rfl rfl (deps_of' hd 4 (by kernel_rfl)) (by kernel_rfl)
              have e81 := H.is 5 81 rfl rfl rfl (deps_of' hd 5 (by kernel_rfl)) (by kernel_rfl)
              have hW := H.glob.1 hf
              obtain ⟨w8, hrun, ho8, hg8⟩ := HU7.out
              subst hW
              go_simp
              exact hK undef _ trivial trivial ⟨fun e => (by cases e), fun _ => ⟨ho8, hg8⟩⟩
            case he =>
              intro vs W hlen hv
              match vs, hlen, hv with
              | [x0_, x1_, x2_, x3_, x4_, x5_, x6_], _, hv =>
              obtain rfl : (.pointer (some ⟨mb, 0, none⟩)) = x0_ := by obtain ⟨z, h1, h2⟩ := hv 0 _ rfl; cases h1; exact h2.symm
              obtain rfl : (.pointer (some ⟨mb, 0, none⟩)) = x1_ := by obtain ⟨z, h1, h2⟩ := hv 1 _ rfl; cases h1; exact h2.symm
              obtain rfl : (.pointer (some ⟨mb, 2, none⟩)) = x2_ := by obtain ⟨z, h1, h2⟩ := hv 2 _ rfl; cases h1; exact h2.symm
              obtain rfl : (.map (some ml)) = x3_ := by obtain ⟨z, h1, h2⟩ := hv 3 _ rfl; cases h1; exact h2.symm
              obtain rfl : (.int .u64 at_) = x4_ := by obtain ⟨z, h1, h2⟩ := hv 4 _ rfl; cases h1; exact h2.symm
              obtain rfl : (.agg (lnCells X f9)) = x5_ := by obtain ⟨z, h1, h2⟩ := hv 5 _ rfl; cases h1; exact h2.symm
              intro L hall hG
              clear hv hlen
              have HW := Lib.hid (hG.2 (hall 6 (by decide)))
              clear hG hall
              simp only [fill, if_true]
            --END
              simp [Act.put]
              go_wp2_with (fail)
              go_ret
              have kU : Keeps (fun i => i = ml) wr W := ((Keeps.refl (fun i => i = ml) wr).drew).grown HW.out.2 (fun k e => .inl (Option.some.inj e).symm)
              have kAll : Keeps (fun i => i = ml ∨ vi.ownBlock = some i ∨ w.heap.size ≤ i) w W := (HKW.out.mono (fun i _ h => by rcases h with h | h; exact .inr (.inl h); exact .inr (.inr h))).trans (kU.mono (fun i _ h => .inl h))
              have hdn : ¬ l.drop k.toNat = [] := by
                rw [HTk.out.2]
                intro e
                have := congrArg List.length e
                rw [List.length_drop] at this
                simp at this
                omega
              unfold LastQ
              rw [hl9]
              refine ⟨by rw [HMin.out]; rfl, X, fun c => max (f0 c - (j : Int)) 0, D', ?_, fun c => by rw [if_neg hdn, HMin.out, HF0.out], kAll, fun i hi => (by rw [← HX.out] at hi; rw [HS0.out]; exact hi), fun b => ?_⟩
              rotate_left 1
              · rw [← HD9.out]
                by_cases hb : b = at_
                · rw [if_pos hb, hb, has_put_same HIm.out (show WideAt.IsKeyLit (.int .u64 at_) from trivial)]
                  exact (decide_eq_true hdn).symm
                · rw [if_neg hb, has_put_other (by intro e; cases e; exact hb rfl)]
              rw [HTk.out.1, HTk.out.2]
              refine last_doneQ HH.out (HM9.out.kept kU (fun i hi e => by
                subst e
                rcases hi with h | h | h
                · exact HH.out.x.1 h
                · exact HH.out.x.2.1 h
                · exact HH.out.x.2.2 h)) HW.out.1 (by
                  unfold hasL
                  rw [← HD9.out, atKey_put_same HIm.out (show WideAt.IsKeyLit (.int .u64 at_) from trivial), ← HF9.out]
                  rw [lnCells_congr X (f := mkM f0 (j : Int) 65) (g := fun c => max (f0 c - (j : Int)) 0) (fun i hi => by unfold mkM; rw [if_pos hi])]) (fun a z hne => by
                  rw [← HD9.out]
                  exact atKey_put_other (by intro e; cases e; exact hne rfl) _ z) kAll (HR9.out.keeps kU (fun i hi e => by
                  exact (HH.out.ap at_ i (by rw [HS0.out]; rw [← HX.out] at hi; exact hi)).2.1 e)) (fun i hi => by
                  rw [← HX.out] at hi
                  rw [HS0.out]
                  exact hi)
end Go.Proofs.Ytefgahcadfmmoaa
namespace Go.Proofs.Ytefgahcadfmmoaa
open Go.RowKit Go.Maps Go.Shelf
attribute [local go_sem] Oper.semAt_some
set_option linter.unusedVariables false

theorem MemQ.keysF {w : World} {N0 mb : Nat} {vs is : List Int} {vv vi : Value} {ml n : Nat} {D : DataW Value} {sl : Int → Value} {mk : Int → Nat → Int} {F : Int → List (Int × Int)} {lo st fl fe : Int}
    (h : MemQ w N0 mb vs is vv vi ml n D sl mk F lo st fl fe) (hh : ∀ a, Maps.has D (.int .u64 a) = true → F a ≠ []) {xs : List Int} (hk : KeysOf D xs) : KeysF F xs := by
  refine ⟨hk.1, fun a => (hk.2.1 a).trans ⟨hh a, fun hne => ?_⟩, fun a ha => u64_bounds (hk.2.2 a ha)⟩
  cases hq : Maps.has D (.int .u64 a) with
  | true => rfl
  | false => exact absurd (hasL_none (h.e a) (h.r a) hq).1 hne
/-- a memory of which, since a crash began, so many stores of each line have lasted -/
structure MemY (w : World) (N0 mb : Nat) (vs is : List Int) (vv vi : Value) (ml n : Nat) (lo st fl fe : Int) (is0 : List Int) (F0 : Int → List (Int × Int)) (q : Int → Nat) : Prop where
  c : ∃ D sl mk, MemQ w N0 mb vs is vv vi ml n D sl mk (fun a => (F0 a).drop (q a)) lo st fl fe ∧ (∀ a c, 0 ≤ mk a c ∧ mk a c ≤ 1000000)
  l : is.length = is0.length
  e : ∀ k, is.getD k 0 = (lastIm is0 ((F0 (lnW k)).take (q (lnW k)))).getD k 0
  f : LnOk F0 is0.length ∧ ∀ a, (F0 a).length ≤ 1000000
theorem MemY.last {w : World} {N0 mb : Nat} {vs is : List Int} {vv vi : Value} {ml n : Nat} {lo st fl fe : Int} {is0 : List Int} {F0 : Int → List (Int × Int)} {q : Int → Nat} (h : MemY w N0 mb vs is vv vi ml n lo st fl fe is0 F0 q) (hN0 : N0 ≤ w.heap.size) (hni : is0.length ≤ 1000000) (hn : n ≤ 1000000)
    (at_ : Int) (k : Nat) (h0 : 0 ≤ at_) (h1 : at_ ≤ 18446744073709551615) (hk1 : (k : Int) ≤ 9223372036854775807) :
    Calls Try.prog 36 #[.pointer (some ⟨mb, 0, none⟩), .int .u64 at_, .int .i64 k] w fun e w' => (∃ j, e = .returned (.int .i64 j)) ∧ (∃ is', MemY w' N0 mb vs is' vv vi ml (n + 1) lo st fl fe is0 F0 (fun a => if a = at_ then q a + k else q a)) ∧ Keeps (fun i => i = ml ∨ vi.ownBlock = some i ∨ w.heap.size ≤ i) w w' := by
  obtain ⟨⟨D, sl, mk, hc, hm⟩, hl, he, hok, hf⟩ := h
  refine (mlast_q w N0 mb vs is vv vi ml n D sl mk (fun a => (F0 a).drop (q a)) lo st fl fe hc hN0 (by omega) at_ h0 h1 k (by omega) hk1 hn (by rw [List.length_drop]; have := hf at_; omega) (hm at_) (fun p hp => by have := hok at_ p (List.mem_of_mem_drop hp); rw [hl]; exact this.2)).mono ?_
  rintro e w' ⟨he', s', f', D', hc', hf', hk', _, _⟩
  rw [Int.toNat_natCast] at hc' hf'
  have hF : updF (fun a => (F0 a).drop (q a)) at_ (((F0 at_).drop (q at_)).drop k) = fun a => (F0 a).drop (if a = at_ then q a + k else q a) := by
    funext a
    unfold updF
    split
    · rename_i e; rw [e, List.drop_drop]
    · rfl
  rw [hF] at hc'
  refine ⟨⟨_, he'⟩, ⟨_, ⟨⟨D', _, _, hc', fun a c => ?_⟩, (lastIm_len _ _).trans hl, fun i => ?_, hok, hf⟩⟩, hk'⟩
  · by_cases e : a = at_
    · simp only [if_pos e, hf' c]
      split
      · omega
      · have := hm at_ c; omega
    · simp only [if_neg e]; exact hm a c
  · by_cases e : lnW i = at_
    · rw [if_pos e, e, List.take_add, lastIm_appX]
      refine lastIm_congr i _ _ _ (by rw [lastIm_len, hl]) ?_
      have := he i
      rwa [e] at this
    · rw [if_neg e, lastIm_other i _ _ (fun p hp e2 => e (by rw [← e2]; exact hok.word (List.mem_of_mem_drop (List.mem_of_mem_take hp))))]
      exact he i
theorem MemY.keeps {S : Nat → Prop} {w w' : World} {N0 mb : Nat} {vs is : List Int} {vv vi : Value} {ml n : Nat} {lo st fl fe : Int} {is0 : List Int} {F0 : Int → List (Int × Int)} {q : Int → Nat} (h : MemY w N0 mb vs is vv vi ml n lo st fl fe is0 F0 q) (hk : Keeps S w w')
    (hs : ∀ i, (i = mb ∨ i = ml ∨ vv.ownBlock = some i ∨ vi.ownBlock = some i) → ¬ S i) (hr : ∀ i, (∃ cs, w.heap[i]? = some (.cells cs 25 (0, 0))) → ¬ S i) : MemY w' N0 mb vs is vv vi ml n lo st fl fe is0 F0 q := by
  obtain ⟨⟨D, sl, mk, hc, r⟩, u1, u2, u3⟩ := h
  refine ⟨⟨D, sl, mk, ⟨hc.m.kept hk (fun i hi => hs i (by rcases hi with h | h | h; exact .inl h; exact .inr (.inr (.inl h)); exact .inr (.inr (.inr h)))), ownL_keeps hc.o hk (hs ml (.inr (.inl rfl))), hc.e, fun a => (hc.r a).keeps hk (fun i hi => ?_), hc.d, hc.lt, hc.x, hc.xv, hc.ap⟩, r⟩, u1, u2, u3⟩
  refine hr i ?_
  rcases hc.r a with h | ⟨g, o, cs, e, _, _, hh, _⟩
  · obtain ⟨C, hC⟩ := own_type h hi
    exact ⟨C, hC⟩
  · rw [e] at hi; cases hi
    exact ⟨cs, hh⟩
theorem MemY.mono {w : World} {N0 mb : Nat} {vs is : List Int} {vv vi : Value} {ml n n' : Nat} {lo st fl fe : Int} {is0 : List Int} {F0 : Int → List (Int × Int)} {q q' : Int → Nat} (h : MemY w N0 mb vs is vv vi ml n lo st fl fe is0 F0 q) (hn : n ≤ n') (hq : q = q') : MemY w N0 mb vs is vv vi ml n' lo st fl fe is0 F0 q' := by
  subst hq
  obtain ⟨⟨D, sl, mk, hc, r⟩, u1, u2, u3⟩ := h
  exact ⟨⟨D, sl, mk, ⟨hc.m, hc.o.mono hn, hc.e, hc.r, hc.d, hc.lt, hc.x, hc.xv, hc.ap⟩, r⟩, u1, u2, u3⟩
theorem MemY.lt {w : World} {N0 mb : Nat} {vs is : List Int} {vv vi : Value} {ml n : Nat} {lo st fl fe : Int} {is0 : List Int} {F0 : Int → List (Int × Int)} {q : Int → Nat} (h : MemY w N0 mb vs is vv vi ml n lo st fl fe is0 F0 q) : ∀ i, i = mb ∨ i = ml ∨ vv.ownBlock = some i ∨ vi.ownBlock = some i → i < N0 := by
  obtain ⟨⟨D, sl, mk, hc, r⟩, hu⟩ := h
  exact hc.lt
/-- what stays through a crash's rounds -/
structure CrJ (w2 : World) (N0 mb : Nat) (vs : List Int) (vv vi : Value) (ml n : Nat) (lo st fl fe : Int) (pb kb : Nat) (p : Option Addr) (cK : Nat) (ks : List Int) (is0 : List Int) (F0 : Int → List (Int × Int)) (zs : List Int) (pre : List (Fin zs.length)) (W : World) : Prop where
  m : ∃ is', MemY W N0 mb vs is' vv vi ml (n + pre.length) lo st fl fe is0 F0 (foldQ F0 ks zs pre)
  pb : Blk W pb #[.pointer (some ⟨mb, 0, none⟩)] 26
  kb : Blk W kb #[.slice p ks.length cK] 55
  ka : 0 < ks.length → ∃ g o, p = some ⟨g, o, none⟩ ∧ g < w2.heap.size ∧ g ≠ ml ∧ vi.ownBlock ≠ some g ∧ ∀ i, i < ks.length → W.cell? ⟨g, o + i, none⟩ = some (.int .i64 (ks.getD i 0))
  sz : w2.heap.size ≤ W.heap.size
  kp : Keeps (fun i => i = ml ∨ vi.ownBlock = some i ∨ w2.heap.size ≤ i) w2 W
/-- what a crash leaves -/
def CrashY (w : World) (mb : Nat) (is : List Int) (F0 : Int → List (Int × Int)) (ks : List Int) (vi : Value) (ml : Nat) (lo st fl fe : Int) (e : Ending) (w' : World) : Prop :=
  e = .returned (.tuple #[]) ∧ ∃ isF vvF xs, KeysF F0 xs ∧ isF.length = is.length ∧ (∀ k, isF.getD k 0 = (lastIm is ((F0 (lnW k)).take (foldQ F0 ks (srt xs) (List.finRange (srt xs).length) (lnW k)))).getD k 0) ∧
    MemB w' mb isF isF vvF vi ml lo st fl fe ∧ OwnL w' ml 0 (.map []) ∧ (∀ i, vvF.ownBlock = some i → w.heap.size ≤ i) ∧ Keeps (fun i => i = mb ∨ i = ml ∨ vi.ownBlock = some i ∨ w.heap.size ≤ i) w w'
set_option maxRecDepth 100000 in
set_option maxHeartbeats 40000000 in
theorem crash_q (w : World) (N0 mb : Nat) (vs is : List Int) (vv vi : Value) (ml n : Nat) (D : DataW Value) (sl : Int → Value) (mk : Int → Nat → Int) (F0 : Int → List (Int × Int)) (lo st fl fe : Int) (hc : MemQ w N0 mb vs is vv vi ml n D sl mk F0 lo st fl fe)
    (hmk : ∀ a c, 0 ≤ mk a c ∧ mk a c ≤ 1000000) (hok : LnOk F0 is.length) (hF : ∀ a, (F0 a).length ≤ 1000000) (hh : ∀ a, Maps.has D (.int .u64 a) = true → F0 a ≠ []) (hN0 : N0 ≤ w.heap.size) (hp : 0 < vs.length) (hni : is.length ≤ 1000000) (hn : n ≤ 1000)
    (p : Option Addr) (cK : Nat) (ks : List Int) (hks : ks.length ≤ 1000) (hk64 : ∀ x ∈ ks, -9223372036854775808 ≤ x ∧ x ≤ 9223372036854775807)
    (hkat : 0 < ks.length → ∃ g o, p = some ⟨g, o, none⟩ ∧ g < w.heap.size ∧ g ≠ ml ∧ vi.ownBlock ≠ some g ∧ ∀ i, i < ks.length → w.cell? ⟨g, o + i, none⟩ = some (.int .i64 (ks.getD i 0))) :
    CallsIn Fence.wide 9 Try.prog 23 #[.pointer (some ⟨mb, 0, none⟩), .slice p ks.length cK] w (CrashY w mb is F0 ks vi ml lo st fl fe) := by
  have h : MemY w N0 mb vs is vv vi ml n lo st fl fe is F0 (fun _ => 0) := ⟨⟨D, sl, mk, by simpa using hc, hmk⟩, rfl, fun k => by simp [lastIm], hok, hF⟩
  refine callsIn_of_wp_marks Try.func23 rfl trivial ?_ rfl
  simp only [Try.ntmps23, List.size_toArray, List.length_cons, List.length_nil, Nat.reduceAdd, Nat.reduceSub, Array.replicate_succ, Array.replicate_zero, List.push_toArray, List.append_toArray, List.nil_append, List.cons_append]
  have hW1 : Below w.heap.size w ((w.alloc (.cells #[.pointer (some ⟨mb, 0, none⟩)] 26)).alloc (.cells #[.slice p ks.length cK] 55)) := ((Below.refl _ _).alloc (Nat.le_refl _) _).alloc (by simp) _
  have HTh := Lib.hid (mthere_v _ mb vs is vv vi ml lo st fl fe (hc.m.below hW1) hp)
  have HRi := Lib.hid (rising_v _ mb ml n D (by omega) ((hc.m.below hW1).c 2) (ownL_keeps hc.o (Keeps.of_below' hW1) (fun h => h)))
  have HH := Lib.hid h
  have HCk := Lib.hid hc
  have HHas := Lib.hid hh
  have HKa := Lib.hid hkat
  have HW1 := Lib.hid hW1
  clear h hkat hc hW1 hmk hok hF hh
  gi_wp2_with (first
    | (refine ⟨trivial, ?_⟩; gi_at_call 32; refine (callsIn_wide.2 HTh.out).mono ?_; rintro e w' ⟨rfl, rfl⟩)
    | (refine ⟨trivial, ?_⟩; gi_at_call 34; refine (callsIn_wide.2 HRi.out).mono ?_; rintro e w' ⟨b, g, v, xs, rfl, hks, hxl, hbv, hrg, hg0, hb0, hB⟩))
  have hxl2 : (srt xs).length ≤ n := by rw [srt_len]; exact hxl
  have HKs := Lib.hid hks
  obtain ⟨zs, hzs⟩ : ∃ zs, srt xs = zs := ⟨_, rfl⟩
  rw [hzs] at hrg hxl2
  have HZs := Lib.hid hzs
  have HI0 := Lib.hid (show CrJ w' N0 mb vs vv vi ml n lo st fl fe w.heap.size (w.heap.size + 1) p cK ks is F0 zs [] w' from by
    have hBw : Below w.heap.size w w' := HW1.out.trans (hB.mono HW1.out.size)
    refine ⟨⟨is, HH.out.keeps (Keeps.of_below' hBw) (fun _ _ h => h) (fun _ _ h => h)⟩, ?_, ?_, fun h0 => ?_, Nat.le_refl _, Keeps.refl _ _⟩
    · exact ((Blk.new w #[.pointer (some ⟨mb, 0, none⟩)] 26).alloc _).kept (Keeps.of_below' hB) (fun h => h)
    · have := Blk.new (w.alloc (.cells #[.pointer (some ⟨mb, 0, none⟩)] 26)) #[.slice p ks.length cK] 55
      rw [show (w.alloc (.cells #[.pointer (some ⟨mb, 0, none⟩)] 26)).heap.size = w.heap.size + 1 by simp] at this
      exact this.kept (Keeps.of_below' hB) (fun h => h)
    · obtain ⟨g9, o9, e9, h1, h2, h3, h4⟩ := HKa.out h0
      exact ⟨g9, o9, e9, Nat.lt_of_lt_of_le h1 hBw.size, h2, h3, fun i hi => (hBw.cell (p := ⟨g9, o9 + i, none⟩) h1).trans (h4 i hi)⟩)
  have hsz1 : w.heap.size + 2 ≤ w'.heap.size := by have := hB.size; simp at this; omega
  have hgl : g < w'.heap.size := hrg.lt
  have hg2 : w.heap.size + 2 ≤ g := by simp at hg0; omega
  clear hks hxl hg0 hb0 hzs
  refine wpIn_rangeFunc_ownG rfl (by omega) (gf := 53) (lb := #[.pointer (some ⟨b, 0, none⟩)]) (by simp [Act.eval]) trivial (enters_of Try.func53 (by kernel_rfl) rfl)
    (all_stops 8 (by omega) v zs b g w' (by omega) hbv hrg) kpG_t (kpG_b hgl) (Below.refl _ _) (fun _ => rfl)
    (fun pre W => CrJ w' N0 mb vs vv vi ml n lo st fl fe w.heap.size (w.heap.size + 1) p cK ks is F0 zs pre W)
    (fun _ _ _ => False)
    (fun s A B row hs hg hr => by
      have hk : Keeps (fun i => row = some i) A B := (Keeps.refl _ A).grown hg (fun k e => .inl e)
      obtain ⟨⟨is', hm⟩, h1, h2, h3, h4, h5⟩ := hs
      refine ⟨⟨is', hm.keeps hk (fun i hi e => by have := hm.lt i hi; have := (hr i e).1; omega) (fun i ⟨cs, hcs⟩ e => by obtain ⟨_, o, ho, hc⟩ := hr i e; rw [hcs] at ho; cases ho; cases hc)⟩, h1.kept hk (fun e => by have := (hr _ e).1; omega), h2.kept hk (fun e => by have := (hr _ e).1; omega), fun h0 => ?_, Nat.le_trans h4 hg.size, h5.trans (hk.mono (fun i _ e => .inr (.inr (hr i e).1)))⟩
      obtain ⟨g9, o9, e9, q1, q2, q3, q4⟩ := h3 h0
      exact ⟨g9, o9, e9, q1, q2, q3, fun i hi => (hk.cell (p := ⟨g9, o9 + i, none⟩) (Nat.lt_of_lt_of_le q1 h4) (fun e => by have := (hr _ e).1; simp at this; omega)).trans (q4 i hi)⟩)
    (fun _ _ _ _ _ hs _ _ => hs)
    HI0.out
    (fun x => { tmps := #[.pointer (some ⟨mb, 0, none⟩), .slice p ks.length cK, .pointer (some ⟨w.heap.size, 0, none⟩), .pointer (some ⟨w.heap.size + 1, 0, none⟩), .int .i64 x.val, .int .u64 (zs.getD x.val 0), .pointer (some ⟨mb, 0, none⟩), .bool true, .bool false, .pointer (some ⟨mb, 0, none⟩), .func (.func 53) #[] #[.pointer (some ⟨b, 0, none⟩)], .int .i64 x.val, .int .u64 (zs.getD x.val 0), undef, undef, undef, undef, undef, undef, undef, undef, undef, undef, undef, undef, undef, undef, undef, undef, undef, undef, undef, undef, undef, undef, undef, undef, undef, undef, undef, undef, undef, undef, undef, undef, undef, undef, undef, undef], defers := [] }) ?assign ?body ?done ?stop
  case assign =>
    intro l x W K hK
    revert hK
    dsimp only [encP]
    generalize zs.getD x.val 0 = z
    intro hK
    simp
    gi_wp2
    exact hK
  case body =>
    rintro l2 pre x Wb hI hlen
    obtain ⟨⟨is', hm⟩, hpb, hkb, hka, hsz, hkp⟩ := hI
    obtain ⟨xi, hxi⟩ : ∃ xi : Int, (x.val : Int) = xi := ⟨_, rfl⟩
    obtain ⟨at_, hat⟩ : ∃ a, zs.getD x.val 0 = a := ⟨_, rfl⟩
    have hxlt := x.isLt
    have hatw : 0 ≤ at_ ∧ at_ ≤ 18446744073709551615 := by
      have hmem : at_ ∈ srt xs := by rw [HZs.out, ← hat, List.getD_eq_getElem?_getD, List.getElem?_eq_getElem hxlt]; exact List.getElem_mem _
      exact u64_bounds (HKs.out.2.2 at_ ((srt_mem xs at_).1 hmem))
    dsimp only
    rw [hxi, hat]
    obtain ⟨pb, hpb0⟩ : ∃ pb, w.heap.size = pb := ⟨_, rfl⟩
    obtain ⟨kb, hkb0⟩ : ∃ kb, w.heap.size + 1 = kb := ⟨_, rfl⟩
    rw [hkb0] at hkb ⊢
    rw [hpb0] at hpb ⊢
    have d3 : Wb.cell? ⟨kb, 0, none⟩ = some (.slice p ks.length cK) := hkb.cell 0
    have d2 : Wb.cell? ⟨pb, 0, none⟩ = some (.pointer (some ⟨mb, 0, none⟩)) := hpb.cell 0
    by_cases hz : ks.length = 0
    · have hz2 : ¬ (0 : Int) < (ks.length : Int) := by omega
      have HGoal := Lib.hid (show CrJ w' N0 mb vs vv vi ml n lo st fl fe pb kb p cK ks is F0 zs (pre ++ [x]) Wb from ⟨⟨is', hm.mono (by rw [List.length_append]; omega) (by rw [foldQ_snoc]; funext a; unfold stepQ kkN; rw [if_pos hz]; simp)⟩, hpb, hkb, hka, hsz, hkp⟩)
      clear hm hpb hkb hka hkp
      gi_wp2_with (fail)
      exact ⟨KeepsFrom.refl _ _, ⟨Nat.le_refl _, fun _ => rfl⟩, HGoal.out⟩
    · have hz2 : (0 : Int) < (ks.length : Int) := by omega
      obtain ⟨gk, ok, rfl, hk1, hk2, hk3, hk4⟩ := hka (by omega)
      obtain ⟨nk, hnk⟩ : ∃ nk, ks.length = nk := ⟨_, rfl⟩
      rw [hnk] at d3 hz2 hk4 hkb hks ⊢
      have hxi0 : 0 ≤ xi := by omega
      obtain ⟨q, hq⟩ : ∃ q : Nat, xi.tmod nk = (q : Int) := ⟨(xi.tmod nk).toNat, by have := Int.tmod_nonneg (nk : Int) hxi0; omega⟩
      have hqn : q < nk := by have := Int.tmod_lt_of_pos xi hz2; omega
      have HQ := Lib.hid (show xi.tmod nk = (q : Int) ∧ ¬ nk = 0 ∧ (q : Int) < (nk : Int) from ⟨hq, by omega, by omega⟩)
      obtain ⟨kv, hkv⟩ : ∃ kv, ks.getD q 0 = kv := ⟨_, rfl⟩
      have hkr : -9223372036854775808 ≤ kv ∧ kv ≤ 9223372036854775807 := by
        rw [← hkv, List.getD_eq_getElem?_getD, List.getElem?_eq_getElem (by omega)]
        exact hk64 _ (List.getElem_mem _)
      obtain ⟨mx, hmx⟩ : ∃ mx, max kv 0 = mx := ⟨_, rfl⟩
      have HMx := Lib.hid (show (if kv ≤ 0 then 0 else kv) = mx ∧ (if 0 ≤ kv then kv else 0) = mx ∧ (if kv < 0 then 0 else kv) = mx ∧ (if 0 < kv then kv else 0) = mx ∧ max kv 0 = mx from ⟨by rw [← hmx]; split <;> omega, by rw [← hmx]; split <;> omega, by rw [← hmx]; split <;> omega, by rw [← hmx]; split <;> omega, hmx⟩)
      obtain ⟨D2, sl2, mk2, hc2, _⟩ := hm.c
      have hf2 := hm.f
      obtain ⟨a9, c9, hform, hlc9, _⟩ := (hc2.r at_).form
      have hl9m := hf2.2 at_
      obtain ⟨l9, hl9⟩ : ∃ l9, ((F0 at_).drop (foldQ F0 ks zs pre at_)).length = l9 := ⟨_, rfl⟩
      have hl9b : l9 = (F0 at_).length - foldQ F0 ks zs pre at_ := by rw [← hl9, List.length_drop]
      obtain ⟨f9, hf9⟩ : ∃ f9, mk2 at_ = f9 := ⟨_, rfl⟩
      have hE := hc2.e at_
      rw [hform, hl9, hf9] at hE
      have hdr : Below Wb.heap.size Wb Wb.drew := (Below.refl _ _).drew
      have HFl := Lib.hid (lnCells_0 (.slice a9 l9 c9) f9)
      obtain ⟨kk, hkk⟩ : ∃ kk, mx.tmod ((l9 : Int) + 1) = kk := ⟨_, rfl⟩
      have hkk0 : 0 ≤ kk ∧ kk ≤ 9223372036854775807 := by
        have h1 := Int.tmod_nonneg ((l9 : Int) + 1) (show 0 ≤ mx by omega)
        have h2 := Int.tmod_lt_of_pos mx (show (0 : Int) < (l9 : Int) + 1 by omega)
        omega
      have HRm := Lib.hid (show IntKind.i64.wrap ((l9 : Int) + 1) = (l9 : Int) + 1 ∧ mx.tmod ((l9 : Int) + 1) = kk ∧ ¬ (l9 : Int) + 1 = 0 from ⟨IntWalk.i64_in _ (by omega), hkk, by omega⟩)
      have HC := Lib.hid (show Wb.drew.cell? ⟨pb, 0, none⟩ = some (.pointer (some ⟨mb, 0, none⟩)) ∧ Wb.drew.cell? ⟨kb, 0, none⟩ = some (.slice (some ⟨gk, ok, none⟩) nk cK) ∧ Wb.drew.cell? ⟨gk, ok + q, none⟩ = some (.int .i64 kv) ∧ Wb.drew.cell? ⟨mb, 2, none⟩ = some (.map (some ml)) ∧ (Instr.lookup 72 (.map (some ml)) (.int .u64 at_) false).run Try.prog Wb.drew = .ok (.agg (lnCells (.slice a9 l9 c9) f9)) Wb.drew from
        ⟨d2, d3, by rw [← hkv]; exact hk4 q hqn, hc2.m.c 2, own_look (hc2.o.drew) at_ hatw.1 hatw.2 hE⟩)
      have hmd : MemY Wb.drew N0 mb vs is' vv vi ml (n + pre.length) lo st fl fe is F0 (foldQ F0 ks zs pre) := hm.keeps (Keeps.of_below' hdr) (fun _ _ h => h) (fun _ _ h => h)
      obtain ⟨PoW, hPoW⟩ : ∃ P : World → Prop, P = fun W' => KeepsFrom w'.heap.size Wb W' ∧ KpG g Wb W' ∧ CrJ w' N0 mb vs vv vi ml n lo st fl fe pb kb (some ⟨gk, ok, none⟩) cK ks is F0 zs (pre ++ [x]) W' := ⟨_, rfl⟩
      have HLa := Lib.hid (show Calls Try.prog 36 #[.pointer (some ⟨mb, 0, none⟩), .int .u64 at_, .int .i64 kk] Wb.drew fun e W' => ∃ j9, e = .returned (.int .i64 j9) ∧ PoW W' from by
        obtain ⟨kn, hkn⟩ : ∃ kn : Nat, kk = (kn : Int) := ⟨kk.toNat, by omega⟩
        have hkN : kn = kkN ks x.val l9 := by
          have e1 : q = x.val % nk := by
            have h1 := hq
            rw [← hxi, Int.tmod_eq_emod_of_nonneg (by omega)] at h1
            omega
          have e2 : mx.tmod ((l9 : Int) + 1) = mx % ((l9 : Int) + 1) := Int.tmod_eq_emod_of_nonneg (by omega)
          rw [hkn, e2] at hkk
          unfold kkN
          rw [if_neg (by omega), hnk, ← e1, hkv, hmx]
          have h3 : (mx.toNat : Int) = mx := by omega
          have h4 : ((mx.toNat % (l9 + 1) : Nat) : Int) = mx % ((l9 : Int) + 1) := by rw [Int.natCast_emod, h3]; rfl
          omega
        rw [hkn]
        refine (hmd.last (by have := hsz; show N0 ≤ Wb.heap.size; omega) hni (by omega) at_ kn hatw.1 hatw.2 (by omega)).mono ?_
        rintro e W' ⟨⟨j9, rfl⟩, ⟨is2, hm2⟩, hk9⟩
        have hQ : (fun a => if a = at_ then foldQ F0 ks zs pre a + kn else foldQ F0 ks zs pre a) = foldQ F0 ks zs (pre ++ [x]) := by
          rw [foldQ_snoc]
          funext a
          unfold stepQ
          rw [hat]
          split
          · rename_i e
            rw [e, hkN, hl9b]
          · rfl
        refine ⟨j9, rfl, ?_⟩
        have hlt := hm.lt
        have hk : Keeps (fun i => i = ml ∨ vi.ownBlock = some i ∨ Wb.heap.size ≤ i) Wb W' := ((Keeps.refl _ Wb).drew).trans hk9
        have hvc : ∀ i, vi.ownBlock = some i → ∃ C : Array Value, Wb.heap[i]? = some (.cells C 22 (0, 0)) := fun i hi => own_type hc2.m.i hi
        have hkb2 := hkb
        rw [← hnk] at hkb2
        rw [hPoW]
        refine ⟨⟨hk.size, fun i o hB ho hc => ?_⟩, ⟨hk.size, fun hg9 => ?_⟩, ⟨⟨is2, hm2.mono (by rw [List.length_append]; simp; omega) hQ⟩, hpb.kept hk ?_, hkb2.kept hk ?_, fun h0 => ⟨gk, ok, rfl, hk1, hk2, hk3, fun i hi => ?_⟩, Nat.le_trans hsz hk.size, hkp.trans (hk.mono (fun i _ h => ?_))⟩⟩
        · rw [hk.block i (Array.getElem?_eq_some_iff.1 ho).1 ?_]
          · exact ho
          · have hi := (Array.getElem?_eq_some_iff.1 ho).1
            rintro (h | h | h)
            · have := hlt i (.inr (.inl h)); omega
            · obtain ⟨C, hC⟩ := hvc i h
              rw [hC] at ho; cases ho; cases hc
            · omega
        · exact hk.block g hg9 (by
            rintro (h | h | h)
            · have := hlt g (.inr (.inl h)); omega
            · have := hlt g (.inr (.inr (.inr h))); omega
            · omega)
        · rintro (h | h | h)
          · have := hlt pb (.inr (.inl h)); omega
          · have := hlt pb (.inr (.inr (.inr h))); omega
          · have := hpb.lt; omega
        · rintro (h | h | h)
          · have := hlt kb (.inr (.inl h)); omega
          · have := hlt kb (.inr (.inr (.inr h))); omega
          · have := hkb.lt; omega
        · exact (hk.cell (p := ⟨gk, ok + i, none⟩) (Nat.lt_of_lt_of_le hk1 hsz) (by
            rintro (h | h | h)
            · exact hk2 h
            · exact hk3 h
            · have : gk < Wb.heap.size := Nat.lt_of_lt_of_le hk1 hsz
              exact absurd h (by simp; omega))).trans (hk4 i (by rw [← hnk]; exact hi))
        · rcases h with h | h | h
          · exact .inl h
          · exact .inr (.inl h)
          · exact .inr (.inr (Nat.le_trans hsz h)))
      have HPo := Lib.hid hPoW
      clear hm hpb hkb hkp hk4 hc2 hf2 hl9b hform hE hmd hPoW hq hkv hmx hkk hl9 hf9 d2
      gi_wp2_with (fail)
      --GEN r_cr6
      refine wpIn_region_valsA [Is (.pointer (some ⟨mb, 0, none⟩)), Is (.int .u64 at_), Is (.slice (some ⟨gk, ok, none⟩) nk cK), Is (.int .i64 xi), Is (.slice (some ⟨gk, ok, none⟩) nk cK), Is (.int .i64 (nk : Int)), Is (.int .i64 (q : Int)), Is (.pointer (some ⟨gk, ok + q, none⟩)), Is (.int .i64 kv), Is (.int .i64 mx), Is (.pointer (some ⟨mb, 0, none⟩)), Is (.pointer (some ⟨mb, 0, none⟩)), Is (.pointer (some ⟨mb, 2, none⟩)), Is (.map (some ml)), Is (.int .u64 at_), Is (.agg (lnCells (.slice a9 l9 c9) f9)), Is (.slice a9 l9 c9), Is (.int .i64 (l9 : Int)), Is (.int .i64 ((l9 : Int) + 1)), Is (.int .i64 kk), Any]
        (fun _ _ _ => True) (fun L _ W => (L 20 = false → W = Wb.drew) ∧ (L 20 = true → PoW W)) (by kernel_rfl) (by kernel_rfl) (by kernel_rfl) (by kernel_rfl) (by kernel_rfl) ?hst ?h0 ⟨?o0, ?o1, ?o2, ?o3, ?o4, ?o5, ?o6, ?o7, ?o8, ?o9, ?o10, ?o11, ?o12, ?o13, ?o14, ?o15, ?o16, ?o17, ?o18, ?o19, ?o20, trivial⟩ ?he
      case hst =>
        exact ⟨(fun _ _ _ _ _ _ h _ => h), (fun _ _ _ _ _ _ h _ => h), (fun _ _ _ _ _ _ h _ => h), (fun _ _ _ _ _ _ h _ => h), (fun _ _ _ _ _ _ h _ => h), (fun _ _ _ _ _ _ h _ => h), (fun _ _ _ _ _ _ h _ => h), (fun _ _ _ _ _ _ h _ => h), (fun _ _ _ _ _ _ h _ => h), (fun _ _ _ _ _ _ h _ => h), (fun _ _ _ _ _ _ h _ => h), (fun _ _ _ _ _ _ h _ => h), (fun _ _ _ _ _ _ h _ => h), (fun _ _ _ _ _ _ h _ => h), (fun _ _ _ _ _ _ h _ => h), (fun _ _ _ _ _ _ h _ => h), (fun _ _ _ _ _ _ h _ => h), (fun _ _ _ _ _ _ h _ => h), (fun _ _ _ _ _ _ h _ => h), (fun _ _ _ _ _ _ h _ => h), (fun _ _ _ _ _ _ h _ => h), trivial⟩
      case h0 =>
        exact ⟨fun _ => rfl, fun e => by cases e⟩
      case o0 =>
        intro L vs A W H hf hd K hK
        have e2 : A.tmps[2]?.getD undef = .pointer (some ⟨pb, 0, none⟩) := H.old 2 (by kernel_rfl)
        have n20 := H.notYet 20 0 rfl hf (by kernel_rfl)
        have d : W.cell? ⟨pb, 0, none⟩ = some (.pointer (some ⟨mb, 0, none⟩)) := (by rw [H.glob.1 n20]; exact HC.out.1)
        go_simp
        exact hK _ _ (trivial) rfl (H.glob)
      case o1 =>
        intro L vs A W H hf hd K hK
        have e5 : A.tmps[5]?.getD undef = .int .u64 at_ := H.old 5 (by kernel_rfl)
        go_simp
        exact hK _ _ (trivial) rfl (H.glob)
      case o2 =>
        intro L vs A W H hf hd K hK
        have e3 : A.tmps[3]?.getD undef = .pointer (some ⟨kb, 0, none⟩) := H.old 3 (by kernel_rfl)
        have n7 := H.notYet 7 2 rfl hf (by kernel_rfl)
        have n8 := H.notYet 8 7 rfl n7 (by kernel_rfl)
        have n9 := H.notYet 9 8 rfl n8 (by kernel_rfl)
        have n19 := H.notYet 19 9 rfl n9 (by kernel_rfl)
        have n20 := H.notYet 20 19 rfl n19 (by kernel_rfl)
        have d : W.cell? ⟨kb, 0, none⟩ = some (.slice (some ⟨gk, ok, none⟩) nk cK) := (by rw [H.glob.1 n20]; exact HC.out.2.1)
        go_simp
        exact hK _ _ (trivial) rfl (H.glob)
      case o3 =>
        intro L vs A W H hf hd K hK
        have e4 : A.tmps[4]?.getD undef = .int .i64 xi := H.old 4 (by kernel_rfl)
        go_simp
        exact hK _ _ (trivial) rfl (H.glob)
      case o4 =>
        intro L vs A W H hf hd K hK
        have e3 : A.tmps[3]?.getD undef = .pointer (some ⟨kb, 0, none⟩) := H.old 3 (by kernel_rfl)
        have n5 := H.notYet 5 4 rfl hf (by kernel_rfl)
        have n6 := H.notYet 6 5 rfl n5 (by kernel_rfl)
        have n7 := H.notYet 7 6 rfl n6 (by kernel_rfl)
        have n8 := H.notYet 8 7 rfl n7 (by kernel_rfl)
        have n9 := H.notYet 9 8 rfl n8 (by kernel_rfl)
        have n19 := H.notYet 19 9 rfl n9 (by kernel_rfl)
        have n20 := H.notYet 20 19 rfl n19 (by kernel_rfl)
        have d : W.cell? ⟨kb, 0, none⟩ = some (.slice (some ⟨gk, ok, none⟩) nk cK) := (by rw [H.glob.1 n20]; exact HC.out.2.1)
        go_simp
        exact hK _ _ (trivial) rfl (H.glob)
      case o5 =>
        intro L vs A W H hf hd K hK
        have e20 := H.is 4 20 rfl rfl rfl (deps_of' hd 4 (by kernel_rfl)) (by kernel_rfl)
        go_simp
        exact hK _ _ (trivial) rfl (H.glob)
      case o6 =>
        intro L vs A W H hf hd K hK
        have e19 := H.is 3 19 rfl rfl rfl (deps_of' hd 3 (by kernel_rfl)) (by kernel_rfl)
        have e21 := H.is 5 21 rfl rfl rfl (deps_of' hd 5 (by kernel_rfl)) (by kernel_rfl)
        have hq := HQ.out.1
        have hnz := HQ.out.2.1
        go_simp
        exact hK _ _ (trivial) rfl (H.glob)
      case o7 =>
        intro L vs A W H hf hd K hK
        have e18 := H.is 2 18 rfl rfl rfl (deps_of' hd 2 (by kernel_rfl)) (by kernel_rfl)
        have e22 := H.is 6 22 rfl rfl rfl (deps_of' hd 6 (by kernel_rfl)) (by kernel_rfl)
        have hqn := HQ.out.2.2
        go_simp
        exact hK _ _ (trivial) rfl (H.glob)
      case o8 =>
        intro L vs A W H hf hd K hK
        have e23 := H.is 7 23 rfl rfl rfl (deps_of' hd 7 (by kernel_rfl)) (by kernel_rfl)
        have n9 := H.notYet 9 8 rfl hf (by kernel_rfl)
        have n19 := H.notYet 19 9 rfl n9 (by kernel_rfl)
        have n20 := H.notYet 20 19 rfl n19 (by kernel_rfl)
        have d : W.cell? ⟨gk, ok + q, none⟩ = some (.int .i64 kv) := (by rw [H.glob.1 n20]; exact HC.out.2.2.1)
        go_simp
        exact hK _ _ (trivial) rfl (H.glob)
      case o9 =>
        intro L vs A W H hf hd K hK
        have e24 := H.is 8 24 rfl rfl rfl (deps_of' hd 8 (by kernel_rfl)) (by kernel_rfl)
        have hx1 := HMx.out.1
        have hx2 := HMx.out.2.1
        have hx3 := HMx.out.2.2.1
        have hx4 := HMx.out.2.2.2.1
        have hx5 := HMx.out.2.2.2.2
        go_simp
        exact hK _ _ (trivial) rfl (H.glob)
      case o10 =>
        intro L vs A W H hf hd K hK
        have e2 : A.tmps[2]?.getD undef = .pointer (some ⟨pb, 0, none⟩) := H.old 2 (by kernel_rfl)
        have n11 := H.notYet 11 10 rfl hf (by kernel_rfl)
        have n12 := H.notYet 12 11 rfl n11 (by kernel_rfl)
        have n13 := H.notYet 13 12 rfl n12 (by kernel_rfl)
        have n15 := H.notYet 15 13 rfl n13 (by kernel_rfl)
        have n16 := H.notYet 16 15 rfl n15 (by kernel_rfl)
        have n17 := H.notYet 17 16 rfl n16 (by kernel_rfl)
        have n18 := H.notYet 18 17 rfl n17 (by kernel_rfl)
        have n19 := H.notYet 19 18 rfl n18 (by kernel_rfl)
        have n20 := H.notYet 20 19 rfl n19 (by kernel_rfl)
        have d : W.cell? ⟨pb, 0, none⟩ = some (.pointer (some ⟨mb, 0, none⟩)) := (by rw [H.glob.1 n20]; exact HC.out.1)
        go_simp
        exact hK _ _ (trivial) rfl (H.glob)
      case o11 =>
        intro L vs A W H hf hd K hK
        have e26 := H.is 10 26 rfl rfl rfl (deps_of' hd 10 (by kernel_rfl)) (by kernel_rfl)
        go_simp
        exact hK _ _ (trivial) rfl (H.glob)
      case o12 =>
        intro L vs A W H hf hd K hK
        have e27 := H.is 11 27 rfl rfl rfl (deps_of' hd 11 (by kernel_rfl)) (by kernel_rfl)
        go_simp
        exact hK _ _ (trivial) rfl (H.glob)
      case o13 =>
        intro L vs A W H hf hd K hK
        have e28 := H.is 12 28 rfl rfl rfl (deps_of' hd 12 (by kernel_rfl)) (by kernel_rfl)
        have n15 := H.notYet 15 13 rfl hf (by kernel_rfl)
        have n16 := H.notYet 16 15 rfl n15 (by kernel_rfl)
        have n17 := H.notYet 17 16 rfl n16 (by kernel_rfl)
        have n18 := H.notYet 18 17 rfl n17 (by kernel_rfl)
        have n19 := H.notYet 19 18 rfl n18 (by kernel_rfl)
        have n20 := H.notYet 20 19 rfl n19 (by kernel_rfl)
        have d : W.cell? ⟨mb, 2, none⟩ = some (.map (some ml)) := (by rw [H.glob.1 n20]; exact HC.out.2.2.2.1)
        go_simp
        exact hK _ _ (trivial) rfl (H.glob)
      case o14 =>
        intro L vs A W H hf hd K hK
        have e5 : A.tmps[5]?.getD undef = .int .u64 at_ := H.old 5 (by kernel_rfl)
        go_simp
        exact hK _ _ (trivial) rfl (H.glob)
      case o15 =>
        intro L vs A W H hf hd K hK
        have e29 := H.is 13 29 rfl rfl rfl (deps_of' hd 13 (by kernel_rfl)) (by kernel_rfl)
        have e30 := H.is 14 30 rfl rfl rfl (deps_of' hd 14 (by kernel_rfl)) (by kernel_rfl)
        have n16 := H.notYet 16 15 rfl hf (by kernel_rfl)
        have n17 := H.notYet 17 16 rfl n16 (by kernel_rfl)
        have n18 := H.notYet 18 17 rfl n17 (by kernel_rfl)
        have n19 := H.notYet 19 18 rfl n18 (by kernel_rfl)
        have n20 := H.notYet 20 19 rfl n19 (by kernel_rfl)
        have hl : (Instr.lookup 72 (.map (some ml)) (.int .u64 at_) false).run Try.prog W = .ok (.agg (lnCells (.slice a9 l9 c9) f9)) W := (by rw [H.glob.1 n20]; exact HC.out.2.2.2.2)
        go_simp
        exact hK _ _ (trivial) rfl (H.glob)
      case o16 =>
        intro L vs A W H hf hd K hK
        have e31 := H.is 15 31 rfl rfl rfl (deps_of' hd 15 (by kernel_rfl)) (by kernel_rfl)
        have hfl := HFl.out
        go_simp
        exact hK _ _ (trivial) rfl (H.glob)
      case o17 =>
        intro L vs A W H hf hd K hK
        have e32 := H.is 16 32 rfl rfl rfl (deps_of' hd 16 (by kernel_rfl)) (by kernel_rfl)
        go_simp
        exact hK _ _ (trivial) rfl (H.glob)
      case o18 =>
        intro L vs A W H hf hd K hK
        have e33 := H.is 17 33 rfl rfl rfl (deps_of' hd 17 (by kernel_rfl)) (by kernel_rfl)
        have hw9 := HRm.out.1
        go_simp
        exact hK _ _ (trivial) rfl (H.glob)
      case o19 =>
        intro L vs A W H hf hd K hK
        have e25 := H.is 9 25 rfl rfl rfl (deps_of' hd 9 (by kernel_rfl)) (by kernel_rfl)
        have e34 := H.is 18 34 rfl rfl rfl (deps_of' hd 18 (by kernel_rfl)) (by kernel_rfl)
        have hr9 := HRm.out.2.1
        have hz9 := HRm.out.2.2
        go_simp
        exact hK _ _ (trivial) rfl (H.glob)
      case o20 =>
        intro L vs A W H hf hd K hK
        have e16 := H.is 0 16 rfl rfl rfl (deps_of' hd 0 (by kernel_rfl)) (by kernel_rfl)
        have e17 := H.is 1 17 rfl rfl rfl (deps_of' hd 1 (by kernel_rfl)) (by kernel_rfl)
        have e35 := H.is 19 35 rfl rfl rfl (deps_of' hd 19 (by kernel_rfl)) (by kernel_rfl)
        have hW := H.glob.1 hf
        subst hW
        rw [if_pos (show Region.wanted _ _ = true from rfl)]
        gi_wp2_with (fail)
        refine HLa.out.mono ?_
        rintro e w' ⟨j9, rfl, hpo⟩
        exact hK _ _ trivial trivial ⟨fun e => (by cases e), fun _ => hpo⟩
      case he =>
        intro vs W hlen hv
        match vs, hlen, hv with
        | [x0_, x1_, x2_, x3_, x4_, x5_, x6_, x7_, x8_, x9_, x10_, x11_, x12_, x13_, x14_, x15_, x16_, x17_, x18_, x19_, x20_], _, hv =>
        obtain rfl : (.pointer (some ⟨mb, 0, none⟩)) = x0_ := by obtain ⟨z, h1, h2⟩ := hv 0 _ rfl; cases h1; exact h2.symm
        obtain rfl : (.int .u64 at_) = x1_ := by obtain ⟨z, h1, h2⟩ := hv 1 _ rfl; cases h1; exact h2.symm
        obtain rfl : (.slice (some ⟨gk, ok, none⟩) nk cK) = x2_ := by obtain ⟨z, h1, h2⟩ := hv 2 _ rfl; cases h1; exact h2.symm
        obtain rfl : (.int .i64 xi) = x3_ := by obtain ⟨z, h1, h2⟩ := hv 3 _ rfl; cases h1; exact h2.symm
        obtain rfl : (.slice (some ⟨gk, ok, none⟩) nk cK) = x4_ := by obtain ⟨z, h1, h2⟩ := hv 4 _ rfl; cases h1; exact h2.symm
        obtain rfl : (.int .i64 (nk : Int)) = x5_ := by obtain ⟨z, h1, h2⟩ := hv 5 _ rfl; cases h1; exact h2.symm
        obtain rfl : (.int .i64 (q : Int)) = x6_ := by obtain ⟨z, h1, h2⟩ := hv 6 _ rfl; cases h1; exact h2.symm
        obtain rfl : (.pointer (some ⟨gk, ok + q, none⟩)) = x7_ := by obtain ⟨z, h1, h2⟩ := hv 7 _ rfl; cases h1; exact h2.symm
        obtain rfl : (.int .i64 kv) = x8_ := by obtain ⟨z, h1, h2⟩ := hv 8 _ rfl; cases h1; exact h2.symm
        obtain rfl : (.int .i64 mx) = x9_ := by obtain ⟨z, h1, h2⟩ := hv 9 _ rfl; cases h1; exact h2.symm
        obtain rfl : (.pointer (some ⟨mb, 0, none⟩)) = x10_ := by obtain ⟨z, h1, h2⟩ := hv 10 _ rfl; cases h1; exact h2.symm
        obtain rfl : (.pointer (some ⟨mb, 0, none⟩)) = x11_ := by obtain ⟨z, h1, h2⟩ := hv 11 _ rfl; cases h1; exact h2.symm
        obtain rfl : (.pointer (some ⟨mb, 2, none⟩)) = x12_ := by obtain ⟨z, h1, h2⟩ := hv 12 _ rfl; cases h1; exact h2.symm
        obtain rfl : (.map (some ml)) = x13_ := by obtain ⟨z, h1, h2⟩ := hv 13 _ rfl; cases h1; exact h2.symm
        obtain rfl : (.int .u64 at_) = x14_ := by obtain ⟨z, h1, h2⟩ := hv 14 _ rfl; cases h1; exact h2.symm
        obtain rfl : (.agg (lnCells (.slice a9 l9 c9) f9)) = x15_ := by obtain ⟨z, h1, h2⟩ := hv 15 _ rfl; cases h1; exact h2.symm
        obtain rfl : (.slice a9 l9 c9) = x16_ := by obtain ⟨z, h1, h2⟩ := hv 16 _ rfl; cases h1; exact h2.symm
        obtain rfl : (.int .i64 (l9 : Int)) = x17_ := by obtain ⟨z, h1, h2⟩ := hv 17 _ rfl; cases h1; exact h2.symm
        obtain rfl : (.int .i64 ((l9 : Int) + 1)) = x18_ := by obtain ⟨z, h1, h2⟩ := hv 18 _ rfl; cases h1; exact h2.symm
        obtain rfl : (.int .i64 kk) = x19_ := by obtain ⟨z, h1, h2⟩ := hv 19 _ rfl; cases h1; exact h2.symm
        intro L hall hG
        clear hv hlen
        have HW := hG.2 (hall 20 (by decide))
        clear hG hall
        simp only [fill, if_true]
      --END
        simp [Act.put]
        gi_wp2_with (fail)
        rw [HPo.out] at HW
        exact HW
  case done =>
    rintro Dd xs9 W hD rfl hI hK
    obtain ⟨⟨l, hm⟩, hpb, hkb, hka, hsz, hkp⟩ := hI
    obtain ⟨⟨D2, sl2, mk2, hc2, _⟩, hl, hle, _⟩ := hm
    have hlen : l.length ≤ 1000000 := by rw [hl]; exact hni
    obtain ⟨pb, hpb0⟩ : ∃ pb, w.heap.size = pb := ⟨_, rfl⟩
    obtain ⟨W0, hW0⟩ : ∃ y, y = W := ⟨_, rfl⟩
    obtain ⟨u, hu⟩ : ∃ y, y = vi := ⟨_, rfl⟩
    rw [← hW0] at hc2 hpb hkp hK hsz ⊢
    rw [← hu] at hc2 hkp
    rw [hpb0] at hpb ⊢
    have HBk := Lib.hid (show Blk W0 mb (memCells vv u ml lo st fl fe) 74 from hc2.m.blk)
    have HOw := Lib.hid hc2.m.i
    have HuM := Lib.hid hc2.m.ne.2
    have HPb := Lib.hid (show W0.cell? ⟨pb, 0, none⟩ = some (.pointer (some ⟨mb, 0, none⟩)) from hpb.cell 0)
    have HmW := Lib.hid hc2.m.blk.lt
    have HpW := Lib.hid (show pb < W0.heap.size ∧ ¬ pb = mb from ⟨hpb.lt, by have := hc2.lt mb (.inl rfl); omega⟩)
    have Hlen := Lib.hid hlen
    have HC2 := Lib.hid hc2
    have HL := Lib.hid hl
    have HLe := Lib.hid hle
    have HKp0 := Lib.hid hkp
    have HU := Lib.hid hu
    have HDd := Lib.hid (And.intro hD hK)
    clear hW0 hc2 hpb hkb hka hkp hle hl hlen hu
    gi_wp2
    refine wpIn_wide.2 ?_
    --GEN r_cr7
    refine wp_region_vals [Is (.pointer (some ⟨mb, 0, none⟩)), Is (.pointer (some ⟨mb, 0, none⟩)), Is (.pointer (some ⟨mb, 0, none⟩)), Is (.pointer (some ⟨mb, 1, none⟩)), Is u, fun v W => W.ownsRow W0.heap.size 22 1 v l.length (l.map (Value.int .u64)), Is (.pointer (some ⟨mb, 0, none⟩)), Is (.pointer (some ⟨mb, 0, none⟩)), Any]
      (fun _ w w' => Keeps (fun i => i = mb) w w') (fun L W => OC W0 mb ml vv u l lo st fl fe L W) (by kernel_rfl) (by kernel_rfl) (by kernel_rfl) ?hst ?h0 ⟨?o0, ?o1, ?o2, ?o3, ?o4, ?o5, ?o6, ?o7, ?o8, trivial⟩ ?he
    case hst =>
      exact ⟨(fun _ _ _ _ _ _ h _ => h), (fun _ _ _ _ _ _ h _ => h), (fun _ _ _ _ _ _ h _ => h), (fun _ _ _ _ _ _ h _ => h), (fun _ _ _ _ _ _ h _ => h), (fun _ _ _ _ _ _ h hR => own_keeps h hR (fun i e => by have := own_base h i e; have := HmW.out; omega)), (fun _ _ _ _ _ _ h _ => h), (fun _ _ _ _ _ _ h _ => h), (fun _ _ _ _ _ _ h _ => h), trivial⟩
    case h0 =>
      exact OC.start HBk.out
    case o0 =>
      intro L vs A W H hf hd K hK
      have e2 : A.tmps[2]?.getD undef = .pointer (some ⟨pb, 0, none⟩) := H.old 2 (by kernel_rfl)
      have d : W.cell? ⟨pb, 0, none⟩ = some (.pointer (some ⟨mb, 0, none⟩)) := (H.glob.kp.cell (p := ⟨pb, 0, none⟩) HpW.out.1 HpW.out.2).trans HPb.out
      go_simp
      exact hK _ _ (Keeps.refl _ _) rfl (H.glob.keep rfl)
    case o1 =>
      intro L vs A W H hf hd K hK
      have e2 : A.tmps[2]?.getD undef = .pointer (some ⟨pb, 0, none⟩) := H.old 2 (by kernel_rfl)
      have d : W.cell? ⟨pb, 0, none⟩ = some (.pointer (some ⟨mb, 0, none⟩)) := (H.glob.kp.cell (p := ⟨pb, 0, none⟩) HpW.out.1 HpW.out.2).trans HPb.out
      go_simp
      exact hK _ _ (Keeps.refl _ _) rfl (H.glob.keep rfl)
    case o2 =>
      intro L vs A W H hf hd K hK
      have e38 := H.is 1 38 rfl rfl rfl (deps_of' hd 1 (by kernel_rfl)) (by kernel_rfl)
      go_simp
      exact hK _ _ (Keeps.refl _ _) rfl (H.glob.keep rfl)
    case o3 =>
      intro L vs A W H hf hd K hK
      have e39 := H.is 2 39 rfl rfl rfl (deps_of' hd 2 (by kernel_rfl)) (by kernel_rfl)
      go_simp
      exact hK _ _ (Keeps.refl _ _) rfl (H.glob.keep rfl)
    case o4 =>
      intro L vs A W H hf hd K hK
      have e40 := H.is 3 40 rfl rfl rfl (deps_of' hd 3 (by kernel_rfl)) (by kernel_rfl)
      have n8 := H.notYet 8 5 rfl (H.notYet 5 4 rfl hf (by kernel_rfl)) (by kernel_rfl)
      have d : W.cell? ⟨mb, 1, none⟩ = some u := (by rw [(H.glob.un n8).cell]; rfl)
      obtain ⟨au, cu, hu⟩ := own_form HOw.out
      subst hu
      go_simp
      exact hK _ _ (Keeps.refl _ _) rfl (H.glob.keep rfl)
    case o5 =>
      intro L vs A W H hf hd K hK
      have e41 := H.is 4 41 rfl rfl rfl (deps_of' hd 4 (by kernel_rfl)) (by kernel_rfl)
      have n8 := H.notYet 8 5 rfl hf (by kernel_rfl)
      have HC := Lib.hid (clone_v u l W (own_mono (own_keeps HOw.out H.glob.kp (fun i e he => HuM.out (by rw [e, he]))) (Nat.zero_le _)) Hlen.out)
      go_simp
      refine HC.out.mono ?_
      rintro e w' ⟨v, rfl, ho, hb⟩
      go_simp
      exact hK _ _ (keeps_belowS hb) (own_mono ho H.glob.kp.size) (H.glob.cloned n8 hb HmW.out)
    case o6 =>
      intro L vs A W H hf hd K hK
      have e37 := H.is 0 37 rfl rfl rfl (deps_of' hd 0 (by kernel_rfl)) (by kernel_rfl)
      go_simp
      exact hK _ _ (Keeps.refl _ _) rfl (H.glob.keep rfl)
    case o7 =>
      intro L vs A W H hf hd K hK
      have e43 := H.is 6 43 rfl rfl rfl (deps_of' hd 6 (by kernel_rfl)) (by kernel_rfl)
      go_simp
      exact hK _ _ (Keeps.refl _ _) rfl (H.glob.keep rfl)
    case o8 =>
      intro L vs A W H hf hd K hK
      have e44 := H.is 7 44 rfl rfl rfl (deps_of' hd 7 (by kernel_rfl)) (by kernel_rfl)
      obtain ⟨v42, e42, q42⟩ := H.val 5 42 rfl rfl rfl (deps_of' hd 5 (by kernel_rfl)) (by kernel_rfl)
      have h5 : L 5 = true := deps_of' hd 5 (by kernel_rfl)
      have hbk := H.glob.un hf
      have d : W.cell? ⟨mb, 0, none⟩ = some vv := (by rw [hbk.cell]; rfl)
      have df : W.frozen? ⟨mb, 0, none⟩ = false := hbk.frozen 0
      obtain ⟨a7, c7, hq7⟩ := own_form q42
      subst hq7
      go_simp
      exact hK undef _ ((Keeps.refl (fun i => i = mb) W).setCell (p := ⟨mb, 0, none⟩) (.inl rfl) _) trivial (H.glob.s8 hf q42 HmW.out)
    case he =>
      intro vs W hlen hv
      match vs, hlen, hv with
      | [x0_, x1_, x2_, x3_, x4_, x5_, x6_, x7_, x8_], _, hv =>
      obtain rfl : (.pointer (some ⟨mb, 0, none⟩)) = x0_ := by obtain ⟨z, h1, h2⟩ := hv 0 _ rfl; cases h1; exact h2.symm
      obtain rfl : (.pointer (some ⟨mb, 0, none⟩)) = x1_ := by obtain ⟨z, h1, h2⟩ := hv 1 _ rfl; cases h1; exact h2.symm
      obtain rfl : (.pointer (some ⟨mb, 0, none⟩)) = x2_ := by obtain ⟨z, h1, h2⟩ := hv 2 _ rfl; cases h1; exact h2.symm
      obtain rfl : (.pointer (some ⟨mb, 1, none⟩)) = x3_ := by obtain ⟨z, h1, h2⟩ := hv 3 _ rfl; cases h1; exact h2.symm
      obtain rfl : u = x4_ := by obtain ⟨z, h1, h2⟩ := hv 4 _ rfl; cases h1; exact h2.symm
      have hx5 : (fun v W => W.ownsRow W0.heap.size 22 1 v l.length (l.map (Value.int .u64))) x5_ W := by obtain ⟨z, h1, h2⟩ := hv 5 _ rfl; cases h1; exact h2
      obtain rfl : (.pointer (some ⟨mb, 0, none⟩)) = x6_ := by obtain ⟨z, h1, h2⟩ := hv 6 _ rfl; cases h1; exact h2.symm
      obtain rfl : (.pointer (some ⟨mb, 0, none⟩)) = x7_ := by obtain ⟨z, h1, h2⟩ := hv 7 _ rfl; cases h1; exact h2.symm
      intro L hall hG
      clear hv hlen
      have HG := Lib.hid (hG.e (hall 8 (by decide)))
      have HKp := Lib.hid hG.kp
      clear hG hall
      simp only [fill, if_true]
    --END
      obtain ⟨vvF, v1, v2⟩ := HG.out
      have kp := HKp.out
      have hx := HC2.out.x
      have hlt := HC2.out.lt
      have o1 : OwnL W ml (n + (List.finRange zs.length).length) D2 := ownL_keeps HC2.out.o kp hx.1
      obtain ⟨wC, hrunC, hoC, hgC⟩ := own_clear o1
      have d2 : W.cell? ⟨pb, 0, none⟩ = some (.pointer (some ⟨mb, 0, none⟩)) := (kp.cell (p := ⟨pb, 0, none⟩) HpW.out.1 HpW.out.2).trans HPb.out
      have dm : W.cell? ⟨mb, 2, none⟩ = some (.map (some ml)) := by rw [v1.cell]; rfl
      have kC : Keeps (fun i => i = ml) W wC := (Keeps.refl (fun i => i = ml) W).grown hgC (fun k e => .inl (Option.some.inj e).symm)
      have hK3 : wC.heap[Dd]? = some (Obj.deferred (some [])) := by
        have h1 := HDd.out.1
        have hDlt : Dd < W0.heap.size := (Array.getElem?_eq_some_iff.1 HDd.out.2).1
        rw [kC.block Dd (Nat.lt_of_lt_of_le hDlt kp.size) (by have := hlt ml (.inr (.inl rfl)); have := HW1.out.size; omega), kp.block Dd hDlt (by have := hlt mb (.inl rfl); omega)]
        exact HDd.out.2
      have HV1 := Lib.hid v1
      have HV2 := Lib.hid v2
      have HoC := Lib.hid hoC
      have HkC := Lib.hid kC
      have Hkp := Lib.hid kp
      clear hoC hgC kC v1 v2 kp o1 HG HKp
      simp [Act.put]
      gi_wp2
      refine ⟨by simp, .inl ⟨_, _, rfl, run_takeDeferred hK3, ?_⟩⟩
      have hg := grownBy_putObj' wC Dd (.deferred none)
      have kD : Keeps (fun i => i = Dd) wC (wC.putObj Dd (.deferred none)) := (Keeps.refl (fun i => i = Dd) wC).grown hg (fun k e => .inl (Option.some.inj e).symm)
      have hDlt : Dd < W0.heap.size := (Array.getElem?_eq_some_iff.1 HDd.out.2).1
      have hBw : Below w.heap.size w w' := HW1.out.trans (hB.mono HW1.out.size)
      have hw0 : w.heap.size ≤ w'.heap.size := hBw.size
      have hD1 : w'.heap.size ≤ Dd := HDd.out.1
      have hmW : MemB W mb l l vvF u ml lo st fl fe := ⟨HV1.out, own_mono HV2.out (Nat.zero_le _), own_keeps HOw.out Hkp.out (fun i e he => HuM.out (by rw [e, he]))⟩
      have hvb : ∀ i, vvF.ownBlock = some i → W0.heap.size ≤ i := fun i e => own_base HV2.out i e
      have hmlt := hlt ml (.inr (.inl rfl))
      have hmC := hmW.kept HkC.out (fun i hi e => by
        rcases hi with h | h | h
        · exact hx.1 (by rw [← e, h])
        · have := hvb i h; omega
        · exact hx.2.2 (by rw [← e]; exact h))
      have hmD := hmC.kept kD (fun i hi e => by
        rcases hi with h | h | h
        · have := hlt mb (.inl rfl); omega
        · have := hvb i h; omega
        · have := hlt i (.inr (.inr (.inr h))); omega)
      refine ⟨.tuple #[], by simp [results, Try.results23, go_sem], rfl, l, vvF, xs, HCk.out.keysF HHas.out HKs.out, HL.out, fun k => by have h := HLe.out k; have hz := HZs.out; subst hz; exact h, by rw [← HU.out]; exact hmD, ownL_keeps HoC.out kD (by omega), fun i e => by have := hvb i e; omega, ?_⟩
      rw [← HU.out]
      refine (keeps_belowS hBw).trans ((HKp0.out.mono (fun i _ h => ?_)).trans ((Hkp.out.mono (fun i _ h => .inl h)).trans ((HkC.out.mono (fun i _ h => .inr (.inl h))).trans (kD.mono (fun i _ h => .inr (.inr (.inr (by omega))))))))
      rcases h with h | h | h
      · exact .inr (.inl h)
      · exact .inr (.inr (.inl h))
      · exact .inr (.inr (.inr (Nat.le_trans hw0 h)))
  case stop =>
    rintro D c pre W _ _ h _
    exact h.elim
end Go.Proofs.Ytefgahcadfmmoaa
namespace Go.Proofs.Ytefgahcadfmmoaa
open Go.RowKit Go.Maps Go.WideElems Go.WideShapes
attribute [local go_sem] Oper.semAt_some
set_option linter.unusedVariables false

/-- two rows that a drawn region makes lie apart -/
def Dj (L : Nat → Bool) (a : Act) (W : World) : Prop :=
  (L 4 = true → ∀ i, (a.tmps[10]?.getD undef).ownBlock = some i → i < W.heap.size) ∧ (L 9 = true → ∀ i, (a.tmps[15]?.getD undef).ownBlock = some i → i < W.heap.size) ∧
  (L 4 = true → L 9 = true → ∀ i, (a.tmps[10]?.getD undef).ownBlock = some i → (a.tmps[15]?.getD undef).ownBlock ≠ some i)
theorem Dj.none {a : Act} {W : World} : Dj (fun _ => false) a W := ⟨fun h => by (cases h), fun h => by (cases h), fun h => by (cases h)⟩
section
variable {L L' : Nat → Bool} {a a' : Act} {W W' : World}
theorem Dj.keep (h : Dj L a W) (e4 : L' 4 = L 4) (e9 : L' 9 = L 9) (t10 : a'.tmps[10]?.getD undef = a.tmps[10]?.getD undef) (t15 : a'.tmps[15]?.getD undef = a.tmps[15]?.getD undef) (hs : W.heap.size ≤ W'.heap.size) : Dj L' a' W' := by
  unfold Dj
  rw [e4, e9, t10, t15]
  exact ⟨fun x i hi => Nat.lt_of_lt_of_le (h.1 x i hi) hs, fun x i hi => Nat.lt_of_lt_of_le (h.2.1 x i hi) hs, h.2.2⟩
theorem put_sameD {a : Act} {s : Nat} {v : Value} (hz : s < a.tmps.size) : (a.put (some s) v).tmps[s]?.getD undef = v := by simp [Act.put, hz]
theorem Dj.set4 (h : Dj L a W) {v : Value} {n : Nat} {xs : List Value} (hz : 10 < a.tmps.size) (ho : W'.ownsRow W.heap.size 22 1 v n xs) (hs : W.heap.size ≤ W'.heap.size) : Dj (lset L 4) (a.put (some 10) v) W' := by
  unfold Dj
  rw [put_sameD hz, show (a.put (some 10) v).tmps[15]?.getD undef = a.tmps[15]?.getD undef from by simp [Act.put], show lset L 4 9 = L 9 from rfl]
  exact ⟨fun _ i hi => own_ltS ho hi, fun x i hi => Nat.lt_of_lt_of_le (h.2.1 x i hi) hs, fun _ x i hi e => by have h1 := own_base ho i hi; have h2 := h.2.1 x i e; omega⟩
theorem Dj.set9 (h : Dj L a W) {v : Value} {n : Nat} {xs : List Value} (hz : 15 < a.tmps.size) (ho : W'.ownsRow W.heap.size 22 1 v n xs) (hs : W.heap.size ≤ W'.heap.size) : Dj (lset L 9) (a.put (some 15) v) W' := by
  unfold Dj
  rw [put_sameD hz, show (a.put (some 15) v).tmps[10]?.getD undef = a.tmps[10]?.getD undef from by simp [Act.put], show lset L 9 4 = L 4 from rfl]
  exact ⟨fun x i hi => Nat.lt_of_lt_of_le (h.1 x i hi) hs, fun _ i hi => own_ltS ho hi, fun x _ i hi e => by have h1 := own_base ho i e; have h2 := h.1 x i hi; omega⟩
end
/-- the lines' copy -/
structure CpJ (w0 : World) (mo : Nat) (D : DataW Value) (mk : Int → Nat → Int) (F : Int → List (Int × Int)) (wr : World) (n' : Nat) (D' : DataW Value) (sl' : Int → Value) (mk' : Int → Nat → Int) : Prop where
  o : OwnL wr mo n' D'
  e : ∀ a, hasL D' a (.agg (lnCells (sl' a) (mk' a)))
  r : ∀ a, RowC wr w0.heap.size (sl' a) (F a)
  d : ∀ a b i, a ≠ b → (sl' a).ownBlock = some i → (sl' b).ownBlock ≠ some i
  m : ∀ a i, mk' a i = 0 ∨ mk' a i = mk a i
  h : ∀ a, Maps.has D' (.int .u64 a) = true → Maps.has D (.int .u64 a) = true
  mo : w0.heap.size ≤ mo
theorem CpJ.below {w0 wr wr2 : World} {mo n' : Nat} {D D' : DataW Value} {mk mk' : Int → Nat → Int} {F : Int → List (Int × Int)} {sl' : Int → Value} (h : CpJ w0 mo D mk F wr n' D' sl' mk') (hB : Below wr.heap.size wr wr2) : CpJ w0 mo D mk F wr2 n' D' sl' mk' :=
  ⟨ownL_keeps h.o (Keeps.of_below' hB) (fun h => h), h.e, fun a => (h.r a).keeps (Keeps.of_below' hB) (fun _ _ h => h), h.d, h.m, h.h, h.mo⟩
theorem RowC.lower {w : World} {N0 N1 : Nat} {s : Value} {l : List (Int × Int)} (h : RowC w N0 s l) (hn : N1 ≤ N0) : RowC w N1 s l := by
  rcases h with h | ⟨g, o, cs, e, h1, h2, h3⟩
  · exact .inl (own_mono h hn)
  · exact .inr ⟨g, o, cs, e, h1, Nat.le_trans hn h2, h3⟩
theorem CpI.j {w0 w w' : World} {n mo n' : Nat} {D D' : DataW Value} {mk mk' : Int → Nat → Int} {F : Int → List (Int × Int)} {sl' : Int → Value} (h : CpI w n D mk F mo (fun _ => false) 0 w' n' D' sl' mk') (hs : w0.heap.size ≤ w.heap.size) : CpJ w0 mo D mk F w' n' D' sl' mk' :=
  ⟨h.o, h.e, fun a => (h.done a).lower hs, h.d, h.m, fun a ha => (h.h a ha).2, Nat.le_trans hs h.mo⟩
/-- all that a copy is made of -/
structure CpM (w0 : World) (vs is : List Int) (D : DataW Value) (mk : Int → Nat → Int) (F : Int → List (Int × Int)) (v1 v2 : Value) (mo : Nat) (W : World) : Prop where
  v : W.ownsRow w0.heap.size 22 1 v1 vs.length (vs.map (Value.int .u64))
  i : W.ownsRow w0.heap.size 22 1 v2 is.length (is.map (Value.int .u64))
  l : ∃ n' D' sl' mk', CpJ w0 mo D mk F W n' D' sl' mk'
  x : ∀ i, v1.ownBlock = some i → v2.ownBlock ≠ some i
theorem CpM.below {w0 W W' : World} {vs is : List Int} {D : DataW Value} {mk : Int → Nat → Int} {F : Int → List (Int × Int)} {v1 v2 : Value} {mo : Nat} (h : CpM w0 vs is D mk F v1 v2 mo W) (hB : Below W.heap.size W W') : CpM w0 vs is D mk F v1 v2 mo W' := by
  obtain ⟨n', D', sl', mk', hj⟩ := h.l
  exact ⟨own_keeps h.v (Keeps.of_below' hB) (fun _ _ h => h), own_keeps h.i (Keeps.of_below' hB) (fun _ _ h => h), ⟨n', D', sl', mk', hj.below hB⟩, h.x⟩
/-- a copy: its rows are just apart from its other blocks; all lie from B on -/
def MemK (w : World) (B cb : Nat) (M : MSt) : Prop :=
  ∃ N0 vv vi ml D sl, MemQ w N0 cb M.vs M.is vv vi ml M.vs.length D sl M.mk M.F M.lo M.st M.fl M.fe ∧ N0 ≤ w.heap.size ∧ B ≤ cb ∧ B ≤ ml ∧ (∀ i, vi.ownBlock = some i → B ≤ i) ∧
    0 < M.vs.length ∧ M.is.length = M.vs.length ∧ LnOk M.F M.vs.length ∧ (∀ a, ((M.F a).length : Int) ≤ M.st) ∧ (∀ a i, 0 ≤ M.mk a i ∧ M.mk a i ≤ M.st) ∧ (∀ a, Maps.has D (.int .u64 a) = true → M.F a ≠ [])
def CopyP (w : World) (M : MSt) (e : Ending) (w' : World) : Prop :=
  ∃ cb mk', e = .returned (.pointer (some ⟨cb, 0, none⟩)) ∧ MemK w' w.heap.size cb { M with mk := mk' } ∧ Below w.heap.size w w'
set_option maxRecDepth 100000 in
set_option maxHeartbeats 40000000 in
theorem copy_m {w : World} {mb : Nat} {S : Nat → Prop} {M : MSt} (h : MemD w mb S M) (hst : M.st ≤ 1000000) : Calls Try.prog 26 #[.pointer (some ⟨mb, 0, none⟩)] w (CopyP w M) := by
  obtain ⟨N0, vv, vi, ml, D, sl, hm, hN, hS, hp, hl, hi, hok, hF, hmk, hh, hs0, hf0, hfe⟩ := h
  obtain ⟨ws, js, mk, F, lo, st, fl, fe⟩ := M
  dsimp only at hm hp hl hi hok hF hmk hh hs0 hf0 hfe hst
  have HTh := Lib.hid (mthere_v w mb ws js vv vi ml lo st fl fe hm.m hp)
  have HC := Lib.hid (show w.cell? ⟨mb, 0, none⟩ = some vv ∧ w.cell? ⟨mb, 1, none⟩ = some vi ∧ w.cell? ⟨mb, 2, none⟩ = some (.map (some ml)) ∧ w.cell? ⟨mb, 3, none⟩ = some (.int .u64 lo) ∧ w.cell? ⟨mb, 4, none⟩ = some (.int .u64 st) ∧ w.cell? ⟨mb, 5, none⟩ = some (.int .u64 fl) ∧ w.cell? ⟨mb, 6, none⟩ = some (.int .u64 fe) from ⟨hm.m.c 0, hm.m.c 1, hm.m.c 2, hm.m.c 3, hm.m.c 4, hm.m.c 5, hm.m.c 6⟩)
  have HMb := Lib.hid hm.m.blk.lt
  have HV1 := Lib.hid (show ∀ W, Below w.heap.size w W → Calls Try.prog 37 #[vv] W fun e w' => ∃ v', e = .returned v' ∧ w'.ownsRow W.heap.size 22 1 v' ws.length (ws.map (Value.int .u64)) ∧ Below W.heap.size W w' from fun W hB => clone_v vv ws W (own_keeps hm.m.v (Keeps.of_below' hB) (fun _ _ h => h)) (by omega))
  have HV2 := Lib.hid (show ∀ W, Below w.heap.size w W → Calls Try.prog 37 #[vi] W fun e w' => ∃ v', e = .returned v' ∧ w'.ownsRow W.heap.size 22 1 v' js.length (js.map (Value.int .u64)) ∧ Below W.heap.size W w' from fun W hB => clone_v vi js W (own_keeps hm.m.i (Keeps.of_below' hB) (fun _ _ h => h)) (by omega))
  have HOw := Lib.hid (show ∀ W, Below w.heap.size w W → Calls Try.prog 39 #[.map (some ml)] W (CpP W ws.length D mk F) from fun W hB => own_v W N0 mb ws js vv vi ml ws.length D sl mk F lo st fl fe (hm.kept (Keeps.of_below' hB) (fun _ _ h => h) (fun _ _ _ h => h)) (by omega) (fun a => by have := hF a; omega))
  have HFin := Lib.hid (And.intro hok (And.intro hh (And.intro hmk (And.intro hF (And.intro hp (And.intro hl hi))))))
  have H00 := Lib.hid (And.intro hs0 (And.intro hf0 hfe))
  obtain ⟨av, cv, hvf⟩ := own_form hm.m.v
  obtain ⟨ai, ci, hif⟩ := own_form hm.m.i
  clear hm hN hS hp hl hi hok hF hmk hh hs0 hf0 hfe hst
  rw [hvf] at HC HV1
  rw [hif] at HC HV2
  clear hvf hif
  go_enter Try.func26, Try.ntmps26
  go_wp2_with (fail)
  refine HTh.out.mono ?_
  rintro e w' ⟨rfl, rfl⟩
  go_wp2_with (fail)
  --GEN r_cy3
  refine wp_region_valsA [Is (.pointer (some ⟨mb, 0, none⟩)), Is (.pointer (some ⟨mb, 0, none⟩)), Is (.pointer (some ⟨mb, 0, none⟩)), Is (.slice av ws.length cv), fun v W => W.ownsRow w.heap.size 22 1 v ws.length (ws.map (Value.int .u64)), Is (.pointer (some ⟨mb, 0, none⟩)), Is (.pointer (some ⟨mb, 0, none⟩)), Is (.pointer (some ⟨mb, 1, none⟩)), Is (.slice ai js.length ci), fun v W => W.ownsRow w.heap.size 22 1 v js.length (js.map (Value.int .u64)), Is (.pointer (some ⟨mb, 0, none⟩)), Is (.pointer (some ⟨mb, 0, none⟩)), Is (.pointer (some ⟨mb, 2, none⟩)), Is (.map (some ml)), fun v W => ∃ mo n' D' sl' mk', v = .map (some mo) ∧ CpJ w mo D mk F W n' D' sl' mk', Is (.pointer (some ⟨mb, 0, none⟩)), Is (.pointer (some ⟨mb, 0, none⟩)), Is (.pointer (some ⟨mb, 3, none⟩)), Is (.agg #[.int .u64 lo, .int .u64 st, .int .u64 fl, .int .u64 fe]), fun v W => ∃ v1 v2 mo, v = .agg (memCells v1 v2 mo lo st fl fe) ∧ CpM w ws js D mk F v1 v2 mo W, fun v W => ∃ v1 v2 mo cb, v = .pointer (some ⟨cb, 0, none⟩) ∧ w.heap.size ≤ cb ∧ Blk W cb (memCells v1 v2 mo lo st fl fe) 74 ∧ CpM w ws js D mk F v1 v2 mo W, fun v W => ∃ v1 v2 mo cb, v = .pointer (some ⟨cb, 0, none⟩) ∧ w.heap.size ≤ cb ∧ Blk W cb (memCells v1 v2 mo lo st fl fe) 74 ∧ CpM w ws js D mk F v1 v2 mo W]
    (fun _ W W' => Below W.heap.size W W') (fun L a W => Below w.heap.size w W ∧ Dj L a W) (by kernel_rfl) (by kernel_rfl) (by kernel_rfl) ?hst ?h0 ⟨?o0, ?o1, ?o2, ?o3, ?o4, ?o5, ?o6, ?o7, ?o8, ?o9, ?o10, ?o11, ?o12, ?o13, ?o14, ?o15, ?o16, ?o17, ?o18, ?o19, ?o20, ?o21, trivial⟩ ?he
  case hst =>
    exact ⟨(fun _ _ _ _ _ _ h _ => h), (fun _ _ _ _ _ _ h _ => h), (fun _ _ _ _ _ _ h _ => h), (fun _ _ _ _ _ _ h _ => h), (fun _ _ _ _ _ _ h hR => own_keeps h (Keeps.of_below' hR) (fun _ _ h => h)), (fun _ _ _ _ _ _ h _ => h), (fun _ _ _ _ _ _ h _ => h), (fun _ _ _ _ _ _ h _ => h), (fun _ _ _ _ _ _ h _ => h), (fun _ _ _ _ _ _ h hR => own_keeps h (Keeps.of_below' hR) (fun _ _ h => h)), (fun _ _ _ _ _ _ h _ => h), (fun _ _ _ _ _ _ h _ => h), (fun _ _ _ _ _ _ h _ => h), (fun _ _ _ _ _ _ h _ => h), (fun _ _ _ _ _ _ h hR => by obtain ⟨mo, n', D', sl', mk', e, h⟩ := h; exact ⟨mo, n', D', sl', mk', e, h.below hR⟩), (fun _ _ _ _ _ _ h _ => h), (fun _ _ _ _ _ _ h _ => h), (fun _ _ _ _ _ _ h _ => h), (fun _ _ _ _ _ _ h _ => h), (fun _ _ _ _ _ _ h hR => by obtain ⟨v1, v2, mo, e, h⟩ := h; exact ⟨v1, v2, mo, e, h.below hR⟩), (fun _ _ _ _ _ _ h hR => by obtain ⟨v1, v2, mo, cb, e, h1, h2, h⟩ := h; exact ⟨v1, v2, mo, cb, e, h1, h2.kept (Keeps.of_below' hR) (fun h => h), h.below hR⟩), (fun _ _ _ _ _ _ h hR => by obtain ⟨v1, v2, mo, cb, e, h1, h2, h⟩ := h; exact ⟨v1, v2, mo, cb, e, h1, h2.kept (Keeps.of_below' hR) (fun h => h), h.below hR⟩), trivial⟩
  case h0 =>
    exact ⟨(Below.refl _ _).drew, Dj.none⟩
  case o0 =>
    intro L vs A W H hf hd K hK
    have e0 : A.tmps[0]?.getD undef = .pointer (some ⟨mb, 0, none⟩) := H.old 0 (by kernel_rfl)
    go_simp
    exact hK _ _ (Below.refl _ _) rfl (⟨H.glob.1, H.glob.2.keep rfl rfl (by simp [Act.put]) (by simp [Act.put]) (Nat.le_refl _)⟩)
  case o1 =>
    intro L vs A W H hf hd K hK
    have e6 := H.is 0 6 rfl rfl rfl (deps_of' hd 0 (by kernel_rfl)) (by kernel_rfl)
    go_simp
    exact hK _ _ (Below.refl _ _) rfl (⟨H.glob.1, H.glob.2.keep rfl rfl (by simp [Act.put]) (by simp [Act.put]) (Nat.le_refl _)⟩)
  case o2 =>
    intro L vs A W H hf hd K hK
    have e7 := H.is 1 7 rfl rfl rfl (deps_of' hd 1 (by kernel_rfl)) (by kernel_rfl)
    go_simp
    exact hK _ _ (Below.refl _ _) rfl (⟨H.glob.1, H.glob.2.keep rfl rfl (by simp [Act.put]) (by simp [Act.put]) (Nat.le_refl _)⟩)
  case o3 =>
    intro L vs A W H hf hd K hK
    have e8 := H.is 2 8 rfl rfl rfl (deps_of' hd 2 (by kernel_rfl)) (by kernel_rfl)
    have d : W.cell? ⟨mb, 0, none⟩ = some (.slice av ws.length cv) := (H.glob.1.cell (p := ⟨mb, 0, none⟩) HMb.out).trans HC.out.1
    go_simp
    exact hK _ _ (Below.refl _ _) rfl (⟨H.glob.1, H.glob.2.keep rfl rfl (by simp [Act.put]) (by simp [Act.put]) (Nat.le_refl _)⟩)
  case o4 =>
    intro L vs A W H hf hd K hK
    have e9 := H.is 3 9 rfl rfl rfl (deps_of' hd 3 (by kernel_rfl)) (by kernel_rfl)
    rw [if_pos (show Region.wanted _ _ = true from rfl)]
    go_wp2_with (fail)
    refine (HV1.out _ H.glob.1).mono ?_
    rintro e W2 ⟨v, rfl, ho, hB⟩
    have hz : 10 < A.tmps.size := by rw [H.frame, fill_size]; exact of_decide_eq_true (by kernel_rfl)
    exact hK _ _ hB (own_mono ho H.glob.1.size) ⟨H.glob.1.trans (hB.mono H.glob.1.size), H.glob.2.set4 hz ho hB.size⟩
  case o5 =>
    intro L vs A W H hf hd K hK
    have e0 : A.tmps[0]?.getD undef = .pointer (some ⟨mb, 0, none⟩) := H.old 0 (by kernel_rfl)
    go_simp
    exact hK _ _ (Below.refl _ _) rfl (⟨H.glob.1, H.glob.2.keep rfl rfl (by simp [Act.put]) (by simp [Act.put]) (Nat.le_refl _)⟩)
  case o6 =>
    intro L vs A W H hf hd K hK
    have e11 := H.is 5 11 rfl rfl rfl (deps_of' hd 5 (by kernel_rfl)) (by kernel_rfl)
    go_simp
    exact hK _ _ (Below.refl _ _) rfl (⟨H.glob.1, H.glob.2.keep rfl rfl (by simp [Act.put]) (by simp [Act.put]) (Nat.le_refl _)⟩)
  case o7 =>
    intro L vs A W H hf hd K hK
    have e12 := H.is 6 12 rfl rfl rfl (deps_of' hd 6 (by kernel_rfl)) (by kernel_rfl)
    go_simp
    exact hK _ _ (Below.refl _ _) rfl (⟨H.glob.1, H.glob.2.keep rfl rfl (by simp [Act.put]) (by simp [Act.put]) (Nat.le_refl _)⟩)
  case o8 =>
    intro L vs A W H hf hd K hK
    have e13 := H.is 7 13 rfl rfl rfl (deps_of' hd 7 (by kernel_rfl)) (by kernel_rfl)
    have d : W.cell? ⟨mb, 1, none⟩ = some (.slice ai js.length ci) := (H.glob.1.cell (p := ⟨mb, 1, none⟩) HMb.out).trans HC.out.2.1
    go_simp
    exact hK _ _ (Below.refl _ _) rfl (⟨H.glob.1, H.glob.2.keep rfl rfl (by simp [Act.put]) (by simp [Act.put]) (Nat.le_refl _)⟩)
  case o9 =>
    intro L vs A W H hf hd K hK
    have e14 := H.is 8 14 rfl rfl rfl (deps_of' hd 8 (by kernel_rfl)) (by kernel_rfl)
    rw [if_pos (show Region.wanted _ _ = true from rfl)]
    go_wp2_with (fail)
    refine (HV2.out _ H.glob.1).mono ?_
    rintro e W2 ⟨v, rfl, ho, hB⟩
    have hz : 15 < A.tmps.size := by rw [H.frame, fill_size]; exact of_decide_eq_true (by kernel_rfl)
    exact hK _ _ hB (own_mono ho H.glob.1.size) ⟨H.glob.1.trans (hB.mono H.glob.1.size), H.glob.2.set9 hz ho hB.size⟩
  case o10 =>
    intro L vs A W H hf hd K hK
    have e0 : A.tmps[0]?.getD undef = .pointer (some ⟨mb, 0, none⟩) := H.old 0 (by kernel_rfl)
    go_simp
    exact hK _ _ (Below.refl _ _) rfl (⟨H.glob.1, H.glob.2.keep rfl rfl (by simp [Act.put]) (by simp [Act.put]) (Nat.le_refl _)⟩)
  case o11 =>
    intro L vs A W H hf hd K hK
    have e16 := H.is 10 16 rfl rfl rfl (deps_of' hd 10 (by kernel_rfl)) (by kernel_rfl)
    go_simp
    exact hK _ _ (Below.refl _ _) rfl (⟨H.glob.1, H.glob.2.keep rfl rfl (by simp [Act.put]) (by simp [Act.put]) (Nat.le_refl _)⟩)
  case o12 =>
    intro L vs A W H hf hd K hK
    have e17 := H.is 11 17 rfl rfl rfl (deps_of' hd 11 (by kernel_rfl)) (by kernel_rfl)
    go_simp
    exact hK _ _ (Below.refl _ _) rfl (⟨H.glob.1, H.glob.2.keep rfl rfl (by simp [Act.put]) (by simp [Act.put]) (Nat.le_refl _)⟩)
  case o13 =>
    intro L vs A W H hf hd K hK
    have e18 := H.is 12 18 rfl rfl rfl (deps_of' hd 12 (by kernel_rfl)) (by kernel_rfl)
    have d : W.cell? ⟨mb, 2, none⟩ = some (.map (some ml)) := (H.glob.1.cell (p := ⟨mb, 2, none⟩) HMb.out).trans HC.out.2.2.1
    go_simp
    exact hK _ _ (Below.refl _ _) rfl (⟨H.glob.1, H.glob.2.keep rfl rfl (by simp [Act.put]) (by simp [Act.put]) (Nat.le_refl _)⟩)
  case o14 =>
    intro L vs A W H hf hd K hK
    have e19 := H.is 13 19 rfl rfl rfl (deps_of' hd 13 (by kernel_rfl)) (by kernel_rfl)
    rw [if_pos (show Region.wanted _ _ = true from rfl)]
    go_wp2_with (fail)
    refine (HOw.out _ H.glob.1).mono ?_
    rintro e W2 ⟨mo, n', D', sl', mk', rfl, hc⟩
    exact hK _ _ hc.b ⟨mo, n', D', sl', mk', rfl, hc.j H.glob.1.size⟩ ⟨H.glob.1.trans (hc.b.mono H.glob.1.size), H.glob.2.keep rfl rfl (by simp [Act.put]) (by simp [Act.put]) hc.b.size⟩
  case o15 =>
    intro L vs A W H hf hd K hK
    have e0 : A.tmps[0]?.getD undef = .pointer (some ⟨mb, 0, none⟩) := H.old 0 (by kernel_rfl)
    go_simp
    exact hK _ _ (Below.refl _ _) rfl (⟨H.glob.1, H.glob.2.keep rfl rfl (by simp [Act.put]) (by simp [Act.put]) (Nat.le_refl _)⟩)
  case o16 =>
    intro L vs A W H hf hd K hK
    have e21 := H.is 15 21 rfl rfl rfl (deps_of' hd 15 (by kernel_rfl)) (by kernel_rfl)
    go_simp
    exact hK _ _ (Below.refl _ _) rfl (⟨H.glob.1, H.glob.2.keep rfl rfl (by simp [Act.put]) (by simp [Act.put]) (Nat.le_refl _)⟩)
  case o17 =>
    intro L vs A W H hf hd K hK
    have e22 := H.is 16 22 rfl rfl rfl (deps_of' hd 16 (by kernel_rfl)) (by kernel_rfl)
    go_simp
    exact hK _ _ (Below.refl _ _) rfl (⟨H.glob.1, H.glob.2.keep rfl rfl (by simp [Act.put]) (by simp [Act.put]) (Nat.le_refl _)⟩)
  case o18 =>
    intro L vs A W H hf hd K hK
    have e23 := H.is 17 23 rfl rfl rfl (deps_of' hd 17 (by kernel_rfl)) (by kernel_rfl)
    have d1 := (H.glob.1.cell (p := ⟨mb, 3, none⟩) HMb.out).trans HC.out.2.2.2.1
    have d2 := (H.glob.1.cell (p := ⟨mb, 4, none⟩) HMb.out).trans HC.out.2.2.2.2.1
    have d3 := (H.glob.1.cell (p := ⟨mb, 5, none⟩) HMb.out).trans HC.out.2.2.2.2.2.1
    have d4 := (H.glob.1.cell (p := ⟨mb, 6, none⟩) HMb.out).trans HC.out.2.2.2.2.2.2
    go_simp
    exact hK _ _ (Below.refl _ _) rfl (⟨H.glob.1, H.glob.2.keep rfl rfl (by simp [Act.put]) (by simp [Act.put]) (Nat.le_refl _)⟩)
  case o19 =>
    intro L vs A W H hf hd K hK
    obtain ⟨v10, e10, q10⟩ := H.val 4 10 rfl rfl rfl (deps_of' hd 4 (by kernel_rfl)) (by kernel_rfl)
    obtain ⟨v15, e15, q15⟩ := H.val 9 15 rfl rfl rfl (deps_of' hd 9 (by kernel_rfl)) (by kernel_rfl)
    obtain ⟨v20, e20, q20⟩ := H.val 14 20 rfl rfl rfl (deps_of' hd 14 (by kernel_rfl)) (by kernel_rfl)
    have e24 := H.is 18 24 rfl rfl rfl (deps_of' hd 18 (by kernel_rfl)) (by kernel_rfl)
    obtain ⟨p1, m1, c1, rfl⟩ := own_slice q10
    obtain ⟨p2, m2, c2, rfl⟩ := own_slice q15
    obtain ⟨mo, n', D', sl', mk', rfl, hj⟩ := q20
    have h4 : L 4 = true := deps_of' hd 4 (by kernel_rfl)
    have h9 : L 9 = true := deps_of' hd 9 (by kernel_rfl)
    have hdj := H.glob.2.2.2 h4 h9
    rw [e10, e15] at hdj
    go_simp
    exact hK _ _ (Below.refl _ _) ⟨_, _, mo, rfl, ⟨q10, q15, ⟨n', D', sl', mk', hj⟩, hdj⟩⟩ ⟨H.glob.1, H.glob.2.keep rfl rfl (by simp [Act.put]) (by simp [Act.put]) (Nat.le_refl _)⟩
  case o20 =>
    intro L vs A W H hf hd K hK
    obtain ⟨v25, e25, q25⟩ := H.val 19 25 rfl rfl rfl (deps_of' hd 19 (by kernel_rfl)) (by kernel_rfl)
    obtain ⟨v1, v2, mo, rfl, hm⟩ := q25
    have hgs := H.glob.1.size
    unfold memCells at e25
    go_simp
    exact hK _ _ ((Below.refl _ _).alloc (Nat.le_refl _) _) ⟨v1, v2, mo, _, rfl, hgs, Blk.new _ _ _, hm.below ((Below.refl _ _).alloc (Nat.le_refl _) _)⟩ ⟨H.glob.1.alloc hgs _, H.glob.2.keep rfl rfl (by simp [Act.put]) (by simp [Act.put]) (by simp)⟩
  case o21 =>
    intro L vs A W H hf hd K hK
    obtain ⟨v26, e26, q26⟩ := H.val 20 26 rfl rfl rfl (deps_of' hd 20 (by kernel_rfl)) (by kernel_rfl)
    rw [if_pos (show Region.wanted _ _ = true from rfl)]
    go_simp
    exact hK _ _ (Below.refl _ _) q26 ⟨H.glob.1, H.glob.2.keep rfl rfl (by simp [Act.put]) (by simp [Act.put]) (Nat.le_refl _)⟩
  case he =>
    intro vs W hlen hv
    match vs, hlen, hv with
    | [x0_, x1_, x2_, x3_, x4_, x5_, x6_, x7_, x8_, x9_, x10_, x11_, x12_, x13_, x14_, x15_, x16_, x17_, x18_, x19_, x20_, x21_], _, hv =>
    obtain rfl : (.pointer (some ⟨mb, 0, none⟩)) = x0_ := by obtain ⟨z, h1, h2⟩ := hv 0 _ rfl; cases h1; exact h2.symm
    obtain rfl : (.pointer (some ⟨mb, 0, none⟩)) = x1_ := by obtain ⟨z, h1, h2⟩ := hv 1 _ rfl; cases h1; exact h2.symm
    obtain rfl : (.pointer (some ⟨mb, 0, none⟩)) = x2_ := by obtain ⟨z, h1, h2⟩ := hv 2 _ rfl; cases h1; exact h2.symm
    obtain rfl : (.slice av ws.length cv) = x3_ := by obtain ⟨z, h1, h2⟩ := hv 3 _ rfl; cases h1; exact h2.symm
    have hx4 : (fun v W => W.ownsRow w.heap.size 22 1 v ws.length (ws.map (Value.int .u64))) x4_ W := by obtain ⟨z, h1, h2⟩ := hv 4 _ rfl; cases h1; exact h2
    obtain rfl : (.pointer (some ⟨mb, 0, none⟩)) = x5_ := by obtain ⟨z, h1, h2⟩ := hv 5 _ rfl; cases h1; exact h2.symm
    obtain rfl : (.pointer (some ⟨mb, 0, none⟩)) = x6_ := by obtain ⟨z, h1, h2⟩ := hv 6 _ rfl; cases h1; exact h2.symm
    obtain rfl : (.pointer (some ⟨mb, 1, none⟩)) = x7_ := by obtain ⟨z, h1, h2⟩ := hv 7 _ rfl; cases h1; exact h2.symm
    obtain rfl : (.slice ai js.length ci) = x8_ := by obtain ⟨z, h1, h2⟩ := hv 8 _ rfl; cases h1; exact h2.symm
    have hx9 : (fun v W => W.ownsRow w.heap.size 22 1 v js.length (js.map (Value.int .u64))) x9_ W := by obtain ⟨z, h1, h2⟩ := hv 9 _ rfl; cases h1; exact h2
    obtain rfl : (.pointer (some ⟨mb, 0, none⟩)) = x10_ := by obtain ⟨z, h1, h2⟩ := hv 10 _ rfl; cases h1; exact h2.symm
    obtain rfl : (.pointer (some ⟨mb, 0, none⟩)) = x11_ := by obtain ⟨z, h1, h2⟩ := hv 11 _ rfl; cases h1; exact h2.symm
    obtain rfl : (.pointer (some ⟨mb, 2, none⟩)) = x12_ := by obtain ⟨z, h1, h2⟩ := hv 12 _ rfl; cases h1; exact h2.symm
    obtain rfl : (.map (some ml)) = x13_ := by obtain ⟨z, h1, h2⟩ := hv 13 _ rfl; cases h1; exact h2.symm
    have hx14 : (fun v W => ∃ mo n' D' sl' mk', v = .map (some mo) ∧ CpJ w mo D mk F W n' D' sl' mk') x14_ W := by obtain ⟨z, h1, h2⟩ := hv 14 _ rfl; cases h1; exact h2
    obtain rfl : (.pointer (some ⟨mb, 0, none⟩)) = x15_ := by obtain ⟨z, h1, h2⟩ := hv 15 _ rfl; cases h1; exact h2.symm
    obtain rfl : (.pointer (some ⟨mb, 0, none⟩)) = x16_ := by obtain ⟨z, h1, h2⟩ := hv 16 _ rfl; cases h1; exact h2.symm
    obtain rfl : (.pointer (some ⟨mb, 3, none⟩)) = x17_ := by obtain ⟨z, h1, h2⟩ := hv 17 _ rfl; cases h1; exact h2.symm
    obtain rfl : (.agg #[.int .u64 lo, .int .u64 st, .int .u64 fl, .int .u64 fe]) = x18_ := by obtain ⟨z, h1, h2⟩ := hv 18 _ rfl; cases h1; exact h2.symm
    have hx19 : (fun v W => ∃ v1 v2 mo, v = .agg (memCells v1 v2 mo lo st fl fe) ∧ CpM w ws js D mk F v1 v2 mo W) x19_ W := by obtain ⟨z, h1, h2⟩ := hv 19 _ rfl; cases h1; exact h2
    have hx20 : (fun v W => ∃ v1 v2 mo cb, v = .pointer (some ⟨cb, 0, none⟩) ∧ w.heap.size ≤ cb ∧ Blk W cb (memCells v1 v2 mo lo st fl fe) 74 ∧ CpM w ws js D mk F v1 v2 mo W) x20_ W := by obtain ⟨z, h1, h2⟩ := hv 20 _ rfl; cases h1; exact h2
    have hx21 : (fun v W => ∃ v1 v2 mo cb, v = .pointer (some ⟨cb, 0, none⟩) ∧ w.heap.size ≤ cb ∧ Blk W cb (memCells v1 v2 mo lo st fl fe) 74 ∧ CpM w ws js D mk F v1 v2 mo W) x21_ W := by obtain ⟨z, h1, h2⟩ := hv 21 _ rfl; cases h1; exact h2
    intro L hall hG
    clear hv hlen
    have HX := Lib.hid hx21
    have HG := Lib.hid hG.1
    clear hG hall hx4 hx9 hx14 hx19 hx20 hx21
    simp only [fill, if_true]
    simp [Act.put]
  --END
    go_wp2_with (fail)
    go_ret
    obtain ⟨v1, v2, mo, cb, e1, hcb, hbk, hM⟩ := HX.out
    obtain ⟨n', D', sl', mk', hj⟩ := hM.l
    obtain ⟨q1, q2, q3, q4, q5, q6, q7⟩ := HFin.out
    obtain ⟨r1, r2, r3⟩ := H00.out
    have hmbC : MemB W cb ws js v1 v2 mo lo st fl fe := ⟨hbk, own_mono hM.v (Nat.zero_le _), own_mono hM.i (Nat.zero_le _)⟩
    have hty : ∀ v n xs i, W.ownsRow w.heap.size 22 1 v n xs → v.ownBlock = some i → i ≠ mo := fun v n xs i h e1 e2 => by
      obtain ⟨C, hC⟩ := own_type h e1
      obtain ⟨es, clock, hb, _⟩ := hj.o
      rw [e2, hb] at hC; cases hC
    have hLi : ∀ a i, (sl' a).ownBlock = some i → ∃ C, W.heap[i]? = some (.cells C 25 (0, 0)) := fun a i hi => (hj.r a).isCells hi
    subst e1
    refine ⟨cb, mk', rfl, ⟨W.heap.size, v1, v2, mo, D', sl', ⟨hmbC, own_tight hj.o q1 (fun a ha => q2 a (hj.h a ha)), hj.e, fun a => (hj.r a).lower (Nat.zero_le _), hj.d, fun i hi => ?_, ⟨fun e => ?_, fun e => hty _ _ _ _ hM.v e rfl, fun e => hty _ _ _ _ hM.i e rfl⟩, hM.x, fun a i hi => ⟨fun e => ?_, fun e => ?_, fun e => ?_, fun e => ?_⟩⟩, Nat.le_refl _, hcb, hj.mo, fun i hi => own_base hM.i i hi, q5, q7, q1, q4, fun a i => ?_, fun a ha => q2 a (hj.h a ha)⟩, HG.out⟩
    · rcases hi with h | h | h | h
      · rw [h]; exact hbk.lt
      · rw [h]; exact hj.o.lt
      · exact own_ltS hM.v h
      · exact own_ltS hM.i h
    · obtain ⟨es, clock, hb, _⟩ := hj.o
      rw [e, hbk] at hb; cases hb
    · obtain ⟨C, hC⟩ := hLi a i hi
      rw [e, hbk] at hC
      exact absurd (Obj.cells.inj (Option.some.inj hC)).2.1 (by decide)
    · exact ownL_notRow hj.o (hj.r a) (by rw [hi, e])
    · obtain ⟨C, hC⟩ := hLi a i hi
      obtain ⟨C2, hC2⟩ := own_type hM.v e
      rw [hC] at hC2
      exact absurd (Obj.cells.inj (Option.some.inj hC2)).2.1 (by decide)
    · obtain ⟨C, hC⟩ := hLi a i hi
      obtain ⟨C2, hC2⟩ := own_type hM.i e
      rw [hC] at hC2
      exact absurd (Obj.cells.inj (Option.some.inj hC2)).2.1 (by decide)
    · show 0 ≤ mk' a i ∧ mk' a i ≤ st
      rcases hj.m a i with h | h
      · rw [h]; exact ⟨Int.le_refl _, r1⟩
      · rw [h]; exact q3 a i
/-- a copy that crashed, and what lasted of it -/
theorem copy_crash {w : World} {B cb : Nat} {M : MSt} (h : MemK w B cb M) (hBw : B ≤ w.heap.size) (hn : M.vs.length ≤ 1000) (hst : M.st ≤ 1000000) (p : Option Addr) (cK : Nat) (ks : List Int) (hks : ks.length ≤ 1000) (hk64 : ∀ x ∈ ks, -9223372036854775808 ≤ x ∧ x ≤ 9223372036854775807)
    (hka : 0 < ks.length → ∃ g o, p = some ⟨g, o, none⟩ ∧ g < B ∧ ∀ i, i < ks.length → w.cell? ⟨g, o + i, none⟩ = some (.int .i64 (ks.getD i 0))) :
    Calls Try.prog 23 #[.pointer (some ⟨cb, 0, none⟩), .slice p ks.length cK] w fun e w' => e = .returned (.tuple #[]) ∧ ∃ (isF : List Int) (Q : Int → Nat), isF.length = M.is.length ∧ (∀ k, isF.getD k 0 = (lastIm M.is ((M.F (lnW k)).take (Q (lnW k)))).getD k 0) ∧ Below B w w' ∧
      (U64s isF → ∀ W, Below w'.heap.size w' W → Calls Try.prog 19 #[.pointer (some ⟨cb, 0, none⟩)] W fun e w2 => ∃ v, e = .returned v ∧ w2.ownsRow W.heap.size 5 1 v (bytesW isF).length (bvals (bytesW isF)) ∧ Below W.heap.size W w2) := by
  obtain ⟨N0, vv, vi, ml, D, sl, hm, hN, hcb, hml, hvi, hp, hi, hok, hF, hmk, hh⟩ := h
  refine (callsIn_wide.1 (crash_q w N0 cb M.vs M.is vv vi ml M.vs.length D sl M.mk M.F M.lo M.st M.fl M.fe hm (fun a c => by have := hmk a c; omega) (by rw [hi]; exact hok) (fun a => by have := hF a; omega) hh hN hp (by omega) hn p cK ks hks hk64 (fun h0 => by
    obtain ⟨g, o, e, hg, hc⟩ := hka h0
    exact ⟨g, o, e, by omega, by omega, fun e => by have := hvi g e; omega, hc⟩))).mono ?_
  rintro e w' ⟨rfl, isF, vvF, xs, _, hlen, himg, hmb, ho, hvb, hk⟩
  refine ⟨rfl, isF, _, hlen, himg, ?_, fun hu W hB => ?_⟩
  · refine (Below.refl B w).keeps hBw hk (fun i h => ?_)
    rcases h with h | h | h | h
    · omega
    · omega
    · exact hvi i h
    · omega
  · exact image_v W cb isF isF vvF vi ml M.lo M.st M.fl M.fe (hmb.below hB) (by omega) (by omega) (by omega) hu
end Go.Proofs.Ytefgahcadfmmoaa
