/-
  leveelaw09.behind: a contract.
-/
import Derived.Test.YtbpaefhihdhdeaaPf
import Derived.Test.YtbpaefhihdhdeaaRc
import Derived.Deep.DeepCutAuto
namespace Go.Proofs.Ytbpaefhihdhdeaa
open Go.RowKit
set_option linter.unusedVariables false

/-- entries, in a row of their own -/
def RowV (B : Nat) (l : List (Int × Int)) (v : Value) (W : World) : Prop := W.ownsRow B 60 2 v l.length (ecells l)
theorem foldl_take {l : List (Int × Int)} {k : Nat} (hk : k < l.length) (F : List (Int × Int) × Bool → Int × Int → List (Int × Int) × Bool) (i : List (Int × Int) × Bool) :
    (l.take (k + 1)).foldl F i = F ((l.take k).foldl F i) (eK l k, eP l k) := by
  rw [List.take_succ_eq_append_getElem hk, List.foldl_append, ent_get hk]; rfl
theorem RowV.snoc {B : Nat} {l : List (Int × Int)} {v : Value} {W : World} {a x : Int} (h : W.ownsRow B 60 2 v (l.length + 1) (ecells l ++ [.int .u64 a, .int .u64 x])) : RowV B (l ++ [(a, x)]) v W := by
  unfold RowV
  rw [ecells_snoc, List.length_append]
  exact h
theorem RowV.mono {B B' : Nat} {l : List (Int × Int)} {v : Value} {w : World} (h : RowV B l v w) (hb : B' ≤ B) : RowV B' l v w := own_mono h hb
theorem behE_len (kd key ptr : Int) (e : Int × Int) : (behE kd key ptr e).length ≤ 1 := by
  unfold behE
  split
  · simp
  split
  · simp
  split <;> simp
theorem behE_flat (kd key ptr : Int) : ∀ (l : List (Int × Int)), (l.flatMap (behE kd key ptr)).length ≤ l.length
  | [] => by simp
  | e :: r => by
    rw [List.flatMap_cons, List.length_append, List.length_cons]
    have := behE_flat kd key ptr r
    have := behE_len kd key ptr e
    omega
theorem flat_take {l : List (Int × Int)} {k : Nat} (hk : k < l.length) (F : Int × Int → List (Int × Int)) : (l.take (k + 1)).flatMap F = (l.take k).flatMap F ++ F (eK l k, eP l k) := by
  rw [List.take_succ_eq_append_getElem hk, List.flatMap_append, ent_get hk]; simp
theorem own_any {w : World} {base : Nat} {e : TypeId} {v : Value} {l : List (Int × Int)} (h : w.ownsRow base e 2 v l.length (ecells l)) :
    ∃ a c g, v = .slice a l.length c ∧ (0 < l.length → a = some ⟨g, 0, none⟩) ∧ EntsAt w g 0 l ∧ (0 < l.length → g < w.heap.size) := by
  by_cases hp : 0 < l.length
  · obtain ⟨g, cap, rfl, _, h2, _, _, hE⟩ := own_ents h rfl hp
    exact ⟨_, cap, g, rfl, fun _ => rfl, hE, fun _ => h2⟩
  · obtain ⟨a, n, c, rfl⟩ := own_slice h
    have : n = l.length := own_len h
    subst this
    exact ⟨a, c, 0, rfl, fun h => absurd h hp, fun i hi => absurd hi (by omega), fun h => absurd h hp⟩
/-- the worlds on its way -/
structure BeW (w1 : World) (b3 g : Nat) (kind key ptr : Int) (l : List (Int × Int)) (W : World) : Prop where
  ask : Blk W b3 (askC kind key ptr) 39
  ent : EntsAt W g 0 l
  b : Below w1.heap.size w1 W
  l3 : b3 < w1.heap.size
  lg : 0 < l.length → g < w1.heap.size
section
variable {w1 W W' : World} {b3 g : Nat} {kind key ptr : Int} {l : List (Int × Int)}
theorem BeW.keep (h : BeW w1 b3 g kind key ptr l W) (hB : Below w1.heap.size W W') : BeW w1 b3 g kind key ptr l W' :=
  ⟨h.ask.below hB h.l3, fun i hi => (h.ent.below hB (h.lg (by omega))) i hi, h.b.trans hB, h.l3, h.lg⟩
theorem BeW.app {v : Value} {n : Nat} {xs : List Value} {C : Array Value} {t : TypeId} (h : BeW w1 b3 g kind key ptr l W) (ho : W.ownsRow w1.heap.size 60 2 v n xs) (hg : (W.alloc (.cells C t)).grownBy W' v.ownBlock) : BeW w1 b3 g kind key ptr l W' :=
  h.keep (((Below.refl _ _).alloc h.b.size _).grown hg (by simp; have := h.b.size; omega) (fun r e => own_base ho _ e))
theorem BeW.facts (h : BeW w1 b3 g kind key ptr l W) {k : Nat} (hk : k < l.length) {ek ep : Int} (e1 : eK l k = ek) (e2 : eP l k = ep) :
    W.cell? ⟨g, k * 2, none⟩ = some (.int .u64 ek) ∧ W.cell? ⟨g, k * 2 + 1, none⟩ = some (.int .u64 ep) ∧ W.cell? ⟨b3, 0, none⟩ = some (.int .i64 kind) ∧ W.cell? ⟨b3, 1, none⟩ = some (.int .u64 key) ∧ W.cell? ⟨b3, 2, none⟩ = some (.int .u64 ptr) := by
  obtain ⟨c1, c2⟩ := h.ent k hk
  rw [Nat.zero_add] at c1 c2
  subst e1 e2
  exact ⟨c1, c2, by rw [h.ask.cell]; rfl, by rw [h.ask.cell]; rfl, by rw [h.ask.cell]; rfl⟩
end




/-! ### of kind 2, 5 -/
set_option maxRecDepth 100000 in
set_option maxHeartbeats 6400000 in
theorem behind_same (d : Int) (hd5 : d = 2 ∨ d = 5) (n : Nd) (kind key ptr : Int) (w : World) (hkd : kdOf kind = d) :
    Calls Try.prog 16 #[.agg (ndCells n), .agg (askC kind key ptr)] w fun e w' => ∃ v, e = .returned v ∧ RowV w.heap.size (behL d key ptr n.valid) v w' ∧ Below w.heap.size w w' := by
  have d0 : (d == 0) = false := beq_eq_false_iff_ne.2 (by omega)
  have d1 : (d == 1) = false := beq_eq_false_iff_ne.2 (by omega)
  have d3 : (d == 3) = false := beq_eq_false_iff_ne.2 (by omega)
  have d4 : (d == 4) = false := beq_eq_false_iff_ne.2 (by omega)
  obtain ⟨i0, hi, hz0, hz1, hz2⟩ := info_parts Try.info60
  have HI := Lib.hid (info27 n)
  have hk0 : Blk ((w.alloc (.cells (ndCells n) 27)).alloc (.cells (askC kind key ptr) 39)) w.heap.size (ndCells n) 27 := (Blk.new w _ _).alloc _
  have hg0 : Blk ((w.alloc (.cells (ndCells n) 27)).alloc (.cells (askC kind key ptr) 39)) (w.heap.size + 1) (askC kind key ptr) 39 := by
    have := Blk.new (w.alloc (.cells (ndCells n) 27)) (askC kind key ptr) 39
    simpa using this
  have HL0 := Lib.hid (ndLoad hk0)
  have HG0 := Lib.hid hg0
  have HB0 := Lib.hid (((Below.refl w.heap.size w).alloc (Nat.le_refl _) (.cells (ndCells n) 27)).alloc (by simp) (.cells (askC kind key ptr) 39))
  obtain ⟨u, hu⟩ : ∃ u, IntKind.u64.wrap kind = u := ⟨_, rfl⟩
  have hu0 : 0 ≤ u := by rw [← hu, IntKind.wrap_u64]; omega
  have hd : u % 6 = d := by rw [← hu]; exact hkd
  have HV8 := Lib.hid (show n.valid.length ≤ 8 by have := plN_len n; simpa [Nd.valid] using this)
  clear hk0 hg0 hkd
  unfold askC at HL0 HB0 ⊢
  go_enter Try.func16, Try.ntmps16
  go_wp2_with (with_reducible refine wpList_load_part (o := ⟨some 9, _, _, _, _, _⟩) rfl 27 _ rfl w.heap.size 0 rfl (ndCells n) _ HL0.out Try.underlying27 rfl HI.out ?_)
  refine (rvalid_calls n _).mono ?_
  rintro e w1 ⟨v, rfl, hv, hB⟩
  have HB1 := Lib.hid (HB0.out.trans (hB.mono HB0.out.size))
  have HG1 := Lib.hid (HG0.out.below hB HG0.out.lt)
  obtain ⟨l, hl⟩ : ∃ l, n.valid = l := ⟨_, rfl⟩
  have HLE := Lib.hid hl
  rw [hl] at hv HV8
  have hl8 := HV8.out
  obtain ⟨a, c, g, rfl, hA, hE, hgl⟩ := own_any hv
  obtain ⟨b3, hb3⟩ : ∃ x, w.heap.size + 1 = x := ⟨_, rfl⟩
  rw [hb3] at HG1 ⊢
  have HA := Lib.hid hA
  have HW1 := Lib.hid (show BeW w1 b3 g kind key ptr l w1 from ⟨HG1.out, hE, Below.refl _ _, HG1.out.lt, hgl⟩)
  have q0 : w1.cell? ⟨b3, 0, none⟩ = some (.int .i64 kind) := by rw [HG1.out.cell]; rfl
  clear hB hl hv hA hE hgl hb3 HG0 HL0 HG1
  go_wp2_with (fail)
  go_loopw [6, 7, 8] (fun ov bv iv wr => ∃ k : Nat, k ≤ l.length ∧ iv = .int .i64 k ∧ bv = .bool false ∧ Hid (RowV w1.heap.size ((l.take k).flatMap (behE d key ptr)) ov wr) ∧ Hid (BeW w1 b3 g kind key ptr l wr)) (fun _ _ iv _ => l.length - (intOf iv).toNat)
  case atStart => exact ⟨0, Nat.zero_le _, rfl, rfl, Lib.hid (World.ownsRow_nil _ _ _ _), HW1⟩
  case round =>
    obtain ⟨k, hk, rfl, rfl, HO, HW⟩ := hrel
    clear HW1 q0
    by_cases hlt : k < l.length
    · skip
      have b1 : (k : Int) < (l.length : Int) := by omega
      have b2 : ((k : Int)).toNat = k := by omega
      obtain rfl := HA.out (by omega)
      obtain ⟨ek, he1⟩ : ∃ x, eK l k = x := ⟨_, rfl⟩
      obtain ⟨ep, he2⟩ : ∃ x, eP l k = x := ⟨_, rfl⟩
      have HE1 := Lib.hid he1
      have HE2 := Lib.hid he2
      have HTk := Lib.hid (flat_take hlt (behE d key ptr))
      have HLa := Lib.hid (show ((l.take k).flatMap (behE d key ptr)).length ≤ 20 by have := behE_flat d key ptr (l.take k); rw [List.length_take] at this; omega)
      rw [he1, he2] at HTk
      obtain ⟨acc, hacc⟩ : ∃ x, (l.take k).flatMap (behE d key ptr) = x := ⟨_, rfl⟩
      rw [hacc] at HO HTk HLa
      clear he1 he2 hacc
      obtain ⟨c1, c2, a0, a1, a2⟩ := HW.out.facts hlt HE1.out HE2.out
      go_upto_region 7 with (fail)
      go_quiet (fail)
      have HO2 := Lib.hid (show RowV w1.heap.size acc u6 (wr.drewN nq) from HO.out)
      have HW2 := Lib.hid (HW.out.keep (below_drewN (Below.refl _ _) nq))
      clear c1 c2 a0 a1 a2
      generalize wr.drewN nq = w2 at *
      clear nq
      have HStep := Lib.hid (show acc ++ [(ek, ep)] = (l.take (k + 1)).flatMap (behE d key ptr) by rw [HTk.out]; unfold behE; rw [if_neg (by omega), if_neg (by omega), if_neg (by omega)])
      obtain ⟨c1, c2, a0, a1, a2⟩ := HW2.out.facts hlt HE1.out HE2.out
      go_upto_region 18 with (fail)
      go_upto_region 6 with (at_builtin; refine wpList_append_own _ rfl (.tmp 83) (.tmp 88) 46 rfl w1.heap.size 60 i0 _ 2 16 Try.underlying46 hi hz0 hz1 hz2 rfl (by decide) _ _ _ rfl (World.ownsRow.alloc HO2.out _) ⟨_, 0, none⟩ 1 1 [.int .u64 ek, .int .u64 ep] rfl rfl (World.news_of_block (cs := #[.int .u64 ek, .int .u64 ep]) (t := 60) (fr := (0, 0)) (heap_alloc_new _ _)) (by simp [Value.oneCell']) (by unfold maxLen; have := HLa.out; omega) (by have := HLa.out; omega) (by simp; have := HW2.out.b.size; omega) ?_; intro v3 w3 hown3 hg3 _)
      have HO3 := Lib.hid (RowV.snoc hown3)
      have HW3 := Lib.hid (HW2.out.app HO2.out hg3)
      clear hown3 hg3
      clear c1 c2 a0 a1 a2 HLa
      go_wp2_with (fail)
      go_roundw
      case rel => exact ⟨_, _, _, ⟨k + 1, by omega, by go_num, rfl, Lib.hid (by have := HO3.out; rwa [HStep.out] at this)⟩, rfl, rfl, rfl⟩
      case measure => simp [intOf]; omega
    · have HFin := Lib.hid (show behL d key ptr n.valid = (l.take k).flatMap (behE d key ptr) by rw [HLE.out, List.take_of_length_le (by omega)]; exact behL_other (by omega) l)
      by_cases hb : False
      · exact hb.elim
      · have HO3 := Lib.hid (show RowV w1.heap.size (behL d key ptr n.valid) u6 wr by rw [HFin.out]; exact HO.out)
        have HBf := Lib.hid (HB1.out.trans (HW.out.b.mono HB1.out.size))
        have HR := Lib.hid (RowV.mono HO3.out HB1.out.size)
        have b1 : ¬ (k : Int) < (l.length : Int) := by omega
        clear hb
        go_wp2_with (fail)
        go_ret
        exact ⟨_, rfl, HR.out, HBf.out⟩

/-! ### of kind 1 -/
set_option maxRecDepth 100000 in
set_option maxHeartbeats 6400000 in
theorem behind_del (n : Nd) (kind key ptr : Int) (w : World) (hkd : kdOf kind = 1) :
    Calls Try.prog 16 #[.agg (ndCells n), .agg (askC kind key ptr)] w fun e w' => ∃ v, e = .returned v ∧ RowV w.heap.size (behL 1 key ptr n.valid) v w' ∧ Below w.heap.size w w' := by
  obtain ⟨i0, hi, hz0, hz1, hz2⟩ := info_parts Try.info60
  have HI := Lib.hid (info27 n)
  have hk0 : Blk ((w.alloc (.cells (ndCells n) 27)).alloc (.cells (askC kind key ptr) 39)) w.heap.size (ndCells n) 27 := (Blk.new w _ _).alloc _
  have hg0 : Blk ((w.alloc (.cells (ndCells n) 27)).alloc (.cells (askC kind key ptr) 39)) (w.heap.size + 1) (askC kind key ptr) 39 := by
    have := Blk.new (w.alloc (.cells (ndCells n) 27)) (askC kind key ptr) 39
    simpa using this
  have HL0 := Lib.hid (ndLoad hk0)
  have HG0 := Lib.hid hg0
  have HB0 := Lib.hid (((Below.refl w.heap.size w).alloc (Nat.le_refl _) (.cells (ndCells n) 27)).alloc (by simp) (.cells (askC kind key ptr) 39))
  obtain ⟨u, hu⟩ : ∃ u, IntKind.u64.wrap kind = u := ⟨_, rfl⟩
  have hu0 : 0 ≤ u := by rw [← hu, IntKind.wrap_u64]; omega
  have hd : u % 6 = 1 := by rw [← hu]; exact hkd
  have HV8 := Lib.hid (show n.valid.length ≤ 8 by have := plN_len n; simpa [Nd.valid] using this)
  clear hk0 hg0 hkd
  unfold askC at HL0 HB0 ⊢
  go_enter Try.func16, Try.ntmps16
  go_wp2_with (with_reducible refine wpList_load_part (o := ⟨some 9, _, _, _, _, _⟩) rfl 27 _ rfl w.heap.size 0 rfl (ndCells n) _ HL0.out Try.underlying27 rfl HI.out ?_)
  refine (rvalid_calls n _).mono ?_
  rintro e w1 ⟨v, rfl, hv, hB⟩
  have HB1 := Lib.hid (HB0.out.trans (hB.mono HB0.out.size))
  have HG1 := Lib.hid (HG0.out.below hB HG0.out.lt)
  obtain ⟨l, hl⟩ : ∃ l, n.valid = l := ⟨_, rfl⟩
  have HLE := Lib.hid hl
  rw [hl] at hv HV8
  have hl8 := HV8.out
  obtain ⟨a, c, g, rfl, hA, hE, hgl⟩ := own_any hv
  obtain ⟨b3, hb3⟩ : ∃ x, w.heap.size + 1 = x := ⟨_, rfl⟩
  rw [hb3] at HG1 ⊢
  have HA := Lib.hid hA
  have HW1 := Lib.hid (show BeW w1 b3 g kind key ptr l w1 from ⟨HG1.out, hE, Below.refl _ _, HG1.out.lt, hgl⟩)
  have q0 : w1.cell? ⟨b3, 0, none⟩ = some (.int .i64 kind) := by rw [HG1.out.cell]; rfl
  clear hB hl hv hA hE hgl hb3 HG0 HL0 HG1
  go_wp2_with (fail)
  go_loopw [6, 7, 8] (fun ov bv iv wr => ∃ k : Nat, k ≤ l.length ∧ iv = .int .i64 k ∧ bv = .bool false ∧ Hid (RowV w1.heap.size ((l.take k).flatMap (behE 1 key ptr)) ov wr) ∧ Hid (BeW w1 b3 g kind key ptr l wr)) (fun _ _ iv _ => l.length - (intOf iv).toNat)
  case atStart => exact ⟨0, Nat.zero_le _, rfl, rfl, Lib.hid (World.ownsRow_nil _ _ _ _), HW1⟩
  case round =>
    obtain ⟨k, hk, rfl, rfl, HO, HW⟩ := hrel
    clear HW1 q0
    by_cases hlt : k < l.length
    · skip
      have b1 : (k : Int) < (l.length : Int) := by omega
      have b2 : ((k : Int)).toNat = k := by omega
      obtain rfl := HA.out (by omega)
      obtain ⟨ek, he1⟩ : ∃ x, eK l k = x := ⟨_, rfl⟩
      obtain ⟨ep, he2⟩ : ∃ x, eP l k = x := ⟨_, rfl⟩
      have HE1 := Lib.hid he1
      have HE2 := Lib.hid he2
      have HTk := Lib.hid (flat_take hlt (behE 1 key ptr))
      have HLa := Lib.hid (show ((l.take k).flatMap (behE 1 key ptr)).length ≤ 20 by have := behE_flat 1 key ptr (l.take k); rw [List.length_take] at this; omega)
      rw [he1, he2] at HTk
      obtain ⟨acc, hacc⟩ : ∃ x, (l.take k).flatMap (behE 1 key ptr) = x := ⟨_, rfl⟩
      rw [hacc] at HO HTk HLa
      clear he1 he2 hacc
      obtain ⟨c1, c2, a0, a1, a2⟩ := HW.out.facts hlt HE1.out HE2.out
      go_upto_region 7 with (fail)
      go_quiet (fail)
      have HO2 := Lib.hid (show RowV w1.heap.size acc u6 (wr.drewN nq) from HO.out)
      have HW2 := Lib.hid (HW.out.keep (below_drewN (Below.refl _ _) nq))
      clear c1 c2 a0 a1 a2
      generalize wr.drewN nq = w2 at *
      clear nq
      cases hq : (ek == key)
      · have hne : ek ≠ key := by simpa using hq
        obtain ⟨c1, c2, a0, a1, a2⟩ := HW2.out.facts hlt HE1.out HE2.out
        go_upto_region 12 with (fail)
        go_quiet (fail)
        have HO4 := Lib.hid (show RowV w1.heap.size acc u6 (w2.drewN nq) from HO2.out)
        have HW4 := Lib.hid (HW2.out.keep (below_drewN (Below.refl _ _) nq))
        clear c1 c2 a0 a1 a2
        generalize w2.drewN nq = w4 at *
        clear nq
        clear hq
        have HStep := Lib.hid (show acc ++ [(ek, ep)] = (l.take (k + 1)).flatMap (behE 1 key ptr) by rw [HTk.out]; unfold behE; rw [if_neg (fun h => hne h.2), if_neg (by omega), if_neg (by omega)])
        obtain ⟨c1, c2, a0, a1, a2⟩ := HW4.out.facts hlt HE1.out HE2.out
        go_upto_region 18 with (fail)
        go_upto_region 6 with (at_builtin; refine wpList_append_own _ rfl (.tmp 83) (.tmp 88) 46 rfl w1.heap.size 60 i0 _ 2 16 Try.underlying46 hi hz0 hz1 hz2 rfl (by decide) _ _ _ rfl (World.ownsRow.alloc HO4.out _) ⟨_, 0, none⟩ 1 1 [.int .u64 ek, .int .u64 ep] rfl rfl (World.news_of_block (cs := #[.int .u64 ek, .int .u64 ep]) (t := 60) (fr := (0, 0)) (heap_alloc_new _ _)) (by simp [Value.oneCell']) (by unfold maxLen; have := HLa.out; omega) (by have := HLa.out; omega) (by simp; have := HW4.out.b.size; omega) ?_; intro v3 w3 hown3 hg3 _)
        have HO3 := Lib.hid (RowV.snoc hown3)
        have HW3 := Lib.hid (HW4.out.app HO4.out hg3)
        clear hown3 hg3
        clear c1 c2 a0 a1 a2 HLa
        go_wp2_with (fail)
        go_roundw
        case rel => exact ⟨_, _, _, ⟨k + 1, by omega, by go_num, rfl, Lib.hid (by have := HO3.out; rwa [HStep.out] at this)⟩, rfl, rfl, rfl⟩
        case measure => simp [intOf]; omega
      · have heq : ek = key := by simpa using hq
        obtain ⟨c1, c2, a0, a1, a2⟩ := HW2.out.facts hlt HE1.out HE2.out
        go_upto_region 12 with (fail)
        go_quiet (fail)
        have HO4 := Lib.hid (show RowV w1.heap.size acc u6 (w2.drewN nq) from HO2.out)
        have HW4 := Lib.hid (HW2.out.keep (below_drewN (Below.refl _ _) nq))
        clear c1 c2 a0 a1 a2
        generalize w2.drewN nq = w4 at *
        clear nq
        have HEQ := Lib.hid heq
        clear hq heq
        have HStep := Lib.hid (show acc = (l.take (k + 1)).flatMap (behE 1 key ptr) by rw [HTk.out]; unfold behE; rw [if_pos ⟨rfl, HEQ.out⟩]; simp)
        go_wp2_with (fail)
        go_roundw
        case rel => exact ⟨k + 1, by omega, by go_num, rfl, Lib.hid (by have := HO4.out; rwa [HStep.out] at this), HW4⟩
        case measure => simp [intOf]; omega
    · have HFin := Lib.hid (show behL 1 key ptr n.valid = (l.take k).flatMap (behE 1 key ptr) by rw [HLE.out, List.take_of_length_le (by omega)]; exact behL_other (by omega) l)
      by_cases hb : False
      · exact hb.elim
      · have HO3 := Lib.hid (show RowV w1.heap.size (behL 1 key ptr n.valid) u6 wr by rw [HFin.out]; exact HO.out)
        have HBf := Lib.hid (HB1.out.trans (HW.out.b.mono HB1.out.size))
        have HR := Lib.hid (RowV.mono HO3.out HB1.out.size)
        have b1 : ¬ (k : Int) < (l.length : Int) := by omega
        clear hb
        go_wp2_with (fail)
        go_ret
        exact ⟨_, rfl, HR.out, HBf.out⟩

/-! ### of kind 3 -/
set_option maxRecDepth 100000 in
set_option maxHeartbeats 6400000 in
theorem behind_swap (n : Nd) (kind key ptr : Int) (w : World) (hkd : kdOf kind = 3) :
    Calls Try.prog 16 #[.agg (ndCells n), .agg (askC kind key ptr)] w fun e w' => ∃ v, e = .returned v ∧ RowV w.heap.size (behL 3 key ptr n.valid) v w' ∧ Below w.heap.size w w' := by
  obtain ⟨i0, hi, hz0, hz1, hz2⟩ := info_parts Try.info60
  have HI := Lib.hid (info27 n)
  have hk0 : Blk ((w.alloc (.cells (ndCells n) 27)).alloc (.cells (askC kind key ptr) 39)) w.heap.size (ndCells n) 27 := (Blk.new w _ _).alloc _
  have hg0 : Blk ((w.alloc (.cells (ndCells n) 27)).alloc (.cells (askC kind key ptr) 39)) (w.heap.size + 1) (askC kind key ptr) 39 := by
    have := Blk.new (w.alloc (.cells (ndCells n) 27)) (askC kind key ptr) 39
    simpa using this
  have HL0 := Lib.hid (ndLoad hk0)
  have HG0 := Lib.hid hg0
  have HB0 := Lib.hid (((Below.refl w.heap.size w).alloc (Nat.le_refl _) (.cells (ndCells n) 27)).alloc (by simp) (.cells (askC kind key ptr) 39))
  obtain ⟨u, hu⟩ : ∃ u, IntKind.u64.wrap kind = u := ⟨_, rfl⟩
  have hu0 : 0 ≤ u := by rw [← hu, IntKind.wrap_u64]; omega
  have hd : u % 6 = 3 := by rw [← hu]; exact hkd
  have HV8 := Lib.hid (show n.valid.length ≤ 8 by have := plN_len n; simpa [Nd.valid] using this)
  clear hk0 hg0 hkd
  unfold askC at HL0 HB0 ⊢
  go_enter Try.func16, Try.ntmps16
  go_wp2_with (with_reducible refine wpList_load_part (o := ⟨some 9, _, _, _, _, _⟩) rfl 27 _ rfl w.heap.size 0 rfl (ndCells n) _ HL0.out Try.underlying27 rfl HI.out ?_)
  refine (rvalid_calls n _).mono ?_
  rintro e w1 ⟨v, rfl, hv, hB⟩
  have HB1 := Lib.hid (HB0.out.trans (hB.mono HB0.out.size))
  have HG1 := Lib.hid (HG0.out.below hB HG0.out.lt)
  obtain ⟨l, hl⟩ : ∃ l, n.valid = l := ⟨_, rfl⟩
  have HLE := Lib.hid hl
  rw [hl] at hv HV8
  have hl8 := HV8.out
  obtain ⟨a, c, g, rfl, hA, hE, hgl⟩ := own_any hv
  obtain ⟨b3, hb3⟩ : ∃ x, w.heap.size + 1 = x := ⟨_, rfl⟩
  rw [hb3] at HG1 ⊢
  have HA := Lib.hid hA
  have HW1 := Lib.hid (show BeW w1 b3 g kind key ptr l w1 from ⟨HG1.out, hE, Below.refl _ _, HG1.out.lt, hgl⟩)
  have q0 : w1.cell? ⟨b3, 0, none⟩ = some (.int .i64 kind) := by rw [HG1.out.cell]; rfl
  clear hB hl hv hA hE hgl hb3 HG0 HL0 HG1
  go_wp2_with (fail)
  go_loopw [6, 7, 8] (fun ov bv iv wr => ∃ k : Nat, k ≤ l.length ∧ iv = .int .i64 k ∧ bv = .bool false ∧ Hid (RowV w1.heap.size ((l.take k).flatMap (behE 3 key ptr)) ov wr) ∧ Hid (BeW w1 b3 g kind key ptr l wr)) (fun _ _ iv _ => l.length - (intOf iv).toNat)
  case atStart => exact ⟨0, Nat.zero_le _, rfl, rfl, Lib.hid (World.ownsRow_nil _ _ _ _), HW1⟩
  case round =>
    obtain ⟨k, hk, rfl, rfl, HO, HW⟩ := hrel
    clear HW1 q0
    by_cases hlt : k < l.length
    · skip
      have b1 : (k : Int) < (l.length : Int) := by omega
      have b2 : ((k : Int)).toNat = k := by omega
      obtain rfl := HA.out (by omega)
      obtain ⟨ek, he1⟩ : ∃ x, eK l k = x := ⟨_, rfl⟩
      obtain ⟨ep, he2⟩ : ∃ x, eP l k = x := ⟨_, rfl⟩
      have HE1 := Lib.hid he1
      have HE2 := Lib.hid he2
      have HTk := Lib.hid (flat_take hlt (behE 3 key ptr))
      have HLa := Lib.hid (show ((l.take k).flatMap (behE 3 key ptr)).length ≤ 20 by have := behE_flat 3 key ptr (l.take k); rw [List.length_take] at this; omega)
      rw [he1, he2] at HTk
      obtain ⟨acc, hacc⟩ : ∃ x, (l.take k).flatMap (behE 3 key ptr) = x := ⟨_, rfl⟩
      rw [hacc] at HO HTk HLa
      clear he1 he2 hacc
      obtain ⟨c1, c2, a0, a1, a2⟩ := HW.out.facts hlt HE1.out HE2.out
      go_upto_region 7 with (fail)
      go_quiet (fail)
      have HO2 := Lib.hid (show RowV w1.heap.size acc u6 (wr.drewN nq) from HO.out)
      have HW2 := Lib.hid (HW.out.keep (below_drewN (Below.refl _ _) nq))
      clear c1 c2 a0 a1 a2
      generalize wr.drewN nq = w2 at *
      clear nq
      cases hq : (ek == key)
      · have hne : ek ≠ key := by simpa using hq
        obtain ⟨c1, c2, a0, a1, a2⟩ := HW2.out.facts hlt HE1.out HE2.out
        go_upto_region 14 with (fail)
        go_quiet (fail)
        have HO4 := Lib.hid (show RowV w1.heap.size acc u6 (w2.drewN nq) from HO2.out)
        have HW4 := Lib.hid (HW2.out.keep (below_drewN (Below.refl _ _) nq))
        clear c1 c2 a0 a1 a2
        generalize w2.drewN nq = w4 at *
        clear nq
        clear hq
        have HStep := Lib.hid (show acc ++ [(ek, ep)] = (l.take (k + 1)).flatMap (behE 3 key ptr) by rw [HTk.out]; unfold behE; rw [if_neg (by omega), if_neg (fun h => hne h.2), if_neg (by omega)])
        obtain ⟨c1, c2, a0, a1, a2⟩ := HW4.out.facts hlt HE1.out HE2.out
        go_upto_region 18 with (fail)
        go_upto_region 6 with (at_builtin; refine wpList_append_own _ rfl (.tmp 83) (.tmp 88) 46 rfl w1.heap.size 60 i0 _ 2 16 Try.underlying46 hi hz0 hz1 hz2 rfl (by decide) _ _ _ rfl (World.ownsRow.alloc HO4.out _) ⟨_, 0, none⟩ 1 1 [.int .u64 ek, .int .u64 ep] rfl rfl (World.news_of_block (cs := #[.int .u64 ek, .int .u64 ep]) (t := 60) (fr := (0, 0)) (heap_alloc_new _ _)) (by simp [Value.oneCell']) (by unfold maxLen; have := HLa.out; omega) (by have := HLa.out; omega) (by simp; have := HW4.out.b.size; omega) ?_; intro v3 w3 hown3 hg3 _)
        have HO3 := Lib.hid (RowV.snoc hown3)
        have HW3 := Lib.hid (HW4.out.app HO4.out hg3)
        clear hown3 hg3
        clear c1 c2 a0 a1 a2 HLa
        go_wp2_with (fail)
        go_roundw
        case rel => exact ⟨_, _, _, ⟨k + 1, by omega, by go_num, rfl, Lib.hid (by have := HO3.out; rwa [HStep.out] at this)⟩, rfl, rfl, rfl⟩
        case measure => simp [intOf]; omega
      · have heq : ek = key := by simpa using hq
        obtain ⟨c1, c2, a0, a1, a2⟩ := HW2.out.facts hlt HE1.out HE2.out
        go_upto_region 14 with (fail)
        go_quiet (fail)
        have HO4 := Lib.hid (show RowV w1.heap.size acc u6 (w2.drewN nq) from HO2.out)
        have HW4 := Lib.hid (HW2.out.keep (below_drewN (Below.refl _ _) nq))
        clear c1 c2 a0 a1 a2
        generalize w2.drewN nq = w4 at *
        clear nq
        have HEQ := Lib.hid heq
        clear hq heq
        have HStep := Lib.hid (show acc ++ [(key, ptr)] = (l.take (k + 1)).flatMap (behE 3 key ptr) by rw [HTk.out]; unfold behE; rw [if_neg (by omega), if_pos ⟨rfl, HEQ.out⟩])
        obtain ⟨c1, c2, a0, a1, a2⟩ := HW4.out.facts hlt HE1.out HE2.out
        go_upto_region 15 with (fail)
        go_upto_region 6 with (at_builtin; refine wpList_append_own _ rfl (.tmp 65) (.tmp 71) 46 rfl w1.heap.size 60 i0 _ 2 16 Try.underlying46 hi hz0 hz1 hz2 rfl (by decide) _ _ _ rfl (World.ownsRow.alloc HO4.out _) ⟨_, 0, none⟩ 1 1 [.int .u64 key, .int .u64 ptr] rfl rfl (World.news_of_block (cs := #[.int .u64 key, .int .u64 ptr]) (t := 60) (fr := (0, 0)) (heap_alloc_new _ _)) (by simp [Value.oneCell']) (by unfold maxLen; have := HLa.out; omega) (by have := HLa.out; omega) (by simp; have := HW4.out.b.size; omega) ?_; intro v3 w3 hown3 hg3 _)
        have HO3 := Lib.hid (RowV.snoc hown3)
        have HW3 := Lib.hid (HW4.out.app HO4.out hg3)
        clear hown3 hg3
        clear c1 c2 a0 a1 a2 HLa
        go_wp2_with (fail)
        go_roundw
        case rel => exact ⟨_, _, _, ⟨k + 1, by omega, by go_num, rfl, Lib.hid (by have := HO3.out; rwa [HStep.out] at this)⟩, rfl, rfl, rfl⟩
        case measure => simp [intOf]; omega
    · have HFin := Lib.hid (show behL 3 key ptr n.valid = (l.take k).flatMap (behE 3 key ptr) by rw [HLE.out, List.take_of_length_le (by omega)]; exact behL_other (by omega) l)
      by_cases hb : False
      · exact hb.elim
      · have HO3 := Lib.hid (show RowV w1.heap.size (behL 3 key ptr n.valid) u6 wr by rw [HFin.out]; exact HO.out)
        have HBf := Lib.hid (HB1.out.trans (HW.out.b.mono HB1.out.size))
        have HR := Lib.hid (RowV.mono HO3.out HB1.out.size)
        have b1 : ¬ (k : Int) < (l.length : Int) := by omega
        clear hb
        go_wp2_with (fail)
        go_ret
        exact ⟨_, rfl, HR.out, HBf.out⟩

/-! ### of kind 4 -/
set_option maxRecDepth 100000 in
set_option maxHeartbeats 6400000 in
theorem behind_cut (n : Nd) (kind key ptr : Int) (w : World) (hkd : kdOf kind = 4) :
    Calls Try.prog 16 #[.agg (ndCells n), .agg (askC kind key ptr)] w fun e w' => ∃ v, e = .returned v ∧ RowV w.heap.size (behL 4 key ptr n.valid) v w' ∧ Below w.heap.size w w' := by
  obtain ⟨i0, hi, hz0, hz1, hz2⟩ := info_parts Try.info60
  have HI := Lib.hid (info27 n)
  have hk0 : Blk ((w.alloc (.cells (ndCells n) 27)).alloc (.cells (askC kind key ptr) 39)) w.heap.size (ndCells n) 27 := (Blk.new w _ _).alloc _
  have hg0 : Blk ((w.alloc (.cells (ndCells n) 27)).alloc (.cells (askC kind key ptr) 39)) (w.heap.size + 1) (askC kind key ptr) 39 := by
    have := Blk.new (w.alloc (.cells (ndCells n) 27)) (askC kind key ptr) 39
    simpa using this
  have HL0 := Lib.hid (ndLoad hk0)
  have HG0 := Lib.hid hg0
  have HB0 := Lib.hid (((Below.refl w.heap.size w).alloc (Nat.le_refl _) (.cells (ndCells n) 27)).alloc (by simp) (.cells (askC kind key ptr) 39))
  obtain ⟨u, hu⟩ : ∃ u, IntKind.u64.wrap kind = u := ⟨_, rfl⟩
  have hu0 : 0 ≤ u := by rw [← hu, IntKind.wrap_u64]; omega
  have hd : u % 6 = 4 := by rw [← hu]; exact hkd
  have HV8 := Lib.hid (show n.valid.length ≤ 8 by have := plN_len n; simpa [Nd.valid] using this)
  clear hk0 hg0 hkd
  unfold askC at HL0 HB0 ⊢
  go_enter Try.func16, Try.ntmps16
  go_wp2_with (with_reducible refine wpList_load_part (o := ⟨some 9, _, _, _, _, _⟩) rfl 27 _ rfl w.heap.size 0 rfl (ndCells n) _ HL0.out Try.underlying27 rfl HI.out ?_)
  refine (rvalid_calls n _).mono ?_
  rintro e w1 ⟨v, rfl, hv, hB⟩
  have HB1 := Lib.hid (HB0.out.trans (hB.mono HB0.out.size))
  have HG1 := Lib.hid (HG0.out.below hB HG0.out.lt)
  obtain ⟨l, hl⟩ : ∃ l, n.valid = l := ⟨_, rfl⟩
  have HLE := Lib.hid hl
  rw [hl] at hv HV8
  have hl8 := HV8.out
  obtain ⟨a, c, g, rfl, hA, hE, hgl⟩ := own_any hv
  obtain ⟨b3, hb3⟩ : ∃ x, w.heap.size + 1 = x := ⟨_, rfl⟩
  rw [hb3] at HG1 ⊢
  have HA := Lib.hid hA
  have HW1 := Lib.hid (show BeW w1 b3 g kind key ptr l w1 from ⟨HG1.out, hE, Below.refl _ _, HG1.out.lt, hgl⟩)
  have q0 : w1.cell? ⟨b3, 0, none⟩ = some (.int .i64 kind) := by rw [HG1.out.cell]; rfl
  clear hB hl hv hA hE hgl hb3 HG0 HL0 HG1
  go_wp2_with (fail)
  go_loopw [6, 7, 8] (fun ov bv iv wr => ∃ k : Nat, k ≤ l.length ∧ iv = .int .i64 k ∧ bv = .bool false ∧ Hid (RowV w1.heap.size ((l.take k).flatMap (behE 4 key ptr)) ov wr) ∧ Hid (BeW w1 b3 g kind key ptr l wr)) (fun _ _ iv _ => l.length - (intOf iv).toNat)
  case atStart => exact ⟨0, Nat.zero_le _, rfl, rfl, Lib.hid (World.ownsRow_nil _ _ _ _), HW1⟩
  case round =>
    obtain ⟨k, hk, rfl, rfl, HO, HW⟩ := hrel
    clear HW1 q0
    by_cases hlt : k < l.length
    · skip
      have b1 : (k : Int) < (l.length : Int) := by omega
      have b2 : ((k : Int)).toNat = k := by omega
      obtain rfl := HA.out (by omega)
      obtain ⟨ek, he1⟩ : ∃ x, eK l k = x := ⟨_, rfl⟩
      obtain ⟨ep, he2⟩ : ∃ x, eP l k = x := ⟨_, rfl⟩
      have HE1 := Lib.hid he1
      have HE2 := Lib.hid he2
      have HTk := Lib.hid (flat_take hlt (behE 4 key ptr))
      have HLa := Lib.hid (show ((l.take k).flatMap (behE 4 key ptr)).length ≤ 20 by have := behE_flat 4 key ptr (l.take k); rw [List.length_take] at this; omega)
      rw [he1, he2] at HTk
      obtain ⟨acc, hacc⟩ : ∃ x, (l.take k).flatMap (behE 4 key ptr) = x := ⟨_, rfl⟩
      rw [hacc] at HO HTk HLa
      clear he1 he2 hacc
      obtain ⟨c1, c2, a0, a1, a2⟩ := HW.out.facts hlt HE1.out HE2.out
      go_upto_region 7 with (fail)
      go_quiet (fail)
      have HO2 := Lib.hid (show RowV w1.heap.size acc u6 (wr.drewN nq) from HO.out)
      have HW2 := Lib.hid (HW.out.keep (below_drewN (Below.refl _ _) nq))
      clear c1 c2 a0 a1 a2
      generalize wr.drewN nq = w2 at *
      clear nq
      cases hq : decide (key ≤ ek)
      · have hne := of_decide_eq_false hq
        have HNE := Lib.hid hne
        clear hne
        obtain ⟨c1, c2, a0, a1, a2⟩ := HW2.out.facts hlt HE1.out HE2.out
        go_upto_region 17 with (fail)
        go_quiet (fail)
        have HO4 := Lib.hid (show RowV w1.heap.size acc u6 (w2.drewN nq) from HO2.out)
        have HW4 := Lib.hid (HW2.out.keep (below_drewN (Below.refl _ _) nq))
        clear c1 c2 a0 a1 a2
        generalize w2.drewN nq = w4 at *
        clear nq
        clear hq
        have HStep := Lib.hid (show acc ++ [(ek, ep)] = (l.take (k + 1)).flatMap (behE 4 key ptr) by rw [HTk.out]; unfold behE; rw [if_neg (by omega), if_neg (by omega), if_neg (fun h => HNE.out h.2)])
        obtain ⟨c1, c2, a0, a1, a2⟩ := HW4.out.facts hlt HE1.out HE2.out
        go_upto_region 18 with (fail)
        go_upto_region 6 with (at_builtin; refine wpList_append_own _ rfl (.tmp 83) (.tmp 88) 46 rfl w1.heap.size 60 i0 _ 2 16 Try.underlying46 hi hz0 hz1 hz2 rfl (by decide) _ _ _ rfl (World.ownsRow.alloc HO4.out _) ⟨_, 0, none⟩ 1 1 [.int .u64 ek, .int .u64 ep] rfl rfl (World.news_of_block (cs := #[.int .u64 ek, .int .u64 ep]) (t := 60) (fr := (0, 0)) (heap_alloc_new _ _)) (by simp [Value.oneCell']) (by unfold maxLen; have := HLa.out; omega) (by have := HLa.out; omega) (by simp; have := HW4.out.b.size; omega) ?_; intro v3 w3 hown3 hg3 _)
        have HO3 := Lib.hid (RowV.snoc hown3)
        have HW3 := Lib.hid (HW4.out.app HO4.out hg3)
        clear hown3 hg3
        clear c1 c2 a0 a1 a2 HLa
        go_wp2_with (fail)
        go_roundw
        case rel => exact ⟨_, _, _, ⟨k + 1, by omega, by go_num, rfl, Lib.hid (by have := HO3.out; rwa [HStep.out] at this)⟩, rfl, rfl, rfl⟩
        case measure => simp [intOf]; omega
      · have heq := of_decide_eq_true hq
        have HEQ := Lib.hid heq
        clear heq
        obtain ⟨c1, c2, a0, a1, a2⟩ := HW2.out.facts hlt HE1.out HE2.out
        go_upto_region 17 with (fail)
        go_quiet (fail)
        have HO4 := Lib.hid (show RowV w1.heap.size acc u6 (w2.drewN nq) from HO2.out)
        have HW4 := Lib.hid (HW2.out.keep (below_drewN (Below.refl _ _) nq))
        clear c1 c2 a0 a1 a2
        generalize w2.drewN nq = w4 at *
        clear nq
        clear hq
        have HStep := Lib.hid (show acc = (l.take (k + 1)).flatMap (behE 4 key ptr) by rw [HTk.out]; unfold behE; rw [if_neg (by omega), if_neg (by omega), if_pos ⟨rfl, HEQ.out⟩]; simp)
        go_wp2_with (fail)
        go_roundw
        case rel => exact ⟨k + 1, by omega, by go_num, rfl, Lib.hid (by have := HO4.out; rwa [HStep.out] at this), HW4⟩
        case measure => simp [intOf]; omega
    · have HFin := Lib.hid (show behL 4 key ptr n.valid = (l.take k).flatMap (behE 4 key ptr) by rw [HLE.out, List.take_of_length_le (by omega)]; exact behL_other (by omega) l)
      by_cases hb : False
      · exact hb.elim
      · have HO3 := Lib.hid (show RowV w1.heap.size (behL 4 key ptr n.valid) u6 wr by rw [HFin.out]; exact HO.out)
        have HBf := Lib.hid (HB1.out.trans (HW.out.b.mono HB1.out.size))
        have HR := Lib.hid (RowV.mono HO3.out HB1.out.size)
        have b1 : ¬ (k : Int) < (l.length : Int) := by omega
        clear hb
        go_wp2_with (fail)
        go_ret
        exact ⟨_, rfl, HR.out, HBf.out⟩
end Go.Proofs.Ytbpaefhihdhdeaa
