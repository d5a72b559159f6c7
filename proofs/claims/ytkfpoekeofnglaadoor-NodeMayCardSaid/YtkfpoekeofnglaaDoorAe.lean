/-
  node.Active, the document's Active: contracts.
-/
import Derived.Test.YtkfpoekeofnglaaDoorAd
namespace Go.Proofs.YtkfpoekeofnglaaDoor
open Go.RowKit
set_option linter.unusedVariables false

def Nd.active (n : Nd) (has : Bool) (high : Int) : List (Int × Int) := keepL has high n.valid

set_option maxRecDepth 100000 in
set_option maxHeartbeats 1600000 in
theorem nactive_calls (n : Nd) (high : Int) (has : Bool) (w : World) :
    Calls Tryd.prog 31 #[.agg (ndCells n), .int .u64 high, .bool has] w fun e W' => ∃ v, e = .returned v ∧ W'.ownsRow w.heap.size 57 2 v (n.active has high).length (ecells (n.active has high)) ∧ Below w.heap.size w W' := by
  have HI := Lib.hid (info27 n)
  obtain ⟨w0, hw0⟩ : ∃ w0, w0 = ((w.alloc (.cells (ndCells n) 27)).alloc (.cells #[.int .u64 high] 22)).alloc (.cells #[.bool has] 4) := ⟨_, rfl⟩
  have k0 : Blk w0 w.heap.size (ndCells n) 27 := by rw [hw0]; exact ((Blk.new w _ _).alloc _).alloc _
  have k1 : Blk w0 (w.heap.size + 1) #[.int .u64 high] 22 := by rw [hw0]; have := (Blk.new (w.alloc (.cells (ndCells n) 27)) #[.int .u64 high] 22).alloc (.cells #[.bool has] 4); simpa using this
  have k2 : Blk w0 (w.heap.size + 2) #[.bool has] 4 := by rw [hw0]; have := Blk.new ((w.alloc (.cells (ndCells n) 27)).alloc (.cells #[.int .u64 high] 22)) #[.bool has] 4; simpa using this
  have hB0 : Below w.heap.size w w0 := by rw [hw0]; exact (((Below.refl _ w).alloc (Nat.le_refl _) _).alloc (by simp) _).alloc (by simp; omega) _
  have hs0 : w0.heap.size = w.heap.size + 3 := by rw [hw0]; simp
  have HL := Lib.hid (show ∀ j v, (ndCells n)[j]? = some v → (((w.alloc (.cells (ndCells n) 27)).alloc (.cells #[.int .u64 high] 22)).alloc (.cells #[.bool has] 4)).cell? ⟨w.heap.size, 0 + j, none⟩ = some v by rw [← hw0]; exact ndLoad k0)
  have HW0 := Lib.hid hw0
  have HK1 := Lib.hid k1
  have HK2 := Lib.hid k2
  have HB0 := Lib.hid hB0
  have HS0 := Lib.hid hs0
  have hv8 : n.valid.length ≤ 1000000 := by have := plN_len n; simp [Nd.valid]; omega
  clear hw0 k0 k1 k2 hB0 hs0
  go_enter Tryd.func31, Tryd.ntmps31
  go_wp2_with (with_reducible refine wpList_load_part (o := ⟨some 7, _, _, _, _, _⟩) rfl 27 _ rfl w.heap.size 0 rfl (ndCells n) _ HL.out Tryd.underlying27 rfl HI.out ?_)
  rw [← HW0.out]
  refine (valid_calls n _).mono ?_
  rintro e w1 ⟨v, rfl, hv, hB⟩
  have HD := Lib.hid (del_calls n.valid v w0.heap.size high has (w.heap.size + 2) (w.heap.size + 1) w1 hv8 hB.size hv (HK2.out.below hB HK2.out.lt) (HK1.out.below hB HK1.out.lt) (by have := HS0.out; omega) (by have := HS0.out; omega))
  have HB1 := Lib.hid (HB0.out.trans (hB.mono HB0.out.size))
  clear hv hB
  go_wp2_with (go_at_call 47; refine HD.out.mono ?_; rintro e w2 ⟨v2, rfl, hv2, hB2⟩; have HV := Lib.hid (own_mono hv2 HB0.out.size); have HB2 := Lib.hid (HB1.out.trans (hB2.mono HB0.out.size)); clear hv2 hB2)
  go_ret
  exact ⟨_, rfl, HV.out, HB2.out⟩

set_option maxRecDepth 100000 in
set_option maxHeartbeats 3200000 in
theorem ractive_calls (n : Nd) (high : Int) (has : Bool) (w : World) :
    Calls Tryd.prog 32 #[.agg (ndCells n), .int .u64 high, .bool has] w fun e W' => ∃ v, e = .returned v ∧ W'.ownsRow w.heap.size 57 2 v (n.active has high).length (ecells (n.active has high)) ∧ Below w.heap.size w W' := by
  obtain ⟨i0, hi, hz0, hz1, hz2⟩ := info_parts Tryd.info60
  have hb0 := Blk.new w (ndCells n) 27
  have HI := Lib.hid (info27 n)
  have HL := Lib.hid (ndLoad hb0)
  have HB0 := Lib.hid ((Below.refl w.heap.size w).alloc (Nat.le_refl _) (.cells (ndCells n) 27))
  clear hb0
  go_enter Tryd.func32, Tryd.ntmps32
  go_wp2_with (with_reducible refine wpList_load_part (o := ⟨some 10, _, _, _, _, _⟩) rfl 27 _ rfl w.heap.size 0 rfl (ndCells n) _ HL.out Tryd.underlying27 rfl HI.out ?_)
  refine (rvalid_calls n _).mono ?_
  rintro e w1 ⟨v, rfl, hv, hB⟩
  have HBw := Lib.hid (HB0.out.trans (hB.mono HB0.out.size))
  obtain ⟨l, hl⟩ : ∃ l, n.valid = l := ⟨_, rfl⟩
  have hl8 : l.length ≤ 8 := by rw [← hl]; have := plN_len n; simpa [Nd.valid] using this
  have HAc := Lib.hid (show n.active has high = keepL has high l by unfold Nd.active; rw [hl])
  rw [hl] at hv
  have hs1 : w.heap.size ≤ w1.heap.size := HBw.out.size
  clear hl hB HL HB0
  by_cases hp : 0 < l.length
  · obtain ⟨g, cap, rfl, _, hgl, hcap, hcm, hE⟩ := own_ents hv rfl hp
    have HE := Lib.hid hE
    clear hE hv
    go_wp2_with (fail)
    go_loopw [7, 9] (fun ov iv wr => ∃ (k m : Nat), k ≤ l.length ∧ m ≤ k ∧ iv = .int .i64 k ∧ Hid (m = (keepL has high (l.take k)).length) ∧ wr.ownsRow w1.heap.size 57 2 ov m (ecells (keepL has high (l.take k))) ∧ Below w1.heap.size w1 wr) (fun _ iv _ => l.length - (intOf iv).toNat)
    case atStart => exact ⟨0, 0, Nat.zero_le _, Nat.le_refl _, rfl, Lib.hid rfl, World.ownsRow_nil _ _ _ _, Below.refl _ _⟩
    case round =>
      obtain ⟨k, m, hk, hmk, rfl, HM, hown, hBr⟩ := hrel
      by_cases hlt : k < l.length
      · obtain ⟨c1, c2⟩ := HE.out.below hBr hgl k hlt
        obtain ⟨ka, hka⟩ : ∃ x, eK l k = x := ⟨_, rfl⟩
        obtain ⟨pa, hpa⟩ : ∃ x, eP l k = x := ⟨_, rfl⟩
        have htk := keepL_take (has := has) (high := high) hlt
        rw [hka, hpa] at htk
        rw [hka, Nat.zero_add] at c1
        rw [hpa, Nat.zero_add] at c2
        have HTK := Lib.hid htk
        have b1 : (k : Int) < (l.length : Int) := by omega
        have ab : u7.ownBlock ≠ some g := fun e => by have := own_base hown _ e; omega
        have HBs := Lib.hid hBr
        have hsz : w1.heap.size ≤ wr.heap.size := hBr.size
        have lg : g < wr.heap.size := by omega
        clear htk hka hpa hBr
        cases hc : cutB has high ka
        · have HKn := Lib.hid (show keepL has high (l.take (k + 1)) = keepL has high (l.take k) ++ [(ka, pa)] from HTK.out.trans (if_neg (by rw [hc]; simp)))
          have hq : has = false ∨ (has = true ∧ ka < high) := by
            cases has
            · exact .inl rfl
            · refine .inr ⟨rfl, ?_⟩
              simp [cutB] at hc
              omega
          clear hc
          rcases hq with rfl | ⟨rfl, hlt2⟩
          all_goals
            go_wp2_with (at_builtin; refine wpList_append_own _ rfl _ _ 38 rfl w1.heap.size 57 i0 _ 2 16 Tryd.underlying38 hi hz0 hz1 hz2 rfl (by decide) _ m _ rfl (hown.alloc _) ⟨wr.heap.size, 0, none⟩ 1 1 [.int .u64 ka, .int .u64 pa] rfl rfl (World.news_of_block (cs := #[.int .u64 ka, .int .u64 pa]) (t := 57) (fr := (0, 0)) (heap_alloc_new wr _)) (by simp [Value.oneCell']) (by unfold maxLen; omega) (by omega) (by simp; omega) ?_; intro v' w4 hown4 hgrow _)
            go_roundw
            case rel =>
              refine ⟨k + 1, m + 1, by omega, by omega, by go_num, Lib.hid (by rw [HKn.out, List.length_append, ← HM.out]; rfl), ?_, ?_⟩
              · rw [HKn.out, ecells_snoc]; exact hown4
              · exact ((HBs.out.alloc hsz (.cells #[.int .u64 ka, .int .u64 pa] 57))).grown hgrow (by simp; omega) (fun r e => own_base hown _ e)
            case measure => simp [intOf]; omega
        · have HKn := Lib.hid (show keepL has high (l.take (k + 1)) = keepL has high (l.take k) from HTK.out.trans (if_pos (by rw [hc])))
          have hq : has = true ∧ ¬ ka < high := by
            cases has
            · simp [cutB] at hc
            · refine ⟨rfl, ?_⟩
              simp [cutB] at hc
              omega
          clear hc
          obtain ⟨rfl, hlt2⟩ := hq
          go_wp2_with (fail)
          go_roundw
          case rel => exact ⟨k + 1, m, by omega, by omega, by go_num, Lib.hid (by rw [HKn.out]; exact HM.out), by rw [HKn.out]; exact hown, HBs.out⟩
          case measure => simp [intOf]; omega
      · have hkl : k = l.length := by omega
        subst hkl
        have HO := Lib.hid (own_mono hown hs1)
        have HF := Lib.hid (HBw.out.trans (hBr.mono hs1))
        have HM2 := Lib.hid (show m = (n.active has high).length by rw [HAc.out]; have := HM.out; rwa [List.take_length] at this)
        clear hown hBr
        go_wp2_with (fail)
        go_ret
        exact ⟨_, rfl, by have := HO.out; rw [List.take_length] at this; rw [← HM2.out, HAc.out]; exact this, HF.out⟩
  · have h0 : l = [] := List.eq_nil_of_length_eq_zero (by omega)
    subst h0
    obtain ⟨va, vl, vc, rfl⟩ := own_slice hv
    have hvl : vl = 0 := own_len hv
    subst hvl
    clear hv
    go_wp2_with (fail)
    refine wp_loop_rounds 1 ?_
    rw [rounds_succ]
    go_wp2_with (fail)
    go_ret
    exact ⟨_, rfl, by rw [HAc.out]; exact World.ownsRow_nil _ _ _ _, HBw.out⟩
end Go.Proofs.YtkfpoekeofnglaaDoor
