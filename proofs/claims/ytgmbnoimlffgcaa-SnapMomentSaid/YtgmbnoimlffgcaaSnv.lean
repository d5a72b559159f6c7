/-
  leveelaw11.now: a contract.
-/
import Derived.Test.YtgmbnoimlffgcaaSns
namespace Go.Proofs.Ytgmbnoimlffgcaa
open Go.RowKit
attribute [local go_sem] Oper.semAt_some
set_option linter.unusedVariables false

/-- the words of a memory's node as it stands -/
def nowF (vs : List Int) : Nat → Int := fun q => if q < 24 then wdM vs 1088 q else 0
set_option maxRecDepth 100000 in
set_option maxHeartbeats 40000000 in
theorem now_v (w : World) (mb : Nat) (S : Nat → Prop) (vs : List Int) (lo0 st fl fe : Int) (hm : MemV w mb S vs lo0 st fl fe) (hu : U64s vs) :
    Calls Try.prog 27 #[.pointer (some ⟨mb, 0, none⟩)] w fun e w' => e = .returned (.agg (ndCells (rtrim (ofV (nowF vs)).1))) ∧ (∃ lo, MemV w' mb S vs lo st fl fe) ∧ Keeps S w w' := by
  obtain ⟨b2, hb2⟩ : ∃ b, w.heap.size = b := ⟨_, rfl⟩
  have hA := Blk.new w (ndCells nd0) 40
  have kA : Below w.heap.size w (w.alloc (.cells (ndCells nd0) 40)) := (Below.refl _ w).alloc (Nat.le_refl _) _
  have sA : (w.alloc (.cells (ndCells nd0) 40)).heap.size = b2 + 1 := by simp [hb2]
  rw [hb2] at hA
  have H2 := Lib.hid hb2
  obtain ⟨w1, hw1⟩ : ∃ w1, w.alloc (.cells (ndCells nd0) 40) = w1 := ⟨_, rfl⟩
  have HW1 := Lib.hid hw1
  rw [hw1] at hA kA sA
  have hB := Blk.new w1 (wdCells (fun _ => 0)) 45
  have kB : Below w.heap.size w (w1.alloc (.cells (wdCells (fun _ => 0)) 45)) := kA.alloc kA.size _
  have hA2 := hA.alloc (.cells (wdCells (fun _ => 0)) 45)
  rw [sA] at hB
  obtain ⟨wb, hwb⟩ : ∃ b, b2 + 1 = b := ⟨_, rfl⟩
  rw [hwb] at hB sA
  obtain ⟨w2, hw2⟩ : ∃ w2, w1.alloc (.cells (wdCells (fun _ => 0)) 45) = w2 := ⟨_, rfl⟩
  have HW2 := Lib.hid hw2
  rw [hw2] at hB kB hA2
  have S1 := Lib.hid sA
  have HB := Lib.hid (show Blk w2 wb (wdCells (fun i => if i < 0 then wdM vs 1088 i else 0)) 45 from by
    have e : (fun i => if i < 0 then wdM vs 1088 i else 0) = (fun _ => (0 : Int)) := funext (fun i => if_neg (by omega))
    rw [e]; exact hB)
  have HA := Lib.hid hA2
  have HK := Lib.hid kB
  have HSw := Lib.hid (show (¬ S wb) ∧ (¬ S b2) ∧ b2 ≠ wb from by
    obtain ⟨is, mk, F, hm⟩ := hm
    exact ⟨fun h => by have := hm.lt h; omega, fun h => by have := hm.lt h; omega, by omega⟩)
  have HM := Lib.hid (show MemV w2 mb S vs lo0 st fl fe from by obtain ⟨is, mk, F, hm⟩ := hm; exact ⟨is, mk, F, hm.below kB⟩)
  have HWs := Lib.hid (show w.heap.size ≤ wb from by omega)
  have HU := Lib.hid hu
  clear hA kA sA hB kB hA2 hw1 hw2 hwb hb2 hm hu
  go_enter Try.func27, Try.ntmps27
  go_upto_region 2 with (first
    | ((with_reducible refine wpList_alloc_ndAt (o := ⟨some 2, _, _, _, _, _⟩) rfl rfl b2 ?hz ?_); (case hz => exact H2.out); rw [HW1.out])
    | ((with_reducible refine wpList_alloc_wdAt (o := ⟨some 3, _, _, _, _, _⟩) rfl rfl wb ?hz ?_); (case hz => exact S1.out); rw [HW2.out]))
  simp [Act.put]
  go_wp2_with (fail)
  go_loopw [4] (fun iv wq => ∃ j : Nat, j ≤ 24 ∧ iv = .int .i64 j ∧ (∃ lo, MemV wq mb S vs lo st fl fe) ∧ Blk wq wb (wdCells (fun i => if i < j then wdM vs 1088 i else 0)) 45 ∧ Keeps (fun i => i = wb ∨ S i) w2 wq) (fun iv _ => 24 - (intOf iv).toNat)
  case atStart => exact ⟨0, by omega, rfl, ⟨_, HM.out⟩, HB.out, Keeps.refl _ _⟩
  case round =>
    obtain ⟨i, hi, rfl, ⟨lo, is, mk, F, hm⟩, hb, hk⟩ := hrel
    by_cases hlt : i < 24
    · have hkb : (i : Int) < 24 := by omega
      have hkn : (0 : Int) ≤ (i : Int) := by omega
      have HLT := Lib.hid hlt
      have hw1 : IntKind.i64.wrap (8 * (i : Int)) = 8 * (i : Int) := IntWalk.i64_in _ (by omega)
      have hw2 : IntKind.u64.wrap (8 * (i : Int)) = 8 * (i : Int) := IntWalk.u64_in _ (by omega)
      obtain ⟨ad, had⟩ : ∃ ad, IntKind.u64.wrap (1088 + 8 * (i : Int)) = ad := ⟨_, rfl⟩
      have hadb : 0 ≤ ad ∧ ad ≤ 18446744073709551615 := by rw [← had]; exact u64_rng _
      have HLd := Lib.hid (load_w hm ad hadb.1 hadb.2)
      have HWi := Lib.hid (show ldW vs ad = wdM vs 1088 i by rw [← had]; rfl)
      have HB := Lib.hid hb
      have HK := Lib.hid hk
      clear hm hb hk hadb hlt hi
      go_wp2_with (fail)
      refine HLd.out.mono ?_
      rintro e w14 ⟨rfl, hm14, hk14⟩
      have hb14 := HB.out.kept hk14 HSw.out.1
      have dk : w14.cell? ⟨wb, i, none⟩ = some (.int .u64 (if i < i then wdM vs 1088 i else 0)) := (hb14.cell i).trans (wdCells_get _ i HLT.out)
      have fk := hb14.frozen i
      obtain ⟨xv, hxv⟩ : ∃ xv, ldW vs ad = xv := ⟨_, rfl⟩
      have hb15 := hb14.setw i xv
      have hk15 : Keeps (fun i => i = wb) w14 (w14.setCell ⟨wb, i, none⟩ (.int .u64 xv)) := (Keeps.refl (fun i => i = wb) w14).setCell (p := ⟨wb, i, none⟩) (.inl rfl) _
      have HM15 := Lib.hid (show MemV (w14.setCell ⟨wb, i, none⟩ (.int .u64 xv)) mb S vs (ldN vs.length ad lo) st fl fe from ⟨is, mk, F, hm14.kept hk15 (fun q hq e => HSw.out.1 (e ▸ hq))⟩)
      have HK15 := Lib.hid ((HK.out.trans (hk14.mono (fun _ _ h => .inr h))).trans (hk15.mono (fun _ _ h => .inl h)))
      have hfe : wset (fun q => if q < i then wdM vs 1088 q else 0) i xv = fun q => if q < i + 1 then wdM vs 1088 q else 0 := by
        funext q
        show (if q = i then xv else (if q < i then wdM vs 1088 q else 0)) = (if q < i + 1 then wdM vs 1088 q else 0)
        by_cases e : q = i
        · rw [if_pos e, if_pos (by omega), e, ← hxv]; exact HWi.out
        · rw [if_neg e]
          by_cases c : q < i
          · rw [if_pos c, if_pos (by omega)]
          · rw [if_neg c, if_neg (by omega)]
      rw [hfe] at hb15
      have HB15 := Lib.hid hb15
      rw [hxv]
      clear hb14 hb15 hk15 hm14 hk14 hfe hxv had
      go_wp2_with (fail)
      go_roundw
      case rel => exact ⟨i + 1, by have := HLT.out; omega, by go_num, ⟨_, HM15.out⟩, HB15.out, HK15.out⟩
      case measure => have := HLT.out; simp [intOf]; omega
    · have hi24 : i = 24 := by omega
      subst hi24
      have HM3 := Lib.hid (show ∃ lo, MemV wr mb S vs lo st fl fe from ⟨lo, is, mk, F, hm⟩)
      have HLb := Lib.hid (wdLoad hb)
      have HA3 := Lib.hid (HA.out.kept hk (fun h => by rcases h with h | h; exact HSw.out.2.2 h; exact HSw.out.2.1 h))
      have HK3 := Lib.hid (show Keeps S w wr from ((Keeps.of_below' HK.out).mono (S' := S) (fun _ _ h => h.elim)).trans' hk (fun q hq h => by
        rcases h with h | h
        · have := HWs.out; omega
        · exact h))
      obtain ⟨ff, hff⟩ : ∃ ff, (fun q => if q < 24 then wdM vs 1088 q else 0) = ff := ⟨_, rfl⟩
      have HFf := Lib.hid (show nowF vs = ff from hff)
      have hf0 : ff 0 = wdM vs 1088 0 := by rw [← hff]; rfl
      rw [hff] at HLb
      have HOf := Lib.hid (show ∀ W, Calls Try.prog 15 #[.agg (wdCells ff)] W fun e w' => MkP (ofV ff).1 (ofV ff).2 W e w' from fun W => rof_v ff (by rw [hf0]; exact ldW_u64 HU.out _) W)
      obtain ⟨y1, hy1⟩ : ∃ y1, (ofV ff).1 = y1 := ⟨_, rfl⟩
      obtain ⟨er, her⟩ : ∃ er, (ofV ff).2 = er := ⟨_, rfl⟩
      have HY := Lib.hid hy1
      rw [hy1, her] at HOf
      obtain ⟨ty, hty⟩ : ∃ ty, rtrim y1 = ty := ⟨_, rfl⟩
      have HTr := Lib.hid (fun W => rtrim_v y1 W)
      rw [hty] at HTr
      have HTy := Lib.hid hty
      clear hm hb hk hlt hi hff hf0 hy1 her hty HA HK
      go_wp2_with ((with_reducible refine wpList_load_part (o := ⟨some 23, .load 45 (.tmp 3), _, _, _, _⟩) ?hg 45 (.tmp 3) ?ho wb 0 ?hx (wdCells ff) ?dd ?hc ?hu ?hd ?hi ?_); (case hg => rfl); (case ho => rfl); (case hx => rfl); (case hc => exact HLb.out); (case hu => exact Try.underlying45); (case hd => rfl); (case hi => exact infoWd ff))
      refine (HOf.out wr).mono ?_
      rintro e w16 ⟨rfl, hB16⟩
      have hz := Blk.new w16 (ndCells nd0) 40
      have hzr := hz.row (ndCells y1)
      have k17 : Below wr.heap.size wr ((w16.alloc (.cells (ndCells nd0) 40)).setRow w16.heap.size (ndCells y1)) := below_setRow (hB16.alloc hB16.size _) hB16.size _
      obtain ⟨yb, hyb⟩ : ∃ yb, w16.heap.size = yb := ⟨_, rfl⟩
      rw [hyb] at hz hzr k17
      have HYb := Lib.hid hyb
      have HZ := Lib.hid hz
      obtain ⟨W8, hW8⟩ : ∃ W8, (w16.alloc (.cells (ndCells nd0) 40)).setRow yb (ndCells y1) = W8 := ⟨_, rfl⟩
      have HW8 := Lib.hid hW8
      rw [hW8] at hzr k17
      have HL8 := Lib.hid (ndLoad hzr)
      have HK8 := Lib.hid k17
      clear hz hzr hyb hW8 k17 hB16 HOf HLb
      go_upto_region 7 with (first
        | ((with_reducible refine wpList_alloc_ndAt (o := ⟨some 5, _, _, _, _, _⟩) rfl rfl yb ?hz ?_); (case hz => exact HYb.out))
        | ((with_reducible refine wpList_store_ndc (o := ⟨none, .store 40 (.tmp 5) (.tmp 25), _, _, _, _⟩) ?hgc (.tmp 5) (.tmp 25) ?hoc yb (ndCells y1) y1 nd0 ?hxc ?hyc ?hbc ?hmc ?_); (case hgc => rfl); (case hoc => rfl); (case hxc => exact ev_tmp (by simp [Act.put])); (case hyc => exact ev_tmp (by simp [Act.put])); (case hmc => rfl); (case hbc => exact HZ.out); rw [HW8.out]; simp [Act.put]))
      go_wp2_with ((with_reducible refine wpList_load_part (o := ⟨some 27, .load 40 (.tmp 5), _, _, _, _⟩) ?hgB 40 (.tmp 5) ?hoB yb 0 ?hxB (ndCells y1) ?ddB ?hcB ?huB ?hdB ?hiB ?_); (case hgB => rfl); (case hoB => rfl); (case hxB => rfl); (case hcB => exact HL8.out); (case huB => exact Try.underlying40); (case hdB => rfl); (case hiB => exact info27 y1))
      refine (HTr.out W8).mono ?_
      rintro e w9 ⟨rfl, hB9⟩
      have hk9 := (Keeps.of_below' HK8.out).trans (Keeps.of_below' (hB9.mono (Nat.le_refl _)))
      have HA9 := Lib.hid (HA3.out.kept hk9 (fun h => h))
      have HK9 := Lib.hid hk9
      clear hB9 hk9
      go_wp2_with ((with_reducible refine wpList_store_ndc (o := ⟨none, .store 40 (.tmp 2) (.tmp 28), _, _, _, _⟩) ?hgcB (.tmp 2) (.tmp 28) ?hocB b2 (ndCells ty) ty nd0 ?hxcB ?hycB ?hbcB ?hmcB ?_); (case hgcB => rfl); (case hocB => rfl); (case hxcB => exact ev_tmp (by simp)); (case hycB => exact ev_tmp (by simp)); (case hmcB => rfl); (case hbcB => exact HA9.out))
      (try simp only [Exit.inBlock, Exit.then])
      refine bodyPost_ret (results_nd1 (fn := Try.f27) rfl _ b2 ty rfl (HA9.out.row _)) rfl ?_
      have hkr : Keeps (fun q => q = b2) w9 (w9.setRow b2 (ndCells ty)) := keeps_setRow (Keeps.refl (fun q => q = b2) w9) (.inl rfl) _
      rw [HFf.out, HY.out, HTy.out]
      obtain ⟨lo, is, mk, F, hm⟩ := HM3.out
      refine ⟨rfl, ⟨lo, is, mk, F, (hm.keptN HK9.out).kept hkr (fun q hq e => HSw.out.2.1 (e ▸ hq))⟩, ?_⟩
      exact (HK3.out.trans (HK9.out.mono (fun _ _ h => h.elim))).trans' hkr (fun q hq e => by have := H2.out; omega)
end Go.Proofs.Ytgmbnoimlffgcaa
