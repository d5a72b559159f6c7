/-
  The document's Of: a contract.
-/
import Derived.Test.YtgmbnoimlffgcaaOf
namespace Go.Proofs.Ytgmbnoimlffgcaa
open Go.RowKit

structure RoW (w : World) (f : Nat → Int) (b1 b2 : Nat) (w' : World) : Prop where
  f : Blk w' b1 (wdCells f) 45
  r : Blk w' b2 (ndCells nd0) 40
  b : Below w.heap.size w w'
  lt : w.heap.size ≤ b1 ∧ b1 < b2
structure RiW (w : World) (f : Nat → Int) (b1 b2 b3 : Nat) (m : Nd) (w' : World) : Prop where
  o : RoW w f b1 b2 w'
  m : Blk w' b3 (ndCells m) 40
  lt : b2 < b3
theorem RiW.setk {w w' : World} {f : Nat → Int} {b1 b2 b3 : Nat} {m : Nd} (h : RiW w f b1 b2 b3 m w') (i : Nat) (hi : i < 8) (x : Int) : RiW w f b1 b2 b3 (m.withK i x) (w'.setCell ⟨b3, 5 + i, none⟩ (.int .u64 x)) := by
  have h1 := h.lt
  have h2 := h.o.lt
  exact ⟨⟨h.o.f.other _ _ (by omega), h.o.r.other _ _ (by omega), h.o.b.setCell (p := ⟨b3, 5 + i, none⟩) (by simp; omega) _, h.o.lt⟩, h.m.setk i hi x, h.lt⟩
theorem RiW.setp {w w' : World} {f : Nat → Int} {b1 b2 b3 : Nat} {m : Nd} (h : RiW w f b1 b2 b3 m w') (i : Nat) (hi : i < 8) (x : Int) : RiW w f b1 b2 b3 (m.withP i x) (w'.setCell ⟨b3, 13 + i, none⟩ (.int .u64 x)) := by
  have h1 := h.lt
  have h2 := h.o.lt
  exact ⟨⟨h.o.f.other _ _ (by omega), h.o.r.other _ _ (by omega), h.o.b.setCell (p := ⟨b3, 13 + i, none⟩) (by simp; omega) _, h.o.lt⟩, h.m.setp i hi x, h.lt⟩
theorem nTo_next (f : Nat → Int) (k : Nat) : ((nTo f k).withK k (f (8 + 2 * k))).withP k (f (9 + 2 * k)) = nTo f (k + 1) := by
  have ek : (fun j => if j = k then f (8 + 2 * k) else (nTo f k).k j) = (nTo f (k + 1)).k := by
    funext j
    by_cases h : j = k
    · simp [h, nTo]
    · by_cases h3 : j < k
      · simp [h, h3, nTo, show j < k + 1 by omega]
      · simp [h, h3, nTo, show ¬ j < k + 1 by omega]
  have ep : (fun j => if j = k then f (9 + 2 * k) else (nTo f k).p j) = (nTo f (k + 1)).p := by
    funext j
    by_cases h : j = k
    · simp [h, nTo]
    · by_cases h3 : j < k
      · simp [h, h3, nTo, show j < k + 1 by omega]
      · simp [h, h3, nTo, show ¬ j < k + 1 by omega]
  unfold Nd.withK Nd.withP
  rw [ek, ep]
  rfl
def nd3 (w : World) (m : Nd) : World := (w.alloc (.cells (ndCells nd0) 40)).setRow w.heap.size (ndCells m)

set_option maxRecDepth 100000 in
set_option maxHeartbeats 6400000 in
theorem rof_v (f : Nat → Int) (hf0 : 0 ≤ f 0 ∧ f 0 ≤ 18446744073709551615) (w : World) :
    Calls Try.prog 15 #[.agg (wdCells f)] w fun e w' => MkP (ofV f).1 (ofV f).2 w e w' := by
  have hk0 : Blk (w.alloc (.cells (wdCells f) 45)) w.heap.size (wdCells f) 45 := Blk.new w _ _
  have hs1 : (w.alloc (.cells (wdCells f) 45)).heap.size = w.heap.size + 1 := by simp
  have hb2 := Blk.new (w.alloc (.cells (wdCells f) 45)) (ndCells nd0) 40
  rw [hs1] at hb2
  have HZ := Lib.hid hs1
  have HW0 := Lib.hid (show RoW w f w.heap.size (w.heap.size + 1) ((w.alloc (.cells (wdCells f) 45)).alloc (.cells (ndCells nd0) 40)) from
    ⟨hk0.alloc _, hb2, ((Below.refl w.heap.size w).alloc (Nat.le_refl _) _).alloc (by omega) _, by omega⟩)
  have HF0 := Lib.hid hf0
  clear hk0 hs1 hb2 hf0
  go_enter Try.func15, Try.ntmps15
  go_upto_region 1 with (with_reducible refine wpList_alloc_ndAt (o := ⟨some 2, _, _, _, _, _⟩) rfl rfl (w.heap.size + 1) ?hz ?_; (case hz => exact HZ.out))
  go_simp
  obtain ⟨b1, hb1⟩ : ∃ x, w.heap.size = x := ⟨_, rfl⟩
  obtain ⟨b2, hb2⟩ : ∃ x, b1 + 1 = x := ⟨_, rfl⟩
  rw [hb1, hb2] at HW0 ⊢
  clear HZ
  generalize (w.alloc (.cells (wdCells f) 45)).alloc (.cells (ndCells nd0) 40) = w0 at *
  go_wp2_with (fail)
  go_loopw [4] (fun iv wr => ∃ k : Nat, k ≤ 16 ∧ iv = .int .i64 k ∧ Hid (∀ j : Nat, j < k → f 0 ≠ tagM + j) ∧ Hid (RoW w f b1 b2 wr)) (fun iv _ => 16 - (intOf iv).toNat)
  case atStart => exact ⟨0, by omega, rfl, Lib.hid (fun j hj => by omega), HW0⟩
  case round =>
    obtain ⟨k, hk, rfl, HN, HW⟩ := hrel
    clear HW0
    by_cases hlt : k < 16
    · have b5 : (k : Int) ≤ 15 := by omega
      have c0 : wr.cell? ⟨b1, 0, none⟩ = some (.int .u64 (f 0)) := by rw [HW.out.f.cell, wdCells_get _ 0 (by omega)]
      have wk : IntKind.u64.wrap (k : Int) = (k : Int) := by rw [IntKind.wrap_u64]; omega
      obtain ⟨tk, htk⟩ : ∃ t, tagM + (k : Int) = t := ⟨_, rfl⟩
      have wt : IntKind.u64.wrap (5495893775785918464 + (k : Int)) = tk := by rw [IntKind.wrap_u64, ← htk]; unfold tagM; omega
      have wt2 : (5495893775785918464 : Int) + (k : Int) = tk := by rw [← htk]; rfl
      have wtt : IntKind.u64.wrap tk = tk := by rw [IntKind.wrap_u64, ← htk]; unfold tagM; omega
      have HTK := Lib.hid htk
      clear htk
      cases hq : (f 0 == tk)
      case false =>
        have hq' : (f 0 != tk) = true := by rw [bne, hq]; rfl
        have HNx := Lib.hid (show ∀ j : Nat, j < k + 1 → f 0 ≠ tagM + j from fun j hj => by
          rcases Nat.lt_succ_iff_lt_or_eq.1 hj with h | h
          · exact HN.out j h
          · subst h; rw [HTK.out]; simpa using hq)
        clear hq
        go_wp2_with (fail)
        go_roundw
        case rel => exact ⟨k + 1, by omega, by go_num, HNx, HW⟩
        case measure => simp [intOf]; omega
      case true =>
        have hq' : (f 0 != tk) = false := by rw [bne, hq]; rfl
        have he : f 0 = tagM + (k : Int) := by rw [HTK.out]; simpa using hq
        obtain ⟨m0, hm0⟩ : ∃ m0 : Nd, m0 = ⟨(k : Int), f 1, f 2, f 3, f 4, fun _ => 0, fun _ => 0⟩ := ⟨_, rfl⟩
        have HM0 := Lib.hid (show m0 = nTo f 0 by rw [hm0]; unfold nTo; rw [show f 0 - tagM = (k : Int) by omega]; simp)
        have HB := Lib.hid (show ndCells m0 = #[.int .i64 (k : Int), .int .u64 (f 1), .int .u64 (f 2), .int .u64 (f 3), .int .u64 (f 4), .int .u64 0, .int .u64 0, .int .u64 0, .int .u64 0, .int .u64 0, .int .u64 0, .int .u64 0, .int .u64 0, .int .u64 0, .int .u64 0, .int .u64 0, .int .u64 0, .int .u64 0, .int .u64 0, .int .u64 0, .int .u64 0] by rw [hm0]; rfl)
        clear hm0
        have HF := Lib.hid (show ofV f = (nTo f 8, 0) by
          unfold ofV ofBad
          rw [decide_eq_false (by omega : ¬ f 0 < tagM), decide_eq_false (by omega : ¬ tagM + 15 < f 0)]; rfl)
        have c1 : wr.cell? ⟨b1, 1, none⟩ = some (.int .u64 (f 1)) := by rw [HW.out.f.cell, wdCells_get _ 1 (by omega)]
        have c2 : wr.cell? ⟨b1, 2, none⟩ = some (.int .u64 (f 2)) := by rw [HW.out.f.cell, wdCells_get _ 2 (by omega)]
        have c3 : wr.cell? ⟨b1, 3, none⟩ = some (.int .u64 (f 3)) := by rw [HW.out.f.cell, wdCells_get _ 3 (by omega)]
        have c4 : wr.cell? ⟨b1, 4, none⟩ = some (.int .u64 (f 4)) := by rw [HW.out.f.cell, wdCells_get _ 4 (by omega)]
        clear hq he
        go_upto_region 5 with (fail)
        go_upto_region 6 with (first | (with_reducible refine wpList_alloc_nd (o := ⟨some 5, _, _, _, _, _⟩) rfl rfl ?_) | (refine wpList_store_ndc (o := ⟨none, .store 40 (.tmp 5) (.tmp 26), _, _, _, _⟩) rfl (.tmp 5) (.tmp 26) ?ho wr.heap.size ?cs m0 nd0 ?hx ?hy (Blk.new wr _ _) ?hm ?_; (case ho => rfl); (case hx => rfl); (case hy => rfl); (case hm => exact HB.out.symm); rw [show (wr.alloc (.cells (ndCells nd0) 40)).setRow wr.heap.size (ndCells m0) = nd3 wr m0 from rfl]))
        go_simp
        have HR0 := Lib.hid (show RiW w f b1 b2 wr.heap.size (nTo f 0) (nd3 wr m0) by
          have hb := (Blk.new wr (ndCells nd0) 40).row (ndCells m0)
          have hB := below_setRow ((Below.refl wr.heap.size wr).alloc (Nat.le_refl _) (.cells (ndCells nd0) 40)) (Nat.le_refl wr.heap.size) (ndCells m0)
          exact ⟨⟨HW.out.f.below hB HW.out.f.lt, HW.out.r.below hB HW.out.r.lt, HW.out.b.trans (hB.mono HW.out.b.size), HW.out.lt⟩, by rw [← HM0.out]; exact hb, HW.out.r.lt⟩)
        obtain ⟨b3, hb3⟩ : ∃ x, wr.heap.size = x := ⟨_, rfl⟩
        rw [hb3] at HR0 ⊢
        clear hb3 c0 c1 c2 c3 c4 wk wt wt2 wtt hq' HN HW HB HM0
        generalize nd3 wr m0 = w3 at *
        clear wr
        have hb13 : b1 ≠ b3 := by have := HR0.out.lt; omega
        have hb31 : b3 ≠ b1 := fun e => hb13 e.symm
        go_wp2_with (fail)
        go_loopw [6] (fun iv wr => ∃ k : Nat, k ≤ 8 ∧ iv = .int .i64 k ∧ Hid (RiW w f b1 b2 b3 (nTo f k) wr)) (fun iv _ => 8 - (intOf iv).toNat)
        case atStart => exact ⟨0, by omega, rfl, HR0⟩
        case round =>
          obtain ⟨j, hj, rfl, HI⟩ := hrel
          by_cases hj8 : j < 8
          · obtain ⟨e1, he1⟩ : ∃ e1, e1 = 8 + 2 * j := ⟨_, rfl⟩
            obtain ⟨e2, he2⟩ : ∃ e2, e2 = 9 + 2 * j := ⟨_, rfl⟩
            have y1 : wr.cell? ⟨b1, e1, none⟩ = some (.int .u64 (f e1)) := by rw [HI.out.o.f.cell, wdCells_get _ e1 (by omega)]
            have y2 : wr.cell? ⟨b1, e2, none⟩ = some (.int .u64 (f e2)) := by rw [HI.out.o.f.cell, wdCells_get _ e2 (by omega)]
            have z1 : wr.cell? ⟨b3, 5 + j, none⟩ = some (.int .u64 ((nTo f j).k j)) := by rw [HI.out.m.cell, ndCells_k _ j hj8]
            have z2 : wr.cell? ⟨b3, 13 + j, none⟩ = some (.int .u64 ((nTo f j).p j)) := by rw [HI.out.m.cell, ndCells_p _ j hj8]
            have f1 := HI.out.m.frozen (5 + j)
            have f2 := HI.out.m.frozen (13 + j)
            have HIn := Lib.hid (show RiW w f b1 b2 b3 (nTo f (j + 1)) ((wr.setCell ⟨b3, 5 + j, none⟩ (.int .u64 (f e1))).setCell ⟨b3, 13 + j, none⟩ (.int .u64 (f e2))) by
              have := (HI.out.setk j hj8 (f e1)).setp j hj8 (f e2)
              rw [he1, he2, nTo_next] at this
              rw [he1, he2]; exact this)
            have g0 : (8 : Int) + 2 * (j : Int) = (e1 : Int) := by omega
            have g0' : (9 : Int) + 2 * (j : Int) = (e2 : Int) := by omega
            have g4 : (j : Int) < 8 := by omega
            have g5 : (e1 : Int) < 24 := by omega
            have g6 : (e2 : Int) < 24 := by omega
            clear he1 he2
            go_wp2_with (fail)
            go_roundw
            case rel => exact ⟨j + 1, by omega, by go_num, HIn⟩
            case measure => simp [intOf]; omega
          · have hj8' : j = 8 := by omega
            have HI2 := Lib.hid (show RiW w f b1 b2 b3 (nTo f 8) wr by have := HI.out; rwa [hj8'] at this)
            have HLd2 := Lib.hid (ndLoad HI2.out.m)
            have HIw2 := Lib.hid (info27 (nTo f 8))
            obtain ⟨m8, hm8⟩ : ∃ m, nTo f 8 = m := ⟨_, rfl⟩
            rw [hm8] at HI2 HLd2 HIw2 HF
            clear hj8' HI hm8
            go_upto_region 11 with (fail)
            go_wp2_with (first | (with_reducible refine wpList_load_part (o := ⟨some 47, _, _, _, _, _⟩) rfl 40 _ rfl b3 0 rfl (ndCells m8) _ HLd2.out Try.underlying40 rfl HIw2.out ?_) | (refine wpList_store_nd (o := ⟨none, .store 40 (.tmp 2) (.tmp 47), _, _, _, _⟩) rfl (.tmp 2) (.tmp 47) ?hoc b2 m8 nd0 ?hxc ?hyc HI2.out.o.r ?_; (case hoc => rfl); (case hxc => rfl); (case hyc => rfl)))
            rw [HF.out]
            exact bodyPost_ret (results_nd rfl _ b2 m8 rfl (HI2.out.o.r.row _)) rfl ⟨rfl, below_setRow HI2.out.o.b (by have := HI2.out.o.lt; omega) _⟩
    · have hk16 : k = 16 := by omega
      have HF := Lib.hid (show ofV f = (nd0, 11) by
        unfold ofV
        rw [if_pos (by
          unfold ofBad
          rw [Bool.or_eq_true, decide_eq_true_eq, decide_eq_true_eq]
          by_cases h1 : f 0 < tagM
          · exact .inl h1
          · refine .inr (Int.not_le.1 (fun h2 => ?_))
            have := HN.out (f 0 - tagM).toNat (by omega)
            omega)])
      clear hk16 HN
      go_upto_region 12 with (fail)
      go_wp2_with (refine wpList_store_ndc (o := ⟨none, .store 40 (.tmp 2) (.tmp 48), _, _, _, _⟩) rfl (.tmp 2) (.tmp 48) ?hod b2 ?csd nd0 nd0 ?hxd ?hyd HW.out.r ?hmd ?_; (case hod => rfl); (case hxd => rfl); (case hyd => rfl); (case hmd => rfl))
      rw [HF.out]
      exact bodyPost_ret (results_nd rfl _ b2 nd0 rfl (HW.out.r.row _)) rfl ⟨rfl, below_setRow HW.out.b (by have := HW.out.lt; omega) _⟩
end Go.Proofs.Ytgmbnoimlffgcaa
