/-
  The document's Words: a contract.
-/
import Derived.Test.YtgmbnoimlffgcaaWn
namespace Go.Proofs.Ytgmbnoimlffgcaa
open Go.RowKit

theorem wset5 (n : Nd) : wset (wset (wset (wset (wset (fun _ => 0) 0 (tagM + n.lv)) 1 n.lo) 2 n.nx) 3 n.ct) 4 n.fi = wTo n 0 := by
  funext j
  unfold wset wTo fullW
  by_cases h4 : j = 4
  · subst h4; rfl
  by_cases h3 : j = 3
  · subst h3; rfl
  by_cases h2 : j = 2
  · subst h2; rfl
  by_cases h1 : j = 1
  · subst h1; rfl
  by_cases h0 : j = 0
  · subst h0; rfl
  rw [if_neg h4, if_neg h3, if_neg h2, if_neg h1, if_neg h0]
  by_cases h8 : j < 8 + 2 * 0
  · rw [if_pos h8, if_neg h0, if_neg h1, if_neg h2, if_neg h3, if_neg h4, if_pos (by omega)]
  · rw [if_neg h8]
theorem wset_next (n : Nd) (k : Nat) : wset (wset (wTo n k) (8 + 2 * k) (n.k k)) (9 + 2 * k) (n.p k) = wTo n (k + 1) := by
  funext j
  unfold wset wTo
  by_cases b : j = 9 + 2 * k
  · rw [if_pos b, if_pos (by omega)]
    unfold fullW
    rw [if_neg (by omega), if_neg (by omega), if_neg (by omega), if_neg (by omega), if_neg (by omega), if_neg (by omega), if_neg (by omega)]
    congr 1; omega
  · rw [if_neg b]
    by_cases a : j = 8 + 2 * k
    · rw [if_pos a, if_pos (by omega)]
      unfold fullW
      rw [if_neg (by omega), if_neg (by omega), if_neg (by omega), if_neg (by omega), if_neg (by omega), if_neg (by omega), if_pos (by omega)]
      congr 1; omega
    · rw [if_neg a]
      by_cases c : j < 8 + 2 * k
      · rw [if_pos c, if_pos (by omega)]
      · rw [if_neg c, if_neg (by omega)]
structure WrW (w : World) (n : Nd) (b1 b2 b3 : Nat) (f : Nat → Int) (w' : World) : Prop where
  n : Blk w' b1 (ndCells n) 40
  r : Blk w' b2 (wdCells (fun _ => 0)) 45
  f : Blk w' b3 (wdCells f) 45
  b : Below w.heap.size w w'
  lt : w.heap.size ≤ b1 ∧ b1 < b2 ∧ b2 < b3
theorem WrW.set {w w' : World} {n : Nd} {b1 b2 b3 : Nat} {f : Nat → Int} (h : WrW w n b1 b2 b3 f w') (i : Nat) (x : Int) : WrW w n b1 b2 b3 (wset f i x) (w'.setCell ⟨b3, i, none⟩ (.int .u64 x)) :=
  ⟨h.n.other i _ (by have := h.lt; omega), h.r.other i _ (by have := h.lt; omega), h.f.setw i x, h.b.setCell (p := ⟨b3, i, none⟩) (by have := h.lt; simp; omega) _, h.lt⟩

set_option maxRecDepth 100000 in
set_option maxHeartbeats 6400000 in
theorem rwords_lv (n : Nd) (hw : (Lit.int .i64 n.lv).wf = true) (w : World) :
    Calls Try.prog 55 #[.agg (ndCells n)] w fun e w' => e = .returned (.agg (wdCells (wordsF n))) ∧ Below w.heap.size w w' := by
  have hk0 : Blk (w.alloc (.cells (ndCells n) 40)) w.heap.size (ndCells n) 40 := Blk.new w _ _
  have hs1 : (w.alloc (.cells (ndCells n) 40)).heap.size = w.heap.size + 1 := by simp
  have hb2 := Blk.new (w.alloc (.cells (ndCells n) 40)) (wdCells (fun _ => 0)) 45
  have hs2 : ((w.alloc (.cells (ndCells n) 40)).alloc (.cells (wdCells (fun _ => 0)) 45)).heap.size = w.heap.size + 2 := by simp
  have hb3 := Blk.new ((w.alloc (.cells (ndCells n) 40)).alloc (.cells (wdCells (fun _ => 0)) 45)) (wdCells (fun _ => 0)) 45
  rw [hs1] at hb2
  rw [hs2] at hb3
  have HZ := Lib.hid hs1
  have HZ2 := Lib.hid hs2
  have HW0 := Lib.hid (show WrW w n w.heap.size (w.heap.size + 1) (w.heap.size + 2) (fun _ => 0) (((w.alloc (.cells (ndCells n) 40)).alloc (.cells (wdCells (fun _ => 0)) 45)).alloc (.cells (wdCells (fun _ => 0)) 45)) from
    ⟨(hk0.alloc _).alloc _, hb2.alloc _, hb3, (((Below.refl w.heap.size w).alloc (Nat.le_refl _) _).alloc (by omega) _).alloc (by omega) _, by omega⟩)
  have hlb := i64_bounds hw
  clear hk0 hs1 hb2 hs2 hb3
  go_enter Try.func55, Try.ntmps55
  go_upto_region 2 with (first | (with_reducible refine wpList_alloc_wdAt (o := ⟨some 2, _, _, _, _, _⟩) rfl rfl (w.heap.size + 1) ?hz ?_; (case hz => exact HZ.out)) | (with_reducible refine wpList_alloc_wdAt (o := ⟨some 3, _, _, _, _, _⟩) rfl rfl (w.heap.size + 2) ?hy ?_; (case hy => exact HZ2.out)))
  go_simp
  obtain ⟨b1, hb1⟩ : ∃ x, w.heap.size = x := ⟨_, rfl⟩
  obtain ⟨b2, hb2⟩ : ∃ x, b1 + 1 = x := ⟨_, rfl⟩
  obtain ⟨b3, hb3⟩ : ∃ x, b1 + 2 = x := ⟨_, rfl⟩
  rw [hb1, hb2, hb3] at HW0 ⊢
  clear HZ HZ2
  generalize ((w.alloc (.cells (ndCells n) 40)).alloc (.cells (wdCells (fun _ => 0)) 45)).alloc (.cells (wdCells (fun _ => 0)) 45) = w0 at *
  have c0 : w0.cell? ⟨b1, 0, none⟩ = some (.int .i64 n.lv) := by rw [HW0.out.n.cell, ndCells_0]
  by_cases hl : n.lv < 0 ∨ 15 < n.lv
  · have HF := Lib.hid (show wordsF n = fun _ => 0 by unfold wordsF; rw [if_pos hl])
    have HLd := Lib.hid (wdLoad HW0.out.f)
    have HIw := Lib.hid (infoWd (fun _ => 0))
    rcases hl with hl | hl
    · go_upto_region 3 with (fail)
      go_wp2_with (first | (with_reducible refine wpList_load_part (o := ⟨some 13, _, _, _, _, _⟩) rfl 45 _ rfl b3 0 rfl (wdCells (fun _ => 0)) _ HLd.out Try.underlying45 rfl HIw.out ?_) | (refine wpList_store_wd (o := ⟨none, .store 45 (.tmp 2) (.tmp 13), _, _, _, _⟩) rfl (.tmp 2) (.tmp 13) ?hoa b2 (fun _ => 0) (fun _ => 0) ?hxa ?hya HW0.out.r ?_; (case hoa => rfl); (case hxa => rfl); (case hya => rfl)))
      rw [HF.out]
      exact bodyPost_ret (results_wd rfl _ b2 (fun _ => 0) rfl (HW0.out.r.row _)) rfl ⟨rfl, below_setRow HW0.out.b (by have := HW0.out.lt; omega) _⟩
    · have d1 : decide (n.lv < 0) = false := decide_eq_false (by omega)
      go_upto_region 3 with (fail)
      go_wp2_with (first | (with_reducible refine wpList_load_part (o := ⟨some 13, _, _, _, _, _⟩) rfl 45 _ rfl b3 0 rfl (wdCells (fun _ => 0)) _ HLd.out Try.underlying45 rfl HIw.out ?_) | (refine wpList_store_wd (o := ⟨none, .store 45 (.tmp 2) (.tmp 13), _, _, _, _⟩) rfl (.tmp 2) (.tmp 13) ?hob b2 (fun _ => 0) (fun _ => 0) ?hxb ?hyb HW0.out.r ?_; (case hob => rfl); (case hxb => rfl); (case hyb => rfl)))
      rw [HF.out]
      exact bodyPost_ret (results_wd rfl _ b2 (fun _ => 0) rfl (HW0.out.r.row _)) rfl ⟨rfl, below_setRow HW0.out.b (by have := HW0.out.lt; omega) _⟩
  · have HF := Lib.hid (show wordsF n = wTo n 8 by unfold wordsF; rw [if_neg hl])
    have d1 : decide (n.lv < 0) = false := decide_eq_false (by omega)
    have d2 : decide (15 < n.lv) = false := decide_eq_false (by omega)
    have c1 : w0.cell? ⟨b1, 1, none⟩ = some (.int .u64 n.lo) := by rw [HW0.out.n.cell, ndCells_1]
    have c2 : w0.cell? ⟨b1, 2, none⟩ = some (.int .u64 n.nx) := by rw [HW0.out.n.cell, ndCells_2]
    have c3 : w0.cell? ⟨b1, 3, none⟩ = some (.int .u64 n.ct) := by rw [HW0.out.n.cell, ndCells_3]
    have c4 : w0.cell? ⟨b1, 4, none⟩ = some (.int .u64 n.fi) := by rw [HW0.out.n.cell, ndCells_4]
    have z0 : w0.cell? ⟨b3, 0, none⟩ = some (.int .u64 0) := by rw [HW0.out.f.cell, wdCells_get _ 0 (by omega)]
    have z1 : w0.cell? ⟨b3, 1, none⟩ = some (.int .u64 0) := by rw [HW0.out.f.cell, wdCells_get _ 1 (by omega)]
    have z2 : w0.cell? ⟨b3, 2, none⟩ = some (.int .u64 0) := by rw [HW0.out.f.cell, wdCells_get _ 2 (by omega)]
    have z3 : w0.cell? ⟨b3, 3, none⟩ = some (.int .u64 0) := by rw [HW0.out.f.cell, wdCells_get _ 3 (by omega)]
    have z4 : w0.cell? ⟨b3, 4, none⟩ = some (.int .u64 0) := by rw [HW0.out.f.cell, wdCells_get _ 4 (by omega)]
    have f0 := HW0.out.f.frozen 0
    have f1 := HW0.out.f.frozen 1
    have f2 := HW0.out.f.frozen 2
    have f3 := HW0.out.f.frozen 3
    have f4 := HW0.out.f.frozen 4
    have hne : b1 ≠ b3 := by omega
    have hne' : b3 ≠ b1 := by omega
    have wv : IntKind.u64.wrap n.lv = n.lv := by rw [IntKind.wrap_u64]; omega
    obtain ⟨tg, htg⟩ : ∃ t, tagM + n.lv = t := ⟨_, rfl⟩
    have wt : IntKind.u64.wrap (5495893775785918464 + n.lv) = tg := by rw [IntKind.wrap_u64, ← htg]; unfold tagM; omega
    have wtt : IntKind.u64.wrap tg = tg := by rw [IntKind.wrap_u64, ← htg]; unfold tagM; omega
    have wt2 : (5495893775785918464 : Int) + n.lv = tg := by rw [← htg]; rfl
    have HW1 := Lib.hid (show WrW w n b1 b2 b3 (wTo n 0) (((((w0.setCell ⟨b3, 0, none⟩ (.int .u64 tg)).setCell ⟨b3, 1, none⟩ (.int .u64 n.lo)).setCell ⟨b3, 2, none⟩ (.int .u64 n.nx)).setCell ⟨b3, 3, none⟩ (.int .u64 n.ct)).setCell ⟨b3, 4, none⟩ (.int .u64 n.fi)) by
      have := ((((HW0.out.set 0 tg).set 1 n.lo).set 2 n.nx).set 3 n.ct).set 4 n.fi
      rw [← htg, wset5] at this
      rw [← htg]; exact this)
    have HWT := Lib.hid wt
    clear hl htg
    go_wp2_with (fail)
    generalize ((((w0.setCell ⟨b3, 0, none⟩ (.int .u64 tg)).setCell ⟨b3, 1, none⟩ (.int .u64 n.lo)).setCell ⟨b3, 2, none⟩ (.int .u64 n.nx)).setCell ⟨b3, 3, none⟩ (.int .u64 n.ct)).setCell ⟨b3, 4, none⟩ (.int .u64 n.fi) = w1 at *
    clear c0 c1 c2 c3 c4 z0 z1 z2 z3 z4 f0 f1 f2 f3 f4 wv wt wtt wt2 HW0
    go_loopw [4] (fun iv wr => ∃ k : Nat, k ≤ 8 ∧ iv = .int .i64 k ∧ Hid (WrW w n b1 b2 b3 (wTo n k) wr)) (fun iv _ => 8 - (intOf iv).toNat)
    case atStart => exact ⟨0, by omega, rfl, HW1⟩
    case round =>
      obtain ⟨k, hk, rfl, HW⟩ := hrel
      by_cases hlt : k < 8
      · have ck : wr.cell? ⟨b1, 5 + k, none⟩ = some (.int .u64 (n.k k)) := by rw [HW.out.n.cell, ndCells_k n k hlt]
        have cp : wr.cell? ⟨b1, 13 + k, none⟩ = some (.int .u64 (n.p k)) := by rw [HW.out.n.cell, ndCells_p n k hlt]
        obtain ⟨e1, he1⟩ : ∃ e1, e1 = 8 + 2 * k := ⟨_, rfl⟩
        obtain ⟨e2, he2⟩ : ∃ e2, e2 = 9 + 2 * k := ⟨_, rfl⟩
        have z1 : wr.cell? ⟨b3, e1, none⟩ = some (.int .u64 (wTo n k e1)) := by rw [HW.out.f.cell, wdCells_get _ e1 (by omega)]
        have z2 : wr.cell? ⟨b3, e2, none⟩ = some (.int .u64 (wTo n k e2)) := by rw [HW.out.f.cell, wdCells_get _ e2 (by omega)]
        have f1 := HW.out.f.frozen e1
        have f2 := HW.out.f.frozen e2
        have h12 : e1 ≠ e2 := by omega
        have HWn := Lib.hid (show WrW w n b1 b2 b3 (wTo n (k + 1)) ((wr.setCell ⟨b3, e1, none⟩ (.int .u64 (n.k k))).setCell ⟨b3, e2, none⟩ (.int .u64 (n.p k))) by
          have := (HW.out.set e1 (n.k k)).set e2 (n.p k)
          rw [he1, he2, wset_next] at this
          rw [he1, he2]; exact this)
        have g0 : (8 : Int) + 2 * (k : Int) = (e1 : Int) := by omega
        have g0' : (9 : Int) + 2 * (k : Int) = (e2 : Int) := by omega
        have g4 : (k : Int) < 8 := by omega
        have g5 : (e1 : Int) < 24 := by omega
        have g6 : (e2 : Int) < 24 := by omega
        clear he1 he2
        go_wp2_with (fail)
        go_roundw
        case rel => exact ⟨k + 1, by omega, by go_num, HWn⟩
        case measure => simp [intOf]; omega
      · have hk8 : k = 8 := by omega
        have HW2 := Lib.hid (show WrW w n b1 b2 b3 (wTo n 8) wr by have := HW.out; rwa [hk8] at this)
        have HLd := Lib.hid (wdLoad HW2.out.f)
        have HIw := Lib.hid (infoWd (wTo n 8))
        clear hk8 HW
        go_upto_region 14 with (fail)
        go_wp2_with (first | (with_reducible refine wpList_load_part (o := ⟨some 51, _, _, _, _, _⟩) rfl 45 _ rfl b3 0 rfl (wdCells (wTo n 8)) _ HLd.out Try.underlying45 rfl HIw.out ?_) | (refine wpList_store_wd (o := ⟨none, .store 45 (.tmp 2) (.tmp 51), _, _, _, _⟩) rfl (.tmp 2) (.tmp 51) ?hoc b2 (wTo n 8) (fun _ => 0) ?hxc ?hyc HW2.out.r ?_; (case hoc => rfl); (case hxc => rfl); (case hyc => rfl)))
        rw [HF.out]
        exact bodyPost_ret (results_wd rfl _ b2 (wTo n 8) rfl (HW2.out.r.row _)) rfl ⟨rfl, below_setRow HW2.out.b (by have := HW2.out.lt; omega) _⟩
end Go.Proofs.Ytgmbnoimlffgcaa
