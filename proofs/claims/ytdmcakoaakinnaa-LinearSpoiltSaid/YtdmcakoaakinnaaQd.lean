/-
  linear.value, rise, get: contracts.
-/
import Derived.Test.YtdmcakoaakinnaaQc
namespace Go.Proofs.Ytdmcakoaakinnaa
open Go.RowKit
attribute [local go_sem] Oper.semAt_some
set_option linter.unusedVariables false
set_option linter.unusedSimpArgs false

theorem first_val (l : List Pr) (key : Int) : (firstF (fun j => (l.getD j prZ).key == key) l.length 0 = -1 ∧ valueP l key = (⟨#[]⟩, false)) ∨
    ∃ i, i < l.length ∧ firstF (fun j => (l.getD j prZ).key == key) l.length 0 = (i : Int) ∧ valueP l key = ((l.getD i prZ).val, true) := by
  have gen : ∀ (d i : Nat), i + d = l.length → (firstF (fun j => (l.getD j prZ).key == key) d i = -1 ∧ (l.drop i).find? (fun p => p.key == key) = none) ∨
      ∃ k, k < l.length ∧ firstF (fun j => (l.getD j prZ).key == key) d i = (k : Int) ∧ (l.drop i).find? (fun p => p.key == key) = some (l.getD k prZ) := by
    intro d
    induction d with
    | zero => intro i hi; exact .inl ⟨rfl, by rw [List.drop_eq_nil_of_le (by omega)]; rfl⟩
    | succ d ih =>
      intro i hi
      have hil : i < l.length := by omega
      have hdr : l.drop i = l.getD i prZ :: l.drop (i + 1) := by rw [getD_eq l i prZ hil]; exact (List.getElem_cons_drop hil).symm
      unfold firstF
      rw [hdr, List.find?_cons]
      cases h : ((l.getD i prZ).key == key) with
      | true => exact .inr ⟨i, hil, by simp, rfl⟩
      | false =>
        rcases ih (i + 1) (by omega) with ⟨h1, h2⟩ | ⟨k, h1, h2, h3⟩
        · exact .inl ⟨by rw [if_neg Bool.false_ne_true]; exact h1, by simpa using h2⟩
        · exact .inr ⟨k, h1, by rw [if_neg Bool.false_ne_true]; exact h2, by simpa using h3⟩
  have h := gen l.length 0 (by omega)
  rw [List.drop_zero] at h
  unfold valueP
  rcases h with ⟨h1, h2⟩ | ⟨k, h1, h2, h3⟩
  · exact .inl ⟨h1, by rw [h2]⟩
  · exact .inr ⟨k, h1, h2, by rw [h3]⟩
set_option maxRecDepth 100000 in
theorem value_v (l : List Pr) (key : Int) (a : Option Addr) (cap : Nat) (w : World) (hm : l.length ≤ 9223372036854775807) (hE : PrsAt w a l) :
    Calls Try.prog 20 #[.slice a l.length cap, .int .u64 key] w fun e w' => e = .returned (.tuple #[.string (valueP l key).1, .bool (valueP l key).2]) ∧ Below w.heap.size w w' := by
  have hB1 : Below w.heap.size w (w.alloc (.cells #[.int .u64 key] 24)) := (Below.refl _ w).alloc (Nat.le_refl _) _
  have hb : Blk (w.alloc (.cells #[.int .u64 key] 24)) w.heap.size #[.int .u64 key] 24 := Blk.new w _ _
  have HI := Lib.hid (idxV w.heap.size l a cap _ hm (hE.below hB1) (fun p => p.key == key) (fun d W _ hW => vkey_v d key w.heap.size W (hb.kept (Keeps.of_below' hW) (fun h => h))))
  have HE := Lib.hid hE
  have HB := Lib.hid hB1
  rcases first_val l key with ⟨h1, h2⟩ | ⟨i, hi, h1, h2⟩
  · rw [h1] at HI
    rw [h2]
    clear hE hB1 hb h1 h2
    go_enter Try.func20, Try.ntmps20
    go_wp2_with (fail)
    refine HI.out.mono ?_
    rintro e w2 ⟨rfl, hB2⟩
    have HB2 := Lib.hid (HB.out.trans (hB2.mono (by simp)))
    clear hB2
    go_wp2_with (fail)
    go_ret2
    exact ⟨rfl, HB2.out⟩
  · obtain ⟨p, hp⟩ : ∃ p, l.getD i prZ = p := ⟨_, rfl⟩
    have HP := Lib.hid hp
    rw [hp] at h2
    rw [h1] at HI
    rw [h2]
    clear hE hB1 hb h1 h2 hp
    go_enter Try.func20, Try.ntmps20
    go_wp2_with (fail)
    refine HI.out.mono ?_
    rintro e w2 ⟨rfl, hB2⟩
    have hB2' := HB.out.trans (hB2.mono (by simp))
    obtain ⟨g, o, rfl, hg, hc⟩ := (HE.out.below hB2') (by omega)
    have hc1 : w2.cell? ⟨g, o + i * 2 + 1, none⟩ = some (.string p.val) := by rw [← HP.out]; exact hc i hi 1 (by decide)
    have HB2 := Lib.hid hB2'
    have hib : (i : Int) < (l.length : Int) := by omega
    clear hB2 hB2' hc
    go_wp2_with (fail)
    go_ret2
    exact ⟨rfl, HB2.out⟩
theorem below_of_keeps {B : Nat} {w w' : World} (h : Keeps (fun k => B ≤ k) w w') (hB : B ≤ w.heap.size) : Below B w w' := ⟨h.os, h.tape, h.output, h.size, fun k hk => h.block k (by omega) (by omega)⟩
set_option maxRecDepth 100000 in
set_option maxHeartbeats 4000000 in
theorem get_v (d : Dn) (key : Int) (w : World) (hm : d.ps.length ≤ 9223372036854775807) (hE : PrsAt w d.pa d.ps) :
    Calls Try.prog 40 #[.agg (dnCells d), .int .u64 key] w fun e w' => e = .returned (.agg (dnCells (getP d key))) ∧ Below w.heap.size w w' := by
  have HV := Lib.hid (fun W (hB : Below w.heap.size w W) => value_v d.ps key d.pa d.pc W hm (hE.below hB))
  clear hE
  obtain ⟨vv, hvv⟩ : ∃ vv, (valueP d.ps key).1 = vv := ⟨_, rfl⟩
  obtain ⟨vb, hvb⟩ : ∃ vb, (valueP d.ps key).2 = vb := ⟨_, rfl⟩
  have hd0 : getP d key = ⟨d.cl, 2, key, 0, 0, ⟨#[]⟩, d.bg, d.en, if vb = true then 0 else 5, vv, none, 0, []⟩ := by unfold getP; rw [hvv, hvb]
  rw [hvv, hvb] at HV
  rw [hd0]
  have hvz : vb = false → vv = ⟨#[]⟩ := fun h => by
    rw [← hvv]; rw [← hvb] at h; unfold valueP at h ⊢; split at h
    · cases h
    · rfl
  clear hvv hvb hd0
  unfold dnCells
  have HVZ := Lib.hid hvz
  have HB0 := Lib.hid (Below.refl w.heap.size w)
  clear hvz
  go_enter Try.func40, Try.ntmps40
  go_wp2_with (fail)
  obtain ⟨W3, hW3⟩ : ∃ W3, ((w.alloc (.cells #[.int .i64 d.cl, .int .i64 d.op, .int .u64 d.key, .int .u64 d.hi, .int .i64 d.lim, .string d.val, .int .i64 d.bg, .int .i64 d.en, .int .i64 d.code, .string d.rv, .slice d.pa d.ps.length d.pc] 53)).alloc (.cells (dnCells dnZ) 53)).alloc (.cells #[.int .i64 5, .string ⟨#[]⟩, .slice none 0 0] 51) = W3 := ⟨_, rfl⟩
  have b1 : Blk W3 w.heap.size (dnCells d) 53 := by rw [← hW3]; exact ((Blk.new w _ _).alloc _).alloc _
  have b2 : Blk W3 (w.heap.size + 1) (dnCells dnZ) 53 := by rw [← hW3]; have h := (Blk.new (w.alloc (.cells (dnCells d) 53)) (dnCells dnZ) 53).alloc (.cells #[.int .i64 5, .string ⟨#[]⟩, .slice none 0 0] 51); rw [show (w.alloc (.cells (dnCells d) 53)).heap.size = w.heap.size + 1 from by simp] at h; exact h
  have b3 : Blk W3 (w.heap.size + 1 + 1) #[.int .i64 5, .string ⟨#[]⟩, .slice none 0 0] 51 := by rw [← hW3]; have h := Blk.new ((w.alloc (.cells (dnCells d) 53)).alloc (.cells (dnCells dnZ) 53)) #[.int .i64 5, .string ⟨#[]⟩, .slice none 0 0] 51; rw [show ((w.alloc (.cells (dnCells d) 53)).alloc (.cells (dnCells dnZ) 53)).heap.size = w.heap.size + 1 + 1 from by simp] at h; exact h
  have hB3 : Below w.heap.size w W3 := by rw [← hW3]; exact ((HB0.out.alloc (Nat.le_refl _) _).alloc (by simp) _).alloc (by simp; omega) _
  have hV3 := (HV.out W3 hB3)
  rw [← hW3] at hV3 hB3 b1 b2 b3
  clear hW3
  refine hV3.mono ?_
  rintro e w2 ⟨rfl, hB2⟩
  have b1' := b1.kept (Keeps.of_below' hB2) (fun h => h)
  have b2' := b2.kept (Keeps.of_below' hB2) (fun h => h)
  have b3' := b3.kept (Keeps.of_below' hB2) (fun h => h)
  have HB2 := Lib.hid (hB3.trans (hB2.mono hB3.size))
  have c0 : w2.cell? ⟨w.heap.size, 0, none⟩ = some (.int .i64 d.cl) := by rw [b1'.cell]; rfl
  have c6 : w2.cell? ⟨w.heap.size, 6, none⟩ = some (.int .i64 d.bg) := by rw [b1'.cell]; rfl
  have c7 : w2.cell? ⟨w.heap.size, 7, none⟩ = some (.int .i64 d.en) := by rw [b1'.cell]; rfl
  obtain ⟨n0, hn0⟩ : ∃ n0, w.heap.size = n0 := ⟨_, rfl⟩
  obtain ⟨n1, hn1⟩ : ∃ n1, n0 + 1 = n1 := ⟨_, rfl⟩
  obtain ⟨n2, hn2⟩ : ∃ n2, n1 + 1 = n2 := ⟨_, rfl⟩
  rw [hn0, hn1] at b2'
  rw [hn0, hn1, hn2] at b3'
  rw [hn0] at c0 c6 c7
  have HN := Lib.hid (And.intro hn0 (And.intro hn1 hn2))
  simp only [hn0, hn1, hn2]
  have h02 : n2 ≠ n0 := by omega
  have h12 : n1 ≠ n2 := by omega
  have HBk := Lib.hid (And.intro b2' b3')
  have d0 : w2.cell? ⟨n2, 0, none⟩ = some (.int .i64 5) := by rw [b3'.cell]; rfl
  have d1 : w2.cell? ⟨n2, 1, none⟩ = some (.string ⟨#[]⟩) := by rw [b3'.cell]; rfl
  have d2 : w2.cell? ⟨n2, 2, none⟩ = some (.slice none 0 0) := by rw [b3'.cell]; rfl
  have f0 := b3'.frozen 0
  have f1 := b3'.frozen 1
  have f2 := b3'.frozen 2
  have h10 : n1 ≠ n0 := by omega
  have h21 : n2 ≠ n1 := by omega
  clear hB2 b1 b2 b3 b1' b2' b3' hV3 hB3 hn0 hn1 hn2
  cases vb with
  | false =>
    obtain rfl := HVZ.out rfl
    go_upto_region 5 with (fail)
    go_step
    refine wpList_plain rfl (fun K hK => ?_)
    go_simp
    refine hK _ _ ?_
    clear hK K
    refine wpList_plain rfl (fun K hK => ?_)
    go_simp
    refine hK _ _ ?_
    clear hK K
    refine wpList_plain rfl (fun K hK => ?_)
    go_simp
    refine hK _ _ ?_
    clear hK K
    refine wpList_plain rfl (fun K hK => ?_)
    go_simp
    refine hK _ _ ?_
    clear hK K
    refine wpList_plain rfl (fun K hK => ?_)
    go_simp
    refine hK _ _ ?_
    clear hK K
    refine wpList_plain rfl (fun K hK => ?_)
    go_simp
    refine hK _ _ ?_
    clear hK K
    refine wpList_plain rfl (fun K hK => ?_)
    go_simp
    refine hK _ _ ?_
    clear hK K
    refine wpList_plain rfl (fun K hK => ?_)
    go_simp
    refine hK _ _ ?_
    clear hK K
    refine wpList_plain rfl (fun K hK => ?_)
    go_simp
    refine hK _ _ ?_
    clear hK K
    refine wpList_plain rfl (fun K hK => ?_)
    go_simp
    refine hK _ _ ?_
    clear hK K
    refine wpList_store_dn rfl (.tmp 4) (.tmp 29) rfl n1 ⟨d.cl, 2, key, 0, 0, ⟨#[]⟩, d.bg, d.en, 5, ⟨#[]⟩, none, 0, []⟩ (dnCells dnZ) (ev_tmp (by simp)) (ev_tmp (by simp [dnCells])) HBk.out.1 rfl ?_
    go_wp2_with (fail)
    exact bodyPost_ret (results_dn rfl _ n1 ⟨d.cl, 2, key, 0, 0, ⟨#[]⟩, d.bg, d.en, 5, ⟨#[]⟩, none, 0, []⟩ rfl (Blk.row HBk.out.1 _)) rfl ⟨rfl, below_of_keeps (keeps_setRow (Keeps.of_below HB2.out) (.inl (by have := HN.out; omega)) _) (Nat.le_refl _)⟩
  | true =>
    have HB3x := Lib.hid (((HBk.out.1.other 0 (.int .i64 0) h12).other 1 (.string vv) h12).other 2 (.slice none 0 0) h12)
    go_upto_region 5 with (fail)
    go_step
    refine wpList_plain rfl (fun K hK => ?_)
    go_simp
    refine hK _ _ ?_
    clear hK K
    refine wpList_plain rfl (fun K hK => ?_)
    go_simp
    refine hK _ _ ?_
    clear hK K
    refine wpList_plain rfl (fun K hK => ?_)
    go_simp
    refine hK _ _ ?_
    clear hK K
    refine wpList_plain rfl (fun K hK => ?_)
    go_simp
    refine hK _ _ ?_
    clear hK K
    refine wpList_plain rfl (fun K hK => ?_)
    go_simp
    refine hK _ _ ?_
    clear hK K
    refine wpList_plain rfl (fun K hK => ?_)
    go_simp
    refine hK _ _ ?_
    clear hK K
    refine wpList_plain rfl (fun K hK => ?_)
    go_simp
    refine hK _ _ ?_
    clear hK K
    refine wpList_plain rfl (fun K hK => ?_)
    go_simp
    refine hK _ _ ?_
    clear hK K
    refine wpList_plain rfl (fun K hK => ?_)
    go_simp
    refine hK _ _ ?_
    clear hK K
    refine wpList_plain rfl (fun K hK => ?_)
    go_simp
    refine hK _ _ ?_
    clear hK K
    refine wpList_store_dn rfl (.tmp 4) (.tmp 29) rfl n1 ⟨d.cl, 2, key, 0, 0, ⟨#[]⟩, d.bg, d.en, 0, vv, none, 0, []⟩ (dnCells dnZ) (ev_tmp (by simp)) (ev_tmp (by simp [dnCells])) HB3x.out rfl ?_
    go_wp2_with (fail)
    exact bodyPost_ret (results_dn rfl _ n1 ⟨d.cl, 2, key, 0, 0, ⟨#[]⟩, d.bg, d.en, 0, vv, none, 0, []⟩ rfl (Blk.row HB3x.out _)) rfl ⟨rfl, below_of_keeps (keeps_setRow ((((Keeps.of_below HB2.out).setCell (p := ⟨n2, 0, none⟩) (.inl (show w.heap.size ≤ n2 by have := HN.out; omega)) _).setCell (p := ⟨n2, 1, none⟩) (.inl (show w.heap.size ≤ n2 by have := HN.out; omega)) _).setCell (p := ⟨n2, 2, none⟩) (.inl (show w.heap.size ≤ n2 by have := HN.out; omega)) _) (.inl (by have := HN.out; omega)) _) (Nat.le_refl _)⟩
end Go.Proofs.Ytdmcakoaakinnaa
