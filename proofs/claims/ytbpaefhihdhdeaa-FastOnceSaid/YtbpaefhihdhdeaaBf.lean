/-
  leveelaw09.behind, whatever is asked: a contract.
-/
import Derived.Test.YtbpaefhihdhdeaaBe
namespace Go.Proofs.Ytbpaefhihdhdeaa
open Go.RowKit
set_option linter.unusedVariables false

theorem behF_no {key ptr : Int} (acc : List (Int × Int)) (e : Int × Int) : behF 0 key ptr (acc, false) e = (acc ++ [e], false) := by unfold behF; simp
theorem behF_low {key ptr : Int} (acc : List (Int × Int)) (e : Int × Int) (h : ¬ key < e.1) : behF 0 key ptr (acc, true) e = (acc ++ [e], true) := by
  unfold behF; rw [decide_eq_false h]; simp
theorem behF_in {key ptr : Int} (acc : List (Int × Int)) (e : Int × Int) (h : key < e.1) : behF 0 key ptr (acc, true) e = (acc ++ [(key, ptr)] ++ [e], false) := by
  unfold behF; rw [decide_eq_true h]; simp

/-- the loop, of kind 0 -/
def InsRel (w1 : World) (b3 g : Nat) (kind key ptr : Int) (l : List (Int × Int)) (ov bv iv : Value) (wr : World) : Prop :=
  ∃ (k : Nat) (acc : List (Int × Int)) (b : Bool), k ≤ l.length ∧ iv = .int .i64 k ∧ bv = .bool b ∧ (l.take k).foldl (behF 0 key ptr) ([], true) = (acc, b) ∧ acc.length ≤ 2 * k ∧ RowV w1.heap.size acc ov wr ∧ BeW w1 b3 g kind key ptr l wr
set_option maxRecDepth 100000 in
set_option maxHeartbeats 6400000 in
theorem behind_ins (n : Nd) (kind key ptr : Int) (w : World) (hkd : kdOf kind = 0) :
    Calls Try.prog 16 #[.agg (ndCells n), .agg (askC kind key ptr)] w fun e w' => ∃ v, e = .returned v ∧ RowV w.heap.size (behL 0 key ptr n.valid) v w' ∧ Below w.heap.size w w' := by
  obtain ⟨i0, hi, hz0, hz1, hz2⟩ := info_parts Try.info60
  have HI := Lib.hid (info27 n)
  have hk0 : Blk ((w.alloc (.cells (ndCells n) 27)).alloc (.cells (askC kind key ptr) 39)) w.heap.size (ndCells n) 27 := (Blk.new w _ _).alloc _
  have hg0 : Blk ((w.alloc (.cells (ndCells n) 27)).alloc (.cells (askC kind key ptr) 39)) (w.heap.size + 1) (askC kind key ptr) 39 := by
    have := Blk.new (w.alloc (.cells (ndCells n) 27)) (askC kind key ptr) 39
    simpa using this
  have HL0 := Lib.hid (ndLoad hk0)
  have HG0 := Lib.hid hg0
  have HB0 := Lib.hid (((Below.refl w.heap.size w).alloc (Nat.le_refl _) (.cells (ndCells n) 27)).alloc (by simp) (.cells (askC kind key ptr) 39))
  obtain ⟨u, hu⟩ : ∃ u, IntKind.u64.wrap kind = u := ⟨_, rfl⟩
  have hu0 : 0 ≤ u := by rw [← hu, IntKind.wrap_u64]; omega
  have hd : u % 6 = 0 := by rw [← hu]; exact hkd
  have HV8 := Lib.hid (show n.valid.length ≤ 8 by have := plN_len n; simpa [Nd.valid] using this)
  clear hk0 hg0 hkd
  unfold askC at HL0 HB0 ⊢
  go_enter Try.func16, Try.ntmps16
  go_wp2_with (with_reducible refine wpList_load_part (o := ⟨some 9, _, _, _, _, _⟩) rfl 27 _ rfl w.heap.size 0 rfl (ndCells n) _ HL0.out Try.underlying27 rfl HI.out ?_)
  refine (rvalid_calls n _).mono ?_
  rintro e w1 ⟨v, rfl, hv, hB⟩
  have HB1 := Lib.hid (HB0.out.trans (hB.mono HB0.out.size))
  have HG1 := Lib.hid (HG0.out.below hB HG0.out.lt)
  obtain ⟨l, hl⟩ : ∃ l, n.valid = l := ⟨_, rfl⟩
  have HLE := Lib.hid hl
  rw [hl] at hv HV8
  have hl8 := HV8.out
  obtain ⟨a, c, g, rfl, hA, hE, hgl⟩ := own_any hv
  obtain ⟨b3, hb3⟩ : ∃ x, w.heap.size + 1 = x := ⟨_, rfl⟩
  rw [hb3] at HG1 ⊢
  have HA := Lib.hid hA
  have HW1 := Lib.hid (show BeW w1 b3 g kind key ptr l w1 from ⟨HG1.out, hE, Below.refl _ _, HG1.out.lt, hgl⟩)
  have q0 : w1.cell? ⟨b3, 0, none⟩ = some (.int .i64 kind) := by rw [HG1.out.cell]; rfl
  clear hB hl hv hA hE hgl hb3 HG0 HL0 HG1
  go_wp2_with (fail)
  go_loopw [6, 7, 8] (fun ov bv iv wr => InsRel w1 b3 g kind key ptr l ov bv iv wr) (fun _ _ iv _ => l.length - (intOf iv).toNat)
  case atStart => exact ⟨0, [], true, Nat.zero_le _, rfl, rfl, rfl, by simp, World.ownsRow_nil _ _ _ _, HW1.out⟩
  case round =>
    obtain ⟨k, acc, b, hk, rfl, rfl, hF, hLn, hO, hW⟩ := hrel
    have HF := Lib.hid hF
    have HLn := Lib.hid hLn
    have HO := Lib.hid hO
    have HW := Lib.hid hW
    clear hF hLn hO hW
    clear HW1 q0
    by_cases hlt : k < l.length
    · skip
      have b1 : (k : Int) < (l.length : Int) := by omega
      have b2 : ((k : Int)).toNat = k := by omega
      obtain rfl := HA.out (by omega)
      obtain ⟨ek, he1⟩ : ∃ x, eK l k = x := ⟨_, rfl⟩
      obtain ⟨ep, he2⟩ : ∃ x, eP l k = x := ⟨_, rfl⟩
      have HE1 := Lib.hid he1
      have HE2 := Lib.hid he2
      have HTk := Lib.hid (show (l.take (k + 1)).foldl (behF 0 key ptr) ([], true) = behF 0 key ptr (acc, b) (ek, ep) by rw [foldl_take hlt, HF.out, he1, he2])
      clear he1 he2
      obtain ⟨c1, c2, a0, a1, a2⟩ := HW.out.facts hlt HE1.out HE2.out
      cases b
      case false =>
        go_upto_region 7 with (fail)
        go_quiet (fail)
        have HO2 := Lib.hid (show RowV w1.heap.size acc u6 (wr.drewN nq) from HO.out)
        have HW2 := Lib.hid (HW.out.keep (below_drewN (Below.refl _ _) nq))
        clear c1 c2 a0 a1 a2
        generalize wr.drewN nq = w2 at *
        clear nq
        have HLa := Lib.hid (show (acc).length ≤ 20 by first | (have := HLn.out; omega) | (rw [List.length_append]; have := HLn.out; show _ + 1 ≤ _; omega))
        obtain ⟨c1, c2, a0, a1, a2⟩ := HW2.out.facts hlt HE1.out HE2.out
        go_upto_region 18 with (fail)
        go_upto_region 6 with (at_builtin; refine wpList_append_own _ rfl (.tmp 83) (.tmp 88) 46 rfl w1.heap.size 60 i0 _ 2 16 Try.underlying46 hi hz0 hz1 hz2 rfl (by decide) _ _ _ rfl (World.ownsRow.alloc HO2.out _) ⟨_, 0, none⟩ 1 1 [.int .u64 ek, .int .u64 ep] rfl rfl (World.news_of_block (cs := #[.int .u64 ek, .int .u64 ep]) (t := 60) (fr := (0, 0)) (heap_alloc_new _ _)) (by simp [Value.oneCell']) (by unfold maxLen; have := HLa.out; omega) (by have := HLa.out; omega) (by simp; have := HW2.out.b.size; omega) ?_; intro v3 w3 hown3 hg3 _)
        have HO3 := Lib.hid (RowV.snoc hown3)
        have HW3 := Lib.hid (HW2.out.app HO2.out hg3)
        clear hown3 hg3
        clear c1 c2 a0 a1 a2 HLa
        go_wp2_with (fail)
        go_roundw
        case rel => exact ⟨_, _, _, ⟨k + 1, acc ++ [(ek, ep)], false, by omega, by go_num, rfl, HTk.out.trans (behF_no _ _), by rw [List.length_append]; have := HLn.out; show _ + 1 ≤ _; omega, HO3.out, HW3.out⟩, rfl, rfl, rfl⟩
        case measure => simp [intOf]; omega
      case true =>
        cases hq : decide (key < ek)
        case false =>
          have HNE := Lib.hid (of_decide_eq_false hq)
          go_upto_region 7 with (fail)
          go_quiet (fail)
          have HO2 := Lib.hid (show RowV w1.heap.size acc u6 (wr.drewN nq) from HO.out)
          have HW2 := Lib.hid (HW.out.keep (below_drewN (Below.refl _ _) nq))
          clear c1 c2 a0 a1 a2
          generalize wr.drewN nq = w2 at *
          clear nq
          clear hq
          have HLa := Lib.hid (show (acc).length ≤ 20 by first | (have := HLn.out; omega) | (rw [List.length_append]; have := HLn.out; show _ + 1 ≤ _; omega))
          obtain ⟨c1, c2, a0, a1, a2⟩ := HW2.out.facts hlt HE1.out HE2.out
          go_upto_region 18 with (fail)
          go_upto_region 6 with (at_builtin; refine wpList_append_own _ rfl (.tmp 83) (.tmp 88) 46 rfl w1.heap.size 60 i0 _ 2 16 Try.underlying46 hi hz0 hz1 hz2 rfl (by decide) _ _ _ rfl (World.ownsRow.alloc HO2.out _) ⟨_, 0, none⟩ 1 1 [.int .u64 ek, .int .u64 ep] rfl rfl (World.news_of_block (cs := #[.int .u64 ek, .int .u64 ep]) (t := 60) (fr := (0, 0)) (heap_alloc_new _ _)) (by simp [Value.oneCell']) (by unfold maxLen; have := HLa.out; omega) (by have := HLa.out; omega) (by simp; have := HW2.out.b.size; omega) ?_; intro v3 w3 hown3 hg3 _)
          have HO3 := Lib.hid (RowV.snoc hown3)
          have HW3 := Lib.hid (HW2.out.app HO2.out hg3)
          clear hown3 hg3
          clear c1 c2 a0 a1 a2 HLa
          go_wp2_with (fail)
          go_roundw
          case rel => exact ⟨_, _, _, ⟨k + 1, acc ++ [(ek, ep)], true, by omega, by go_num, rfl, HTk.out.trans (behF_low _ _ (by have := HNE.out; show ¬ key < ek; omega)), by rw [List.length_append]; have := HLn.out; show _ + 1 ≤ _; omega, HO3.out, HW3.out⟩, rfl, rfl, rfl⟩
          case measure => simp [intOf]; omega
        case true =>
          have HEQ := Lib.hid (of_decide_eq_true hq)
          go_upto_region 7 with (fail)
          go_quiet (fail)
          have HO2 := Lib.hid (show RowV w1.heap.size acc u6 (wr.drewN nq) from HO.out)
          have HW2 := Lib.hid (HW.out.keep (below_drewN (Below.refl _ _) nq))
          clear c1 c2 a0 a1 a2
          generalize wr.drewN nq = w2 at *
          clear nq
          clear hq
          have HLa := Lib.hid (show acc.length ≤ 20 by have := HLn.out; omega)
          obtain ⟨c1, c2, a0, a1, a2⟩ := HW2.out.facts hlt HE1.out HE2.out
          go_upto_region 8 with (fail)
          go_upto_region 9 with (at_builtin; refine wpList_append_own _ rfl (.tmp 33) (.tmp 39) 46 rfl w1.heap.size 60 i0 _ 2 16 Try.underlying46 hi hz0 hz1 hz2 rfl (by decide) _ _ _ rfl (World.ownsRow.alloc HO2.out _) ⟨_, 0, none⟩ 1 1 [.int .u64 key, .int .u64 ptr] rfl rfl (World.news_of_block (cs := #[.int .u64 key, .int .u64 ptr]) (t := 60) (fr := (0, 0)) (heap_alloc_new _ _)) (by simp [Value.oneCell']) (by unfold maxLen; have := HLa.out; omega) (by have := HLa.out; omega) (by simp; have := HW2.out.b.size; omega) ?_; intro v3 w3 hown3 hg3 _)
          have HO3 := Lib.hid (RowV.snoc hown3)
          have HW3 := Lib.hid (HW2.out.app HO2.out hg3)
          clear hown3 hg3
          clear c1 c2 a0 a1 a2 HLa
          have HLa := Lib.hid (show (acc ++ [(key, ptr)]).length ≤ 20 by first | (have := HLn.out; omega) | (rw [List.length_append]; have := HLn.out; show _ + 1 ≤ _; omega))
          obtain ⟨c1, c2, a0, a1, a2⟩ := HW3.out.facts hlt HE1.out HE2.out
          go_upto_region 18 with (fail)
          go_upto_region 6 with (at_builtin; refine wpList_append_own _ rfl (.tmp 83) (.tmp 88) 46 rfl w1.heap.size 60 i0 _ 2 16 Try.underlying46 hi hz0 hz1 hz2 rfl (by decide) _ _ _ rfl (World.ownsRow.alloc HO3.out _) ⟨_, 0, none⟩ 1 1 [.int .u64 ek, .int .u64 ep] rfl rfl (World.news_of_block (cs := #[.int .u64 ek, .int .u64 ep]) (t := 60) (fr := (0, 0)) (heap_alloc_new _ _)) (by simp [Value.oneCell']) (by unfold maxLen; have := HLa.out; omega) (by have := HLa.out; omega) (by simp; have := HW3.out.b.size; omega) ?_; intro v4 w4 hown4 hg4 _)
          have HO4 := Lib.hid (RowV.snoc hown4)
          have HW4 := Lib.hid (HW3.out.app HO3.out hg4)
          clear hown4 hg4
          clear c1 c2 a0 a1 a2 HLa
          go_wp2_with (fail)
          go_roundw
          case rel => exact ⟨_, _, _, ⟨k + 1, acc ++ [(key, ptr)] ++ [(ek, ep)], false, by omega, by go_num, rfl, HTk.out.trans (behF_in _ _ HEQ.out), by rw [List.length_append, List.length_append]; have := HLn.out; show _ + 1 + 1 ≤ _; omega, HO4.out, HW4.out⟩, rfl, rfl, rfl⟩
          case measure => simp [intOf]; omega
    · have hkl : l.take k = l := List.take_of_length_le (by omega)
      cases b
      case false =>
        have HFin := Lib.hid (show behL 0 key ptr n.valid = acc by
          unfold behL; rw [HLE.out, show decide ((0 : Int) = 0) = true from rfl, ← hkl, HF.out]; rfl)
        clear hkl
        by_cases hb : False
        · exact hb.elim
        · have HO3 := Lib.hid (show RowV w1.heap.size (behL 0 key ptr n.valid) u6 wr by rw [HFin.out]; exact HO.out)
          have HBf := Lib.hid (HB1.out.trans (HW.out.b.mono HB1.out.size))
          have HR := Lib.hid (RowV.mono HO3.out HB1.out.size)
          have b1 : ¬ (k : Int) < (l.length : Int) := by omega
          clear hb
          go_wp2_with (fail)
          go_ret
          exact ⟨_, rfl, HR.out, HBf.out⟩
      case true =>
        have HFin := Lib.hid (show behL 0 key ptr n.valid = acc ++ [(key, ptr)] by
          unfold behL; rw [HLE.out, show decide ((0 : Int) = 0) = true from rfl, ← hkl, HF.out]; rfl)
        have HLa := Lib.hid (show acc.length ≤ 20 by have := HLn.out; omega)
        have a1 : wr.cell? ⟨b3, 1, none⟩ = some (.int .u64 key) := by rw [HW.out.ask.cell]; rfl
        have a2 : wr.cell? ⟨b3, 2, none⟩ = some (.int .u64 ptr) := by rw [HW.out.ask.cell]; rfl
        have b1 : ¬ (k : Int) < (l.length : Int) := by omega
        clear hkl
        go_upto_region 20 with (fail)
        go_upto_region 21 with (at_builtin; refine wpList_append_own _ rfl (.tmp 91) (.tmp 97) 46 rfl w1.heap.size 60 i0 _ 2 16 Try.underlying46 hi hz0 hz1 hz2 rfl (by decide) _ _ _ rfl (World.ownsRow.alloc HO.out _) ⟨_, 0, none⟩ 1 1 [.int .u64 key, .int .u64 ptr] rfl rfl (World.news_of_block (cs := #[.int .u64 key, .int .u64 ptr]) (t := 60) (fr := (0, 0)) (heap_alloc_new _ _)) (by simp [Value.oneCell']) (by unfold maxLen; have := HLa.out; omega) (by have := HLa.out; omega) (by simp; have := HW.out.b.size; omega) ?_; intro v3 w3 hown3 hg3 _)
        have HO3 := Lib.hid (RowV.snoc hown3)
        have HW3 := Lib.hid (HW.out.app HO.out hg3)
        clear hown3 hg3
        have HO4 := Lib.hid (show RowV w1.heap.size (behL 0 key ptr n.valid) v3 w3 by rw [HFin.out]; exact HO3.out)
        have HBf := Lib.hid (HB1.out.trans (HW3.out.b.mono HB1.out.size))
        have HR := Lib.hid (RowV.mono HO4.out HB1.out.size)
        go_wp2_with (fail)
        go_ret
        exact ⟨_, rfl, HR.out, HBf.out⟩

theorem behind_v (n : Nd) (kind key ptr : Int) (w : World) :
    Calls Try.prog 16 #[.agg (ndCells n), .agg (askC kind key ptr)] w fun e w' => ∃ v, e = .returned v ∧ RowV w.heap.size (behL (kdOf kind) key ptr n.valid) v w' ∧ Below w.heap.size w w' := by
  rcases kdOf_lt kind with h | h | h | h | h | h
  · rw [h]; exact behind_ins n kind key ptr w h
  · rw [h]; exact behind_del n kind key ptr w h
  · rw [h]; exact behind_same 2 (.inl rfl) n kind key ptr w h
  · rw [h]; exact behind_swap n kind key ptr w h
  · rw [h]; exact behind_cut n kind key ptr w h
  · rw [h]; exact behind_same 5 (.inr rfl) n kind key ptr w h
end Go.Proofs.Ytbpaefhihdhdeaa
