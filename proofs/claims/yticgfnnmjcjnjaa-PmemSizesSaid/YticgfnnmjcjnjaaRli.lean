/-
  pmem.Mem.Lines: a contract.
-/
import Derived.Test.YticgfnnmjcjnjaaRi
import Derived.Test.YticgfnnmjcjnjaaMn
namespace Go.Proofs.Yticgfnnmjcjnjaa
open Go.RowKit Go.Maps Go.Shelf
attribute [local go_sem] Oper.semAt_some
set_option linter.unusedVariables false

def LinesP (w : World) (D : DataW Value) (n : Nat) (e : Ending) (w' : World) : Prop :=
  ∃ u xs, e = .returned u ∧ KeysOf D xs ∧ xs.length ≤ n ∧ w'.ownsRow w.heap.size 36 1 u (srt xs).length ((srt xs).map (Value.int .u64)) ∧ Below w.heap.size w w'
def pick (l : List Int) (pre : List (Fin l.length)) : List Int := pre.map fun i => l.getD i.val 0
theorem pick_all (l : List Int) : pick l (List.finRange l.length) = l := by
  unfold pick
  apply List.ext_getElem
  · simp
  · intro i h1 h2
    simp [List.getD_eq_getElem?_getD]
set_option maxRecDepth 100000 in
set_option maxHeartbeats 4000000 in
theorem lines_in (w : World) (mb ml n : Nat) (D : DataW Value) (hn : n ≤ 1000000) (c2 : w.cell? ⟨mb, 2, none⟩ = some (.map (some ml))) (hown : OwnL w ml n D)
    (hth : ∀ W, Below w.heap.size w W → Calls Try.prog 18 #[.pointer (some ⟨mb, 0, none⟩)] W fun e w' => e = .returned (.bool true) ∧ W = w') :
    CallsIn Fence.wide 9 Try.prog 10 #[.pointer (some ⟨mb, 0, none⟩)] w (LinesP w D n) := by
  obtain ⟨i0, hi, hz0, hz1, hz2⟩ := info_parts Try.infoA
  have hmb : mb < w.heap.size := World.block_lt_of_cell? w ⟨mb, 2, none⟩ c2
  refine callsIn_of_wp_marks Try.func10 rfl trivial ?_ rfl
  simp only [Try.ntmps10, List.size_toArray, List.length_cons, List.length_nil, Nat.reduceAdd, Nat.reduceSub, Array.replicate_succ, Array.replicate_zero, List.push_toArray, List.append_toArray, List.nil_append, List.cons_append]
  have hW1 : Below w.heap.size w (w.alloc (.cells #[.slice none 0 0] 31)) := (Below.refl _ _).alloc (Nat.le_refl _) _
  have HTh := Lib.hid (hth _ hW1)
  have HRi := Lib.hid (rising_v (w.alloc (.cells #[.slice none 0 0] 31)) mb ml n D hn ((hW1.cell (p := ⟨mb, 2, none⟩) hmb).trans c2) (ownL_keeps hown (Keeps.of_below' hW1) (fun h => h)))
  have HW1 := Lib.hid hW1
  have HB0 := Lib.hid (Blk.new w #[.slice none 0 0] 31)
  clear c2 hown hth hW1
  gi_wp2_with (first
    | (refine ⟨trivial, ?_⟩; gi_at_call 18; refine (callsIn_wide.2 HTh.out).mono ?_; rintro e w' ⟨rfl, rfl⟩)
    | (refine ⟨trivial, ?_⟩; gi_at_call 20; refine (callsIn_wide.2 HRi.out).mono ?_; rintro e w' ⟨b, g, v, xs, rfl, hks, hxl, hbv, hrg, hg0, hb0, hB⟩))
  have hsz1 : w.heap.size + 1 ≤ w'.heap.size := by have := hB.size; simp at this; omega
  have hBw : Below w.heap.size w w' := HW1.out.trans (hB.mono HW1.out.size)
  have hgl : g < w'.heap.size := hrg.lt
  have hxl2 : (srt xs).length ≤ n := by rw [srt_len]; exact hxl
  have HKs := Lib.hid hks
  have HXl := Lib.hid hxl
  have k3 : Blk w' w.heap.size #[.slice none 0 0] 31 := HB0.out.kept (Keeps.of_below' hB) (fun h => h)
  have hgA : w.heap.size + 1 ≤ g := by simpa using hg0
  clear hks hxl hg0 hb0 HTh HRi HB0
  obtain ⟨zs, hzs⟩ : ∃ zs, srt xs = zs := ⟨_, rfl⟩
  rw [hzs] at hrg hxl2
  refine wpIn_rangeFunc_ownG rfl (by omega) (gf := 33) (lb := #[.pointer (some ⟨b, 0, none⟩)]) (by simp [Act.eval]) trivial (enters_of Try.func33 (by kernel_rfl) rfl)
    (all_stops 8 (by omega) v zs b g w' (by omega) hbv hrg) kpG_t (kpG_b hgl) (Below.refl _ _) (fun _ => rfl)
    (fun pre W => (∃ u, Blk W w.heap.size #[u] 31 ∧ W.ownsRow w'.heap.size 36 1 u (pick zs pre).length ((pick zs pre).map (Value.int .u64))) ∧ w'.heap.size ≤ W.heap.size ∧ Below w.heap.size w W)
    (fun _ _ _ => False)
    (fun s A B row hs hg hr => by
      obtain ⟨⟨u, h1, h2⟩, h3, h4⟩ := hs
      exact ⟨⟨u, h1.put hg (fun r e => (hr r e).2), own_put h2 hg (fun r e => (hr r e).2)⟩, Nat.le_trans h3 hg.size, h4.grown hg h4.size (fun r e => by have := (hr r e).1; omega)⟩)
    (fun _ _ _ _ _ hs _ _ => hs)
    ⟨⟨_, k3, World.ownsRow_nil _ _ _ _⟩, by omega, hBw⟩
    (fun x => { tmps := #[.pointer (some ⟨mb, 0, none⟩), undef, .pointer (some ⟨w.heap.size, 0, none⟩), undef, .int .u64 (zs.getD x.val 0), .pointer (some ⟨mb, 0, none⟩), .bool true, .bool false, .pointer (some ⟨mb, 0, none⟩), .func (.func 33) #[] #[.pointer (some ⟨b, 0, none⟩)], .int .i64 x.val, .int .u64 (zs.getD x.val 0), undef, undef, undef, undef, undef], defers := [] }) ?assign ?body ?done ?stop
  case assign =>
    intro l x W K hK
    revert hK
    dsimp only [encP]
    generalize zs.getD x.val 0 = z
    intro hK
    simp
    gi_wp2
    exact hK
  case body =>
    rintro l2 pre x W ⟨⟨u, hk, hown⟩, hs, hB⟩ hlen
    have hc := hk.cell 0
    have hf := hk.frozen 0
    have hpl : (pick zs pre).length < zs.length := by unfold pick; rw [List.length_map]; exact hlen
    have hpx : pick zs (pre ++ [x]) = pick zs pre ++ [zs.getD x.val 0] := by simp [pick]
    have hpxl : (pick zs (pre ++ [x])).length = (pick zs pre).length + 1 := by rw [hpx]; simp
    obtain ⟨P, hP⟩ : ∃ P, pick zs (pre ++ [x]) = P := ⟨_, rfl⟩
    rw [hP] at hpx hpxl
    obtain ⟨ps, hps⟩ : ∃ ps, pick zs pre = ps := ⟨_, rfl⟩
    rw [hps] at hown hpl hpx hpxl
    try dsimp only
    obtain ⟨z, hz⟩ : ∃ z, zs.getD x.val 0 = z := ⟨_, rfl⟩
    rw [hz] at hpx ⊢
    obtain ⟨xv, hxv⟩ : ∃ z : Int, (x.val : Int) = z := ⟨_, rfl⟩
    rw [hxv]
    rw [show (#[u] : Array Value)[0]? = some u from rfl] at hc
    have HP := Lib.hid (And.intro hP (And.intro hpx hpxl))
    clear hP hpx hpxl
    gi_wp2_with (gi_at_builtin; refine wpListIn_append_own _ rfl _ _ 31 rfl w'.heap.size 36 i0 (.int .u64 0) 1 8 Try.underlying31 hi hz0 hz1 hz2 rfl (by decide) _ _ _ rfl (hown.alloc _) ⟨W.heap.size, 0, none⟩ 1 1 [.int .u64 z] rfl rfl (cell_one_new _ _ _) (ints_oneCell .u64 [z]) (by unfold maxLen; omega) (by omega) (by simp; omega) ?_)
    intro v' w1 hown' hgrow hnil
    obtain ⟨g', cap, rfl, hg1, hg2, hg3, hg4, hg5, hg6, hg7⟩ := own_shape hown' (by omega)
    have hk1 := (hk.alloc (.cells #[.int .u64 z] 36)).grown hgrow (fun e => by have := own_base hown _ e.symm; omega)
    have hc1 := hk1.cell 0
    rw [show (#[u] : Array Value)[0]? = some u from rfl] at hc1
    have hf1 := hk1.frozen 0
    have HB1 := Lib.hid ((hB.alloc hB.size (.cells #[.int .u64 z] 36)).grown hgrow (by simp; have := hB.size; omega) (fun r e => by have := own_base hown _ e; omega))
    have HK1 := Lib.hid hk1
    have HO := Lib.hid hown'
    have hsW : W.heap.size ≤ w1.heap.size := by have := hgrow.size; simp at this; omega
    have HS := Lib.hid (show w'.heap.size ≤ w1.heap.size by omega)
    have HKo := Lib.hid ((KeepsOthers.alloc W (.cells #[.int .u64 z] 36)).trans (KeepsOthers.of_grownBy hgrow (fun j o e ho => by obtain ⟨_, _, _, rfl⟩ := own_cells (hown.alloc (.cells #[.int .u64 z] 36)) j o e ho; rfl)))
    have HKg := Lib.hid (show W.heap.size ≤ w1.heap.size ∧ (g < W.heap.size → w1.heap[g]? = W.heap[g]?) from ⟨hsW, fun h => by
      rw [hgrow.block g (by simp; omega) (fun e => by have := own_base hown _ e.symm; omega)]
      exact Below.heap_alloc _ _ _ h⟩)
    have HGn := Lib.hid (show w.heap.size ≠ g from by omega)
    clear hk1 hown' hk hown hgrow hnil hg5 hg6 hg7 hB hs hsW
    gi_wp2
    refine ⟨(HKo.out.trans (KeepsOthers.setCell _ _ _)).from _, ⟨by simpa [World.setCell] using HKg.out.1, fun h => ?_⟩, ⟨_, by simpa using HK1.out.set 0 (.slice (some ⟨g', 0, none⟩) (ps.length + 1) cap), ?_⟩, by simpa [World.setCell] using HS.out, HB1.out.setCell (p := ⟨w.heap.size, 0, none⟩) (by simp) _⟩
    · rw [((Keeps.refl (fun i => i = w.heap.size) w1).setCell (p := ⟨w.heap.size, 0, none⟩) (.inl rfl) _).block g (by have := HKg.out.1; omega) HGn.out.symm]
      exact HKg.out.2 h
    · have := ownsRow_setCell_below HO.out (a := ⟨w.heap.size, 0, none⟩) (by simp; omega) (.slice (some ⟨g', 0, none⟩) (ps.length + 1) cap)
      rw [HP.out.1, HP.out.2.1]
      simpa using this
  case done =>
    rintro Dd xs9 W hD rfl ⟨⟨u, hk, hown⟩, hs, hB⟩ hK
    rw [pick_all] at hown
    obtain ⟨a, lw, cw, rfl⟩ := own_slice hown
    have hc := hk.cell 0
    rw [show (#[Value.slice a lw cw] : Array Value)[0]? = some (.slice a lw cw) from rfl] at hc
    have hf := hk.frozen 0
    have hsz := hB.size
    have HB := Lib.hid hB
    have HO := Lib.hid hown
    have HD := Lib.hid (And.intro hD hK)
    have HSz := Lib.hid hBw.size
    have HK := Lib.hid hk
    clear hk hB hown hs hD hK hBw hbv hrg
    gi_wp2
    have hK2 : (W.setCell ⟨w.heap.size, 0, none⟩ (.slice a lw cw)).heap[Dd]? = some (Obj.deferred (some [])) := by
      rw [((Keeps.refl (fun i => i = w.heap.size) W).setCell (p := ⟨w.heap.size, 0, none⟩) (.inl rfl) _).block Dd (Array.getElem?_eq_some_iff.1 HD.out.2).1 (by have := HD.out.1; have := hsz1; omega)]; exact HD.out.2
    have hcell : ((W.setCell ⟨w.heap.size, 0, none⟩ (.slice a lw cw)).putObj Dd (Obj.deferred none)).cell? ⟨w.heap.size, 0, none⟩ = some (.slice a lw cw) := by
      have h1 := (HK.out.set 0 (.slice a lw cw)).kept ((Keeps.refl (fun i => i = Dd) (W.setCell ⟨w.heap.size, 0, none⟩ (.slice a lw cw))).grown (grownBy_putObj' _ Dd (.deferred none)) (fun k e => .inl (Option.some.inj e).symm)) (by have := HD.out.1; have := hsz1; omega)
      exact h1.cell 0
    refine ⟨by simp, .inl ⟨_, _, rfl, run_takeDeferred hK2, ?_⟩⟩
    have hB2 : Below w.heap.size w (W.setCell ⟨w.heap.size, 0, none⟩ (.slice a lw cw)) := HB.out.setCell (p := ⟨w.heap.size, 0, none⟩) (by simp) _
    have hO2 := ownsRow_setCell_below HO.out (a := ⟨w.heap.size, 0, none⟩) (by simp; omega) (.slice a lw cw)
    exact ⟨.slice a lw cw, by simp [results, Try.results10, go_sem, hcell], _, _, rfl, HKs.out, HXl.out, by rw [hzs]; exact own_mono (own_put hO2 (grownBy_putObj' _ Dd (.deferred none)) (fun r e => by cases e; exact ⟨_, hK2, rfl⟩)) (by omega), hB2.trans (belowK_b (w := w) (Nat.le_refl _) _ Dd _ _ (by have := HD.out.1; omega) hK2 rfl rfl)⟩
  case stop =>
    rintro D c pre W _ _ h _
    exact h.elim
end Go.Proofs.Yticgfnnmjcjnjaa
