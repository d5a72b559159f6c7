/-
  THE TABLE's CALLS AT WHATEVER CLIENT: Clients, Wants, Held, Runs; maps.Clone; Drop; Copy.
-/
import Derived.Test.YtajccnmeijgagaaLp
import Derived.Test.YtajccnmeijgagaaRk
import Derived.Shelf.SlMaps.Clone
import Derived.Maps.RangeWalk
import Derived.Test.YtajccnmeijgagaaFr
namespace Go.Proofs.Ytajccnmeijgagaa
open Go.RowKit Go.Maps
set_option linter.unusedVariables false

theorem clients_v (w : World) (b m : Nat) (n : Int) (h : Int → Option Int) (W : Nat → Int) (k : Nat) (t : Tab w b m n h W k) (hn : 0 < n) :
    Calls Try.prog 34 #[.pointer (some ⟨b, 0, none⟩)] w fun e w' => e = .returned (.int .i64 n) ∧ w = w' := by
  have c0 := t.c0
  have HT := Lib.hid (there_yes b n hn w c0)
  clear t
  go_enter Try.func34, Try.ntmps34
  go_wp2_with (fail)
  refine HT.out.mono ?_
  rintro e w' ⟨rfl, rfl⟩
  go_wp2_with (fail)
  go_ret
  exact ⟨rfl, rfl⟩
/-- for what a client waits; 0 for one that there is not -/
def wantN (n : Int) (W : Nat → Int) (c : Int) : Int := if 0 ≤ c ∧ c < n then W c.toNat else 0
theorem wants_f (w : World) (b m : Nat) (n : Int) (h : Int → Option Int) (W : Nat → Int) (k : Nat) (t : Tab w b m n h W k) (hn : 0 < n) (h2 : n ≤ 64) (c : Int) :
    Calls Try.prog 21 #[.pointer (some ⟨b, 0, none⟩), .int .i64 c] w fun e w' => e = .returned (.tuple #[.int .u64 (wantN n W c), .bool (wantN n W c != 0)]) ∧ Below w.heap.size w w' := by
  by_cases hc : 0 ≤ c ∧ c < n
  · rw [show wantN n W c = W c.toNat by unfold wantN; rw [if_pos hc]]
    refine (wants_any w b m n h W k t c hc.1 hc.2 h2).mono ?_
    rintro e w' ⟨rfl, q, rfl⟩
    exact ⟨rfl, ((Keeps.refl NoB w).drewN q).below⟩
  · rw [show wantN n W c = 0 by unfold wantN; rw [if_neg hc]]
    have HC := Lib.hid (client_no b n c hn (by omega) w t.c0)
    clear t hc
    go_enter Try.func21, Try.ntmps21
    go_wp2_with (fail)
    refine HC.out.mono ?_
    rintro e w' ⟨rfl, rfl⟩
    go_wp2_with (fail)
    go_ret2
    exact ⟨rfl, Below.refl _ _⟩
theorem runs_f (w : World) (b m : Nat) (n : Int) (h : Int → Option Int) (W : Nat → Int) (k : Nat) (t : Tab w b m n h W k) (hn : 0 < n) (h2 : n ≤ 64) (c : Int) (hv : Rng n h) :
    Calls Try.prog 10 #[.pointer (some ⟨b, 0, none⟩), .int .i64 c] w fun e w' => e = .returned (.int .i64 (if 0 ≤ c ∧ c < n then runsF (nxt h W) (n.toNat + 1) [] c else -1)) ∧ Below w.heap.size w w' := by
  by_cases hc : 0 ≤ c ∧ c < n
  · rw [if_pos hc]
    refine (runs_any w b m n h W k t c hc.1 hc.2 h2 hv).mono ?_
    rintro e w' ⟨rfl, hk⟩
    exact ⟨rfl, hk.below⟩
  · rw [if_neg hc]
    have HC := Lib.hid (client_no b n c hn (by omega) w t.c0)
    clear t hc
    go_enter Try.func10, Try.ntmps10
    go_wp2_with (fail)
    go_step3
    go_wp2_with (go_at_call 22; refine HC.out.mono ?_; rintro e w' ⟨rfl, rfl⟩)
    simp only [Exit.noGoto]
    go_ret
    exact ⟨rfl, Below.refl _ _⟩
/-- what both tables say that a client has -/
theorem held_f (w : World) (b m : Nat) (n : Int) (h : Int → Option Int) (W : Nat → Int) (k : Nat) (t : Tab w b m n h W k) (hn : 0 < n) (hk : k ≤ 1000000) (l : List (Int × Int)) (hl : ∀ a, h a = lk l a) (hnd : (l.map (·.1)).Nodup) (c : Int) :
    Calls Try.prog 13 #[.pointer (some ⟨b, 0, none⟩), .int .i64 c] w fun e w' => ∃ v, e = .returned v ∧ w'.ownsRow w.heap.size 29 1 v (if 0 ≤ c ∧ c < n then heldL l c else []).length ((if 0 ≤ c ∧ c < n then heldL l c else []).map (Value.int .u64)) ∧ Below w.heap.size w w' := by
  by_cases hc : 0 ≤ c ∧ c < n
  · rw [if_pos hc]
    refine (held_calls w b m n h W k t c hc.1 hc.2 hk).mono ?_
    rintro e w' ⟨v, xs, rfl, ⟨h1, h2, _⟩, ho, hB⟩
    have e1 : srt xs = heldL l c := by
      have hs : (srt xs).Pairwise (fun x y => decide (x ≤ y) = true) := List.pairwise_mergeSort (by simp; omega) (by simp; omega) xs
      have h3 : (heldL l c).Pairwise (fun x y => decide (x ≤ y) = true) := List.Pairwise.imp (fun {a b} h => by simpa using h) (heldL_sorted l c)
      exact List.Perm.eq_of_pairwise (by intro x y _ _ h1 h2; simp at h1 h2; omega) hs h3 ((srt_perm xs).trans (held_unique hnd h1 (fun a => by rw [h2, hl])))
    rw [e1] at ho
    exact ⟨v, rfl, ho, hB⟩
  · rw [if_neg hc]
    have HC := Lib.hid (client_no b n c hn (by omega) (w.alloc (.cells #[.slice none 0 0] 37)) (by rw [(t.blk.alloc _).cell, tabCells_0]))
    clear t hc
    go_enter Try.func13, Try.ntmps13
    go_wp2_with (fail)
    refine HC.out.mono ?_
    rintro e w' ⟨rfl, h9⟩
    subst h9
    go_wp2_with (fail)
    refine bodyPost_ret (v := .slice none 0 0) ?_ rfl ?_
    · have hc7 : (w.alloc (.cells #[.slice none 0 0] 37)).cell? ⟨w.heap.size, 0, none⟩ = some (.slice none 0 0) := by rw [(Blk.new w _ _).cell]; rfl
      simp [results, Try.results13, go_sem, hc7]
    · exact ⟨_, rfl, World.ownsRow_nil _ _ _ _, (Below.refl _ _).alloc (Nat.le_refl _) _⟩

/-! ### maps.Clone -/
set_option maxRecDepth 100000 in
theorem mclone_v (w : World) (m k : Nat) (D : DataW Unit) (hown : w.ownsMap Try.prog 29 (plainElem Try.prog 3) m k D) :
    Calls Try.prog 39 #[.map (some m)] w fun e w' => e = .returned (.map (some w.heap.size)) ∧ w'.ownsMap Try.prog 29 (plainElem Try.prog 3) w.heap.size k D ∧ w'.heap.size = w.heap.size + 1 ∧ Below w.heap.size w w' := by
  obtain ⟨es, clock, hb, F, hs, hD⟩ := hown
  have hq := fun w => run_eql_map_nil_sl (P := Try.prog) w 56 _ _ (some m) Try.underlying56
  have HF := Lib.hid F
  have HD := Lib.hid hD
  have HS := Lib.hid hs
  clear F hD hs
  go_enter Try.func39, Try.ntmps39
  go_wp2_with (fail)
  rw [run_callFunc_extern Try.func45 (by kernel_rfl) (by kernel_rfl) (by kernel_rfl) (e := Extern.MapsClone.clone) (by kernel_rfl), run_maps_clone_sl w 56 hb]
  simp only [Result.andThen]
  rw [Oper.upon_value]
  go_wp2_with (fail)
  rw [run_typeAssert_map_sl _ 56 _ _ _ _ Try.underlying56]
  simp only [Result.andThen]
  rw [Oper.upon_value]
  go_wp2_with (fail)
  go_ret
  exact ⟨rfl, ⟨es, clock, (MapKept.heap_alloc w _).1, HF.out, HS.out, HD.out⟩, by simp, (Below.refl _ w).alloc (Nat.le_refl _) _⟩

/-! ### Drop -/
def dropH (n : Int) (h : Int → Option Int) (c : Int) : Int → Option Int := fun a => if (0 ≤ c ∧ c < n) ∧ h a = some c then none else h a
def dropW (n : Int) (W : Nat → Int) (c : Int) : Nat → Int := if 0 ≤ c ∧ c < n then updN W c.toNat 0 else W
theorem ranges_keeps {S : Nat → Prop} {w w' : World} {b r n cnt : Nat} {D : DataW Unit} {left : Lit → Bool} (h : w.ranges Try.prog 29 (plainElem Try.prog 3) b r n D left cnt) (hk : Keeps S w w') (hb : ¬ S b) (hr : ¬ S r) : w'.ranges Try.prog 29 (plainElem Try.prog 3) b r n D left cnt := by
  have h1 := h.owns.lt
  have h2 := h.lt
  obtain ⟨es, clock, since, seen, c0, hb', F, hs, hD, hr', rest⟩ := h
  exact ⟨es, clock, since, seen, c0, (hk.block b h1 hb).trans hb', F, hs, hD, (hk.block r h2 hr).trans hr', rest⟩
theorem Tab.keptN {w w' : World} {b m : Nat} {n : Int} {h : Int → Option Int} {W : Nat → Int} {k : Nat} (t : Tab w b m n h W k) (hk : Keeps NoB w w') : Tab w' b m n h W k := t.kept hk (fun h => h) (fun h => h)
theorem Tab.congrH {w : World} {b m : Nat} {n : Int} {h h' : Int → Option Int} {W : Nat → Int} {k : Nat} (t : Tab w b m n h W k) (e : ∀ a, h a = h' a) : Tab w b m n h' W k := by
  have : h = h' := funext e
  rw [← this]; exact t
/-- where the loop stands: who was met of the client's has been given back -/
def DrI (h : Int → Option Int) (c : Int) (left : Lit → Bool) (h' : Int → Option Int) : Prop := ∀ a, h' a = if h a = some c ∧ left (.int .u64 a) = false then none else h a
theorem DrI.step {n : Int} {h h' : Int → Option Int} {c : Int} {left : Lit → Bool} (hI : DrI h c left h') (hc : 0 ≤ c ∧ c < n) (x : Int) (hlk : left (.int .u64 x) = true) : DrI h c (fun z => left z && !z.sameKey (.int .u64 x)) (relH n h' c x) := by
  intro a
  have hx : h' x = h x := by rw [hI x, if_neg (by rw [hlk]; simp)]
  unfold relH relB
  rw [hx]
  simp only [same_u64]
  by_cases e : h x = some c
  · rw [if_pos (decide_eq_true ⟨hc.1, hc.2, e⟩)]
    unfold updI
    by_cases ea : a = x
    · subst ea; rw [if_pos rfl, if_pos ⟨e, by simp⟩]
    · rw [if_neg ea, hI a]; simp [ea]
  · rw [if_neg (by simp [e])]
    rw [hI a]
    by_cases ea : a = x
    · subst ea; simp [e]
    · simp [ea]
theorem relW_other {n : Int} {W : Nat → Int} {q : Nat} {x : Int} {y : Nat} (h : y ≠ q) : relW n W (q : Int) x y = W y := by
  unfold relW
  split
  · unfold updN; rw [Int.toNat_natCast, if_neg h]
  · rfl
set_option maxRecDepth 100000 in
set_option maxHeartbeats 1000000 in
theorem drop_v (w : World) (b m : Nat) (n : Int) (h : Int → Option Int) (W : Nat → Int) (k : Nat) (t : Tab w b m n h W k) (hn : 0 < n) (h2 : n ≤ 64) (c : Int) :
    Calls Try.prog 31 #[.pointer (some ⟨b, 0, none⟩), .int .i64 c] w fun e w' => e = .returned (.tuple #[]) ∧ Tab w' b m n (dropH n h c) (dropW n W c) k ∧ Keeps (Two b m) w w' := by
  by_cases hc : 0 ≤ c ∧ c < n
  · obtain ⟨q, rfl⟩ : ∃ q : Nat, (q : Int) = c := ⟨c.toNat, by omega⟩
    have hq : q < 64 := by omega
    have HC := Lib.hid (client_yes b n q hc.1 hc.2 w t.c0)
    have HT := Lib.hid t
    have c1 := t.c1
    obtain ⟨D, hD, hh⟩ := t.map
    have hh0 : ∀ a, h a = some (q : Int) → Maps.has D (.int .u64 a) = true := fun a e => hold_isSome (by rw [hh]; exact e)
    have HMc := Lib.hid (mclone_v w m k D hD)
    have HH := Lib.hid hh
    have HCc := Lib.hid hc
    clear hD hh t hc
    go_enter Try.func31, Try.ntmps31
    go_wp2_with (fail)
    refine HC.out.mono ?_
    rintro e w' ⟨rfl, rfl⟩
    go_wp2_with (fail)
    refine HMc.out.mono ?_
    rintro e w1 ⟨rfl, hown, hsz, hB⟩
    have hT1 := HT.out.keptN (Keeps.of_below' hB)
    have hm1 : b < w.heap.size := HT.out.blk.lt
    have hm2 : m < w.heap.size := by obtain ⟨D, hD, _⟩ := HT.out.map; exact hD.lt
    obtain ⟨mc, hmc⟩ : ∃ x, w.heap.size = x := ⟨_, rfl⟩
    rw [hmc] at hown hsz hm1 hm2 ⊢
    obtain ⟨ri, hri⟩ : ∃ x, w1.heap.size = x := ⟨_, rfl⟩
    have HHn := Lib.hid hh0
    have n5 : w.heap.size ≤ ri := by rw [← hri]; exact hB.size
    have HK1 := Lib.hid ((Keeps.of_below' hB).mono (S' := Two b m) (fun _ _ h => h.elim))
    clear hB hmc HMc
    go_wp2_with (at_range; refine wpList_range_own _ rfl _ 56 rfl 29 3 law29 Try.underlying56 _ mc k _ rfl hown ?_; intro w2 hrg hg2 hs2)
    rw [hri] at hrg
    have hk2 := (Keeps.refl NoB w1).grown hg2 (fun _ e => by cases e)
    have HT2 := Lib.hid (hT1.keptN hk2)
    have HK2 := Lib.hid (HK1.out.trans (hk2.mono (fun _ _ h => h.elim)))
    have n1 : ¬ Two b m mc := by unfold Two; omega
    have n2 : ¬ Two b m ri := by unfold Two; omega
    have n3 : b ≠ ri := by omega
    have n4 : m ≠ ri := by omega
    rw [hri]
    clear hT1 hk2 hg2 hs2 hown HK1 hri hsz
    go_frame
    go_loopw [4] (fun _ wr => ∃ (left : Lit → Bool) (cnt : Nat) (h' : Int → Option Int) (W' : Nat → Int), wr.ranges Try.prog 29 (plainElem Try.prog 3) mc ri k D left cnt ∧ Hid (DrI h q left h') ∧ Hid (∀ x, x ≠ q → W' x = W x) ∧ Hid (Tab wr b m n h' W' k) ∧ Hid (Keeps (Two b m) w wr)) (fun _ wr => wr.rangeLeft mc ri)
    case atStart =>
      exact ⟨_, _, h, W, hrg, Lib.hid (fun a => by
        by_cases e : h a = some (q : Int)
        · rw [if_neg (by rw [HHn.out a e]; simp)]
        · rw [if_neg (fun z => e z.1)]), Lib.hid (fun _ _ => rfl), HT2, HK2⟩
    case round =>
      obtain ⟨left, cnt, h', W', hrg, hI, hW, hT, hK⟩ := hrel
      clear HT2 HK2
      go_wp2_with (at_next; refine wpList_next_ranges_ii _ rfl _ rfl 29 3 .u64 .i64 law29 Try.underlying29 Try.underlying3 mc ri k _ _ _ rfl hrg ?_ ?_)
      · intro hc0 hl0
        obtain ⟨j, hj⟩ : ∃ j, q = j := ⟨_, rfl⟩
        have c0 := hT.out.c0
        have cw := hT.out.cw q hq
        have b1 : (q : Int) < 64 := by omega
        have ff : wr.frozen? ⟨b, 2 + q, none⟩ = false := hT.out.blk.frozen _
        have HTf := Lib.hid (show Tab (wr.setCell ⟨b, 2 + q, none⟩ (.int .u64 0)) b m n (dropH n h q) (dropW n W q) k by
          unfold dropW
          rw [if_pos HCc.out, Int.toNat_natCast, ← updN_of_other hW.out]
          exact (hT.out.setW q hq 0 wf0).congrH (fun a => by
            rw [hI.out a, hl0]
            unfold dropH
            by_cases e : h a = some (q : Int)
            · rw [if_pos ⟨e, rfl⟩, if_pos ⟨HCc.out, e⟩]
            · rw [if_neg (fun z => e z.1), if_neg (fun z => e z.2)]))
        have HKf := Lib.hid (hK.out.setCell (p := ⟨b, 2 + q, none⟩) (.inl (.inl rfl)) (.int .u64 0))
        clear hj hl0
        go_wp2_with (fail)
        first | go_end0 | (refine bodyPost_ret (results_none rfl _ _ _) rfl ?_)
        exact ⟨rfl, HTf.out, HKf.out⟩
      · intro x v w2 cnt2 hwx hwc hlk hat hrg2 hlt hg2 hs2 hen
        have hk2 := (Keeps.refl (fun i => i = ri) wr).grown hg2 (fun k e => by cases e; exact .inl rfl)
        have hT2 := hT.out.kept hk2 n3 n4
        have HR := Lib.hid (rel_f w2 b m n h' W' k hT2 hn h2 q x hwx _ rfl)
        have HK2 := Lib.hid (hK.out.trans' (hk2.mono (S' := fun i => w.heap.size ≤ i) (fun i hi e => by rw [e]; exact n5)) (fun i hi e => by omega))
        have HI2 := Lib.hid (hI.out.step HCc.out x hlk)
        clear hk2 hT2 hs2 hat
        go_wp2_with (fail)
        refine HR.out.mono ?_
        rintro e w3 ⟨rfl, hT3, hK3⟩
        have hrg3 := ranges_keeps hrg2 hK3 n1 n2
        have HT3 := Lib.hid hT3
        have HK3 := Lib.hid (HK2.out.trans hK3)
        clear hT3 hK3
        go_wp2_with (fail)
        go_roundw
        case rel => exact ⟨_, cnt2, _, _, hrg3, HI2, Lib.hid (fun y hy => (relW_other hy).trans (hW.out y hy)), HT3, HK3⟩
        case measure => rw [hrg3.left_eq, hrg.left_eq]; exact hlt
  · have HC := Lib.hid (client_no b n c hn (by omega) w t.c0)
    have HT := Lib.hid (show Tab w b m n (dropH n h c) (dropW n W c) k by
      unfold dropW; rw [if_neg hc]
      exact t.congrH (fun a => by unfold dropH; rw [if_neg (fun e => hc e.1)]))
    clear t hc
    go_enter Try.func31, Try.ntmps31
    go_wp2_with (fail)
    refine HC.out.mono ?_
    rintro e w' ⟨rfl, rfl⟩
    go_wp2_with (fail)
    first | go_end0 | (refine bodyPost_ret (results_none rfl _ _ _) rfl ?_)
    exact ⟨rfl, HT.out, Keeps.refl _ _⟩

/-! ### Copy -/
def wCells (W : Nat → Int) : Array Value := ((List.range 64).map (fun i => Value.int .u64 (W i))).toArray
theorem infoW64 (W : Nat → Int) : (Try.prog.info? 57).map (·.size) = some (wCells W).size := by
  rw [show (wCells W).size = 64 by simp [wCells]]; kernel_rfl
set_option maxRecDepth 100000 in
theorem run_build_tab (w : World) (n : Int) (m : Nat) (W : Nat → Int) : (Instr.build 59 #[(0, .int .i64 n), (1, .map (some m)), (2, .agg (wCells W))]).run Try.prog w = .ok (.agg (tabCells n m W)) w := by
  kernel_rfl
section
variable {P : Program}
theorem run_loadVar_part (w : World) (g off : Nat) (ty : TypeId) (cs : Array Value) (d : TypeDesc) (hc : ∀ j v, cs[j]? = some v → w.cell? ⟨g, off + j, none⟩ = some v)
    (hu : P.underlying ty = some d) (hd : (match d with | .struct _ | .array _ _ => true | _ => false) = true) (hi : (P.info? ty).map (·.size) = some cs.size) :
    (loadVar ty ⟨g, off, none⟩).run P w = .ok (.agg cs) w := by
  have hl : (loadCells ⟨g, off, none⟩ cs.toList.length).run P w = .ok cs.toList.toArray w :=
    run_loadCells_list (P := P) w ⟨g, off, none⟩ cs.toList (fun j v hv => by
      have hadd : (⟨g, off, none⟩ : Addr).add j = ⟨g, off + j, none⟩ := by unfold Addr.add; split <;> simp_all
      rw [hadd]
      exact hc j v (by simpa using hv))
  cases hq : P.info? ty with
  | none => simp [hq] at hi
  | some i =>
    rw [hq] at hi
    simp at hi
    have hs : (sizeOf ty).run P w = .ok cs.size w := by simp [sizeOf, typeInfo, hq, hi]
    have ha : (isAgg ty).run P w = .ok true w := by
      simp only [isAgg, Sem.run_bind, run_underlying hu, Result.andThen_ok]
      cases d <;> simp_all
    simp at hl
    simp [loadVar, ha, hs, hl, Result.andThen]
theorem wp_ld_part {o : Oper} {a : Act} {w : World} {K : Act → World → Prop} {Q : Exit → Act → World → Prop} (ty : TypeId) (x : Operand) (ho : o.op = .load ty x)
    (g off : Nat) (hx : a.eval x = .pointer (some ⟨g, off, none⟩)) (cs : Array Value) (d : TypeDesc) (hc : ∀ j v, cs[j]? = some v → w.cell? ⟨g, off + j, none⟩ = some v)
    (hu : P.underlying ty = some d) (hd : (match d with | .struct _ | .array _ _ => true | _ => false) = true) (hi : (P.info? ty).map (·.size) = some cs.size)
    (h : K (a.put o.dst (.agg cs)) w) : Oper.wp P o a w K Q := by
  unfold Oper.wp execOp
  simp only [ho, hx, Instr.loadAt, Instr.sureAddr, Sem.run_bind, Sem.run_pure, Result.andThen_ok, run_loadVar_part w g off ty cs d hc hu hd hi]
  exact h
end
theorem wCells_get (W : Nat → Int) (j : Nat) : (wCells W)[j]? = if j < 64 then some (.int .u64 (W j)) else none := by
  unfold wCells
  by_cases h : j < 64 <;> simp [h]
theorem Blk.below' {w w' : World} {b : Nat} {C : Array Value} {t : TypeId} (h : Blk w b C t) (hB : Below w.heap.size w w') : Blk w' b C t := h.kept (Keeps.of_below' hB) (fun h => h)
theorem wLoad {w : World} {b m : Nat} {n : Int} {W : Nat → Int} (h : Blk w b (tabCells n m W) 59) : ∀ j v, (wCells W)[j]? = some v → w.cell? ⟨b, 2 + j, none⟩ = some v := by
  intro j v hv
  rw [h.cell, tabCells_w']
  rw [wCells_get] at hv; exact hv
theorem own_map_below {w w' : World} {m k : Nat} {D : DataW Unit} (h : w.ownsMap Try.prog 29 (plainElem Try.prog 3) m k D) (hB : Below w.heap.size w w') : w'.ownsMap Try.prog 29 (plainElem Try.prog 3) m k D := by
  have hlt := h.lt
  obtain ⟨es, cl, hb, r⟩ := h
  exact ⟨es, cl, (hB.block m hlt).trans hb, r⟩
/-- what the region has done -/
structure CpG (w : World) (n : Int) (W0 : Nat → Int) (k : Nat) (D : DataW Unit) (L : Nat → Bool) (W : World) : Prop where
  b : Below w.heap.size w W
  z0 : L 8 = false → L 14 = false → W.heap.size = w.heap.size
  z1 : L 8 = true → L 14 = false → W.heap.size = w.heap.size + 1
  c : L 8 = true → W.ownsMap Try.prog 29 (plainElem Try.prog 3) w.heap.size k D
  t : L 14 = true → Blk W (w.heap.size + 1) (tabCells n w.heap.size W0) 59
section
variable {w W W' : World} {n : Int} {W0 : Nat → Int} {k : Nat} {D : DataW Unit} {L : Nat → Bool}
theorem CpG.start : CpG w n W0 k D (fun _ => false) w.drew := ⟨(Below.refl _ _).drew, fun _ _ => rfl, (by simp), (by simp), (by simp)⟩
theorem CpG.other (h : CpG w n W0 k D L W) {i : Nat} (h1 : 8 ≠ i) (h2 : 14 ≠ i) : CpG w n W0 k D (lset L i) W := by
  have e1 : lset L i 8 = L 8 := by unfold lset; rw [if_neg h1]
  have e2 : lset L i 14 = L 14 := by unfold lset; rw [if_neg h2]
  exact ⟨h.b, by rw [e1, e2]; exact h.z0, by rw [e1, e2]; exact h.z1, by rw [e1]; exact h.c, by rw [e2]; exact h.t⟩
theorem CpG.s8 (h : CpG w n W0 k D L W) (h14 : L 14 = false) (ho : W'.ownsMap Try.prog 29 (plainElem Try.prog 3) w.heap.size k D) (hz : W'.heap.size = w.heap.size + 1) (hB : Below W.heap.size W W') : CpG w n W0 k D (lset L 8) W' :=
  ⟨h.b.trans (hB.mono h.b.size), (fun e => by cases e), fun _ _ => hz, fun _ => ho, (fun e => by rw [show lset L 8 14 = L 14 from rfl, h14] at e; cases e)⟩
theorem CpG.s14 (h : CpG w n W0 k D L W) (h8 : L 8 = true) (h14 : L 14 = false) : CpG w n W0 k D (lset L 14) (W.alloc (.cells (tabCells n w.heap.size W0) 59)) := by
  have hB : Below W.heap.size W (W.alloc (.cells (tabCells n w.heap.size W0) 59)) := (Below.refl _ _).alloc (Nat.le_refl _) _
  refine ⟨h.b.trans (hB.mono h.b.size), (fun e => by rw [show lset L 14 8 = L 8 from rfl, h8] at e; cases e), (fun _ e => by cases e), fun _ => own_map_below (h.c h8) hB, fun _ => ?_⟩
  rw [← h.z1 h8 h14]; exact Blk.new W _ _
end
set_option maxRecDepth 100000 in
set_option maxHeartbeats 1000000 in
theorem copy_v (w : World) (b m : Nat) (n : Int) (h : Int → Option Int) (W0 : Nat → Int) (k : Nat) (t : Tab w b m n h W0 k) (hn : 0 < n) :
    Calls Try.prog 17 #[.pointer (some ⟨b, 0, none⟩)] w fun e w' => e = .returned (.pointer (some ⟨w.heap.size + 1, 0, none⟩)) ∧ Tab w' (w.heap.size + 1) w.heap.size n h W0 k ∧ Below w.heap.size w w' := by
  have HTh := Lib.hid (there_yes b n hn w t.c0)
  have c0 := t.c0
  have c1 := t.c1
  have HBb := Lib.hid t.blk.lt
  have HBt := Lib.hid t.blk
  obtain ⟨D, hD, hh⟩ := t.map
  have HD := Lib.hid hD
  have HH := Lib.hid hh
  have HWf := Lib.hid t.wf
  clear hD hh t
  go_enter Try.func17, Try.ntmps17
  go_wp2_with (fail)
  refine HTh.out.mono ?_
  rintro e w' ⟨rfl, rfl⟩
  go_upto_region 3 with (fail)
  --GEN r_cp3
  refine wp_region_vals [Is (.pointer (some ⟨b, 0, none⟩)), Is (.pointer (some ⟨b, 0, none⟩)), Is (.pointer (some ⟨b, 0, none⟩)), Is (.int .i64 n), Is (.pointer (some ⟨b, 0, none⟩)), Is (.pointer (some ⟨b, 0, none⟩)), Is (.pointer (some ⟨b, 1, none⟩)), Is (.map (some m)), Is (.map (some w.heap.size)), Is (.pointer (some ⟨b, 0, none⟩)), Is (.pointer (some ⟨b, 0, none⟩)), Is (.pointer (some ⟨b, 2, none⟩)), Is (.agg (wCells W0)), Is (.agg (tabCells n w.heap.size W0)), Is (.pointer (some ⟨w.heap.size + 1, 0, none⟩)), Is (.pointer (some ⟨w.heap.size + 1, 0, none⟩))]
    (fun _ W W' => Below W.heap.size W W') (fun L W => CpG w n W0 k D L W) (by kernel_rfl) (by kernel_rfl) (by kernel_rfl) ?hst ?h0 ⟨?o0, ?o1, ?o2, ?o3, ?o4, ?o5, ?o6, ?o7, ?o8, ?o9, ?o10, ?o11, ?o12, ?o13, ?o14, ?o15, trivial⟩ ?he
  case hst =>
    exact ⟨(fun _ _ _ _ _ _ h _ => h), (fun _ _ _ _ _ _ h _ => h), (fun _ _ _ _ _ _ h _ => h), (fun _ _ _ _ _ _ h _ => h), (fun _ _ _ _ _ _ h _ => h), (fun _ _ _ _ _ _ h _ => h), (fun _ _ _ _ _ _ h _ => h), (fun _ _ _ _ _ _ h _ => h), (fun _ _ _ _ _ _ h _ => h), (fun _ _ _ _ _ _ h _ => h), (fun _ _ _ _ _ _ h _ => h), (fun _ _ _ _ _ _ h _ => h), (fun _ _ _ _ _ _ h _ => h), (fun _ _ _ _ _ _ h _ => h), (fun _ _ _ _ _ _ h _ => h), (fun _ _ _ _ _ _ h _ => h), trivial⟩
  case h0 =>
    exact CpG.start
  case o0 =>
    intro L vs A W H hf hd K hK
    have e0 : A.tmps[0]?.getD undef = .pointer (some ⟨b, 0, none⟩) := H.old 0 (by kernel_rfl)
    go_simp
    exact hK _ _ (Below.refl _ _) rfl (H.glob.other (by decide) (by decide))
  case o1 =>
    intro L vs A W H hf hd K hK
    have e6 := H.is 0 6 rfl rfl rfl (deps_of' hd 0 (by kernel_rfl)) (by kernel_rfl)
    go_simp
    exact hK _ _ (Below.refl _ _) rfl (H.glob.other (by decide) (by decide))
  case o2 =>
    intro L vs A W H hf hd K hK
    have e7 := H.is 1 7 rfl rfl rfl (deps_of' hd 1 (by kernel_rfl)) (by kernel_rfl)
    go_simp
    exact hK _ _ (Below.refl _ _) rfl (H.glob.other (by decide) (by decide))
  case o3 =>
    intro L vs A W H hf hd K hK
    have e8 := H.is 2 8 rfl rfl rfl (deps_of' hd 2 (by kernel_rfl)) (by kernel_rfl)
    have d := (H.glob.b.cell (p := ⟨b, 0, none⟩) HBb.out).trans c0
    go_simp
    exact hK _ _ (Below.refl _ _) rfl (H.glob.other (by decide) (by decide))
  case o4 =>
    intro L vs A W H hf hd K hK
    have e0 : A.tmps[0]?.getD undef = .pointer (some ⟨b, 0, none⟩) := H.old 0 (by kernel_rfl)
    go_simp
    exact hK _ _ (Below.refl _ _) rfl (H.glob.other (by decide) (by decide))
  case o5 =>
    intro L vs A W H hf hd K hK
    have e10 := H.is 4 10 rfl rfl rfl (deps_of' hd 4 (by kernel_rfl)) (by kernel_rfl)
    go_simp
    exact hK _ _ (Below.refl _ _) rfl (H.glob.other (by decide) (by decide))
  case o6 =>
    intro L vs A W H hf hd K hK
    have e11 := H.is 5 11 rfl rfl rfl (deps_of' hd 5 (by kernel_rfl)) (by kernel_rfl)
    go_simp
    exact hK _ _ (Below.refl _ _) rfl (H.glob.other (by decide) (by decide))
  case o7 =>
    intro L vs A W H hf hd K hK
    have e12 := H.is 6 12 rfl rfl rfl (deps_of' hd 6 (by kernel_rfl)) (by kernel_rfl)
    have d := (H.glob.b.cell (p := ⟨b, 1, none⟩) HBb.out).trans c1
    go_simp
    exact hK _ _ (Below.refl _ _) rfl (H.glob.other (by decide) (by decide))
  case o8 =>
    intro L vs A W H hf hd K hK
    have e13 := H.is 7 13 rfl rfl rfl (deps_of' hd 7 (by kernel_rfl)) (by kernel_rfl)
    have n13 := H.notYet 13 8 rfl hf (by kernel_rfl)
    have n14 := H.notYet 14 13 rfl n13 (by kernel_rfl)
    have hz : W.heap.size = w.heap.size := H.glob.z0 hf n14
    rw [if_pos (show Region.wanted _ _ = true from rfl)]
    go_wp2_with (fail)
    refine (mclone_v W m k D (own_map_below HD.out H.glob.b)).mono ?_
    rintro e W2 ⟨rfl, hown, hsz, hB⟩
    rw [hz] at hown hsz ⊢
    exact hK _ _ hB rfl (H.glob.s8 n14 hown hsz hB)
  case o9 =>
    intro L vs A W H hf hd K hK
    have e0 : A.tmps[0]?.getD undef = .pointer (some ⟨b, 0, none⟩) := H.old 0 (by kernel_rfl)
    go_simp
    exact hK _ _ (Below.refl _ _) rfl (H.glob.other (by decide) (by decide))
  case o10 =>
    intro L vs A W H hf hd K hK
    have e15 := H.is 9 15 rfl rfl rfl (deps_of' hd 9 (by kernel_rfl)) (by kernel_rfl)
    go_simp
    exact hK _ _ (Below.refl _ _) rfl (H.glob.other (by decide) (by decide))
  case o11 =>
    intro L vs A W H hf hd K hK
    have e16 := H.is 10 16 rfl rfl rfl (deps_of' hd 10 (by kernel_rfl)) (by kernel_rfl)
    go_simp
    exact hK _ _ (Below.refl _ _) rfl (H.glob.other (by decide) (by decide))
  case o12 =>
    intro L vs A W H hf hd K hK
    have e17 := H.is 11 17 rfl rfl rfl (deps_of' hd 11 (by kernel_rfl)) (by kernel_rfl)
    rw [if_pos (show Region.wanted _ _ = true from rfl)]
    exact wp_ld_part 57 (.tmp 17) rfl b 2 (ev_tmp e17) (wCells W0) _ (wLoad (HBt.out.below' H.glob.b)) Try.underlying57 rfl (infoW64 W0) (hK _ _ (Below.refl _ _) rfl (H.glob.other (by decide) (by decide)))
  case o13 =>
    intro L vs A W H hf hd K hK
    have e9 := H.is 3 9 rfl rfl rfl (deps_of' hd 3 (by kernel_rfl)) (by kernel_rfl)
    have e14 := H.is 8 14 rfl rfl rfl (deps_of' hd 8 (by kernel_rfl)) (by kernel_rfl)
    have e18 := H.is 12 18 rfl rfl rfl (deps_of' hd 12 (by kernel_rfl)) (by kernel_rfl)
    rw [if_pos (show Region.wanted _ _ = true from rfl)]
    unfold Oper.wp execOp
    simp only [List.map_toArray, List.map_cons, List.map_nil, ev_tmp e9, ev_tmp e14, ev_tmp e18, Sem.run_bind, run_build_tab, Result.andThen_ok, Sem.run_pure]
    exact hK _ _ (Below.refl _ _) rfl (H.glob.other (by decide) (by decide))
  case o14 =>
    intro L vs A W H hf hd K hK
    have e19 := H.is 13 19 rfl rfl rfl (deps_of' hd 13 (by kernel_rfl)) (by kernel_rfl)
    have h13 : L 13 = true := deps_of' hd 13 (by kernel_rfl)
    have h8 : L 8 = true := by cases h : L 8 with | true => rfl | false => (have := H.notYet 13 8 rfl h (by kernel_rfl); rw [this] at h13; cases h13)
    have hz : W.heap.size = w.heap.size + 1 := H.glob.z1 h8 hf
    go_simp
    exact hK _ _ ((Below.refl _ _).alloc (Nat.le_refl _) _) rfl (H.glob.s14 h8 hf)
  case o15 =>
    intro L vs A W H hf hd K hK
    have e20 := H.is 14 20 rfl rfl rfl (deps_of' hd 14 (by kernel_rfl)) (by kernel_rfl)
    go_simp
    exact hK _ _ (Below.refl _ _) rfl (H.glob.other (by decide) (by decide))
  case he =>
    intro vs W hlen hv
    match vs, hlen, hv with
    | [x0_, x1_, x2_, x3_, x4_, x5_, x6_, x7_, x8_, x9_, x10_, x11_, x12_, x13_, x14_, x15_], _, hv =>
    obtain rfl : (.pointer (some ⟨b, 0, none⟩)) = x0_ := by obtain ⟨z, h1, h2⟩ := hv 0 _ rfl; cases h1; exact h2.symm
    obtain rfl : (.pointer (some ⟨b, 0, none⟩)) = x1_ := by obtain ⟨z, h1, h2⟩ := hv 1 _ rfl; cases h1; exact h2.symm
    obtain rfl : (.pointer (some ⟨b, 0, none⟩)) = x2_ := by obtain ⟨z, h1, h2⟩ := hv 2 _ rfl; cases h1; exact h2.symm
    obtain rfl : (.int .i64 n) = x3_ := by obtain ⟨z, h1, h2⟩ := hv 3 _ rfl; cases h1; exact h2.symm
    obtain rfl : (.pointer (some ⟨b, 0, none⟩)) = x4_ := by obtain ⟨z, h1, h2⟩ := hv 4 _ rfl; cases h1; exact h2.symm
    obtain rfl : (.pointer (some ⟨b, 0, none⟩)) = x5_ := by obtain ⟨z, h1, h2⟩ := hv 5 _ rfl; cases h1; exact h2.symm
    obtain rfl : (.pointer (some ⟨b, 1, none⟩)) = x6_ := by obtain ⟨z, h1, h2⟩ := hv 6 _ rfl; cases h1; exact h2.symm
    obtain rfl : (.map (some m)) = x7_ := by obtain ⟨z, h1, h2⟩ := hv 7 _ rfl; cases h1; exact h2.symm
    obtain rfl : (.map (some w.heap.size)) = x8_ := by obtain ⟨z, h1, h2⟩ := hv 8 _ rfl; cases h1; exact h2.symm
    obtain rfl : (.pointer (some ⟨b, 0, none⟩)) = x9_ := by obtain ⟨z, h1, h2⟩ := hv 9 _ rfl; cases h1; exact h2.symm
    obtain rfl : (.pointer (some ⟨b, 0, none⟩)) = x10_ := by obtain ⟨z, h1, h2⟩ := hv 10 _ rfl; cases h1; exact h2.symm
    obtain rfl : (.pointer (some ⟨b, 2, none⟩)) = x11_ := by obtain ⟨z, h1, h2⟩ := hv 11 _ rfl; cases h1; exact h2.symm
    obtain rfl : (.agg (wCells W0)) = x12_ := by obtain ⟨z, h1, h2⟩ := hv 12 _ rfl; cases h1; exact h2.symm
    obtain rfl : (.agg (tabCells n w.heap.size W0)) = x13_ := by obtain ⟨z, h1, h2⟩ := hv 13 _ rfl; cases h1; exact h2.symm
    obtain rfl : (.pointer (some ⟨w.heap.size + 1, 0, none⟩)) = x14_ := by obtain ⟨z, h1, h2⟩ := hv 14 _ rfl; cases h1; exact h2.symm
    obtain rfl : (.pointer (some ⟨w.heap.size + 1, 0, none⟩)) = x15_ := by obtain ⟨z, h1, h2⟩ := hv 15 _ rfl; cases h1; exact h2.symm
    intro L hall hG
    clear hv hlen
    have HG := Lib.hid (hG.c (hall 8 (by decide)))
    have HG2 := Lib.hid (hG.t (hall 14 (by decide)))
    have HGb := Lib.hid hG.b
    clear hG hall
    simp only [fill, if_true]
    go_simp
  --END
    go_wp2_with (fail)
    go_ret
    exact ⟨rfl, ⟨HG2.out, ⟨D, HG.out, HH.out⟩, HWf.out⟩, HGb.out⟩
end Go.Proofs.Ytajccnmeijgagaa
