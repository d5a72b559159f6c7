/-
  A WALK OF A TREE OF ONE NODE, TO ITS END: leveelaw14.done.
-/
import Derived.Test.YtodgfbjjjgohgaaGreatKtQ
import Derived.Test.YtodgfbjjjgohgaaGreatSnmQ
namespace Go.Proofs.YtodgfbjjjgohgaaGreat
open Go.RowKit
set_option linter.unusedVariables false

/-- a memory with one node, the root, that has none behind it -/
structure OneN (vs : List Int) (r : Int) (n0 : Nd) : Prop where
  he : atE vs.length 16 = 0
  hr : ldW vs 16 = r
  wd : ∀ i, i < 24 → wdM vs r i = fullW n0 i
  er : ∀ i, i < 24 → erM vs r i = 0
  lv : 0 ≤ n0.lv ∧ n0.lv ≤ 15
  nx : n0.nx = 0
  u : U64s vs
/-- what is read of it -/
def oneR (n0 : Nd) : Nd := nTo (rdW (fullW n0) 24) 8
theorem OneN.found {vs : List Int} {r : Int} {n0 : Nd} (h : OneN vs r n0) {sb : Nat} {er : Int} {s : Sn} (hD : SnD sb vs r er s) : er = 0 ∧ ndCells s.found = ndCells (oneR n0) ∧ s.found.lv = n0.lv ∧ s.has = false := by
  have h2 : wdM vs r 2 = 0 := by rw [h.wd 2 (by decide)]; exact h.nx
  rcases hD.res with ⟨_, h3 | ⟨j, _, hj, h3⟩ | ⟨h3, h4⟩⟩ | ⟨he, hf, hh, hhi⟩
  · rw [h.er 3 (by decide)] at h3; cases h3
  · rw [h.er j hj] at h3; cases h3
  · exact absurd h2 h3
  · have e0 : rdW (wdM vs r) 24 0 = tagM + n0.lv := (rdW_at ((pthB_iff _ 0).2 (.inl (by decide))) (by decide)).trans (h.wd 0 (by decide))
    have hlv := h.lv
    have hb : ofBad (rdW (wdM vs r) 24) = false := by
      unfold ofBad
      rw [e0, decide_eq_false (by omega), decide_eq_false (by omega)]; rfl
    have ho : ofV (rdW (wdM vs r) 24) = (nTo (rdW (wdM vs r) 24) 8, 0) := by unfold ofV; rw [hb]; rfl
    rw [ho] at he hf
    refine ⟨he, ?_, ?_, by rw [hh, decide_eq_false (fun e => e h2)]⟩
    · rw [hf]
      exact nTo_congr (fun i hi => rdW_congr h.wd i)
    · rw [hf]
      show rdW (wdM vs r) 24 0 - tagM = n0.lv
      omega
/-- a snapshot's step, its answer ahead -/
theorem step_x (w : World) (s : Sn) (sb mb : Nat) (S : Nat → Prop) (vw is : List Int) (mk : Int → Nat → Int) (F : Int → List (Int × Int)) (lo st fl fe a : Int) (i : Nat)
    (hb : Blk w sb (snCells s) 164) (hm : MemP w mb S vw is mk F lo st fl fe) (hS : ¬ S sb) (hI : SnI sb (some ⟨mb, 0, none⟩) vw a i s) (hu : U64s vw) :
    ∃ d er s' lo', StepR sb (some ⟨mb, 0, none⟩) vw a i d er s' ∧ Calls Tryz.prog 124 #[.pointer (some ⟨sb, 0, none⟩)] w (SnP w sb mb S vw is mk F st fl fe d er s' lo') := by
  obtain ⟨hB, h | ⟨kn, hR, h⟩ | ⟨kn, hR, h⟩ | h | h⟩ := hI
  · obtain ⟨hi, hst, ha, hb', hk, hl, hh⟩ := h
    refine ⟨_, _, _, _, ?_, step_counts w s sb mb S vw is mk F lo st fl fe _ _ _ _ hb hm hS hB.mv hst hB.over (counts_v w s sb mb S vw is mk F lo st fl fe hb hm hS hB.mv)⟩
    rw [hB.at_]
    exact stepr_ct hB hi ha hb' hk hl hh
  · obtain ⟨hl, ha, hb', hE, hi⟩ := h
    refine ⟨_, _, _, _, ?_, step_reads w s sb mb S vw is mk F lo st fl fe _ _ _ _ hb hm hS hB.mv hR.step hB.over (reads_v w s kn sb mb S vw is mk F lo st fl fe hb hm hS hB.mv hR.k hR.lt)⟩
    rw [hB.at_]
    exact stepr_rd1 hB hR hl ha hb' hE hi
  · obtain ⟨hl, ha, hb', hE, hi⟩ := h
    refine ⟨_, _, _, _, ?_, step_reads w s sb mb S vw is mk F lo st fl fe _ _ _ _ hb hm hS hB.mv hR.step hB.over (reads_v w s kn sb mb S vw is mk F lo st fl fe hb hm hS hB.mv hR.k hR.lt)⟩
    rw [hB.at_]
    exact stepr_rd2 hB hR hl ha hb' hE hi
  · obtain ⟨hst, ha, hb', hh, he3, hE, hz, hi⟩ := h
    exact ⟨_, _, _, _, stepr_bd hB ha hb' he3 hE hz hi, step_bound w s sb mb S vw is mk F lo st fl fe _ _ _ _ hb hm hS hB.mv hst hB.over (bound_v w s sb mb S vw is mk F lo st fl fe hb hm hS hB.mv)⟩
  · obtain ⟨hst, ha, hb', hh, hhi, he3, hE, hi⟩ := h
    exact ⟨_, _, _, _, stepr_ag hB hst ha hb' hh (fun h => (hhi h).1) he3, step_again w s sb mb S vw is mk F lo st fl fe _ _ _ _ hb hm hS hB.mv hst hB.over (again_v w s sb mb S vw is mk F lo st fl fe hb hm hS hB.mv (by rw [ha]; exact rdW_u64 hu a 24 0))⟩
/-- a walk under way -/
def Ph (w : World) (B U kb xb mb : Nat) (S : Nat → Prop) (vs : List Int) (st fl fe client key level r : Int) (i : Nat) : Prop :=
  (i = 0 ∧ WkW w kb xb mb S vs st fl fe (wkNew kb (some ⟨xb, 0, none⟩) client key level)) ∨
  (∃ j sb s, i = j + 1 ∧ WkW w kb xb mb S vs st fl fe (wkCome (wkNew kb (some ⟨xb, 0, none⟩) client key level) kb sb r) ∧ Blk w sb (snCells s) 164 ∧ SnI sb (some ⟨mb, 0, none⟩) vs r j s ∧ sb ≠ kb ∧ sb ≠ xb ∧ ¬ S sb ∧ B ≤ sb ∧ sb < U)
/-- a walk that is there -/
def PhE (w : World) (kb xb mb : Nat) (S : Nat → Prop) (vs : List Int) (st fl fe level r : Int) (n0 : Nd) : Prop :=
  ∃ k, WkW w kb xb mb S vs st fl fe k ∧ k.over = true ∧ k.e = (if n0.lv < level then 5 else 0) ∧ k.at_ = r ∧ ndCells k.n = ndCells (oneR n0) ∧ k.next = .func (.func 72) #[.pointer (some ⟨kb, 0, none⟩)] #[]
theorem WkW.kept {w w' : World} {kb xb mb : Nat} {S X : Nat → Prop} {vs : List Int} {st fl fe : Int} {k : Wk} (h : WkW w kb xb mb S vs st fl fe k) (hk : Keeps X w w') (h1 : ¬ X kb) (h2 : ¬ X xb) (h3 : ∀ i, S i → ¬ X i) : WkW w' kb xb mb S vs st fl fe k := by
  obtain ⟨C, hx, hC⟩ := h.x
  obtain ⟨is, mk, F, lo, hm⟩ := h.m
  exact ⟨h.b.kept hk h1, h.s, ⟨C, hx.kept hk h2, hC⟩, ⟨is, mk, F, lo, hm.kept hk h3⟩, h.ne⟩
theorem ph_le {w : World} {B U kb xb mb : Nat} {S : Nat → Prop} {vs : List Int} {st fl fe client key level r : Int} {i : Nat} (h : Ph w B U kb xb mb S vs st fl fe client key level r i) : i ≤ 43 := by
  rcases h with ⟨rfl, _⟩ | ⟨j, sb, s, rfl, _, _, hI, _⟩
  · omega
  · have := hI.le; omega
theorem wstep_ph {w : World} {B U kb xb mb : Nat} {S : Nat → Prop} {vs : List Int} {st fl fe client key level r : Int} {n0 : Nd} {i : Nat} (h : Ph w B U kb xb mb S vs st fl fe client key level r i) (hB : B ≤ w.heap.size) (h1 : OneN vs r n0) (hl : 0 ≤ level ∧ level ≤ 15) (hlv : n0.lv ≤ level) :
    Calls Tryz.prog 16 #[.pointer (some ⟨kb, 0, none⟩)] w fun e w' => ((e = .returned (.tuple #[.bool false, .int .i64 0]) ∧ Ph w' B w'.heap.size kb xb mb S vs st fl fe client key level r (i + 1)) ∨ (∃ er : Int, e = .returned (.tuple #[.bool true, .int .i64 er]) ∧ PhE w' kb xb mb S vs st fl fe level r n0)) ∧ Keeps (fun i => i = kb ∨ S i ∨ (B ≤ i ∧ i < U)) w w' := by
  rcases h with ⟨rfl, hW⟩ | ⟨j, sb, s, rfl, hW, hs, hI, n1, n2, n3, n4, n5⟩
  · obtain ⟨C, hx, hC⟩ := hW.x
    have hr := wroot_v w kb xb mb S vs st fl fe _ hW h1.he
    rw [h1.hr] at hr
    have hkl := hW.b.lt
    have hxl := hx.lt
    have hSl : ∀ i, S i → i < w.heap.size := fun i hi => by obtain ⟨is, mk, F, lo, hm⟩ := hW.m; exact hm.lt hi
    refine (wgo_root w kb xb ⟨mb, 0, none⟩ C (wkNew kb (some ⟨xb, 0, none⟩) client key level)
      (P := fun d er k' w' => d = false ∧ er = 0 ∧ ∃ sb, k' = wkCome (wkNew kb (some ⟨xb, 0, none⟩) client key level) kb sb r ∧ WkW w' kb xb mb S vs st fl fe k' ∧ Blk w' sb (snCells (snNew sb (some ⟨mb, 0, none⟩) r)) 164 ∧ w.heap.size ≤ sb ∧ Keeps (fun i => i = kb ∨ S i) w w')
      hW.b rfl hx hC rfl rfl hl (hr.mono ?_)).mono ?_
    · rintro e w' ⟨sb, rfl, hW', hS', hsz, hK⟩
      exact ⟨false, 0, _, rfl, hW'.b, rfl, rfl, sb, rfl, hW', hS', hsz, hK⟩
    · rintro e w' ⟨d, er, k', w2, rfl, hb', ⟨rfl, rfl, sb, rfl, hW2, hsn, hsz, hK⟩, hk2⟩
      obtain ⟨C2, hx2, hC2⟩ := hW2.x
      obtain ⟨is, mk, F, lo, hm⟩ := hW2.m
      have hne : sb ≠ kb ∧ sb ≠ xb ∧ ¬ S sb := ⟨by omega, by omega, fun h => by have := hSl sb h; omega⟩
      refine ⟨.inl ⟨rfl, .inr ⟨0, sb, snNew sb (some ⟨mb, 0, none⟩) r, rfl, ⟨hb', rfl, ⟨C2, hx2.kept hk2 hW.ne.1, hC2⟩, ⟨is, mk, F, lo, hm.kept hk2 (fun i hi e => hW.ne.2.1 (e ▸ hi))⟩, hW.ne⟩, hsn.kept hk2 hne.1, SnI.new _ _ _ _, hne.1, hne.2.1, hne.2.2, by omega, (hsn.kept hk2 hne.1).lt⟩⟩, ?_⟩
      exact (hK.mono (fun i _ e => e.elim .inl (fun e => .inr (.inl e)))).trans (hk2.mono (fun i _ e => .inl e))
  · obtain ⟨C, hx, hC⟩ := hW.x
    obtain ⟨is, mk, F, lo, hm⟩ := hW.m
    obtain ⟨d, er, s', lo', hR, hSt⟩ := step_x w s sb mb S vs is mk F lo st fl fe r j hs hm n3 hI h1.u
    have hkS : ∀ {w'}, Keeps (fun i => i = sb ∨ S i) w w' → Blk w' kb (wkCells (wkCome (wkNew kb (some ⟨xb, 0, none⟩) client key level) kb sb r)) 70 := fun hk => hW.b.kept hk (fun e => e.elim (fun e => n1 e.symm) hW.ne.2.1)
    have hkx : ∀ {w'}, Keeps (fun i => i = sb ∨ S i) w w' → Blk w' xb C 88 := fun hk => hx.kept hk (fun e => e.elim (fun e => n2 e.symm) hW.ne.2.2)
    have hkB : ∀ {w' w2}, Keeps (fun i => i = sb ∨ S i) w w' → Keeps (fun i => i = kb) w' w2 → Keeps (fun i => i = kb ∨ S i ∨ (B ≤ i ∧ i < U)) w w2 := fun hk h2 => (hk.mono (fun i _ e => e.elim (fun e => .inr (.inr (by omega))) (fun e => .inr (.inl e)))).trans (h2.mono (fun i _ e => .inl e))
    rcases hR with ⟨rfl, rfl, hI'⟩ | ⟨rfl, hD⟩
    · have hlk := wlook_wait w kb sb (wkCome (wkNew kb (some ⟨xb, 0, none⟩) client key level) kb sb r)
        (P := fun w' => Blk w' sb (snCells s') 164 ∧ MemP w' mb S vs is mk F lo' st fl fe ∧ Keeps (fun i => i = sb ∨ S i) w w') hW.b rfl (hSt.mono (fun e w' hP => ⟨hP.e, hkS hP.k, hP.b, hP.m, hP.k⟩))
      refine (wgo_look w kb xb ⟨mb, 0, none⟩ C _ (P := fun d er k' w' => d = false ∧ er = 0 ∧ k' = wkCome (wkNew kb (some ⟨xb, 0, none⟩) client key level) kb sb r ∧ Blk w' sb (snCells s') 164 ∧ MemP w' mb S vs is mk F lo' st fl fe ∧ Keeps (fun i => i = sb ∨ S i) w w')
        hW.b rfl hx hC rfl rfl hl (hlk.mono ?_)).mono ?_
      · rintro e w' ⟨rfl, hb', hP⟩
        exact ⟨false, 0, _, rfl, hb', rfl, rfl, rfl, hP⟩
      · rintro e w' ⟨d, er, k', w2, rfl, hb', ⟨rfl, rfl, rfl, hs2, hm2, hK⟩, hk2⟩
        exact ⟨.inl ⟨rfl, .inr ⟨j + 1, sb, s', rfl, ⟨hb', rfl, ⟨C, (hkx hK).kept hk2 hW.ne.1, hC⟩, ⟨is, mk, F, lo', hm2.kept hk2 (fun i hi e => hW.ne.2.1 (e ▸ hi))⟩, hW.ne⟩, hs2.kept hk2 n1, hI', n1, n2, n3, n4, (hs2.kept hk2 n1).lt⟩⟩, hkB hK hk2⟩
    · obtain ⟨rfl, hfd, hfl, hfh⟩ := h1.found hD
      have hlk := wlook_here w kb sb (wkCome (wkNew kb (some ⟨xb, 0, none⟩) client key level) kb sb r)
        (P := fun sN w' => sN = s' ∧ MemP w' mb S vs is mk F lo' st fl fe ∧ Keeps (fun i => i = sb ∨ S i) w w') hW.b rfl
        (hSt.mono (fun e w' hP => ⟨hP.e, hkS hP.k, s', hP.b, hD.over, hD.e, hD.step, (fun e => by rw [hfh] at e; cases e), (by rw [hfl]; exact hlv), rfl, hP.m, hP.k⟩)) n1
      refine (wgo_look w kb xb ⟨mb, 0, none⟩ C _ (P := fun d er k' w' => d = true ∧ er = (if n0.lv < level then 5 else 0) ∧ ∃ hv hs, k' = wkSeen (wkCome (wkNew kb (some ⟨xb, 0, none⟩) client key level) kb sb r) s'.found hv hs ∧ ∃ w2, MemP w2 mb S vs is mk F lo' st fl fe ∧ Keeps (fun i => i = sb ∨ S i) w w2 ∧ Keeps (fun i => i = kb) w2 w')
        hW.b rfl hx hC rfl rfl hl (hlk.mono ?_)).mono ?_
      · rintro e w' ⟨sN, rfl, hb', w2, ⟨rfl, hm2, hK⟩, hk2⟩
        refine ⟨true, _, _, rfl, hb', rfl, ?_, _, _, rfl, w2, hm2, hK, hk2⟩
        show (if sN.found.lv < level then (5 : Int) else 0) = _
        rw [hfl]
      · rintro e w' ⟨d, er, k', w2, rfl, hb', ⟨rfl, rfl, hv, hs, rfl, w1, hm1, hK, hk1⟩, hk2⟩
        have hk12 := hk1.trans hk2
        exact ⟨.inr ⟨_, rfl, _, ⟨hb', rfl, ⟨C, (hkx hK).kept hk12 hW.ne.1, hC⟩, ⟨is, mk, F, lo', hm1.kept hk12 (fun i hi e => hW.ne.2.1 (e ▸ hi))⟩, hW.ne⟩, rfl, rfl, rfl, hfd, rfl⟩, hkB hK hk12⟩
theorem Ph.below {w w' : World} {B U kb xb mb : Nat} {S : Nat → Prop} {vs : List Int} {st fl fe client key level r : Int} {i : Nat} (h : Ph w B U kb xb mb S vs st fl fe client key level r i) (hB : Below w.heap.size w w') : Ph w' B U kb xb mb S vs st fl fe client key level r i := by
  rcases h with ⟨rfl, hW⟩ | ⟨j, sb, s, rfl, hW, hs, hI, n⟩
  · exact .inl ⟨rfl, hW.kept (Keeps.of_below' hB) (fun e => e) (fun e => e) (fun _ _ e => e)⟩
  · exact .inr ⟨j, sb, s, rfl, hW.kept (Keeps.of_below' hB) (fun e => e) (fun e => e) (fun _ _ e => e), hs.kept (Keeps.of_below' hB) (fun e => e), hI, n⟩
theorem Ph.mem {w : World} {B U kb xb mb : Nat} {S : Nat → Prop} {vs : List Int} {st fl fe client key level r : Int} {i : Nat} (h : Ph w B U kb xb mb S vs st fl fe client key level r i) : ∃ k, WkW w kb xb mb S vs st fl fe k := by
  rcases h with ⟨rfl, hW⟩ | ⟨j, sb, s, rfl, hW, _⟩
  · exact ⟨_, hW⟩
  · exact ⟨_, hW⟩
theorem WkW.stats {w : World} {kb xb mb : Nat} {S : Nat → Prop} {vs : List Int} {st fl fe : Int} {k : Wk} (h : WkW w kb xb mb S vs st fl fe k) : ∃ lo, Calls Tryz.prog 20 #[.pointer (some ⟨mb, 0, none⟩)] w fun e w' => e = .returned (.agg (statCells lo st fl fe)) ∧ Below w.heap.size w w' := by
  obtain ⟨is, mk, F, lo, hm⟩ := h.m
  exact ⟨lo, stats_m hm⟩
theorem PhE.below {w w' : World} {kb xb mb : Nat} {S : Nat → Prop} {vs : List Int} {st fl fe level r : Int} {n0 : Nd} (h : PhE w kb xb mb S vs st fl fe level r n0) (hB : Below w.heap.size w w') : PhE w' kb xb mb S vs st fl fe level r n0 := by
  obtain ⟨k, hW, q⟩ := h
  exact ⟨k, hW.kept (Keeps.of_below' hB) (fun e => e) (fun e => e) (fun _ _ e => e), q⟩
end Go.Proofs.YtodgfbjjjgohgaaGreat
namespace Go.Proofs.YtodgfbjjjgohgaaGreat
open Go.RowKit
attribute [local go_sem] Oper.semAt_some
set_option linter.unusedVariables false

/-- what done answers -/
def DoneE (e : Ending) : Prop := ∃ (c : Int) (sm : Bool), e = .returned (.tuple #[.int .i64 c, .bool sm])
/-- the loop of done -/
def DoneR (w wr : World) (kb xb mb : Nat) (S : Nat → Prop) (vs : List Int) (st fl fe client key level r : Int) (j : Nat) : Prop :=
  ∃ U, U ≤ wr.heap.size ∧ Ph wr w.heap.size U kb xb mb S vs st fl fe client key level r j ∧ Keeps (fun i => i = kb ∨ S i) w wr
set_option maxRecDepth 100000 in
set_option maxHeartbeats 40000000 in
theorem done_v (w : World) (kb xb mb : Nat) (S : Nat → Prop) (vs : List Int) (st fl fe client key level r : Int) (n0 : Nd)
    (h : WkW w kb xb mb S vs st fl fe (wkNew kb (some ⟨xb, 0, none⟩) client key level)) (h1 : OneN vs r n0) (hl : 0 ≤ level ∧ level ≤ 15) (hlv : n0.lv ≤ level) :
    Calls Tryz.prog 11 #[.pointer (some ⟨xb, 0, none⟩), .pointer (some ⟨kb, 0, none⟩), .int .i64 200] w fun e w' => DoneE e ∧ PhE w' kb xb mb S vs st fl fe level r n0 ∧ Keeps (fun i => i = kb ∨ S i) w w' := by
  obtain ⟨C, hx, hC⟩ := h.x
  have HMm := Lib.hid (smem_v w xb C _ hx hC)
  have HSt0 := Lib.hid (show DoneR w w kb xb mb S vs st fl fe client key level r 0 from ⟨w.heap.size, Nat.le_refl _, .inl ⟨rfl, h⟩, Keeps.refl _ _⟩)
  have H1 := Lib.hid h1
  have HLv := Lib.hid (And.intro hl hlv)
  have HZ := Lib.hid (show kb < w.heap.size ∧ ∀ i, S i → i < w.heap.size from ⟨h.b.lt, fun i hi => by obtain ⟨is, mk, F, lo, hm⟩ := h.m; exact hm.lt hi⟩)
  clear h hx hC h1 hl hlv C
  go_enter Tryz.func11, Tryz.ntmps11
  go_wp2_with (fail)
  refine HMm.out.mono ?_
  rintro e w1 ⟨rfl, rfl⟩
  go_upto_region 4 with (fail)
  go_loopw [9, 10] (fun bv iv wr => ∃ (j : Nat) (sm : Bool), iv = .int .i64 ((j : Int) + 1) ∧ bv = .bool sm ∧ Hid (DoneR w wr kb xb mb S vs st fl fe client key level r j)) (fun _ iv _ => 300 - (intOf iv).toNat)
  case atStart => exact ⟨0, true, rfl, rfl, HSt0⟩
  case round =>
    obtain ⟨j, sm, rfl, rfl, HI⟩ := hrel
    obtain ⟨U, hU, hP, hK⟩ := HI.out
    have hj := ph_le hP
    have HU := Lib.hid hU
    have HP := Lib.hid hP
    have HK := Lib.hid hK
    have HJ := Lib.hid hj
    have hj2 : (j : Int) + 1 ≤ 200 := by omega
    obtain ⟨k, hk⟩ := hP.mem
    obtain ⟨lo, hst⟩ := hk.stats
    have HSt := Lib.hid hst
    unfold statCells at HSt
    clear HI hU hP hK hk hst hj HSt0
    go_wp2_with (fail)
    refine HSt.out.mono ?_
    rintro e w9 ⟨rfl, hB9⟩
    obtain ⟨ab, hab⟩ : ∃ ab, w9.heap.size = ab := ⟨_, rfl⟩
    have hba : Blk (w9.alloc (.cells #[.int .u64 lo, .int .u64 st, .int .u64 fl, .int .u64 fe] 75)) ab #[.int .u64 lo, .int .u64 st, .int .u64 fl, .int .u64 fe] 75 := by rw [← hab]; exact Blk.new w9 _ _
    have hB10 : Below wr.heap.size wr (w9.alloc (.cells #[.int .u64 lo, .int .u64 st, .int .u64 fl, .int .u64 fe] 75)) := hB9.alloc hB9.size _
    have HAb := Lib.hid (show U ≤ ab ∧ w.heap.size ≤ ab ∧ ab ≠ kb ∧ ¬ S ab from by
      have h1 := HU.out
      have h2 := HK.out.size
      have h3 := hB9.size
      refine ⟨by omega, by omega, by have := HZ.out.1; omega, fun h => ?_⟩
      have := HZ.out.2 ab h
      omega)
    have HBA := Lib.hid hba
    have HB10 := Lib.hid hB10
    clear hba hB10 hB9 HSt
    go_upto_region 7 with (fail)
    obtain ⟨w10, hw10⟩ : ∃ w10, w9.alloc (.cells #[.int .u64 lo, .int .u64 st, .int .u64 fl, .int .u64 fe] 75) = w10 := ⟨_, rfl⟩
    rw [hw10] at HBA HB10 ⊢
    clear hw10 hab
    have HSp := Lib.hid (wstep_ph (HP.out.below HB10.out) (by have := HK.out.size; have := HB10.out.size; omega) H1.out HLv.out.1 HLv.out.2)
    clear HP
    go_wp2_with (fail)
    refine HSp.out.mono ?_
    rintro e w11 ⟨⟨rfl, hP⟩ | ⟨er, rfl, hE⟩, hk11⟩
    · have HBA11 := Lib.hid (HBA.out.kept hk11 (fun h => by have := HAb.out; rcases h with h | h | h; exact this.2.2.1 h; exact this.2.2.2 h; omega))
      have HK11 := Lib.hid (show Keeps (fun i => i = kb ∨ S i) w w11 from (HK.out.trans ((Keeps.of_below' HB10.out).mono (fun _ _ h => h.elim))).trans' hk11 (fun i hi h => by rcases h with h | h | h; exact .inl h; exact .inr h; omega))
      obtain ⟨k2, hk2⟩ := hP.mem
      obtain ⟨lo2, hst2⟩ := hk2.stats
      have HSt := Lib.hid hst2
      unfold statCells at HSt
      have HP := Lib.hid hP
      clear hP hk11 HSp hk2 hst2
      go_wp2_with (fail)
      refine HSt.out.mono ?_
      rintro e w12 ⟨rfl, hB12⟩
      have hba := HBA11.out.kept (Keeps.of_below' hB12) (fun h => h)
      have hba2 := hba.alloc (.cells #[.int .u64 lo2, .int .u64 st, .int .u64 fl, .int .u64 fe] 75)
      have hB13 : Below w11.heap.size w11 (w12.alloc (.cells #[.int .u64 lo2, .int .u64 st, .int .u64 fl, .int .u64 fe] 75)) := hB12.alloc hB12.size _
      have HI13 := Lib.hid (show DoneR w (w12.alloc (.cells #[.int .u64 lo2, .int .u64 st, .int .u64 fl, .int .u64 fe] 75)) kb xb mb S vs st fl fe client key level r (j + 1) from ⟨w11.heap.size, hB13.size, HP.out.below hB13, HK11.out.trans ((Keeps.of_below' hB13).mono (fun _ _ h => h.elim))⟩)
      have e0 := hba2.cell 0
      have e1 := hba2.cell 1
      have e2 := hba2.cell 2
      have e3 := hba2.cell 3
      clear hB12 hB13 hba hba2 HP HSt
      cases sm with
      | false =>
        go_wp2_with (fail)
        go_roundw
        case rel => exact ⟨j + 1, false, by go_num, rfl, HI13⟩
        case measure => have := HJ.out; simp [intOf]; omega
      | true =>
        go_wp2_with (fail)
        all_goals (go_roundw; (case rel => exact ⟨j + 1, _, by go_num, rfl, HI13⟩); (case measure => have := HJ.out; simp [intOf]; omega))
    · have HBA11 := Lib.hid (HBA.out.kept hk11 (fun h => by have := HAb.out; rcases h with h | h | h; exact this.2.2.1 h; exact this.2.2.2 h; omega))
      have HK11 := Lib.hid (show Keeps (fun i => i = kb ∨ S i) w w11 from (HK.out.trans ((Keeps.of_below' HB10.out).mono (fun _ _ h => h.elim))).trans' hk11 (fun i hi h => by rcases h with h | h | h; exact .inl h; exact .inr h; omega))
      obtain ⟨k2, hk2, _⟩ := id hE
      obtain ⟨lo2, hst2⟩ := hk2.stats
      have HSt := Lib.hid hst2
      unfold statCells at HSt
      have HE := Lib.hid hE
      clear hE hk11 HSp hk2 hst2
      go_wp2_with (fail)
      refine HSt.out.mono ?_
      rintro e w12 ⟨rfl, hB12⟩
      have hba := HBA11.out.kept (Keeps.of_below' hB12) (fun h => h)
      have hba2 := hba.alloc (.cells #[.int .u64 lo2, .int .u64 st, .int .u64 fl, .int .u64 fe] 75)
      have hB13 : Below w11.heap.size w11 (w12.alloc (.cells #[.int .u64 lo2, .int .u64 st, .int .u64 fl, .int .u64 fe] 75)) := hB12.alloc hB12.size _
      have HI13 := Lib.hid (show PhE (w12.alloc (.cells #[.int .u64 lo2, .int .u64 st, .int .u64 fl, .int .u64 fe] 75)) kb xb mb S vs st fl fe level r n0 from HE.out.below hB13)
      have HK13 := Lib.hid (HK11.out.trans ((Keeps.of_below' hB13).mono (fun _ _ h => h.elim)))
      have e0 := hba2.cell 0
      have e1 := hba2.cell 1
      have e2 := hba2.cell 2
      have e3 := hba2.cell 3
      clear hB12 hB13 hba hba2 HE HSt
      cases sm with
      | false =>
        go_wp2_with (fail)
        go_ret2
        exact ⟨⟨_, _, rfl⟩, HI13.out, HK13.out⟩
      | true =>
        go_wp2_with (fail)
        all_goals (go_ret2; exact ⟨⟨_, _, rfl⟩, HI13.out, HK13.out⟩)
end Go.Proofs.YtodgfbjjjgohgaaGreat
