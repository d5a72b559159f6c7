/-
  maps.DeleteFunc at linear.Key's closure: contract.
-/
import Derived.Test.YtdmcakoaakinnaaQn
namespace Go.Proofs.Ytdmcakoaakinnaa
open Go.RowKit Go.Maps
attribute [local go_sem] Oper.semAt_some
set_option linter.unusedVariables false
set_option linter.unusedSimpArgs false

def neS (s : St) (b : Bool) (v : ByteArray) : Bool := !(decide (s.dn = 0) && (s.is == b) && (s.v.toList == v.toList))
theorem neS_iff (s : St) (b : Bool) (v : ByteArray) : neS s b v = false ↔ s = ⟨0, b, v⟩ := by
  unfold neS
  rw [str_eqD]
  obtain ⟨a1, a2, a3⟩ := s
  simp
  constructor
  · rintro ⟨⟨h1, h2⟩, h3⟩; exact ⟨h1, h2, h3⟩
  · rintro ⟨h1, h2, h3⟩; exact ⟨⟨h1, h2⟩, h3⟩
set_option maxRecDepth 100000 in
theorem key1_v (s : St) (x b : Bool) (v : ByteArray) (bi bv : Nat) (w : World) (hi : Blk w bi #[.bool b] 4) (hv : Blk w bv #[.string v] 9) :
    Calls Try.prog 24 #[.agg (stCells s), .bool x, .pointer (some ⟨bi, 0, none⟩), .pointer (some ⟨bv, 0, none⟩)] w fun e w' => e = .returned (.bool (neS s b v)) ∧ Below w.heap.size w w' := by
  have HB := Lib.hid ((Below.refl w.heap.size w).alloc (Nat.le_refl _) (.cells (stCells s) 71))
  have d1 : (w.alloc (.cells (stCells s) 71)).cell? ⟨bi, 0, none⟩ = some (.bool b) := by rw [(hi.alloc _).cell]; rfl
  have d2 : (w.alloc (.cells (stCells s) 71)).cell? ⟨bv, 0, none⟩ = some (.string v) := by rw [(hv.alloc _).cell]; rfl
  clear hi hv
  obtain ⟨b1, q1⟩ : ∃ b1, ((s.dn : Int) == 0) = b1 := ⟨_, rfl⟩
  obtain ⟨b2, q2⟩ : ∃ b2, (s.is == b) = b2 := ⟨_, rfl⟩
  obtain ⟨b3, q3⟩ : ∃ b3, (s.v.toList == v.toList) = b3 := ⟨_, rfl⟩
  have HN := Lib.hid (show neS s b v = !(b1 && b2 && b3) from by
    unfold neS; rw [q2, q3, ← q1]; congr 3; by_cases h : s.dn = 0 <;> simp [h])
  unfold stCells at HB d1 d2 ⊢
  cases b1 with
  | false =>
    have HF := Lib.hid (show Ending.returned (.bool true) = .returned (.bool (neS s b v)) from by rw [HN.out]; rfl)
    go_enter Try.func24, Try.ntmps24
    go_wp2_with (fail)
    go_ret
    exact ⟨HF.out, HB.out⟩
  | true =>
    cases b2 with
    | false =>
      have HF := Lib.hid (show Ending.returned (.bool true) = .returned (.bool (neS s b v)) from by rw [HN.out]; rfl)
      go_enter Try.func24, Try.ntmps24
      go_wp2_with (fail)
      go_ret
      exact ⟨HF.out, HB.out⟩
    | true =>
      cases b3 with
      | false =>
        have HF := Lib.hid (show Ending.returned (.bool true) = .returned (.bool (neS s b v)) from by rw [HN.out]; rfl)
        go_enter Try.func24, Try.ntmps24
        go_wp2_with (fail)
        go_ret
        exact ⟨HF.out, HB.out⟩
      | true =>
        have HF := Lib.hid (show Ending.returned (.bool false) = .returned (.bool (neS s b v)) from by rw [HN.out]; rfl)
        go_enter Try.func24, Try.ntmps24
        go_wp2_with (fail)
        go_ret
        exact ⟨HF.out, HB.out⟩
/-- as many entries as states -/
theorem setD_size {w : World} {b n : Nat} {D : DataW Unit} {V' : List St} (h1 : w.ownsMap Try.prog 71 (plainElem Try.prog 4) b n D) (h2 : ∀ l, Maps.has D l = true → ∃ s ∈ V', KL s l) : Maps.size D ≤ V'.length := by
  obtain ⟨es, rfl, hp, hk⟩ := h1.entries kS
  rw [size_eq]
  have hf : ∀ p ∈ es, ∃ s ∈ V', KL s p.1 := fun p hpm => h2 p.1 (by rw [has_eq, List.any_eq_true]; exact ⟨p, hpm, WideAt.sameKey_self (hk p hpm)⟩)
  have gen : ∀ es : List (Lit × DataW Unit), es.Pairwise (fun p q => p.1 ≠ q.1) → (∀ p ∈ es, ∃ s ∈ V', KL s p.1) → ∃ ss : List St, ss.length = es.length ∧ ss.Nodup ∧ (∀ s ∈ ss, s ∈ V') ∧ (∀ s ∈ ss, ∃ p ∈ es, KL s p.1) := by
    intro es
    induction es with
    | nil => exact fun _ _ => ⟨[], rfl, List.nodup_nil, ⟨fun _ h => absurd h List.not_mem_nil, fun _ h => absurd h List.not_mem_nil⟩⟩
    | cons p r ih =>
      intro hp hf
      rw [List.pairwise_cons] at hp
      obtain ⟨ss, i1, i2, i3, i4⟩ := ih hp.2 (fun q hq => hf q (List.mem_cons_of_mem _ hq))
      obtain ⟨s, hs, hkl⟩ := hf p List.mem_cons_self
      refine ⟨s :: ss, by simp [i1], List.nodup_cons.2 ⟨fun hm => ?_, i2⟩, fun x hx => ?_, fun x hx => ?_⟩
      · obtain ⟨q, hq, hkq⟩ := i4 s hm
        exact hp.1 q hq (hkl.one hkq)
      · rcases List.mem_cons.1 hx with rfl | hx
        · exact hs
        · exact i3 x hx
      · rcases List.mem_cons.1 hx with rfl | hx
        · exact ⟨p, List.mem_cons_self, hkl⟩
        · obtain ⟨q, hq, h⟩ := i4 x hx
          exact ⟨q, List.mem_cons_of_mem _ hq, h⟩
  obtain ⟨ss, i1, i2, i3, _⟩ := gen es hp hf
  rw [← i1]
  exact i2.length_le_of_subset i3
theorem ranges_n {w : World} {b r n n' : Nat} {D : DataW Unit} {left : Lit → Bool} {cnt : Nat} (h : w.ranges Try.prog 71 (plainElem Try.prog 4) b r n D left cnt) (hn : Maps.size D ≤ n') : w.ranges Try.prog 71 (plainElem Try.prog 4) b r n' D left cnt := by
  obtain ⟨es, clock, since, seen, c0, hb, F, hs, hD, rest⟩ := h
  refine ⟨es, clock, since, seen, c0, hb, F, ?_, hD, rest⟩
  rw [hD, size_eq, length_sorted] at hn
  simpa using hn
theorem RngS.drop {w : World} {b r : Nat} {V V' : List St} {L : St → Prop} (h : RngS w b r V L) {s : St} (hs : s ∈ V) (hV : ∀ t, t ∈ V' ↔ t ∈ V ∧ t ≠ s) (ty : TypeId) :
    ∃ w', (Builtin.delete_ #[72, 71] ty #[.map (some b), .agg (stCells s)]).run Try.prog w = .ok (.tuple #[]) w' ∧ RngS w' b r V' (fun t => L t ∧ t ≠ s) ∧ w'.rangeLeft b r ≤ w.rangeLeft b r ∧ w.grownBy w' (some b) := by
  obtain ⟨D, left, cnt, h1, h2, h3, h4, h5⟩ := h
  obtain ⟨l0, hl0⟩ := KL.of (h3 s hs).1
  obtain ⟨w', cnt', hrun, hrg, hle, hmt⟩ := h1.drop kS Try.underlying72 hl0 ty
  have k2 : ∀ l, Maps.has (D.del l0) l = true → ∃ s ∈ V', KL s l := fun l hl => by
    by_cases e : l = l0
    · subst e; rw [has_del_same] at hl; cases hl
    · rw [has_del_other e] at hl
      obtain ⟨t, ht, hk⟩ := h2 l hl
      exact ⟨t, (hV t).2 ⟨ht, fun e2 => e (by subst e2; exact hk.one hl0)⟩, hk⟩
  refine ⟨w', hrun, ⟨D.del l0, _, cnt', ranges_n hrg (setD_size hrg.owns k2), k2, fun t ht => ?_, fun l hl => ?_, fun t => ?_⟩, by rw [hrg.left_eq, h1.left_eq]; exact hle, hmt.grown⟩
  · obtain ⟨htV, hne⟩ := (hV t).1 ht
    refine ⟨(h3 t htV).1, fun l hl => ?_⟩
    have e : l ≠ l0 := fun e => hne (by subst e; exact hl.inj hl0)
    rw [has_del_other e, atKey_del_other e]
    exact (h3 t htV).2 l hl
  · simp at hl
    have e : l ≠ l0 := fun e => by
      have := hl.2
      rw [e, WideAt.sameKey_self hl0.key] at this
      cases this
    rw [has_del_other e]
    exact h4 l hl.1
  · constructor
    · rintro ⟨ht, hne⟩
      obtain ⟨htV, hle⟩ := (h5 t).1 ht
      refine ⟨(hV t).2 ⟨htV, hne⟩, fun l hl => ?_⟩
      have h6 := hle l hl
      have h7 : l.sameKey l0 = false := Maps.sameKey_ne (fun e => hne (by subst e; exact hl.inj hl0))
      simp [h6, h7]
    · rintro ⟨ht, hle⟩
      obtain ⟨htV, hne⟩ := (hV t).1 ht
      exact ⟨(h5 t).2 ⟨htV, fun l hl => by have := hle l hl; simp at this; exact this.1⟩, hne⟩
theorem RngS.congr {w : World} {b r : Nat} {V : List St} {L L' : St → Prop} (h : RngS w b r V L) (hL : ∀ t, L t ↔ L' t) : RngS w b r V L' := by
  obtain ⟨D, left, cnt, h1, h2, h3, h4, h5⟩ := h
  exact ⟨D, left, cnt, h1, h2, h3, h4, fun t => (hL t).symm.trans (h5 t)⟩
theorem wpList_delete_st {ops : Array Oper} {rest : List Oper} {o : Oper} {a : Act} {w : World} {Q : Exit → Act → World → Prop} (hg : o.guard = none) (m x : Operand) (ho : o.op = Op.call { callee := Callee.builtin Builtin.delete, args := #[m, x], argTypes := #[72, 71] })
    (b r : Nat) (V V' : List St) (L : St → Prop) (s : St) (hm : a.eval m = .map (some b)) (hx : a.eval x = .agg (stCells s)) (h : RngS w b r V L) (hs : s ∈ V) (hV : ∀ t, t ∈ V' ↔ t ∈ V ∧ t ≠ s)
    (hK : ∀ w', RngS w' b r V' (fun t => L t ∧ t ≠ s) → w'.rangeLeft b r ≤ w.rangeLeft b r → w.grownBy w' (some b) → wpList Try.prog ops Q rest (a.put o.dst (.tuple #[])) w') : wpList Try.prog ops Q (o :: rest) a w := by
  refine wpList_plain hg fun K' hK' => ?_
  obtain ⟨w', hrun, r1, r2, r3⟩ := h.drop hs hV o.type
  unfold Oper.wp execOp
  simp only [ho, resolve, invoke, builtin, Sem.run_bind, Sem.run_pure, Result.andThen_ok, List.map_toArray, List.map_cons, List.map_nil, hm, hx, hrun]
  exact hK' _ _ (hK w' r1 r2 r3)
def DelQ (md : Nat) (V : List St) (b : Bool) (v : ByteArray) (w : World) (e : Ending) (w' : World) : Prop :=
  e = .returned (.tuple #[]) ∧ ∃ V', SetM w' md V' ∧ (∀ s, s ∈ V' ↔ s ∈ V ∧ s = ⟨0, b, v⟩) ∧ Keeps (fun k => k = md) w w'
set_option maxRecDepth 100000 in
set_option maxHeartbeats 4000000 in
theorem del_v (md : Nat) (V : List St) (b : Bool) (v : ByteArray) (bi bv : Nat) (w : World) (h1 : SetM w md V) (hi : Blk w bi #[.bool b] 4) (hv : Blk w bv #[.string v] 9) :
    Calls Try.prog 23 #[.map (some md), .func (.func 24) #[] #[.pointer (some ⟨bi, 0, none⟩), .pointer (some ⟨bv, 0, none⟩)]] w (DelQ md V b v w) := by
  have H1 := Lib.hid h1
  have HI := Lib.hid (And.intro hi hv)
  have HMd := Lib.hid (And.intro (fun e => h1.notBlk hi e) (fun e => h1.notBlk hv e) : (md = bi → False) ∧ (md = bv → False))
  clear h1 hi hv
  go_enter Try.func23, Try.ntmps23
  go_upto_region 0 with (fail)
  go_step
  refine wpList_plain rfl (fun K hK => ?_)
  go_simp
  refine hK _ _ ?_
  clear hK K
  refine wpList_range_st rfl (.tmp 6) rfl md V (ev_tmp (by simp)) H1.out ?_
  intro w1 hrg hg1 _
  have hk1 : Keeps (fun k => k = md) w w1 := (Keeps.refl _ w).grown hg1 (fun _ e => by cases e)
  have HR1 := Lib.hid hrg
  have HK1 := Lib.hid hk1
  have HRb := Lib.hid (show bi < w.heap.size ∧ bv < w.heap.size from ⟨HI.out.1.lt, HI.out.2.lt⟩)
  have HI1 := Lib.hid (And.intro (HI.out.1.kept hk1 (fun e => HMd.out.1 e.symm)) (HI.out.2.kept hk1 (fun e => HMd.out.2 e.symm)))
  obtain ⟨ri, hri⟩ : ∃ ri, w.heap.size = ri := ⟨_, rfl⟩
  have HRl := Lib.hid (show w.heap.size = ri from hri)
  rw [hri] at HR1 HRb ⊢
  clear hrg hg1 hk1 hri
  simp only [Act.put]
  go_wp2_with (fail)
  go_frame
  go_loopw [4, 5] (fun _ _ wr => ∃ (L : St → Prop) (V' : List St), RngS wr md ri V' L ∧ (∀ s, s ∈ V' ↔ s ∈ V ∧ (L s ∨ s = ⟨0, b, v⟩)) ∧ Keeps (fun k => k = md ∨ k = ri) w1 wr) (fun _ _ wr => wr.rangeLeft md ri)
  case atStart => exact ⟨_, V, HR1.out, fun s => ⟨fun h => ⟨h, .inl h⟩, fun h => h.1⟩, Keeps.refl _ _⟩
  case round =>
    obtain ⟨L, V', hrg, hmem, hkp⟩ := hrel
    have HRg := Lib.hid hrg
    have HMem := Lib.hid hmem
    have HKp := Lib.hid hkp
    have HIr := Lib.hid (And.intro (HI1.out.1.kept hkp (fun e => by rcases e with e | e; exact HMd.out.1 e.symm; have := HRb.out; omega)) (HI1.out.2.kept hkp (fun e => by rcases e with e | e; exact HMd.out.2 e.symm; have := HRb.out; omega)))
    clear hrg hmem hkp
    go_upto_region 1 with (fail)
    go_step
    refine wpList_next_st rfl (.tmp 7) rfl md ri V' L (ev_tmp (by simp)) HRg.out ?_ ?_
    · intro hdone
      have HDn := Lib.hid hdone
      clear hdone
      simp only [Act.put]
      go_wp2_with (fail)
      refine bodyPost_end (results_none rfl _ _ _) rfl ?_
      refine ⟨rfl, V', HRg.out.set, fun s => ?_, ?_⟩
      · rw [HMem.out]
        exact ⟨fun h => ⟨h.1, by rcases h.2 with h2 | h2; exact absurd h2 (HDn.out s); exact h2⟩, fun h => ⟨h.1, .inr h.2⟩⟩
      · refine HK1.out.trans' HKp.out (fun i hi h => ?_)
        rcases h with h | h
        · exact h
        · have := HRl.out; omega
    · intro s w2 hLs hsV hrg2 hlt hg2 hsz hen
      have hk2 : Keeps (fun k => k = md ∨ k = ri) wr w2 := (Keeps.refl _ wr).grown hg2 (fun k e => by cases e; exact .inl (.inr rfl))
      have hk2' : Keeps (fun k => k = ri) wr w2 := (Keeps.refl _ wr).grown hg2 (fun k e => by cases e; exact .inl rfl)
      have HK2 := Lib.hid (HKp.out.trans hk2)
      have HRg2 := Lib.hid hrg2
      have HL2 := Lib.hid (And.intro hLs (And.intro hsV hlt))
      have HI2 := Lib.hid (And.intro (HIr.out.1.kept hk2' (fun e => by have := HRb.out; omega)) (HIr.out.2.kept hk2' (fun e => by have := HRb.out; omega)))
      clear hrg2 hLs hsV hlt hg2 hsz hk2 hk2'
      go_upto_region 2 with (fail)
      go_step
      refine wpList_plain rfl (fun K hK => ?_)
      go_simp
      refine hK _ _ ?_
      clear hK K
      refine wpList_plain rfl (fun K hK => ?_)
      go_simp
      refine hK _ _ ?_
      clear hK K
      refine wpList_plain rfl (fun K hK => ?_)
      go_simp
      refine hK _ _ ?_
      clear hK K
      refine wpList_anew_st rfl rfl 4 (.tmp 11) rfl rfl rfl s (ev_tmp (by simp [Act.put])) (by simp) ?_
      clear hen
      go_upto_region 3 with (fail)
      have hb3 := Blk.new w2 (stCells s) 71
      have hB3 : Below w2.heap.size w2 (w2.alloc (.cells (stCells s) 71)) := (Below.refl _ w2).alloc (Nat.le_refl _) _
      generalize w2.alloc (.cells (stCells s) 71) = w3 at hb3 hB3 ⊢
      generalize w2.heap.size = nb at hb3 ⊢
      have hk3 := Keeps.of_below' hB3
      have HBs := Lib.hid hb3
      have HRg3 := Lib.hid (HRg2.out.keeps hk3 (fun h => h) (fun h => h))
      have HK3 := Lib.hid (HK2.out.trans (hk3.mono (fun _ _ h => h.elim)))
      have HLt3 := Lib.hid (rangeLeft_keeps hk3 (fun h => h) (fun h => h) HRg2.out.set.lt HRg2.out.lt)
      have HI3 := Lib.hid (And.intro (HI2.out.1.kept hk3 (fun h => h)) (HI2.out.2.kept hk3 (fun h => h)))
      clear hb3 hB3 hk3
      go_step
      refine wpList_plain rfl (fun K hK => ?_)
      go_simp
      refine hK _ _ ?_
      clear hK K
      refine wpList_load_stW rfl (.tmp 4) rfl nb 0 s (ev_tmp (by simp)) HBs.out.cellsAt ?_
      go_wp2_with (fail)
      refine (key1_v s true b v bi bv w3 HI3.out.1 HI3.out.2).mono ?_
      rintro e w4 ⟨rfl, hB4⟩
      have hk4 := Keeps.of_below' hB4
      have HBs4 := Lib.hid (HBs.out.kept hk4 (fun h => h))
      have HRg4 := Lib.hid (HRg3.out.keeps hk4 (fun h => h) (fun h => h))
      have HK4 := Lib.hid (HK3.out.trans (hk4.mono (fun _ _ h => h.elim)))
      have HLt4 := Lib.hid (rangeLeft_keeps hk4 (fun h => h) (fun h => h) HRg3.out.set.lt HRg3.out.lt)
      clear hB4 hk4
      cases hne : neS s b v with
      | false =>
        have HEq := Lib.hid ((neS_iff s b v).1 hne)
        clear hne
        go_wp2_with (fail)
        go_roundw
        case rel =>
          refine ⟨_, V', HRg4.out, fun t => ?_, HK4.out⟩
          rw [HMem.out]
          constructor
          · rintro ⟨h1, h2⟩
            refine ⟨h1, ?_⟩
            by_cases e : t = s
            · exact .inr (e.trans HEq.out)
            · rcases h2 with h2 | h2
              · exact .inl ⟨h2, e⟩
              · exact .inr h2
          · rintro ⟨h1, h2⟩
            refine ⟨h1, ?_⟩
            rcases h2 with h2 | h2
            · exact .inl h2.1
            · exact .inr h2
        case measure => rw [HLt4.out, HLt3.out]; exact HL2.out.2.2
      | true =>
        have HNe := Lib.hid (show s ≠ ⟨0, b, v⟩ from fun e => by rw [(neS_iff s b v).2 e] at hne; cases hne)
        clear hne
        go_upto_region 4 with (fail)
        go_step
        refine wpList_plain rfl (fun K hK => ?_)
        go_simp
        refine hK _ _ ?_
        clear hK K
        refine wpList_load_stW rfl (.tmp 4) rfl nb 0 s (ev_tmp (by simp)) HBs4.out.cellsAt ?_
        obtain ⟨V2, hV2⟩ : ∃ V2 : List St, ∀ t, t ∈ V2 ↔ t ∈ V' ∧ t ≠ s := by
          haveI : DecidableEq St := fun a b => Classical.propDecidable (a = b)
          exact ⟨V'.filter (fun t => decide (t ≠ s)), fun t => by rw [List.mem_filter]; simp⟩
        refine wpList_delete_st rfl (.tmp 17) (.tmp 18) rfl md ri V' V2 _ s (ev_tmp (by simp [Act.put])) (ev_tmp (by simp [Act.put])) HRg4.out HL2.out.2.1 hV2 ?_
        intro w5 hrg5 hle5 hg5
        have HRg5 := Lib.hid hrg5
        have HLt5 := Lib.hid hle5
        have HV2 := Lib.hid hV2
        have HK5 := Lib.hid (HK4.out.trans ((Keeps.refl _ w4).grown hg5 (fun k e => by cases e; exact .inl (.inl rfl))))
        clear hrg5 hle5 hV2 hg5
        simp [Act.put]
        go_wp2_with (fail)
        go_roundw
        case rel =>
          refine ⟨_, V2, HRg5.out, fun t => ?_, HK5.out⟩
          rw [HV2.out, HMem.out]
          constructor
          · rintro ⟨⟨h1, h2⟩, h3⟩
            refine ⟨h1, ?_⟩
            rcases h2 with h2 | h2
            · exact .inl ⟨⟨h2, h3⟩, h3⟩
            · exact .inr h2
          · rintro ⟨h1, h2⟩
            rcases h2 with h2 | h2
            · exact ⟨⟨h1, .inl h2.1.1⟩, h2.2⟩
            · exact ⟨⟨h1, .inr h2⟩, fun e => HNe.out (e.symm.trans h2)⟩
        case measure => have h1 := HLt5.out; rw [HLt4.out, HLt3.out] at h1; exact Nat.lt_of_le_of_lt h1 HL2.out.2.2
end Go.Proofs.Ytdmcakoaakinnaa
