/-
  A MAP OF STATES GONE OVER; maps.Copy, maps.DeleteFunc at it.
-/
import Derived.Test.YtdmcakoaakinnaaQm
namespace Go.Proofs.Ytdmcakoaakinnaa
open Go.RowKit Go.Maps
attribute [local go_sem] Oper.semAt_some
set_option linter.unusedVariables false
set_option linter.unusedSimpArgs false

/-- a range over a map of states under way: those that are still to come -/
def RngS (w : World) (b r : Nat) (V : List St) (L : St → Prop) : Prop :=
  ∃ (D : DataW Unit) (left : Lit → Bool) (cnt : Nat), w.ranges Try.prog 71 (plainElem Try.prog 4) b r V.length D left cnt ∧ (∀ l, Maps.has D l = true → ∃ s ∈ V, KL s l) ∧ (∀ s ∈ V, StOk s ∧ ∀ l, KL s l → Maps.has D l = true ∧ D.atKey l FalseD = TrueD) ∧
    (∀ l, left l = true → Maps.has D l = true) ∧ (∀ s, L s ↔ s ∈ V ∧ ∀ l, KL s l → left l = true)
theorem RngS.set {w : World} {b r : Nat} {V : List St} {L : St → Prop} (h : RngS w b r V L) : SetM w b V := by
  obtain ⟨D, left, cnt, h1, h2, h3, _⟩ := h
  exact ⟨D, h1.owns, h2, h3⟩
theorem RngS.ne {w : World} {b r : Nat} {V : List St} {L : St → Prop} (h : RngS w b r V L) : r ≠ b := by
  obtain ⟨D, left, cnt, h1, _⟩ := h
  exact h1.ne
theorem RngS.lt {w : World} {b r : Nat} {V : List St} {L : St → Prop} (h : RngS w b r V L) : r < w.heap.size := by
  obtain ⟨D, left, cnt, h1, _⟩ := h
  exact h1.lt
theorem RngS.keeps {S : Nat → Prop} {w w' : World} {b r : Nat} {V : List St} {L : St → Prop} (h : RngS w b r V L) (hk : Keeps S w w') (hb : ¬ S b) (hr : ¬ S r) : RngS w' b r V L := by
  obtain ⟨D, left, cnt, h1, h2⟩ := h
  have l1 := h1.owns.lt
  have l2 := h1.lt
  obtain ⟨es, clock, since, seen, c0, hbb, F, hs, hD, hrr, rest⟩ := h1
  exact ⟨D, left, cnt, ⟨es, clock, since, seen, c0, (hk.block b l1 hb).trans hbb, F, hs, hD, (hk.block r l2 hr).trans hrr, rest⟩, h2⟩
theorem rangeLeft_keeps {S : Nat → Prop} {w w' : World} {b r : Nat} (hk : Keeps S w w') (hb : ¬ S b) (hr : ¬ S r) (h1 : b < w.heap.size) (h2 : r < w.heap.size) : w'.rangeLeft b r = w.rangeLeft b r := by
  unfold World.rangeLeft
  rw [hk.block b h1 hb, hk.block r h2 hr]
section
variable {ops : Array Oper} {rest : List Oper} {o : Oper} {a : Act} {w : World} {Q : Exit → Act → World → Prop}
theorem wpList_range_st (hg : o.guard = none) (m : Operand) (ho : o.op = Op.range 72 m) (b : Nat) (V : List St) (hm : a.eval m = .map (some b)) (h : SetM w b V)
    (hK : ∀ w', RngS w' b w.heap.size V (fun s => s ∈ V) → w.grownBy w' none → w'.heap.size = w.heap.size + 1 → wpList Try.prog ops Q rest (a.put o.dst (.pointer (some ⟨w.heap.size, 0, none⟩))) w') : wpList Try.prog ops Q (o :: rest) a w := by
  obtain ⟨D, h1, h2, h3⟩ := h
  refine wpList_range_own w hg m 72 ho 71 4 kS Try.underlying72 _ b V.length D hm h1 (fun w' r1 r2 r3 => hK w' ⟨D, _, _, r1, h2, h3, fun l h => h, fun s => ⟨fun hs => ⟨hs, fun l hl => ((h3 s hs).2 l hl).1⟩, fun h => h.1⟩⟩ r2 r3)
set_option maxRecDepth 100000 in
theorem wpList_next_st (hg : o.guard = none) (it : Operand) (ho : o.op = Op.next it false) (b r : Nat) (V : List St) (L : St → Prop) (hit : a.eval it = .pointer (some ⟨r, 0, none⟩)) (h : RngS w b r V L)
    (hDone : (∀ s, ¬ L s) → wpList Try.prog ops Q rest (a.put o.dst (.tuple #[.bool false])) w)
    (hMore : ∀ (s : St) (w' : World), L s → s ∈ V → RngS w' b r V (fun t => L t ∧ t ≠ s) → w'.rangeLeft b r < w.rangeLeft b r → w.grownBy w' (some r) → w'.heap.size = w.heap.size →
      (Instr.entry (.pointer (some ⟨r, 0, none⟩))).run Try.prog w' = .ok (.tuple #[.agg (stCells s), .bool true]) w' → wpList Try.prog ops Q rest (a.put o.dst (.tuple #[.bool true, .agg (stCells s), .bool true])) w') :
    wpList Try.prog ops Q (o :: rest) a w := by
  obtain ⟨D, left, cnt, h1, h2, h3, h4, h5⟩ := h
  refine wpList_plain hg fun K' hK' => ?_
  unfold Oper.wp
  rcases h1.next kS o.type with ⟨h0, hl, hrun⟩ | ⟨key, v, kl, y, w', cnt', hkey, hlk, hv, hat, hrun, hrg, hlt, hgr, hsz, hen⟩
  · simp [execOp, ho, hit, hrun, Result.andThen]
    refine hK' _ _ (hDone fun s hs => ?_)
    obtain ⟨hsV, hle⟩ := (h5 s).1 hs
    obtain ⟨l, hkl⟩ := KL.of (h3 s hsV).1
    have := hle l hkl
    rw [hl l] at this
    cases this
  · obtain ⟨s, hsV, hks⟩ := h2 kl (h4 kl hlk)
    obtain rfl : key = .agg (stCells s) := kS.inj hkey hks
    have hv' : v = .bool true := by
      have e := ((h3 s hsV).2 kl hks).2
      rw [hat] at e
      unfold plainElem at hv
      rw [Try.underlying4] at hv
      cases v <;> simp at hv
      subst hv
      simp at e
      rw [e]
    subst hv'
    simp [execOp, ho, hit, hrun, Result.andThen]
    refine hK' _ _ (hMore s w' ((h5 s).2 ⟨hsV, fun l hl => by rw [hl.one hks]; exact hlk⟩) hsV ⟨D, _, cnt', hrg, h2, h3, fun l hl => by simp at hl; exact h4 l hl.1, fun t => ?_⟩ (by rw [hrg.left_eq, h1.left_eq]; exact hlt) hgr hsz hen)
    constructor
    · rintro ⟨ht, hne⟩
      obtain ⟨htV, hle⟩ := (h5 t).1 ht
      refine ⟨htV, fun l hl => ?_⟩
      have h6 := hle l hl
      have h7 : l.sameKey kl = false := Maps.sameKey_ne (fun e => hne (by subst e; exact hl.inj hks))
      simp [h6, h7]
    · rintro ⟨htV, hle⟩
      refine ⟨(h5 t).2 ⟨htV, fun l hl => by have := hle l hl; simp at this; exact this.1⟩, fun e => ?_⟩
      subst e
      have := hle kl hks
      rw [WideAt.sameKey_self hks.key] at this
      simp at this
end
/-- what maps.Copy leaves -/
def CopyQ (md ms : Nat) (V1 V2 : List St) (w : World) (e : Ending) (w' : World) : Prop :=
  e = .returned (.tuple #[]) ∧ ∃ V', SetM w' md V' ∧ (∀ s, s ∈ V' ↔ s ∈ V1 ∨ s ∈ V2) ∧ Keeps (fun k => k = md) w w'
set_option maxRecDepth 100000 in
set_option maxHeartbeats 4000000 in
theorem copy_v (md ms : Nat) (V1 V2 : List St) (w : World) (h1 : SetM w md V1) (h2 : SetM w ms V2) (hne : md ≠ ms) (hr : V1.length + V2.length < maxLen) (hn2 : V2.Nodup) :
    Calls Try.prog 21 #[.map (some md), .map (some ms)] w (CopyQ md ms V1 V2 w) := by
  have H1 := Lib.hid h1
  have H2 := Lib.hid h2
  have HR := Lib.hid (And.intro hr hn2)
  clear h1 h2 hr hn2
  go_enter Try.func21, Try.ntmps21
  go_upto_region 0 with (fail)
  go_step
  refine wpList_plain rfl (fun K hK => ?_)
  go_simp
  refine hK _ _ ?_
  clear hK K
  refine wpList_range_st rfl (.tmp 6) rfl ms V2 (ev_tmp (by simp)) H2.out ?_
  intro w1 hrg hg1 _
  have hk1 : Keeps (fun k => k = md) w w1 := (Keeps.refl _ w).grown hg1 (fun _ e => by cases e)
  have HR1 := Lib.hid hrg
  have HK1 := Lib.hid hk1
  have H11 := Lib.hid (H1.out.kept hg1 (by simp))
  have HRi := Lib.hid (show md < w.heap.size from H1.out.lt)
  have HRl := Lib.hid (show ∀ i, i < w.heap.size → i ≠ w.heap.size from fun i hi => by omega)
  obtain ⟨ri, hri⟩ : ∃ ri, w.heap.size = ri := ⟨_, rfl⟩
  have HRl := Lib.hid (show w.heap.size = ri from hri)
  rw [hri] at HR1 HRi ⊢
  clear hrg hg1 hk1 hri
  go_wp2_with (fail)
  go_frame
  have hnm : md ≠ ri := by have := HRi.out; omega
  have HNm := Lib.hid (And.intro hnm hne)
  clear hnm
  go_loopw [4, 5] (fun _ _ wr => ∃ (L : St → Prop) (V' U : List St), RngS wr ms ri V2 L ∧ SetM wr md V' ∧ (∀ s, s ∈ V' ↔ s ∈ V1 ∨ (s ∈ V2 ∧ ¬ L s)) ∧ V'.length = V1.length + U.length ∧ U.Nodup ∧ (∀ s ∈ U, s ∈ V2 ∧ ¬ L s) ∧ Keeps (fun k => k = md ∨ k = ri) w1 wr) (fun _ _ wr => wr.rangeLeft ms ri)
  case atStart => exact ⟨_, V1, [], HR1.out, H11.out, fun s => ⟨fun h => .inl h, fun h => by rcases h with h | ⟨h1, h2⟩; exact h; exact absurd h1 h2⟩, rfl, List.nodup_nil, fun s h => absurd h List.not_mem_nil, Keeps.refl _ _⟩
  case round =>
    obtain ⟨L, V', U, hrg, hset, hmem, hlen, hund, hus, hkp⟩ := hrel
    have HRg := Lib.hid hrg
    have HSet := Lib.hid hset
    have HMem := Lib.hid (And.intro hmem (And.intro hlen (And.intro hund hus)))
    have HKp := Lib.hid hkp
    clear hrg hset hmem hlen hund hus hkp
    go_upto_region 1 with (fail)
    go_step
    refine wpList_next_st rfl (.tmp 7) rfl ms ri V2 L (ev_tmp (by simp)) HRg.out ?_ ?_
    · intro hdone
      have HDn := Lib.hid hdone
      clear hdone
      go_wp2_with (fail)
      refine bodyPost_end (results_none rfl _ _ _) rfl ?_
      refine ⟨rfl, V', HSet.out, fun s => ?_, ?_⟩
      · rw [HMem.out.1]
        exact ⟨fun h => by rcases h with h | h; exact .inl h; exact .inr h.1, fun h => by rcases h with h | h; exact .inl h; exact .inr ⟨h, HDn.out s⟩⟩
      · refine HK1.out.trans' HKp.out (fun i hi h => ?_)
        rcases h with h | h
        · exact h
        · have := HRl.out; omega
    · intro s w2 hLs hsV hrg2 hlt hg2 hsz hen
      have hk2 : Keeps (fun k => k = md ∨ k = ri) wr w2 := (Keeps.refl _ wr).grown hg2 (fun k e => by cases e; exact .inl (.inr rfl))
      have HSet2 := Lib.hid (HSet.out.kept hg2 (fun e => HNm.out.1 (Option.some.inj e)))
      have HK2 := Lib.hid (HKp.out.trans hk2)
      have HRg2 := Lib.hid hrg2
      have HL2 := Lib.hid (And.intro hLs (And.intro hsV hlt))
      clear hrg2 hLs hsV hlt hg2 hsz hk2
      go_upto_region 2 with (fail)
      go_step
      refine wpList_plain rfl (fun K hK => ?_)
      go_simp
      refine hK _ _ ?_
      clear hK K
      refine wpList_plain rfl (fun K hK => ?_)
      go_simp
      refine hK _ _ ?_
      clear hK K
      refine wpList_plain rfl (fun K hK => ?_)
      go_simp
      refine hK _ _ ?_
      clear hK K
      refine wpList_anew_st rfl rfl 4 (.tmp 11) rfl rfl rfl s (ev_tmp (by simp [Act.put])) (by simp) ?_
      clear hen
      go_upto_region 3 with (fail)
      have hb3 := Blk.new w2 (stCells s) 71
      have hB3 : Below w2.heap.size w2 (w2.alloc (.cells (stCells s) 71)) := (Below.refl _ w2).alloc (Nat.le_refl _) _
      generalize w2.alloc (.cells (stCells s) 71) = w3 at hb3 hB3 ⊢
      generalize w2.heap.size = nb at hb3 ⊢
      have hk3 := Keeps.of_below' hB3
      have HBs := Lib.hid hb3
      have HSet3 := Lib.hid (HSet2.out.keeps hk3 (fun h => h))
      have HRg3 := Lib.hid (HRg2.out.keeps hk3 (fun h => h) (fun h => h))
      have HK3 := Lib.hid (HK2.out.trans (hk3.mono (fun _ _ h => h.elim)))
      have HLt3 := Lib.hid (rangeLeft_keeps hk3 (fun h => h) (fun h => h) HRg2.out.set.lt HRg2.out.lt)
      clear hb3 hB3 hk3
      go_step
      refine wpList_plain rfl (fun K hK => ?_)
      go_simp
      refine hK _ _ ?_
      clear hK K
      refine wpList_load_stW rfl (.tmp 4) rfl nb 0 s (ev_tmp (by simp)) HBs.out.cellsAt ?_
      refine wpList_plain rfl (fun K hK => ?_)
      go_simp
      refine hK _ _ ?_
      clear hK K
      refine wpList_put_st rfl (.tmp 13) (.tmp 14) (.tmp 15) rfl md V' s (ev_tmp (by simp)) (ev_tmp (by simp)) (ev_tmp (by simp)) HSet3.out (HRg3.out.set.ok HL2.out.2.1) ?_ ?_
      · have h5 := HMem.out.2.2.1.length_le_of_subset (l₂ := V2) (fun t ht => (HMem.out.2.2.2 t ht).1)
        have h6 := HR.out.1
        have h7 := HMem.out.2.1
        have h8 : s ∉ U := fun h => (HMem.out.2.2.2 s h).2 HL2.out.1
        have h9 := (List.nodup_cons.2 ⟨h8, HMem.out.2.2.1⟩).length_le_of_subset (l₂ := V2) (fun t ht => by
          rcases List.mem_cons.1 ht with rfl | h
          · exact HL2.out.2.1
          · exact (HMem.out.2.2.2 t h).1)
        rw [List.length_cons] at h9
        omega
      · intro w4 hs4 hg4
        have hk4 : Keeps (fun k => k = md ∨ k = ri) w3 w4 := (Keeps.refl _ w3).grown hg4 (fun k e => by cases e; exact .inl (.inl rfl))
        have hk4' : Keeps (fun k => k = md) w3 w4 := (Keeps.refl _ w3).grown hg4 (fun k e => by cases e; exact .inl rfl)
        have HS4 := Lib.hid hs4
        have HK4 := Lib.hid (HK3.out.trans hk4)
        have HRg4 := Lib.hid (HRg3.out.keeps hk4' (fun e => HNm.out.2 e.symm) (fun e => HNm.out.1 e.symm))
        have HLt4 := Lib.hid (rangeLeft_keeps hk4' (fun e => HNm.out.2 e.symm) (fun e => HNm.out.1 e.symm) HRg3.out.set.lt HRg3.out.lt)
        clear hs4 hg4 hk4 hk4'
        simp only [Act.put]
        go_wp2_with (fail)
        go_roundw
        case rel =>
          refine ⟨_, s :: V', s :: U, HRg4.out, HS4.out, fun t => ?_, by rw [List.length_cons, List.length_cons, HMem.out.2.1]; omega, List.nodup_cons.2 ⟨fun h => (HMem.out.2.2.2 s h).2 HL2.out.1, HMem.out.2.2.1⟩, fun t ht => ?_, HK4.out⟩
          · rw [List.mem_cons, HMem.out.1]
            constructor
            · rintro (rfl | h | ⟨h1, h2⟩)
              · exact .inr ⟨HL2.out.2.1, fun h => h.2 rfl⟩
              · exact .inl h
              · exact .inr ⟨h1, fun h => h2 h.1⟩
            · rintro (h | ⟨h1, h2⟩)
              · exact .inr (.inl h)
              · by_cases e : t = s
                · exact .inl e
                · exact .inr (.inr ⟨h1, fun h => h2 ⟨h, e⟩⟩)
          · rcases List.mem_cons.1 ht with rfl | h
            · exact ⟨HL2.out.2.1, fun h => h.2 rfl⟩
            · exact ⟨(HMem.out.2.2.2 t h).1, fun h2 => (HMem.out.2.2.2 t h).2 h2.1⟩
        case measure => rw [HLt4.out, HLt3.out]; exact HL2.out.2.2
end Go.Proofs.Ytdmcakoaakinnaa
