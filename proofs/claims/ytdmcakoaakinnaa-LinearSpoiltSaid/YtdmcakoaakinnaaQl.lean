/-
  linear.ends: its closure 'from', by induction; the whole.
-/
import Derived.Test.YtdmcakoaakinnaaQi
import Derived.Test.YtdmcakoaakinnaaQj
import Derived.Test.YtdmcakoaakinnaaQk
import Derived.WalkMore
namespace Go.Proofs.Ytdmcakoaakinnaa
open Go.RowKit
attribute [local go_sem] Oper.semAt_some
set_option linter.unusedVariables false
set_option linter.unusedSimpArgs false

def closF (bs bl bf bo : Nat) : Value := .func (.func 45) #[] #[.pointer (some ⟨bs, 0, none⟩), .pointer (some ⟨bl, 0, none⟩), .pointer (some ⟨bf, 0, none⟩), .pointer (some ⟨bo, 0, none⟩)]
/-- where 'from' stands: the cells that it sees, what was seen, what was put in -/
structure EnvF (W0 w : World) (bs bl bf bo ms mo : Nat) (a : Option Addr) (cap : Nat) (l : List Dn) (V O : List St) : Prop where
  b : Below W0.heap.size W0 w
  s : Blk w bs #[.map (some ms)] 72
  l : Blk w bl #[.slice a l.length cap] 44
  f : Blk w bf #[closF bs bl bf bo] 90
  o : Blk w bo #[.map (some mo)] 72
  vs : SetM w ms V
  os : SetM w mo O
  gs : W0.heap.size ≤ ms
  go : W0.heap.size ≤ mo
  ne : ms ≠ mo
theorem SetM.notBlk {w : World} {b g : Nat} {V : List St} {C : Array Value} {t : TypeId} (h : SetM w b V) (hb : Blk w g C t) : b ≠ g := fun e => by
  obtain ⟨D, ⟨es, clock, hm, _⟩, _⟩ := h
  unfold Blk at hb
  rw [e, hb] at hm
  cases hm
section
variable {W0 w w' : World} {bs bl bf bo ms mo : Nat} {a : Option Addr} {cap : Nat} {l : List Dn} {V O : List St}
theorem EnvF.below (h : EnvF W0 w bs bl bf bo ms mo a cap l V O) (hB : Below w.heap.size w w') : EnvF W0 w' bs bl bf bo ms mo a cap l V O := by
  have hk := Keeps.of_below' hB
  exact ⟨h.b.trans (hB.mono h.b.size), h.s.kept hk (fun h => h), h.l.kept hk (fun h => h), h.f.kept hk (fun h => h), h.o.kept hk (fun h => h), h.vs.keeps hk (fun h => h), h.os.keeps hk (fun h => h), h.gs, h.go, h.ne⟩
theorem EnvF.putS (h : EnvF W0 w bs bl bf bo ms mo a cap l V O) {V' : List St} (hs : SetM w' ms V') (hg : w.grownBy w' (some ms)) : EnvF W0 w' bs bl bf bo ms mo a cap l V' O := by
  have hk : Keeps (fun k => k = ms) w w' := (Keeps.refl _ w).grown hg (fun k hk => by cases hk; exact .inl rfl)
  exact ⟨below_keeps h.b (Nat.le_refl _) hk (fun i hi => by rw [hi]; exact h.gs), h.s.kept hk (fun e => h.vs.notBlk h.s e.symm), h.l.kept hk (fun e => h.vs.notBlk h.l e.symm), h.f.kept hk (fun e => h.vs.notBlk h.f e.symm), h.o.kept hk (fun e => h.vs.notBlk h.o e.symm), hs, h.os.keeps hk (fun e => h.ne e.symm), h.gs, h.go, h.ne⟩
theorem EnvF.putO (h : EnvF W0 w bs bl bf bo ms mo a cap l V O) {O' : List St} (hs : SetM w' mo O') (hg : w.grownBy w' (some mo)) : EnvF W0 w' bs bl bf bo ms mo a cap l V O' := by
  have hk : Keeps (fun k => k = mo) w w' := (Keeps.refl _ w).grown hg (fun k hk => by cases hk; exact .inl rfl)
  exact ⟨below_keeps h.b (Nat.le_refl _) hk (fun i hi => by rw [hi]; exact h.go), h.s.kept hk (fun e => h.os.notBlk h.s e.symm), h.l.kept hk (fun e => h.os.notBlk h.l e.symm), h.f.kept hk (fun e => h.os.notBlk h.f e.symm), h.o.kept hk (fun e => h.os.notBlk h.o e.symm), h.vs.keeps hk (fun e => h.ne e), hs, h.gs, h.go, h.ne⟩
end
/-- what is in them comes from where it began; each once -/
structure GoodF (l : List Dn) (s0 : St) (V O : List St) : Prop where
  vn : V.Nodup
  on : O.Nodup
  v : ∀ t ∈ V, Reach l s0 t
  o : ∀ t ∈ O, ∃ u, Reach l s0 u ∧ t = ensS u
theorem GoodF.vl {l : List Dn} {s0 : St} {V O R : List St} (h : GoodF l s0 V O) (hR : ∀ t, Reach l s0 t → t ∈ R) : V.length ≤ R.length := h.vn.length_le_of_subset (fun t ht => hR t (h.v t ht))
theorem GoodF.ol {l : List Dn} {s0 : St} {V O R : List St} (h : GoodF l s0 V O) (hR : ∀ t, Reach l s0 t → t ∈ R) : O.length ≤ R.length := by
  have := h.on.length_le_of_subset (l₂ := R.map ensS) (fun t ht => by
    obtain ⟨u, hu, rfl⟩ := h.o t ht
    exact List.mem_map.2 ⟨u, hR u hu, rfl⟩)
  rwa [List.length_map] at this
def FromQ (W0 : World) (bs bl bf bo ms mo : Nat) (a : Option Addr) (cap : Nat) (l : List Dn) (s0 s : St) (V O : List St) (w : World) (e : Ending) (w' : World) : Prop :=
  e = .returned (.tuple #[]) ∧ ∃ V' O', EnvF W0 w' bs bl bf bo ms mo a cap l V' O' ∧ DfsP l s V O V' O' ∧ GoodF l s0 V' O' ∧ Keeps (fun k => k = ms ∨ k = mo) w w'
theorem bit_and (m k : Nat) (hm : m < 18446744073709551616) : bits BinOp.and IntKind.u64 ((m : Int) / 2 ^ k) 1 = if m.testBit k = true then 1 else 0 := by
  have e : (m : Int) / 2 ^ k = ((m / 2 ^ k : Nat) : Int) := by simp
  have h := u64_and_nat (m / 2 ^ k) 1 (Nat.lt_of_le_of_lt (Nat.div_le_self _ _) hm) (by decide)
  rw [e, show (1 : Int) = ((1 : Nat) : Int) from rfl, h, Nat.and_one_is_mod, Nat.testBit_eq_decide_div_mod_eq]
  have := Nat.mod_two_eq_zero_or_one (m / 2 ^ k)
  rcases this with h1 | h1 <;> simp [h1]
set_option maxRecDepth 100000 in
set_option maxHeartbeats 8000000 in
theorem from_v (W0 : World) (bs bl bf bo ms mo : Nat) (a : Option Addr) (cap : Nat) (l : List Dn) (hl : l.length ≤ 60) (hv : ∀ d ∈ l, DnV d) (hE : DnsAt W0 a l) (s0 : St) (hs0 : StOk s0) (R : List St) (hR : ∀ t, Reach l s0 t → t ∈ R) (hRl : R.length < maxLen) :
    ∀ (m : Nat) (s : St) (V O : List St) (w : World), 18446744073709551616 - s.dn ≤ m → EnvF W0 w bs bl bf bo ms mo a cap l V O → Reach l s0 s → DfsH l s V O → GoodF l s0 V O →
      Calls Try.prog 45 #[.agg (stCells s), .pointer (some ⟨bs, 0, none⟩), .pointer (some ⟨bl, 0, none⟩), .pointer (some ⟨bf, 0, none⟩), .pointer (some ⟨bo, 0, none⟩)] w (FromQ W0 bs bl bf bo ms mo a cap l s0 s V O w) := by
  intro m
  induction m with
  | zero =>
    intro s V O w hm _ hr _ _
    have := (hr.ok (by omega) hv hs0.1 hs0.2).1
    omega
  | succ m ih =>
    intro s V O w hm henv hr hH hG
    have hsok : StOk s := hr.ok (by omega) hv hs0.1 hs0.2
    have HIh := Lib.hid ih
    have HEnv := Lib.hid henv
    have HRe := Lib.hid hr
    have HH := Lib.hid hH
    have HG := Lib.hid hG
    have HOk := Lib.hid hsok
    have HM := Lib.hid hm
    have HSt := Lib.hid (And.intro hv (And.intro hE (And.intro hR hRl)))
    have HL := Lib.hid hl
    clear ih henv hr hH hG hsok hm hv hE hR hRl hs0
    go_enter Try.func45, Try.ntmps45
    go_upto_region 1 with (fail)
    have hB1 : Below w.heap.size w (w.alloc (.cells (stCells s) 71)) := (Below.refl _ w).alloc (Nat.le_refl _) _
    have hb1 := Blk.new w (stCells s) 71
    generalize w.alloc (.cells (stCells s) 71) = W1 at hB1 hb1 ⊢
    generalize w.heap.size = nb at hb1 ⊢
    have HEnv1 := Lib.hid (HEnv.out.below hB1)
    have HK1 := Lib.hid (Keeps.of_below' hB1)
    have HBs := Lib.hid hb1
    have c1 : W1.cell? ⟨bs, 0, none⟩ = some (.map (some ms)) := by rw [HEnv1.out.s.cell]; rfl
    clear hB1 hb1
    go_step3
    go_upto_region 1 with (fail)
    go_step
    refine wpList_plain rfl (fun K hK => ?_)
    go_simp
    refine hK _ _ ?_
    clear hK K
    refine wpList_load_stW rfl (.tmp 5) rfl nb 0 s (ev_tmp (by simp)) HBs.out.cellsAt ?_
    by_cases hmem : s ∈ V
    · refine wpList_look_st rfl (.tmp 13) (.tmp 14) rfl ms V s true (ev_tmp (by simp [Act.put])) (ev_tmp (by simp [Act.put])) HEnv1.out.vs HOk.out ⟨fun _ => hmem, fun _ => rfl⟩ ?_
      have HMem := Lib.hid hmem
      clear hmem c1
      go_wp2_with (fail)
      rw [Exit.noGoto_ret]
      refine bodyPost_ret (results_none rfl _ _ _) rfl ?_
      exact ⟨rfl, V, O, HEnv1.out, .seen HMem.out, HG.out, (HK1.out.mono (fun _ _ h => h.elim))⟩
    · refine wpList_look_st rfl (.tmp 13) (.tmp 14) rfl ms V s false (ev_tmp (by simp [Act.put])) (ev_tmp (by simp [Act.put])) HEnv1.out.vs HOk.out ⟨fun h => absurd h (by simp), fun h => absurd h hmem⟩ ?_
      have HMem := Lib.hid hmem
      clear hmem
      go_upto_region 2 with (fail)
      go_step
      refine wpList_plain rfl (fun K hK => ?_)
      go_simp
      refine hK _ _ ?_
      clear hK K
      refine wpList_load_stW rfl (.tmp 5) rfl nb 0 s (ev_tmp (by simp)) HBs.out.cellsAt ?_
      refine wpList_put_st rfl (.tmp 16) (.tmp 17) (.const (.bool true)) rfl ms V s (ev_tmp (by simp [Act.put])) (ev_tmp (by simp [Act.put])) rfl HEnv1.out.vs HOk.out (by have := HG.out.vl HSt.out.2.2.1; have := HSt.out.2.2.2; omega) ?_
      intro w2 hs2 hg2
      have hk2 : Keeps (fun k => k = ms ∨ k = mo) W1 w2 := (Keeps.refl _ W1).grown hg2 (fun k hk => by cases hk; exact .inl (.inl rfl))
      have hnm : ¬ (nb = ms ∨ nb = mo) := fun e => by
        rcases e with e | e
        · exact HEnv1.out.vs.notBlk HBs.out e.symm
        · exact HEnv1.out.os.notBlk HBs.out e.symm
      have HEnv2 := Lib.hid (HEnv1.out.putS hs2 hg2)
      have HBs2 := Lib.hid (HBs.out.kept hk2 hnm)
      have HK2 := Lib.hid ((HK1.out.mono (fun _ _ h => h.elim) : Keeps (fun k => k = ms ∨ k = mo) w W1).trans hk2)
      have HNm := Lib.hid hnm
      have HG2 := Lib.hid (show GoodF l s0 (s :: V) O from ⟨List.nodup_cons.2 ⟨HMem.out, HG.out.vn⟩, HG.out.on, fun t ht => by
        rcases List.mem_cons.1 ht with rfl | h
        · exact HRe.out
        · exact HG.out.v t h, HG.out.o⟩)
      have c2 : w2.cell? ⟨bl, 0, none⟩ = some (.slice a l.length cap) := by rw [HEnv2.out.l.cell]; rfl
      clear hs2 hg2 hk2 hnm c1
      go_wp2_with (fail)
      go_step3
      go_wp2_with (fail)
      clear c2
      go_loopw [6, 20] (fun wo iv wr => ∃ (k : Nat) (wh : Bool) (V' O' : List St), k ≤ l.length ∧ iv = .int .i64 k ∧ wo = .bool wh ∧ EnvF W0 wr bs bl bf bo ms mo a cap l V' O' ∧ GoodF l s0 V' O' ∧ DfsI l s V O V' O' k wh ∧ Keeps (fun k => k = ms ∨ k = mo) w2 wr) (fun _ iv _ => l.length - (intOf iv).toNat)
      case atStart => exact ⟨0, true, s :: V, O, Nat.zero_le _, rfl, rfl, HEnv2.out, HG2.out, .start, Keeps.refl _ _⟩
      case round =>
        obtain ⟨k, wh, V', O', hk, rfl, rfl, henv, hgd, hdf, hkp⟩ := hrel
        have HEr := Lib.hid henv
        have HGr := Lib.hid hgd
        have HDr := Lib.hid hdf
        have HKr := Lib.hid hkp
        have HBr := Lib.hid (HBs2.out.kept hkp HNm.out)
        clear henv hgd hdf hkp
        by_cases hlt : k < l.length
        · obtain ⟨g, o, hca, hg, hc⟩ := (HSt.out.2.1.below HEr.out.b).at_ hlt
          obtain ⟨d, hd⟩ : ∃ x, l.getD k dnZ = x := ⟨_, rfl⟩
          rw [hd] at hc
          have HCl := Lib.hid hc
          have HLt := Lib.hid hlt
          have HD := Lib.hid hd
          have hkb : (k : Int) < (l.length : Int) := by omega
          have hk6 : (k : Int) < 60 := by have := HL.out; omega
          clear hc hd hlt hk
          subst hca
          go_upto_region 7 with (first
            | (with_reducible refine wpList_idx_dn ?h1 ?h2 (.tmp 18) (.tmp 20) 23 ?hd ?ho1 ?ho2 g o l.length cap k d ?hx ?hy ?hk ?hs ?hc ?_; (case h1 => rfl); (case h2 => rfl); (case hd => rfl); (case ho1 => rfl); (case ho2 => rfl); (case hx => exact ev_tmp (by simp [Act.put])); (case hy => exact ev_tmp (by simp [Act.put])); (case hk => exact HLt.out); (case hs => simp [Act.put]); (case hc => exact HCl.out))
            | (with_reducible refine wpList_anewA_dn ?a1 ?a2 ?a3 8 7 (.tmp 24) (.tmp 22) ?ad ?ad3 ?ao1 ?ao3 ?ao2 d (.int .i64 k) ?az ?ay ?asz ?ars ?_; (case a1 => rfl); (case a2 => rfl); (case a3 => rfl); (case ad => rfl); (case ad3 => rfl); (case ao1 => rfl); (case ao2 => rfl); (case ao3 => rfl); (case az => exact ev_tmp (by simp [Act.put])); (case ay => exact ev_tmp (by simp [Act.put])); (case asz => simp [Act.put]); (case ars => decide)))
          have hd3 := Blk.new wr (dnCells d) 53
          have hB3 : Below wr.heap.size wr (wr.alloc (.cells (dnCells d) 53)) := (Below.refl _ wr).alloc (Nat.le_refl _) _
          generalize wr.alloc (.cells (dnCells d) 53) = W3 at hd3 hB3 ⊢
          generalize wr.heap.size = nd at hd3 ⊢
          have HE3 := Lib.hid (HEr.out.below hB3)
          have HK3 := Lib.hid (HKr.out.trans ((Keeps.of_below' hB3).mono (fun _ _ h => h.elim)))
          have HB3 := Lib.hid (HBr.out.kept (Keeps.of_below' hB3) (fun h => h))
          have HD3 := Lib.hid hd3
          have c0 : W3.cell? ⟨nb, 0, none⟩ = some (.int .u64 (s.dn : Int)) := by rw [HB3.out.cell]; rfl
          clear hd3 hB3
          have hba := bit_and s.dn k HOk.out.1
          cases hbt : s.dn.testBit k with
          | true =>
            rw [hbt, if_pos rfl] at hba
            have HBt := Lib.hid hbt
            clear hbt
            go_wp2_with (fail)
            go_roundw
            case rel => exact ⟨k + 1, wh, V', O', HLt.out, by go_num, rfl, HE3.out, HGr.out, HDr.out.done HBt.out, HK3.out⟩
            case measure => have := HLt.out; simp [intOf]; omega
          | false =>
            rw [hbt, if_neg (by simp)] at hba
            have HBt := Lib.hid hbt
            have c7 : W3.cell? ⟨nd, 7, none⟩ = some (.int .i64 d.en) := by rw [HD3.out.cell]; rfl
            have c2 : W3.cell? ⟨bl, 0, none⟩ = some (.slice (some ⟨g, o, none⟩) l.length cap) := by rw [HE3.out.l.cell]; rfl
            clear hbt
            obtain ⟨wn, hwn⟩ : ∃ wn, (wh && decide (d.en < 0)) = wn := ⟨_, rfl⟩
            have HWn := Lib.hid hwn
            go_upto_region 8 with (fail)
            clear hba
            have c5 : (wh = true → decide (d.en < 0) = wn) ∧ (wh = false → false = wn) := by
              rw [← hwn]; cases wh <;> simp
            clear hwn
            have HC5 := Lib.hid c5
            clear c5
            have HSk := Lib.hid (fun hn => (HDr.out.skip HBt.out hn : DfsI l s V O V' O' (k + 1) _))
            rw [HD.out, HWn.out] at HSk
            have HNx := Lib.hid (fun (n : St) (V2 O2 : List St) hs hd => (HDr.out.next (n := n) (V2 := V2) (O2 := O2) hs hd : DfsI l s V O V2 O2 (k + 1) _))
            rw [HD.out, HWn.out] at HNx
            go_cut [6] (fun s6 wx => s6 = .bool wn ∧ wx = W3)
            case first =>
              cases wh with
              | true =>
                have q := HC5.out.1 rfl
                go_wp2_with (fail)
                go_meet
                exact ⟨rfl, rfl⟩
              | false =>
                obtain rfl : wn = false := (HC5.out.2 rfl).symm
                go_wp2_with (fail)
                go_meet
                exact ⟨rfl, rfl⟩
            case rest =>
              obtain ⟨rfl, rfl⟩ := hcut
              clear c7 c0
              go_upto_region 10 with (fail)
              go_wp2_with (fail)
              clear c2
              go_loopw [39] (fun jv wr2 => ∃ j : Nat, j ≤ l.length ∧ jv = .int .i64 j ∧ Hid (∀ i, i < j → s.dn.testBit i = false → aheadP (l.getD i dnZ) d = false) ∧ Below wc.heap.size wc wr2) (fun jv _ => l.length - (intOf jv).toNat)
              case atStart => exact ⟨0, Nat.zero_le _, rfl, Lib.hid (fun i hi => by omega), Below.refl _ _⟩
              case round =>
                obtain ⟨j, hj, rfl, hA, hBj⟩ := hrel
                have HEj := Lib.hid (HE3.out.below hBj)
                have HKj := Lib.hid (HK3.out.trans ((Keeps.of_below' hBj).mono (fun _ _ h => h.elim)))
                have HBj := Lib.hid (HB3.out.kept (Keeps.of_below' hBj) (fun h => h))
                have HDj := Lib.hid (HD3.out.kept (Keeps.of_below' hBj) (fun h => h))
                have HBe := Lib.hid hBj
                by_cases hjl : j < l.length
                · obtain ⟨g2, o2, hca2, hg2, hc2⟩ := (HSt.out.2.1.below HEj.out.b).at_ hjl
                  obtain ⟨d2, hd2⟩ : ∃ x, l.getD j dnZ = x := ⟨_, rfl⟩
                  cases hca2
                  rw [hd2] at hc2
                  have HCl2 := Lib.hid hc2
                  have HLt2 := Lib.hid hjl
                  have HD2 := Lib.hid hd2
                  have hjb : (j : Int) < (l.length : Int) := by omega
                  have hj6 : (j : Int) < 60 := by have := HL.out; omega
                  clear hc2 hd2 hjl hj hBj
                  go_upto_region 12 with (first
                    | (with_reducible refine wpList_idx_dn ?h1 ?h2 (.tmp 37) (.tmp 39) 42 ?hd ?ho1 ?ho2 g o l.length cap j d2 ?hx ?hy ?hk ?hs ?hc ?_; (case h1 => rfl); (case h2 => rfl); (case hd => rfl); (case ho1 => rfl); (case ho2 => rfl); (case hx => exact ev_tmp (by simp [Act.put])); (case hy => exact ev_tmp (by simp [Act.put])); (case hk => exact HLt2.out); (case hs => simp [Act.put]); (case hc => exact HCl2.out))
                    | (with_reducible refine wpList_anewA_dn ?a1 ?a2 ?a3 10 9 (.tmp 43) (.tmp 41) ?ad ?ad3 ?ao1 ?ao3 ?ao2 d2 (.int .i64 j) ?az ?ay ?asz ?ars ?_; (case a1 => rfl); (case a2 => rfl); (case a3 => rfl); (case ad => rfl); (case ad3 => rfl); (case ao1 => rfl); (case ao2 => rfl); (case ao3 => rfl); (case az => exact ev_tmp (by simp [Act.put])); (case ay => exact ev_tmp (by simp [Act.put])); (case asz => simp [Act.put]); (case ars => decide)))
                  have hd5 := Blk.new wr (dnCells d2) 53
                  have hB5 : Below wr.heap.size wr (wr.alloc (.cells (dnCells d2) 53)) := (Below.refl _ wr).alloc (Nat.le_refl _) _
                  generalize wr.alloc (.cells (dnCells d2) 53) = W5 at hd5 hB5 ⊢
                  generalize wr.heap.size = ne at hd5 ⊢
                  have HE5 := Lib.hid (HEj.out.below hB5)
                  have HK5 := Lib.hid (HKj.out.trans ((Keeps.of_below' hB5).mono (fun _ _ h => h.elim)))
                  have HB5 := Lib.hid (HBj.out.kept (Keeps.of_below' hB5) (fun h => h))
                  have HD5 := Lib.hid (HDj.out.kept (Keeps.of_below' hB5) (fun h => h))
                  have HO5 := Lib.hid hd5
                  have HBf := Lib.hid (HBe.out.trans (hB5.mono HBe.out.size))
                  have c0 : W5.cell? ⟨nb, 0, none⟩ = some (.int .u64 (s.dn : Int)) := by rw [HB5.out.cell]; rfl
                  have hba := bit_and s.dn j HOk.out.1
                  clear hd5 hB5
                  cases hbj : s.dn.testBit j with
                  | true =>
                    rw [hbj, if_pos rfl] at hba
                    have HBj2 := Lib.hid hbj
                    clear hbj
                    go_wp2_with (fail)
                    go_roundw
                    case rel => exact ⟨j + 1, HLt2.out, by go_num, Lib.hid (fun i hi hu => by
                      by_cases e : i = j
                      · subst e; rw [HBj2.out] at hu; cases hu
                      · exact hA.out i (by omega) hu), HBf.out⟩
                    case measure => have := HLt2.out; simp [intOf]; omega
                  | false =>
                    rw [hbj, if_neg (by simp)] at hba
                    have HBj2 := Lib.hid hbj
                    clear hbj
                    go_step
                    refine wpList_plain rfl (fun K hK => ?_)
                    go_simp
                    refine hK _ _ ?_
                    clear hK K
                    refine wpList_plain rfl (fun K hK => ?_)
                    go_simp
                    refine hK _ _ ?_
                    clear hK K
                    refine wpList_plain rfl (fun K hK => ?_)
                    go_simp
                    refine hK _ _ ?_
                    clear hK K
                    refine wpList_plain rfl (fun K hK => ?_)
                    go_simp
                    refine hK _ _ ?_
                    clear hK K
                    refine wpList_plain rfl (fun K hK => ?_)
                    go_simp
                    refine hK _ _ ?_
                    clear hK K
                    refine wpList_plain rfl (fun K hK => ?_)
                    go_simp
                    refine hK _ _ ?_
                    clear hK K
                    refine wpList_plain rfl (fun K hK => ?_)
                    go_simp
                    refine hK _ _ ?_
                    clear hK K
                    refine wpList_load_dn rfl (.tmp 10) rfl ne 0 d2 (ev_tmp (by simp)) HO5.out.cellsAt ?_
                    refine wpList_load_dn rfl (.tmp 8) rfl nd 0 d (ev_tmp (by simp [Act.put])) HD5.out.cellsAt ?_
                    clear c0 hba
                    go_wp2_with (fail)
                    refine (ahead_v d2 d W5).mono ?_
                    rintro e W6 ⟨rfl, hB6⟩
                    have HE6 := Lib.hid (HE5.out.below hB6)
                    have HK6 := Lib.hid (HK5.out.trans ((Keeps.of_below' hB6).mono (fun _ _ h => h.elim)))
                    have HBf6 := Lib.hid (HBf.out.trans (hB6.mono HBf.out.size))
                    clear hB6
                    cases hah : aheadP d2 d with
                    | true =>
                      have HAh := Lib.hid hah
                      clear hah
                      go_wp2_with (fail)
                      go_roundw
                      case rel => exact ⟨k + 1, wn, V', O', HLt.out, by go_num, rfl, HE6.out, HGr.out, HSk.out (fun t ht => by
                        have := ht.fr j HLt2.out HBj2.out
                        rw [HD2.out, HD.out, HAh.out] at this
                        cases this), HK6.out⟩
                      case measure => have := HLt.out; simp [intOf]; omega
                    | false =>
                      have HAh := Lib.hid hah
                      clear hah
                      go_wp2_with (fail)
                      go_roundw
                      case rel => exact ⟨j + 1, HLt2.out, by go_num, Lib.hid (fun i hi hu => by
                        by_cases e : i = j
                        · subst e; rw [HD2.out]; exact HAh.out
                        · exact hA.out i (by omega) hu), HBf6.out⟩
                      case measure => have := HLt2.out; simp [intOf]; omega
                · obtain rfl : j = l.length := by omega
                  have HAl := Lib.hid hA.out
                  clear hA hjl hj hBj
                  go_upto_region 14 with (fail)
                  go_step
                  refine wpList_load_stW rfl (.tmp 5) rfl nb 0 s (ev_tmp (by simp)) HBj.out.cellsAt ?_
                  refine wpList_plain rfl (fun K hK => ?_)
                  go_simp
                  refine hK _ _ ?_
                  clear hK K
                  refine wpList_load_dn rfl (.tmp 8) rfl nd 0 d (ev_tmp (by simp [Act.put])) HDj.out.cellsAt ?_
                  go_wp2_with (fail)
                  refine (after_v s k d wr (by have := HL.out; have := HLt.out; omega) HOk.out.1).mono ?_
                  rintro e W7 ⟨rfl, hB7⟩
                  have HE7 := Lib.hid (HEj.out.below hB7)
                  have HK7 := Lib.hid (HKj.out.trans ((Keeps.of_below' hB7).mono (fun _ _ h => h.elim)))
                  obtain ⟨n, hn⟩ : ∃ n, afterS s k d = n := ⟨_, rfl⟩
                  obtain ⟨rb, hrb⟩ : ∃ rb, rightS s d = rb := ⟨_, rfl⟩
                  rw [hn, hrb]
                  have HNe := Lib.hid (And.intro hn hrb)
                  clear hB7 hn hrb
                  go_simp
                  go_step
                  refine wpList_plain rfl (fun K hK => ?_)
                  go_simp
                  refine hK _ _ ?_
                  clear hK K
                  refine wpList_plain rfl (fun K hK => ?_)
                  go_simp
                  refine hK _ _ ?_
                  clear hK K
                  refine wpList_plain rfl (fun K hK => ?_)
                  go_simp
                  refine hK _ _ ?_
                  clear hK K
                  refine wpList_anew_st rfl rfl 11 (.tmp 61) rfl rfl rfl n (ev_tmp (by simp [Act.put])) (by simp) ?_
                  go_upto_region 15 with (fail)
                  have hn8 := Blk.new W7 (stCells n) 71
                  have hB8 : Below W7.heap.size W7 (W7.alloc (.cells (stCells n) 71)) := (Below.refl _ W7).alloc (Nat.le_refl _) _
                  generalize W7.alloc (.cells (stCells n) 71) = W8 at hn8 hB8 ⊢
                  generalize W7.heap.size = nn at hn8 ⊢
                  have HE8 := Lib.hid (HE7.out.below hB8)
                  have HK8 := Lib.hid (HK7.out.trans ((Keeps.of_below' hB8).mono (fun _ _ h => h.elim)))
                  have HN8 := Lib.hid hn8
                  clear hn8 hB8
                  cases rb with
                  | false =>
                    go_wp2_with (fail)
                    go_roundw
                    case rel => exact ⟨k + 1, wn, V', O', HLt.out, by go_num, rfl, HE8.out, HGr.out, HSk.out (fun t ht => by
                      have := ht.ok
                      rw [HD.out, HNe.out.2] at this
                      cases this), HK8.out⟩
                    case measure => have := HLt.out; simp [intOf]; omega
                  | true =>
                    have HStep := Lib.hid (show StepA l s k n from ⟨HLt.out, HBt.out, fun i hi hu => by rw [HD.out]; exact HAl.out i hi hu, by rw [HD.out]; exact HNe.out.2, by rw [HD.out]; exact HNe.out.1.symm⟩)
                    have c4 : W8.cell? ⟨bf, 0, none⟩ = some (.func (.func 45) #[] #[.pointer (some ⟨bs, 0, none⟩), .pointer (some ⟨bl, 0, none⟩), .pointer (some ⟨bf, 0, none⟩), .pointer (some ⟨bo, 0, none⟩)]) := by rw [HE8.out.f.cell]; rfl
                    go_upto_region 16 with (fail)
                    go_step
                    refine wpList_plain rfl (fun K hK => ?_)
                    go_simp
                    refine hK _ _ ?_
                    clear hK K
                    refine wpList_load_stW rfl (.tmp 11) rfl nn 0 n (ev_tmp (by simp)) HN8.out.cellsAt ?_
                    clear c4
                    go_wp2_with (fail)
                    refine (HIh.out n V' O' W8 (by have := HStep.out.gt; have := HM.out; have := HOk.out.1; omega) HE8.out (HRe.out.trans (.step HStep.out (.refl _))) (HDr.out.ask HH.out HStep.out) HGr.out).mono ?_
                    rintro e W9 ⟨rfl, V2, O2, henv, hdfs, hgood, hkeep⟩
                    have HE9 := Lib.hid henv
                    have HD9 := Lib.hid (HNx.out n V2 O2 HStep.out hdfs)
                    have HG9 := Lib.hid hgood
                    have HK9 := Lib.hid (HK8.out.trans hkeep)
                    clear henv hdfs hgood hkeep
                    go_wp2_with (fail)
                    go_roundw
                    case rel => exact ⟨k + 1, wn, V2, O2, HLt.out, by go_num, rfl, HE9.out, HG9.out, HD9.out, HK9.out⟩
                    case measure => have := HLt.out; simp [intOf]; omega
        · obtain rfl : k = l.length := by omega
          have HKw := Lib.hid (HK2.out.trans HKr.out)
          clear hlt hk
          cases wh with
          | true =>
            have c4 : wr.cell? ⟨bo, 0, none⟩ = some (.map (some mo)) := by rw [HEr.out.o.cell]; rfl
            have c5 : wr.cell? ⟨nb, 1, none⟩ = some (.bool s.is) := by rw [HBr.out.cell]; rfl
            have c6 : wr.cell? ⟨nb, 2, none⟩ = some (.string s.v) := by rw [HBr.out.cell]; rfl
            go_upto_region 19 with (fail)
            go_step
            refine wpList_plain rfl (fun K hK => ?_)
            go_simp
            refine hK _ _ ?_
            clear hK K
            refine wpList_plain rfl (fun K hK => ?_)
            go_simp
            refine hK _ _ ?_
            clear hK K
            refine wpList_plain rfl (fun K hK => ?_)
            go_simp
            refine hK _ _ ?_
            clear hK K
            refine wpList_plain rfl (fun K hK => ?_)
            go_simp
            refine hK _ _ ?_
            clear hK K
            refine wpList_plain rfl (fun K hK => ?_)
            go_simp
            refine hK _ _ ?_
            clear hK K
            refine wpList_plain rfl (fun K hK => ?_)
            go_simp
            refine hK _ _ ?_
            clear hK K
            refine wpList_put_st rfl (.tmp 69) (.tmp 74) (.const (.bool true)) rfl mo O' (ensS s) (ev_tmp (by simp)) (ev_tmp (by simp [stCells, ensS])) rfl HEr.out.os ⟨by show 0 < _; omega, HOk.out.2⟩ (by have := HGr.out.ol HSt.out.2.2.1; have := HSt.out.2.2.2; omega) ?_
            intro w3 hs3 hg3
            clear c4 c5 c6
            by_cases hme : ensS s ∈ O'
            · have HS := Lib.hid (hs3.congr (V' := O') (fun t => ⟨fun h => by rcases List.mem_cons.1 h with rfl | h; exact hme; exact h, fun h => List.mem_cons_of_mem _ h⟩))
              have HMe := Lib.hid hme
              have HKf := Lib.hid (HKw.out.trans ((Keeps.refl _ wr).grown hg3 (fun k hk => by cases hk; exact .inl (.inr rfl))))
              have HEf := Lib.hid (HEr.out.putO HS.out hg3)
              clear hs3 hg3 hme
              go_wp2_with (fail)
              try rw [Exit.noGoto_normal]
              refine bodyPost_end (results_none rfl _ _ _) rfl ?_
              exact ⟨rfl, V', O', HEf.out, HDr.out.last HH.out HMem.out (fun t => ⟨fun h => .inl h, fun h => by rcases h with h | ⟨_, rfl⟩; exact h; exact HMe.out⟩), HGr.out, HKf.out⟩
            · have HMe := Lib.hid hme
              have HKf := Lib.hid (HKw.out.trans ((Keeps.refl _ wr).grown hg3 (fun k hk => by cases hk; exact .inl (.inr rfl))))
              have HEf := Lib.hid (HEr.out.putO hs3 hg3)
              clear hs3 hg3 hme
              go_wp2_with (fail)
              try rw [Exit.noGoto_normal]
              refine bodyPost_end (results_none rfl _ _ _) rfl ?_
              exact ⟨rfl, V', ensS s :: O', HEf.out, HDr.out.last HH.out HMem.out (fun t => by rw [List.mem_cons]; exact ⟨fun h => by rcases h with h | h; exact .inr ⟨rfl, h⟩; exact .inl h, fun h => by rcases h with h | ⟨_, h⟩; exact .inr h; exact .inl h⟩),
                ⟨HGr.out.vn, List.nodup_cons.2 ⟨HMe.out, HGr.out.on⟩, HGr.out.v, fun t ht => by
                  rcases List.mem_cons.1 ht with rfl | h
                  · exact ⟨s, HRe.out, rfl⟩
                  · exact HGr.out.o t h⟩, HKf.out⟩
          | false =>
            go_wp2_with (fail)
            try rw [Exit.noGoto_normal]
            refine bodyPost_end (results_none rfl _ _ _) rfl ?_
            exact ⟨rfl, V', O', HEr.out, HDr.out.last HH.out HMem.out (fun t => ⟨fun h => .inl h, fun h => by rcases h with h | ⟨h, _⟩; exact h; cases h⟩), HGr.out, HKw.out⟩
end Go.Proofs.Ytdmcakoaakinnaa
