/-
  linear.Key: contract.
-/
import Derived.Test.YtdmcakoaakinnaaQo
import Derived.Test.YtdmcakoaakinnaaQe
namespace Go.Proofs.Ytdmcakoaakinnaa
open Go.RowKit Go.Maps
attribute [local go_sem] Oper.semAt_some
set_option linter.unusedVariables false
set_option linter.unusedSimpArgs false

def startS (p : ByteArray × Bool) : St := ⟨0, p.2, p.1⟩
/-- the values that a key may have behind an era, from some on -/
def stepE (key : Int) (S : St → Prop) (e : Er) : St → Prop := fun t => ∃ s, S s ∧ EndsP (ofP key e.cs) s t ∧ (e.kn = true → t = startS (valueP e.af key))
def nowP (key : Int) (l : List Er) (S : St → Prop) : St → Prop := l.foldl (stepE key) S
def longP (key : Int) (e : Er) : Bool := decide (60 < (ofP key e.cs).length) || crowdP (ofP key e.cs)
def keyE (key : Int) (first : List Pr) (l : List Er) : Int := if mayP first l = false then 2 else if l.any (longP key) = true then 10 else 0
def KeyT (key : Int) (first : List Pr) (l : List Er) : Prop := ∃ t, nowP key l (fun s => s = startS (valueP first key)) t
def KeyQ (key : Int) (first : List Pr) (l : List Er) (w : World) (e : Ending) (w' : World) : Prop :=
  ∃ b, e = .returned (.tuple #[.bool b, .int .i64 (keyE key first l)]) ∧ (b = true ↔ keyE key first l = 0 ∧ KeyT key first l) ∧ Below w.heap.size w w'
/-- what bounds the search -/
structure KeyB (key : Int) (first : List Pr) (l : List Er) (U : List St) : Prop where
  u : U.length ≤ 1099511627776
  i : startS (valueP first key) ∈ U
  ok : ∀ s ∈ U, StOk s
  r : ∀ e ∈ l, (ofP key e.cs).length ≤ 60 → ∀ s ∈ U, ∃ R : List St, (∀ t, Reach (ofP key e.cs) s t → t ∈ R) ∧ R.length ≤ 1099511627776
  e : ∀ e ∈ l, (ofP key e.cs).length ≤ 60 → ∀ s ∈ U, ∀ t, EndsP (ofP key e.cs) s t → t ∈ U
theorem ofP_dnv {key : Int} {cs : List Dn} (h : ∀ d ∈ cs, DnV d) : ∀ x ∈ ofP key cs, DnV x := fun x hx => by
  obtain ⟨d, hd, rfl | rfl⟩ := ofP_mem hx
  · show 0 ≤ _; omega
  · exact h _ hd
theorem nodup_of (V : List St) : ∃ V' : List St, V'.Nodup ∧ ∀ s, s ∈ V' ↔ s ∈ V := by
  induction V with
  | nil => exact ⟨[], List.nodup_nil, fun s => Iff.rfl⟩
  | cons x r ih =>
    obtain ⟨V', h1, h2⟩ := ih
    by_cases hx : x ∈ r
    · exact ⟨V', h1, fun s => by rw [h2, List.mem_cons]; exact ⟨fun h => .inr h, fun h => by rcases h with rfl | h; exact hx; exact h⟩⟩
    · exact ⟨x :: V', List.nodup_cons.2 ⟨fun h => hx ((h2 x).1 h), h1⟩, fun s => by rw [List.mem_cons, List.mem_cons, h2]⟩
def CpG (nx : Nat) (N' : List St) (cs : List Dn) (s : St) (w19 W : World) : Prop :=
  ∃ V' O : List St, SetM W nx V' ∧ (∀ t, t ∈ V' ↔ t ∈ N' ∨ t ∈ O) ∧ (∀ t, t ∈ O ↔ EndsP cs s t) ∧ Keeps (fun k => k = nx) w19 W
theorem nowP_take (key : Int) (l : List Er) (S : St → Prop) (k : Nat) (h : k < l.length) : nowP key (l.take (k + 1)) S = stepE key (nowP key (l.take k) S) (l.getD k erZ) := by
  unfold nowP
  rw [List.take_add_one, List.getElem?_eq_getElem h, List.foldl_append, getD_eq l k erZ h]; rfl
theorem wpList_ins_st {ops : Array Oper} {rest : List Oper} {o : Oper} {a : Act} {w : World} {Q : Exit → Act → World → Prop} (hg : o.guard = none) (m x v : Operand) (ho : o.op = .insert 72 m x v) (b : Nat) (V : List St) (s : St)
    (hm : a.eval m = .map (some b)) (hx : a.eval x = .agg (stCells s)) (hv : a.eval v = .bool true) (h : SetM w b V) (hs : StOk s) (hn : V.length < maxLen)
    (hK : ∀ w', SetM w' b (s :: V) → w.grownBy w' (some b) → wpList Try.prog ops Q rest (a.put o.dst undef) w') : wpList Try.prog ops Q (o :: rest) a w := by
  refine wpList_plain hg fun K' hK' => ?_
  obtain ⟨w', hrun, r1, r2⟩ := h.put hs hn
  unfold Oper.wp
  simp [execOp, ho, hm, hx, hv, hrun, Result.andThen]
  exact hK' _ _ (hK w' r1 r2)
theorem SetM.len {w : World} {b : Nat} {V : List St} (h : SetM w b V) : ∃ n : Nat, (∀ ty, (Builtin.len_ #[72] ty #[.map (some b)]).run Try.prog w = .ok (.int .i64 n) w) ∧ (0 < n ↔ ∃ s, s ∈ V) := by
  obtain ⟨D, h1, h2, h3⟩ := h
  refine ⟨Maps.size D, fun ty => h1.len Try.underlying72 ty, ?_⟩
  obtain ⟨es, rfl, hp, hk⟩ := h1.entries kS
  rw [size_eq]
  constructor
  · intro hn
    cases es with
    | nil => simp at hn
    | cons p r =>
      obtain ⟨s, hs, _⟩ := h2 p.1 (by rw [has_eq, List.any_eq_true]; exact ⟨p, List.mem_cons_self, WideAt.sameKey_self (hk p List.mem_cons_self)⟩)
      exact ⟨s, hs⟩
  · rintro ⟨s, hs⟩
    obtain ⟨l, hl⟩ := KL.of (h3 s hs).1
    have := ((h3 s hs).2 l hl).1
    cases es with
    | nil => simp [Maps.has] at this
    | cons p r => simp
set_option maxRecDepth 100000 in
set_option maxHeartbeats 8000000 in
theorem key_v (key : Int) (first : List Pr) (l : List Er) (a1 a2 : Option Addr) (cap1 cap2 : Nat) (w : World) (U : List St) (hU : KeyB key first l U) (hm1 : first.length ≤ 9223372036854775807) (hm : l.length ≤ 1000000) (hL : ∀ e ∈ l, ErL e) (hcs : ∀ e ∈ l, e.cs.length ≤ 1000000)
    (hdv : ∀ e ∈ l, ∀ d ∈ e.cs, DnV d) (hF : PrsAt w a1 first) (hE : ErsAt w a2 l) :
    Calls Try.prog 9 #[.int .u64 key, .slice a1 first.length cap1, .slice a2 l.length cap2] w (KeyQ key first l w) := by
  have HMay := Lib.hid (may_v first l a1 a2 cap1 cap2 w hm1 (by omega) hL hF hE)
  have HE := Lib.hid hE
  have HL := Lib.hid (And.intro hL (And.intro hcs hdv))
  have HU := Lib.hid hU
  have HVf := Lib.hid (fun W (hW : Below w.heap.size w W) => value_v first key a1 cap1 W hm1 (hF.below hW))
  have HKe := Lib.hid (show keyE key first l = if mayP first l = false then 2 else if l.any (longP key) = true then 10 else 0 from rfl)
  clear hE hL hcs hdv hU hF hm1
  have hmk : ∀ W : World, (Instr.makeMap 72 none).run Try.prog W = .ok (.map (some W.heap.size)) (W.alloc (.map #[] 0)) := fun W => run_makeMap _ W
  go_enter Try.func9, Try.ntmps9
  go_wp2_with (fail)
  refine HMay.out.mono ?_
  rintro e w1 ⟨rfl, hB1⟩
  have HB1 := Lib.hid hB1
  clear hB1
  cases hmy : mayP first l with
  | false =>
    have HK2 := Lib.hid (show keyE key first l = 2 from by rw [HKe.out, if_pos hmy])
    clear hmy
    go_wp2_with (fail)
    go_ret2
    exact ⟨false, by rw [HK2.out]; rfl, ⟨fun h => absurd h (by simp), fun h => by rw [HK2.out] at h; exact absurd h.1 (by decide)⟩, HB1.out⟩
  | true =>
    have HK2 := Lib.hid (show keyE key first l = if l.any (longP key) = true then 10 else 0 from by rw [HKe.out, if_neg (by simp [hmy])])
    clear hmy
    go_wp2_with (fail)
    go_loopw [26] (fun iv wr => ∃ k : Nat, k ≤ l.length ∧ iv = .int .i64 k ∧ Hid ((l.take k).any (longP key) = false) ∧ Below w.heap.size w wr) (fun iv _ => l.length - (intOf iv).toNat)
    case atStart => exact ⟨0, Nat.zero_le _, rfl, Lib.hid rfl, HB1.out⟩
    case round =>
      obtain ⟨k, hk, rfl, hR, hB⟩ := hrel
      have HB := Lib.hid hB
      by_cases hlt : k < l.length
      · obtain ⟨g, o, hca, hg, hc⟩ := (HE.out.below hB).at_ hlt
        obtain ⟨d, hd⟩ : ∃ x, l.getD k erZ = x := ⟨_, rfl⟩
        subst hca
        rw [hd] at hc
        have HCl := Lib.hid hc
        have HLt := Lib.hid hlt
        have HD := Lib.hid hd
        have hmem : d ∈ l := by rw [← hd]; exact getD_memL l k erZ hlt
        have HErL := Lib.hid (And.intro (HL.out.1 d hmem) (And.intro (HL.out.2.1 d hmem) (HE.out.2 d hmem)))
        have HMem := Lib.hid hmem
        have hB3 := hB.alloc hB.size (.cells (erCells d) 46)
        have HB3 := Lib.hid hB3
        have hkb : (k : Int) < (l.length : Int) := by omega
        have hk6 : (k : Int) ≤ 1000000 := by omega
        clear hc hd hmem hB hB3 hlt hk
        go_upto_region 6 with (first
          | (with_reducible refine wpList_idx_er ?h1 ?h2 (.tmp 24) (.tmp 26) 28 ?hd ?ho1 ?ho2 g o l.length cap2 k d ?hx ?hy ?hk ?hs ?hc ?_; (case h1 => rfl); (case h2 => rfl); (case hd => rfl); (case ho1 => rfl); (case ho2 => rfl); (case hx => exact ev_tmp (by simp [Act.put])); (case hy => exact ev_tmp (by simp [Act.put])); (case hk => exact HLt.out); (case hs => simp [Act.put]); (case hc => exact HCl.out))
          | (with_reducible refine wpList_anew_er ?a1 ?a2 9 (.tmp 29) ?ad ?ao1 ?ao2 d ?ay ?az ?_; (case a1 => rfl); (case a2 => rfl); (case ad => rfl); (case ao1 => rfl); (case ao2 => rfl); (case ay => exact ev_tmp (by simp [Act.put])); (case az => simp [Act.put])))
        have hb := Blk.new wr (erCells d) 46
        generalize wr.alloc (.cells (erCells d) 46) = W1 at HB3 hb ⊢
        generalize wr.heap.size = nb at hb ⊢
        have HBk := Lib.hid hb
        clear hb
        go_step
        refine wpList_plain rfl (fun K hK => ?_)
        go_simp
        refine hK _ _ ?_
        clear hK K
        refine wpList_load_er rfl (.tmp 9) rfl nb 0 d (ev_tmp (by simp)) HBk.out.cellsAt ?_
        go_wp2_with (fail)
        refine (of_v key d W1 HErL.out.1 HErL.out.2.1 (HErL.out.2.2.1.below HB3.out)).mono ?_
        rintro e W2 ⟨v, rfl, ho, hb2⟩
        have HB4 := Lib.hid (HB3.out.trans (hb2.mono HB3.out.size))
        obtain ⟨aa, cc, rfl, hdn, _⟩ := own_dnsAt ho (ofP_prs (HErL.out.2.2.1.below HB4.out))
        have HLo := Lib.hid (show (ofP key d.cs).length ≤ 1000000 from Nat.le_trans (ofP_len key d.cs) HErL.out.2.1)
        have HCr := Lib.hid (crowded_v (ofP key d.cs) aa cc W2 HLo.out hdn)
        have HLg := Lib.hid (show longP key d = (decide (60 < (ofP key d.cs).length) || crowdP (ofP key d.cs)) from rfl)
        obtain ⟨n, hn⟩ : ∃ n, (ofP key d.cs).length = n := ⟨_, rfl⟩
        rw [hn] at HCr HLg HLo ⊢
        clear ho hb2 hdn hn
        by_cases h60 : 60 < n
        · have e60 : decide ((60 : Int) < (n : Int)) = true := decide_eq_true (by omega)
          have HLd := Lib.hid (show longP key d = true from by rw [HLg.out, decide_eq_true h60, Bool.true_or])
          clear h60
          have HK3 := Lib.hid (show keyE key first l = 10 from by
            rw [HK2.out, if_pos]
            rw [List.any_eq_true]
            exact ⟨d, HMem.out, HLd.out⟩)
          go_wp2_with (fail)
          go_ret2
          exact ⟨false, by rw [HK3.out]; rfl, ⟨fun h => absurd h (by simp), fun h => by rw [HK3.out] at h; exact absurd h.1 (by decide)⟩, HB4.out⟩
        · have e60 : decide ((60 : Int) < (n : Int)) = false := decide_eq_false (by omega)
          have HN60 := Lib.hid h60
          clear h60
          go_wp2_with (fail)
          refine HCr.out.mono ?_
          rintro e W3 ⟨rfl, hb3⟩
          have HB5 := Lib.hid (HB4.out.trans (hb3.mono HB4.out.size))
          clear hb3
          cases hcr : crowdP (ofP key d.cs) with
          | true =>
            have HLd := Lib.hid (show longP key d = true from by rw [HLg.out, hcr, Bool.or_true])
            clear hcr
            have HK3 := Lib.hid (show keyE key first l = 10 from by
              rw [HK2.out, if_pos]
              rw [List.any_eq_true]
              exact ⟨d, HMem.out, HLd.out⟩)
            go_wp2_with (fail)
            go_ret2
            exact ⟨false, by rw [HK3.out]; rfl, ⟨fun h => absurd h (by simp), fun h => by rw [HK3.out] at h; exact absurd h.1 (by decide)⟩, HB5.out⟩
          | false =>
            have HLd := Lib.hid (show longP key d = false from by rw [HLg.out, hcr, decide_eq_false HN60.out]; rfl)
            clear hcr
            go_wp2_with (fail)
            go_roundw
            case rel => exact ⟨k + 1, HLt.out, by go_num, Lib.hid (by
              have hk1 := HLt.out
              rw [List.take_add_one, List.any_append, hR.out, List.getElem?_eq_getElem hk1, ← getD_eq l k erZ hk1, HD.out]
              simp [HLd.out]), HB5.out⟩
            case measure => have := HLt.out; simp [intOf]; omega
      · have hall : l.any (longP key) = false := by have := hR.out; rwa [List.take_of_length_le (by omega)] at this
        have HK0 := Lib.hid (show keyE key first l = 0 from by rw [HK2.out, if_neg (by simp [hall])])
        have HNl := Lib.hid (show ∀ e ∈ l, (ofP key e.cs).length ≤ 60 ∧ crowdP (ofP key e.cs) = false from fun e he => by
          have h1 := List.any_eq_false.1 hall e he
          unfold longP at h1
          simp at h1
          exact ⟨by omega, h1.2⟩)
        have hkb : ¬ ((k : Int) < (l.length : Int)) := by omega
        clear hB hall hlt hk
        go_wp2_with (fail)
        clear hkb
        refine (HVf.out wr HB.out).mono ?_
        rintro e W2 ⟨rfl, hb2⟩
        have HB2 := Lib.hid (HB.out.trans (hb2.mono HB.out.size))
        clear hb2
        obtain ⟨vv, hvv⟩ : ∃ vv, (valueP first key).1 = vv := ⟨_, rfl⟩
        obtain ⟨vb, hvb⟩ : ∃ vb, (valueP first key).2 = vb := ⟨_, rfl⟩
        rw [hvv, hvb]
        have HS0 := Lib.hid (show startS (valueP first key) = ⟨0, vb, vv⟩ from by unfold startS; rw [hvv, hvb])
        clear hvv hvb
        go_upto_region 11 with (fail)
        go_step
        refine wpList_plain rfl (fun K hK => ?_)
        go_simp
        refine hK _ _ ?_
        clear hK K
        refine wpList_plain rfl (fun K hK => ?_)
        go_simp
        refine hK _ _ ?_
        clear hK K
        refine wpList_plain rfl (fun K hK => ?_)
        go_simp
        refine hK _ _ ?_
        clear hK K
        refine wpList_plain rfl (fun K hK => ?_)
        go_simp
        refine hK _ _ ?_
        clear hK K
        refine wpList_ins_st rfl (.tmp 47) (.tmp 50) (.const (.bool true)) rfl W2.heap.size [] ⟨0, vb, vv⟩ (ev_tmp (by simp)) (ev_tmp (by simp [stCells])) rfl (SetM.new W2) (by rw [← HS0.out]; exact HU.out.ok _ HU.out.i) (by unfold maxLen; decide) ?_
        intro w3 hs3 hg3
        have hk3 : Keeps (fun k => W2.heap.size ≤ k) W2 w3 := ((Keeps.refl _ W2).alloc _).grown hg3 (fun k e => by cases e; exact .inl (Nat.le_refl _))
        have HB3 := Lib.hid (below_keeps HB2.out (Nat.le_refl _) hk3 (fun i hi => Nat.le_trans HB2.out.size hi))
        have HSt0 := Lib.hid (show SetM w3 W2.heap.size [startS (valueP first key)] from by rw [HS0.out]; exact hs3)
        have HGe := Lib.hid (show w.heap.size ≤ W2.heap.size from HB2.out.size)
        obtain ⟨nb0, hnb0⟩ : ∃ nb0, W2.heap.size = nb0 := ⟨_, rfl⟩
        rw [hnb0] at HSt0 HGe ⊢
        clear hs3 hg3 hk3 hnb0
        simp [Act.put]
        go_wp2_with (fail)
        go_loopw [13, 54] (fun nv iv wr => ∃ (k nb : Nat) (Nw : List St), k ≤ l.length ∧ iv = .int .i64 k ∧ nv = .map (some nb) ∧ SetM wr nb Nw ∧ Nw.Nodup ∧ (∀ s, s ∈ Nw ↔ nowP key (l.take k) (fun s => s = startS (valueP first key)) s) ∧ (∀ s ∈ Nw, s ∈ U) ∧ w.heap.size ≤ nb ∧ Below w.heap.size w wr) (fun _ iv _ => l.length - (intOf iv).toNat)
        case atStart => exact ⟨0, nb0, [startS (valueP first key)], Nat.zero_le _, rfl, rfl, HSt0.out, List.nodup_cons.2 ⟨List.not_mem_nil, List.nodup_nil⟩, fun s => List.mem_singleton, fun s hs => by rw [List.mem_singleton.1 hs]; exact HU.out.i, HGe.out, HB3.out⟩
        case round =>
          obtain ⟨k, nb, Nw, hk, rfl, rfl, hsn, hnd, hnm, hnu, hge, hB⟩ := hrel
          have HB := Lib.hid hB
          have HSn := Lib.hid hsn
          have HNw := Lib.hid (And.intro hnd (And.intro hnm (And.intro hnu hge)))
          clear hsn hnd hnm hnu hge
          by_cases hlt : k < l.length
          · obtain ⟨g, o, hca, hg, hc⟩ := (HE.out.below hB).at_ hlt
            obtain ⟨d, hd⟩ : ∃ x, l.getD k erZ = x := ⟨_, rfl⟩
            subst hca
            rw [hd] at hc
            have HCl := Lib.hid hc
            have HLt := Lib.hid hlt
            have HD := Lib.hid hd
            have hmem : d ∈ l := by rw [← hd]; exact getD_memL l k erZ hlt
            have HErL := Lib.hid (And.intro (HL.out.1 d hmem) (And.intro (HL.out.2.1 d hmem) (And.intro (HE.out.2 d hmem) (HL.out.2.2 d hmem))))
            have HMem := Lib.hid hmem
            have hkb : (k : Int) < (l.length : Int) := by omega
            have hk6 : (k : Int) ≤ 1000000 := by omega
            clear hc hd hmem hB hlt hk
            go_upto_region 14 with (fail)
            go_step
            refine wpList_idx_er rfl rfl (.tmp 52) (.tmp 54) 56 rfl rfl rfl g o l.length cap2 k d (ev_tmp (by simp)) (ev_tmp (by simp)) HLt.out (by simp) HCl.out ?_
            refine wpList_anew_er rfl rfl 15 (.tmp 57) rfl rfl rfl d (ev_tmp (by simp [Act.put])) (by simp [Act.put]) ?_
            go_upto_region 15 with (fail)
            have hb := Blk.new wr (erCells d) 46
            have hB4 := HB.out.alloc HB.out.size (.cells (erCells d) 46)
            have hs4 := HSn.out.keeps ((Keeps.refl (fun _ => False) wr).alloc (.cells (erCells d) 46)) (fun h => h)
            generalize wr.alloc (.cells (erCells d) 46) = W4 at hb hB4 hs4 ⊢
            generalize wr.heap.size = nd at hb ⊢
            have HBd := Lib.hid hb
            have HB4 := Lib.hid hB4
            have HS4 := Lib.hid hs4
            clear hb hB4 hs4
            go_upto_region 16 with (fail)
            have hx5 := SetM.new W4
            have hB5 := HB4.out.alloc HB4.out.size (.map #[] 0)
            have hk5 : Keeps (fun _ => False) W4 (W4.alloc (.map #[] 0)) := (Keeps.refl _ W4).alloc _
            have hd5 := HBd.out.kept hk5 (fun h => h)
            have hs5 := HS4.out.keeps hk5 (fun h => h)
            have hnx : nb < W4.heap.size := HS4.out.lt
            have hnd5 : nd < W4.heap.size := HBd.out.lt
            have hge5 : w.heap.size ≤ W4.heap.size := HB4.out.size
            have hsz5 : (W4.alloc (.map #[] 0)).heap.size = W4.heap.size + 1 := by simp
            generalize W4.alloc (.map #[] 0) = W5 at hx5 hB5 hd5 hs5 hsz5 ⊢
            generalize W4.heap.size = nx at hx5 hnx hnd5 hge5 hsz5 ⊢
            go_step
            refine wpList_plain rfl (fun K hK => ?_)
            go_simp
            refine hK _ _ ?_
            clear hK K
            refine wpList_range_st rfl (.tmp 59) rfl nb Nw (ev_tmp (by simp)) hs5 ?_
            intro w6 hrg6 hg6 hsz6
            have hk6' : Keeps (fun _ => False) W5 w6 := (Keeps.refl _ W5).grown hg6 (fun k e => by cases e)
            have HB6 := Lib.hid (below_keeps hB5 (Nat.le_refl _) hk6' (fun i hi => hi.elim))
            have HX6 := Lib.hid (hx5.keeps hk6' (fun h => h))
            have HD6 := Lib.hid (hd5.kept hk6' (fun h => h))
            have HRg6 := Lib.hid hrg6
            obtain ⟨ri, hri⟩ : ∃ ri, W5.heap.size = ri := ⟨_, rfl⟩
            rw [hri] at HRg6 ⊢
            have HNs := Lib.hid (show nb < nx ∧ nd < nx ∧ w.heap.size ≤ nx ∧ nx < ri ∧ ri < w6.heap.size from ⟨hnx, hnd5, hge5, by omega, by omega⟩)
            clear hk5 hd5 hs5 hx5 hB5 hnx hnd5 hge5 hsz5 hrg6 hg6 hsz6 hk6' hri
            go_wp2_with (fail)
            go_frame
            go_loopw [17] (fun _ wr => ∃ (L : St → Prop) (N' : List St), RngS wr nb ri Nw L ∧ SetM wr nx N' ∧ N'.Nodup ∧ (∀ t, t ∈ N' ↔ ∃ s, s ∈ Nw ∧ ¬ L s ∧ EndsP (ofP key d.cs) s t) ∧ (∀ t ∈ N', t ∈ U) ∧ Keeps (fun k => k = nx ∨ k = ri) w6 wr) (fun _ wr => wr.rangeLeft nb ri)
            case atStart => exact ⟨_, [], HRg6.out, HX6.out, List.nodup_nil, fun t => ⟨fun h => absurd h List.not_mem_nil, fun ⟨s, h1, h2, _⟩ => absurd h1 h2⟩, fun t h => absurd h List.not_mem_nil, Keeps.refl _ _⟩
            case round =>
              obtain ⟨L, N', hrg, hsx, hnx', hmx, hux, hkp⟩ := hrel
              have HRg := Lib.hid hrg
              have HSx := Lib.hid hsx
              have HNx' := Lib.hid (And.intro hnx' (And.intro hmx hux))
              have HKp := Lib.hid hkp
              have HBr := Lib.hid (below_keeps HB6.out (Nat.le_refl _) hkp (fun i hi => by have := HNs.out; omega))
              have HDr := Lib.hid (HD6.out.kept hkp (fun e => by have := HNs.out; omega))
              clear hrg hsx hnx' hmx hux hkp
              go_upto_region 17 with (fail)
              go_step
              refine wpList_next_st rfl (.tmp 60) rfl nb ri Nw L (ev_tmp (by simp)) HRg.out ?_ ?_
              · intro hdone
                have HDn := Lib.hid hdone
                have c2 : wr.cell? ⟨nd, 2, none⟩ = some (.bool d.kn) := by rw [HDr.out.cell]; rfl
                clear hdone
                simp [Act.put]
                go_upto_region 20 with (fail)
                cases hkn : d.kn with
                | false =>
                  rw [hkn] at c2
                  have HNo := Lib.hid (show ∀ t, t ∈ N' ↔ nowP key (l.take (k + 1)) (fun s => s = startS (valueP first key)) t from fun t => by
                    rw [nowP_take key l _ k HLt.out, HD.out, HNx'.out.2.1]
                    unfold stepE
                    constructor
                    · rintro ⟨s, h1, h2, h3⟩
                      exact ⟨s, (HNw.out.2.1 s).1 h1, h3, fun h => by rw [hkn] at h; cases h⟩
                    · rintro ⟨s, h1, h3, _⟩
                      exact ⟨s, (HNw.out.2.1 s).2 h1, HDn.out s, h3⟩)
                  clear hkn
                  go_wp2_with (fail)
                  go_roundw
                  case rel => exact ⟨k + 1, nx, N', HLt.out, by go_num, rfl, HSx.out, HNx'.out.1, HNo.out, HNx'.out.2.2, HNs.out.2.2.1, HBr.out⟩
                  case measure => have := HLt.out; simp [intOf]; omega
                | true =>
                  rw [hkn] at c2
                  have HKn := Lib.hid hkn
                  have c1 : wr.cell? ⟨nd, 1, none⟩ = some (.slice d.aa d.af.length d.ac) := by rw [HDr.out.cell]; rfl
                  have HVa := Lib.hid (value_v d.af key d.aa d.ac wr HErL.out.1.2.1 (HErL.out.2.2.1.2.below HBr.out))
                  clear hkn
                  go_wp2_with (fail)
                  clear c1 c2
                  refine HVa.out.mono ?_
                  rintro e w8 ⟨rfl, hb8⟩
                  obtain ⟨va, hva⟩ : ∃ va, (valueP d.af key).1 = va := ⟨_, rfl⟩
                  obtain ⟨vc, hvc⟩ : ∃ vc, (valueP d.af key).2 = vc := ⟨_, rfl⟩
                  rw [hva, hvc]
                  have HSa := Lib.hid (show startS (valueP d.af key) = ⟨0, vc, va⟩ from by unfold startS; rw [hva, hvc])
                  have HS8 := Lib.hid (HSx.out.keeps (Keeps.of_below' hb8) (fun h => h))
                  have HB8 := Lib.hid (HBr.out.trans (hb8.mono HBr.out.size))
                  clear hb8 hva hvc
                  go_upto_region 22 with (fail)
                  have hbv : Blk ((w8.alloc (.cells #[.string va] 9)).alloc (.cells #[.bool vc] 4)) w8.heap.size #[.string va] 9 := (Blk.new w8 _ _).alloc _
                  have hbi : Blk ((w8.alloc (.cells #[.string va] 9)).alloc (.cells #[.bool vc] 4)) (w8.heap.size + 1) #[.bool vc] 4 := Blk.newAt (by simp) _ _
                  have hs9 : SetM ((w8.alloc (.cells #[.string va] 9)).alloc (.cells #[.bool vc] 4)) nx N' := (HS8.out.alloc _).alloc _
                  have hB9 : Below w.heap.size w ((w8.alloc (.cells #[.string va] 9)).alloc (.cells #[.bool vc] 4)) := (HB8.out.alloc HB8.out.size _).alloc (by have := HB8.out.size; simp; omega) _
                  generalize (w8.alloc (.cells #[.string va] 9)).alloc (.cells #[.bool vc] 4) = w9 at hbv hbi hs9 hB9 ⊢
                  generalize w8.heap.size = nv at hbv hbi ⊢
                  have HDl := Lib.hid (del_v nx N' vc va (nv + 1) nv w9 hs9 hbi hbv)
                  have HB9 := Lib.hid hB9
                  clear hbv hbi hs9 hB9
                  go_wp2_with (fail)
                  refine HDl.out.mono ?_
                  rintro e w10 ⟨rfl, V', hs10, hm10, hk10⟩
                  obtain ⟨V2, hn2, hm2⟩ := nodup_of V'
                  have HS10 := Lib.hid (hs10.congr (V' := V2) (fun t => (hm2 t).symm))
                  have HN2 := Lib.hid hn2
                  have HM10 := Lib.hid (show ∀ t, t ∈ V2 ↔ t ∈ N' ∧ t = ⟨0, vc, va⟩ from fun t => (hm2 t).trans (hm10 t))
                  have HB10 := Lib.hid (below_keeps HB9.out (Nat.le_refl _) hk10 (fun i hi => by have := HNs.out; omega))
                  have HNo := Lib.hid (show ∀ t, t ∈ V2 ↔ nowP key (l.take (k + 1)) (fun s => s = startS (valueP first key)) t from fun t => by
                    rw [nowP_take key l _ k HLt.out, HD.out, HM10.out, HNx'.out.2.1, ← HSa.out]
                    unfold stepE
                    constructor
                    · rintro ⟨⟨s, h1, h2, h3⟩, h4⟩
                      exact ⟨s, (HNw.out.2.1 s).1 h1, h3, fun _ => h4⟩
                    · rintro ⟨s, h1, h3, h4⟩
                      exact ⟨⟨s, (HNw.out.2.1 s).2 h1, HDn.out s, h3⟩, h4 HKn.out⟩)
                  clear hs10 hm10 hk10 hn2 hm2
                  go_wp2_with (fail)
                  go_roundw
                  case rel => exact ⟨k + 1, nx, V2, HLt.out, by go_num, rfl, HS10.out, HN2.out, HNo.out, fun t ht => HNx'.out.2.2 t ((HM10.out t).1 ht).1, HNs.out.2.2.1, HB10.out⟩
                  case measure => have := HLt.out; simp [intOf]; omega
              · intro s w7 hLs hsV hrg7 hlt7 hg7 hsz7 hen7
                have hk7 : Keeps (fun k => k = ri) wr w7 := (Keeps.refl _ wr).grown hg7 (fun k e => by cases e; exact .inl rfl)
                have HRg7 := Lib.hid hrg7
                have HL7 := Lib.hid (And.intro hLs (And.intro hsV hlt7))
                have HS7 := Lib.hid (HSx.out.keeps hk7 (fun e => by have := HNs.out; omega))
                have HD7 := Lib.hid (HDr.out.kept hk7 (fun e => by have := HNs.out; omega))
                have HK7 := Lib.hid (HKp.out.trans (hk7.mono (fun _ _ h => .inr h)))
                have HB7 := Lib.hid (below_keeps HBr.out (Nat.le_refl _) hk7 (fun i hi => by have := HNs.out; omega))
                clear hLs hsV hrg7 hlt7 hg7 hsz7 hk7
                go_upto_region 18 with (fail)
                go_step
                refine wpList_plain rfl (fun K hK => ?_)
                go_simp
                refine hK _ _ ?_
                clear hK K
                refine wpList_plain rfl (fun K hK => ?_)
                go_simp
                refine hK _ _ ?_
                clear hK K
                refine wpList_anew_st rfl rfl 17 (.tmp 64) rfl rfl rfl s (ev_tmp (by simp [Act.put])) (by simp) ?_
                clear hen7
                go_upto_region 19 with (fail)
                have hb8 := Blk.new w7 (stCells s) 71
                have hB8 : Below w7.heap.size w7 (w7.alloc (.cells (stCells s) 71)) := (Below.refl _ w7).alloc (Nat.le_refl _) _
                have hsz8 : w7.heap.size < (w7.alloc (.cells (stCells s) 71)).heap.size := by simp
                generalize w7.alloc (.cells (stCells s) 71) = w19 at hb8 hB8 hsz8 ⊢
                generalize w7.heap.size = nq at hb8 hsz8 ⊢
                have hk8 := Keeps.of_below' hB8
                have HBq := Lib.hid hb8
                have HRg8 := Lib.hid (HRg7.out.keeps hk8 (fun h => h) (fun h => h))
                have HSn := Lib.hid (HS7.out.keeps hk8 (fun h => h))
                have HBd := Lib.hid (HD7.out.kept hk8 (fun h => h))
                have HK8 := Lib.hid (HK7.out.trans (hk8.mono (fun _ _ h => h.elim)))
                have HB8 := Lib.hid (HB7.out.trans (hB8.mono HB7.out.size))
                have HLt8 := Lib.hid (rangeLeft_keeps hk8 (fun h => h) (fun h => h) HRg7.out.set.lt HRg7.out.lt)
                have HNx := Lib.hid (show nx < w19.heap.size from Nat.lt_of_lt_of_le HS7.out.lt hB8.size)
                have HErd := Lib.hid (HErL.out.2.2.1.1.below HB8.out)
                have HOf := Lib.hid (fun W (hW : Below w19.heap.size w19 W) => of_v key d W HErL.out.1 HErL.out.2.1 (HErd.out.below hW))
                have HsU := Lib.hid (HNw.out.2.2.1 s HL7.out.2.1)
                have HEn := Lib.hid (show ∀ aa cc W, DnsAt W aa (ofP key d.cs) → Calls Try.prog 22 #[.slice aa (ofP key d.cs).length cc, .agg (stCells s)] W (EndsQ (ofP key d.cs) s W) from fun aa cc W hdn => by
                  obtain ⟨R, hR1, hR2⟩ := HU.out.r d HMem.out (HNl.out d HMem.out).1 s HsU.out
                  exact ends_v (ofP key d.cs) s aa cc W (HNl.out d HMem.out).1 (ofP_dnv HErL.out.2.2.2) hdn (HU.out.ok s HsU.out) R hR1 (by unfold maxLen; omega))
                have HOl := Lib.hid (show ∀ O : List St, O.Nodup → (∀ t, t ∈ O ↔ EndsP (ofP key d.cs) s t) → N'.length + O.length < maxLen from fun O hO ht => by
                  have h1 := HNx'.out.1.length_le_of_subset (l₂ := U) HNx'.out.2.2
                  have h2 := hO.length_le_of_subset (l₂ := U) (fun t h => HU.out.e d HMem.out (HNl.out d HMem.out).1 s HsU.out t ((ht t).1 h))
                  have h3 := HU.out.u
                  unfold maxLen
                  omega)
                clear hb8 hB8 hsz8 hk8
                --GEN r_ky19
                refine wp_region_vals [Is (.map (some nx)), Is (.int .u64 key), Is (.agg (erCells d)), fun v W => W.ownsRow w19.heap.size 53 11 v (ofP key d.cs).length (dcells (ofP key d.cs)), Is (.agg (stCells s)), fun v W => ∃ mo O, v = .map (some mo) ∧ SetM W mo O ∧ w19.heap.size ≤ mo ∧ O.Nodup ∧ ∀ t, t ∈ O ↔ EndsP (ofP key d.cs) s t, Any]
                  (fun _ W W' => Keeps (fun k => k = nx) W W') (fun L W => (L 6 = false → Below w19.heap.size w19 W) ∧ (L 6 = true → CpG nx N' (ofP key d.cs) s w19 W)) (by kernel_rfl) (by kernel_rfl) (by kernel_rfl) ?hst ?h0 ⟨?o0, ?o1, ?o2, ?o3, ?o4, ?o5, ?o6, trivial⟩ ?he
                case hst =>
                  exact ⟨(fun _ _ _ _ _ _ h _ => h), (fun _ _ _ _ _ _ h _ => h), (fun _ _ _ _ _ _ h _ => h), (fun i _ _ v W W' h hR => own_keeps h hR (fun g hg e => by have h1 := own_base h g hg; have h2 := HNx.out; omega)), (fun _ _ _ _ _ _ h _ => h), (fun i _ _ v W W' h hR => by obtain ⟨mo, O, h1, h2, h3, h4⟩ := h; exact ⟨mo, O, h1, h2.keeps hR (fun e => by have h5 := HNx.out; omega), h3, h4⟩), (fun _ _ _ _ _ _ h _ => h), trivial⟩
                case h0 =>
                  exact ⟨fun _ => (Below.refl _ _).drew, fun h => (by cases h)⟩
                case o0 =>
                  intro L vs A W H hf hd K hK
                  have e16 : A.tmps[16]?.getD undef = .map (some nx) := H.old 16 (by kernel_rfl)
                  go_simp
                  exact hK _ _ (Keeps.refl _ _) rfl (H.glob)
                case o1 =>
                  intro L vs A W H hf hd K hK
                  have e0 : A.tmps[0]?.getD undef = .int .u64 key := H.old 0 (by kernel_rfl)
                  go_simp
                  exact hK _ _ (Keeps.refl _ _) rfl (H.glob)
                case o2 =>
                  intro L vs A W H hf hd K hK
                  have e15 : A.tmps[15]?.getD undef = .pointer (some ⟨nd, 0, none⟩) := H.old 15 (by kernel_rfl)
                  have n3 := H.notYet 3 2 rfl hf (by kernel_rfl)
                  have n5 := H.notYet 5 3 rfl n3 (by kernel_rfl)
                  have n6 := H.notYet 6 5 rfl n5 (by kernel_rfl)
                  have hB := H.glob.1 n6
                  rw [if_pos (show Region.wanted _ _ = true from rfl)]
                  refine wp_load_er (.tmp 15) rfl nd 0 d (ev_tmp e15) (HBd.out.kept (Keeps.of_below' hB) (fun h => h)).cellsAt ?_
                  exact hK _ _ (Keeps.refl _ _) rfl H.glob
                case o3 =>
                  intro L vs A W H hf hd K hK
                  have e66 := H.is 1 66 rfl rfl rfl (deps_of' hd 1 (by kernel_rfl)) (by kernel_rfl)
                  have e67 := H.is 2 67 rfl rfl rfl (deps_of' hd 2 (by kernel_rfl)) (by kernel_rfl)
                  have n5 := H.notYet 5 3 rfl hf (by kernel_rfl)
                  have n6 := H.notYet 6 5 rfl n5 (by kernel_rfl)
                  have hB := H.glob.1 n6
                  go_simp
                  refine (HOf.out W hB).mono ?_
                  rintro e W2 ⟨v, rfl, ho, hb⟩
                  go_simp
                  exact hK _ _ ((Keeps.of_below' hb).mono (fun _ _ h => h.elim)) (own_mono ho hB.size) ⟨fun _ => hB.trans (hb.mono hB.size), fun h => absurd (n6.symm.trans h) (by simp)⟩
                case o4 =>
                  intro L vs A W H hf hd K hK
                  have e17 : A.tmps[17]?.getD undef = .pointer (some ⟨nq, 0, none⟩) := H.old 17 (by kernel_rfl)
                  have n5 := H.notYet 5 4 rfl hf (by kernel_rfl)
                  have n6 := H.notYet 6 5 rfl n5 (by kernel_rfl)
                  have hB := H.glob.1 n6
                  rw [if_pos (show Region.wanted _ _ = true from rfl)]
                  refine wp_load_part 71 (.tmp 17) rfl nq 0 (ev_tmp e17) (stCells s) _ (HBq.out.kept (Keeps.of_below' hB) (fun h => h)).cellsAt Try.underlying71 rfl (by kernel_rfl) ?_
                  exact hK _ _ (Keeps.refl _ _) rfl H.glob
                case o5 =>
                  intro L vs A W H hf hd K hK
                  obtain ⟨v68, e68, q68⟩ := H.val 3 68 rfl rfl rfl (deps_of' hd 3 (by kernel_rfl)) (by kernel_rfl)
                  have e69 := H.is 4 69 rfl rfl rfl (deps_of' hd 4 (by kernel_rfl)) (by kernel_rfl)
                  have n6 := H.notYet 6 5 rfl hf (by kernel_rfl)
                  have hB := H.glob.1 n6
                  obtain ⟨aa, cc, rfl, hdn, _⟩ := own_dnsAt q68 (ofP_prs (HErd.out.below hB))
                  go_simp
                  refine (HEn.out aa cc W hdn).mono ?_
                  rintro e W2 ⟨mo, O, rfl, hs, hg, hn, ht, hb⟩
                  go_simp
                  exact hK _ _ ((Keeps.of_below' hb).mono (fun _ _ h => h.elim)) ⟨mo, O, rfl, hs, Nat.le_trans hB.size hg, hn, ht⟩ ⟨fun _ => hB.trans (hb.mono hB.size), fun h => absurd (n6.symm.trans h) (by simp)⟩
                case o6 =>
                  intro L vs A W H hf hd K hK
                  have e65 := H.is 0 65 rfl rfl rfl (deps_of' hd 0 (by kernel_rfl)) (by kernel_rfl)
                  obtain ⟨v70, e70, q70⟩ := H.val 5 70 rfl rfl rfl (deps_of' hd 5 (by kernel_rfl)) (by kernel_rfl)
                  have hB := H.glob.1 hf
                  obtain ⟨mo, O, rfl, hs, hg, hn, ht⟩ := q70
                  go_simp
                  refine (copy_v nx mo N' O W (HSn.out.keeps (Keeps.of_below' hB) (fun h => h)) hs (by have h5 := HNx.out; omega) (HOl.out O hn ht) hn).mono ?_
                  rintro e W2 ⟨rfl, V', hV, hm, hk⟩
                  go_simp
                  exact hK _ _ hk trivial ⟨fun h => (by cases h), fun _ => ⟨V', O, hV, hm, ht, ((Keeps.of_below' hB).mono (fun _ _ h => h.elim)).trans hk⟩⟩
                case he =>
                  intro vs W hlen hv
                  match vs, hlen, hv with
                  | [x0_, x1_, x2_, x3_, x4_, x5_, x6_], _, hv =>
                  obtain rfl : (.map (some nx)) = x0_ := by obtain ⟨z, h1, h2⟩ := hv 0 _ rfl; cases h1; exact h2.symm
                  obtain rfl : (.int .u64 key) = x1_ := by obtain ⟨z, h1, h2⟩ := hv 1 _ rfl; cases h1; exact h2.symm
                  obtain rfl : (.agg (erCells d)) = x2_ := by obtain ⟨z, h1, h2⟩ := hv 2 _ rfl; cases h1; exact h2.symm
                  have hx3 : (fun v W => W.ownsRow w19.heap.size 53 11 v (ofP key d.cs).length (dcells (ofP key d.cs))) x3_ W := by obtain ⟨z, h1, h2⟩ := hv 3 _ rfl; cases h1; exact h2
                  obtain rfl : (.agg (stCells s)) = x4_ := by obtain ⟨z, h1, h2⟩ := hv 4 _ rfl; cases h1; exact h2.symm
                  have hx5 : (fun v W => ∃ mo O, v = .map (some mo) ∧ SetM W mo O ∧ w19.heap.size ≤ mo ∧ O.Nodup ∧ ∀ t, t ∈ O ↔ EndsP (ofP key d.cs) s t) x5_ W := by obtain ⟨z, h1, h2⟩ := hv 5 _ rfl; cases h1; exact h2
                  intro L hall hG
                  clear hv hlen
                  have HG := Lib.hid (hG.2 (hall 6 (by decide)))
                  clear hG hall hx3 hx5
                  simp only [fill, if_true]
                  simp [Act.put]
                --END
                  obtain ⟨V', O, hsv, hmv, hmo, hkv⟩ := HG.out
                  obtain ⟨V2, hn2, hm2⟩ := nodup_of V'
                  have HS9 := Lib.hid (hsv.congr (V' := V2) (fun t => (hm2 t).symm))
                  have HM9 := Lib.hid (And.intro hn2 (And.intro hm2 (And.intro hmv hmo)))
                  have HK9 := Lib.hid (HK8.out.trans (hkv.mono (fun _ _ h => .inl h)))
                  have HRg9 := Lib.hid (HRg8.out.keeps hkv (fun e => by have := HNs.out; omega) (fun e => by have := HNs.out; omega))
                  have HLt9 := Lib.hid (rangeLeft_keeps hkv (fun e => by have := HNs.out; omega) (fun e => by have := HNs.out; omega) HRg8.out.set.lt HRg8.out.lt)
                  clear hsv hmv hmo hkv hn2 hm2 hv
                  go_wp2_with (fail)
                  go_roundw
                  case rel =>
                    refine ⟨_, V2, HRg9.out, HS9.out, HM9.out.1, fun t => ?_, fun t ht => ?_, HK9.out⟩
                    · rw [HM9.out.2.1, HM9.out.2.2.1, HM9.out.2.2.2, HNx'.out.2.1]
                      constructor
                      · rintro (⟨s', h1, h2, h3⟩ | h)
                        · exact ⟨s', h1, fun h => h2 h.1, h3⟩
                        · exact ⟨s, HL7.out.2.1, fun h => h.2 rfl, h⟩
                      · rintro ⟨s', h1, h2, h3⟩
                        by_cases e : s' = s
                        · subst e; exact .inr h3
                        · exact .inl ⟨s', h1, fun h => h2 ⟨h, e⟩, h3⟩
                    · rw [HM9.out.2.1, HM9.out.2.2.1, HM9.out.2.2.2] at ht
                      rcases ht with h | h
                      · exact HNx'.out.2.2 t h
                      · exact HU.out.e d HMem.out (HNl.out d HMem.out).1 s HsU.out t h
                  case measure => rw [HLt9.out, HLt8.out]; exact HL7.out.2.2
          · obtain rfl : k = l.length := by omega
            have HNn := Lib.hid (show (∃ s, s ∈ Nw) ↔ KeyT key first l from by
              unfold KeyT
              constructor
              · rintro ⟨s, hs⟩
                have := (HNw.out.2.1 s).1 hs
                rw [List.take_length] at this
                exact ⟨s, this⟩
              · rintro ⟨s, hs⟩
                exact ⟨s, (HNw.out.2.1 s).2 (by rw [List.take_length]; exact hs)⟩)
            obtain ⟨n, hlen, hpos⟩ := HSn.out.len
            have HPos := Lib.hid hpos
            have HLen := Lib.hid hlen
            have hkb : ¬ ((l.length : Int) < (l.length : Int)) := by omega
            clear hB hlt hk hlen hpos
            have hlen := HLen.out
            go_wp2_with (fail)
            go_ret2
            refine ⟨decide (0 < n), by rw [HK0.out]; rfl, ?_, HB.out⟩
            rw [decide_eq_true_iff, ← HNn.out, ← HPos.out, HK0.out]
            constructor
            · intro h; exact ⟨rfl, h⟩
            · intro h; exact h.2
end Go.Proofs.Ytdmcakoaakinnaa
