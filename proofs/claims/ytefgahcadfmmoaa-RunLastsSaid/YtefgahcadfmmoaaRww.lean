/-
  The law RunWhole.
-/
import Derived.Test.YtefgahcadfmmoaaRwh
namespace Go.Proofs.Ytefgahcadfmmoaa
open Go.RowKit
attribute [local go_sem] Oper.semAt_some
set_option linter.unusedVariables false

/-- bytes as a text -/
theorem conv_rowM {w : World} {B : Nat} {v : Value} {M : List UInt8} (h : w.ownsRow B 5 1 v M.length (bvals M)) : (convert 44 9 v).run Try.prog w = .ok (.string ⟨M.toArray⟩) w := by
  obtain ⟨p, n, c, rfl⟩ := own_slice h
  obtain rfl : n = M.length := own_len h
  have hr := Reads.of_own h
  cases p with
  | none =>
    have hM : M = [] := by
      cases M with
      | nil => rfl
      | cons a t => obtain ⟨ad, e, _⟩ := hr.2 (by simp); cases e
    subst hM
    exact run_convert_bytes_nil (P := Try.prog) (w := w) 44 5 Try.underlying44 Try.underlying5 0 c 9 Try.underlying9
  | some a =>
    refine run_convert_bytes_back (P := Try.prog) w 44 9 5 a c M Try.underlying44 Try.underlying5 Try.underlying9 (fun j hj => ?_)
    obtain ⟨ad, e, _, hc⟩ := hr.2 (by omega)
    cases e
    refine hc j _ ?_
    simp [bvals, List.getElem?_eq_getElem hj]
def TrueQ (w : World) (e : Ending) (w' : World) : Prop := e = .returned (.bool true) ∧ Below w.heap.size w w'
def mu (ln k ph : Nat) : Nat := 3 * (ln - k) + (if ph = 1 then 2 else if ph = 2 then 1 else 0)
/-- where the loop over a run's steps stands -/
def WhR (S0 : Nat → Prop) (W : World) (rb mb N : Nat) (l : List (Int × Int)) (c i : Nat) (w : World) : Prop :=
  ∃ (k ph : Nat) (fl fe : Int), OneK S0 W w rb mb N l c k ph false 0 k fl fe ∧ fl ≤ i ∧ fe ≤ i ∧ i + mu l.length k ph ≤ 3 * l.length ∧ k ≤ l.length ∧ ph ≤ 2 ∧ (ph = 0 → k < l.length ∨ l.length = 0)
theorem whr_step {l : List (Int × Int)} {i k ph : Nat} {fl fe : Int} (hfl : fl ≤ i) (hfe : fe ≤ i) (hm : i + mu l.length k ph ≤ 3 * l.length) (hp : ph = 0 → k < l.length ∨ l.length = 0) (hkl : k ≤ l.length) {k' ph' : Nat} {ov' : Bool} {st' fl' fe' : Int} (h : StepT l k ph false k fl fe k' ph' ov' st' fl' fe') :
    st' = k' ∧ k' ≤ l.length ∧ (fl' ≤ ((i + 1 : Nat) : Int) ∧ fe' ≤ ((i + 1 : Nat) : Int)) ∧ ((ov' = false ∧ fl' ≤ ((i + 1 : Nat) : Int) ∧ fe' ≤ ((i + 1 : Nat) : Int) ∧ i + 1 + mu l.length k' ph' ≤ 3 * l.length ∧ ph' ≤ 2 ∧ (ph' = 0 → k' < l.length ∨ l.length = 0)) ∨ (ov' = true ∧ k' = l.length ∧ ph' = 0)) := by
  have hmu : mu l.length k ph = 3 * (l.length - k) + (if ph = 1 then 2 else if ph = 2 then 1 else 0) := rfl
  have hmu' : mu l.length k' ph' = 3 * (l.length - k') + (if ph' = 1 then 2 else if ph' = 2 then 1 else 0) := rfl
  rcases h.inv with ⟨h, _⟩ | ⟨_, rfl, rfl, rfl, rfl, rfl, rfl, rfl, rfl⟩ | ⟨_, rfl, hk, rfl, h4, rfl, rfl, rfl, rfl⟩ | ⟨_, rfl, hk, rfl, rfl, rfl, rfl, rfl, rfl⟩ | ⟨_, rfl, rfl, rfl, h4, rfl, rfl, rfl⟩
  · cases h
  · exact ⟨rfl, hkl, by omega, .inr ⟨rfl, rfl, rfl⟩⟩
  · by_cases hg : gEnd l (k + 1)
    · rw [if_pos hg] at h4
      subst h4
      simp at hmu hmu'
      exact ⟨by omega, by omega, by omega, .inl ⟨rfl, by omega, by omega, by omega, by omega, fun h => by omega⟩⟩
    · rw [if_neg hg] at h4
      subst h4
      have hne : k + 1 ≠ l.length := fun e => hg (.inl e)
      simp at hmu hmu'
      exact ⟨by omega, by omega, by omega, .inl ⟨rfl, by omega, by omega, by omega, by omega, fun _ => .inl (by omega)⟩⟩
  · simp at hmu hmu'
    exact ⟨rfl, hkl, by omega, .inl ⟨rfl, by omega, by omega, by omega, by omega, fun h => by omega⟩⟩
  · simp at hmu hmu'
    by_cases e : k' = l.length
    · rw [decide_eq_true e] at h4
      exact ⟨rfl, hkl, by omega, .inr ⟨h4, e, rfl⟩⟩
    · rw [decide_eq_false e] at h4
      exact ⟨rfl, hkl, by omega, .inl ⟨h4, by omega, by omega, by omega, by omega, fun _ => .inl (by omega)⟩⟩
theorem PutsAt.keptS {T : Nat → Prop} {w w' : World} {a : Option Addr} {l : List (Int × Int)} (h : PutsAt w a l) (hk : Keeps T w w') (hT : ∀ g o, a = some ⟨g, o, none⟩ → ¬ T g) : PutsAt w' a l := fun hp => by
  obtain ⟨g, o, e, hg, he⟩ := h hp
  exact ⟨g, o, e, Nat.lt_of_lt_of_le hg hk.size, he.kept hk hg (hT g o e)⟩
set_option maxRecDepth 100000 in
set_option maxHeartbeats 40000000 in
theorem rwhole_v (n c : Int) (a : Option Addr) (l : List (Int × Int)) (cap : Nat) (w : World) (hr : -9223372036854775808 ≤ n ∧ n ≤ 9223372036854775807) (hc : -9223372036854775808 ≤ c ∧ c ≤ 9223372036854775807) (hll : l.length ≤ 9223372036854775807)
    (hp : PutsAt w a l) (hb : ∀ i, i < l.length → (0 ≤ eK l i ∧ eK l i ≤ 18446744073709551615) ∧ 0 ≤ eP l i ∧ eP l i ≤ 18446744073709551615) :
    Calls Try.prog 6 #[.int .i64 n, .slice a l.length cap, .int .i64 c] w (TrueQ w) := by
  obtain ⟨i0, hi, hz0, hz1, hz2⟩ := info_parts Try.infoPut
  have HM := Lib.hid (memory_v n w hr)
  have HPu := Lib.hid hp
  have HBd := Lib.hid hb
  obtain ⟨ln, hln⟩ : ∃ ln, l.length = ln := ⟨_, rfl⟩
  have HLn := Lib.hid hln
  rw [hln] at hll ⊢
  clear hp hb hln
  go_enter Try.func6, Try.ntmps6
  go_wp2_with (fail)
  refine HM.out.mono ?_
  rintro e w1 (⟨hn, rfl, rfl⟩ | ⟨N, mb, S, h1, h2, hNn, rfl, hm, hS, hB1⟩)
  · have HK := Lib.hid (known_v w)
    have HB0 := Lib.hid (Below.refl w.heap.size w)
    go_wp2_with (fail)
    refine HK.out.mono ?_
    rintro e w9 ⟨rfl, hB9⟩
    have HB9 := Lib.hid (HB0.out.trans (hB9.mono HB0.out.size))
    clear hB9
    go_wp2_with (fail)
    go_ret
    exact ⟨rfl, HB9.out⟩
  · have HMm := Lib.hid hm
    have HS := Lib.hid hS
    have HB1 := Lib.hid hB1
    have HNn := Lib.hid (And.intro hNn (And.intro h1 h2))
    have HK := Lib.hid (known_v w1)
    clear hm hS hB1 hNn h1 h2
    by_cases h60 : 60 < ln
    · have hlb : (60 : Int) < (ln : Int) := by omega
      clear h60
      go_wp2_with (fail)
      refine HK.out.mono ?_
      rintro e w9 ⟨rfl, hB9⟩
      have HB9 := Lib.hid (HB1.out.trans (hB9.mono HB1.out.size))
      clear hB9
      go_wp2_with (fail)
      go_ret
      exact ⟨rfl, HB9.out⟩
    · have hlb : (ln : Int) ≤ 60 := by omega
      by_cases hc0 : c < 0
      · clear h60 hll
        go_wp2_with (fail)
        refine HK.out.mono ?_
        rintro e w9 ⟨rfl, hB9⟩
        have HB9 := Lib.hid (HB1.out.trans (hB9.mono HB1.out.size))
        clear hB9
        go_wp2_with (fail)
        go_ret
        exact ⟨rfl, HB9.out⟩
      · by_cases hc1 : 64 < c
        · clear h60 hll
          go_wp2_with (fail)
          refine HK.out.mono ?_
          rintro e w9 ⟨rfl, hB9⟩
          have HB9 := Lib.hid (HB1.out.trans (hB9.mono HB1.out.size))
          clear hB9
          go_wp2_with (fail)
          go_ret
          exact ⟨rfl, HB9.out⟩
        · obtain ⟨cn, rfl⟩ : ∃ cn : Nat, c = (cn : Int) := ⟨c.toNat, by omega⟩
          have hcb : (cn : Int) ≤ 64 := by omega
          have HLm := Lib.hid (show ln ≤ 60 ∧ cn ≤ 64 from by omega)
          have HWi := Lib.hid (within_v N (by have := HNn.out; omega) a l cap w1 (HPu.out.below HB1.out) (by have := HLn.out; omega) (fun i hi => (HBd.out i hi).1))
          rw [HLn.out] at HWi
          have HNe := Lib.hid (show 64 * n = ((8 * N : Nat) : Int) from by have := HNn.out; omega)
          have HLo := Lib.hid (withinL_ok N (by have := HNn.out; omega) l (fun i hi => ⟨(HBd.out i hi).1.1, (HBd.out i hi).2⟩))
          have hn1 := HNn.out.2.1
          have hn2 := HNn.out.2.2
          clear h60 hc0 hc1 hc hll hr HK
          go_wp2_with (fail)
          rw [HNe.out]
          refine HWi.out.mono ?_
          rintro e w2 ⟨v, rfl, hrow, hB2⟩
          obtain ⟨l1, hl1⟩ : ∃ l1, withinL N l = l1 := ⟨_, rfl⟩
          rw [hl1] at hrow HLo
          have hl1n : l1.length = ln := by rw [← hl1, withinL_len]; exact HLn.out
          have HL1 := Lib.hid hl1n
          obtain ⟨a1, n1, c1, rfl⟩ := own_slice hrow
          obtain rfl : n1 = ln := by have : n1 = l1.length := own_len hrow; omega
          have HRw := Lib.hid hrow
          have HRd := Lib.hid (show Reads w2 w2.heap.size 2 a1 n1 (ecells l1) from by rw [← hl1n]; rw [← hl1n] at hrow; exact Reads.of_own hrow)
          have HB2 := Lib.hid (HB1.out.trans (hB2.mono HB1.out.size))
          have HM2 := Lib.hid (HMm.out.below hB2)
          have HWl := Lib.hid (show w1.heap.size ≤ w2.heap.size from hB2.size)
          clear hrow hB2 hl1 hl1n hn1 hn2
          go_wp2_with (at_builtin; refine wpList_append_any _ rfl _ _ 34 rfl w2.heap.size 25 i0 (.agg #[.int .u64 0, .int .u64 0]) 2 16 Try.underlying34 hi hz0 hz1 hz2 rfl (by decide) (.slice none 0 0) 0 [] rfl (World.ownsRow_nil _ _ _ _) w2.heap.size a1 n1 c1 (ecells l1) rfl HRd.out (ecells_one l1) (by have := HLm.out; unfold maxLen; omega) (by have := HLm.out; omega) (Nat.le_refl _) ?_)
          intro v3 w3 hown3 hg3 _
          have hB3 : Below w2.heap.size w2 w3 := (Below.refl _ w2).grown hg3 (Nat.le_refl _) (fun r e => by cases e)
          have HO3 := Lib.hid hown3
          have HB3 := Lib.hid hB3
          have hown3' : w3.ownsRow 0 25 2 v3 l1.length (ecells l1) := by rw [HL1.out]; exact own_mono hown3 (Nat.zero_le _)
          have HNw := Lib.hid (OneK.new (l := l1) (w1 := w3) (by have := HNn.out; omega) (HM2.out.below hB3) cn (by have := HL1.out; have := HLm.out; omega) hown3')
          obtain ⟨a3, n3, c3, rfl⟩ := own_slice hown3
          obtain rfl : n1 = n3 := (own_len hown3).symm
          clear hown3 hown3' hg3 hB3
          go_wp2_with (fail)
          refine HNw.out.mono ?_
          rintro e w4 ⟨rb, rfl, hrb, hB4, hnew⟩
          have HO4 := Lib.hid (own_keeps HO3.out (Keeps.of_below' hB4) (fun _ _ h => h))
          have HNew := Lib.hid hnew
          have HB4 := Lib.hid hB4
          have HRb := Lib.hid hrb
          clear hnew hB4 hrb
          go_wp2_with (fail)
          go_loopw [10] (fun iv wr => ∃ j : Nat, j ≤ n1 ∧ iv = .int .i64 j ∧ (∃ xs, wr.ownsRow w2.heap.size 25 2 (.slice a3 n1 c3) n1 xs) ∧ Keeps (fun i => (Value.slice a3 n1 c3).ownBlock = some i) w4 wr) (fun iv _ => n1 - (intOf iv).toNat)
          case atStart => exact ⟨0, by omega, rfl, ⟨_, HO4.out⟩, Keeps.refl _ _⟩
          case round =>
            obtain ⟨j, hj, rfl, ⟨xs, hown⟩, hk⟩ := hrel
            by_cases hlt : j < n1
            · obtain ⟨go, cpo, e9, hg0, hgl⟩ := hown.form (by omega)
              cases e9
              have hx2 : 2 * j + 2 ≤ xs.length := by have := hown.1; omega
              obtain ⟨x0, hx0⟩ : ∃ x, xs[j * 2]? = some x := ⟨_, List.getElem?_eq_getElem (by omega)⟩
              obtain ⟨x1, hx1⟩ : ∃ x, xs[j * 2 + 1]? = some x := ⟨_, List.getElem?_eq_getElem (by omega)⟩
              have d0 : wr.cell? ⟨go, j * 2, none⟩ = some x0 := (hown.cellAt _ (by omega)).trans hx0
              have d1 : wr.cell? ⟨go, j * 2 + 1, none⟩ = some x1 := (hown.cellAt _ (by omega)).trans hx1
              have f0 : wr.frozen? ⟨go, j * 2, none⟩ = false := hown.frozenAt _
              have f1 : wr.frozen? ⟨go, j * 2 + 1, none⟩ = false := hown.frozenAt _
              have hjb : (j : Int) < (n1 : Int) := by omega
              have HOw := Lib.hid hown
              have HK := Lib.hid hk
              have HJ := Lib.hid (show j < n1 ∧ n1 ≤ 60 from ⟨hlt, HLm.out.1⟩)
              have hj60 : j < 60 := by have := HLm.out.1; omega
              clear hown hk hx2 hx0 hx1 hlt
              go_wp2_with (fail)
              have hs1 := (HOw.out.stored (j * 2) (.int .u64 0)).1
              have hs2 := (hs1.stored (j * 2 + 1) (.int .u64 0)).1
              refine ⟨⟨j + 1, HJ.out.1, by go_num, ⟨_, hs2⟩, (HK.out.setCell (p := ⟨go, j * 2, none⟩) (.inl rfl) _).setCell (p := ⟨go, j * 2 + 1, none⟩) (.inl rfl) _⟩, ?_⟩
              have := HJ.out; simp [intOf]; omega
            · obtain rfl : j = n1 := by omega
              have hgo : ∀ i, (Value.slice a3 j c3).ownBlock = some i → w2.heap.size ≤ i ∧ i < w3.heap.size := fun i hi => ⟨own_base HO3.out i hi, own_ltS HO3.out hi⟩
              have hSl : ∀ i, S i → i < w1.heap.size := fun i hi => HMm.out.lt hi
              have HOn := Lib.hid (HNew.out _ _ hk (fun i hi => ⟨(hgo i hi).2, fun h => by have := hSl i h; have := (hgo i hi).1; have := HWl.out; omega⟩))
              have hpt2 : PutsAt w2 a1 l1 := fun hp => by
                obtain ⟨g, cap9, e1, _, hg, _, _, hE⟩ := own_ents (by have := HRw.out; unfold RowB at this; exact this) rfl hp
                cases e1
                exact ⟨g, 0, rfl, hg, hE⟩
              have ha1 : ∀ g o, a1 = some ⟨g, o, none⟩ → w1.heap.size ≤ g ∧ g < w2.heap.size := fun g o e => by
                have h := HRw.out
                unfold RowB at h
                subst e
                exact ⟨own_base h g rfl, own_ltS h rfl⟩
              have HB24 := Lib.hid (HB3.out.trans (HB4.out.mono HB3.out.size))
              have HPt := Lib.hid (show PutsAt wr a1 l1 from ((hpt2.keptS (Keeps.of_below' HB24.out) (fun _ _ _ h => h)).keptS hk (fun g o e h => by have := ha1 g o e; have := hgo g h; omega)))
              have HPn := Lib.hid (show ∀ g o, a1 = some ⟨g, o, none⟩ → ¬ (g = rb ∨ S g) from fun g o e h => by
                have h1 := ha1 g o e
                rcases h with h | h
                · have := HRb.out; have := HB3.out.size; omega
                · have := hSl g h; omega)
              have HBr := Lib.hid ((HB2.out.trans (HB24.out.mono HB2.out.size)).keeps (Nat.le_refl _) hk (fun i hi => by have := hgo i hi; have := HB2.out.size; omega))
              have HSb := Lib.hid (show ∀ i, (i = rb ∨ S i) → w.heap.size ≤ i from fun i hi => by
                rcases hi with h | h
                · have := HRb.out; have := HB3.out.size; have := HB2.out.size; omega
                · exact HS.out i h)
              clear hgo hSl hpt2 ha1 hown hk hlt hlb hcb hj
              have hj60 : (j : Int) ≤ 60 := by have := HLm.out; omega
              go_wp2_with (fail)
              obtain ⟨wz, hwz⟩ : ∃ wz, wz = wr := ⟨_, rfl⟩
              rw [← hwz] at HOn HPt HBr ⊢
              clear hwz
              go_loopw [11] (fun iv wr => ∃ i : Nat, iv = .int .i64 i ∧ WhR S wz rb mb N l1 cn i wr) (fun iv _ => 3 * j + 1 - (intOf iv).toNat)
              case atStart => exact ⟨0, rfl, 0, 0, 0, 0, HOn.out, by omega, by omega, by rw [HL1.out]; unfold mu; simp, by omega, by omega, fun _ => by omega⟩
              case round =>
                obtain ⟨i, rfl, k, ph, fl, fe, hO, hfl, hfe, hmu, hkl, hpl, hp0⟩ := hrel
                have hl1 := HL1.out
                have hmu0 : mu l1.length k ph = 3 * (l1.length - k) + (if ph = 1 then 2 else if ph = 2 then 1 else 0) := rfl
                have hi3 : i ≤ 3 * j := by rw [← hl1]; omega
                have hic : (i : Int) ≤ 3 * (j : Int) := by omega
                have HLn1 := Lib.hid (lone_v hO HLo.out HLm.out.2 (by rw [hl1]; omega) (by omega) (by omega) (by omega))
                have HSp := Lib.hid (fun k' ph' ov' st' fl' fe' => whr_step (l := l1) (k' := k') (ph' := ph') (ov' := ov') (st' := st') (fl' := fl') (fe' := fe') hfl hfe hmu hp0 hkl)
                have HI3 := Lib.hid hi3
                clear hO hfl hfe hmu hkl hpl hp0 hl1 hmu0 hi3
                go_wp2_with (fail)
                refine HLn1.out.mono ?_
                rintro e w6 ⟨k', ph', ov', st', fl', fe', rfl, ht, hO⟩
                obtain ⟨rfl, hk', hff, hcase⟩ := HSp.out _ _ _ _ _ _ ht
                have HFf := Lib.hid hff
                clear hff
                have HO6 := Lib.hid hO
                have HLf := Lib.hid (hO.left (by rw [HL1.out]; omega))
                have HSt := Lib.hid (hO.drew.stats.2)
                have HK' := Lib.hid hk'
                have HLj := Lib.hid HL1.out
                have hkj : (k' : Int) ≤ (j : Int) := by rw [HL1.out] at hk'; omega
                have hf1 : ∀ a b c d : Int, ∀ w : World, (Instr.field 37 (.agg #[.int .u64 a, .int .u64 b, .int .u64 c, .int .u64 d]) 1).run Try.prog w = .ok (.int .u64 b) w := fun a b c d _ => by kernel_rfl
                rw [HL1.out] at HLf
                rcases hcase with ⟨rfl, q1, q2, q3, q4, q5⟩ | ⟨rfl, rfl, rfl⟩
                · have HQ := Lib.hid (And.intro q1 (And.intro q2 (And.intro q3 (And.intro q4 q5))))
                  clear ht hO hk' q1 q2 q3 q4 q5
                  go_wp2_with (fail)
                  refine HLf.out.mono ?_
                  rintro e w7 ⟨rfl, rfl⟩
                  go_wp2_with (fail)
                  refine HSt.out.mono ?_
                  rintro e w7 ⟨rfl, hB7⟩
                  unfold statCells
                  have HO7 := Lib.hid (HO6.out.drew.mono hB7)
                  clear hB7
                  go_wp2_with (fail)
                  refine ⟨⟨i + 1, by go_num, _, _, _, _, HO7.out, HQ.out.1, HQ.out.2.1, HQ.out.2.2.1, HK'.out, HQ.out.2.2.2.1, HQ.out.2.2.2.2⟩, ?_⟩
                  have := HI3.out
                  simp [intOf]
                  omega
                · clear ht hO hk' HK'
                  have hkj2 := hkj
                  rw [HL1.out] at hkj2
                  rw [show ((l1.length : Nat) : Int) = (j : Int) from by rw [HLj.out]] at HSt HLf hkj
                  clear hkj hkj2
                  go_wp2_with (fail)
                  refine HLf.out.mono ?_
                  rintro e w7 ⟨rfl, rfl⟩
                  go_wp2_with (fail)
                  refine HSt.out.mono ?_
                  rintro e w7 ⟨rfl, hB7⟩
                  unfold statCells
                  have HO7 := Lib.hid (HO6.out.drew.mono hB7)
                  clear hB7
                  go_wp2_with (fail)
                  have HPt7 := Lib.hid (HPt.out.keptS HO7.out.b (fun g o e => HPn.out g o e))
                  obtain ⟨S7, _, _, hst7⟩ := HO7.out.step HLo.out HLm.out.2 (by rw [HLj.out]; omega) (by rw [HLj.out]; omega) (by have := HI3.out; have := HFf.out; have := HLm.out; omega) (by have := HI3.out; have := HFf.out; have := HLm.out; omega)
                  have HSt7 := Lib.hid (hst7 w7 (Below.refl _ _))
                  clear hst7
                  refine HSt7.out.mono ?_
                  rintro e w8 ⟨⟨k8, ph8, ov8, st8, fl8, fe8, rfl, ht8, hO8⟩, hk8⟩
                  have hin := ht8.inv
                  simp at hin
                  obtain ⟨rfl, rfl, rfl, rfl, rfl, rfl⟩ := hin
                  have HO8 := Lib.hid hO8
                  have HPt8 := Lib.hid (HPt.out.keptS hO8.b (fun g o e => HPn.out g o e))
                  have HIm := Lib.hid (rimage_v N l1.length (by have := HNn.out; omega) a1 l1 c1 w8 HPt8.out (by rw [HLj.out]; have := HLm.out; omega) (fun i hi => (HLo.out i hi).2) (Nat.le_refl _))
                  rw [HLj.out] at HIm
                  have hn1 := HNn.out.2.1
                  have hn2 := HNn.out.2.2
                  clear ht8 hO8 hk8
                  go_wp2_with (fail)
                  rw [HNe.out]
                  refine HIm.out.mono ?_
                  rintro e w9 ⟨v9, rfl, hby, hB9⟩
                  have hO9 := HO8.out.mono hB9
                  have HO9 := Lib.hid hO9
                  have hcv := conv_rowM hby
                  have HLf9 := Lib.hid (hO9.left (by rw [HLj.out]; omega))
                  rw [HLj.out] at HLf9
                  clear hby hB9 hO9 hn1 hn2
                  obtain ⟨Bt, hBt⟩ : ∃ Bt : ByteArray, (⟨(bytesW (vsOf N l1 j)).toArray⟩ : ByteArray) = Bt := ⟨_, rfl⟩
                  have HBt := Lib.hid hBt
                  rw [hBt] at hcv
                  clear hBt
                  go_wp2_with (fail)
                  refine HLf9.out.mono ?_
                  rintro e w' ⟨rfl, rfl⟩
                  obtain ⟨SM, MM, hmm, hvs, his, hFn⟩ := HO9.out.drew.all HLo.out
                  have huu : U64s (vsOf N l1 j) := by have := vsOf_u64 HLo.out l1.length (Nat.le_refl _); rwa [HLj.out] at this
                  rw [HLj.out] at hvs his
                  have HMm9 := Lib.hid hmm
                  have HIm9 := Lib.hid (image_m hmm (by rw [his]; exact huu))
                  have HVw9 := Lib.hid (fun W (hB : Below w9.drew.heap.size w9.drew W) => view_m (hmm.below hB) (by rw [hvs]; exact huu))
                  have HLn9 := Lib.hid (fun W (hB : Below w9.drew.heap.size w9.drew W) => lines_m (hmm.below hB))
                  have HVs := Lib.hid (And.intro hvs his)
                  have HFn := Lib.hid hFn
                  have HBr9 := Lib.hid (HBr.out.keeps (Nat.le_refl _) HO9.out.drew.b (fun i hi => HSb.out i hi))
                  clear hmm hvs his hFn huu hcv
                  go_wp2_with (fail)
                  refine HIm9.out.mono ?_
                  rintro e w10 ⟨v10, rfl, ho10, hB10⟩
                  have hcv := conv_rowM ho10
                  rw [HVs.out.2, HBt.out] at hcv
                  have HB10 := Lib.hid hB10
                  clear ho10 hB10
                  go_wp2_with (fail)
                  refine (HVw9.out _ HB10.out).mono ?_
                  rintro e w11 ⟨v11, rfl, ho11, hB11⟩
                  have hcv2 := conv_rowM ho11
                  rw [HVs.out.1, HBt.out] at hcv2
                  have HB11 := Lib.hid (HB10.out.trans (hB11.mono HB10.out.size))
                  clear ho11 hB11 hcv
                  go_wp2_with (fail)
                  refine (HLn9.out _ HB11.out).mono ?_
                  rintro e w12 ⟨u, xs, rfl, hks, hown, hB12⟩
                  obtain rfl := hks.nil HFn.out
                  obtain ⟨aa, nn, cp, rfl⟩ := own_slice hown
                  have hn0 : nn = (srt []).length := own_len hown
                  rw [srt_len] at hn0
                  obtain rfl : nn = 0 := hn0
                  have HB12 := Lib.hid (HBr9.out.trans ((HB11.out.trans (hB12.mono HB11.out.size)).mono HBr9.out.size))
                  have HK := Lib.hid (known_v w12)
                  clear hown hB12 hks hcv2
                  go_wp2_with (fail)
                  refine HK.out.mono ?_
                  rintro e w9 ⟨rfl, hB9⟩
                  have HB9 := Lib.hid (HB12.out.trans (hB9.mono HB12.out.size))
                  clear hB9
                  go_wp2_with (fail)
                  go_ret
                  exact ⟨rfl, HB9.out⟩
end Go.Proofs.Ytefgahcadfmmoaa
