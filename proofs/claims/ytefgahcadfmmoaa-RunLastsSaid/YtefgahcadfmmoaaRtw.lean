/-
  The law RunTwo.
-/
import Derived.Test.YtefgahcadfmmoaaRtk
namespace Go.Proofs.Ytefgahcadfmmoaa
open Go.RowKit
attribute [local go_sem] Oper.semAt_some
set_option linter.unusedVariables false

/-- evictions that came in; turns that came in -/
def EarlyAt (w : World) (a : Option Addr) (n : Nat) (f : Nat → Int × Int) : Prop := 0 < n → ∃ g o, a = some ⟨g, o, none⟩ ∧ g < w.heap.size ∧ ∀ i, i < n → w.cell? ⟨g, o + i * 2, none⟩ = some (.int .i64 (f i).1) ∧ w.cell? ⟨g, o + i * 2 + 1, none⟩ = some (.int .i64 (f i).2)
def BoolsAt (w : World) (a : Option Addr) (n : Nat) (f : Nat → Bool) : Prop := 0 < n → ∃ g o, a = some ⟨g, o, none⟩ ∧ g < w.heap.size ∧ ∀ i, i < n → w.cell? ⟨g, o + i, none⟩ = some (.bool (f i))
theorem putsAt_row {w : World} {B : Nat} {a : Option Addr} {n c : Nat} {l : List (Int × Int)} (h : RowB B l (.slice a n c) w) : PutsAt w a l := fun hp => by
  unfold RowB at h
  obtain ⟨g, cap, e, _, hg, _, _, hE⟩ := own_ents h rfl hp
  cases e
  exact ⟨_, 0, rfl, hg, hE⟩
theorem rno_new {w : World} {S : Nat → Prop} {mb : Nat} {v : Value} {l : List (Int × Int)} {B : Nat} (hS : ∀ i, S i → i < w.heap.size) (c : Nat) (hl1 : l.length ≤ 1000000) (ho : RowB B l v w) :
    Calls Try.prog 11 #[.pointer (some ⟨mb, 0, none⟩), .int .i64 c, v] w fun e w' => ∃ rb, e = .returned (.pointer (some ⟨rb, 0, none⟩)) ∧ w.heap.size ≤ rb ∧ RnO w' rb mb S l c 0 0 false ∧ Below w.heap.size w w' := by
  refine (rnew_v (some ⟨mb, 0, none⟩) c v l w (own_mono ho (Nat.zero_le _)) hl1).mono ?_
  rintro e w' ⟨rb, sl, rfl, hb, hown, hrb, hne, hB1⟩
  obtain ⟨a, n, cp, rfl⟩ := own_slice hown
  obtain rfl : n = l.length := own_len hown
  refine ⟨rb, rfl, hrb, ⟨⟨_, a, cp, hb, rfl, rfl, rfl, rfl, rfl, rfl, rfl, fun h => by have := hS rb h; omega, fun hp => ?_⟩⟩, hB1⟩
  obtain ⟨g, cap, e1, hg0, hg, _, _, hE⟩ := own_ents hown rfl hp
  cases e1
  exact ⟨g, rfl, hg, hE, fun h => by have := hS g h; omega, fun e => hne (by rw [e]; rfl)⟩
theorem OddL_apart (a : Int) : OddL 1 a → ¬ OddL 0 a := by unfold OddL; intro h1 h2; omega
theorem OddL_apart' (a : Int) : OddL 0 a → ¬ OddL 1 a := by unfold OddL; intro h1 h2; omega
set_option maxRecDepth 100000 in
set_option maxHeartbeats 40000000 in
theorem rtwo_v (n : Int) (a b tu ea ke : Option Addr) (la lb : List (Int × Int)) (nt ne : Nat) (ft : Nat → Bool) (fe : Nat → Int × Int) (ks : List Int) (ca cb ct ce ck : Nat) (w : World) (hr : -9223372036854775808 ≤ n ∧ n ≤ 9223372036854775807)
    (hla : la.length ≤ 9223372036854775807) (hlb : lb.length ≤ 9223372036854775807) (hlt : nt ≤ 9223372036854775807) (hle : ne ≤ 9223372036854775807) (hlk : ks.length ≤ 9223372036854775807)
    (hpa : PutsAt w a la) (hba : ∀ i, i < la.length → (0 ≤ eK la i ∧ eK la i ≤ 18446744073709551615) ∧ 0 ≤ eP la i ∧ eP la i ≤ 18446744073709551615) (hpb : PutsAt w b lb) (hbb : ∀ i, i < lb.length → (0 ≤ eK lb i ∧ eK lb i ≤ 18446744073709551615) ∧ 0 ≤ eP lb i ∧ eP lb i ≤ 18446744073709551615)
    (ht : BoolsAt w tu nt ft) (he : EarlyAt w ea ne fe) (heb : ∀ i, i < ne → (-9223372036854775808 ≤ (fe i).1 ∧ (fe i).1 ≤ 9223372036854775807) ∧ (fe i).2 ≤ 9223372036854775807)
    (hkeep : 0 < ks.length → ∃ g o, ke = some ⟨g, o, none⟩ ∧ g < w.heap.size ∧ ∀ i, i < ks.length → w.cell? ⟨g, o + i, none⟩ = some (.int .i64 (ks.getD i 0))) (hk64 : ∀ x ∈ ks, -9223372036854775808 ≤ x ∧ x ≤ 9223372036854775807) :
    Calls Try.prog 7 #[.int .i64 n, .slice a la.length ca, .slice b lb.length cb, .slice tu nt ct, .slice ea ne ce, .slice ke ks.length ck] w (TrueQ w) := by
  have HM := Lib.hid (memory_v n w hr)
  have HPa := Lib.hid (And.intro hpa hba)
  have HPb := Lib.hid (And.intro hpb hbb)
  have HTu := Lib.hid ht
  have HEa := Lib.hid (And.intro he heb)
  have HKe := Lib.hid (And.intro hkeep hk64)
  obtain ⟨na, hna⟩ : ∃ na, la.length = na := ⟨_, rfl⟩
  obtain ⟨nb, hnb⟩ : ∃ nb, lb.length = nb := ⟨_, rfl⟩
  obtain ⟨nk, hnk⟩ : ∃ nk, ks.length = nk := ⟨_, rfl⟩
  have HLn := Lib.hid (And.intro hna (And.intro hnb hnk))
  rw [hna] at hla
  rw [hnb] at hlb
  rw [hnk] at hlk
  rw [hna, hnb, hnk]
  clear hpa hba hpb hbb ht he heb hkeep hk64 hna hnb hnk
  go_enter Try.func7, Try.ntmps7
  go_wp2_with (fail)
  refine HM.out.mono ?_
  rintro e w1 (⟨hn, rfl, rfl⟩ | ⟨N, mb, S, h1, h2, hNn, rfl, hm, hS, hB1⟩)
  · have HK := Lib.hid (known_v w)
    have HB0 := Lib.hid (Below.refl w.heap.size w)
    go_wp2_with (fail)
    refine HK.out.mono ?_
    rintro e w9 ⟨rfl, hB9⟩
    have HB9 := Lib.hid (HB0.out.trans (hB9.mono HB0.out.size))
    clear hB9
    go_wp2_with (fail)
    go_ret
    exact ⟨rfl, HB9.out⟩
  · have HMm := Lib.hid hm
    have HS := Lib.hid hS
    have HB1 := Lib.hid hB1
    have HNn := Lib.hid (And.intro hNn (And.intro h1 h2))
    have HK := Lib.hid (known_v w1)
    clear hm hS hB1 hNn h1
    by_cases hq0 : n < 2
    · skip
      go_wp2_with (fail)
      refine HK.out.mono ?_
      rintro e w9 ⟨rfl, hB9⟩
      have HB9 := Lib.hid (HB1.out.trans (hB9.mono HB1.out.size))
      clear hB9
      go_wp2_with (fail)
      go_ret
      exact ⟨rfl, HB9.out⟩
    by_cases hq1 : 40 < na
    · have hb : (40 : Int) < (na : Int) := by omega
      clear hq1
      go_wp2_with (fail)
      refine HK.out.mono ?_
      rintro e w9 ⟨rfl, hB9⟩
      have HB9 := Lib.hid (HB1.out.trans (hB9.mono HB1.out.size))
      clear hB9
      go_wp2_with (fail)
      go_ret
      exact ⟨rfl, HB9.out⟩
    have hd1 : (na : Int) ≤ 40 := by omega
    by_cases hq2 : 40 < nb
    · have hb : (40 : Int) < (nb : Int) := by omega
      clear hq2 hq1
      go_wp2_with (fail)
      refine HK.out.mono ?_
      rintro e w9 ⟨rfl, hB9⟩
      have HB9 := Lib.hid (HB1.out.trans (hB9.mono HB1.out.size))
      clear hB9
      go_wp2_with (fail)
      go_ret
      exact ⟨rfl, HB9.out⟩
    have hd2 : (nb : Int) ≤ 40 := by omega
    by_cases hq3 : 200 < nt
    · have hb : (200 : Int) < (nt : Int) := by omega
      clear hq3 hq2 hq1
      go_wp2_with (fail)
      refine HK.out.mono ?_
      rintro e w9 ⟨rfl, hB9⟩
      have HB9 := Lib.hid (HB1.out.trans (hB9.mono HB1.out.size))
      clear hB9
      go_wp2_with (fail)
      go_ret
      exact ⟨rfl, HB9.out⟩
    have hd3 : (nt : Int) ≤ 200 := by omega
    by_cases hq4 : 20 < nk
    · have hb : (20 : Int) < (nk : Int) := by omega
      clear hq4 hq3 hq2 hq1
      go_wp2_with (fail)
      refine HK.out.mono ?_
      rintro e w9 ⟨rfl, hB9⟩
      have HB9 := Lib.hid (HB1.out.trans (hB9.mono HB1.out.size))
      clear hB9
      go_wp2_with (fail)
      go_ret
      exact ⟨rfl, HB9.out⟩
    have hd4 : (nk : Int) ≤ 20 := by omega
    have HLm := Lib.hid (show na ≤ 40 ∧ nb ≤ 40 ∧ nt ≤ 200 ∧ nk ≤ 20 ∧ 16 ≤ N ∧ N ≤ 128 ∧ N % 8 = 0 from by have := HNn.out; omega)
    obtain ⟨sz, hsz⟩ : ∃ sz : Int, ((8 * N : Nat) : Int) = sz := ⟨_, rfl⟩
    have HSzE := Lib.hid hsz
    have HNe := Lib.hid (show 64 * n = sz from by have := HNn.out; omega)
    clear hsz
    have HWa := Lib.hid (within_v N (by have := HLm.out; omega) a la ca w1 (HPa.out.1.below HB1.out) (by have := HLn.out; omega) (fun i hi => (HPa.out.2 i hi).1))
    rw [HLn.out.1, HSzE.out] at HWa
    have hn2 : 2 ≤ n := by omega
    have HWb := Lib.hid (fun W (hB : Below w.heap.size w W) => within_v N (by have := HLm.out; omega) b lb cb W (HPb.out.1.below hB) (by have := HLn.out; have := HLm.out; omega) (fun i hi => (HPb.out.2 i hi).1))
    rw [HLn.out.2.1, HSzE.out] at HWb
    obtain ⟨lx0, hlx0⟩ : ∃ l, withinL N la = l := ⟨_, rfl⟩
    obtain ⟨ly0, hly0⟩ : ∃ l, withinL N lb = l := ⟨_, rfl⟩
    have HLx := Lib.hid (show LOk AllL N lx0 ∧ lx0.length = na from ⟨by rw [← hlx0]; exact withinL_ok N (by have := HLm.out; omega) la (fun i hi => ⟨(HPa.out.2 i hi).1.1, (HPa.out.2 i hi).2⟩), by rw [← hlx0, withinL_len]; exact HLn.out.1⟩)
    have HLy := Lib.hid (show LOk AllL N ly0 ∧ ly0.length = nb from ⟨by rw [← hly0]; exact withinL_ok N (by have := HLm.out; omega) lb (fun i hi => ⟨(HPb.out.2 i hi).1.1, (HPb.out.2 i hi).2⟩), by rw [← hly0, withinL_len]; exact HLn.out.2.1⟩)
    rw [hlx0] at HWa
    rw [hly0] at HWb
    clear hq0 hq1 hq2 hq3 hq4 hla hlb hlt hlk hr HK hlx0 hly0
    go_wp2_with (fail)
    rw [HNe.out]
    refine HWa.out.mono ?_
    rintro e w2 ⟨va, rfl, hra, hB2⟩
    obtain ⟨pa, ma, cxa, rfl⟩ := own_slice hra
    obtain rfl : na = ma := by have : ma = lx0.length := own_len hra; have := HLx.out.2; omega
    have HB2 := Lib.hid (HB1.out.trans (hB2.mono HB1.out.size))
    have hpa : PutsAt w2 pa lx0 := putsAt_row hra
    have HApa := Lib.hid (apart_v N 0 (by have := HLm.out; omega) (by omega) pa lx0 cxa w2 hpa (by have := HLx.out.2; have := HLm.out; omega) (fun i hi => by have := HLx.out.1 i hi; have := HLm.out; omega))
    rw [HLx.out.2, HSzE.out] at HApa
    have HB12 := Lib.hid hB2
    clear hra hB2 hpa
    go_wp2_with (fail)
    refine HApa.out.mono ?_
    rintro e w3 ⟨vx, rfl, hrx, hB3⟩
    have HRx := Lib.hid hrx
    have HB3 := Lib.hid (HB2.out.trans (hB3.mono HB2.out.size))
    have HB13 := Lib.hid (HB12.out.trans (hB3.mono HB12.out.size))
    have HWb3 := Lib.hid (HWb.out w3 HB3.out)
    clear hrx hB3
    go_wp2_with (fail)
    refine HWb3.out.mono ?_
    rintro e w4 ⟨vb, rfl, hrb, hB4⟩
    obtain ⟨pb, mb2, cxb, rfl⟩ := own_slice hrb
    obtain rfl : nb = mb2 := by have : mb2 = ly0.length := own_len hrb; have := HLy.out.2; omega
    have HB4 := Lib.hid (HB3.out.trans (hB4.mono HB3.out.size))
    have HB34 := Lib.hid hB4
    have hpb : PutsAt w4 pb ly0 := putsAt_row hrb
    have HApb := Lib.hid (apart_v N 1 (by have := HLm.out; omega) (by omega) pb ly0 cxb w4 hpb (by have := HLy.out.2; have := HLm.out; omega) (fun i hi => by have := HLy.out.1 i hi; have := HLm.out; omega))
    rw [HLy.out.2, HSzE.out] at HApb
    clear hrb hB4 hpb
    go_wp2_with (fail)
    refine HApb.out.mono ?_
    rintro e w5 ⟨vy, rfl, hry, hB5⟩
    have HRy := Lib.hid hry
    have HB5 := Lib.hid (HB4.out.trans (hB5.mono HB4.out.size))
    have HB35 := Lib.hid (HB34.out.trans (hB5.mono HB34.out.size))
    clear hry hB5
    obtain ⟨lx, hlx⟩ : ∃ l, apL N 0 lx0 = l := ⟨_, rfl⟩
    obtain ⟨ly, hly⟩ : ∃ l, apL N 1 ly0 = l := ⟨_, rfl⟩
    have HOx := Lib.hid (show LOk (OddL 0) N lx ∧ lx.length = na from ⟨by rw [← hlx]; exact apL_ok N 0 (by have := HLm.out; omega) (by have := HLm.out; omega) (by omega) lx0 HLx.out.1, by rw [← hlx, apL_len]; exact HLx.out.2⟩)
    have HOy := Lib.hid (show LOk (OddL 1) N ly ∧ ly.length = nb from ⟨by rw [← hly]; exact apL_ok N 1 (by have := HLm.out; omega) (by have := HLm.out; omega) (by omega) ly0 HLy.out.1, by rw [← hly, apL_len]; exact HLy.out.2⟩)
    rw [hlx] at HRx
    rw [hly] at HRy
    clear hlx hly HLx HLy
    have hrx5 := HRx.out.below HB35.out
    have hry5 := HRy.out
    obtain ⟨px, mx, cx, rfl⟩ := own_slice hrx5
    obtain rfl : na = mx := by have : mx = lx.length := own_len hrx5; have := HOx.out.2; omega
    obtain ⟨py, my, cy, rfl⟩ := own_slice hry5
    obtain rfl : nb = my := by have : my = ly.length := own_len hry5; have := HOy.out.2; omega
    have HSl := Lib.hid (show ∀ i, S i → i < w5.heap.size from fun i hi => by have := HMm.out.lt hi; have := HB13.out.size; have := HB35.out.size; omega)
    have HPx := Lib.hid (putsAt_row hrx5)
    have HPy := Lib.hid (putsAt_row hry5)
    have HBy := Lib.hid (show (∀ g o, px = some ⟨g, o, none⟩ → w1.heap.size ≤ g ∧ g < w5.heap.size) ∧ (∀ g o, py = some ⟨g, o, none⟩ → w1.heap.size ≤ g ∧ g < w5.heap.size) from by
      refine ⟨fun g o e => ?_, fun g o e => ?_⟩
      · subst e
        have h3 := HRx.out
        unfold RowB at h3
        have := own_base h3 g rfl
        have h5 := hrx5
        unfold RowB at h5
        have : g < w5.heap.size := own_ltS h5 rfl
        have := HB12.out.size
        omega
      · subst e
        have h5 := hry5
        unfold RowB at h5
        have := own_base h5 g rfl
        have : g < w5.heap.size := own_ltS h5 rfl
        have := HB13.out.size
        have := HB34.out.size
        omega)
    have HN1 := Lib.hid (rno_new (mb := mb) (S := S) HSl.out 1 (by have := HOx.out.2; have := HLm.out; omega) hrx5)
    have HRy5 := Lib.hid hry5
    clear hrx5 hry5 HRx HRy
    go_wp2_with (fail)
    refine HN1.out.mono ?_
    rintro e w6 ⟨rb1, rfl, hrb1, hR1, hB6⟩
    have HR1 := Lib.hid hR1
    have HB6 := Lib.hid hB6
    have HRb1 := Lib.hid hrb1
    have HN2 := Lib.hid (rno_new (mb := mb) (S := S) (w := w6) (fun i hi => Nat.lt_of_lt_of_le (HSl.out i hi) hB6.size) 2 (by have := HOy.out.2; have := HLm.out; omega) (HRy5.out.below hB6))
    clear hR1 hB6 hrb1
    go_wp2_with (fail)
    refine HN2.out.mono ?_
    rintro e w7 ⟨rb2, rfl, hrb2, hR2, hB7⟩
    have hr1 := HR1.out.rb_lt
    have HT := Lib.hid (show TwoK S w7 w7 mb N (OddL 0) (OddL 1) 1 2 rb1 rb2 lx ly 0 0 false 0 0 false 0 from ⟨⟨S, 0, 0, ⟨List.replicate N 0, List.replicate N 0, fun _ _ => 0, fun _ => [], 0, 0, 0, 0⟩, HR1.out.kept2 (Keeps.of_below' hB7) (fun _ _ _ _ _ h => h) (fun h => h) (fun _ _ h => h), hR2, (((HMm.out.below HB13.out).below HB35.out).below HB6.out).below hB7, RI.start _ N lx 1 0 0 0 0, RI.start _ N ly 2 0 0 0 0, Int.le_refl _, Int.le_refl _, Int.le_refl _, fun i hi => .inl hi⟩, Keeps.refl _ _, by omega⟩)
    have HBw7 := Lib.hid (HB5.out.trans ((HB6.out.trans (hB7.mono HB6.out.size)).mono HB5.out.size))
    have HRbs := Lib.hid (show w.heap.size ≤ rb1 ∧ w.heap.size ≤ rb2 ∧ w5.heap.size ≤ rb1 ∧ w5.heap.size ≤ rb2 from by have := HRb1.out; have := HB6.out.size; have := HB5.out.size; omega)
    have HKw := Lib.hid (show ∀ wr, Keeps (fun i => i = rb1 ∨ i = rb2 ∨ S i) w7 wr → ∀ p : Addr, p.block < w.heap.size → wr.cell? p = w.cell? p from fun wr hk p hp => by
      rw [hk.cell (p := p) (Nat.lt_of_lt_of_le hp HBw7.out.size) (fun h => by
        rcases h with h | h | h
        · have := HRbs.out; omega
        · have := HRbs.out; omega
        · have := HS.out _ h; omega)]
      exact HBw7.out.cell hp)
    have HSb := Lib.hid (show ∀ i, (i = rb1 ∨ i = rb2 ∨ S i) → w.heap.size ≤ i from fun i h => by
      rcases h with h | h | h
      · have := HRbs.out; omega
      · have := HRbs.out; omega
      · exact HS.out i h)
    have HPx7 := Lib.hid (show PutsAt w7 px lx ∧ PutsAt w7 py ly from ⟨(HPx.out.below HB6.out).below hB7, (HPy.out.below HB6.out).below hB7⟩)
    have HPn := Lib.hid (show (∀ g o, px = some ⟨g, o, none⟩ → ¬ (g = rb1 ∨ g = rb2 ∨ S g)) ∧ (∀ g o, py = some ⟨g, o, none⟩ → ¬ (g = rb1 ∨ g = rb2 ∨ S g)) from by
      refine ⟨fun g o e h => ?_, fun g o e h => ?_⟩
      · have h1 := HBy.out.1 g o e
        rcases h with h | h | h
        · have := HRbs.out; omega
        · have := HRbs.out; omega
        · have := HMm.out.lt h; omega
      · have h1 := HBy.out.2 g o e
        rcases h with h | h | h
        · have := HRbs.out; omega
        · have := HRbs.out; omega
        · have := HMm.out.lt h; omega)
    clear hR2 hB7 hr1 hrb2 HPx HPy HRy5 HR1 HN1 HN2
    go_wp2_with (fail)
    go_loopw [19] (fun iv wr => ∃ (i k1 ph1 : Nat) (ov1 : Bool) (k2 ph2 : Nat) (ov2 : Bool), i ≤ nt ∧ iv = .int .i64 i ∧ TwoK S w7 wr mb N (OddL 0) (OddL 1) 1 2 rb1 rb2 lx ly k1 ph1 ov1 k2 ph2 ov2 i) (fun iv _ => nt - (intOf iv).toNat)
    case atStart => exact ⟨0, 0, 0, false, 0, 0, false, by omega, rfl, HT.out⟩
    case round =>
      obtain ⟨i, k1, ph1, ov1, k2, ph2, ov2, hi, rfl, hT⟩ := hrel
      by_cases hlt : i < nt
      · have hib : (i : Int) < (nt : Int) := by omega
        have HLt := Lib.hid hlt
        obtain ⟨gt, ot, rfl, hgt, htc⟩ := HTu.out (by omega)
        obtain ⟨tb, htb⟩ : ∃ tb, ft i = tb := ⟨_, rfl⟩
        have ct0 := htc i hlt
        rw [htb] at ct0
        have HCt := Lib.hid (And.intro ct0 hgt)
        clear hlt hi htc htb ct0
        by_cases hne : ne = 0
        · have hnb0 : ¬ (0 : Int) < (ne : Int) := by omega
          clear hne
          have ct : wr.cell? ⟨gt, ot + i, none⟩ = some (.bool tb) := (HKw.out wr hT.b _ HCt.out.2).trans HCt.out.1
          cases tb with
          | true =>
            have HSp := Lib.hid (hT.swap.step HOy.out.1 HOx.out.1 OddL_apart' (by omega) (by omega) (by have := HOy.out.2; have := HLm.out; omega) (by have := HLm.out; have := HLt.out; omega))
            clear hT
            go_wp2_with (fail)
            refine HSp.out.mono ?_
            rintro e w9 ⟨k1', ph1', ov1', rfl, hT9⟩
            have HT9 := Lib.hid hT9.swap
            clear hT9 ct
            go_wp2_with (fail)
            go_roundw
            case rel => exact ⟨i + 1, _, _, _, _, _, _, HLt.out, by go_num, HT9.out⟩
            case measure => have := HLt.out; simp [intOf]; omega
          | false =>
            have HSp := Lib.hid (hT.step HOx.out.1 HOy.out.1 OddL_apart (by omega) (by omega) (by have := HOx.out.2; have := HLm.out; omega) (by have := HLm.out; have := HLt.out; omega))
            clear hT
            go_wp2_with (fail)
            refine HSp.out.mono ?_
            rintro e w9 ⟨k1', ph1', ov1', rfl, hT9⟩
            have HT9 := Lib.hid hT9
            clear hT9 ct
            go_wp2_with (fail)
            go_roundw
            case rel => exact ⟨i + 1, _, _, _, _, _, _, HLt.out, by go_num, HT9.out⟩
            case measure => have := HLt.out; simp [intOf]; omega
        · have hnb0 : (0 : Int) < (ne : Int) := by omega
          obtain ⟨ge, oe, rfl, hge, hec⟩ := HEa.out.1 (by omega)
          obtain ⟨q, hq⟩ : ∃ q : Nat, (i : Int).tmod (ne : Int) = (q : Int) := ⟨((i : Int).tmod (ne : Int)).toNat, by have := Int.tmod_nonneg (ne : Int) (show (0 : Int) ≤ (i : Int) by omega); omega⟩
          have hqn : q < ne := by have := Int.tmod_lt_of_pos (i : Int) hnb0; omega
          obtain ⟨ex, hex⟩ : ∃ ex, (fe q).1 = ex := ⟨_, rfl⟩
          obtain ⟨en, hen⟩ : ∃ en, (fe q).2 = en := ⟨_, rfl⟩
          have hc := hec q hqn
          have heb := HEa.out.2 q hqn
          rw [hex, hen] at hc heb
          have e0 : wr.cell? ⟨ge, oe + q * 2, none⟩ = some (.int .i64 ex) := (HKw.out wr hT.b _ hge).trans hc.1
          have e1 : wr.cell? ⟨ge, oe + q * 2 + 1, none⟩ = some (.int .i64 en) := (HKw.out wr hT.b _ hge).trans hc.2
          have hnz : ¬ (ne : Int) = 0 := by omega
          have hqb : (q : Int) < (ne : Int) := by omega
          have HEv := Lib.hid (hT.evict HOx.out.1 HOy.out.1 HLm.out.2.2.2.2.2.2 (by have := HLm.out; have := HLt.out; omega) ex en heb.1 heb.2)
          clear hne hec hqn hex hen hc heb hge hT
          go_wp2_with (fail)
          refine HEv.out.mono ?_
          rintro e w8 ⟨rfl, hT⟩
          clear e0 e1 hq hnz hqb
          have ct : w8.cell? ⟨gt, ot + i, none⟩ = some (.bool tb) := (HKw.out w8 hT.b _ HCt.out.2).trans HCt.out.1
          cases tb with
          | true =>
            have HSp := Lib.hid (hT.swap.step HOy.out.1 HOx.out.1 OddL_apart' (by omega) (by omega) (by have := HOy.out.2; have := HLm.out; omega) (by have := HLm.out; have := HLt.out; omega))
            clear hT
            go_wp2_with (fail)
            refine HSp.out.mono ?_
            rintro e w9 ⟨k1', ph1', ov1', rfl, hT9⟩
            have HT9 := Lib.hid hT9.swap
            clear hT9 ct
            go_wp2_with (fail)
            go_roundw
            case rel => exact ⟨i + 1, _, _, _, _, _, _, HLt.out, by go_num, HT9.out⟩
            case measure => have := HLt.out; simp [intOf]; omega
          | false =>
            have HSp := Lib.hid (hT.step HOx.out.1 HOy.out.1 OddL_apart (by omega) (by omega) (by have := HOx.out.2; have := HLm.out; omega) (by have := HLm.out; have := HLt.out; omega))
            clear hT
            go_wp2_with (fail)
            refine HSp.out.mono ?_
            rintro e w9 ⟨k1', ph1', ov1', rfl, hT9⟩
            have HT9 := Lib.hid hT9
            clear hT9 ct
            go_wp2_with (fail)
            go_roundw
            case rel => exact ⟨i + 1, _, _, _, _, _, _, HLt.out, by go_num, HT9.out⟩
            case measure => have := HLt.out; simp [intOf]; omega
      · obtain rfl : i = nt := by omega
        clear hlt hi
        have hcr := hT.crash HOx.out.1 HOy.out.1 (by have := HLm.out; omega) (by have := HLm.out; omega) ke ck ks (by have := HLn.out; have := HLm.out; omega) HKe.out.2 (fun S' hS' hp => by
          obtain ⟨g, o, e, hg, hc⟩ := HKe.out.1 hp
          refine ⟨g, o, e, ?_, fun h => ?_, fun j hj => (HKw.out wr hT.b _ hg).trans (hc j hj)⟩
          · have := HBw7.out.size; have := hT.b.size; omega
          · rcases hS' g h with h | h
            · have := HS.out g h; omega
            · have := HBw7.out.size; omega)
        rw [HLn.out.2.2] at hcr
        have HCr := Lib.hid hcr
        clear hT hcr
        go_wp2_with (fail)
        refine HCr.out.mono ?_
        rintro e w8 ⟨rfl, isF, hC⟩
        have HC := Lib.hid hC
        obtain ⟨r1, g1, cp1, hb1, hs1, ht1⟩ := hC.f1
        obtain ⟨r2, g2, cp2, hb2, hs2, ht2⟩ := hC.f2
        have hk1 := hC.p1.1
        have hk2 := hC.p2.1
        have HL1 := Lib.hid (rleft_v w8 rb1 cp1 lx.length k1 g1 r1 hb1 hs1 ht1 hk1 (by have := HOx.out.2; have := HLm.out; omega))
        have HL2 := Lib.hid (rleft_v w8.drew rb2 cp2 ly.length k2 g2 r2 hb2.drew hs2 ht2 hk2 (by have := HOy.out.2; have := HLm.out; omega))
        rw [HOx.out.2] at HL1 hk1
        rw [HOy.out.2] at HL2 hk2
        have hkb1 : (k1 : Int) ≤ (na : Int) := by omega
        have hkb2 : (k2 : Int) ≤ (nb : Int) := by omega
        have he1 : (na : Int) - ((na : Int) - (k1 : Int)) = (k1 : Int) := by omega
        have he2 : (nb : Int) - ((nb : Int) - (k2 : Int)) = (k2 : Int) := by omega
        have HKk := Lib.hid (And.intro hk1 hk2)
        clear hC hb1 hs1 ht1 hb2 hs2 ht2 hk1 hk2
        go_wp2_with (fail)
        refine HL1.out.mono ?_
        rintro e w9 ⟨rfl, rfl⟩
        go_wp2_with (fail)
        refine HL2.out.mono ?_
        rintro e w9 ⟨rfl, rfl⟩
        have hC9 := HC.out.mono ((Below.refl _ w8).drew.drew)
        obtain ⟨w9, hw9⟩ : ∃ w9, w8.drew.drew = w9 := ⟨_, rfl⟩
        rw [hw9] at hC9
        have HW9 := Lib.hid hw9
        obtain ⟨SF, MF, hmF⟩ := hC9.m
        have hlF := hC9.l
        have huF : U64s isF := fun x hx => by
          obtain ⟨j, hj, rfl⟩ := List.getElem_of_mem hx
          have hjN : j < N := by omega
          have hor : OddL 0 (lnW j) ∨ OddL 1 (lnW j) := by unfold OddL; omega
          have hgd : isF[j] = isF.getD j 0 := by rw [List.getD_eq_getElem?_getD, List.getElem?_eq_getElem hj]; rfl
          rw [hgd]
          rcases hor with ho | ho
          · obtain ⟨_, q, _, hqk, hm⟩ := hC9.p1
            rw [hm j hjN ho, List.getD_eq_getElem?_getD, List.getElem?_eq_getElem (by rw [vsOf_len]; exact hjN)]
            exact vsOf_u64 HOx.out.1 q (by have := hC9.p1.1; omega) _ (List.getElem_mem _)
          · obtain ⟨_, q, _, hqk, hm⟩ := hC9.p2
            rw [hm j hjN ho, List.getD_eq_getElem?_getD, List.getElem?_eq_getElem (by rw [vsOf_len]; exact hjN)]
            exact vsOf_u64 HOy.out.1 q (by have := hC9.p2.1; omega) _ (List.getElem_mem _)
        have HIm := Lib.hid (fun W (hB : Below w9.heap.size w9 W) => image_m (hmF.below hB) huF)
        have HPx9 := Lib.hid (HPx7.out.1.keptS hC9.b (fun g o e => HPn.out.1 g o e))
        have HPy9 := Lib.hid (HPx7.out.2.keptS hC9.b (fun g o e => HPn.out.2 g o e))
        have HBr9 := Lib.hid (HBw7.out.keeps (Nat.le_refl _) hC9.b (fun i hi => HSb.out i hi))
        have HC9 := Lib.hid hC9
        clear hC9 hmF hlF huF hw9
        go_wp2_with (fail)
        rw [HW9.out]
        refine (HIm.out w9 (Below.refl w9.heap.size w9)).mono ?_
        rintro e w10 ⟨vI, rfl, hoI, hBI⟩
        have HBw1I := Lib.hid (((Below.refl w9.heap.size w9)).trans (hBI.mono (((Below.refl w9.heap.size w9)).size)))
        have HoI := Lib.hid hoI
        have HFr := Lib.hid (from_v px lx cx k1 w10 (HPx9.out.below HBw1I.out) (by have := HOx.out.2; have := HLm.out; omega) (HOx.out.1.bd (by have := HLm.out; omega)) (by have := HKk.out; have := HLm.out; omega))
        rw [HOx.out.2] at HFr
        clear hoI hBI
        go_wp2_with (fail)
        refine HFr.out.mono ?_
        rintro e w11 ⟨r1, rfl, hfr, hrk, hBF⟩
        have HBw1F := Lib.hid (HBw1I.out.trans (hBF.mono HBw1I.out.size))
        have hlI : (bytesW isF).length = 8 * N := by rw [bytesW_len, HC9.out.l]
        obtain ⟨hkl, jp, hj1, hj2, hjm⟩ := HC9.out.p1
        have HBg := Lib.hid (begins_v N 0 r1 k1 jp (by have := HLm.out; omega) (by omega) (bytesW isF) vI w9.heap.size px lx cx w11 (own_keeps HoI.out (Keeps.of_below' hBF) (fun _ _ h => h)) hlI (HPx9.out.below HBw1F.out) (by have := HOx.out.2; have := HLm.out; omega) HOx.out.1 hkl (hj1 r1 hfr) hj2 (match_of HC9.out.l (vsOf_len _ _ _) hjm))
        rw [HOx.out.2] at HBg
        clear hfr hrk hBF hlI hkl hj1 hj2 hjm
        go_wp2_with (fail)
        refine HBg.out.mono ?_
        rintro e w12 ⟨rfl, hBG⟩
        have HBw1G := Lib.hid (HBw1F.out.trans (hBG.mono HBw1F.out.size))
        clear hBG
        go_wp2_with (fail)
        refine (HIm.out w12 HBw1G.out).mono ?_
        rintro e w13 ⟨vI, rfl, hoI, hBI⟩
        have HBw2I := Lib.hid ((HBw1G.out).trans (hBI.mono ((HBw1G.out).size)))
        have HoI := Lib.hid hoI
        have HFr := Lib.hid (from_v py ly cy k2 w13 (HPy9.out.below HBw2I.out) (by have := HOy.out.2; have := HLm.out; omega) (HOy.out.1.bd (by have := HLm.out; omega)) (by have := HKk.out; have := HLm.out; omega))
        rw [HOy.out.2] at HFr
        clear hoI hBI
        go_wp2_with (fail)
        refine HFr.out.mono ?_
        rintro e w14 ⟨r2, rfl, hfr, hrk, hBF⟩
        have HBw2F := Lib.hid (HBw2I.out.trans (hBF.mono HBw2I.out.size))
        have hlI : (bytesW isF).length = 8 * N := by rw [bytesW_len, HC9.out.l]
        obtain ⟨hkl, jp, hj1, hj2, hjm⟩ := HC9.out.p2
        have HBg := Lib.hid (begins_v N 1 r2 k2 jp (by have := HLm.out; omega) (by omega) (bytesW isF) vI w12.heap.size py ly cy w14 (own_keeps HoI.out (Keeps.of_below' hBF) (fun _ _ h => h)) hlI (HPy9.out.below HBw2F.out) (by have := HOy.out.2; have := HLm.out; omega) HOy.out.1 hkl (hj1 r2 hfr) hj2 (match_of HC9.out.l (vsOf_len _ _ _) hjm))
        rw [HOy.out.2] at HBg
        clear hfr hrk hBF hlI hkl hj1 hj2 hjm
        go_wp2_with (fail)
        refine HBg.out.mono ?_
        rintro e w15 ⟨rfl, hBG⟩
        have HBw2G := Lib.hid (HBw2F.out.trans (hBG.mono HBw2F.out.size))
        clear hBG
        go_wp2_with (fail)
        have HB15 := Lib.hid (HBr9.out.trans (HBw2G.out.mono HBr9.out.size))
        have HK := Lib.hid (known_v w15)
        go_wp2_with (fail)
        refine HK.out.mono ?_
        rintro e w16 ⟨rfl, hB16⟩
        have HB16 := Lib.hid (HB15.out.trans (hB16.mono HB15.out.size))
        clear hB16
        go_wp2_with (fail)
        go_ret
        exact ⟨rfl, HB16.out⟩
end Go.Proofs.Ytefgahcadfmmoaa
