/-
  The law FastApplies.
-/
import Derived.Test.YtbpaefhihdhdeaaAf
import Derived.Test.YtbpaefhihdhdeaaKo
import Derived.Test.YtbpaefhihdhdeaaNx
import Derived.Test.YtbpaefhihdhdeaaEq
import Derived.Test.YtbpaefhihdhdeaaRd
import Derived.Deep.DeepCutAuto
namespace Go.Proofs.Ytbpaefhihdhdeaa
open Go.RowKit

/-- stores that came in -/
def PutsIn (w : World) (a : Option Addr) (l : List (Int × Int)) : Prop := 0 < l.length → ∃ g o, a = some ⟨g, o, none⟩ ∧ g < w.heap.size ∧ EntsAt w g o l
theorem ecells_one (l : List (Int × Int)) : ∀ u ∈ ecells l, u.oneCell' = true := by
  intro u hu
  unfold ecells at hu
  obtain ⟨p, _, h⟩ := List.mem_flatMap.1 hu
  simp only [List.mem_cons, List.not_mem_nil, or_false] at h
  rcases h with rfl | rfl <;> rfl
theorem PutsIn.reads {w : World} {a : Option Addr} {l : List (Int × Int)} (h : PutsIn w a l) : Reads w w.heap.size 2 a l.length (ecells l) := by
  refine ⟨ecells_len l, fun hn => ?_⟩
  obtain ⟨g, o, rfl, hg, hE⟩ := h hn
  refine ⟨_, rfl, hg, fun j u hu => ?_⟩
  have hj : j < (ecells l).length := (List.getElem?_eq_some_iff.1 hu).1
  rw [ecells_len] at hj
  obtain ⟨h1, h2⟩ := hE (j / 2) (by omega)
  obtain ⟨g1, g2⟩ := ecells_get l (j / 2) (by omega)
  have ha : (⟨g, o, none⟩ : Addr).add j = ⟨g, o + j, none⟩ := by unfold Addr.add; split <;> simp_all
  rw [ha]
  by_cases hp : j % 2 = 0
  · rw [show j / 2 * 2 = j by omega] at h1 g1
    rw [g1] at hu; cases hu
    exact h1
  · rw [show o + j / 2 * 2 + 1 = o + j by omega] at h2
    rw [show j / 2 * 2 + 1 = j by omega] at g2
    rw [g2] at hu; cases hu
    exact h2

def standsB (base : Int) : Bool := decide (Stands base)
theorem standsB_eq (base : Int) (h0 : 0 ≤ base) : standsB base = !((base == 0) || decide (1099511627776 < base) || (base % 64 != 0)) := by
  by_cases h : Stands base
  · rw [show standsB base = true from decide_eq_true h]
    obtain ⟨h1, h2, h3⟩ := h
    rw [beq_eq_false_iff_ne.2 (by omega : base ≠ 0), decide_eq_false (by omega : ¬ 1099511627776 < base), h3]
    rfl
  · rw [show standsB base = false from decide_eq_false h]
    by_cases a : base = 0
    · simp [a]
    by_cases b : 1099511627776 < base
    · simp [b]
    have : base % 64 ≠ 0 := fun e => h ⟨by omega, by omega, e⟩
    rw [show (base % 64 != 0) = true from bne_iff_ne.2 this]
    simp
theorem applies_out (base : Int) (n : Nd) (a : Option Addr) (k c : Nat) (w : World) (hk : 40 < k) :
    Calls Try.prog 3 #[.int .u64 base, .agg (ndCells n), .slice a k c] w fun e w' => e = .returned (.bool true) ∧ Below w.heap.size w w' := by
  have hk' : (40 : Int) < (k : Int) := by omega
  have HK := Lib.hid (fun w => known_v w)
  have HB0 := Lib.hid ((Below.refl w.heap.size w).alloc (Nat.le_refl _) (.cells (ndCells n) 27))
  go_enter Try.func3, Try.ntmps3
  go_wp2_with (go_at_call 9; refine (HK.out _).mono ?_; rintro e w1 ⟨rfl, hB⟩; have HB1 := Lib.hid (HB0.out.trans (hB.mono HB0.out.size)); clear hB)
  go_ret
  exact ⟨rfl, HB1.out⟩

/-- a new block with a node in it -/
def newNd (w : World) (m : Nd) : World := (w.alloc (.cells (ndCells nd0) 27)).setRow w.heap.size (ndCells m)
theorem newNd_blk (w : World) (m : Nd) : Blk (newNd w m) w.heap.size (ndCells m) 27 := (Blk.new w (ndCells nd0) 27).row _
theorem newNd_below (w : World) (m : Nd) : Below w.heap.size w (newNd w m) := below_setRow ((Below.refl w.heap.size w).alloc (Nat.le_refl _) _) (Nat.le_refl _) _
def appV (base : Int) (n : Nd) (l : List (Int × Int)) : Nd × Int := if standsB base = true then applyV base n l else (nd0, 2)
theorem apply_any (base : Int) (n : Nd) (l : List (Int × Int)) (a : Option Addr) (c b : Nat) (w : World) (hn : l.length ≤ 1000000) (ho : w.ownsRow b 36 2 (.slice a l.length c) l.length (ecells l)) (hu : ∀ i, i < l.length → 0 ≤ eK l i ∧ eK l i < 18446744073709551616) :
    Calls Try.prog 10 #[.int .u64 base, .agg (ndCells n), .slice a l.length c] w fun e w' => MkP (appV base n l).1 (appV base n l).2 w e w' := by
  unfold appV standsB
  by_cases hs : Stands base
  · rw [if_pos (decide_eq_true hs)]
    by_cases hp : 0 < l.length
    · obtain ⟨g, cap, e, _, _, _, _, hE⟩ := own_ents ho rfl hp
      have ha : a = some ⟨g, 0, none⟩ := by cases e; rfl
      exact apply_v base n l a g c w hs hn (fun _ => ha) hE hu
    · exact apply_v base n l a 0 c w hs hn (fun h => absurd h hp) (fun i hi => absurd hi (by omega)) hu
  · rw [if_neg (by simp [hs])]
    exact apply_no base n _ w hs
/-- the law's loop: the node, and the error, after so many -/
def ApSt (base : Int) (n : Nd) (l : List (Int × Int)) (k : Nat) (m : Nd) (f : Int) : Prop :=
  (standsB base = false ∧ f = 2) ∨ (standsB base = true ∧ ((f = 0 ∧ applyL base n (l.take k) = some m) ∨ (f = 2 ∧ applyL base n l = none)))
/-- its worlds -/
structure LpW (w : World) (b8 b10 : Nat) (n v m : Nd) (w' : World) : Prop where
  n : Blk w' w.heap.size (ndCells n) 27
  v : Blk w' b8 (ndCells v) 27
  m : Blk w' b10 (ndCells m) 27
  b : Below w.heap.size w w'
  lt : w.heap.size ≤ b8 ∧ b8 < b10

theorem below_of_keeps {S : Nat → Prop} {a w : World} {B : Nat} (h : Keeps S a w) (hB : B ≤ a.heap.size) (hS : ∀ k, k < B → ¬ S k) : Below B a w :=
  ⟨h.os, h.tape, h.output, h.size, fun k hk => h.block k (by omega) (hS k hk)⟩
theorem LpW.next {w wr W : World} {b8 b10 : Nat} {n v m m' : Nd} (h : LpW w b8 b10 n v m wr) (hk : Keeps (fun i => i = b10) wr W) (hb : Blk W b10 (ndCells m') 27) : LpW w b8 b10 n v m' W :=
  ⟨h.n.kept hk (by have := h.lt; omega), h.v.kept hk (by have := h.lt; omega), hb, h.b.trans (below_of_keeps hk h.b.size (fun k hk e => by have := h.lt; omega)), h.lt⟩
theorem apSt_next {base : Int} {n m m' : Nd} {l : List (Int × Int)} {k : Nat} {f f' : Int} {at_ x : Int} (_h : ApSt base n l k m f) (hs : standsB base = true) (hk : k < l.length) (ha : applyL base n (l.take k) = some m) (he : putA base m (eK l k) (eP l k) = putA base m at_ x)
    (hm : (putV base m at_ x).1 = m') (hf : (putV base m at_ x).2 = f') : ApSt base n l (k + 1) m' f' := by
  have hn := applyL_next base l n m k hk ha
  rw [he] at hn
  unfold putV at hm hf
  refine .inr ⟨hs, ?_⟩
  cases hp : putA base m at_ x with
  | none =>
    rw [hp] at hm hf hn
    exact .inr ⟨hf.symm, applyL_bad base l n (k + 1) hn⟩
  | some z =>
    rw [hp] at hm hf hn
    refine .inl ⟨hf.symm, ?_⟩
    rw [hn]; exact congrArg some hm
theorem apSt_end {base : Int} {n m : Nd} {l : List (Int × Int)} {k : Nat} {f : Int} (h : ApSt base n l k m f) (hk : k ≤ l.length) (hc : (decide (k < l.length) && (f == 0)) = false) :
    appV base n l = (if f = 0 then m else nd0, f) := by
  unfold appV
  rcases h with ⟨h1, h2⟩ | ⟨h1, ⟨h2, h3⟩ | ⟨h2, h3⟩⟩
  · subst h2; rw [h1]; rfl
  · subst h2
    have : k = l.length := by simp at hc; omega
    rw [this, List.take_length] at h3
    rw [h1, if_pos rfl, if_pos rfl]
    unfold applyV; rw [h3]
  · subst h2
    rw [h1, if_pos rfl]
    unfold applyV; rw [h3]; rfl

set_option maxRecDepth 100000 in
set_option maxHeartbeats 6400000 in
theorem applies_in (base : Int) (h0 : 0 ≤ base) (n : Nd) (a : Option Addr) (l : List (Int × Int)) (c : Nat) (w : World) (hk : l.length ≤ 40) (hl : PutsIn w a l) (hu : ∀ i, i < l.length → 0 ≤ eK l i ∧ eK l i < 18446744073709551616) :
    Calls Try.prog 3 #[.int .u64 base, .agg (ndCells n), .slice a l.length c] w fun e w' => e = .returned (.bool true) ∧ Below w.heap.size w w' := by
  obtain ⟨i0, hi, hz0, hz1, hz2⟩ := info_parts Try.info36
  have hk' : ¬ (40 : Int) < (l.length : Int) := by omega
  have HI := Lib.hid (info27 n)
  have hb0 := Blk.new w (ndCells n) 27
  have HB0 := Lib.hid ((Below.refl w.heap.size w).alloc (Nat.le_refl _) (.cells (ndCells n) 27))
  have HRd := Lib.hid (hl.reads.alloc (Nat.le_refl _) (.cells (ndCells n) 27))
  have HIn := Lib.hid hl
  have HU := Lib.hid hu
  have HK0 := Lib.hid hb0
  clear hl hu hb0
  go_enter Try.func3, Try.ntmps3
  go_upto_region 4 with (at_builtin; refine wpList_append_any _ rfl (.const (.slice none 0 0)) (.tmp 17) _ rfl (w.alloc (.cells (ndCells n) 27)).heap.size 36 i0 _ 2 16 Try.underlying28 hi hz0 hz1 hz2 rfl (by omega) (.slice none 0 0) 0 [] rfl (World.ownsRow_nil _ _ _ _) w.heap.size _ l.length c _ rfl HRd.out (ecells_one l) (by unfold maxLen; omega) (by omega) (Nat.le_refl _) ?_; intro v1 w1 hown1 hg1 hat1; have hB1 := (Below.refl (w.alloc (.cells (ndCells n) 27)).heap.size (w.alloc (.cells (ndCells n) 27))).grown hg1 (Nat.le_refl _) (fun r e => by simp [Value.ownBlock] at e); obtain ⟨a1, n1, c1, rfl⟩ := own_slice hown1; have hn1 := own_len hown1; simp [lenOf] at hn1; subst hn1; have HO := Lib.hid hown1; have HB := Lib.hid hB1; clear hown1 hg1 hat1 hB1)
  have HA := Lib.hid (apply_any base n l a1 c1 _ w1 (by omega) (by simpa using HO.out) HU.out)
  have HB1 := Lib.hid (HB0.out.trans (HB.out.mono (by simp)))
  have HK1 := Lib.hid (HK0.out.below HB.out HK0.out.lt)
  have HL1 := Lib.hid (ndLoad HK1.out)
  obtain ⟨m8, hm8⟩ : ∃ x, (appV base n l).1 = x := ⟨_, rfl⟩
  obtain ⟨f8, hf8⟩ : ∃ x, (appV base n l).2 = x := ⟨_, rfl⟩
  rw [hm8, hf8] at HA
  have HV := Lib.hid (show appV base n l = (m8, f8) by rw [← hm8, ← hf8])
  clear hm8 hf8 HRd HO HB HK0 HB0
  go_wp2_with (with_reducible refine wpList_load_part (o := ⟨some 21, _, _, _, _, _⟩) rfl 27 _ rfl w.heap.size 0 rfl (ndCells n) _ HL1.out Try.underlying27 rfl HI.out ?_)
  refine HA.out.mono ?_
  rintro e w2 ⟨rfl, hB2⟩
  have HB2 := Lib.hid (HB1.out.trans (hB2.mono HB1.out.size))
  have HK2 := Lib.hid (HK1.out.below hB2 HK1.out.lt)
  clear hB2 HA
  go_upto_region 5 with (first | (with_reducible refine wpList_alloc_nd (o := ⟨some 8, _, _, _, _, _⟩) rfl rfl ?_) | (refine wpList_store_ndc (o := ⟨none, .store 27 (.tmp 8) (.tmp 24), _, _, _, _⟩) rfl (.tmp 8) (.tmp 24) ?ho w2.heap.size ?cs m8 nd0 ?hx ?hy (Blk.new w2 _ _) ?hm ?_; (case ho => rfl); (case hx => rfl); (case hy => rfl); (case hm => rfl); rw [show (w2.alloc (.cells (ndCells nd0) 27)).setRow w2.heap.size (ndCells m8) = newNd w2 m8 from rfl]))
  go_simp
  have hk3 := HK2.out.below (newNd_below w2 m8) HK2.out.lt
  have hv3 := newNd_blk w2 m8
  have hB3 := HB2.out.trans ((newNd_below w2 m8).mono HB2.out.size)
  have hs3 := hv3.lt
  have hs2 := HB2.out.size
  obtain ⟨b8, hb8⟩ : ∃ x, w2.heap.size = x := ⟨_, rfl⟩
  rw [hb8] at hv3 hs3 hs2 ⊢
  clear hb8 HB2 HK2 HB1 HK1 HL1
  generalize newNd w2 m8 = w3 at *
  have HL3 := Lib.hid (ndLoad hk3)
  have HW4 := Lib.hid (show LpW w b8 w3.heap.size n m8 n (newNd w3 n) from ⟨hk3.below (newNd_below w3 n) hk3.lt, hv3.below (newNd_below w3 n) hv3.lt, newNd_blk w3 n, hB3.trans ((newNd_below w3 n).mono hB3.size), hs2, hs3⟩)
  clear hk3 hv3 hB3
  go_upto_region 6 with (first | (with_reducible refine wpList_load_part (o := ⟨some 26, _, _, _, _, _⟩) rfl 27 _ rfl w.heap.size 0 rfl (ndCells n) _ HL3.out Try.underlying27 rfl HI.out ?_) | (with_reducible refine wpList_alloc_nd (o := ⟨some 10, _, _, _, _, _⟩) rfl rfl ?_) | (refine wpList_store_ndc (o := ⟨none, .store 27 (.tmp 10) (.tmp 26), _, _, _, _⟩) rfl (.tmp 10) (.tmp 26) ?hob w3.heap.size ?csb n nd0 ?hxb ?hyb (Blk.new w3 _ _) ?hmb ?_; (case hob => rfl); (case hxb => rfl); (case hyb => rfl); (case hmb => rfl); rw [show (w3.alloc (.cells (ndCells nd0) 27)).setRow w3.heap.size (ndCells n) = newNd w3 n from rfl]))
  go_simp
  obtain ⟨b10, hb10⟩ : ∃ x, w3.heap.size = x := ⟨_, rfl⟩
  rw [hb10] at HW4 ⊢
  clear hb10 HL3 hs3 hs2
  generalize newNd w3 n = w4 at *
  clear w3 w2 w1
  obtain ⟨sb, hsb⟩ : ∃ x, standsB base = x := ⟨_, rfl⟩
  have HSB := Lib.hid hsb
  go_cut [37] (fun s37 wx => s37 = .bool (!sb) ∧ wx = w4)
  case first =>
    rw [standsB_eq base h0] at hsb
    cases q1 : (base == 0)
    case true =>
      have hX := Lib.hid (show sb = false by rw [← hsb, q1]; rfl)
      clear hsb
      go_wp2_with (fail)
      go_meet
      exact ⟨by rw [hX.out]; rfl, rfl⟩
    case false =>
    cases q2 : decide (1099511627776 < base)
    case true =>
      have hX := Lib.hid (show sb = false by rw [← hsb, q1, q2]; rfl)
      clear hsb
      go_wp2_with (fail)
      go_meet
      exact ⟨by rw [hX.out]; rfl, rfl⟩
    case false =>
    cases q3 : (base % 64 != 0)
    case true =>
      have hX := Lib.hid (show sb = false by rw [← hsb, q1, q2, q3]; rfl)
      clear hsb
      go_wp2_with (fail)
      go_meet
      exact ⟨by rw [hX.out]; rfl, rfl⟩
    case false =>
      have hX := Lib.hid (show sb = true by rw [← hsb, q1, q2, q3]; rfl)
      clear hsb
      go_wp2_with (fail)
      go_meet
      exact ⟨by rw [hX.out]; rfl, rfl⟩
  case rest =>
    obtain ⟨rfl, rfl⟩ := hcut
    go_upto_if 37 with (fail)
    go_cut [11] (fun s11 wx => ∃ f : Int, s11 = .int .i64 f ∧ Hid (ApSt base n l 0 n f) ∧ wx = wc)
    case first =>
      cases sb
      · go_wp2_with (fail)
        go_meet
        exact ⟨2, rfl, Lib.hid (.inl ⟨HSB.out, rfl⟩), rfl⟩
      · go_wp2_with (fail)
        go_meet
        exact ⟨0, rfl, Lib.hid (.inr ⟨HSB.out, .inl ⟨rfl, rfl⟩⟩), rfl⟩
    case rest =>
      obtain ⟨f0, rfl, HSt0, rfl⟩ := hcut
      go_wp2_with (fail)
      go_loopw [11, 12] (fun fv iv wr => ∃ (k : Nat) (m : Nd) (f : Int), k ≤ l.length ∧ iv = .int .i64 k ∧ fv = .int .i64 f ∧ Hid (ApSt base n l k m f) ∧ Hid (LpW w b8 b10 n m8 m wr)) (fun _ iv _ => l.length - (intOf iv).toNat)
      case atStart => exact ⟨0, n, f0, by omega, rfl, rfl, HSt0, HW4⟩
      case round =>
        obtain ⟨k, m, f, hk1, rfl, rfl, HSt, HW⟩ := hrel
        clear HW4 HSt0
        cases hc : (decide (k < l.length) && (f == 0))
        case true =>
          simp only [Bool.and_eq_true, decide_eq_true_eq] at hc
          obtain ⟨hlt, hf0⟩ := hc
          have hlt' : (k : Int) < (l.length : Int) := by omega
          go_wp2_with (fail)
          have hst : standsB base = true := by
            rcases HSt.out with ⟨h1, h2⟩ | ⟨h1, h2⟩
            · subst h2; simp at hf0
            · exact h1
          have hS : Stands base := of_decide_eq_true hst
          have hap : applyL base n (l.take k) = some m := by
            rcases HSt.out with ⟨h1, h2⟩ | ⟨h1, ⟨_, h2⟩ | ⟨h2, _⟩⟩
            · subst h2; simp at hf0
            · exact h2
            · subst h2; simp at hf0
          obtain ⟨g, o, rfl, hg, hE⟩ := HIn.out (by omega)
          obtain ⟨c1, c2⟩ := hE.below HW.out.b hg k hlt
          obtain ⟨at_, hat⟩ : ∃ x, eK l k = x := ⟨_, rfl⟩
          obtain ⟨x, hx⟩ : ∃ x, eP l k = x := ⟨_, rfl⟩
          obtain ⟨m', hm'⟩ : ∃ z, (putV base m at_ x).1 = z := ⟨_, rfl⟩
          obtain ⟨f', hf'⟩ : ∃ z, (putV base m at_ x).2 = z := ⟨_, rfl⟩
          rw [hat] at c1
          rw [hx] at c2
          have HGB := Lib.hid (show ¬ g = b10 from fun e => by have := HW.out.lt; omega)
          --GEN r_applies
          refine wp_region_vals [Is (.int .u64 base), Is (.agg (ndCells m)), Is (.slice (some ⟨g, o, none⟩) l.length c), Is (.int .i64 k), Is (.pointer (some ⟨g, o + k * 2, none⟩)), Is (.agg #[.int .u64 at_, .int .u64 x]), Is (.tuple #[.agg (ndCells m'), .int .i64 f']), Is (.tuple #[.agg (ndCells m'), .int .i64 f']), Is (.agg (ndCells m')), Is (.int .i64 f'), Any, Is (.int .i64 f')]
            (Keeps (fun i => i = b10)) (fun L W => Keeps (fun i => i = b10) wr W ∧ Blk W b10 (ndCells (if L 10 = true then m' else m)) 27) (by kernel_rfl) (by kernel_rfl) (by kernel_rfl) ?hst ?h0 ⟨?o0, ?o1, ?o2, ?o3, ?o4, ?o5, ?o6, ?o7, ?o8, ?o9, ?o10, ?o11, trivial⟩ ?he
          case hst =>
            intro p hp; simp only [List.mem_cons, List.not_mem_nil, or_false] at hp; (repeat' (rcases hp with rfl | hp)); all_goals first | exact fun _ _ _ h _ => h | (subst hp; exact fun _ _ _ h _ => h)
          case h0 =>
            exact ⟨(Keeps.refl _ _).drew, HW.out.m.drew⟩
          case o0 =>
            intro L vs A W H hf hd K hK
            have e0 : A.tmps[0]?.getD undef = .int .u64 base := H.old 0 (by kernel_rfl)
            go_simp
            exact hK _ _ (Keeps.refl _ _) rfl (H.glob)
          case o1 =>
            intro L vs A W H hf hd K hK
            have e10 : A.tmps[10]?.getD undef = .pointer (some ⟨b10, 0, none⟩) := H.old 10 (by kernel_rfl)
            have n10 := H.notYet 10 1 rfl hf (by kernel_rfl)
            have hb := H.glob.2
            rw [n10] at hb
            rw [if_pos (show Region.wanted _ _ = true from rfl)]
            exact wp_load_nd _ rfl b10 m (ev_tmp e10) hb (hK _ _ (Keeps.refl _ _) rfl H.glob)
          case o2 =>
            intro L vs A W H hf hd K hK
            have e2 : A.tmps[2]?.getD undef = .slice (some ⟨g, o, none⟩) l.length c := H.old 2 (by kernel_rfl)
            go_simp
            exact hK _ _ (Keeps.refl _ _) rfl (H.glob)
          case o3 =>
            intro L vs A W H hf hd K hK
            have e12 : A.tmps[12]?.getD undef = .int .i64 k := H.old 12 (by kernel_rfl)
            go_simp
            exact hK _ _ (Keeps.refl _ _) rfl (H.glob)
          case o4 =>
            intro L vs A W H hf hd K hK
            have e51 := H.is 2 51 rfl rfl rfl (deps_of' hd 2 (by kernel_rfl)) (by kernel_rfl)
            have e52 := H.is 3 52 rfl rfl rfl (deps_of' hd 3 (by kernel_rfl)) (by kernel_rfl)
            go_simp
            exact hK _ _ (Keeps.refl _ _) rfl (H.glob)
          case o5 =>
            intro L vs A W H hf hd K hK
            have e53 := H.is 4 53 rfl rfl rfl (deps_of' hd 4 (by kernel_rfl)) (by kernel_rfl)
            have d1 := (H.glob.1.cell (p := ⟨g, o + k * 2, none⟩) (by have := HW.out.b.size; exact Nat.lt_of_lt_of_le hg this) HGB.out).trans c1
            have d2 := (H.glob.1.cell (p := ⟨g, o + k * 2 + 1, none⟩) (by have := HW.out.b.size; exact Nat.lt_of_lt_of_le hg this) HGB.out).trans c2
            go_simp
            exact hK _ _ (Keeps.refl _ _) rfl (H.glob)
          case o6 =>
            intro L vs A W H hf hd K hK
            have e49 := H.is 0 49 rfl rfl rfl (deps_of' hd 0 (by kernel_rfl)) (by kernel_rfl)
            have e50 := H.is 1 50 rfl rfl rfl (deps_of' hd 1 (by kernel_rfl)) (by kernel_rfl)
            have e54 := H.is 5 54 rfl rfl rfl (deps_of' hd 5 (by kernel_rfl)) (by kernel_rfl)
            rw [if_pos (show Region.wanted _ _ = true from rfl)]
            go_wp2_with (fail)
            refine (rapply_v base m at_ x _ hS).mono ?_
            rw [hm', hf']
            rintro e W2 ⟨rfl, hB⟩
            exact hK _ _ (Keeps.of_belowS hB) rfl ⟨H.glob.1.trans (Keeps.of_belowS hB), H.glob.2.below hB H.glob.2.lt⟩
          case o7 =>
            intro L vs A W H hf hd K hK
            have e55 := H.is 6 55 rfl rfl rfl (deps_of' hd 6 (by kernel_rfl)) (by kernel_rfl)
            go_simp
            exact hK _ _ (Keeps.refl _ _) rfl (H.glob)
          case o8 =>
            intro L vs A W H hf hd K hK
            have e48 := H.is 7 48 rfl rfl rfl (deps_of' hd 7 (by kernel_rfl)) (by kernel_rfl)
            go_simp
            exact hK _ _ (Keeps.refl _ _) rfl (H.glob)
          case o9 =>
            intro L vs A W H hf hd K hK
            have e48 := H.is 7 48 rfl rfl rfl (deps_of' hd 7 (by kernel_rfl)) (by kernel_rfl)
            go_simp
            exact hK _ _ (Keeps.refl _ _) rfl (H.glob)
          case o10 =>
            intro L vs A W H hf hd K hK
            have e10 : A.tmps[10]?.getD undef = .pointer (some ⟨b10, 0, none⟩) := H.old 10 (by kernel_rfl)
            have e56 := H.is 8 56 rfl rfl rfl (deps_of' hd 8 (by kernel_rfl)) (by kernel_rfl)
            have hb := H.glob.2
            rw [show L 10 = false from hf] at hb
            rw [if_pos (show Region.wanted _ _ = true from rfl)]
            exact wp_store_nd _ _ rfl b10 m' m (ev_tmp e10) (ev_tmp e56) hb (hK _ _ (keeps_setRow (S := fun i => i = b10) (Keeps.refl _ _) (.inl rfl) _) trivial ⟨keeps_setRow H.glob.1 (.inl rfl) _, hb.row _⟩)
          case o11 =>
            intro L vs A W H hf hd K hK
            have e57 := H.is 9 57 rfl rfl rfl (deps_of' hd 9 (by kernel_rfl)) (by kernel_rfl)
            go_simp
            exact hK _ _ (Keeps.refl _ _) rfl (H.glob)
          case he =>
            intro vs W hlen hv
            match vs, hlen, hv with
            | [x0_, x1_, x2_, x3_, x4_, x5_, x6_, x7_, x8_, x9_, x10_, x11_], _, hv =>
            obtain rfl : x0_ = (.int .u64 base) := by obtain ⟨z, h1, h2⟩ := hv 0 _ rfl; cases h1; exact h2
            obtain rfl : x1_ = (.agg (ndCells m)) := by obtain ⟨z, h1, h2⟩ := hv 1 _ rfl; cases h1; exact h2
            obtain rfl : x2_ = (.slice (some ⟨g, o, none⟩) l.length c) := by obtain ⟨z, h1, h2⟩ := hv 2 _ rfl; cases h1; exact h2
            obtain rfl : x3_ = (.int .i64 k) := by obtain ⟨z, h1, h2⟩ := hv 3 _ rfl; cases h1; exact h2
            obtain rfl : x4_ = (.pointer (some ⟨g, o + k * 2, none⟩)) := by obtain ⟨z, h1, h2⟩ := hv 4 _ rfl; cases h1; exact h2
            obtain rfl : x5_ = (.agg #[.int .u64 at_, .int .u64 x]) := by obtain ⟨z, h1, h2⟩ := hv 5 _ rfl; cases h1; exact h2
            obtain rfl : x6_ = (.tuple #[.agg (ndCells m'), .int .i64 f']) := by obtain ⟨z, h1, h2⟩ := hv 6 _ rfl; cases h1; exact h2
            obtain rfl : x7_ = (.tuple #[.agg (ndCells m'), .int .i64 f']) := by obtain ⟨z, h1, h2⟩ := hv 7 _ rfl; cases h1; exact h2
            obtain rfl : x8_ = (.agg (ndCells m')) := by obtain ⟨z, h1, h2⟩ := hv 8 _ rfl; cases h1; exact h2
            obtain rfl : x9_ = (.int .i64 f') := by obtain ⟨z, h1, h2⟩ := hv 9 _ rfl; cases h1; exact h2
            obtain rfl : x11_ = (.int .i64 f') := by obtain ⟨z, h1, h2⟩ := hv 11 _ rfl; cases h1; exact h2
            intro L hall hG
            clear hv hlen
            have h10 := hall 10 (by decide)
            have HW2 := Lib.hid (HW.out.next hG.1 (show Blk W b10 (ndCells m') 27 by have := hG.2; rwa [h10] at this))
            have HSt2 := Lib.hid (apSt_next HSt.out hst hlt hap (hat ▸ hx ▸ rfl : putA base m (eK l k) (eP l k) = putA base m at_ x) hm' hf')
            clear hG hall h10 hf0 hm' hf' hap hst hat hx c1 c2
            simp only [fill, if_true]
            go_simp
            go_wp2_with (fail)
            go_roundw
            case rel => exact ⟨k + 1, m', f', by omega, by go_num, rfl, HSt2, HW2⟩
            case measure => simp [intOf]; omega
          --END
        case false =>
          have hend := apSt_end HSt.out hk1 hc
          rw [HV.out] at hend
          obtain ⟨h1, h2⟩ := Prod.mk.inj hend
          subst h2
          have hEq := fun w => eq_nd m8 w
          have HKn := Lib.hid (fun w => known_v w)
          have HLv := Lib.hid (ndLoad HW.out.v)
          have HIv := Lib.hid (info27 m8)
          have hcs : decide (k < l.length) = false ∨ (decide (k < l.length) = true ∧ (f8 == 0) = false) := by
            cases h : decide (k < l.length)
            · exact .inl rfl
            · rw [h] at hc; exact .inr ⟨rfl, by simpa using hc⟩
          have q2 : (f8 == f8) = true := beq_self_eq_true f8
          clear hend hc HSt
          cases q1 : (f8 == 0)
          case true =>
            have q1' : (f8 != 0) = false := by rw [bne, q1]; rfl
            have hm : m8 = m := by rw [h1, if_pos (by simpa using q1)]
            subst hm
            have hlt : ¬ (k : Int) < (l.length : Int) := by
              rcases hcs with h | ⟨_, h⟩
              · simp at h; omega
              · rw [q1] at h; cases h
            have HLm := Lib.hid (ndLoad HW.out.m)
            clear h1 hcs
            go_wp2_with (first | (with_reducible refine wpList_load_part (o := ⟨some 61, _, _, _, _, _⟩) rfl 27 _ rfl b8 0 rfl (ndCells m8) _ HLv.out Try.underlying27 rfl HIv.out ?_) | (with_reducible refine wpList_load_part (o := ⟨some 62, _, _, _, _, _⟩) rfl 27 _ rfl b10 0 rfl (ndCells m8) _ HLm.out Try.underlying27 rfl HIv.out ?_) | (go_at_call 9; refine (HKn.out _).mono ?_; rintro e w5 ⟨rfl, hB⟩; have HB5 := Lib.hid (HW.out.b.trans (hB.mono HW.out.b.size)); clear hB))
            go_ret
            exact ⟨rfl, HB5.out⟩
          case false =>
            have q1' : (f8 != 0) = true := by rw [bne, q1]; rfl
            have hm : m8 = nd0 := by rw [h1, if_neg (by simpa using q1)]
            have HZ := Lib.hid hm
            clear hm
            have HW2 := Lib.hid (show LpW w b8 b10 n m8 m8 (wr.setRow b10 (ndCells m8)) from HW.out.next (keeps_setRow (S := fun i => i = b10) (Keeps.refl _ _) (.inl rfl) _) (HW.out.m.row _))
            have HLw := Lib.hid (ndLoad HW2.out.v)
            have HLm := Lib.hid (ndLoad HW2.out.m)
            have hcs' : (¬ (k : Int) < (l.length : Int)) ∨ (k : Int) < (l.length : Int) := by omega
            clear h1 hcs
            rcases hcs' with hlt | hlt
            · go_upto_region 13 with (fail)
              go_upto_region 14 with (refine wpList_store_ndc (o := ⟨none, .store 27 (.tmp 10) (.tmp 60), _, _, _, _⟩) rfl (.tmp 10) (.tmp 60) ?hoy b10 ?csy m8 m ?hxy ?hyy HW.out.m ?hmy ?_; (case hoy => rfl); (case hxy => rfl); (case hyy => rfl); (case hmy => rw [HZ.out]; rfl))
              go_simp
              go_wp2_with (first | (with_reducible refine wpList_load_part (o := ⟨some 61, _, _, _, _, _⟩) rfl 27 _ rfl b8 0 rfl (ndCells m8) _ HLw.out Try.underlying27 rfl HIv.out ?_) | (with_reducible refine wpList_load_part (o := ⟨some 62, _, _, _, _, _⟩) rfl 27 _ rfl b10 0 rfl (ndCells m8) _ HLm.out Try.underlying27 rfl HIv.out ?_) | (go_at_call 9; refine (HKn.out _).mono ?_; rintro e w5 ⟨rfl, hB⟩; have HB5 := Lib.hid (HW2.out.b.trans (hB.mono HW2.out.b.size)); clear hB))
              go_ret
              exact ⟨rfl, HB5.out⟩
            · go_upto_region 13 with (fail)
              go_upto_region 14 with (refine wpList_store_ndc (o := ⟨none, .store 27 (.tmp 10) (.tmp 60), _, _, _, _⟩) rfl (.tmp 10) (.tmp 60) ?hoz b10 ?csz m8 m ?hxz ?hyz HW.out.m ?hmz ?_; (case hoz => rfl); (case hxz => rfl); (case hyz => rfl); (case hmz => rw [HZ.out]; rfl))
              go_simp
              go_wp2_with (first | (with_reducible refine wpList_load_part (o := ⟨some 61, _, _, _, _, _⟩) rfl 27 _ rfl b8 0 rfl (ndCells m8) _ HLw.out Try.underlying27 rfl HIv.out ?_) | (with_reducible refine wpList_load_part (o := ⟨some 62, _, _, _, _, _⟩) rfl 27 _ rfl b10 0 rfl (ndCells m8) _ HLm.out Try.underlying27 rfl HIv.out ?_) | (go_at_call 9; refine (HKn.out _).mono ?_; rintro e w5 ⟨rfl, hB⟩; have HB5 := Lib.hid (HW2.out.b.trans (hB.mono HW2.out.b.size)); clear hB))
              go_ret
              exact ⟨rfl, HB5.out⟩
end Go.Proofs.Ytbpaefhihdhdeaa
