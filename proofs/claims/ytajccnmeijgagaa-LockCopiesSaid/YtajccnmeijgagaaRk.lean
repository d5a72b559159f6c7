/-
  THE DOCUMENT's LOCKS: Runs, Drop.
-/
import Derived.Test.YtajccnmeijgagaaRj
namespace Go.Proofs.Ytajccnmeijgagaa
open Go.RowKit Go.Maps
set_option linter.unusedVariables false

theorem nI_or {n : Nat} {l : List (Int × Int)} {W : Nat → Int} (hr : Rng n (lk l)) (hz : lk l 0 = none) (x : Int) :
    (nI l W x < 0 ∧ nxt (lk l) W x = none) ∨ (0 ≤ nI l W x ∧ nI l W x < n ∧ nxt (lk l) W x = some (nI l W x)) := by
  unfold nI nxt hldI
  cases h : lk l (W x.toNat) with
  | none =>
    left
    refine ⟨?_, rfl⟩
    simp only [Option.getD_none]
    split
    · omega
    · split <;> omega
  | some y =>
    obtain ⟨y0, y1⟩ := hr _ _ h
    have hne : W x.toNat ≠ 0 := fun e => by rw [e, hz] at h; cases h
    rw [if_neg hne]
    simp only [Option.getD_some]
    by_cases e : y = x
    · left
      rw [if_pos e, if_pos e]; exact ⟨by omega, rfl⟩
    · right
      rw [if_neg e, if_neg e]; exact ⟨y0, y1, rfl⟩
theorem it_succ (g : Int → Int) (k : Nat) (c : Int) : g (it g k c) = it g (k + 1) c := rfl
theorem circ_inj {g : Int → Int} {q : Int} {p : Nat} (hper : it g p q = q) (hmin : ∀ j, 1 ≤ j → j < p → it g j q ≠ q) : Inj g (it g 1 q) p := by
  intro a b hab hb e
  rw [← it_add, ← it_add] at e
  have h1 : it g (p - (b + 1) + (a + 1)) q = q := by rw [it_add, e, ← it_add, show p - (b + 1) + (b + 1) = p from by omega, hper]
  exact hmin (p - (b + 1) + (a + 1)) (by omega) (by omega) h1
theorem circ_at {g : Int → Int} {q : Int} {p : Nat} (h : Inj g (it g 1 q) p) {j : Nat} (h1 : 1 ≤ j) (h2 : j ≤ p) : (way g (it g 1 q) p).idxOf (it g j q) = j - 1 := by
  have := idx_way h (a := j - 1) (by omega)
  rwa [← it_add, show j - 1 + 1 = j from by omega] at this
/-- the loops -/
def RuA (l : List (Int × Int)) (W : Nat → Int) (c : Int) (d : Nat) (w : World) (cv iv : Value) (wr : World) : Prop :=
  ∃ i : Nat, i ≤ d ∧ iv = .int .i64 (i : Int) ∧ cv = .int .i64 (it (nI l W) i c) ∧ wr = w
def RuB (l : List (Int × Int)) (W : Nat → Int) (c : Int) (p : Nat) (w : World) (mv xv : Value) (wr : World) : Prop :=
  ∃ j : Nat, 1 ≤ j ∧ j ≤ p ∧ xv = .int .i64 (it (nI l W) j c) ∧ mv = .int .i64 (minIt (nI l W) c (j - 1)) ∧ wr = w
set_option maxRecDepth 100000 in
set_option maxHeartbeats 1000000 in
theorem rruns_v (w : World) (r n : Nat) (l : List (Int × Int)) (W : Nat → Int) (vL vW : Value) (t : RT w r n l W vL vW) (hn : n ≤ 64) (hr : Rng n (lk l)) (hz : lk l 0 = none) (c : Int) :
    Calls Try.prog 38 #[.pointer (some ⟨r, 0, none⟩), .int .i64 c] w fun e w' => e = .returned (.int .i64 (if 0 ≤ c ∧ c < n then runsF (nxt (lk l) W) (n + 1) [] c else -1)) ∧ w = w' := by
  have HIs := Lib.hid (is_v w r n l W vL vW t c)
  have HNx := Lib.hid (fun x h0 h1 => rnext_v w r n l W vL vW t x h0 h1)
  obtain ⟨aw, cw, rfl⟩ := own_form t.wts
  have c1 := t.c1
  by_cases hc : 0 ≤ c ∧ c < (n : Int)
  · have eis : isB n c = true := decide_eq_true hc
    rw [eis] at HIs
    rw [if_pos hc]
    rcases runs_plain (g := nI l W) (nx := nxt (lk l) W) (n := n) (c := c) (fun x _ _ => nI_or hr hz x) hc with ⟨d, hd, hlt, hend, hres⟩ | ⟨hall, p, hp1, hpn, hper, hmin, hres⟩
    · rw [hres]
      have HLt := Lib.hid hlt
      have HEnd := Lib.hid hend
      have HC := Lib.hid hc
      clear hlt hend hres t hr hz eis hc
      go_enter Try.func38, Try.ntmps38
      go_wp2_with (fail)
      refine HIs.out.mono ?_
      rintro e w' ⟨rfl, rfl⟩
      go_wp2_with (fail)
      go_loopw [1, 5] (fun cv iv wr => RuA l W c d w cv iv wr) (fun _ iv _ => n - (intOf iv).toNat)
      case atStart => exact ⟨0, Nat.zero_le _, rfl, rfl, rfl⟩
      case round =>
        obtain ⟨i, hi, rfl, rfl, rfl⟩ := hrel
        have hrng : 0 ≤ it (nI l W) i c ∧ it (nI l W) i c < n := by
          cases i with
          | zero => exact HC.out
          | succ i => exact HLt.out i (by omega)
        obtain ⟨x, hx⟩ : ∃ x, it (nI l W) i c = x := ⟨_, rfl⟩
        have b1 : (i : Int) < (n : Int) := by omega
        have HX := Lib.hid hx
        rw [hx] at hrng
        have HN := Lib.hid (HNx.out x hrng.1 hrng.2)
        have hs := it_succ (nI l W) i c
        rw [hx] at hs ⊢
        obtain ⟨y, hy⟩ : ∃ y, nI l W x = y := ⟨_, rfl⟩
        rw [hy] at HN hs
        by_cases hid : i < d
        · have hy0 : ¬ y < 0 := by have := (HLt.out i hid).1; rw [hx, hy] at this; omega
          have HS := Lib.hid hs
          clear hx hs hy hrng
          go_wp2_with (fail)
          refine HN.out.mono ?_
          rintro e w' ⟨rfl, rfl⟩
          go_wp2_with (fail)
          refine HN.out.mono ?_
          rintro e w' ⟨rfl, rfl⟩
          go_wp2_with (fail)
          go_roundw
          case rel => exact ⟨i + 1, by omega, by go_num, by rw [HS.out], by first | rfl | trivial⟩
          case measure => simp [intOf]; omega
        · obtain rfl : i = d := by omega
          have hy0 : y < 0 := by have := HEnd.out; rw [hx, hy] at this; exact this
          clear hx hs hy hrng
          go_wp2_with (fail)
          refine HN.out.mono ?_
          rintro e w' ⟨rfl, rfl⟩
          go_wp2_with (fail)
          go_ret
          exact ⟨by rw [HX.out]; rfl, rfl⟩
    · rw [hres]
      have HAll := Lib.hid hall
      have HPer := Lib.hid hper
      have HMin := Lib.hid hmin
      clear hall hper hmin hres t hr hz eis hc
      go_enter Try.func38, Try.ntmps38
      go_wp2_with (fail)
      refine HIs.out.mono ?_
      rintro e w' ⟨rfl, rfl⟩
      go_wp2_with (fail)
      go_loopw [1, 5] (fun cv iv wr => RuA l W c n w cv iv wr) (fun _ iv _ => n - (intOf iv).toNat)
      case atStart => exact ⟨0, Nat.zero_le _, rfl, rfl, rfl⟩
      case round =>
        obtain ⟨i, hi, rfl, rfl, rfl⟩ := hrel
        by_cases hid : i < n
        · have hrng := HAll.out i
          obtain ⟨x, hx⟩ : ∃ x, it (nI l W) i c = x := ⟨_, rfl⟩
          have b1 : (i : Int) < (n : Int) := by omega
          rw [hx] at hrng
          have HN := Lib.hid (HNx.out x hrng.1 hrng.2)
          have hs := it_succ (nI l W) i c
          rw [hx] at hs ⊢
          obtain ⟨y, hy⟩ : ∃ y, nI l W x = y := ⟨_, rfl⟩
          rw [hy] at HN hs
          have hy0 : ¬ y < 0 := by have := (HAll.out (i + 1)).1; rw [← hs] at this; omega
          have HS := Lib.hid hs
          clear hx hs hy hrng
          go_wp2_with (fail)
          refine HN.out.mono ?_
          rintro e w' ⟨rfl, rfl⟩
          go_wp2_with (fail)
          refine HN.out.mono ?_
          rintro e w' ⟨rfl, rfl⟩
          go_wp2_with (fail)
          go_roundw
          case rel => exact ⟨i + 1, by omega, by go_num, by rw [HS.out], by first | rfl | trivial⟩
          case measure => simp [intOf]; omega
        · obtain rfl : i = n := by omega
          have b1 : ¬ (i : Int) < (i : Int) := by omega
          have hrng := HAll.out i
          obtain ⟨q, hq⟩ : ∃ x, it (nI l W) i c = x := ⟨_, rfl⟩
          have HAd := Lib.hid (fun j => (it_add (nI l W) c j i))
          rw [hq] at hrng HPer HMin HAd ⊢
          have HN := Lib.hid (HNx.out q hrng.1 hrng.2)
          rw [show nI l W q = it (nI l W) 1 q from rfl] at HN
          have HQ := Lib.hid hq
          clear hq hrng
          go_wp2_with (fail)
          refine HN.out.mono ?_
          rintro e w' ⟨rfl, rfl⟩
          go_wp2_with (fail)
          have HCi := Lib.hid (circ_inj HPer.out HMin.out)
          go_loopw [6, 7] (fun mv xv wz => RuB l W q p wr mv xv wz) (fun _ xv _ => p - (way (nI l W) (it (nI l W) 1 q) p).idxOf (intOf xv))
          case atStart => exact ⟨1, Nat.le_refl _, hp1, rfl, rfl, rfl⟩
          case round =>
            obtain ⟨j, hj1, hjp, rfl, rfl, rfl⟩ := hrel
            obtain ⟨x, hx⟩ : ∃ x, it (nI l W) j q = x := ⟨_, rfl⟩
            obtain ⟨m, hm⟩ : ∃ x, minIt (nI l W) q (j - 1) = x := ⟨_, rfl⟩
            by_cases hlt : j < p
            · have hne : (x != q) = true := by rw [← hx]; exact bne_iff_ne.2 (HMin.out j hj1 hlt)
              have hrng := HAll.out (j + i)
              rw [HAd.out, hx] at hrng
              have HN2 := Lib.hid (HNx.out x hrng.1 hrng.2)
              rw [show nI l W x = it (nI l W) (j + 1) q by rw [← hx]; rfl] at HN2
              have HI1 := Lib.hid (circ_at HCi.out hj1 hjp)
              have HI2 := Lib.hid (circ_at HCi.out (j := j + 1) (by omega) hlt)
              have HMn := Lib.hid (show minIt (nI l W) q (j + 1 - 1) = min m x by
                rw [← hm, ← hx, show j + 1 - 1 = (j - 1) + 1 from by omega]
                show min _ (it (nI l W) (j - 1 + 1) q) = _
                rw [show j - 1 + 1 = j from by omega])
              rw [hx, hm]
              rw [hx] at HI1
              clear hx hm hrng
              by_cases hxm : x < m
              · rw [Int.min_eq_right (by omega)] at HMn
                go_wp2_with (fail)
                refine HN2.out.mono ?_
                rintro e w' ⟨rfl, rfl⟩
                go_wp2_with (fail)
                go_roundw
                case rel => exact ⟨j + 1, by omega, hlt, rfl, by rw [HMn.out], by first | rfl | trivial⟩
                case measure => simp only [intOf]; rw [HI1.out, HI2.out]; omega
              · rw [Int.min_eq_left (by omega)] at HMn
                go_wp2_with (fail)
                refine HN2.out.mono ?_
                rintro e w' ⟨rfl, rfl⟩
                go_wp2_with (fail)
                go_roundw
                case rel => exact ⟨j + 1, by omega, hlt, rfl, by rw [HMn.out], by first | rfl | trivial⟩
                case measure => simp only [intOf]; rw [HI1.out, HI2.out]; omega
            · obtain rfl : j = p := by omega
              have hne : (x != q) = false := by rw [← hx, HPer.out]; exact bne_self_eq_false _
              have HM := Lib.hid hm
              rw [hx, hm]
              clear hx hm
              go_wp2_with (fail)
              go_ret
              exact ⟨by rw [HQ.out, HM.out]; rfl, rfl⟩
  · have eis : isB n c = false := decide_eq_false hc
    rw [eis] at HIs
    rw [if_neg hc]
    clear t hr hz eis hc
    go_enter Try.func38, Try.ntmps38
    go_wp2_with (fail)
    refine HIs.out.mono ?_
    rintro e w' ⟨rfl, rfl⟩
    go_wp2_with (fail)
    go_ret
    exact ⟨rfl, rfl⟩

/-! ### Drop -/
/-- what Drop leaves of the list -/
def DropL (l : List (Int × Int)) (c : Int) (l' : List (Int × Int)) : Prop := (l'.map (·.1)).Nodup ∧ (∀ a, lk l' a = if lk l a = some c then none else lk l a) ∧ (∀ x ∈ l', x ∈ l) ∧ l'.length ≤ l.length
/-- behind so many releases -/
def DropI (l : List (Int × Int)) (ids : List Int) (k : Nat) (l' : List (Int × Int)) : Prop := (l'.map (·.1)).Nodup ∧ (∀ a, lk l' a = if a ∈ ids.take k then none else lk l a) ∧ (∀ x ∈ l', x ∈ l) ∧ l'.length ≤ l.length
theorem dropI_zero {l : List (Int × Int)} (h : (l.map (·.1)).Nodup) (ids : List Int) : DropI l ids 0 l := ⟨h, fun a => by simp, fun _ h => h, Nat.le_refl _⟩
theorem dropI_next {l l' : List (Int × Int)} {n : Nat} {c : Int} {k : Nat} (hc : 0 ≤ c ∧ c < n) (hn : (l.map (·.1)).Nodup) (h : DropI l (heldL l c) k l') (hk : k < (heldL l c).length) : DropI l (heldL l c) (k + 1) (rrL n l' c ((heldL l c).getD k 0)) := by
  obtain ⟨h1, h2, h3, h4⟩ := h
  have hg : (heldL l c).getD k 0 = (heldL l c)[k] := by simp [hk]
  have hlk : lk l ((heldL l c)[k]) = some c := (heldL_mem hn c _).1 (List.getElem_mem hk)
  have hnt : (heldL l c)[k] ∉ (heldL l c).take k := by
    intro hm
    obtain ⟨j, hj, e⟩ := List.mem_take_iff_getElem.1 hm
    have e1 := List.Nodup.idxOf_getElem (heldL_nodup hn c) j (by omega)
    have e2 := List.Nodup.idxOf_getElem (heldL_nodup hn c) k hk
    rw [e] at e1
    omega
  have hl' : lk l' ((heldL l c)[k]) = some c := by rw [h2, if_neg hnt, hlk]
  have hb : rrB n l' c ((heldL l c)[k]) = true := decide_eq_true ⟨hc.1, hc.2, by unfold hldI; rw [hl']; rfl⟩
  rw [hg]
  unfold rrL
  rw [if_pos hb]
  refine ⟨List.Nodup.sublist (List.Sublist.map _ List.filter_sublist) h1, fun a => ?_, fun x hx => h3 x ((List.mem_filter.1 hx).1), Nat.le_trans (List.length_filter_le _ _) h4⟩
  rw [lk_filter]
  unfold updI
  rw [List.take_succ_eq_append_getElem hk]
  by_cases e : a = (heldL l c)[k]
  · rw [if_pos e, if_pos (by rw [e]; exact List.mem_append.2 (.inr (List.mem_singleton.2 rfl)))]
  · rw [if_neg e, h2]
    by_cases e2 : a ∈ (heldL l c).take k
    · rw [if_pos e2, if_pos (List.mem_append.2 (.inl e2))]
    · rw [if_neg e2, if_neg (fun q => by rcases List.mem_append.1 q with q | q; exact e2 q; exact e (List.mem_singleton.1 q))]
theorem dropI_done {l l' : List (Int × Int)} {c : Int} {k : Nat} (hn : (l.map (·.1)).Nodup) (h : DropI l (heldL l c) k l') (hk : (heldL l c).length ≤ k) : DropL l c l' := by
  obtain ⟨h1, h2, h3⟩ := h
  refine ⟨h1, fun a => ?_, h3⟩
  rw [h2, List.take_of_length_le hk]
  by_cases e : a ∈ heldL l c
  · rw [if_pos e, if_pos ((heldL_mem hn c a).1 e)]
  · rw [if_neg e, if_neg (fun q => e ((heldL_mem hn c a).2 q))]
/-- the loop -/
def DrW (w w1 : World) (r n : Nat) (l : List (Int × Int)) (W : Nat → Int) (c : Int) (q : Nat) (vL vW hv : Value) (iv : Value) (wr : World) : Prop :=
  ∃ (k : Nat) (l' : List (Int × Int)) (W' : Nat → Int), k ≤ (heldL l c).length ∧ iv = .int .i64 (k : Int) ∧ DropI l (heldL l c) k l' ∧ (∀ x, x ≠ q → W' x = W x) ∧ RPost w r n l' W' vL vW wr (RS r vL vW) ∧
    wr.ownsRow w.heap.size 29 1 hv (heldL l c).length ((heldL l c).map (Value.int .u64))
theorem rrW_other {n : Nat} {W : Nat → Int} {q : Nat} {id : Int} {x : Nat} (h : x ≠ q) : rrW n W (q : Int) id x = W x := by
  unfold rrW
  split
  · unfold updN; rw [Int.toNat_natCast, if_neg h]
  · rfl
theorem updN_of_other {W W' : Nat → Int} {q : Nat} (h : ∀ x, x ≠ q → W' x = W x) (v : Int) : updN W' q v = updN W q v := by
  funext x
  unfold updN
  split
  · rfl
  · rename_i e; exact h x e
theorem RPost.step {w w1 w2 : World} {r n : Nat} {l2 : List (Int × Int)} {W2 : Nat → Int} {vL v1 vW : Value} (h1 : Keeps (RS r vL vW) w w1) (hv : ∀ i, v1.ownBlock = some i → RS r vL vW i ∨ w.heap.size ≤ i) (h2 : RPost w1 r n l2 W2 v1 vW w2 (RS r v1 vW)) : RPost w r n l2 W2 vL vW w2 (RS r vL vW) := by
  obtain ⟨v2, t2, k2, n2⟩ := h2
  have hsub : ∀ i, RS r v1 vW i → RS r vL vW i ∨ w.heap.size ≤ i := by
    rintro i (e | e | e)
    · exact .inl (.inl e)
    · exact hv i e
    · exact .inl (.inr (.inr e))
  refine ⟨v2, t2, h1.trans' k2 (fun i hi e => (hsub i e).elim id (fun q => by omega)), fun i h => ?_⟩
  rcases n2 i h with e | e
  · exact hsub i e
  · right; have := h1.size; omega
set_option maxRecDepth 100000 in
set_option maxHeartbeats 1000000 in
theorem rdrop_v (w : World) (r n : Nat) (l : List (Int × Int)) (W : Nat → Int) (vL vW : Value) (t : RT w r n l W vL vW) (hl : l.length ≤ 1000) (hnd : (l.map (·.1)).Nodup) (c : Int) :
    Calls Try.prog 32 #[.pointer (some ⟨r, 0, none⟩), .int .i64 c] w fun e w' => e = .returned (.tuple #[]) ∧
      ∃ l', (if 0 ≤ c ∧ c < n then DropL l c l' else l' = l) ∧ RPost w r n l' (if 0 ≤ c ∧ c < n then updN W c.toNat 0 else W) vL vW w' (RS r vL vW) := by
  have HIs := Lib.hid (is_v w r n l W vL vW t c)
  by_cases hc : 0 ≤ c ∧ c < (n : Int)
  · have eis : isB n c = true := decide_eq_true hc
    rw [eis] at HIs
    rw [if_pos hc]
    obtain ⟨q, rfl⟩ : ∃ q : Nat, (q : Int) = c := ⟨c.toNat, by omega⟩
    rw [Int.toNat_natCast]
    have HHe := Lib.hid (rheld_v w r n l W vL vW t hl q)
    have HT := Lib.hid t
    have HC := Lib.hid hc
    have HN := Lib.hid hnd
    have HLl := Lib.hid hl
    have hq : q < n := by omega
    clear eis hc t hnd hl
    go_enter Try.func32, Try.ntmps32
    go_wp2_with (fail)
    refine HIs.out.mono ?_
    rintro e w' ⟨rfl, rfl⟩
    go_wp2_with (fail)
    refine HHe.out.mono ?_
    rintro e w1 ⟨hv, rfl, ho, hB⟩
    have hT1 := HT.out.keptN (Keeps.of_below' hB)
    obtain ⟨a, ch, rfl⟩ := own_form ho
    have HP0 := Lib.hid (show DrW w w1 r n l W q q vL vW (.slice a (heldL l q).length ch) (.int .i64 0) w1 from ⟨0, l, W, Nat.zero_le _, rfl, dropI_zero HN.out _, fun _ _ => rfl, ⟨vL, hT1, (Keeps.of_below' hB).mono (fun _ _ h => h.elim), fun i h => .inl (.inr (.inl h))⟩, ho⟩)
    have hhl := heldL_len l q
    have HhL := Lib.hid hhl
    clear hT1 ho hB hhl
    obtain ⟨ids, hids⟩ : ∃ x, heldL l q = x := ⟨_, rfl⟩
    have HIds := Lib.hid hids
    rw [hids] at HP0 ⊢
    have b0 : ids.length ≤ 1000 := by rw [← hids]; exact Nat.le_trans HhL.out HLl.out
    clear hids
    go_wp2_with (fail)
    go_loopw [5] (fun iv wr => DrW w w1 r n l W q q vL vW (.slice a ids.length ch) iv wr) (fun iv _ => ids.length - (intOf iv).toNat)
    case atStart => exact HP0.out
    case round =>
      obtain ⟨k, l', W', hk, rfl, hd, hW, ⟨vL', t', k', n'⟩, ho⟩ := hrel
      rw [HIds.out] at hk hd ho
      have HT1 := Lib.hid t'
      have HK1 := Lib.hid k'
      have HN1 := Lib.hid n'
      have HO1 := Lib.hid ho
      have HW1 := Lib.hid hW
      have HD1 := Lib.hid hd
      clear t' k' n' hW hd HP0
      by_cases hlt : k < ids.length
      · obtain ⟨g, cap, e1, hg0, hg, _, _, _, hcs, _⟩ := own_shapeK ho (by omega)
        injection e1 with e2 _ e4
        obtain rfl : ch = cap := e4
        subst e2
        have d0 : wr.cell? ⟨g, k, none⟩ = some (.int .u64 (ids.getD k 0)) := by rw [hcs k (by omega)]; simp [hlt]
        have HG := Lib.hid hg
        have HG0 := Lib.hid hg0
        obtain ⟨id, hid⟩ : ∃ x, ids.getD k 0 = x := ⟨_, rfl⟩
        have HD2 := Lib.hid (show DropI l ids (k + 1) (rrL n l' q id) by
          have := dropI_next (n := n) HC.out HN.out (by rw [HIds.out]; exact HD1.out) (k := k) (by rw [HIds.out]; exact hlt)
          rw [HIds.out, hid] at this
          exact this)
        have HR := Lib.hid (rrel_v wr r n l' W' vL' vW HT1.out (by have := HD1.out.2.2.2; have := HLl.out; omega) q id)
        rw [hid] at d0
        have b1 : (k : Int) < (ids.length : Int) := by omega
        clear hcs ho hid hg hg0
        go_wp2_with (fail)
        refine HR.out.mono ?_
        rintro e w2 ⟨rfl, hp⟩
        have HP2 := Lib.hid (RPost.step HK1.out HN1.out hp)
        obtain ⟨v2, t2, k2, n2⟩ := hp
        have HO2 := Lib.hid (own_keeps HO1.out k2 (fun i hi => by
          cases hi
          rintro (e | e | e)
          · have e2 : g = r := e
            have := HT.out.blk.lt; have := HG0.out; omega
          · obtain ⟨D, hD⟩ := own_type HT1.out.own e
            obtain ⟨E, hE⟩ := own_type HO1.out (i := g) rfl
            rw [hD] at hE; cases hE
          · have := HT.out.lt g (.inr (.inr e)); have := HG0.out; omega))
        clear t2 k2 n2
        go_wp2_with (fail)
        go_roundw
        case rel => exact ⟨k + 1, _, _, by rw [HIds.out]; omega, by go_num, by rw [HIds.out]; exact HD2.out, fun x hx => (rrW_other hx).trans (HW1.out x hx), HP2.out, by rw [HIds.out]; exact HO2.out⟩
        case measure => simp [intOf]; omega
      · have b1 : ¬ (k : Int) < (ids.length : Int) := by omega
        obtain ⟨aw, cw, rfl⟩ := own_form HT1.out.wts
        obtain ⟨gw, rfl, hgl, hm, d1, df⟩ := HT1.out.wAt hq
        unfold maxLen at hm
        have c1 := HT1.out.c1
        have HDo := Lib.hid (dropI_done HN.out (by rw [HIds.out]; exact HD1.out) (by rw [HIds.out]; omega : (heldL l q).length ≤ k))
        have hp : RPost wr r n l' (updN W q 0) vL' (.slice (some ⟨gw, 0, none⟩) n cw) (wr.setCell ⟨gw, q, none⟩ (.int .u64 0)) (RS r vL' (.slice (some ⟨gw, 0, none⟩) n cw)) := by
          rw [← updN_of_other HW1.out]
          exact ⟨vL', (HT1.out.setW q 0).1, (HT1.out.setW q 0).2, fun i h => .inl (.inr (.inl h))⟩
        have HP2 := Lib.hid (RPost.step HK1.out HN1.out hp)
        clear hp ho
        go_wp2_with (fail)
        first | go_end0 | (refine bodyPost_ret (results_none rfl _ _ _) rfl ?_)
        exact ⟨rfl, l', HDo.out, HP2.out⟩
  · have eis : isB n c = false := decide_eq_false hc
    rw [eis] at HIs
    rw [if_neg hc]
    have HT := Lib.hid t
    clear eis t hnd
    go_enter Try.func32, Try.ntmps32
    go_wp2_with (fail)
    refine HIs.out.mono ?_
    rintro e w' ⟨rfl, rfl⟩
    go_wp2_with (fail)
    first | go_end0 | (refine bodyPost_ret (results_none rfl _ _ _) rfl ?_)
    exact ⟨rfl, vL, HT.out, Keeps.refl _ _, fun i h => .inl (.inr (.inl h))⟩
end Go.Proofs.Ytajccnmeijgagaa
