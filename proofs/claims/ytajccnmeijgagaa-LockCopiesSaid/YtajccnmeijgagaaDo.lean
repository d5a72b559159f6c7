/-
  leveelaw07's do: a call on both tables: both answer likewise, and go on side by side.
-/
import Derived.Test.YtajccnmeijgagaaAg
import Derived.Deep.DeepCutAuto
namespace Go.Proofs.Ytajccnmeijgagaa
open Go.RowKit Go.Maps
set_option linter.unusedVariables false

section
variable {w1 W W' : World} {b m r n k ba : Nat} {A : Array Value} {h h1 : Int → Option Int} {l l1 : List (Int × Int)} {W0 W1 : Nat → Int} {vL vL' vW : Value} {L : Nat → Bool}
theorem act_two {h : Int → Option Int} (hb : Blk W ba A 34) (t : Tab W b m (n : Int) h W0 k) : ¬ Two b m ba := by
  obtain ⟨D, ⟨es, cl, hm, _⟩, _⟩ := t.map
  have h2 := t.blk
  unfold Blk at hb h2
  rintro (e | e)
  · rw [e, h2] at hb; cases hb
  · rw [e, hm] at hb; cases hb
theorem act_rs (hb : Blk W ba A 34) (t : RT W r n l W0 vL vW) : ¬ RS r vL vW ba := by
  unfold Blk at hb
  rintro (e | e | e)
  · have := t.blk; unfold Blk at this; rw [e, this] at hb; cases hb
  · obtain ⟨C, hc⟩ := own_type t.own e; rw [hc] at hb; cases hb
  · obtain ⟨C, hc⟩ := own_type t.wts e; rw [hc] at hb; cases hb
/-- what a region has done that calls both -/
structure DoG (w1 : World) (b m r n k ba : Nat) (A : Array Value) (h h1 : Int → Option Int) (l l1 : List (Int × Int)) (W0 W1 : Nat → Int) (vL vW : Value) (L : Nat → Bool) (W : World) : Prop where
  a : Blk W ba A 34
  t0 : L 5 = false → Tab W b m n h W0 k
  t1 : L 5 = true → Tab W b m n h1 W1 (k + 1)
  r0 : L 11 = false → ∃ vL', RT W r n l W0 vL' vW ∧ ∀ i, vL'.ownBlock = some i → RS r vL vW i ∨ w1.heap.size ≤ i
  r1 : L 11 = true → ∃ vL', RT W r n l1 W1 vL' vW ∧ ∀ i, vL'.ownBlock = some i → RS r vL vW i ∨ w1.heap.size ≤ i
  kp : Keeps (fun i => Two b m i ∨ RS r vL vW i) w1 W
theorem DoG.start (ha : Blk w1 ba A 34) (t : Tab w1 b m n h W0 k) (q : RT w1 r n l W0 vL vW) : DoG w1 b m r n k ba A h h1 l l1 W0 W1 vL vW (fun _ => false) w1.drew := by
  have hk : Keeps NoB w1 w1.drew := (Keeps.refl _ _).drew
  exact ⟨ha.kept hk (fun h => h), fun _ => t.keptN hk, (by simp), fun _ => ⟨vL, q.keptN hk, fun i h => .inl (.inr (.inl h))⟩, (by simp), hk.mono (fun _ _ h => h.elim)⟩
theorem DoG.other (H : DoG w1 b m r n k ba A h h1 l l1 W0 W1 vL vW L W) {i : Nat} (e1 : 5 ≠ i) (e2 : 11 ≠ i) : DoG w1 b m r n k ba A h h1 l l1 W0 W1 vL vW (lset L i) W := by
  have q1 : lset L i 5 = L 5 := by unfold lset; rw [if_neg e1]
  have q2 : lset L i 11 = L 11 := by unfold lset; rw [if_neg e2]
  exact ⟨H.a, by rw [q1]; exact H.t0, by rw [q1]; exact H.t1, by rw [q2]; exact H.r0, by rw [q2]; exact H.r1, H.kp⟩
theorem rs_sub (hv : ∀ i, vL'.ownBlock = some i → RS r vL vW i ∨ w1.heap.size ≤ i) : ∀ i, RS r vL' vW i → RS r vL vW i ∨ w1.heap.size ≤ i := by
  rintro i (e | e | e)
  · exact .inl (.inl e)
  · exact hv i e
  · exact .inl (.inr (.inr e))
theorem DoG.s5 (H : DoG w1 b m r n k ba A h h1 l l1 W0 W1 vL vW L W) (hf : L 5 = false) (ht : Tab W' b m n h1 W1 (k + 1)) (hk : Keeps (Two b m) W W') : DoG w1 b m r n k ba A h h1 l l1 W0 W1 vL vW (lset L 5) W' := by
  have T := H.t0 hf
  have hR : ∀ {l2 : List (Int × Int)} {W2 : Nat → Int}, (∃ vL', RT W r n l2 W2 vL' vW ∧ ∀ i, vL'.ownBlock = some i → RS r vL vW i ∨ w1.heap.size ≤ i) → ∃ vL', RT W' r n l2 W2 vL' vW ∧ ∀ i, vL'.ownBlock = some i → RS r vL vW i ∨ w1.heap.size ≤ i := by
    rintro l2 W2 ⟨v, q, hv⟩
    exact ⟨v, q.kept hk (q.apart T), hv⟩
  exact ⟨H.a.kept hk (act_two H.a T), (fun e => by cases e), fun _ => ht, fun e => hR (H.r0 e), fun e => hR (H.r1 e), H.kp.trans (hk.mono (fun i _ e => .inl e))⟩
theorem DoG.s11 (H : DoG w1 b m r n k ba A h h1 l l1 W0 W1 vL vW L W) (hf : L 11 = false) (q : RT W r n l W0 vL' vW) (hv : ∀ i, vL'.ownBlock = some i → RS r vL vW i ∨ w1.heap.size ≤ i) (hp : RPost W r n l1 W1 vL' vW W' (RS r vL' vW)) : DoG w1 b m r n k ba A h h1 l l1 W0 W1 vL vW (lset L 11) W' := by
  obtain ⟨v2, q2, k2, n2⟩ := hp
  have sub := rs_sub (vW := vW) (r := r) hv
  have ap : ∀ {h2 : Int → Option Int} {W2 : Nat → Int} {k2 : Nat}, Tab W b m n h2 W2 k2 → Tab W' b m n h2 W2 k2 := fun T =>
    T.kept k2 (fun e => q.apart T b e (.inl rfl)) (fun e => q.apart T m e (.inr rfl))
  refine ⟨H.a.kept k2 (act_rs H.a q), fun e => ap (H.t0 e), fun e => ap (H.t1 e), (fun e => by cases e), fun _ => ⟨v2, q2, fun i e => ?_⟩, H.kp.trans' k2 (fun i hi e => (sub i e).elim .inr (fun x => by omega))⟩
  rcases n2 i e with x | x
  · exact sub i x
  · right; have := H.kp.size; omega
theorem DoG.done {K : Nat} (H : DoG w1 b m r n k ba A h h1 l l1 W0 W1 vL vW L W) (ha : Agr n h1 l1 ∧ k + 1 ≤ K ∧ l1.length ≤ K ∧ WZ n W1) (h5 : L 5 = true) (h11 : L 11 = true) :
    ∃ S' : Nat → Prop, JT n W b r K S' ∧ ∀ i, S' i → (Two b m i ∨ RS r vL vW i) ∨ w1.heap.size ≤ i := by
  obtain ⟨v2, q2, hv⟩ := H.r1 h11
  refine ⟨fun i => Two b m i ∨ RS r v2 vW i, ⟨m, h1, W1, k + 1, l1, v2, vW, H.t1 h5, q2, ha.1, ha.2.1, ha.2.2.1, ha.2.2.2, fun i h => h⟩, fun i e => ?_⟩
  rcases e with e | e
  · exact .inl (.inl e)
  · exact (rs_sub hv i e).elim (fun x => .inl (.inr x)) .inr
end
/-- what do leaves -/
def DoR (n : Nat) (w : World) (r K : Nat) (S : Nat → Prop) (b' : Nat) (wx : World) : Prop :=
  ∃ S' : Nat → Prop, JT n wx b' r (K + 1) S' ∧ Keeps S w wx ∧ ∀ i, S' i → S i ∨ w.heap.size ≤ i
theorem do_meet {n : Nat} {w w1 w2 : World} {b b' m r K : Nat} {S S2 : Nat → Prop} {vL vW : Value} (h1 : Keeps NoB w w1) (hS : ∀ i, Two b m i ∨ RS r vL vW i → S i) (hJ : JT n w2 b' r (K + 1) S2) (hk : Keeps (fun i => Two b m i ∨ RS r vL vW i) w1 w2) (h2 : ∀ i, S2 i → (Two b m i ∨ RS r vL vW i) ∨ w1.heap.size ≤ i) : DoR n w r K S b' w2 :=
  ⟨S2, hJ, (h1.mono (fun _ _ h => h.elim)).trans (hk.mono (fun i _ e => hS i e)), fun i e => (h2 i e).elim (fun x => .inl (hS i x)) (fun x => .inr (Nat.le_trans h1.size x))⟩
theorem rholder_j (n : Nat) (w : World) (r : Nat) (l : List (Int × Int)) (W : Nat → Int) (vL vW : Value) (t : RT w r n l W vL vW) (id x : Int) (h : hldI l id = x) :
    Calls Try.prog 33 #[.pointer (some ⟨r, 0, none⟩), .int .u64 id] w fun e w' => e = .returned (.int .i64 x) ∧ w = w' := by
  have := rholder_v w r n l W vL vW t id
  rwa [h] at this
set_option maxRecDepth 100000 in
set_option maxHeartbeats 4000000 in
theorem do_v (n : Nat) (w : World) (b r K : Nat) (S : Nat → Prop) (J : JT n w b r K S) (hn : 1 ≤ n) (h64 : n ≤ 64) (hK : K ≤ 1000) (kind c id : Int) (hid : (Lit.int .u64 id).wf = true) :
    Calls Try.prog 15 #[.pointer (some ⟨b, 0, none⟩), .pointer (some ⟨r, 0, none⟩), .agg #[.int .i64 kind, .int .i64 c, .int .u64 id]] w fun e w' => ∃ b', e = .returned (.tuple #[.pointer (some ⟨b', 0, none⟩), .bool true]) ∧ DoR n w r K S b' w' := by
  obtain ⟨ba, hba⟩ : ∃ x, w.heap.size = x := ⟨_, rfl⟩
  have HBa := Lib.hid hba
  have hk1 : Keeps NoB w (w.alloc (.cells #[.int .i64 kind, .int .i64 c, .int .u64 id] 34)) := (Keeps.refl _ _).alloc _
  have HA := Lib.hid (Blk.new w #[.int .i64 kind, .int .i64 c, .int .u64 id] 34)
  rw [hba] at HA
  have HJ1 := Lib.hid (J.keptN hk1)
  have HK1 := Lib.hid hk1
  have HS := Lib.hid (show ∀ i, S i → S i from fun _ h => h)
  have HId := Lib.hid hid
  obtain ⟨w1, hw1⟩ : ∃ x, w.alloc (.cells #[.int .i64 kind, .int .i64 c, .int .u64 id] 34) = x := ⟨_, rfl⟩
  have HW1 := Lib.hid hw1
  rw [hw1] at HA HJ1 HK1
  clear hba hk1 J hid hw1
  go_enter Try.func15, Try.ntmps15
  go_upto_region 1 with (fail)
  rw [HBa.out, HW1.out]
  go_cut [8] (fun s8 wx => s8 = .bool true ∧ wx = w1)
  case first =>
    go_wp2_with (fail)
    go_meet
    exact ⟨rfl, rfl⟩
  case rest =>
  obtain ⟨rfl, hwc⟩ := hcut
  rw [hwc]
  clear hwc
  have x0 : w1.cell? ⟨ba, 0, none⟩ = some (.int .i64 kind) := by rw [HA.out.cell]; rfl
  have x1 : w1.cell? ⟨ba, 1, none⟩ = some (.int .i64 c) := by rw [HA.out.cell]; rfl
  have x2 : w1.cell? ⟨ba, 2, none⟩ = some (.int .u64 id) := by rw [HA.out.cell]; rfl
  go_step
  go_step
  go_cut [0, 8] (fun s0 s8 wx => ∃ b', s0 = .pointer (some ⟨b', 0, none⟩) ∧ s8 = .bool true ∧ Hid (DoR n w r K S b' wx) ∧ Hid (Blk wx ba #[.int .i64 kind, .int .i64 c, .int .u64 id] 34))
  case first =>
    obtain ⟨m, h, W0, k, l, vL, vW, t, q, ag, hk, hl, hz, hS⟩ := HJ1.out
    have HWz := Lib.hid hz
    have HT := Lib.hid t
    have HR := Lib.hid q
    have HAg := Lib.hid ag
    have HSs := Lib.hid hS
    have HkM := Lib.hid (show k < maxLen by unfold maxLen; omega)
    have HlM := Lib.hid (show l.length ≤ 1000 by omega)
    have Hkl := Lib.hid (show k ≤ K ∧ l.length ≤ K from ⟨hk, hl⟩)
    have HnP := Lib.hid (show (0 : Int) < (n : Int) by omega)
    have HnM := Lib.hid (show (n : Int) ≤ 64 by omega)
    clear t q ag hS hk hl hz
    by_cases h1 : kind = 1
    · have k1 : (kind == 1) = true := beq_iff_eq.2 h1
      clear h1
      obtain ⟨tb, htb⟩ : ∃ x, tryB n h c id = x := ⟨_, rfl⟩
      have HTb := Lib.hid htb
      have HEq := Lib.hid (show rtB n l c id = tb by rw [← HAg.out.tryB]; exact htb)
      have HTw := Lib.hid (HAg.out.tryW W0 c id)
      have HAg1 := Lib.hid (show Agr n (tryH n h c id) (rtL n l c id) ∧ k + 1 ≤ K + 1 ∧ (rtL n l c id).length ≤ K + 1 ∧ WZ n (rtW n l W0 c id) from ⟨HAg.out.try c id HId.out, by have := Hkl.out.1; omega, by have := rtL_len n l c id; have := Hkl.out.2; omega, HWz.out.try l c id⟩)
      clear htb
      go_upto_region 4 with (fail)
      --GEN r_do4
      refine wp_region_vals [Is (.pointer (some ⟨b, 0, none⟩)), Is (.pointer (some ⟨ba, 1, none⟩)), Is (.int .i64 c), Is (.pointer (some ⟨ba, 2, none⟩)), Is (.int .u64 id), Is (.bool tb), Is (.pointer (some ⟨r, 0, none⟩)), Is (.pointer (some ⟨ba, 1, none⟩)), Is (.int .i64 c), Is (.pointer (some ⟨ba, 2, none⟩)), Is (.int .u64 id), Is (.bool tb), Is (.bool true), Is (.bool true)]
        (fun _ W W' => True) (fun L W => DoG w1 b m r n k ba #[.int .i64 kind, .int .i64 c, .int .u64 id] h (tryH n h c id) l (rtL n l c id) W0 (rtW n l W0 c id) vL vW L W) (by kernel_rfl) (by kernel_rfl) (by kernel_rfl) ?hst ?h0 ⟨?o0, ?o1, ?o2, ?o3, ?o4, ?o5, ?o6, ?o7, ?o8, ?o9, ?o10, ?o11, ?o12, ?o13, trivial⟩ ?he
      case hst =>
        exact ⟨(fun _ _ _ _ _ _ h _ => h), (fun _ _ _ _ _ _ h _ => h), (fun _ _ _ _ _ _ h _ => h), (fun _ _ _ _ _ _ h _ => h), (fun _ _ _ _ _ _ h _ => h), (fun _ _ _ _ _ _ h _ => h), (fun _ _ _ _ _ _ h _ => h), (fun _ _ _ _ _ _ h _ => h), (fun _ _ _ _ _ _ h _ => h), (fun _ _ _ _ _ _ h _ => h), (fun _ _ _ _ _ _ h _ => h), (fun _ _ _ _ _ _ h _ => h), (fun _ _ _ _ _ _ h _ => h), (fun _ _ _ _ _ _ h _ => h), trivial⟩
      case h0 =>
        exact DoG.start HA.out HT.out HR.out
      case o0 =>
        intro L vs A W H hf hd K hK
        have e0 : A.tmps[0]?.getD undef = .pointer (some ⟨b, 0, none⟩) := H.old 0 (by kernel_rfl)
        go_simp
        exact hK _ _ (trivial) rfl (H.glob.other (by decide) (by decide))
      case o1 =>
        intro L vs A W H hf hd K hK
        have e5 : A.tmps[5]?.getD undef = .pointer (some ⟨ba, 0, none⟩) := H.old 5 (by kernel_rfl)
        go_simp
        exact hK _ _ (trivial) rfl (H.glob.other (by decide) (by decide))
      case o2 =>
        intro L vs A W H hf hd K hK
        have e17 := H.is 1 17 rfl rfl rfl (deps_of' hd 1 (by kernel_rfl)) (by kernel_rfl)
        have d : W.cell? ⟨ba, 1, none⟩ = some (.int .i64 c) := by rw [H.glob.a.cell]; rfl
        go_simp
        exact hK _ _ (trivial) rfl (H.glob.other (by decide) (by decide))
      case o3 =>
        intro L vs A W H hf hd K hK
        have e5 : A.tmps[5]?.getD undef = .pointer (some ⟨ba, 0, none⟩) := H.old 5 (by kernel_rfl)
        go_simp
        exact hK _ _ (trivial) rfl (H.glob.other (by decide) (by decide))
      case o4 =>
        intro L vs A W H hf hd K hK
        have e19 := H.is 3 19 rfl rfl rfl (deps_of' hd 3 (by kernel_rfl)) (by kernel_rfl)
        have d : W.cell? ⟨ba, 2, none⟩ = some (.int .u64 id) := by rw [H.glob.a.cell]; rfl
        go_simp
        exact hK _ _ (trivial) rfl (H.glob.other (by decide) (by decide))
      case o5 =>
        intro L vs A W H hf hd K hK
        have e16 := H.is 0 16 rfl rfl rfl (deps_of' hd 0 (by kernel_rfl)) (by kernel_rfl)
        have e18 := H.is 2 18 rfl rfl rfl (deps_of' hd 2 (by kernel_rfl)) (by kernel_rfl)
        have e20 := H.is 4 20 rfl rfl rfl (deps_of' hd 4 (by kernel_rfl)) (by kernel_rfl)
        have ht := H.glob.t0 hf
        rw [if_pos (show Region.wanted _ _ = true from rfl)]
        go_wp2_with (fail)
        refine (try_f W b m n h W0 k ht HkM.out HnP.out HnM.out c id HId.out tb HTb.out).mono ?_
        rintro e W2 ⟨rfl, hT2, hK2⟩
        exact hK _ _ trivial rfl (H.glob.s5 hf (by rw [← HTw.out]; exact hT2) hK2)
      case o6 =>
        intro L vs A W H hf hd K hK
        have e1 : A.tmps[1]?.getD undef = .pointer (some ⟨r, 0, none⟩) := H.old 1 (by kernel_rfl)
        go_simp
        exact hK _ _ (trivial) rfl (H.glob.other (by decide) (by decide))
      case o7 =>
        intro L vs A W H hf hd K hK
        have e5 : A.tmps[5]?.getD undef = .pointer (some ⟨ba, 0, none⟩) := H.old 5 (by kernel_rfl)
        go_simp
        exact hK _ _ (trivial) rfl (H.glob.other (by decide) (by decide))
      case o8 =>
        intro L vs A W H hf hd K hK
        have e23 := H.is 7 23 rfl rfl rfl (deps_of' hd 7 (by kernel_rfl)) (by kernel_rfl)
        have d : W.cell? ⟨ba, 1, none⟩ = some (.int .i64 c) := by rw [H.glob.a.cell]; rfl
        go_simp
        exact hK _ _ (trivial) rfl (H.glob.other (by decide) (by decide))
      case o9 =>
        intro L vs A W H hf hd K hK
        have e5 : A.tmps[5]?.getD undef = .pointer (some ⟨ba, 0, none⟩) := H.old 5 (by kernel_rfl)
        go_simp
        exact hK _ _ (trivial) rfl (H.glob.other (by decide) (by decide))
      case o10 =>
        intro L vs A W H hf hd K hK
        have e25 := H.is 9 25 rfl rfl rfl (deps_of' hd 9 (by kernel_rfl)) (by kernel_rfl)
        have d : W.cell? ⟨ba, 2, none⟩ = some (.int .u64 id) := by rw [H.glob.a.cell]; rfl
        go_simp
        exact hK _ _ (trivial) rfl (H.glob.other (by decide) (by decide))
      case o11 =>
        intro L vs A W H hf hd K hK
        have e22 := H.is 6 22 rfl rfl rfl (deps_of' hd 6 (by kernel_rfl)) (by kernel_rfl)
        have e24 := H.is 8 24 rfl rfl rfl (deps_of' hd 8 (by kernel_rfl)) (by kernel_rfl)
        have e26 := H.is 10 26 rfl rfl rfl (deps_of' hd 10 (by kernel_rfl)) (by kernel_rfl)
        obtain ⟨vL2, ht, hv2⟩ := H.glob.r0 hf
        rw [if_pos (show Region.wanted _ _ = true from rfl)]
        go_wp2_with (fail)
        refine (rtry_v W r n l W0 vL2 vW ht HlM.out c id).mono ?_
        rintro e W2 ⟨rfl, hP2⟩
        rw [HEq.out]
        exact hK _ _ trivial rfl (H.glob.s11 hf ht hv2 hP2)
      case o12 =>
        intro L vs A W H hf hd K hK
        have e21 := H.is 5 21 rfl rfl rfl (deps_of' hd 5 (by kernel_rfl)) (by kernel_rfl)
        have e27 := H.is 11 27 rfl rfl rfl (deps_of' hd 11 (by kernel_rfl)) (by kernel_rfl)
        have hbb : (tb == tb) = true := beq_self_eq_true _
        go_simp
        exact hK _ _ (trivial) rfl (H.glob.other (by decide) (by decide))
      case o13 =>
        intro L vs A W H hf hd K hK
        have e28 := H.is 12 28 rfl rfl rfl (deps_of' hd 12 (by kernel_rfl)) (by kernel_rfl)
        go_simp
        exact hK _ _ (trivial) rfl (H.glob.other (by decide) (by decide))
      case he =>
        intro vs W hlen hv
        match vs, hlen, hv with
        | [x0_, x1_, x2_, x3_, x4_, x5_, x6_, x7_, x8_, x9_, x10_, x11_, x12_, x13_], _, hv =>
        obtain rfl : (.pointer (some ⟨b, 0, none⟩)) = x0_ := by obtain ⟨z, h1, h2⟩ := hv 0 _ rfl; cases h1; exact h2.symm
        obtain rfl : (.pointer (some ⟨ba, 1, none⟩)) = x1_ := by obtain ⟨z, h1, h2⟩ := hv 1 _ rfl; cases h1; exact h2.symm
        obtain rfl : (.int .i64 c) = x2_ := by obtain ⟨z, h1, h2⟩ := hv 2 _ rfl; cases h1; exact h2.symm
        obtain rfl : (.pointer (some ⟨ba, 2, none⟩)) = x3_ := by obtain ⟨z, h1, h2⟩ := hv 3 _ rfl; cases h1; exact h2.symm
        obtain rfl : (.int .u64 id) = x4_ := by obtain ⟨z, h1, h2⟩ := hv 4 _ rfl; cases h1; exact h2.symm
        obtain rfl : (.bool tb) = x5_ := by obtain ⟨z, h1, h2⟩ := hv 5 _ rfl; cases h1; exact h2.symm
        obtain rfl : (.pointer (some ⟨r, 0, none⟩)) = x6_ := by obtain ⟨z, h1, h2⟩ := hv 6 _ rfl; cases h1; exact h2.symm
        obtain rfl : (.pointer (some ⟨ba, 1, none⟩)) = x7_ := by obtain ⟨z, h1, h2⟩ := hv 7 _ rfl; cases h1; exact h2.symm
        obtain rfl : (.int .i64 c) = x8_ := by obtain ⟨z, h1, h2⟩ := hv 8 _ rfl; cases h1; exact h2.symm
        obtain rfl : (.pointer (some ⟨ba, 2, none⟩)) = x9_ := by obtain ⟨z, h1, h2⟩ := hv 9 _ rfl; cases h1; exact h2.symm
        obtain rfl : (.int .u64 id) = x10_ := by obtain ⟨z, h1, h2⟩ := hv 10 _ rfl; cases h1; exact h2.symm
        obtain rfl : (.bool tb) = x11_ := by obtain ⟨z, h1, h2⟩ := hv 11 _ rfl; cases h1; exact h2.symm
        obtain rfl : (.bool true) = x12_ := by obtain ⟨z, h1, h2⟩ := hv 12 _ rfl; cases h1; exact h2.symm
        obtain rfl : (.bool true) = x13_ := by obtain ⟨z, h1, h2⟩ := hv 13 _ rfl; cases h1; exact h2.symm
        intro L hall hG
        clear hv hlen
        have HJ2 := Lib.hid (hG.done HAg1.out (hall 5 (by decide)) (hall 11 (by decide)))
        have HBa2 := Lib.hid hG.a
        have HKp2 := Lib.hid hG.kp
        clear hG hall
        simp only [fill, if_true]
        go_simp
      --END
        go_wp2_with (fail)
        go_meet
        obtain ⟨S2, hJ2, hS2⟩ := HJ2.out
        exact ⟨b, rfl, rfl, Lib.hid (do_meet HK1.out HSs.out hJ2 HKp2.out hS2), Lib.hid HBa2.out⟩
    · have k1 : (kind == 1) = false := beq_eq_false_iff_ne.2 h1
      clear h1
      by_cases h2 : kind = 2
      · have k2 : (kind == 2) = true := beq_iff_eq.2 h2
        clear h2
        obtain ⟨tb, htb⟩ : ∃ x, relB n h c id = x := ⟨_, rfl⟩
        have HTb := Lib.hid htb
        have HEq := Lib.hid (show rrB n l c id = tb by rw [← HAg.out.relB]; exact htb)
        have HAg1 := Lib.hid (show Agr n (relH n h c id) (rrL n l c id) ∧ k + 1 ≤ K + 1 ∧ (rrL n l c id).length ≤ K + 1 ∧ WZ n (rrW n W0 c id) from ⟨HAg.out.rel c id, by have := Hkl.out.1; omega, by have := rrL_len n l c id; have := Hkl.out.2; omega, HWz.out.rel c id⟩)
        clear htb
        go_upto_region 6 with (fail)
        --GEN r_do6
        refine wp_region_vals [Is (.pointer (some ⟨b, 0, none⟩)), Is (.pointer (some ⟨ba, 1, none⟩)), Is (.int .i64 c), Is (.pointer (some ⟨ba, 2, none⟩)), Is (.int .u64 id), Is (.bool tb), Is (.pointer (some ⟨r, 0, none⟩)), Is (.pointer (some ⟨ba, 1, none⟩)), Is (.int .i64 c), Is (.pointer (some ⟨ba, 2, none⟩)), Is (.int .u64 id), Is (.bool tb), Is (.bool true), Is (.bool true)]
          (fun _ W W' => True) (fun L W => DoG w1 b m r n k ba #[.int .i64 kind, .int .i64 c, .int .u64 id] h (relH n h c id) l (rrL n l c id) W0 (rrW n W0 c id) vL vW L W) (by kernel_rfl) (by kernel_rfl) (by kernel_rfl) ?hst ?h0 ⟨?o0, ?o1, ?o2, ?o3, ?o4, ?o5, ?o6, ?o7, ?o8, ?o9, ?o10, ?o11, ?o12, ?o13, trivial⟩ ?he
        case hst =>
          exact ⟨(fun _ _ _ _ _ _ h _ => h), (fun _ _ _ _ _ _ h _ => h), (fun _ _ _ _ _ _ h _ => h), (fun _ _ _ _ _ _ h _ => h), (fun _ _ _ _ _ _ h _ => h), (fun _ _ _ _ _ _ h _ => h), (fun _ _ _ _ _ _ h _ => h), (fun _ _ _ _ _ _ h _ => h), (fun _ _ _ _ _ _ h _ => h), (fun _ _ _ _ _ _ h _ => h), (fun _ _ _ _ _ _ h _ => h), (fun _ _ _ _ _ _ h _ => h), (fun _ _ _ _ _ _ h _ => h), (fun _ _ _ _ _ _ h _ => h), trivial⟩
        case h0 =>
          exact DoG.start HA.out HT.out HR.out
        case o0 =>
          intro L vs A W H hf hd K hK
          have e0 : A.tmps[0]?.getD undef = .pointer (some ⟨b, 0, none⟩) := H.old 0 (by kernel_rfl)
          go_simp
          exact hK _ _ (trivial) rfl (H.glob.other (by decide) (by decide))
        case o1 =>
          intro L vs A W H hf hd K hK
          have e5 : A.tmps[5]?.getD undef = .pointer (some ⟨ba, 0, none⟩) := H.old 5 (by kernel_rfl)
          go_simp
          exact hK _ _ (trivial) rfl (H.glob.other (by decide) (by decide))
        case o2 =>
          intro L vs A W H hf hd K hK
          have e32 := H.is 1 32 rfl rfl rfl (deps_of' hd 1 (by kernel_rfl)) (by kernel_rfl)
          have d : W.cell? ⟨ba, 1, none⟩ = some (.int .i64 c) := by rw [H.glob.a.cell]; rfl
          go_simp
          exact hK _ _ (trivial) rfl (H.glob.other (by decide) (by decide))
        case o3 =>
          intro L vs A W H hf hd K hK
          have e5 : A.tmps[5]?.getD undef = .pointer (some ⟨ba, 0, none⟩) := H.old 5 (by kernel_rfl)
          go_simp
          exact hK _ _ (trivial) rfl (H.glob.other (by decide) (by decide))
        case o4 =>
          intro L vs A W H hf hd K hK
          have e34 := H.is 3 34 rfl rfl rfl (deps_of' hd 3 (by kernel_rfl)) (by kernel_rfl)
          have d : W.cell? ⟨ba, 2, none⟩ = some (.int .u64 id) := by rw [H.glob.a.cell]; rfl
          go_simp
          exact hK _ _ (trivial) rfl (H.glob.other (by decide) (by decide))
        case o5 =>
          intro L vs A W H hf hd K hK
          have e31 := H.is 0 31 rfl rfl rfl (deps_of' hd 0 (by kernel_rfl)) (by kernel_rfl)
          have e33 := H.is 2 33 rfl rfl rfl (deps_of' hd 2 (by kernel_rfl)) (by kernel_rfl)
          have e35 := H.is 4 35 rfl rfl rfl (deps_of' hd 4 (by kernel_rfl)) (by kernel_rfl)
          have ht := H.glob.t0 hf
          rw [if_pos (show Region.wanted _ _ = true from rfl)]
          go_wp2_with (fail)
          refine (rel_f W b m n h W0 k ht HnP.out HnM.out c id HId.out tb HTb.out).mono ?_
          rintro e W2 ⟨rfl, hT2, hK2⟩
          exact hK _ _ trivial rfl (H.glob.s5 hf (hT2.mono (Nat.le_succ k)) hK2)
        case o6 =>
          intro L vs A W H hf hd K hK
          have e1 : A.tmps[1]?.getD undef = .pointer (some ⟨r, 0, none⟩) := H.old 1 (by kernel_rfl)
          go_simp
          exact hK _ _ (trivial) rfl (H.glob.other (by decide) (by decide))
        case o7 =>
          intro L vs A W H hf hd K hK
          have e5 : A.tmps[5]?.getD undef = .pointer (some ⟨ba, 0, none⟩) := H.old 5 (by kernel_rfl)
          go_simp
          exact hK _ _ (trivial) rfl (H.glob.other (by decide) (by decide))
        case o8 =>
          intro L vs A W H hf hd K hK
          have e38 := H.is 7 38 rfl rfl rfl (deps_of' hd 7 (by kernel_rfl)) (by kernel_rfl)
          have d : W.cell? ⟨ba, 1, none⟩ = some (.int .i64 c) := by rw [H.glob.a.cell]; rfl
          go_simp
          exact hK _ _ (trivial) rfl (H.glob.other (by decide) (by decide))
        case o9 =>
          intro L vs A W H hf hd K hK
          have e5 : A.tmps[5]?.getD undef = .pointer (some ⟨ba, 0, none⟩) := H.old 5 (by kernel_rfl)
          go_simp
          exact hK _ _ (trivial) rfl (H.glob.other (by decide) (by decide))
        case o10 =>
          intro L vs A W H hf hd K hK
          have e40 := H.is 9 40 rfl rfl rfl (deps_of' hd 9 (by kernel_rfl)) (by kernel_rfl)
          have d : W.cell? ⟨ba, 2, none⟩ = some (.int .u64 id) := by rw [H.glob.a.cell]; rfl
          go_simp
          exact hK _ _ (trivial) rfl (H.glob.other (by decide) (by decide))
        case o11 =>
          intro L vs A W H hf hd K hK
          have e37 := H.is 6 37 rfl rfl rfl (deps_of' hd 6 (by kernel_rfl)) (by kernel_rfl)
          have e39 := H.is 8 39 rfl rfl rfl (deps_of' hd 8 (by kernel_rfl)) (by kernel_rfl)
          have e41 := H.is 10 41 rfl rfl rfl (deps_of' hd 10 (by kernel_rfl)) (by kernel_rfl)
          obtain ⟨vL2, ht, hv2⟩ := H.glob.r0 hf
          rw [if_pos (show Region.wanted _ _ = true from rfl)]
          go_wp2_with (fail)
          refine (rrel_v W r n l W0 vL2 vW ht HlM.out c id).mono ?_
          rintro e W2 ⟨rfl, hP2⟩
          rw [HEq.out]
          exact hK _ _ trivial rfl (H.glob.s11 hf ht hv2 hP2)
        case o12 =>
          intro L vs A W H hf hd K hK
          have e36 := H.is 5 36 rfl rfl rfl (deps_of' hd 5 (by kernel_rfl)) (by kernel_rfl)
          have e42 := H.is 11 42 rfl rfl rfl (deps_of' hd 11 (by kernel_rfl)) (by kernel_rfl)
          have hbb : (tb == tb) = true := beq_self_eq_true _
          go_simp
          exact hK _ _ (trivial) rfl (H.glob.other (by decide) (by decide))
        case o13 =>
          intro L vs A W H hf hd K hK
          have e43 := H.is 12 43 rfl rfl rfl (deps_of' hd 12 (by kernel_rfl)) (by kernel_rfl)
          go_simp
          exact hK _ _ (trivial) rfl (H.glob.other (by decide) (by decide))
        case he =>
          intro vs W hlen hv
          match vs, hlen, hv with
          | [x0_, x1_, x2_, x3_, x4_, x5_, x6_, x7_, x8_, x9_, x10_, x11_, x12_, x13_], _, hv =>
          obtain rfl : (.pointer (some ⟨b, 0, none⟩)) = x0_ := by obtain ⟨z, h1, h2⟩ := hv 0 _ rfl; cases h1; exact h2.symm
          obtain rfl : (.pointer (some ⟨ba, 1, none⟩)) = x1_ := by obtain ⟨z, h1, h2⟩ := hv 1 _ rfl; cases h1; exact h2.symm
          obtain rfl : (.int .i64 c) = x2_ := by obtain ⟨z, h1, h2⟩ := hv 2 _ rfl; cases h1; exact h2.symm
          obtain rfl : (.pointer (some ⟨ba, 2, none⟩)) = x3_ := by obtain ⟨z, h1, h2⟩ := hv 3 _ rfl; cases h1; exact h2.symm
          obtain rfl : (.int .u64 id) = x4_ := by obtain ⟨z, h1, h2⟩ := hv 4 _ rfl; cases h1; exact h2.symm
          obtain rfl : (.bool tb) = x5_ := by obtain ⟨z, h1, h2⟩ := hv 5 _ rfl; cases h1; exact h2.symm
          obtain rfl : (.pointer (some ⟨r, 0, none⟩)) = x6_ := by obtain ⟨z, h1, h2⟩ := hv 6 _ rfl; cases h1; exact h2.symm
          obtain rfl : (.pointer (some ⟨ba, 1, none⟩)) = x7_ := by obtain ⟨z, h1, h2⟩ := hv 7 _ rfl; cases h1; exact h2.symm
          obtain rfl : (.int .i64 c) = x8_ := by obtain ⟨z, h1, h2⟩ := hv 8 _ rfl; cases h1; exact h2.symm
          obtain rfl : (.pointer (some ⟨ba, 2, none⟩)) = x9_ := by obtain ⟨z, h1, h2⟩ := hv 9 _ rfl; cases h1; exact h2.symm
          obtain rfl : (.int .u64 id) = x10_ := by obtain ⟨z, h1, h2⟩ := hv 10 _ rfl; cases h1; exact h2.symm
          obtain rfl : (.bool tb) = x11_ := by obtain ⟨z, h1, h2⟩ := hv 11 _ rfl; cases h1; exact h2.symm
          obtain rfl : (.bool true) = x12_ := by obtain ⟨z, h1, h2⟩ := hv 12 _ rfl; cases h1; exact h2.symm
          obtain rfl : (.bool true) = x13_ := by obtain ⟨z, h1, h2⟩ := hv 13 _ rfl; cases h1; exact h2.symm
          intro L hall hG
          clear hv hlen
          have HJ2 := Lib.hid (hG.done HAg1.out (hall 5 (by decide)) (hall 11 (by decide)))
          have HBa2 := Lib.hid hG.a
          have HKp2 := Lib.hid hG.kp
          clear hG hall
          simp only [fill, if_true]
          go_simp
        --END
          go_wp2_with (fail)
          go_meet
          obtain ⟨S2, hJ2, hS2⟩ := HJ2.out
          exact ⟨b, rfl, rfl, Lib.hid (do_meet HK1.out HSs.out hJ2 HKp2.out hS2), Lib.hid HBa2.out⟩
      · have k2 : (kind == 2) = false := beq_eq_false_iff_ne.2 h2
        clear h2
        by_cases h3 : kind = 3
        · have k3 : (kind == 3) = true := beq_iff_eq.2 h3
          clear h3
          have HD1 := Lib.hid (drop_v w1 b m n h W0 k HT.out HnP.out HnM.out c)
          go_wp2_with (fail)
          refine HD1.out.mono ?_
          rintro e w2 ⟨rfl, hT2, hK2⟩
          have HR2 := Lib.hid (HR.out.kept hK2 (HR.out.apart HT.out))
          have HA2 := Lib.hid (HA.out.kept hK2 (act_two HA.out HT.out))
          have HD2 := Lib.hid (rdrop_v w2 r n l W0 vL vW HR2.out HlM.out HAg.out.nd c)
          have HT2 := Lib.hid hT2
          have HK2 := Lib.hid hK2
          have x1 : w2.cell? ⟨ba, 1, none⟩ = some (.int .i64 c) := by rw [HA2.out.cell]; rfl
          clear hT2 hK2
          go_wp2_with (fail)
          refine HD2.out.mono ?_
          rintro e w3 ⟨rfl, l', hl', hp⟩
          have HP := Lib.hid hp
          have HL' := Lib.hid hl'
          clear hp hl'
          go_wp2_with (fail)
          go_meet
          obtain ⟨v3, q3, k3, n3⟩ := HP.out
          have t3 := HT2.out.kept k3 (fun e => HR2.out.apart HT2.out b e (.inl rfl)) (fun e => HR2.out.apart HT2.out m e (.inr rfl))
          have hlen : l'.length ≤ l.length := by
            have hh := HL'.out
            by_cases hc : 0 ≤ c ∧ c < (n : Int)
            · rw [if_pos hc] at hh; exact hh.2.2.2
            · rw [if_neg hc] at hh; rw [hh]; exact Nat.le_refl _
          refine ⟨b, rfl, rfl, Lib.hid (do_meet (S2 := fun i => Two b m i ∨ RS r v3 vW i) (m := m) (vL := vL) (vW := vW) HK1.out HSs.out ⟨m, _, _, k, l', v3, vW, t3, q3, HAg.out.drop c HL'.out, by have := Hkl.out.1; omega, by have := Hkl.out.2; omega, HWz.out.drop c, fun i h => h⟩ ((HK2.out.mono (fun i _ e => .inl e)).trans' k3 (fun i hi e => .inr e)) (fun i e => ?_)), Lib.hid (HA2.out.kept k3 (act_rs HA2.out HR2.out))⟩
          rcases e with e | e | e | e
          · exact .inl (.inl e)
          · exact .inl (.inr (.inl e))
          · rcases n3 i e with z | z
            · exact .inl (.inr z)
            · right; have := HK2.out.size; omega
          · exact .inl (.inr (.inr (.inr e)))
        · have k3 : (kind == 3) = false := beq_eq_false_iff_ne.2 h3
          clear h3
          by_cases h4 : kind = 4
          · have k4 : (kind == 4) = true := beq_iff_eq.2 h4
            clear h4
            have HC := Lib.hid (copy_v w1 b m n h W0 k HT.out HnP.out)
            go_wp2_with (fail)
            refine HC.out.mono ?_
            rintro e w2 ⟨rfl, hT2, hB⟩
            have HT2 := Lib.hid hT2
            have HB := Lib.hid hB
            clear hT2 hB
            go_wp2_with (fail)
            go_meet
            have hk := Keeps.of_below' HB.out
            refine ⟨_, rfl, rfl, Lib.hid (do_meet (S2 := fun i => Two (w1.heap.size + 1) w1.heap.size i ∨ RS r vL vW i) (m := m) (vL := vL) (vW := vW) HK1.out HSs.out ⟨_, h, W0, k, l, vL, vW, HT2.out, HR.out.keptN hk, HAg.out, by have := Hkl.out.1; omega, by have := Hkl.out.2; omega, HWz.out, fun i h => h⟩ (hk.mono (fun _ _ h => h.elim)) (fun i e => ?_)), Lib.hid (HA.out.kept hk (fun h => h))⟩
            rcases e with e | e
            · right; unfold Two at e; omega
            · exact .inl (.inr e)
          · have k4 : (kind == 4) = false := beq_eq_false_iff_ne.2 h4
            clear h4
            go_wp2_with (fail)
            go_meet
            refine ⟨b, rfl, rfl, Lib.hid (do_meet (S2 := fun i => Two b m i ∨ RS r vL vW i) (m := m) (vL := vL) (vW := vW) HK1.out HSs.out ⟨m, h, W0, k, l, vL, vW, HT.out, HR.out, HAg.out, by have := Hkl.out.1; omega, by have := Hkl.out.2; omega, HWz.out, fun i h => h⟩ (Keeps.refl _ _) (fun i e => .inl e)), HA⟩
  case rest =>
    obtain ⟨b', rfl, rfl, HDo, HAc⟩ := hcut
    obtain ⟨S', hJ', hK', hS'⟩ := HDo.out
    obtain ⟨m, h, W0, k, l, vL, vW, t, q, ag, hk, hl, _, hS⟩ := hJ'
    have x2 : wc.cell? ⟨ba, 2, none⟩ = some (.int .u64 id) := by rw [HAc.out.cell]; rfl
    have HT := Lib.hid t
    have HR := Lib.hid q
    have HAg := Lib.hid ag
    have HnP := Lib.hid (show (0 : Int) < (n : Int) by omega)
    clear t q ag hS hk hl hK' hS' x0 x1
    rcases HAg.out.hld id with ⟨e1, e2⟩ | ⟨y, e1, e2, y0, y1⟩
    · have HH := Lib.hid (holder_no wc b' m n h W0 k HT.out HnP.out id HId.out e1)
      have HG := Lib.hid (rholder_j n wc r l W0 vL vW HR.out id _ e2)
      clear e1 e2
      go_wp2_with (fail)
      refine HH.out.mono ?_
      rintro e w2 ⟨rfl, rfl⟩
      go_wp2_with (fail)
      refine HG.out.mono ?_
      rintro e w2 ⟨rfl, rfl⟩
      go_wp2_with (fail)
      go_ret2
      exact ⟨b', rfl, HDo.out⟩
    · have HH := Lib.hid (holder_is wc b' m n h W0 k HT.out HnP.out id HId.out y e1)
      have HG := Lib.hid (rholder_j n wc r l W0 vL vW HR.out id _ e2)
      clear e1 e2
      have my : max y 0 = y := Int.max_eq_left y0
      go_wp2_with (fail)
      refine HH.out.mono ?_
      rintro e w2 ⟨rfl, rfl⟩
      go_wp2_with (fail)
      refine HG.out.mono ?_
      rintro e w2 ⟨rfl, rfl⟩
      go_wp2_with (fail)
      go_ret2
      exact ⟨b', rfl, HDo.out⟩
end Go.Proofs.Ytajccnmeijgagaa
