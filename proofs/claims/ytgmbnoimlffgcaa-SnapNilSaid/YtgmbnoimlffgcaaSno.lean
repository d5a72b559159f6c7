/-
  The document's Trim, and the law's trim: contracts.
-/
import Derived.Test.YtgmbnoimlffgcaaSnn
namespace Go.Proofs.Ytgmbnoimlffgcaa
open Go.RowKit
attribute [local go_sem] Oper.semAt_some
set_option linter.unusedVariables false

theorem results_nd1 {fn : Func} {w : World} {s : Nat} (hr : fn.results = #[.cell s 40]) (tmps : Array Value) (g : Nat) (n : Nd) (hs : tmps.getD s undef = .pointer (some ⟨g, 0, none⟩)) (h : Blk w g (ndCells n) 40) :
    (results fn tmps).run Try.prog w = .ok (.agg (ndCells n)) w := by
  have hl := run_loadVar_part (P := Try.prog) w g 0 40 (ndCells n) _ (ndLoad h) Try.underlying40 rfl (info27 n)
  have hs' : tmps[s]?.getD undef = .pointer (some ⟨g, 0, none⟩) := by rw [← hs]; simp
  simp [results, hr, hs', asAddr, hl]
/-! ### plain -/
def clrP (n : Nd) (a b : Nat) : Nd := { n with p := fun j => if a ≤ j ∧ j < b then 0 else n.p j }
def clrK (n : Nd) (a b : Nat) : Nd := { n with k := fun j => if a ≤ j ∧ j < b then 0 else n.k j }
theorem clrP_0 (n : Nd) (a : Nat) : clrP n a a = n := by
  unfold clrP
  rw [show (fun j => if a ≤ j ∧ j < a then 0 else n.p j) = n.p from funext (fun j => if_neg (by omega))]
theorem clrK_0 (n : Nd) (a : Nat) : clrK n a a = n := by
  unfold clrK
  rw [show (fun j => if a ≤ j ∧ j < a then 0 else n.k j) = n.k from funext (fun j => if_neg (by omega))]
theorem clrP_s (n : Nd) (a b : Nat) (h : a ≤ b) : (clrP n a b).withP b 0 = clrP n a (b + 1) := by
  unfold clrP Nd.withP
  congr 1
  funext j
  show (if j = b then 0 else if a ≤ j ∧ j < b then 0 else n.p j) = if a ≤ j ∧ j < b + 1 then 0 else n.p j
  by_cases e : j = b
  · rw [if_pos e, if_pos (by omega)]
  · rw [if_neg e]
    by_cases c : a ≤ j ∧ j < b
    · rw [if_pos c, if_pos (by omega)]
    · rw [if_neg c, if_neg (by omega)]
theorem clrK_s (n : Nd) (a b : Nat) (h : a ≤ b) : (clrK n a b).withK b 0 = clrK n a (b + 1) := by
  unfold clrK Nd.withK
  congr 1
  funext j
  show (if j = b then 0 else if a ≤ j ∧ j < b then 0 else n.k j) = if a ≤ j ∧ j < b + 1 then 0 else n.k j
  by_cases e : j = b
  · rw [if_pos e, if_pos (by omega)]
  · rw [if_neg e]
    by_cases c : a ≤ j ∧ j < b
    · rw [if_pos c, if_pos (by omega)]
    · rw [if_neg c, if_neg (by omega)]
theorem len_unique {n m : Nd} (hp : ∀ j, j < n.len → m.p j = n.p j) (hz : n.len < 8 → m.p n.len = 0) : m.len = n.len := by
  have h1 := n.len_le
  have h2 := m.len_le
  rcases Nat.lt_trichotomy m.len n.len with h | h | h
  · have := m.p_len (by omega)
    rw [hp _ h] at this
    exact absurd this (n.p_lt _ h)
  · exact h
  · exact absurd (hz (by omega)) (m.p_lt _ h)
theorem len_clrP (n : Nd) (b : Nat) : (clrP n n.len b).len = n.len := len_unique (fun j hj => if_neg (by omega)) (fun h => by
  show (if n.len ≤ n.len ∧ n.len < b then 0 else n.p n.len) = 0
  split
  · rfl
  · exact n.p_len h)
theorem len_clrK (n : Nd) (a b : Nat) : (clrK n a b).len = n.len := len_unique (fun j hj => rfl) (fun h => n.p_len h)
def rtrim (n : Nd) : Nd := clrK (clrP n n.len 8) (n.len + 1) 8
def trimN (n : Nd) : Nd := rtrim (clrK n n.len 8)
/-- the worlds on the way: the node's block, the answer's -/
structure TrW (w : World) (b1 b2 : Nat) (m : Nd) (W : World) : Prop where
  f : Blk W b1 (ndCells m) 40
  r : Blk W b2 (ndCells nd0) 40
  b : Below w.heap.size w W
  lt : w.heap.size ≤ b1 ∧ b1 < b2
section
variable {w W W' : World} {b1 b2 : Nat} {m : Nd}
theorem TrW.below (h : TrW w b1 b2 m W) (hB : Below W.heap.size W W') : TrW w b1 b2 m W' :=
  ⟨h.f.kept (Keeps.of_below' hB) (fun h => h), h.r.kept (Keeps.of_below' hB) (fun h => h), h.b.trans (hB.mono h.b.size), h.lt⟩
theorem TrW.setP (h : TrW w b1 b2 m W) (i : Nat) (hi : i < 8) (x : Int) : TrW w b1 b2 (m.withP i x) (W.setCell ⟨b1, 13 + i, none⟩ (.int .u64 x)) :=
  ⟨h.f.setp i hi x, h.r.other _ _ (by have := h.lt; omega), h.b.setCell (p := ⟨b1, 13 + i, none⟩) h.lt.1 _, h.lt⟩
theorem TrW.setK (h : TrW w b1 b2 m W) (i : Nat) (hi : i < 8) (x : Int) : TrW w b1 b2 (m.withK i x) (W.setCell ⟨b1, 5 + i, none⟩ (.int .u64 x)) :=
  ⟨h.f.setk i hi x, h.r.other _ _ (by have := h.lt; omega), h.b.setCell (p := ⟨b1, 5 + i, none⟩) h.lt.1 _, h.lt⟩
theorem TrW.start (w : World) (n : Nd) : TrW w w.heap.size (w.heap.size + 1) n ((w.alloc (.cells (ndCells n) 40)).alloc (.cells (ndCells nd0) 40)) := by
  have h := Blk.new (w.alloc (.cells (ndCells n) 40)) (ndCells nd0) 40
  have hs : (w.alloc (.cells (ndCells n) 40)).heap.size = w.heap.size + 1 := by simp
  rw [hs] at h
  exact ⟨(Blk.new w _ _).alloc _, h, ((Below.refl w.heap.size w).alloc (Nat.le_refl _) _).alloc (by omega) _, by omega⟩
end
set_option maxRecDepth 100000 in
set_option maxHeartbeats 16000000 in
theorem rtrim_v (n : Nd) (w : World) : Calls Try.prog 37 #[.agg (ndCells n)] w fun e w' => e = .returned (.agg (ndCells (rtrim n))) ∧ Below w.heap.size w w' := by
  have HT0 := Lib.hid (TrW.start w n)
  have HLn := Lib.hid (fun (m : Nd) (W : World) => rlen_calls m W)
  have hs1 : (w.alloc (.cells (ndCells n) 40)).heap.size = w.heap.size + 1 := by simp
  obtain ⟨b1, hb1⟩ : ∃ b1, w.heap.size = b1 := ⟨_, rfl⟩
  obtain ⟨b2, hb2⟩ : ∃ b2, b1 + 1 = b2 := ⟨_, rfl⟩
  rw [hb1, hb2] at HT0 hs1
  have HZ := Lib.hid hs1
  have HB1 := Lib.hid hb1
  clear hs1
  go_enter Try.func37, Try.ntmps37
  go_upto_region 1 with ((with_reducible refine wpList_alloc_ndAt (o := ⟨some 2, _, _, _, _, _⟩) rfl rfl b2 ?hz ?_); (case hz => exact HZ.out))
  simp [Act.put]
  generalize (w.alloc (.cells (ndCells n) 40)).alloc (.cells (ndCells nd0) 40) = w0 at *
  go_wp2_with (
    ((with_reducible refine wpList_load_part (o := ⟨some 6, .load 40 (.tmp 1), _, _, _, _⟩) ?hg 40 (.tmp 1) ?ho b1 0 ?hx (ndCells n) ?dd ?hc ?hu ?hd ?hi ?_); (case hg => rfl); (case ho => rfl); (case hx => exact ev_tmp (by simp)); (case hc => exact ndLoad HT0.out.f); (case hu => exact Try.underlying40); (case hd => rfl); (case hi => exact info27 _))
  )
  refine (HLn.out n w0).mono ?_
  rintro e w1 ⟨rfl, hB1⟩
  have HT1 := Lib.hid (HT0.out.below hB1)
  have hl8 := n.len_le
  have HP := Lib.hid (fun j (h : j < n.len) => n.p_lt j h)
  have HPl := Lib.hid (fun b => len_clrP n b)
  clear hB1 HT0
  obtain ⟨ln, hln⟩ : ∃ ln, n.len = ln := ⟨_, rfl⟩
  have HLE := Lib.hid hln
  rw [hln] at hl8 HP HPl ⊢
  clear hln
  go_wp2_with (fail)
  go_loopw [3] (fun iv wr => ∃ k : Nat, ln ≤ k ∧ k ≤ 8 ∧ iv = .int .i64 k ∧ TrW w b1 b2 (clrP n ln k) wr) (fun iv _ => 8 - (intOf iv).toNat)
  case atStart => exact ⟨ln, Nat.le_refl _, hl8, rfl, by rw [clrP_0]; exact HT1.out⟩
  case round =>
    obtain ⟨k, hk0, hk8, rfl, hT⟩ := hrel
    have HT := Lib.hid hT
    have HSc := Lib.hid (clrP_s n ln k hk0)
    have HL := Lib.hid (fun W => HLn.out (clrP n ln k) W)
    rw [HPl.out] at HL
    obtain ⟨m, hm⟩ : ∃ m, clrP n ln k = m := ⟨_, rfl⟩
    rw [hm] at HT HL HSc
    by_cases hlt : k < 8
    · have hkb : (k : Int) < 8 := by omega
      have HLT := Lib.hid hlt
      have HK0 := Lib.hid hk0
      have hkn : (0 : Int) ≤ (k : Int) := by omega
      clear hT
      by_cases hz : 0 < k ∧ m.p (k - 1) = 0
      · have d := (HT.out.f.cell (13 + (k - 1))).trans (ndCells_p m (k - 1) (by omega))
        rw [hz.2] at d
        have hk1 : 0 < k := hz.1
        have hkk : (k : Int) - 1 = ((k - 1 : Nat) : Int) := by omega
        have hkw : IntKind.i64.wrap ((k : Int) - 1) = ((k - 1 : Nat) : Int) := by rw [hkk]; exact IntWalk.i64_in _ (by omega)
        have hb1 : (0 : Int) ≤ ((k - 1 : Nat) : Int) := by omega
        have hb2 : ((k - 1 : Nat) : Int) < 8 := by omega
        have dk := (HT.out.f.cell (13 + k)).trans (ndCells_p m k hlt)
        have fk := HT.out.f.frozen (13 + k)
        clear hz hm hk0 hk8 hlt hkk
        go_wp2_with (fail)
        go_roundw
        case rel => exact ⟨k + 1, by have := HK0.out; omega, by have := HLT.out; omega, by go_num, by rw [← HSc.out]; exact HT.out.setP k HLT.out 0⟩
        case measure => have := HLT.out; simp [intOf]; omega
      · have hkl : k = ln := by
          rcases Nat.lt_or_ge ln k with h | h
          · exfalso
            refine hz ⟨by omega, ?_⟩
            rw [← hm]
            show (if ln ≤ k - 1 ∧ k - 1 < k then 0 else n.p (k - 1)) = 0
            rw [if_pos (by omega)]
          · omega
        have dk := (HT.out.f.cell (13 + k)).trans (ndCells_p m k hlt)
        have fk := HT.out.f.frozen (13 + k)
        by_cases hk1 : 0 < k
        · have d := (HT.out.f.cell (13 + (k - 1))).trans (ndCells_p m (k - 1) (by omega))
          obtain ⟨y, hy⟩ : ∃ y, m.p (k - 1) = y := ⟨_, rfl⟩
          rw [hy] at d
          have hyn : (y == 0) = false := beq_eq_false_iff_ne.2 (fun h => hz ⟨hk1, by rw [hy]; exact h⟩)
          have hkk : (k : Int) - 1 = ((k - 1 : Nat) : Int) := by omega
          have hkw : IntKind.i64.wrap ((k : Int) - 1) = ((k - 1 : Nat) : Int) := by rw [hkk]; exact IntWalk.i64_in _ (by omega)
          have hb1 : (0 : Int) ≤ ((k - 1 : Nat) : Int) := by omega
          have hb2 : ((k - 1 : Nat) : Int) < 8 := by omega
          have HKL := Lib.hid hkl
          clear hz hm hk0 hk8 hlt hkk hkl hy dk fk
          go_wp2_with ((with_reducible refine wpList_load_ndg (o := ⟨some 24, .load 40 (.tmp 1), _, _, _, _⟩) ?hw (.tmp 1) ?ho b1 m ?hx ?hb ?_); (case hw => rfl); (case ho => rfl); (case hx => exact ev_tmp (by simp)); (case hb => exact HT.out.f))
          refine (HL.out _).mono ?_
          rintro e w5 ⟨rfl, hB5⟩
          have HT5 := Lib.hid (HT.out.below hB5)
          have dk := (HT5.out.f.cell (13 + k)).trans (ndCells_p m k HLT.out)
          have fk := HT5.out.f.frozen (13 + k)
          have hqq : ((k : Int) == (ln : Int)) = true := by rw [HKL.out]; exact beq_self_eq_true _
          clear hB5
          go_wp2_with (fail)
          go_roundw
          case rel => exact ⟨k + 1, by have := HK0.out; omega, by have := HLT.out; omega, by go_num, by rw [← HSc.out]; exact HT5.out.setP k HLT.out 0⟩
          case measure => have := HLT.out; simp [intOf]; omega
        · have HKL := Lib.hid hkl
          clear hz hm hk0 hk8 hlt hkl dk fk
          go_wp2_with ((with_reducible refine wpList_load_ndg (o := ⟨some 24, .load 40 (.tmp 1), _, _, _, _⟩) ?hw (.tmp 1) ?ho b1 m ?hx ?hb ?_); (case hw => rfl); (case ho => rfl); (case hx => exact ev_tmp (by simp)); (case hb => exact HT.out.f))
          refine (HL.out _).mono ?_
          rintro e w5 ⟨rfl, hB5⟩
          have HT5 := Lib.hid (HT.out.below hB5)
          have dk := (HT5.out.f.cell (13 + k)).trans (ndCells_p m k HLT.out)
          have fk := HT5.out.f.frozen (13 + k)
          have hqq : ((k : Int) == (ln : Int)) = true := by rw [HKL.out]; exact beq_self_eq_true _
          clear hB5
          go_wp2_with (fail)
          go_roundw
          case rel => exact ⟨k + 1, by have := HK0.out; omega, by have := HLT.out; omega, by go_num, by rw [← HSc.out]; exact HT5.out.setP k HLT.out 0⟩
          case measure => have := HLT.out; simp [intOf]; omega
    · have hk : k = 8 := by omega
      subst hk
      have HM8 := Lib.hid hm
      clear hT hm hk0 hk8 hlt HSc
      go_wp2_with (
        ((with_reducible refine wpList_load_part (o := ⟨some 31, .load 40 (.tmp 1), _, _, _, _⟩) ?hg 40 (.tmp 1) ?ho b1 0 ?hx (ndCells m) ?dd ?hc ?hu ?hd ?hi ?_); (case hg => rfl); (case ho => rfl); (case hx => exact ev_tmp (by simp)); (case hc => exact ndLoad HT.out.f); (case hu => exact Try.underlying40); (case hd => rfl); (case hi => exact info27 _))
      )
      refine (HL.out _).mono ?_
      rintro e w5 ⟨rfl, hB5⟩
      have HT5 := Lib.hid (HT.out.below hB5)
      clear hB5 HT HL HT1
      go_wp2_with (fail)
      have HMz := Lib.hid (show ∀ j, ln ≤ j → j < 8 → m.p j = 0 from fun j h1 h2 => by rw [← HM8.out]; exact if_pos ⟨h1, h2⟩)
      have HQ0 := Lib.hid (show clrK m (ln + 1) ln = m from by unfold clrK; rw [show (fun j => if ln + 1 ≤ j ∧ j < ln then 0 else m.k j) = m.k from funext (fun j => if_neg (by omega))])
      go_loopw [5] (fun iv wr => ∃ k : Nat, ln ≤ k ∧ k ≤ 8 ∧ iv = .int .i64 k ∧ TrW w b1 b2 (clrK m (ln + 1) k) wr) (fun iv _ => 8 - (intOf iv).toNat)
      case atStart => exact ⟨ln, Nat.le_refl _, hl8, rfl, by rw [HQ0.out]; exact HT5.out⟩
      case round =>
        obtain ⟨k, hk0, hk8, rfl, hT⟩ := hrel
        by_cases hlt : k < 8
        · obtain ⟨q, hq⟩ : ∃ q, clrK m (ln + 1) k = q := ⟨_, rfl⟩
          rw [hq] at hT
          have hqp : q.withP k 0 = q := by
            rw [← hq]
            unfold Nd.withP clrK
            congr 1
            funext j
            by_cases e : j = k
            · rw [if_pos e, e]; exact (HMz.out k hk0 hlt).symm
            · rw [if_neg e]
          have hT2 := hT.setP k hlt 0
          rw [hqp] at hT2
          have dk := (hT.f.cell (13 + k)).trans (ndCells_p q k hlt)
          have fk := hT.f.frozen (13 + k)
          have dj := (hT2.f.cell (5 + k)).trans (ndCells_k q k hlt)
          have fj := hT2.f.frozen (5 + k)
          have hkb : (k : Int) < 8 := by omega
          have hkn : (0 : Int) ≤ (k : Int) := by omega
          have HT2 := Lib.hid hT2
          have HLT := Lib.hid hlt
          have HK0 := Lib.hid hk0
          by_cases hgt : ln < k
          · have hgt' : (ln : Int) < (k : Int) := by omega
            have HN := Lib.hid (show q.withK k 0 = clrK m (ln + 1) (k + 1) by rw [← hq]; exact clrK_s m (ln + 1) k (by omega))
            clear hq hqp hT hT2 hk0 hk8 hlt
            go_wp2_with (fail)
            go_roundw
            case rel => exact ⟨k + 1, by have := HK0.out; omega, by have := HLT.out; omega, by go_num, by rw [← HN.out]; exact HT2.out.setK k HLT.out 0⟩
            case measure => have := HLT.out; simp [intOf]; omega
          · have hkl : k = ln := by omega
            have hgt' : ¬ (ln : Int) < (k : Int) := by omega
            have HN := Lib.hid (show q = clrK m (ln + 1) (k + 1) by rw [← hq, hkl, clrK_0]; exact HQ0.out)
            clear hq hqp hT hT2 hk0 hk8 hlt hkl dj fj
            go_wp2_with (fail)
            go_roundw
            case rel => exact ⟨k + 1, by have := HK0.out; omega, by have := HLT.out; omega, by go_num, by rw [← HN.out]; exact HT2.out⟩
            case measure => have := HLT.out; simp [intOf]; omega
        · have hk : k = 8 := by omega
          subst hk
          have HT8 := Lib.hid hT
          have HR := Lib.hid (show rtrim n = clrK m (ln + 1) 8 by unfold rtrim; rw [HLE.out, HM8.out])
          obtain ⟨q, hq⟩ : ∃ q, clrK m (ln + 1) 8 = q := ⟨_, rfl⟩
          rw [hq] at HT8 HR
          clear hT hk0 hk8 hlt hq
          go_wp2_with (first
            | (
            ((with_reducible refine wpList_load_part (o := ⟨some 47, .load 40 (.tmp 1), _, _, _, _⟩) ?hg 40 (.tmp 1) ?ho b1 0 ?hx (ndCells q) ?dd ?hc ?hu ?hd ?hi ?_); (case hg => rfl); (case ho => rfl); (case hx => exact ev_tmp (by simp)); (case hc => exact ndLoad HT8.out.f); (case hu => exact Try.underlying40); (case hd => rfl); (case hi => exact info27 _))
            )
            | ((with_reducible refine wpList_store_ndc (o := ⟨none, .store 40 (.tmp 2) (.tmp 47), _, _, _, _⟩) ?hgc (.tmp 2) (.tmp 47) ?hoc b2 (ndCells q) q nd0 ?hxc ?hyc ?hbc ?hmc ?_); (case hgc => rfl); (case hoc => rfl); (case hxc => exact ev_tmp (by simp [Act.put])); (case hyc => exact ev_tmp (by simp [Act.put])); (case hmc => rfl); (case hbc => exact HT8.out.r)))
          (try simp only [Exit.inBlock, Exit.then])
          refine bodyPost_ret (results_nd1 (fn := Try.f37) rfl _ b2 q (by simp [Act.put]) (HT8.out.r.row _)) rfl ?_
          rw [HR.out]
          exact ⟨rfl, below_setRow HT8.out.b (by have := HT8.out.lt; omega) _⟩
end Go.Proofs.Ytgmbnoimlffgcaa
