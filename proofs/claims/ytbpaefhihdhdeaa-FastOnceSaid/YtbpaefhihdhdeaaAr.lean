/-
  The document's Apply of a store: a contract.
-/
import Derived.Test.YtbpaefhihdhdeaaFc
import Derived.Test.YtbpaefhihdhdeaaMk
namespace Go.Proofs.Ytbpaefhihdhdeaa
open Go.RowKit

/-- a node behind a store -/
def putA (base : Int) (n : Nd) (at_ x : Int) : Option Nd :=
  if at_ - base < 0 ∨ 192 ≤ at_ - base ∨ (at_ - base) % 8 ≠ 0 then none
  else if at_ - base = 8 then some { n with lo := x }
  else if at_ - base = 16 then some { n with nx := x }
  else if at_ - base = 24 then some { n with ct := x }
  else if at_ - base = 32 then some { n with fi := x }
  else if at_ - base < 64 then none
  else if (at_ - base) % 16 = 0 then some (n.withK ((at_ - base - 64) / 16).toNat x) else some (n.withP ((at_ - base - 64) / 16).toNat x)
def putV (base : Int) (n : Nd) (at_ x : Int) : Nd × Int := match putA base n at_ x with | some m => (m, 0) | none => (nd0, 2)
theorem putA_key (base : Int) (n : Nd) (i : Nat) (x : Int) (h : i < 8) : putA base n (base + 64 + 16 * (i : Int)) x = some (n.withK i x) := by
  have e : base + 64 + 16 * (i : Int) - base = 64 + 16 * (i : Int) := by omega
  unfold putA
  rw [e, if_neg (by omega), if_neg (by omega), if_neg (by omega), if_neg (by omega), if_neg (by omega), if_neg (by omega), if_pos (by omega)]
  congr 2
  omega
theorem putA_ptr (base : Int) (n : Nd) (i : Nat) (x : Int) (h : i < 8) : putA base n (base + 72 + 16 * (i : Int)) x = some (n.withP i x) := by
  have e : base + 72 + 16 * (i : Int) - base = 72 + 16 * (i : Int) := by omega
  unfold putA
  rw [e, if_neg (by omega), if_neg (by omega), if_neg (by omega), if_neg (by omega), if_neg (by omega), if_neg (by omega), if_neg (by omega)]
  congr 2
  omega
theorem putA_8 (base : Int) (n : Nd) (x : Int) : putA base n (base + 8) x = some { n with lo := x } := by
  unfold putA; rw [if_neg (by omega), if_pos (by omega)]
theorem putA_16 (base : Int) (n : Nd) (x : Int) : putA base n (base + 16) x = some { n with nx := x } := by
  unfold putA; rw [if_neg (by omega), if_neg (by omega), if_pos (by omega)]
theorem putA_24 (base : Int) (n : Nd) (x : Int) : putA base n (base + 24) x = some { n with ct := x } := by
  unfold putA; rw [if_neg (by omega), if_neg (by omega), if_neg (by omega), if_pos (by omega)]
theorem putA_32 (base : Int) (n : Nd) (x : Int) : putA base n (base + 32) x = some { n with fi := x } := by
  unfold putA; rw [if_neg (by omega), if_neg (by omega), if_neg (by omega), if_neg (by omega), if_pos (by omega)]
/-- where a store may go -/
inductive Where (base at_ : Int) : Prop
  | key (i : Nat) (h : i < 8) (e : at_ = base + 64 + 16 * (i : Int))
  | ptr (i : Nat) (h : i < 8) (e : at_ = base + 72 + 16 * (i : Int))
  | low (e : at_ = base + 8)
  | next (e : at_ = base + 16)
  | count (e : at_ = base + 24)
  | first (e : at_ = base + 32)
  | out (e : ∀ n x, putA base n at_ x = none) (h : ∀ i : Nat, i < 8 → at_ ≠ base + 64 + 16 * (i : Int) ∧ at_ ≠ base + 72 + 16 * (i : Int)) (h8 : at_ ≠ base + 8 ∧ at_ ≠ base + 16 ∧ at_ ≠ base + 24 ∧ at_ ≠ base + 32)
theorem where_ (base at_ : Int) : Where base at_ := by
  by_cases h1 : at_ - base < 0 ∨ 192 ≤ at_ - base ∨ (at_ - base) % 8 ≠ 0
  · exact .out (fun n x => by unfold putA; rw [if_pos h1]) (fun i hi => ⟨by omega, by omega⟩) ⟨by omega, by omega, by omega, by omega⟩
  by_cases h2 : at_ - base = 8
  · exact .low (by omega)
  by_cases h3 : at_ - base = 16
  · exact .next (by omega)
  by_cases h4 : at_ - base = 24
  · exact .count (by omega)
  by_cases h5 : at_ - base = 32
  · exact .first (by omega)
  by_cases h6 : at_ - base < 64
  · exact .out (fun n x => by unfold putA; rw [if_neg h1, if_neg h2, if_neg h3, if_neg h4, if_neg h5, if_pos h6]) (fun i hi => ⟨by omega, by omega⟩) ⟨by omega, by omega, by omega, by omega⟩
  by_cases h7 : (at_ - base) % 16 = 0
  · exact .key ((at_ - base - 64) / 16).toNat (by omega) (by omega)
  · exact .ptr ((at_ - base - 64) / 16).toNat (by omega) (by omega)

theorem kt_a (b : Int) (i : Nat) (_h0 : 0 ≤ b) (h : b ≤ 1099511627776) (hi8 : i ≤ 8) (w : World) : Calls Try.prog 28 #[.int .u64 b, .int .i64 i] w fun e w' => e = .returned (.int .u64 (b + 64 + 16 * (i : Int))) ∧ w' = w := by
  have b2 : (0 : Int) ≤ (i : Int) := by omega
  have b1 : (i : Int) ≤ 8 := by omega
  go_enter Try.func28, Try.ntmps28
  go_wp2_with (fail)
  go_ret
  exact ⟨rfl, rfl⟩
theorem pt_a (b : Int) (i : Nat) (_h0 : 0 ≤ b) (h : b ≤ 1099511627776) (hi8 : i ≤ 8) (w : World) : Calls Try.prog 29 #[.int .u64 b, .int .i64 i] w fun e w' => e = .returned (.int .u64 (b + 72 + 16 * (i : Int))) ∧ w' = w := by
  have b2 : (0 : Int) ≤ (i : Int) := by omega
  have b1 : (i : Int) ≤ 8 := by omega
  go_enter Try.func29, Try.ntmps29
  go_wp2_with (fail)
  go_ret
  exact ⟨rfl, rfl⟩

/-- the worlds on its way: the node's block, the store's, the answer's -/
def RaW (w : World) (n : Nd) (at_ x : Int) (w' : World) : Prop :=
  Blk w' w.heap.size (ndCells n) 27 ∧ Blk w' (w.heap.size + 1) #[.int .u64 at_, .int .u64 x] 36 ∧ Blk w' (w.heap.size + 2) (ndCells nd0) 27 ∧ Below w.heap.size w w'
theorem RaW.start (w : World) (n : Nd) (at_ x : Int) : RaW w n at_ x (((w.alloc (.cells (ndCells n) 27)).alloc (.cells #[.int .u64 at_, .int .u64 x] 36)).alloc (.cells (ndCells nd0) 27)) := by
  have h1 := Blk.new w (ndCells n) 27
  have h2 := Blk.new (w.alloc (.cells (ndCells n) 27)) #[.int .u64 at_, .int .u64 x] 36
  have h3 := Blk.new ((w.alloc (.cells (ndCells n) 27)).alloc (.cells #[.int .u64 at_, .int .u64 x] 36)) (ndCells nd0) 27
  have s1 : (w.alloc (.cells (ndCells n) 27)).heap.size = w.heap.size + 1 := by simp
  have s2 : ((w.alloc (.cells (ndCells n) 27)).alloc (.cells #[.int .u64 at_, .int .u64 x] 36)).heap.size = w.heap.size + 2 := by simp
  rw [s1] at h2
  rw [s2] at h3
  exact ⟨(h1.alloc _).alloc _, h2.alloc _, h3, (((Below.refl w.heap.size w).alloc (Nat.le_refl _) _).alloc (by omega) _).alloc (by omega) _⟩
theorem RaW.drewN {w : World} {n : Nd} {at_ x : Int} {w' : World} (h : RaW w n at_ x w') (k : Nat) : RaW w n at_ x (w'.drewN k) := ⟨h.1, h.2.1, h.2.2.1, below_drewN h.2.2.2 k⟩

set_option maxRecDepth 100000 in
set_option maxHeartbeats 6400000 in
theorem rapply_v (base : Int) (n : Nd) (at_ x : Int) (w : World) (hs : Stands base) :
    Calls Try.prog 11 #[.int .u64 base, .agg (ndCells n), .agg #[.int .u64 at_, .int .u64 x]] w fun e w' => MkP (putV base n at_ x).1 (putV base n at_ x).2 w e w' := by
  have HW := Lib.hid (where_ base at_)
  have hB := RaW.start w n at_ x
  have HZ := Lib.hid (show ((w.alloc (.cells (ndCells n) 27)).alloc (.cells #[.int .u64 at_, .int .u64 x] 36)).heap.size = w.heap.size + 2 by simp)
  have HS := Lib.hid hB
  obtain ⟨s1, s2, s3⟩ := hs
  have q1 : (base == 0) = false := by rw [beq_eq_false_iff_ne]; omega
  have q2 : decide (1099511627776 < base) = false := decide_eq_false (by omega)
  have q3 : (base % 64 != 0) = false := by rw [s3]; rfl
  have s0 : 0 ≤ base := by omega
  clear s3 hB
  go_enter Try.func11, Try.ntmps11
  go_wp2_with (with_reducible refine wpList_alloc_ndAt (o := ⟨some 6, _, _, _, _, _⟩) rfl rfl (w.heap.size + 2) ?hz ?_; (case hz => exact HZ.out))
  generalize ((w.alloc (.cells (ndCells n) 27)).alloc (.cells #[.int .u64 at_, .int .u64 x] 36)).alloc (.cells (ndCells nd0) 27) = w0 at *
  go_loopw [8] (fun iv wr => ∃ k : Nat, k ≤ 8 ∧ iv = .int .i64 k ∧ Hid (∀ j : Nat, j < k → at_ ≠ base + 64 + 16 * (j : Int) ∧ at_ ≠ base + 72 + 16 * (j : Int)) ∧ Hid (RaW w n at_ x wr)) (fun iv _ => 8 - (intOf iv).toNat)
  case atStart => exact ⟨0, by omega, rfl, Lib.hid (fun j hj => by omega), HS⟩
  case round =>
    obtain ⟨k, hk, rfl, HN, HR⟩ := hrel
    clear HS
    have c0 : wr.cell? ⟨w.heap.size + 1, 0, none⟩ = some (.int .u64 at_) := by rw [HR.out.2.1.cell]; rfl
    by_cases hlt : k < 8
    · have b1 : (k : Int) < 8 := by omega
      cases hq : (at_ == base + 64 + 16 * (k : Int))
      case true =>
        have HF := Lib.hid (show putV base n at_ x = (n.withK k x, 0) by
          have he : at_ = base + 64 + 16 * (k : Int) := by simpa using hq
          unfold putV; rw [he, putA_key base n k x hlt])
        go_wp2_with (fail)
        go_quiet ((go_at_call 28; exact Calls.quiet_of_same (kt_a base k s0 s2 (by omega) _)))
        have HR1 := Lib.hid (HR.out.drewN nq)
        generalize wr.drewN nq = w1 at *
        have hc0 : w1.cell? ⟨w.heap.size, 5 + k, none⟩ = some (.int .u64 (n.k k)) := by rw [HR1.out.1.cell, ndCells_k n k hlt]
        have hf0 : w1.frozen? ⟨w.heap.size, 5 + k, none⟩ = false := HR1.out.1.frozen _
        have hc1 : w1.cell? ⟨w.heap.size + 1, 1, none⟩ = some (.int .u64 x) := by rw [HR1.out.2.1.cell]; rfl
        have HLf := Lib.hid (ndLoad (HR1.out.1.setk k hlt x))
        have HZf := Lib.hid (HR1.out.2.2.1.other (b' := w.heap.size) (5 + k) (.int .u64 x) (by omega))
        have HBf := Lib.hid (HR1.out.2.2.2.setCell (p := ⟨w.heap.size, 5 + k, none⟩) (Nat.le_refl _) (.int .u64 x))
        have HIf := Lib.hid (info27 (n.withK k x))
        clear hq c0 HR
        go_wp2_with (first | (with_reducible refine wpList_load_part (o := ⟨some 36, _, _, _, _, _⟩) rfl 27 _ rfl w.heap.size 0 rfl (ndCells (n.withK k x)) _ HLf.out Try.underlying27 rfl HIf.out ?_) | (refine wpList_store_ndc (o := ⟨none, .store 27 (.tmp 6) (.tmp 36), _, _, _, _⟩) rfl (.tmp 6) (.tmp 36) ?hoa (w.heap.size + 2) ?csa (n.withK k x) nd0 ?hxa ?hya HZf.out ?hma ?_; (case hoa => rfl); (case hxa => rfl); (case hya => rfl); (case hma => rfl)))
        rw [HF.out]
        exact bodyPost_ret (results_nd rfl _ (w.heap.size + 2) (n.withK k x) rfl (HZf.out.row _)) rfl ⟨rfl, below_setRow HBf.out (by omega) _⟩
      case false =>
        have he1 := Lib.hid (show at_ ≠ base + 64 + 16 * (k : Int) by simpa using hq)
        go_wp2_with (fail)
        go_quiet ((go_at_call 28; exact Calls.quiet_of_same (kt_a base k s0 s2 (by omega) _)))
        have HR1 := Lib.hid (HR.out.drewN nq)
        generalize wr.drewN nq = w1 at *
        have c1 : w1.cell? ⟨w.heap.size + 1, 0, none⟩ = some (.int .u64 at_) := by rw [HR1.out.2.1.cell]; rfl
        clear hq c0 HR
        cases hp : (at_ == base + 72 + 16 * (k : Int))
        case true =>
          have HF := Lib.hid (show putV base n at_ x = (n.withP k x, 0) by
            have he : at_ = base + 72 + 16 * (k : Int) := by simpa using hp
            unfold putV; rw [he, putA_ptr base n k x hlt])
          go_wp2_with (fail)
          go_quiet ((go_at_call 29; exact Calls.quiet_of_same (pt_a base k s0 s2 (by omega) _)))
          have HR2 := Lib.hid (HR1.out.drewN nq)
          generalize w1.drewN nq = w2 at *
          have hc0 : w2.cell? ⟨w.heap.size, 13 + k, none⟩ = some (.int .u64 (n.p k)) := by rw [HR2.out.1.cell, ndCells_p n k hlt]
          have hf0 : w2.frozen? ⟨w.heap.size, 13 + k, none⟩ = false := HR2.out.1.frozen _
          have hc1 : w2.cell? ⟨w.heap.size + 1, 1, none⟩ = some (.int .u64 x) := by rw [HR2.out.2.1.cell]; rfl
          have HLf := Lib.hid (ndLoad (HR2.out.1.setp k hlt x))
          have HZf := Lib.hid (HR2.out.2.2.1.other (b' := w.heap.size) (13 + k) (.int .u64 x) (by omega))
          have HBf := Lib.hid (HR2.out.2.2.2.setCell (p := ⟨w.heap.size, 13 + k, none⟩) (Nat.le_refl _) (.int .u64 x))
          have HIf := Lib.hid (info27 (n.withP k x))
          clear hp c1 HR1
          go_wp2_with (first | (with_reducible refine wpList_load_part (o := ⟨some 48, _, _, _, _, _⟩) rfl 27 _ rfl w.heap.size 0 rfl (ndCells (n.withP k x)) _ HLf.out Try.underlying27 rfl HIf.out ?_) | (refine wpList_store_ndc (o := ⟨none, .store 27 (.tmp 6) (.tmp 48), _, _, _, _⟩) rfl (.tmp 6) (.tmp 48) ?hob (w.heap.size + 2) ?csb (n.withP k x) nd0 ?hxb ?hyb HZf.out ?hmb ?_; (case hob => rfl); (case hxb => rfl); (case hyb => rfl); (case hmb => rfl)))
          rw [HF.out]
          exact bodyPost_ret (results_nd rfl _ (w.heap.size + 2) (n.withP k x) rfl (HZf.out.row _)) rfl ⟨rfl, below_setRow HBf.out (by omega) _⟩
        case false =>
          have he2 := Lib.hid (show at_ ≠ base + 72 + 16 * (k : Int) by simpa using hp)
          go_wp2_with (fail)
          go_quiet ((go_at_call 29; exact Calls.quiet_of_same (pt_a base k s0 s2 (by omega) _)))
          have HR2 := Lib.hid (HR1.out.drewN nq)
          generalize w1.drewN nq = w2 at *
          clear hp c1 HR1
          go_wp2_with (fail)
          go_roundw
          case rel => exact ⟨k + 1, by omega, by go_num, Lib.hid (fun j hj => by
            rcases Nat.lt_succ_iff_lt_or_eq.1 hj with h | h
            · exact HN.out j h
            · rw [h]; exact ⟨he1.out, he2.out⟩), HR2⟩
          case measure => simp [intOf]; omega
    · obtain rfl : k = 8 := by omega
      clear c0 hlt
      have c0 : wr.cell? ⟨w.heap.size + 1, 0, none⟩ = some (.int .u64 at_) := by rw [HR.out.2.1.cell]; rfl
      have hc1 : wr.cell? ⟨w.heap.size + 1, 1, none⟩ = some (.int .u64 x) := by rw [HR.out.2.1.cell]; rfl
      have t1 : wr.cell? ⟨w.heap.size, 1, none⟩ = some (.int .u64 n.lo) := by rw [HR.out.1.cell, ndCells_1]
      have t2 : wr.cell? ⟨w.heap.size, 2, none⟩ = some (.int .u64 n.nx) := by rw [HR.out.1.cell, ndCells_2]
      have t3 : wr.cell? ⟨w.heap.size, 3, none⟩ = some (.int .u64 n.ct) := by rw [HR.out.1.cell, ndCells_3]
      have t4 : wr.cell? ⟨w.heap.size, 4, none⟩ = some (.int .u64 n.fi) := by rw [HR.out.1.cell, ndCells_4]
      have g1 := HR.out.1.frozen 1
      have g2 := HR.out.1.frozen 2
      have g3 := HR.out.1.frozen 3
      have g4 := HR.out.1.frozen 4
      rcases HW.out with ⟨i, h, e⟩ | ⟨i, h, e⟩ | ⟨e⟩ | ⟨e⟩ | ⟨e⟩ | ⟨e⟩ | ⟨e, h, h8⟩
      · exact absurd e (HN.out i h).1
      · exact absurd e (HN.out i h).2
      · have r0 : (at_ == base + 8) = true := by rw [beq_iff_eq]; exact e
        have HF := Lib.hid (show putV base n at_ x = ({ n with lo := x }, 0) by unfold putV; rw [e, putA_8])
        have hkf := HR.out.1.set 1 (.int .u64 x)
        rw [ndCells_set1] at hkf
        have HLf := Lib.hid (ndLoad hkf)
        have HZf := Lib.hid (HR.out.2.2.1.other (b' := w.heap.size) 1 (.int .u64 x) (by omega))
        have HBf := Lib.hid (HR.out.2.2.2.setCell (p := ⟨w.heap.size, 1, none⟩) (Nat.le_refl _) (.int .u64 x))
        have HIf := Lib.hid (info27 { n with lo := x })
        clear e hkf HR HN
        go_wp2_with (first | (with_reducible refine wpList_load_part (o := ⟨some 80, _, _, _, _, _⟩) rfl 27 _ rfl w.heap.size 0 rfl (ndCells { n with lo := x }) _ HLf.out Try.underlying27 rfl HIf.out ?_) | (refine wpList_store_ndc (o := ⟨none, .store 27 (.tmp 6) (.tmp 80), _, _, _, _⟩) rfl (.tmp 6) (.tmp 80) ?hoc (w.heap.size + 2) ?csc { n with lo := x } nd0 ?hxc ?hyc HZf.out ?hmc ?_; (case hoc => rfl); (case hxc => rfl); (case hyc => rfl); (case hmc => rfl)))
        rw [HF.out]
        exact bodyPost_ret (results_nd rfl _ (w.heap.size + 2) { n with lo := x } rfl (HZf.out.row _)) rfl ⟨rfl, below_setRow HBf.out (by omega) _⟩
      · have r0 : (at_ == base + 8) = false := by rw [beq_eq_false_iff_ne]; omega
        have r1 : (at_ == base + 16) = true := by rw [beq_iff_eq]; exact e
        have HF := Lib.hid (show putV base n at_ x = ({ n with nx := x }, 0) by unfold putV; rw [e, putA_16])
        have hkf := HR.out.1.set 2 (.int .u64 x)
        rw [ndCells_set2] at hkf
        have HLf := Lib.hid (ndLoad hkf)
        have HZf := Lib.hid (HR.out.2.2.1.other (b' := w.heap.size) 2 (.int .u64 x) (by omega))
        have HBf := Lib.hid (HR.out.2.2.2.setCell (p := ⟨w.heap.size, 2, none⟩) (Nat.le_refl _) (.int .u64 x))
        have HIf := Lib.hid (info27 { n with nx := x })
        clear e hkf HR HN
        go_wp2_with (first | (with_reducible refine wpList_load_part (o := ⟨some 80, _, _, _, _, _⟩) rfl 27 _ rfl w.heap.size 0 rfl (ndCells { n with nx := x }) _ HLf.out Try.underlying27 rfl HIf.out ?_) | (refine wpList_store_ndc (o := ⟨none, .store 27 (.tmp 6) (.tmp 80), _, _, _, _⟩) rfl (.tmp 6) (.tmp 80) ?hod (w.heap.size + 2) ?csd { n with nx := x } nd0 ?hxd ?hyd HZf.out ?hmd ?_; (case hod => rfl); (case hxd => rfl); (case hyd => rfl); (case hmd => rfl)))
        rw [HF.out]
        exact bodyPost_ret (results_nd rfl _ (w.heap.size + 2) { n with nx := x } rfl (HZf.out.row _)) rfl ⟨rfl, below_setRow HBf.out (by omega) _⟩
      · have r0 : (at_ == base + 8) = false := by rw [beq_eq_false_iff_ne]; omega
        have r1 : (at_ == base + 16) = false := by rw [beq_eq_false_iff_ne]; omega
        have r2 : (at_ == base + 24) = true := by rw [beq_iff_eq]; exact e
        have HF := Lib.hid (show putV base n at_ x = ({ n with ct := x }, 0) by unfold putV; rw [e, putA_24])
        have hkf := HR.out.1.set 3 (.int .u64 x)
        rw [ndCells_set3] at hkf
        have HLf := Lib.hid (ndLoad hkf)
        have HZf := Lib.hid (HR.out.2.2.1.other (b' := w.heap.size) 3 (.int .u64 x) (by omega))
        have HBf := Lib.hid (HR.out.2.2.2.setCell (p := ⟨w.heap.size, 3, none⟩) (Nat.le_refl _) (.int .u64 x))
        have HIf := Lib.hid (info27 { n with ct := x })
        clear e hkf HR HN
        go_wp2_with (first | (with_reducible refine wpList_load_part (o := ⟨some 80, _, _, _, _, _⟩) rfl 27 _ rfl w.heap.size 0 rfl (ndCells { n with ct := x }) _ HLf.out Try.underlying27 rfl HIf.out ?_) | (refine wpList_store_ndc (o := ⟨none, .store 27 (.tmp 6) (.tmp 80), _, _, _, _⟩) rfl (.tmp 6) (.tmp 80) ?hoe (w.heap.size + 2) ?cse { n with ct := x } nd0 ?hxe ?hye HZf.out ?hme ?_; (case hoe => rfl); (case hxe => rfl); (case hye => rfl); (case hme => rfl)))
        rw [HF.out]
        exact bodyPost_ret (results_nd rfl _ (w.heap.size + 2) { n with ct := x } rfl (HZf.out.row _)) rfl ⟨rfl, below_setRow HBf.out (by omega) _⟩
      · have r0 : (at_ == base + 8) = false := by rw [beq_eq_false_iff_ne]; omega
        have r1 : (at_ == base + 16) = false := by rw [beq_eq_false_iff_ne]; omega
        have r2 : (at_ == base + 24) = false := by rw [beq_eq_false_iff_ne]; omega
        have r3 : (at_ == base + 32) = true := by rw [beq_iff_eq]; exact e
        have HF := Lib.hid (show putV base n at_ x = ({ n with fi := x }, 0) by unfold putV; rw [e, putA_32])
        have hkf := HR.out.1.set 4 (.int .u64 x)
        rw [ndCells_set4] at hkf
        have HLf := Lib.hid (ndLoad hkf)
        have HZf := Lib.hid (HR.out.2.2.1.other (b' := w.heap.size) 4 (.int .u64 x) (by omega))
        have HBf := Lib.hid (HR.out.2.2.2.setCell (p := ⟨w.heap.size, 4, none⟩) (Nat.le_refl _) (.int .u64 x))
        have HIf := Lib.hid (info27 { n with fi := x })
        clear e hkf HR HN
        go_wp2_with (first | (with_reducible refine wpList_load_part (o := ⟨some 80, _, _, _, _, _⟩) rfl 27 _ rfl w.heap.size 0 rfl (ndCells { n with fi := x }) _ HLf.out Try.underlying27 rfl HIf.out ?_) | (refine wpList_store_ndc (o := ⟨none, .store 27 (.tmp 6) (.tmp 80), _, _, _, _⟩) rfl (.tmp 6) (.tmp 80) ?hof (w.heap.size + 2) ?csf { n with fi := x } nd0 ?hxf ?hyf HZf.out ?hmf ?_; (case hof => rfl); (case hxf => rfl); (case hyf => rfl); (case hmf => rfl)))
        rw [HF.out]
        exact bodyPost_ret (results_nd rfl _ (w.heap.size + 2) { n with fi := x } rfl (HZf.out.row _)) rfl ⟨rfl, below_setRow HBf.out (by omega) _⟩
      · have r0 : (at_ == base + 8) = false := by rw [beq_eq_false_iff_ne]; omega
        have r1 : (at_ == base + 16) = false := by rw [beq_eq_false_iff_ne]; omega
        have r2 : (at_ == base + 24) = false := by rw [beq_eq_false_iff_ne]; omega
        have r3 : (at_ == base + 32) = false := by rw [beq_eq_false_iff_ne]; omega
        have HF := Lib.hid (show putV base n at_ x = (nd0, 2) by unfold putV; rw [e n x])
        have HZf := Lib.hid HR.out.2.2.1
        have HBf := Lib.hid HR.out.2.2.2
        clear e h h8 HR HN
        go_wp2_with (refine wpList_store_ndc (o := ⟨none, .store 27 (.tmp 6) (.tmp 51), _, _, _, _⟩) rfl (.tmp 6) (.tmp 51) ?hog (w.heap.size + 2) ?csg nd0 nd0 ?hxg ?hyg HZf.out ?hmg ?_; (case hog => rfl); (case hxg => rfl); (case hyg => rfl); (case hmg => rfl))
        rw [HF.out]
        exact bodyPost_ret (results_nd rfl _ (w.heap.size + 2) nd0 rfl (HZf.out.row _)) rfl ⟨rfl, below_setRow HBf.out (by omega) _⟩
end Go.Proofs.Ytbpaefhihdhdeaa
