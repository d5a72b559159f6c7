/-
  fast.Insert, where it goes through: a contract.
-/
import Derived.Test.YtgmbnoimlffgcaaFiN
import Derived.Test.YtgmbnoimlffgcaaInvG
namespace Go.Proofs.Ytgmbnoimlffgcaa
open Go.RowKit



theorem CSet.lower {B B' b : Nat} {base : Int} {n : Nd} {l : List (Int × Int)} {w : World} (h : CSet B' b base n l w) (k : B ≤ B') : CSet B b base n l w := by
  obtain ⟨v, h1, h2, h3, h4, h5⟩ := h
  exact ⟨v, h1, own_mono h2 k, h3, Nat.le_trans k h4, Nat.le_trans k h5⟩
theorem last_at (n : Nd) (key : Int) : ∃ A : Nat, n.last key + 1 = (A : Int) ∧ A ≤ n.len := by
  have := last_ge n key
  exact ⟨(n.last key + 1).toNat, by omega, by omega⟩
/-- as the node was, below a place -/
def Was (m n : Nd) (i : Nat) : Prop := m.ct = n.ct ∧ m.fi = n.fi ∧ ∀ j, j < i → m.k j = n.k j ∧ m.p j = n.p j
theorem Was.ahead {m n : Nd} {i : Nat} (h : Was m n i) : m.ahead i = n.ahead i := by
  cases i with
  | zero => exact h.2.1
  | succ i => exact (h.2.2 i (by omega)).2
/-- the change that has been begun -/
def Begun (B : Nat) (base : Int) (n : Nd) (v : Value) (w : World) : Prop := ∃ b, v = .pointer (some ⟨b, 0, none⟩) ∧ CSet B b base n [(base + 24, cOne n)] w
def psIns (base : Int) (n : Nd) (key : Int) (B : Nat) (at_ : Int) : List (Value → World → Prop) :=
  [Is (.int .u64 base), Is (.agg (ndCells n)), Begun B base n, Is (.agg (ndCells n)), Is (.int .u64 key), Is (.int .i64 at_), Begun B base n, Is (.int .i64 at_)]
theorem begun_stays (B : Nat) (base : Int) (n : Nd) : Stays (Begun B base n) := fun _ _ _ ⟨b, e, h⟩ hB => ⟨b, e, h.keep hB⟩
theorem psIns_stays (base : Int) (n : Nd) (key : Int) (B : Nat) (at_ : Int) : ∀ p ∈ psIns base n key B at_, Stays p := by
  intro p hp
  simp only [psIns, List.mem_cons, List.not_mem_nil, or_false] at hp
  rcases hp with rfl | rfl | rfl | rfl | rfl | rfl | rfl | rfl
  all_goals first | exact is_stays _ | exact begun_stays _ _ _
/-- a load of an aggregate, one operation by itself -/
theorem wp_load_part {P : Program} {o : Oper} {a : Act} {w : World} {K : Act → World → Prop} {Q : Exit → Act → World → Prop} (ty : TypeId) (x : Operand) (ho : o.op = .load ty x)
    (g off : Nat) (hx : a.eval x = .pointer (some ⟨g, off, none⟩)) (cs : Array Value) (d : TypeDesc) (hc : ∀ j v, cs[j]? = some v → w.cell? ⟨g, off + j, none⟩ = some v)
    (hu : P.underlying ty = some d) (hd : (match d with | .struct _ | .array _ _ => true | _ => false) = true) (hi : (P.info? ty).map (·.size) = some cs.size)
    (h : K (a.put o.dst (.agg cs)) w) : Oper.wp P o a w K Q := by
  unfold Oper.wp execOp
  simp only [ho, hx, Instr.loadAt, Instr.sureAddr, Sem.run_bind, Sem.run_pure, Result.andThen_ok, run_loadVar_part w g off ty cs d hc hu hd hi]
  exact h

set_option maxRecDepth 100000 in
set_option maxHeartbeats 3200000 in
theorem insert_ok (base : Int) (n : Nd) (key ptr : Int) (w : World) (hm : mayE base n = 0) (hf : freshB n ptr = true) (hb : badKey n key = false) (h8 : n.len < 8) :
    Calls Try.prog 59 #[.int .u64 base, .agg (ndCells n), .int .u64 key, .int .u64 ptr] w fun e w' => MadeP (insL base n key ptr (n.last key + 1).toNat) 0 w e w' := by
  have HI := Lib.hid (info27 n)
  have hk0 : Blk (w.alloc (.cells (ndCells n) 40)) w.heap.size (ndCells n) 40 := Blk.new w _ _
  have HK0 := Lib.hid hk0
  have HL0 := Lib.hid (ndLoad hk0)
  have HB0 := Lib.hid ((Below.refl w.heap.size w).alloc (Nat.le_refl _) (.cells (ndCells n) 40))
  have HM := Lib.hid (fun w => may_v base n w)
  have HFd := Lib.hid (fun w => nfind_calls n key w)
  have HLn := Lib.hid (fun w => len_calls n w)
  have HFr := Lib.hid (fun w => fresh_v n ptr w)
  clear hk0
  obtain ⟨fi, hfv⟩ := findV_bool n key
  rw [hm] at HM
  rw [hfv] at HFd
  rw [hf] at HFr
  obtain ⟨h1, h2, h3⟩ := badKey_no hb
  rw [h1] at HFd
  obtain ⟨⟨s1, s2, s3⟩, _, _⟩ := mayE_stands hm
  have h2b : decide (key < n.lo) = false := decide_eq_false h2
  have q8 : ((n.len : Int) == 8) = false := by rw [beq_eq_false_iff_ne]; omega
  have HAt := Lib.hid (fun w => nat_calls n key w)
  by_cases hl : 0 < n.lv
  · have h4 := h3 hl
    have h3b : decide (0 < n.lv) = true := decide_eq_true hl
    clear hm hf hfv hb h1 h3 h2 hl s3
    go_enter Try.func59, Try.ntmps59
    go_wp2_with (fail)
    go_step3
    go_wp2_with (first | (with_reducible refine wpList_load_part (o := ⟨some 18, _, _, _, _, _⟩) rfl 40 _ rfl w.heap.size 0 rfl (ndCells n) _ HL0.out Try.underlying40 rfl HI.out ?_) | (go_at_call 70; refine (HM.out _).mono ?_; rintro e w1 ⟨rfl, hB⟩; have HB1 := Lib.hid (HB0.out.trans (hB.mono HB0.out.size)); have HK1 := Lib.hid (HK0.out.below hB HK0.out.lt); have HL1 := Lib.hid (ndLoad HK1.out); clear hB) | (with_reducible refine wpList_load_part (o := ⟨some 21, _, _, _, _, _⟩) rfl 40 _ rfl w.heap.size 0 rfl (ndCells n) _ HL1.out Try.underlying40 rfl HI.out ?_) | (go_at_call 71; refine (HFd.out _).mono ?_; rintro e w2 ⟨rfl, hB2⟩; have HB2 := Lib.hid (HB1.out.trans (hB2.mono HB1.out.size)); have HK2 := Lib.hid (HK1.out.below hB2 HK1.out.lt); have HL2 := Lib.hid (ndLoad HK2.out); clear hB2) | (with_reducible refine wpList_load_part (o := ⟨some 26, _, _, _, _, _⟩) rfl 40 _ rfl w.heap.size 0 rfl (ndCells n) _ HL2.out Try.underlying40 rfl HI.out ?_))
    refine (HLn.out _).mono ?_
    rintro e w3 ⟨rfl, hB3⟩
    have HB3 := Lib.hid (HB2.out.trans (hB3.mono HB2.out.size))
    have HK3 := Lib.hid (HK2.out.below hB3 HK2.out.lt)
    have HL3 := Lib.hid (ndLoad HK3.out)
    clear hB3
    go_wp2_with (refine wpList_load_gd (o := ⟨some 32, .load 40 (.tmp 5), _, _, _, _⟩) 40 (.tmp 5) ?ho w.heap.size 0 ?hx (ndCells n) _ HL3.out Try.underlying40 rfl HI.out ?hw ?_; (case ho => rfl); (case hx => rfl); (case hw => rfl))
    refine (HFr.out _).mono ?_
    rintro e w4 ⟨rfl, hB4⟩
    have HB4 := Lib.hid (HB3.out.trans (hB4.mono HB3.out.size))
    have HK4 := Lib.hid (HK3.out.below hB4 HK3.out.lt)
    have c0 : w4.cell? ⟨w.heap.size, 0, none⟩ = some (.int .i64 n.lv) := by rw [HK4.out.cell, ndCells_0]
    have c1 : w4.cell? ⟨w.heap.size, 1, none⟩ = some (.int .u64 n.lo) := by rw [HK4.out.cell, ndCells_1]
    clear hB4
    go_wp2_with (fail)
    refine wp_region_inv (fun L' a' W' => ∃ v63 v64 v65 v66 v67 v68 v14 v15, a' = { tmps := #[.int .u64 base, .agg (ndCells n), .int .u64 key, .int .u64 ptr, undef, .pointer (some ⟨w.heap.size, 0, none⟩), undef, undef, .slice none 0 0, .int .i64 0, .int .i64 0, .int .i64 fi, .bool false, .int .i64 (n.len : Int), v14, v15, undef, .int .u64 base, .agg (ndCells n), .int .i64 0, .tuple #[.int .i64 fi, .bool false], .agg (ndCells n), .int .u64 key, .tuple #[.int .i64 fi, .bool false], .int .i64 fi, .bool false, .agg (ndCells n), .int .i64 (n.len : Int), .bool false, .int .i64 0, .bool false, .bool false, .agg (ndCells n), .int .u64 ptr, .bool true, .bool false, .bool false, .bool false, .int .i64 0, .bool false, undef, .bool false, .bool false, .bool false, .int .u64 key, .pointer (some ⟨w.heap.size, 1, none⟩), .int .u64 n.lo, .bool false, .bool false, .bool false, .pointer (some ⟨w.heap.size, 0, none⟩), .int .i64 n.lv, .bool true, .bool true, .int .u64 key, .pointer (some ⟨w.heap.size, 1, none⟩), .int .u64 n.lo, .bool false, .bool false, .bool false, .bool false, .int .i64 (n.len : Int), .bool false, v63, v64, v65, v66, v67, v68, undef, undef, undef, undef, undef, undef, undef, undef, undef, undef, undef, undef, undef, undef, undef, undef, undef, undef, undef, undef, undef, undef, undef, undef, undef, undef, undef, undef, undef, undef, undef, undef, undef, undef, undef, undef, undef, undef, undef, undef, undef, undef, undef, undef, undef, undef, undef, undef, undef, undef, undef, undef, undef], defers := [] } ∧ Vals L' W' 0 (psIns base n key w4.heap.size (n.last key + 1)) [v63, v64, v65, v66, v67, v68, v14, v15] ∧ Below w4.heap.size w4 W') (by kernel_rfl) (by kernel_rfl) (by kernel_rfl) ?h0 ⟨?o0, ?o1, ?o2, ?o3, ?o4, ?o5, ?o6, ?o7, trivial⟩ ?he
    case h0 => exact ⟨undef, undef, undef, undef, undef, undef, undef, undef, rfl, Vals.none _ _ _ rfl, (Below.refl _ _).drew⟩
    case o0 =>
      rintro L' a' W' ⟨v63, v64, v65, v66, v67, v68, v14, v15, rfl, hV, hB⟩ hL' hd K hK
      have HV := Lib.hid (hV.set 0 (.int .u64 base) rfl rfl)
      have HK := Lib.hid hK
      have HB := Lib.hid hB
      clear hV hd hK hB
      go_wp2
      exact HK.out _ _ ⟨_, _, _, _, _, _, _, _, rfl, HV.out, HB.out⟩
    case o1 =>
      rintro L' a' W' ⟨v63, v64, v65, v66, v67, v68, v14, v15, rfl, hV, hB⟩ hL' hd K hK
      refine wp_load_part 40 (.tmp 5) rfl w.heap.size 0 rfl (ndCells n) _ (ndLoad (HK4.out.below hB HK4.out.lt)) Try.underlying40 rfl HI.out ?_
      exact hK _ _ ⟨_, _, _, _, _, _, _, _, rfl, hV.set 1 (.agg (ndCells n)) rfl rfl, hB⟩
    case o2 =>
      rintro L' a' W' ⟨v63, v64, v65, v66, v67, v68, v14, v15, rfl, hV, hB⟩ hL' hd K hK
      have e0 := hV.get 0 rfl rfl (deps_of' hd 0 (by kernel_rfl))
      have e1 := hV.get 1 rfl rfl (deps_of' hd 1 (by kernel_rfl))
      have HV := Lib.hid hV
      have HK := Lib.hid hK
      have HB := Lib.hid hB
      clear hV hd hK hB
      unfold Is at e0
      subst e0
      unfold Is at e1
      subst e1
      go_wp2_with (fail)
      refine (cbegin base n (by omega) (by omega) (cOne n) rfl _).mono ?_
      rintro e W2 ⟨b, rfl, hc, hB2⟩
      exact HK.out _ _ ⟨_, _, _, _, _, _, _, _, rfl, (HV.out.up hB2 (psIns_stays _ _ _ _ _)).set 2 (.pointer (some ⟨b, 0, none⟩)) rfl ⟨b, rfl, hc.lower HB.out.size⟩, HB.out.trans (hB2.mono HB.out.size)⟩
    case o3 =>
      rintro L' a' W' ⟨v63, v64, v65, v66, v67, v68, v14, v15, rfl, hV, hB⟩ hL' hd K hK
      refine wp_load_part 40 (.tmp 5) rfl w.heap.size 0 rfl (ndCells n) _ (ndLoad (HK4.out.below hB HK4.out.lt)) Try.underlying40 rfl HI.out ?_
      exact hK _ _ ⟨_, _, _, _, _, _, _, _, rfl, hV.set 3 (.agg (ndCells n)) rfl rfl, hB⟩
    case o4 =>
      rintro L' a' W' ⟨v63, v64, v65, v66, v67, v68, v14, v15, rfl, hV, hB⟩ hL' hd K hK
      have HV := Lib.hid (hV.set 4 (.int .u64 key) rfl rfl)
      have HK := Lib.hid hK
      have HB := Lib.hid hB
      clear hV hd hK hB
      go_wp2
      exact HK.out _ _ ⟨_, _, _, _, _, _, _, _, rfl, HV.out, HB.out⟩
    case o5 =>
      rintro L' a' W' ⟨v63, v64, v65, v66, v67, v68, v14, v15, rfl, hV, hB⟩ hL' hd K hK
      have e3 := hV.get 3 rfl rfl (deps_of' hd 3 (by kernel_rfl))
      have e4 := hV.get 4 rfl rfl (deps_of' hd 4 (by kernel_rfl))
      have HV := Lib.hid hV
      have HK := Lib.hid hK
      have HB := Lib.hid hB
      clear hV hd hK hB
      unfold Is at e3
      subst e3
      unfold Is at e4
      subst e4
      go_wp2_with (fail)
      refine (HAt.out _).mono ?_
      rintro e W2 ⟨rfl, hB2⟩
      exact HK.out _ _ ⟨_, _, _, _, _, _, _, _, rfl, (HV.out.up hB2 (psIns_stays _ _ _ _ _)).set 5 (.int .i64 (n.last key + 1)) rfl rfl, HB.out.trans (hB2.mono HB.out.size)⟩
    case o6 =>
      rintro L' a' W' ⟨v63, v64, v65, v66, v67, v68, v14, v15, rfl, hV, hB⟩ hL' hd K hK
      obtain ⟨b, e2, hc⟩ := hV.get 2 rfl rfl (deps_of' hd 2 (by kernel_rfl))
      have HV := Lib.hid (hV.set 6 (.pointer (some ⟨b, 0, none⟩)) rfl ⟨b, rfl, hc⟩)
      have HK := Lib.hid hK
      have HB := Lib.hid hB
      clear hV hd hK hB hc
      subst e2
      go_wp2
      exact HK.out _ _ ⟨_, _, _, _, _, _, _, _, rfl, HV.out, HB.out⟩
    case o7 =>
      rintro L' a' W' ⟨v63, v64, v65, v66, v67, v68, v14, v15, rfl, hV, hB⟩ hL' hd K hK
      have e5 := hV.get 5 rfl rfl (deps_of' hd 5 (by kernel_rfl))
      have HV := Lib.hid (hV.set 7 (.int .i64 (n.last key + 1)) rfl rfl)
      have HK := Lib.hid hK
      have HB := Lib.hid hB
      clear hV hd hK hB
      unfold Is at e5
      subst e5
      go_wp2
      exact HK.out _ _ ⟨_, _, _, _, _, _, _, _, rfl, HV.out, HB.out⟩
    case he =>
      rintro L' a' W' ⟨v63, v64, v65, v66, v67, v68, v14, v15, rfl, hV, hB⟩ hall
      obtain ⟨b, e14, hc⟩ := hV.get 6 rfl rfl (hall 6 (by decide))
      have e15 := hV.get 7 rfl rfl (hall 7 (by decide))
      unfold Is at e15
      subst e14
      subst e15
      obtain ⟨A, hA, hAl⟩ := last_at n key
      rw [hA]
      have HB5 := Lib.hid (HB4.out.trans (hB.mono HB4.out.size))
      have HC5 := Lib.hid hc
      have HAA := Lib.hid hA
      have HS4 := Lib.hid HB4.out.size
      clear hV hall hc hA
      obtain ⟨W5, hW5⟩ : ∃ W5, W5 = W' := ⟨_, rfl⟩
      subst hW5
      by_cases h7 : n.len + 1 < 8
      · have h7b : decide ((n.len : Int) + 1 < 8) = true := decide_eq_true (by omega)
        have HP0 := Lib.hid (show Calls Try.prog 76 #[.pointer (some ⟨b, 0, none⟩), .int .i64 ((n.len : Int) + 1), .int .u64 0] W5 fun e w' => e = .returned (.tuple #[]) ∧ CSet w4.heap.size b base (n.setP (n.len + 1) 0) ([(base + 24, cOne n)] ++ [(base + 64 + 16 * ((n.len + 1 : Nat) : Int) + 8, 0)]) w' ∧ Below w4.heap.size W5 w' from by
          have := cptr HC5.out (by simp) (by omega) (by omega) (n.len + 1) h7 0
          have e : ((n.len + 1 : Nat) : Int) = (n.len : Int) + 1 := by omega
          rw [e] at this
          rw [e]
          exact this)
        have i7 : (n.len : Int) + 1 < 8 := by omega
        clear h7b
        go_wp2_with (fail)
        refine HP0.out.mono ?_
        rintro e W1 ⟨rfl, hc1, hB1⟩
        obtain ⟨l1, hl1⟩ : ∃ l1, [(base + 24, cOne n)] ++ [(base + 64 + 16 * ((n.len + 1 : Nat) : Int) + 8, 0)] = l1 := ⟨_, rfl⟩
        rw [hl1] at hc1
        obtain ⟨m1, hm1⟩ : ∃ m1, n.setP (n.len + 1) 0 = m1 := ⟨_, rfl⟩
        have HWs : Hid (Was (n.setP (n.len + 1) 0) n n.len) := Lib.hid ⟨rfl, rfl, fun j hj => ⟨rfl, by simp only [Nd.setP, if_neg (show j ≠ n.len + 1 by omega)]⟩⟩
        rw [hm1] at hc1 HWs
        have HC1 := Lib.hid hc1
        have HBx := Lib.hid (HB5.out.trans (hB1.mono HS4.out))
        have HLL := Lib.hid (show l1.length ≤ 2 by rw [← hl1]; simp)
        have HL1 := Lib.hid (show l1 = [(base + 24, cOne n)] ++ (if n.len + 1 < 8 then [(base + 64 + 16 * ((n.len + 1 : Nat) : Int) + 8, 0)] else []) by rw [if_pos h7, hl1])
        clear hc1 hB1 hl1 hm1 HP0
        have hl1 := HLL.out
        go_wp2_with (fail)
        go_step3
        go_wp2_with (fail)
        go_loopw [16] (fun iv wr => ∃ (j : Nat) (m' : Nd) (z : Nat), z = n.len - j ∧ iv = .int .i64 z ∧ j ≤ n.len - A ∧ Hid (CSet w4.heap.size b base m' (l1 ++ shiftL base n n.len j) wr) ∧ Hid (Was m' n z) ∧ Hid (Below w.heap.size w wr)) (fun iv _ => (intOf iv).toNat)
        case atStart => exact ⟨0, m1, n.len, rfl, rfl, Nat.zero_le _, Lib.hid (by simpa [shiftL] using HC1.out), HWs, HBx⟩
        case round =>
          obtain ⟨j, m', z, hz, rfl, hj, HC, HWz, HB⟩ := hrel
          have hlen : (l1 ++ shiftL base n n.len j).length ≤ 20 := by rw [List.length_append, shiftL_len]; omega
          by_cases hza : z = A
          · have HE := Lib.hid (show j = n.len - A by omega)
            subst hza
            have HAh := Lib.hid (cahead HC.out z (by omega))
            rw [HWz.out.ahead] at HAh
            have HP1 := Lib.hid (cptr HC.out (by omega) (by omega) (by omega) z (by omega) (n.ahead z))
            obtain ⟨ax, hax⟩ : ∃ ax, n.ahead z = ax := ⟨_, rfl⟩
            rw [hax] at HAh HP1
            have HAX := Lib.hid hax
            have HCT := Lib.hid HWz.out.1
            have HLE := Lib.hid hlen
            clear hax hz hlen
            go_wp2_with (fail)
            refine HAh.out.mono ?_
            rintro e w' ⟨rfl, rfl⟩
            go_wp2_with (fail)
            refine HP1.out.mono ?_
            rintro e W2 ⟨rfl, hc2, hB2⟩
            have HK2 := Lib.hid (ckey hc2 (by have := HLE.out; rw [List.length_append]; simp only [List.length_cons, List.length_nil]; omega) (by omega) (by omega) z (by omega) key)
            have HB2 := Lib.hid (HB.out.trans (hB2.mono HS4.out))
            clear hc2 hB2
            go_wp2_with (fail)
            refine HK2.out.mono ?_
            rintro e W3 ⟨rfl, hc3, hB3⟩
            have HP3 := Lib.hid (cptr hc3 (by have := HLE.out; rw [List.length_append, List.length_append]; simp only [List.length_cons, List.length_nil]; omega) (by omega) (by omega) z (by omega) ptr)
            have HB3 := Lib.hid (HB2.out.trans (hB3.mono HS4.out))
            clear hc3 hB3
            go_wp2_with (fail)
            refine HP3.out.mono ?_
            rintro e W6 ⟨rfl, hc4, hB4⟩
            have HEn := Lib.hid (cend hc4 (by have := HLE.out; rw [List.length_append, List.length_append, List.length_append]; simp only [List.length_cons, List.length_nil]; omega) (by omega) (by omega) (cTwo n) (by show IntKind.u64.wrap (m'.ct + 2) = _; rw [HCT.out]; rfl))
            have HB6 := Lib.hid (HB3.out.trans (hB4.mono HS4.out))
            clear hc4 hB4
            go_wp2_with (fail)
            refine HEn.out.mono ?_
            rintro e W7 ⟨a, m, c, rfl, hml, ho, hB7⟩
            have HD := Lib.hid (show MadeP (insL base n key ptr (n.last key + 1).toNat) 0 w (.returned (.tuple #[.slice a m c, .int .i64 0])) W7 from MadeP.done ⟨a, m, c, rfl, hml, ho, hB7⟩ HB6.out HS4.out (by
              rw [HAA.out, Int.toNat_natCast, HL1.out, HE.out]
              unfold insL
              rw [HAX.out]
              simp))
            clear hml ho hB7
            go_wp2_with (fail)
            rw [Exit.noGoto_ret]
            go_ret2
            exact HD.out
          · obtain ⟨y, hy⟩ : ∃ y, z = y + 1 := ⟨z - 1, by omega⟩
            have hyl : y < 8 := by omega
            have hzl : z < 8 := by omega
            have cp := ((HC.out.at).2.2.2.1 y hyl).2
            rw [(HWz.out.2.2 y (by omega)).2] at cp
            have HP1 := Lib.hid (cptr HC.out (by omega) (by omega) (by omega) z hzl (n.p y))
            have HNx : Hid (∀ W2, CSet w4.heap.size b base (m'.setP z (n.p y)) (l1 ++ shiftL base n n.len j ++ [(base + 64 + 16 * (z : Int) + 8, n.p y)]) W2 → W2.cell? ⟨b, 6 + y, none⟩ = some (.int .u64 (n.k y)) ∧ Calls Try.prog 77 #[.pointer (some ⟨b, 0, none⟩), .int .i64 z, .int .u64 (n.k y)] W2 fun e w' => e = .returned (.tuple #[]) ∧ CSet w4.heap.size b base ((m'.setP z (n.p y)).setK z (n.k y)) (l1 ++ shiftL base n n.len (j + 1)) w' ∧ Below w4.heap.size W2 w') := Lib.hid (fun W2 hc2 => by
              refine ⟨?_, ?_⟩
              · rw [((hc2.at).2.2.2.1 y hyl).1]
                exact congrArg (fun q => some (Value.int .u64 q)) (HWz.out.2.2 y (by omega)).1
              · refine (ckey hc2 (by rw [List.length_append]; simp only [List.length_cons, List.length_nil]; omega) (by omega) (by omega) z hzl (n.k y)).mono ?_
                rintro e w' ⟨he, hc, hB⟩
                refine ⟨he, ?_, hB⟩
                rw [shiftL, show n.len - j = z by omega, show z - 1 = y by omega]
                simpa using hc)
            have HW2 : Hid (Was ((m'.setP z (n.p y)).setK z (n.k y)) n y) := Lib.hid ⟨HWz.out.1, HWz.out.2.1, fun i hi => by
              have := HWz.out.2.2 i (by omega)
              simp only [Nd.setP, Nd.setK, if_neg (show i ≠ z by omega)]
              exact this⟩
            obtain ⟨xp, hxp⟩ : ∃ xp, n.p y = xp := ⟨_, rfl⟩
            obtain ⟨xk, hxk⟩ : ∃ xk, n.k y = xk := ⟨_, rfl⟩
            rw [hxp] at cp HP1 HNx HW2
            rw [hxk] at HNx HW2
            have qz : ((z : Int) == (A : Int)) = false := by rw [beq_eq_false_iff_ne]; omega
            have q1 : (z : Int) - 1 < 8 := by omega
            have q2 : 1 ≤ (z : Int) := by omega
            have q2' : 0 ≤ (z : Int) - 1 := by omega
            have q3 : ((z : Int) - 1).toNat = y := by omega
            have q4 : (z : Int) - 1 = (y : Int) := by omega
            have HQ4 := Lib.hid q4
            have HY := Lib.hid (show y = n.len - (j + 1) ∧ j + 1 ≤ n.len - A ∧ y < z by omega)
            clear hxp hxk hy hz hlen hj q4
            go_wp2_with (fail)
            refine HP1.out.mono ?_
            rintro e W2 ⟨rfl, hc2, hB2⟩
            obtain ⟨ck, hN2⟩ := HNx.out _ hc2
            have HN2 := Lib.hid hN2
            have HB2 := Lib.hid (HB.out.trans (hB2.mono HS4.out))
            clear hc2 hB2 hN2 cp
            go_wp2_with (fail)
            refine HN2.out.mono ?_
            rintro e W3 ⟨rfl, hc3, hB3⟩
            have HC3 := Lib.hid hc3
            have HB3 := Lib.hid (HB2.out.trans (hB3.mono HS4.out))
            clear hc3 hB3 ck
            go_wp2_with (fail)
            go_roundw
            case rel => exact ⟨j + 1, _, y, HY.out.1, by rw [HQ4.out], HY.out.2.1, HC3, HW2, HB3⟩
            case measure => have := HY.out.2.2; have := HQ4.out; simp [intOf]; omega
      · have i7 : ¬ (n.len : Int) + 1 < 8 := by omega
        obtain ⟨l1, hl1⟩ : ∃ l1, [(base + 24, cOne n)] = l1 := ⟨_, rfl⟩
        obtain ⟨m1, hm1⟩ : ∃ m1, n = m1 := ⟨_, rfl⟩
        have HWs : Hid (Was m1 n n.len) := Lib.hid (by rw [← hm1]; exact ⟨rfl, rfl, fun j hj => ⟨rfl, rfl⟩⟩)
        have HC1 : Hid (CSet w4.heap.size b base m1 l1 W5) := Lib.hid (by rw [← hm1, ← hl1]; exact HC5.out)
        have HBx := HB5
        have HLL := Lib.hid (show l1.length ≤ 2 by rw [← hl1]; simp)
        have HL1 := Lib.hid (show l1 = [(base + 24, cOne n)] ++ (if n.len + 1 < 8 then [(base + 64 + 16 * ((n.len + 1 : Nat) : Int) + 8, 0)] else []) by rw [if_neg h7, ← hl1]; rfl)
        clear hl1 hm1
        have hl1 := HLL.out
        go_wp2_with (fail)
        go_step3
        go_wp2_with (fail)
        go_loopw [16] (fun iv wr => ∃ (j : Nat) (m' : Nd) (z : Nat), z = n.len - j ∧ iv = .int .i64 z ∧ j ≤ n.len - A ∧ Hid (CSet w4.heap.size b base m' (l1 ++ shiftL base n n.len j) wr) ∧ Hid (Was m' n z) ∧ Hid (Below w.heap.size w wr)) (fun iv _ => (intOf iv).toNat)
        case atStart => exact ⟨0, m1, n.len, rfl, rfl, Nat.zero_le _, Lib.hid (by simpa [shiftL] using HC1.out), HWs, HBx⟩
        case round =>
          obtain ⟨j, m', z, hz, rfl, hj, HC, HWz, HB⟩ := hrel
          have hlen : (l1 ++ shiftL base n n.len j).length ≤ 20 := by rw [List.length_append, shiftL_len]; omega
          by_cases hza : z = A
          · have HE := Lib.hid (show j = n.len - A by omega)
            subst hza
            have HAh := Lib.hid (cahead HC.out z (by omega))
            rw [HWz.out.ahead] at HAh
            have HP1 := Lib.hid (cptr HC.out (by omega) (by omega) (by omega) z (by omega) (n.ahead z))
            obtain ⟨ax, hax⟩ : ∃ ax, n.ahead z = ax := ⟨_, rfl⟩
            rw [hax] at HAh HP1
            have HAX := Lib.hid hax
            have HCT := Lib.hid HWz.out.1
            have HLE := Lib.hid hlen
            clear hax hz hlen
            go_wp2_with (fail)
            refine HAh.out.mono ?_
            rintro e w' ⟨rfl, rfl⟩
            go_wp2_with (fail)
            refine HP1.out.mono ?_
            rintro e W2 ⟨rfl, hc2, hB2⟩
            have HK2 := Lib.hid (ckey hc2 (by have := HLE.out; rw [List.length_append]; simp only [List.length_cons, List.length_nil]; omega) (by omega) (by omega) z (by omega) key)
            have HB2 := Lib.hid (HB.out.trans (hB2.mono HS4.out))
            clear hc2 hB2
            go_wp2_with (fail)
            refine HK2.out.mono ?_
            rintro e W3 ⟨rfl, hc3, hB3⟩
            have HP3 := Lib.hid (cptr hc3 (by have := HLE.out; rw [List.length_append, List.length_append]; simp only [List.length_cons, List.length_nil]; omega) (by omega) (by omega) z (by omega) ptr)
            have HB3 := Lib.hid (HB2.out.trans (hB3.mono HS4.out))
            clear hc3 hB3
            go_wp2_with (fail)
            refine HP3.out.mono ?_
            rintro e W6 ⟨rfl, hc4, hB4⟩
            have HEn := Lib.hid (cend hc4 (by have := HLE.out; rw [List.length_append, List.length_append, List.length_append]; simp only [List.length_cons, List.length_nil]; omega) (by omega) (by omega) (cTwo n) (by show IntKind.u64.wrap (m'.ct + 2) = _; rw [HCT.out]; rfl))
            have HB6 := Lib.hid (HB3.out.trans (hB4.mono HS4.out))
            clear hc4 hB4
            go_wp2_with (fail)
            refine HEn.out.mono ?_
            rintro e W7 ⟨a, m, c, rfl, hml, ho, hB7⟩
            have HD := Lib.hid (show MadeP (insL base n key ptr (n.last key + 1).toNat) 0 w (.returned (.tuple #[.slice a m c, .int .i64 0])) W7 from MadeP.done ⟨a, m, c, rfl, hml, ho, hB7⟩ HB6.out HS4.out (by
              rw [HAA.out, Int.toNat_natCast, HL1.out, HE.out]
              unfold insL
              rw [HAX.out]
              simp))
            clear hml ho hB7
            go_wp2_with (fail)
            rw [Exit.noGoto_ret]
            go_ret2
            exact HD.out
          · obtain ⟨y, hy⟩ : ∃ y, z = y + 1 := ⟨z - 1, by omega⟩
            have hyl : y < 8 := by omega
            have hzl : z < 8 := by omega
            have cp := ((HC.out.at).2.2.2.1 y hyl).2
            rw [(HWz.out.2.2 y (by omega)).2] at cp
            have HP1 := Lib.hid (cptr HC.out (by omega) (by omega) (by omega) z hzl (n.p y))
            have HNx : Hid (∀ W2, CSet w4.heap.size b base (m'.setP z (n.p y)) (l1 ++ shiftL base n n.len j ++ [(base + 64 + 16 * (z : Int) + 8, n.p y)]) W2 → W2.cell? ⟨b, 6 + y, none⟩ = some (.int .u64 (n.k y)) ∧ Calls Try.prog 77 #[.pointer (some ⟨b, 0, none⟩), .int .i64 z, .int .u64 (n.k y)] W2 fun e w' => e = .returned (.tuple #[]) ∧ CSet w4.heap.size b base ((m'.setP z (n.p y)).setK z (n.k y)) (l1 ++ shiftL base n n.len (j + 1)) w' ∧ Below w4.heap.size W2 w') := Lib.hid (fun W2 hc2 => by
              refine ⟨?_, ?_⟩
              · rw [((hc2.at).2.2.2.1 y hyl).1]
                exact congrArg (fun q => some (Value.int .u64 q)) (HWz.out.2.2 y (by omega)).1
              · refine (ckey hc2 (by rw [List.length_append]; simp only [List.length_cons, List.length_nil]; omega) (by omega) (by omega) z hzl (n.k y)).mono ?_
                rintro e w' ⟨he, hc, hB⟩
                refine ⟨he, ?_, hB⟩
                rw [shiftL, show n.len - j = z by omega, show z - 1 = y by omega]
                simpa using hc)
            have HW2 : Hid (Was ((m'.setP z (n.p y)).setK z (n.k y)) n y) := Lib.hid ⟨HWz.out.1, HWz.out.2.1, fun i hi => by
              have := HWz.out.2.2 i (by omega)
              simp only [Nd.setP, Nd.setK, if_neg (show i ≠ z by omega)]
              exact this⟩
            obtain ⟨xp, hxp⟩ : ∃ xp, n.p y = xp := ⟨_, rfl⟩
            obtain ⟨xk, hxk⟩ : ∃ xk, n.k y = xk := ⟨_, rfl⟩
            rw [hxp] at cp HP1 HNx HW2
            rw [hxk] at HNx HW2
            have qz : ((z : Int) == (A : Int)) = false := by rw [beq_eq_false_iff_ne]; omega
            have q1 : (z : Int) - 1 < 8 := by omega
            have q2 : 1 ≤ (z : Int) := by omega
            have q2' : 0 ≤ (z : Int) - 1 := by omega
            have q3 : ((z : Int) - 1).toNat = y := by omega
            have q4 : (z : Int) - 1 = (y : Int) := by omega
            have HQ4 := Lib.hid q4
            have HY := Lib.hid (show y = n.len - (j + 1) ∧ j + 1 ≤ n.len - A ∧ y < z by omega)
            clear hxp hxk hy hz hlen hj q4
            go_wp2_with (fail)
            refine HP1.out.mono ?_
            rintro e W2 ⟨rfl, hc2, hB2⟩
            obtain ⟨ck, hN2⟩ := HNx.out _ hc2
            have HN2 := Lib.hid hN2
            have HB2 := Lib.hid (HB.out.trans (hB2.mono HS4.out))
            clear hc2 hB2 hN2 cp
            go_wp2_with (fail)
            refine HN2.out.mono ?_
            rintro e W3 ⟨rfl, hc3, hB3⟩
            have HC3 := Lib.hid hc3
            have HB3 := Lib.hid (HB2.out.trans (hB3.mono HS4.out))
            clear hc3 hB3 ck
            go_wp2_with (fail)
            go_roundw
            case rel => exact ⟨j + 1, _, y, HY.out.1, by rw [HQ4.out], HY.out.2.1, HC3, HW2, HB3⟩
            case measure => have := HY.out.2.2; have := HQ4.out; simp [intOf]; omega
  · have h3b : decide (0 < n.lv) = false := decide_eq_false hl
    clear hm hf hfv hb h1 h3 h2 hl s3
    go_enter Try.func59, Try.ntmps59
    go_wp2_with (fail)
    go_step3
    go_wp2_with (first | (with_reducible refine wpList_load_part (o := ⟨some 18, _, _, _, _, _⟩) rfl 40 _ rfl w.heap.size 0 rfl (ndCells n) _ HL0.out Try.underlying40 rfl HI.out ?_) | (go_at_call 70; refine (HM.out _).mono ?_; rintro e w1 ⟨rfl, hB⟩; have HB1 := Lib.hid (HB0.out.trans (hB.mono HB0.out.size)); have HK1 := Lib.hid (HK0.out.below hB HK0.out.lt); have HL1 := Lib.hid (ndLoad HK1.out); clear hB) | (with_reducible refine wpList_load_part (o := ⟨some 21, _, _, _, _, _⟩) rfl 40 _ rfl w.heap.size 0 rfl (ndCells n) _ HL1.out Try.underlying40 rfl HI.out ?_) | (go_at_call 71; refine (HFd.out _).mono ?_; rintro e w2 ⟨rfl, hB2⟩; have HB2 := Lib.hid (HB1.out.trans (hB2.mono HB1.out.size)); have HK2 := Lib.hid (HK1.out.below hB2 HK1.out.lt); have HL2 := Lib.hid (ndLoad HK2.out); clear hB2) | (with_reducible refine wpList_load_part (o := ⟨some 26, _, _, _, _, _⟩) rfl 40 _ rfl w.heap.size 0 rfl (ndCells n) _ HL2.out Try.underlying40 rfl HI.out ?_))
    refine (HLn.out _).mono ?_
    rintro e w3 ⟨rfl, hB3⟩
    have HB3 := Lib.hid (HB2.out.trans (hB3.mono HB2.out.size))
    have HK3 := Lib.hid (HK2.out.below hB3 HK2.out.lt)
    have HL3 := Lib.hid (ndLoad HK3.out)
    clear hB3
    go_wp2_with (refine wpList_load_gd (o := ⟨some 32, .load 40 (.tmp 5), _, _, _, _⟩) 40 (.tmp 5) ?ho w.heap.size 0 ?hx (ndCells n) _ HL3.out Try.underlying40 rfl HI.out ?hw ?_; (case ho => rfl); (case hx => rfl); (case hw => rfl))
    refine (HFr.out _).mono ?_
    rintro e w4 ⟨rfl, hB4⟩
    have HB4 := Lib.hid (HB3.out.trans (hB4.mono HB3.out.size))
    have HK4 := Lib.hid (HK3.out.below hB4 HK3.out.lt)
    have c0 : w4.cell? ⟨w.heap.size, 0, none⟩ = some (.int .i64 n.lv) := by rw [HK4.out.cell, ndCells_0]
    have c1 : w4.cell? ⟨w.heap.size, 1, none⟩ = some (.int .u64 n.lo) := by rw [HK4.out.cell, ndCells_1]
    clear hB4
    go_wp2_with (fail)
    refine wp_region_inv (fun L' a' W' => ∃ v63 v64 v65 v66 v67 v68 v14 v15, a' = { tmps := #[.int .u64 base, .agg (ndCells n), .int .u64 key, .int .u64 ptr, undef, .pointer (some ⟨w.heap.size, 0, none⟩), undef, undef, .slice none 0 0, .int .i64 0, .int .i64 0, .int .i64 fi, .bool false, .int .i64 (n.len : Int), v14, v15, undef, .int .u64 base, .agg (ndCells n), .int .i64 0, .tuple #[.int .i64 fi, .bool false], .agg (ndCells n), .int .u64 key, .tuple #[.int .i64 fi, .bool false], .int .i64 fi, .bool false, .agg (ndCells n), .int .i64 (n.len : Int), .bool false, .int .i64 0, .bool false, .bool false, .agg (ndCells n), .int .u64 ptr, .bool true, .bool false, .bool false, .bool false, .int .i64 0, .bool false, undef, .bool false, .bool false, .bool false, .int .u64 key, .pointer (some ⟨w.heap.size, 1, none⟩), .int .u64 n.lo, .bool false, .bool false, .bool false, .pointer (some ⟨w.heap.size, 0, none⟩), .int .i64 n.lv, .bool false, .bool false, undef, undef, undef, undef, .bool false, .bool false, .bool false, .int .i64 (n.len : Int), .bool false, v63, v64, v65, v66, v67, v68, undef, undef, undef, undef, undef, undef, undef, undef, undef, undef, undef, undef, undef, undef, undef, undef, undef, undef, undef, undef, undef, undef, undef, undef, undef, undef, undef, undef, undef, undef, undef, undef, undef, undef, undef, undef, undef, undef, undef, undef, undef, undef, undef, undef, undef, undef, undef, undef, undef, undef, undef, undef, undef], defers := [] } ∧ Vals L' W' 0 (psIns base n key w4.heap.size (n.last key + 1)) [v63, v64, v65, v66, v67, v68, v14, v15] ∧ Below w4.heap.size w4 W') (by kernel_rfl) (by kernel_rfl) (by kernel_rfl) ?h0 ⟨?o0, ?o1, ?o2, ?o3, ?o4, ?o5, ?o6, ?o7, trivial⟩ ?he
    case h0 => exact ⟨undef, undef, undef, undef, undef, undef, undef, undef, rfl, Vals.none _ _ _ rfl, (Below.refl _ _).drew⟩
    case o0 =>
      rintro L' a' W' ⟨v63, v64, v65, v66, v67, v68, v14, v15, rfl, hV, hB⟩ hL' hd K hK
      have HV := Lib.hid (hV.set 0 (.int .u64 base) rfl rfl)
      have HK := Lib.hid hK
      have HB := Lib.hid hB
      clear hV hd hK hB
      go_wp2
      exact HK.out _ _ ⟨_, _, _, _, _, _, _, _, rfl, HV.out, HB.out⟩
    case o1 =>
      rintro L' a' W' ⟨v63, v64, v65, v66, v67, v68, v14, v15, rfl, hV, hB⟩ hL' hd K hK
      refine wp_load_part 40 (.tmp 5) rfl w.heap.size 0 rfl (ndCells n) _ (ndLoad (HK4.out.below hB HK4.out.lt)) Try.underlying40 rfl HI.out ?_
      exact hK _ _ ⟨_, _, _, _, _, _, _, _, rfl, hV.set 1 (.agg (ndCells n)) rfl rfl, hB⟩
    case o2 =>
      rintro L' a' W' ⟨v63, v64, v65, v66, v67, v68, v14, v15, rfl, hV, hB⟩ hL' hd K hK
      have e0 := hV.get 0 rfl rfl (deps_of' hd 0 (by kernel_rfl))
      have e1 := hV.get 1 rfl rfl (deps_of' hd 1 (by kernel_rfl))
      have HV := Lib.hid hV
      have HK := Lib.hid hK
      have HB := Lib.hid hB
      clear hV hd hK hB
      unfold Is at e0
      subst e0
      unfold Is at e1
      subst e1
      go_wp2_with (fail)
      refine (cbegin base n (by omega) (by omega) (cOne n) rfl _).mono ?_
      rintro e W2 ⟨b, rfl, hc, hB2⟩
      exact HK.out _ _ ⟨_, _, _, _, _, _, _, _, rfl, (HV.out.up hB2 (psIns_stays _ _ _ _ _)).set 2 (.pointer (some ⟨b, 0, none⟩)) rfl ⟨b, rfl, hc.lower HB.out.size⟩, HB.out.trans (hB2.mono HB.out.size)⟩
    case o3 =>
      rintro L' a' W' ⟨v63, v64, v65, v66, v67, v68, v14, v15, rfl, hV, hB⟩ hL' hd K hK
      refine wp_load_part 40 (.tmp 5) rfl w.heap.size 0 rfl (ndCells n) _ (ndLoad (HK4.out.below hB HK4.out.lt)) Try.underlying40 rfl HI.out ?_
      exact hK _ _ ⟨_, _, _, _, _, _, _, _, rfl, hV.set 3 (.agg (ndCells n)) rfl rfl, hB⟩
    case o4 =>
      rintro L' a' W' ⟨v63, v64, v65, v66, v67, v68, v14, v15, rfl, hV, hB⟩ hL' hd K hK
      have HV := Lib.hid (hV.set 4 (.int .u64 key) rfl rfl)
      have HK := Lib.hid hK
      have HB := Lib.hid hB
      clear hV hd hK hB
      go_wp2
      exact HK.out _ _ ⟨_, _, _, _, _, _, _, _, rfl, HV.out, HB.out⟩
    case o5 =>
      rintro L' a' W' ⟨v63, v64, v65, v66, v67, v68, v14, v15, rfl, hV, hB⟩ hL' hd K hK
      have e3 := hV.get 3 rfl rfl (deps_of' hd 3 (by kernel_rfl))
      have e4 := hV.get 4 rfl rfl (deps_of' hd 4 (by kernel_rfl))
      have HV := Lib.hid hV
      have HK := Lib.hid hK
      have HB := Lib.hid hB
      clear hV hd hK hB
      unfold Is at e3
      subst e3
      unfold Is at e4
      subst e4
      go_wp2_with (fail)
      refine (HAt.out _).mono ?_
      rintro e W2 ⟨rfl, hB2⟩
      exact HK.out _ _ ⟨_, _, _, _, _, _, _, _, rfl, (HV.out.up hB2 (psIns_stays _ _ _ _ _)).set 5 (.int .i64 (n.last key + 1)) rfl rfl, HB.out.trans (hB2.mono HB.out.size)⟩
    case o6 =>
      rintro L' a' W' ⟨v63, v64, v65, v66, v67, v68, v14, v15, rfl, hV, hB⟩ hL' hd K hK
      obtain ⟨b, e2, hc⟩ := hV.get 2 rfl rfl (deps_of' hd 2 (by kernel_rfl))
      have HV := Lib.hid (hV.set 6 (.pointer (some ⟨b, 0, none⟩)) rfl ⟨b, rfl, hc⟩)
      have HK := Lib.hid hK
      have HB := Lib.hid hB
      clear hV hd hK hB hc
      subst e2
      go_wp2
      exact HK.out _ _ ⟨_, _, _, _, _, _, _, _, rfl, HV.out, HB.out⟩
    case o7 =>
      rintro L' a' W' ⟨v63, v64, v65, v66, v67, v68, v14, v15, rfl, hV, hB⟩ hL' hd K hK
      have e5 := hV.get 5 rfl rfl (deps_of' hd 5 (by kernel_rfl))
      have HV := Lib.hid (hV.set 7 (.int .i64 (n.last key + 1)) rfl rfl)
      have HK := Lib.hid hK
      have HB := Lib.hid hB
      clear hV hd hK hB
      unfold Is at e5
      subst e5
      go_wp2
      exact HK.out _ _ ⟨_, _, _, _, _, _, _, _, rfl, HV.out, HB.out⟩
    case he =>
      rintro L' a' W' ⟨v63, v64, v65, v66, v67, v68, v14, v15, rfl, hV, hB⟩ hall
      obtain ⟨b, e14, hc⟩ := hV.get 6 rfl rfl (hall 6 (by decide))
      have e15 := hV.get 7 rfl rfl (hall 7 (by decide))
      unfold Is at e15
      subst e14
      subst e15
      obtain ⟨A, hA, hAl⟩ := last_at n key
      rw [hA]
      have HB5 := Lib.hid (HB4.out.trans (hB.mono HB4.out.size))
      have HC5 := Lib.hid hc
      have HAA := Lib.hid hA
      have HS4 := Lib.hid HB4.out.size
      clear hV hall hc hA
      obtain ⟨W5, hW5⟩ : ∃ W5, W5 = W' := ⟨_, rfl⟩
      subst hW5
      by_cases h7 : n.len + 1 < 8
      · have h7b : decide ((n.len : Int) + 1 < 8) = true := decide_eq_true (by omega)
        have HP0 := Lib.hid (show Calls Try.prog 76 #[.pointer (some ⟨b, 0, none⟩), .int .i64 ((n.len : Int) + 1), .int .u64 0] W5 fun e w' => e = .returned (.tuple #[]) ∧ CSet w4.heap.size b base (n.setP (n.len + 1) 0) ([(base + 24, cOne n)] ++ [(base + 64 + 16 * ((n.len + 1 : Nat) : Int) + 8, 0)]) w' ∧ Below w4.heap.size W5 w' from by
          have := cptr HC5.out (by simp) (by omega) (by omega) (n.len + 1) h7 0
          have e : ((n.len + 1 : Nat) : Int) = (n.len : Int) + 1 := by omega
          rw [e] at this
          rw [e]
          exact this)
        have i7 : (n.len : Int) + 1 < 8 := by omega
        clear h7b
        go_wp2_with (fail)
        refine HP0.out.mono ?_
        rintro e W1 ⟨rfl, hc1, hB1⟩
        obtain ⟨l1, hl1⟩ : ∃ l1, [(base + 24, cOne n)] ++ [(base + 64 + 16 * ((n.len + 1 : Nat) : Int) + 8, 0)] = l1 := ⟨_, rfl⟩
        rw [hl1] at hc1
        obtain ⟨m1, hm1⟩ : ∃ m1, n.setP (n.len + 1) 0 = m1 := ⟨_, rfl⟩
        have HWs : Hid (Was (n.setP (n.len + 1) 0) n n.len) := Lib.hid ⟨rfl, rfl, fun j hj => ⟨rfl, by simp only [Nd.setP, if_neg (show j ≠ n.len + 1 by omega)]⟩⟩
        rw [hm1] at hc1 HWs
        have HC1 := Lib.hid hc1
        have HBx := Lib.hid (HB5.out.trans (hB1.mono HS4.out))
        have HLL := Lib.hid (show l1.length ≤ 2 by rw [← hl1]; simp)
        have HL1 := Lib.hid (show l1 = [(base + 24, cOne n)] ++ (if n.len + 1 < 8 then [(base + 64 + 16 * ((n.len + 1 : Nat) : Int) + 8, 0)] else []) by rw [if_pos h7, hl1])
        clear hc1 hB1 hl1 hm1 HP0
        have hl1 := HLL.out
        go_wp2_with (fail)
        go_step3
        go_wp2_with (fail)
        go_loopw [16] (fun iv wr => ∃ (j : Nat) (m' : Nd) (z : Nat), z = n.len - j ∧ iv = .int .i64 z ∧ j ≤ n.len - A ∧ Hid (CSet w4.heap.size b base m' (l1 ++ shiftL base n n.len j) wr) ∧ Hid (Was m' n z) ∧ Hid (Below w.heap.size w wr)) (fun iv _ => (intOf iv).toNat)
        case atStart => exact ⟨0, m1, n.len, rfl, rfl, Nat.zero_le _, Lib.hid (by simpa [shiftL] using HC1.out), HWs, HBx⟩
        case round =>
          obtain ⟨j, m', z, hz, rfl, hj, HC, HWz, HB⟩ := hrel
          have hlen : (l1 ++ shiftL base n n.len j).length ≤ 20 := by rw [List.length_append, shiftL_len]; omega
          by_cases hza : z = A
          · have HE := Lib.hid (show j = n.len - A by omega)
            subst hza
            have HAh := Lib.hid (cahead HC.out z (by omega))
            rw [HWz.out.ahead] at HAh
            have HP1 := Lib.hid (cptr HC.out (by omega) (by omega) (by omega) z (by omega) (n.ahead z))
            obtain ⟨ax, hax⟩ : ∃ ax, n.ahead z = ax := ⟨_, rfl⟩
            rw [hax] at HAh HP1
            have HAX := Lib.hid hax
            have HCT := Lib.hid HWz.out.1
            have HLE := Lib.hid hlen
            clear hax hz hlen
            go_wp2_with (fail)
            refine HAh.out.mono ?_
            rintro e w' ⟨rfl, rfl⟩
            go_wp2_with (fail)
            refine HP1.out.mono ?_
            rintro e W2 ⟨rfl, hc2, hB2⟩
            have HK2 := Lib.hid (ckey hc2 (by have := HLE.out; rw [List.length_append]; simp only [List.length_cons, List.length_nil]; omega) (by omega) (by omega) z (by omega) key)
            have HB2 := Lib.hid (HB.out.trans (hB2.mono HS4.out))
            clear hc2 hB2
            go_wp2_with (fail)
            refine HK2.out.mono ?_
            rintro e W3 ⟨rfl, hc3, hB3⟩
            have HP3 := Lib.hid (cptr hc3 (by have := HLE.out; rw [List.length_append, List.length_append]; simp only [List.length_cons, List.length_nil]; omega) (by omega) (by omega) z (by omega) ptr)
            have HB3 := Lib.hid (HB2.out.trans (hB3.mono HS4.out))
            clear hc3 hB3
            go_wp2_with (fail)
            refine HP3.out.mono ?_
            rintro e W6 ⟨rfl, hc4, hB4⟩
            have HEn := Lib.hid (cend hc4 (by have := HLE.out; rw [List.length_append, List.length_append, List.length_append]; simp only [List.length_cons, List.length_nil]; omega) (by omega) (by omega) (cTwo n) (by show IntKind.u64.wrap (m'.ct + 2) = _; rw [HCT.out]; rfl))
            have HB6 := Lib.hid (HB3.out.trans (hB4.mono HS4.out))
            clear hc4 hB4
            go_wp2_with (fail)
            refine HEn.out.mono ?_
            rintro e W7 ⟨a, m, c, rfl, hml, ho, hB7⟩
            have HD := Lib.hid (show MadeP (insL base n key ptr (n.last key + 1).toNat) 0 w (.returned (.tuple #[.slice a m c, .int .i64 0])) W7 from MadeP.done ⟨a, m, c, rfl, hml, ho, hB7⟩ HB6.out HS4.out (by
              rw [HAA.out, Int.toNat_natCast, HL1.out, HE.out]
              unfold insL
              rw [HAX.out]
              simp))
            clear hml ho hB7
            go_wp2_with (fail)
            rw [Exit.noGoto_ret]
            go_ret2
            exact HD.out
          · obtain ⟨y, hy⟩ : ∃ y, z = y + 1 := ⟨z - 1, by omega⟩
            have hyl : y < 8 := by omega
            have hzl : z < 8 := by omega
            have cp := ((HC.out.at).2.2.2.1 y hyl).2
            rw [(HWz.out.2.2 y (by omega)).2] at cp
            have HP1 := Lib.hid (cptr HC.out (by omega) (by omega) (by omega) z hzl (n.p y))
            have HNx : Hid (∀ W2, CSet w4.heap.size b base (m'.setP z (n.p y)) (l1 ++ shiftL base n n.len j ++ [(base + 64 + 16 * (z : Int) + 8, n.p y)]) W2 → W2.cell? ⟨b, 6 + y, none⟩ = some (.int .u64 (n.k y)) ∧ Calls Try.prog 77 #[.pointer (some ⟨b, 0, none⟩), .int .i64 z, .int .u64 (n.k y)] W2 fun e w' => e = .returned (.tuple #[]) ∧ CSet w4.heap.size b base ((m'.setP z (n.p y)).setK z (n.k y)) (l1 ++ shiftL base n n.len (j + 1)) w' ∧ Below w4.heap.size W2 w') := Lib.hid (fun W2 hc2 => by
              refine ⟨?_, ?_⟩
              · rw [((hc2.at).2.2.2.1 y hyl).1]
                exact congrArg (fun q => some (Value.int .u64 q)) (HWz.out.2.2 y (by omega)).1
              · refine (ckey hc2 (by rw [List.length_append]; simp only [List.length_cons, List.length_nil]; omega) (by omega) (by omega) z hzl (n.k y)).mono ?_
                rintro e w' ⟨he, hc, hB⟩
                refine ⟨he, ?_, hB⟩
                rw [shiftL, show n.len - j = z by omega, show z - 1 = y by omega]
                simpa using hc)
            have HW2 : Hid (Was ((m'.setP z (n.p y)).setK z (n.k y)) n y) := Lib.hid ⟨HWz.out.1, HWz.out.2.1, fun i hi => by
              have := HWz.out.2.2 i (by omega)
              simp only [Nd.setP, Nd.setK, if_neg (show i ≠ z by omega)]
              exact this⟩
            obtain ⟨xp, hxp⟩ : ∃ xp, n.p y = xp := ⟨_, rfl⟩
            obtain ⟨xk, hxk⟩ : ∃ xk, n.k y = xk := ⟨_, rfl⟩
            rw [hxp] at cp HP1 HNx HW2
            rw [hxk] at HNx HW2
            have qz : ((z : Int) == (A : Int)) = false := by rw [beq_eq_false_iff_ne]; omega
            have q1 : (z : Int) - 1 < 8 := by omega
            have q2 : 1 ≤ (z : Int) := by omega
            have q2' : 0 ≤ (z : Int) - 1 := by omega
            have q3 : ((z : Int) - 1).toNat = y := by omega
            have q4 : (z : Int) - 1 = (y : Int) := by omega
            have HQ4 := Lib.hid q4
            have HY := Lib.hid (show y = n.len - (j + 1) ∧ j + 1 ≤ n.len - A ∧ y < z by omega)
            clear hxp hxk hy hz hlen hj q4
            go_wp2_with (fail)
            refine HP1.out.mono ?_
            rintro e W2 ⟨rfl, hc2, hB2⟩
            obtain ⟨ck, hN2⟩ := HNx.out _ hc2
            have HN2 := Lib.hid hN2
            have HB2 := Lib.hid (HB.out.trans (hB2.mono HS4.out))
            clear hc2 hB2 hN2 cp
            go_wp2_with (fail)
            refine HN2.out.mono ?_
            rintro e W3 ⟨rfl, hc3, hB3⟩
            have HC3 := Lib.hid hc3
            have HB3 := Lib.hid (HB2.out.trans (hB3.mono HS4.out))
            clear hc3 hB3 ck
            go_wp2_with (fail)
            go_roundw
            case rel => exact ⟨j + 1, _, y, HY.out.1, by rw [HQ4.out], HY.out.2.1, HC3, HW2, HB3⟩
            case measure => have := HY.out.2.2; have := HQ4.out; simp [intOf]; omega
      · have i7 : ¬ (n.len : Int) + 1 < 8 := by omega
        obtain ⟨l1, hl1⟩ : ∃ l1, [(base + 24, cOne n)] = l1 := ⟨_, rfl⟩
        obtain ⟨m1, hm1⟩ : ∃ m1, n = m1 := ⟨_, rfl⟩
        have HWs : Hid (Was m1 n n.len) := Lib.hid (by rw [← hm1]; exact ⟨rfl, rfl, fun j hj => ⟨rfl, rfl⟩⟩)
        have HC1 : Hid (CSet w4.heap.size b base m1 l1 W5) := Lib.hid (by rw [← hm1, ← hl1]; exact HC5.out)
        have HBx := HB5
        have HLL := Lib.hid (show l1.length ≤ 2 by rw [← hl1]; simp)
        have HL1 := Lib.hid (show l1 = [(base + 24, cOne n)] ++ (if n.len + 1 < 8 then [(base + 64 + 16 * ((n.len + 1 : Nat) : Int) + 8, 0)] else []) by rw [if_neg h7, ← hl1]; rfl)
        clear hl1 hm1
        have hl1 := HLL.out
        go_wp2_with (fail)
        go_step3
        go_wp2_with (fail)
        go_loopw [16] (fun iv wr => ∃ (j : Nat) (m' : Nd) (z : Nat), z = n.len - j ∧ iv = .int .i64 z ∧ j ≤ n.len - A ∧ Hid (CSet w4.heap.size b base m' (l1 ++ shiftL base n n.len j) wr) ∧ Hid (Was m' n z) ∧ Hid (Below w.heap.size w wr)) (fun iv _ => (intOf iv).toNat)
        case atStart => exact ⟨0, m1, n.len, rfl, rfl, Nat.zero_le _, Lib.hid (by simpa [shiftL] using HC1.out), HWs, HBx⟩
        case round =>
          obtain ⟨j, m', z, hz, rfl, hj, HC, HWz, HB⟩ := hrel
          have hlen : (l1 ++ shiftL base n n.len j).length ≤ 20 := by rw [List.length_append, shiftL_len]; omega
          by_cases hza : z = A
          · have HE := Lib.hid (show j = n.len - A by omega)
            subst hza
            have HAh := Lib.hid (cahead HC.out z (by omega))
            rw [HWz.out.ahead] at HAh
            have HP1 := Lib.hid (cptr HC.out (by omega) (by omega) (by omega) z (by omega) (n.ahead z))
            obtain ⟨ax, hax⟩ : ∃ ax, n.ahead z = ax := ⟨_, rfl⟩
            rw [hax] at HAh HP1
            have HAX := Lib.hid hax
            have HCT := Lib.hid HWz.out.1
            have HLE := Lib.hid hlen
            clear hax hz hlen
            go_wp2_with (fail)
            refine HAh.out.mono ?_
            rintro e w' ⟨rfl, rfl⟩
            go_wp2_with (fail)
            refine HP1.out.mono ?_
            rintro e W2 ⟨rfl, hc2, hB2⟩
            have HK2 := Lib.hid (ckey hc2 (by have := HLE.out; rw [List.length_append]; simp only [List.length_cons, List.length_nil]; omega) (by omega) (by omega) z (by omega) key)
            have HB2 := Lib.hid (HB.out.trans (hB2.mono HS4.out))
            clear hc2 hB2
            go_wp2_with (fail)
            refine HK2.out.mono ?_
            rintro e W3 ⟨rfl, hc3, hB3⟩
            have HP3 := Lib.hid (cptr hc3 (by have := HLE.out; rw [List.length_append, List.length_append]; simp only [List.length_cons, List.length_nil]; omega) (by omega) (by omega) z (by omega) ptr)
            have HB3 := Lib.hid (HB2.out.trans (hB3.mono HS4.out))
            clear hc3 hB3
            go_wp2_with (fail)
            refine HP3.out.mono ?_
            rintro e W6 ⟨rfl, hc4, hB4⟩
            have HEn := Lib.hid (cend hc4 (by have := HLE.out; rw [List.length_append, List.length_append, List.length_append]; simp only [List.length_cons, List.length_nil]; omega) (by omega) (by omega) (cTwo n) (by show IntKind.u64.wrap (m'.ct + 2) = _; rw [HCT.out]; rfl))
            have HB6 := Lib.hid (HB3.out.trans (hB4.mono HS4.out))
            clear hc4 hB4
            go_wp2_with (fail)
            refine HEn.out.mono ?_
            rintro e W7 ⟨a, m, c, rfl, hml, ho, hB7⟩
            have HD := Lib.hid (show MadeP (insL base n key ptr (n.last key + 1).toNat) 0 w (.returned (.tuple #[.slice a m c, .int .i64 0])) W7 from MadeP.done ⟨a, m, c, rfl, hml, ho, hB7⟩ HB6.out HS4.out (by
              rw [HAA.out, Int.toNat_natCast, HL1.out, HE.out]
              unfold insL
              rw [HAX.out]
              simp))
            clear hml ho hB7
            go_wp2_with (fail)
            rw [Exit.noGoto_ret]
            go_ret2
            exact HD.out
          · obtain ⟨y, hy⟩ : ∃ y, z = y + 1 := ⟨z - 1, by omega⟩
            have hyl : y < 8 := by omega
            have hzl : z < 8 := by omega
            have cp := ((HC.out.at).2.2.2.1 y hyl).2
            rw [(HWz.out.2.2 y (by omega)).2] at cp
            have HP1 := Lib.hid (cptr HC.out (by omega) (by omega) (by omega) z hzl (n.p y))
            have HNx : Hid (∀ W2, CSet w4.heap.size b base (m'.setP z (n.p y)) (l1 ++ shiftL base n n.len j ++ [(base + 64 + 16 * (z : Int) + 8, n.p y)]) W2 → W2.cell? ⟨b, 6 + y, none⟩ = some (.int .u64 (n.k y)) ∧ Calls Try.prog 77 #[.pointer (some ⟨b, 0, none⟩), .int .i64 z, .int .u64 (n.k y)] W2 fun e w' => e = .returned (.tuple #[]) ∧ CSet w4.heap.size b base ((m'.setP z (n.p y)).setK z (n.k y)) (l1 ++ shiftL base n n.len (j + 1)) w' ∧ Below w4.heap.size W2 w') := Lib.hid (fun W2 hc2 => by
              refine ⟨?_, ?_⟩
              · rw [((hc2.at).2.2.2.1 y hyl).1]
                exact congrArg (fun q => some (Value.int .u64 q)) (HWz.out.2.2 y (by omega)).1
              · refine (ckey hc2 (by rw [List.length_append]; simp only [List.length_cons, List.length_nil]; omega) (by omega) (by omega) z hzl (n.k y)).mono ?_
                rintro e w' ⟨he, hc, hB⟩
                refine ⟨he, ?_, hB⟩
                rw [shiftL, show n.len - j = z by omega, show z - 1 = y by omega]
                simpa using hc)
            have HW2 : Hid (Was ((m'.setP z (n.p y)).setK z (n.k y)) n y) := Lib.hid ⟨HWz.out.1, HWz.out.2.1, fun i hi => by
              have := HWz.out.2.2 i (by omega)
              simp only [Nd.setP, Nd.setK, if_neg (show i ≠ z by omega)]
              exact this⟩
            obtain ⟨xp, hxp⟩ : ∃ xp, n.p y = xp := ⟨_, rfl⟩
            obtain ⟨xk, hxk⟩ : ∃ xk, n.k y = xk := ⟨_, rfl⟩
            rw [hxp] at cp HP1 HNx HW2
            rw [hxk] at HNx HW2
            have qz : ((z : Int) == (A : Int)) = false := by rw [beq_eq_false_iff_ne]; omega
            have q1 : (z : Int) - 1 < 8 := by omega
            have q2 : 1 ≤ (z : Int) := by omega
            have q2' : 0 ≤ (z : Int) - 1 := by omega
            have q3 : ((z : Int) - 1).toNat = y := by omega
            have q4 : (z : Int) - 1 = (y : Int) := by omega
            have HQ4 := Lib.hid q4
            have HY := Lib.hid (show y = n.len - (j + 1) ∧ j + 1 ≤ n.len - A ∧ y < z by omega)
            clear hxp hxk hy hz hlen hj q4
            go_wp2_with (fail)
            refine HP1.out.mono ?_
            rintro e W2 ⟨rfl, hc2, hB2⟩
            obtain ⟨ck, hN2⟩ := HNx.out _ hc2
            have HN2 := Lib.hid hN2
            have HB2 := Lib.hid (HB.out.trans (hB2.mono HS4.out))
            clear hc2 hB2 hN2 cp
            go_wp2_with (fail)
            refine HN2.out.mono ?_
            rintro e W3 ⟨rfl, hc3, hB3⟩
            have HC3 := Lib.hid hc3
            have HB3 := Lib.hid (HB2.out.trans (hB3.mono HS4.out))
            clear hc3 hB3 ck
            go_wp2_with (fail)
            go_roundw
            case rel => exact ⟨j + 1, _, y, HY.out.1, by rw [HQ4.out], HY.out.2.1, HC3, HW2, HB3⟩
            case measure => have := HY.out.2.2; have := HQ4.out; simp [intOf]; omega
end Go.Proofs.Ytgmbnoimlffgcaa
