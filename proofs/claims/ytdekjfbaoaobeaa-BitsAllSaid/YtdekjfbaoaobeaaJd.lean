/-
  The law BitsAll, walked. (UNDER WAY)
-/
import Derived.Test.YtdekjfbaoaobeaaJc
import Derived.Test.YtdekjfbaoaobeaaJb
import Derived.Test.YtdekjfbaoaobeaaJs
import Derived.Sort.BigQuietIn
namespace Go.Proofs.Ytdekjfbaoaobeaa
open Go.RowKit Go.Shelf
attribute [local go_sem] Oper.semAt_some

theorem wpIn_region_cls {F : Fence} {n : Nat} {P : Program} {S : Type} (f : S → World) {id : Nat} {Q : Exit → Act → World → Prop} {a : Act} {w : World} {l : List Oper} (hro : F.round = none) (hm : P.follows .mixedOrders = true) (hB : Region.lexB .any l.toArray = true)
    (h0 : ∃ x, w.drew = f x) (h : wpQuietIn F n P l.toArray (fun w' => ∃ x, w' = f x) (fun a' => ∀ w', (∃ x, w' = f x) → Q .normal a' w') l a) : (Code.region id l.toArray true).wpIn F n P Q a w :=
  wpIn_region_quiet (C := fun w' => ∃ x, w' = f x) hro hm hB h0 (by simpa using h)

theorem callsIn_cls {F : Fence} {n : Nat} {P : Program} {S : Type} {f : S → World} {w : World} {g : FuncId} {args : Array Value} {v : Value} {x : S} (hi : ∀ w', Below w.heap.size w w' → ∃ x, w' = f x) (hB : ∀ x, Below w.heap.size w (f x))
    (h : CallsIn F n P g args (f x) fun e w' => e = .returned v ∧ Below (f x).heap.size (f x) w') : CallsIn F n P g args (f x) fun e w' => e = .returned v ∧ ∃ y, w' = f y :=
  h.mono fun _ _ ⟨he, hb⟩ => ⟨he, hi _ ((hB x).trans (hb.mono (hB x).size))⟩

theorem bits_in (mm m : Nat) (hm : m < 18446744073709551616) (w : World) : CallsIn Fence.wide mm Try.prog 20 #[.int .u64 m] w fun e w' => ∃ v, e = .returned v ∧ w'.ownsRow w.heap.size 3 1 v (bitsL m).length ((bitsL m).map (Value.int .i64)) ∧ Below w.heap.size w w' := callsIn_wide.2 (rbits_v m hm w)
theorem count_inAny (mm m : Nat) (hm : m < 18446744073709551616) (w : World) : CallsIn Fence.wide mm Try.prog 22 #[.int .u64 m] w fun e W' => e = .returned (.int .i64 (bitsL m).length) ∧ Below w.heap.size w W' := callsIn_wide.2 (count_calls m hm w)
theorem known_in (mm : Nat) (w : World) : CallsIn Fence.wide mm Try.prog 15 #[] w fun e W' => e = .returned (.bool true) ∧ Below w.heap.size w W' := callsIn_wide.2 (known_any w)

theorem seq_eq (b : Nat) (w : World) : (binOp .eql 32 (.func (.func 38) #[] #[.pointer (some ⟨b, 0, none⟩)]) .nilFunc).run Try.prog w = .ok (.bool false) w := by kernel_rfl


set_option maxRecDepth 100000 in
set_option maxHeartbeats 2000000 in
theorem all_law_in (m : Nat) (hm : m < 18446744073709551616) (few : Int) (w : World) :
    CallsIn Fence.wide 20 Try.prog 5 #[.int .u64 m, .int .i64 few] w fun e W' => e = .returned (.bool true) ∧ Below w.heap.size w W' := by
  have HB := Lib.hid (fun mm w => bits_in mm m hm w)
  have HC := Lib.hid (fun mm w => count_inAny mm m hm w)
  have hlen := bitsTo_len m 64
  change (bitsL m).length ≤ 64 at hlen
  have HLn := Lib.hid hlen
  clear hlen
  refine callsIn_of_wp_marks Try.func5 rfl trivial ?_ rfl
  simp only [Try.ntmps5, List.size_toArray, List.length_cons, List.length_nil, Nat.reduceAdd, Nat.reduceSub, Array.replicate_succ, Array.replicate_zero, List.push_toArray, List.append_toArray, List.nil_append, List.cons_append]
  gi_wp2_with (fail)
  refine ⟨trivial, ?_⟩
  refine (HB.out _ _).mono ?_
  rintro e w1 ⟨v, rfl, hown, hB1⟩
  obtain ⟨ga, gl, gc, rfl⟩ := own_slice hown
  have hgl : gl = (bitsL m).length := own_len hown
  subst hgl
  have HO1 := Lib.hid hown
  have HB1 := Lib.hid hB1
  have hsz := hB1.size
  clear hown hB1
  gi_wp2_with (refine ⟨trivial, ?_⟩; gi_at_call 21; refine (all_calls _ m _).mono ?_; rintro e w' ⟨rfl, rfl⟩)
  have hsz0 : ((w.alloc (.cells #[.int .i64 few] 3)).alloc (.cells #[.bool false] 4)).heap.size = w.heap.size + 2 := by simp
  rw [hsz0] at hsz
  have hB1 := HB1.out
  rw [hsz0] at hB1
  obtain ⟨w3, hw3⟩ : ∃ w3, w3 = (w1.alloc (.cells #[.slice ga (bitsL m).length gc] 29)).alloc (.cells #[.int .u64 m] 22) := ⟨_, rfl⟩
  have hs3 : w3.heap.size = w1.heap.size + 2 := by rw [hw3]; simp
  have n3 : Blk w3 w.heap.size #[.int .i64 few] 3 := by
    have h := (Blk.new w #[.int .i64 few] 3).alloc (.cells #[.bool false] 4)
    rw [hw3]; exact ((h.kept (Keeps.of_below' HB1.out) id).alloc _).alloc _
  have k3 : Blk w3 (w.heap.size + 1) #[.bool false] 4 := by
    have h := Blk.new (w.alloc (.cells #[.int .i64 few] 3)) #[.bool false] 4
    rw [show (w.alloc (.cells #[.int .i64 few] 3)).heap.size = w.heap.size + 1 by simp] at h
    rw [hw3]; exact ((h.kept (Keeps.of_below' HB1.out) id).alloc _).alloc _
  have v3 : Blk w3 w1.heap.size #[.slice ga (bitsL m).length gc] 29 := by rw [hw3]; exact (Blk.new w1 _ _).alloc _
  have u3 : Blk w3 (w1.heap.size + 1) #[.int .u64 m] 22 := by
    have h := Blk.new (w1.alloc (.cells #[.slice ga (bitsL m).length gc] 29)) #[.int .u64 m] 22
    rw [show (w1.alloc (.cells #[.slice ga (bitsL m).length gc] 29)).heap.size = w1.heap.size + 1 by simp] at h
    rw [hw3]; exact h
  have o3 : w3.ownsRow (w.heap.size + 2) 3 1 (.slice ga (bitsL m).length gc) (bitsL m).length ((bitsL m).map (Value.int .i64)) := by
    have h := HO1.out
    rw [hsz0] at h
    rw [hw3]; exact (h.alloc _).alloc _
  have hB3 : Below w.heap.size w w3 := by
    rw [hw3]
    exact (((((Below.refl _ w).alloc (Nat.le_refl _) _).alloc (by simp) _).trans (HB1.out.mono (by simp; omega))).alloc (by omega) _).alloc (by simp; omega) _
  rw [← hw3]
  have og : ∀ g, (Value.slice ga (bitsL m).length gc).ownBlock = some g → g < w1.heap.size := fun g hg => (HO1.out.lt g hg).2
  have OG := Lib.hid og
  clear hw3 hB1 HO1 HB1 hsz0 og
  obtain ⟨S, f, hne, hx0, hfB, hfI⟩ := cls_of w3
  have F0 := Lib.hid hx0
  have FB := Lib.hid hfB
  have FI := Lib.hid hfI
  have hcw : ∀ x, (f x).cell? ⟨w1.heap.size, 0, none⟩ = some (.slice ga (bitsL m).length gc) := fun x => by rw [((FB.out x).cell (p := ⟨w1.heap.size, 0, none⟩) (by show w1.heap.size < w3.heap.size; omega)), v3.cell]; rfl
  have N3 := Lib.hid n3
  have K3 := Lib.hid k3
  have V3 := Lib.hid v3
  have U3 := Lib.hid u3
  have O3 := Lib.hid o3
  have B3 := Lib.hid hB3
  clear hx0 hfB hfI n3 k3 v3 u3 o3 hB3
  have hfe := fun w => seq_eq (w1.heap.size + 1) w
  refine wpIn_region_cls f rfl (by kernel_rfl) (by kernel_rfl) F0.out ?_
  repeat (gi_big_quiet_step (fail))
  refine BigFrame.wpQuietIn_want ?_ rfl ?_
  · exact fun _ _ _ _ => trivial
  intro K hK
  gi_big_quiet_op
  gi_big_quiet_call ((gi_at_call 22; exact callsIn_cls FI.out FB.out (HC.out _ _)))
  repeat (gi_big_quiet_step (fail))
  refine wpQuietIn_nil ?_
  intro _ hw'
  obtain ⟨xq, hw''⟩ := hw'
  subst hw''
  have BX := Lib.hid (FB.out xq)
  obtain ⟨w4, hw4⟩ : ∃ w4, w4 = f xq := ⟨_, rfl⟩
  have b4 : Below w3.heap.size w3 w4 := by rw [hw4]; exact FB.out xq
  rw [← hw4]
  have hs4 := b4.size
  have N4 := Lib.hid (N3.out.kept (Keeps.of_below' b4) id)
  have K4 := Lib.hid (K3.out.kept (Keeps.of_below' b4) id)
  have V4 := Lib.hid (V3.out.kept (Keeps.of_below' b4) id)
  have U4 := Lib.hid (U3.out.kept (Keeps.of_below' b4) id)
  have B4 := Lib.hid (B3.out.trans (b4.mono (by omega)))
  have O4 := Lib.hid (show w4.ownsRow (w.heap.size + 2) 3 1 (.slice ga (bitsL m).length gc) (bitsL m).length ((bitsL m).map (Value.int .i64)) from by
    refine ⟨O3.out.1, ?_⟩
    rcases O3.out.2 with h1 | ⟨g, cap, cur, h1, h2, h3, h4⟩
    · exact .inl h1
    · exact .inr ⟨g, cap, cur, h1, h2, by rw [b4.block g (Array.getElem?_eq_some_iff.1 h3).1]; exact h3, h4⟩)
  clear hw4 b4 BX hcw F0 FB FI hfe N3 K3 V3 U3 O3 B3
  have bn0 : Blk (w4.alloc (.cells #[.int .i64 0] 3)) w4.heap.size #[.int .i64 0] 3 := Blk.new w4 _ _
  have A0 := Lib.hid (show AllSt w.heap.size w w1.heap.size w4.heap.size (.slice ga (bitsL m).length gc) m few 0 (w4.alloc (.cells #[.int .i64 0] 3)) from
    ⟨N4.out.alloc _, K4.out.alloc _, V4.out.alloc _, U4.out.alloc _, bn0, O4.out.alloc _, B4.out.alloc (by omega) _, hsz, by omega, OG.out⟩)
  clear bn0 N4 K4 V4 U4 O4 B4
  gi_wp2
  obtain ⟨w5, hw5⟩ : ∃ w5, w5 = w4.alloc (.cells #[.int .i64 0] 3) := ⟨_, rfl⟩
  have hs5 : w5.heap.size = w4.heap.size + 1 := by rw [hw5]; simp
  rw [← hw5] at A0 ⊢
  clear hw5
  refine wpIn_rangeFunc_ownF rfl (by omega) (gf := 38) (lb := #[.pointer (some ⟨w1.heap.size + 1, 0, none⟩)]) (by simp [Act.eval]) trivial (enters_of Try.func38 (by kernel_rfl) rfl)
    (all_stops 19 (by omega) m hm (w1.heap.size + 1) w5 A0.out.u) kpB_t (kpB_b (by omega)) (Below.refl _ _) (fun _ => rfl)
    (fun pre W => (AllSt w.heap.size w w1.heap.size w4.heap.size (.slice ga (bitsL m).length gc) m few pre.length W ∧ pre <+: bitsL m) ∧ w5.heap.size ≤ W.heap.size)
    (fun c pre W => ((c = .exit 0 ∧ ∃ q, AllSt w.heap.size w w1.heap.size w4.heap.size (.slice ga (bitsL m).length gc) m few q W) ∨ (c = .ret ∧ ¬ pre <+: bitsL m)) ∧ w5.heap.size ≤ W.heap.size)
    (fun s A B row hs hg hr => by
      obtain ⟨⟨h1, h2⟩, h4⟩ := hs
      exact ⟨⟨h1.put (by omega) hg (fun r e => ⟨by have := (hr r e).1; omega, (hr r e).2⟩), h2⟩, Nat.le_trans h4 hg.size⟩)
    (fun c s A B row hs hg hr => by
      obtain ⟨h1 | h1, h4⟩ := hs
      · obtain ⟨h1, q, h2⟩ := h1
        exact ⟨.inl ⟨h1, q, h2.put (by omega) hg (fun r e => ⟨by have := (hr r e).1; omega, (hr r e).2⟩)⟩, Nat.le_trans h4 hg.size⟩
      · exact ⟨.inr h1, Nat.le_trans h4 hg.size⟩)
    ⟨⟨A0.out, List.nil_prefix⟩, Nat.le_refl _⟩
    (fun x => { tmps := #[.int .u64 m, .int .i64 few, undef, .pointer (some ⟨w.heap.size, 0, none⟩), .pointer (some ⟨w.heap.size + 1, 0, none⟩), .pointer (some ⟨w1.heap.size, 0, none⟩), .func (.func 38) #[] #[.pointer (some ⟨w1.heap.size + 1, 0, none⟩)], .pointer (some ⟨w4.heap.size, 0, none⟩), .int .i64 x, undef, .int .u64 m, .slice ga (bitsL m).length gc, .int .u64 m, .func (.func 38) #[] #[.pointer (some ⟨w1.heap.size + 1, 0, none⟩)], .func (.func 38) #[] #[.pointer (some ⟨w1.heap.size + 1, 0, none⟩)], .bool false, .bool false, .int .u64 m, .int .i64 (bitsL m).length, .slice ga (bitsL m).length gc, .int .i64 (bitsL m).length, .bool false, .bool false, .func (.func 38) #[] #[.pointer (some ⟨w1.heap.size + 1, 0, none⟩)], .int .i64 x, undef, undef, undef, undef, undef, undef, undef, undef, undef, undef, undef, undef, undef, undef, undef, undef, undef, undef, undef, undef, undef, undef, undef, undef, undef, undef, undef, undef, undef, undef, undef, undef, undef, undef, undef, undef, undef, undef, undef, undef], defers := [] }) ?assign ?body ?done ?stop
  case assign =>
    intro l x W K hK
    simp [encI]
    gi_wp2
    exact hK
  case body =>
    rintro l pre x W ⟨⟨hA, hp⟩, hz⟩ hlen
    have cf := hA.f.cell 0
    rw [show (#[Value.int .i64 few] : Array Value)[0]? = some (.int .i64 few) from rfl] at cf
    have ct := hA.t.cell 0
    rw [show (#[Value.slice ga (bitsL m).length gc] : Array Value)[0]? = some (.slice ga (bitsL m).length gc) from rfl] at ct
    have cn := hA.c.cell 0
    rw [show (#[Value.int .i64 (pre.length : Int)] : Array Value)[0]? = some (.int .i64 pre.length) from rfl] at cn
    have cr := hA.r.cell 0
    rw [show (#[Value.bool false] : Array Value)[0]? = some (.bool false) from rfl] at cr
    have fn := hA.c.frozen 0
    have fr := hA.r.frozen 0
    have HA := Lib.hid hA
    have HP := Lib.hid hp
    have HZ := Lib.hid hz
    have hln := hA.ln
    clear hp hz hA
    by_cases h1 : (pre.length : Int) = few
    · gi_wp2
      exact ⟨KeepsOthers.refl _, .inl ⟨rfl, _, HA.out⟩, HZ.out⟩
    · by_cases h2 : (bitsL m).length ≤ pre.length
      · have h3 : ((bitsL m).length : Int) ≤ (pre.length : Int) := by omega
        gi_wp2
        exact ⟨KeepsOthers.setCell _ _ _, .inr ⟨rfl, fun h => by have := (pre_at h).2; omega⟩, by have := HZ.out; simp; omega⟩
      · have h3 : ¬ ((bitsL m).length : Int) ≤ (pre.length : Int) := by omega
        obtain ⟨g, cap, e, hc⟩ := HA.out.at (by omega)
        simp at e
        obtain ⟨rfl, rfl⟩ := e
        have c1 := hc pre.length (by omega)
        obtain ⟨y, hy⟩ : ∃ y, (bitsL m).getD pre.length 0 = y := ⟨_, rfl⟩
        rw [hy] at c1
        have HY := Lib.hid hy
        have H2 := Lib.hid h2
        have b1 : (pre.length : Int) < ((bitsL m).length : Int) := by omega
        have b3 : ((pre.length : Int)).toNat = pre.length := by omega
        clear hc hy h2
        by_cases hx : x = y
        · have HX := Lib.hid hx
          subst hx
          gi_wp2
          exact ⟨KeepsOthers.setCell _ _ _, ⟨by simp, fun _ => heap_setCell_other _ _ _ _ (by show _ ≠ w4.heap.size; omega)⟩, ⟨by have := HA.out.setn ((pre.length : Int) + 1); simpa using this, pre_next HP.out (by have := H2.out; omega) HY.out⟩, by have := HZ.out; simp; omega⟩
        · gi_wp2
          exact ⟨KeepsOthers.setCell _ _ _, .inr ⟨rfl, fun h => hx (by rw [← HY.out]; exact ((pre_at h).1).symm)⟩, by have := HZ.out; simp; omega⟩
  case done =>
    rintro D xs W hD rfl ⟨⟨hA, _⟩, hz⟩ hK
    have cn := hA.c.cell 0
    rw [show (#[Value.int .i64 ((bitsL m).length : Int)] : Array Value)[0]? = some (.int .i64 (bitsL m).length) from rfl] at cn
    have fn := hA.c.frozen 0
    have HA := Lib.hid hA
    clear hA
    gi_wp2
    have A6 := Lib.hid (HA.out.setn 0)
    obtain ⟨w6, hw6⟩ : ∃ w6, w6 = W.setCell ⟨w4.heap.size, 0, none⟩ (.int .i64 0) := ⟨_, rfl⟩
    have hs6 : w6.heap.size = W.heap.size := by rw [hw6]; simp
    have hD6 : w6.heap[D]? = some (.deferred (some [])) := by rw [hw6]; exact (heap_setCell_other _ _ _ _ (by show D ≠ w4.heap.size; omega)).trans hK
    have hDl : D < w6.heap.size := (Array.getElem?_eq_some_iff.1 hD6).1
    rw [← hw6] at A6 ⊢
    clear hw6 HA cn fn hK
    refine wpIn_rangeFunc_ownF rfl (by omega) (gf := 38) (lb := #[.pointer (some ⟨w1.heap.size + 1, 0, none⟩)]) (by simp [Act.eval]) trivial (enters_of Try.func38 (by kernel_rfl) rfl)
      (all_stops 19 (by omega) m hm (w1.heap.size + 1) w6 A6.out.u) kpB_t (kpB_b (by omega)) (Below.refl _ _) (fun _ => rfl)
      (fun pre W => (AllSt w.heap.size w w1.heap.size w4.heap.size (.slice ga (bitsL m).length gc) m few pre.length W ∧ pre <+: bitsL m) ∧ W.heap[D]? = some (.deferred (some [])) ∧ w6.heap.size ≤ W.heap.size)
      (fun c pre _ => c = .ret ∧ ¬ pre <+: bitsL m)
      (fun s A B row hs hg hr => by
        obtain ⟨⟨h1, h2⟩, h3, h4⟩ := hs
        exact ⟨⟨h1.put (by omega) hg (fun r e => ⟨by have := (hr r e).1; omega, (hr r e).2⟩), h2⟩, (hg.block D (by omega) (fun e => by have := (hr D e.symm).1; omega)).trans h3, Nat.le_trans h4 hg.size⟩)
      (fun c s A B row hs hg hr => hs)
      ⟨⟨A6.out, List.nil_prefix⟩, hD6, Nat.le_refl _⟩
      (fun x => { tmps := #[.int .u64 m, .int .i64 few, undef, .pointer (some ⟨w.heap.size, 0, none⟩), .pointer (some ⟨w.heap.size + 1, 0, none⟩), .pointer (some ⟨w1.heap.size, 0, none⟩), .func (.func 38) #[] #[.pointer (some ⟨w1.heap.size + 1, 0, none⟩)], .pointer (some ⟨w4.heap.size, 0, none⟩), undef, .int .i64 x, .int .u64 m, .slice ga (bitsL m).length gc, .int .u64 m, .func (.func 38) #[] #[.pointer (some ⟨w1.heap.size + 1, 0, none⟩)], .func (.func 38) #[] #[.pointer (some ⟨w1.heap.size + 1, 0, none⟩)], .bool false, .bool false, .int .u64 m, .int .i64 (bitsL m).length, .slice ga (bitsL m).length gc, .int .i64 (bitsL m).length, .bool false, .bool false, .func (.func 38) #[] #[.pointer (some ⟨w1.heap.size + 1, 0, none⟩)], undef, undef, undef, undef, undef, undef, undef, undef, undef, undef, undef, undef, undef, undef, undef, undef, undef, undef, .func (.func 38) #[] #[.pointer (some ⟨w1.heap.size + 1, 0, none⟩)], .int .i64 x, undef, undef, undef, undef, undef, undef, undef, undef, undef, undef, undef, undef, undef, undef, undef, undef, undef, undef, undef, undef, undef], defers := [] }) ?assign2 ?body2 ?done2 ?stop2
    case assign2 =>
      intro l x W K hK
      simp [encI]
      gi_wp2
      exact hK
    case stop2 =>
      rintro D2 c pre W2 hD2 hpre ⟨rfl, h⟩ _
      exact absurd hpre h
    case body2 =>
      rintro l pre x W2 ⟨⟨hA, hp⟩, hd, hz⟩ hlen
      have ct := hA.t.cell 0
      rw [show (#[Value.slice ga (bitsL m).length gc] : Array Value)[0]? = some (.slice ga (bitsL m).length gc) from rfl] at ct
      have cn := hA.c.cell 0
      rw [show (#[Value.int .i64 (pre.length : Int)] : Array Value)[0]? = some (.int .i64 pre.length) from rfl] at cn
      have cr := hA.r.cell 0
      rw [show (#[Value.bool false] : Array Value)[0]? = some (.bool false) from rfl] at cr
      have fn := hA.c.frozen 0
      have fr := hA.r.frozen 0
      have HA := Lib.hid hA
      have HP := Lib.hid hp
      have HZ := Lib.hid hz
      have HDD := Lib.hid hd
      have hln := hA.ln
      clear hp hz hA hd
      by_cases h2 : (bitsL m).length ≤ pre.length
      · have h3 : ((bitsL m).length : Int) ≤ (pre.length : Int) := by omega
        gi_wp2
        exact ⟨KeepsOthers.setCell _ _ _, rfl, fun h => by have := (pre_at h).2; omega⟩
      · have h3 : ¬ ((bitsL m).length : Int) ≤ (pre.length : Int) := by omega
        obtain ⟨g, cap, e, hc⟩ := HA.out.at (by omega)
        simp at e
        obtain ⟨rfl, rfl⟩ := e
        have c1 := hc pre.length (by omega)
        obtain ⟨y, hy⟩ : ∃ y, (bitsL m).getD pre.length 0 = y := ⟨_, rfl⟩
        rw [hy] at c1
        have HY := Lib.hid hy
        have H2 := Lib.hid h2
        have b1 : (pre.length : Int) < ((bitsL m).length : Int) := by omega
        have b3 : ((pre.length : Int)).toNat = pre.length := by omega
        clear hc hy h2
        by_cases hx : x = y
        · have HX := Lib.hid hx
          subst hx
          gi_wp2
          exact ⟨KeepsOthers.setCell _ _ _, ⟨by simp, fun _ => heap_setCell_other _ _ _ _ (by show _ ≠ w4.heap.size; omega)⟩, ⟨by have := HA.out.setn ((pre.length : Int) + 1); simpa using this, pre_next HP.out (by have := H2.out; omega) HY.out⟩, (heap_setCell_other _ _ _ _ (by show D ≠ w4.heap.size; omega)).trans HDD.out, by have := HZ.out; simp; omega⟩
        · gi_wp2
          exact ⟨KeepsOthers.setCell _ _ _, rfl, fun h => hx (by rw [← HY.out]; exact ((pre_at h).1).symm)⟩
    case done2 =>
      rintro D2 xs W2 hD2 rfl ⟨⟨hA, _⟩, hd, hz2⟩ hK2
      have ct := hA.t.cell 0
      rw [show (#[Value.slice ga (bitsL m).length gc] : Array Value)[0]? = some (.slice ga (bitsL m).length gc) from rfl] at ct
      have cn := hA.c.cell 0
      rw [show (#[Value.int .i64 ((bitsL m).length : Int)] : Array Value)[0]? = some (.int .i64 (bitsL m).length) from rfl] at cn
      have HA := Lib.hid hA
      clear hA
      gi_wp2
      refine ⟨trivial, ?_⟩
      refine (known_in _ _).mono ?_
      rintro e w8 ⟨rfl, hB8⟩
      have hR8 := HA.out.r.kept (Keeps.of_below' hB8) id
      have hd8 : w8.heap[D]? = some (.deferred (some [])) := (hB8.block D (Array.getElem?_eq_some_iff.1 hd).1).trans hd
      have hk8 : w8.heap[D2]? = some (.deferred (some [])) := (hB8.block D2 (Array.getElem?_eq_some_iff.1 hK2).1).trans hK2
      have cr := hR8.cell 0
      have fr := hR8.frozen 0
      rw [show (#[Value.bool false] : Array Value)[0]? = some (.bool false) from rfl] at cr
      have HR8 := Lib.hid (hR8.set 0 (.bool true))
      have HB8 := Lib.hid ((HA.out.b.trans (hB8.mono (by have := HA.out.lw; have := HA.out.ln; have := HA.out.c.lt; omega))).setCell (p := ⟨w.heap.size + 1, 0, none⟩) (by simp) (.bool true))
      have hKs2 := (KeepsOthers.setCell w8 ⟨w.heap.size + 1, 0, none⟩ (.bool true)).same D2 _ hk8 rfl
      have hKs := (KeepsOthers.setCell w8 ⟨w.heap.size + 1, 0, none⟩ (.bool true)).same D _ hd8 rfl
      have HD8 := Lib.hid hKs
      clear hR8 hd8 hk8 hB8 hd hKs
      gi_wp2
      refine ⟨by simp, .inl ⟨_, _, rfl, run_takeDeferred hKs2, ?_⟩⟩
      have hDD : ((w8.setCell ⟨w.heap.size + 1, 0, none⟩ (.bool true)).putObj D2 (.deferred none)).heap[D]? = some (.deferred (some [])) :=
        ((grownBy_putObj' _ D2 (.deferred none)).block D (Array.getElem?_eq_some_iff.1 HD8.out).1 (fun e => by have e1 := Option.some.inj e; omega)).trans HD8.out
      refine ⟨by simp, .inl ⟨_, _, rfl, run_takeDeferred hDD, ?_⟩⟩
      have hc5 : (((w8.setCell ⟨w.heap.size + 1, 0, none⟩ (.bool true)).putObj D2 (.deferred none)).putObj D (.deferred none)).cell? ⟨w.heap.size + 1, 0, none⟩ = some (.bool true) := by
        have := (HR8.out.grown (grownBy_putObj' _ D2 (.deferred none)) (fun e => by
          have e1 := Option.some.inj e
          omega)).grown (grownBy_putObj' _ D (.deferred none)) (fun e => by
          have e1 := Option.some.inj e
          omega)
        rw [this.cell]; rfl
      exact ⟨.bool true, by simp [results, Try.results5, go_sem, hc5], rfl, (HB8.out.trans (belowK_b (w := w) (Nat.le_refl _) _ D2 _ _ (by omega) hKs2 rfl rfl)).trans (belowK_b (w := w) (Nat.le_refl _) _ D _ _ (by omega) hDD rfl rfl)⟩
  case stop =>
    rintro D c pre W hD hpre ⟨h | h, hz⟩ hK
    · obtain ⟨rfl, q, hA⟩ := h
      have cn := hA.c.cell 0
      rw [show (#[Value.int .i64 q] : Array Value)[0]? = some (.int .i64 q) from rfl] at cn
      have fn := hA.c.frozen 0
      have HA := Lib.hid hA
      clear hA
      gi_wp2
      have A6 := Lib.hid (HA.out.setn 0)
      obtain ⟨w6, hw6⟩ : ∃ w6, w6 = W.setCell ⟨w4.heap.size, 0, none⟩ (.int .i64 0) := ⟨_, rfl⟩
      have hs6 : w6.heap.size = W.heap.size := by rw [hw6]; simp
      have hD6 : w6.heap[D]? = some (.deferred (some [])) := by rw [hw6]; exact (heap_setCell_other _ _ _ _ (by show D ≠ w4.heap.size; omega)).trans hK
      have hDl : D < w6.heap.size := (Array.getElem?_eq_some_iff.1 hD6).1
      rw [← hw6] at A6 ⊢
      clear hw6 HA cn fn hK
      refine wpIn_rangeFunc_ownF rfl (by omega) (gf := 38) (lb := #[.pointer (some ⟨w1.heap.size + 1, 0, none⟩)]) (by simp [Act.eval]) trivial (enters_of Try.func38 (by kernel_rfl) rfl)
        (all_stops 19 (by omega) m hm (w1.heap.size + 1) w6 A6.out.u) kpB_t (kpB_b (by omega)) (Below.refl _ _) (fun _ => rfl)
        (fun pre W => (AllSt w.heap.size w w1.heap.size w4.heap.size (.slice ga (bitsL m).length gc) m few pre.length W ∧ pre <+: bitsL m) ∧ W.heap[D]? = some (.deferred (some [])) ∧ w6.heap.size ≤ W.heap.size)
        (fun c pre _ => c = .ret ∧ ¬ pre <+: bitsL m)
        (fun s A B row hs hg hr => by
          obtain ⟨⟨h1, h2⟩, h3, h4⟩ := hs
          exact ⟨⟨h1.put (by omega) hg (fun r e => ⟨by have := (hr r e).1; omega, (hr r e).2⟩), h2⟩, (hg.block D (by omega) (fun e => by have := (hr D e.symm).1; omega)).trans h3, Nat.le_trans h4 hg.size⟩)
        (fun c s A B row hs hg hr => hs)
        ⟨⟨A6.out, List.nil_prefix⟩, hD6, Nat.le_refl _⟩
        (fun x => { tmps := #[.int .u64 m, .int .i64 few, undef, .pointer (some ⟨w.heap.size, 0, none⟩), .pointer (some ⟨w.heap.size + 1, 0, none⟩), .pointer (some ⟨w1.heap.size, 0, none⟩), .func (.func 38) #[] #[.pointer (some ⟨w1.heap.size + 1, 0, none⟩)], .pointer (some ⟨w4.heap.size, 0, none⟩), undef, .int .i64 x, .int .u64 m, .slice ga (bitsL m).length gc, .int .u64 m, .func (.func 38) #[] #[.pointer (some ⟨w1.heap.size + 1, 0, none⟩)], .func (.func 38) #[] #[.pointer (some ⟨w1.heap.size + 1, 0, none⟩)], .bool false, .bool false, .int .u64 m, .int .i64 (bitsL m).length, .slice ga (bitsL m).length gc, .int .i64 (bitsL m).length, .bool false, .bool false, .func (.func 38) #[] #[.pointer (some ⟨w1.heap.size + 1, 0, none⟩)], undef, undef, undef, undef, undef, undef, undef, undef, undef, undef, undef, undef, undef, undef, undef, undef, undef, undef, .func (.func 38) #[] #[.pointer (some ⟨w1.heap.size + 1, 0, none⟩)], .int .i64 x, undef, undef, undef, undef, undef, undef, undef, undef, undef, undef, undef, undef, undef, undef, undef, undef, undef, undef, undef, undef, undef], defers := [] }) ?assign2 ?body2 ?done2 ?stop2
      case assign2 =>
        intro l x W K hK
        simp [encI]
        gi_wp2
        exact hK
      case stop2 =>
        rintro D2 c pre W2 hD2 hpre ⟨rfl, h⟩ _
        exact absurd hpre h
      case body2 =>
        rintro l pre x W2 ⟨⟨hA, hp⟩, hd, hz⟩ hlen
        have ct := hA.t.cell 0
        rw [show (#[Value.slice ga (bitsL m).length gc] : Array Value)[0]? = some (.slice ga (bitsL m).length gc) from rfl] at ct
        have cn := hA.c.cell 0
        rw [show (#[Value.int .i64 (pre.length : Int)] : Array Value)[0]? = some (.int .i64 pre.length) from rfl] at cn
        have cr := hA.r.cell 0
        rw [show (#[Value.bool false] : Array Value)[0]? = some (.bool false) from rfl] at cr
        have fn := hA.c.frozen 0
        have fr := hA.r.frozen 0
        have HA := Lib.hid hA
        have HP := Lib.hid hp
        have HZ := Lib.hid hz
        have HDD := Lib.hid hd
        have hln := hA.ln
        clear hp hz hA hd
        by_cases h2 : (bitsL m).length ≤ pre.length
        · have h3 : ((bitsL m).length : Int) ≤ (pre.length : Int) := by omega
          gi_wp2
          exact ⟨KeepsOthers.setCell _ _ _, rfl, fun h => by have := (pre_at h).2; omega⟩
        · have h3 : ¬ ((bitsL m).length : Int) ≤ (pre.length : Int) := by omega
          obtain ⟨g, cap, e, hc⟩ := HA.out.at (by omega)
          simp at e
          obtain ⟨rfl, rfl⟩ := e
          have c1 := hc pre.length (by omega)
          obtain ⟨y, hy⟩ : ∃ y, (bitsL m).getD pre.length 0 = y := ⟨_, rfl⟩
          rw [hy] at c1
          have HY := Lib.hid hy
          have H2 := Lib.hid h2
          have b1 : (pre.length : Int) < ((bitsL m).length : Int) := by omega
          have b3 : ((pre.length : Int)).toNat = pre.length := by omega
          clear hc hy h2
          by_cases hx : x = y
          · have HX := Lib.hid hx
            subst hx
            gi_wp2
            exact ⟨KeepsOthers.setCell _ _ _, ⟨by simp, fun _ => heap_setCell_other _ _ _ _ (by show _ ≠ w4.heap.size; omega)⟩, ⟨by have := HA.out.setn ((pre.length : Int) + 1); simpa using this, pre_next HP.out (by have := H2.out; omega) HY.out⟩, (heap_setCell_other _ _ _ _ (by show D ≠ w4.heap.size; omega)).trans HDD.out, by have := HZ.out; simp; omega⟩
          · gi_wp2
            exact ⟨KeepsOthers.setCell _ _ _, rfl, fun h => hx (by rw [← HY.out]; exact ((pre_at h).1).symm)⟩
      case done2 =>
        rintro D2 xs W2 hD2 rfl ⟨⟨hA, _⟩, hd, hz2⟩ hK2
        have ct := hA.t.cell 0
        rw [show (#[Value.slice ga (bitsL m).length gc] : Array Value)[0]? = some (.slice ga (bitsL m).length gc) from rfl] at ct
        have cn := hA.c.cell 0
        rw [show (#[Value.int .i64 ((bitsL m).length : Int)] : Array Value)[0]? = some (.int .i64 (bitsL m).length) from rfl] at cn
        have HA := Lib.hid hA
        clear hA
        gi_wp2
        refine ⟨trivial, ?_⟩
        refine (known_in _ _).mono ?_
        rintro e w8 ⟨rfl, hB8⟩
        have hR8 := HA.out.r.kept (Keeps.of_below' hB8) id
        have hd8 : w8.heap[D]? = some (.deferred (some [])) := (hB8.block D (Array.getElem?_eq_some_iff.1 hd).1).trans hd
        have hk8 : w8.heap[D2]? = some (.deferred (some [])) := (hB8.block D2 (Array.getElem?_eq_some_iff.1 hK2).1).trans hK2
        have cr := hR8.cell 0
        have fr := hR8.frozen 0
        rw [show (#[Value.bool false] : Array Value)[0]? = some (.bool false) from rfl] at cr
        have HR8 := Lib.hid (hR8.set 0 (.bool true))
        have HB8 := Lib.hid ((HA.out.b.trans (hB8.mono (by have := HA.out.lw; have := HA.out.ln; have := HA.out.c.lt; omega))).setCell (p := ⟨w.heap.size + 1, 0, none⟩) (by simp) (.bool true))
        have hKs2 := (KeepsOthers.setCell w8 ⟨w.heap.size + 1, 0, none⟩ (.bool true)).same D2 _ hk8 rfl
        have hKs := (KeepsOthers.setCell w8 ⟨w.heap.size + 1, 0, none⟩ (.bool true)).same D _ hd8 rfl
        have HD8 := Lib.hid hKs
        clear hR8 hd8 hk8 hB8 hd hKs
        gi_wp2
        refine ⟨by simp, .inl ⟨_, _, rfl, run_takeDeferred hKs2, ?_⟩⟩
        have hDD : ((w8.setCell ⟨w.heap.size + 1, 0, none⟩ (.bool true)).putObj D2 (.deferred none)).heap[D]? = some (.deferred (some [])) :=
          ((grownBy_putObj' _ D2 (.deferred none)).block D (Array.getElem?_eq_some_iff.1 HD8.out).1 (fun e => by have e1 := Option.some.inj e; omega)).trans HD8.out
        refine ⟨by simp, .inl ⟨_, _, rfl, run_takeDeferred hDD, ?_⟩⟩
        have hc5 : (((w8.setCell ⟨w.heap.size + 1, 0, none⟩ (.bool true)).putObj D2 (.deferred none)).putObj D (.deferred none)).cell? ⟨w.heap.size + 1, 0, none⟩ = some (.bool true) := by
          have := (HR8.out.grown (grownBy_putObj' _ D2 (.deferred none)) (fun e => by
            have e1 := Option.some.inj e
            omega)).grown (grownBy_putObj' _ D (.deferred none)) (fun e => by
            have e1 := Option.some.inj e
            omega)
          rw [this.cell]; rfl
        exact ⟨.bool true, by simp [results, Try.results5, go_sem, hc5], rfl, (HB8.out.trans (belowK_b (w := w) (Nat.le_refl _) _ D2 _ _ (by omega) hKs2 rfl rfl)).trans (belowK_b (w := w) (Nat.le_refl _) _ D _ _ (by omega) hDD rfl rfl)⟩
    · exact absurd hpre h.2
end Go.Proofs.Ytdekjfbaoaobeaa
