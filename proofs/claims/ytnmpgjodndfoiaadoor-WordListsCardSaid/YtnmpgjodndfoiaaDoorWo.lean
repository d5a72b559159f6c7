/-
  word.Words: a contract.
-/
import Derived.Test.YtnmpgjodndfoiaaDoorCk
import Derived.Test.YtnmpgjodndfoiaaDoorRb
namespace Go.Proofs.YtnmpgjodndfoiaaDoor
open Go.RowKit Go.Shelf
attribute [local go_sem] Oper.semAt_some

theorem chunk_calls (mm : Nat) (a : Option Addr) (n c : Nat) (w : World) :
    CallsIn Fence.wide mm Tryd.prog 36 #[.slice a n c, .int .i64 8] w fun e w' => e = .returned (.func (.func 45) #[] #[.pointer (some ⟨w.heap.size, 0, none⟩), .pointer (some ⟨w.heap.size + 1, 0, none⟩)]) ∧ w' = (w.alloc (.cells #[.slice a n c] 26)).alloc (.cells #[.int .i64 8] 3) := by
  refine callsIn_wide.2 ?_
  go_enter Tryd.func36, Tryd.ntmps36
  go_wp2
  go_ret
  exact ⟨by simp, rfl⟩
theorem Blk.put {w w' : World} {row : Option Nat} {b : Nat} {C : Array Value} {t : TypeId} (h : Blk w b C t) (hg : w.grownBy w' row)
    (hr : ∀ r, row = some r → ∃ o : Obj, w.heap[r]? = some o ∧ o.isCells = false) : Blk w' b C t := by
  refine h.grown hg (fun e => ?_)
  obtain ⟨o, ho, hc⟩ := hr b e.symm
  unfold Blk at h
  rw [h] at ho; cases ho; cases hc
theorem own_put {w w' : World} {row : Option Nat} {base : Nat} {e : TypeId} {size : Nat} {v : Value} {n : Nat} {xs : List Value} (h : w.ownsRow base e size v n xs) (hg : w.grownBy w' row)
    (hr : ∀ r, row = some r → ∃ o : Obj, w.heap[r]? = some o ∧ o.isCells = false) : w'.ownsRow base e size v n xs := by
  obtain ⟨hl, h2⟩ := h
  refine ⟨hl, ?_⟩
  rcases h2 with h2 | ⟨g, cap, cur, hv, hb, hh, r⟩
  · exact .inl h2
  · refine .inr ⟨g, cap, cur, hv, hb, ?_, r⟩
    rw [hg.block g (Array.getElem?_eq_some_iff.1 hh).1 (fun e => by
      obtain ⟨o, ho, hc⟩ := hr g e.symm
      rw [hh] at ho; cases ho; cases hc)]
    exact hh

theorem words_no (p : Option Addr) (n c : Nat) (w : World) (hn : n ≤ 1000000) (h : n % 8 ≠ 0) :
    Calls Tryd.prog 21 #[.slice p n c] w fun e w' => e = .returned (.tuple #[.slice none 0 0, .int .i64 2]) ∧ w = w' := by
  have h1 : ((n : Int) % 8 == 0) = false := by rw [beq_eq_false_iff_ne]; omega
  have h2 : ((n : Int) % 8 != 0) = true := by rw [bne, h1]; rfl
  clear h
  go_enter Tryd.func21, Tryd.ntmps21
  go_wp2_with (fail)
  go_ret2
  exact ⟨rfl, rfl⟩

/-- the region that appends a word: what has been done -/
structure WInv (base : Nat) (u q : Value) (nn : Nat) (xs : List Value) (cw : Int) (W : World) (b4 : Nat) (L : Nat → Bool) (v13 v14 v15 v16 v17 : Value) (W' : World) : Prop where
  d0 : L 0 = true → v13 = u
  d1 : L 1 = true → v14 = q
  d2 : L 2 = true → v15 = .int .u64 cw
  e2 : L 2 = true → L 1 = true
  e3 : L 3 = true → L 2 = true
  e4 : L 4 = true → L 3 = true ∧ L 0 = true
  e5 : L 5 = true → L 4 = true
  w0 : L 3 = false → W' = W.drew
  w3 : L 3 = true → L 4 = false → v16 = .slice (some ⟨W.heap.size, 0, none⟩) 1 1 ∧ W' = W.drew.alloc (.cells #[.int .u64 cw] 22)
  w4 : L 4 = true → L 5 = false → (∃ a n c, v17 = .slice a n c) ∧ W'.ownsRow base 22 1 v17 (nn + 1) (xs ++ [.int .u64 cw]) ∧ (W.drew.alloc (.cells #[.int .u64 cw] 22)).grownBy W' u.ownBlock
  w5 : L 5 = true → ∃ v W1, W' = W1.setCell ⟨b4, 0, none⟩ v ∧ (∃ a n c, v = .slice a n c) ∧ W1.ownsRow base 22 1 v (nn + 1) (xs ++ [.int .u64 cw]) ∧ (W.drew.alloc (.cells #[.int .u64 cw] 22)).grownBy W1 u.ownBlock
section
variable {base : Nat} {u q : Value} {nn : Nat} {xs : List Value} {cw : Int} {W : World} {b4 : Nat} {L : Nat → Bool} {v13 v14 v15 v16 v17 : Value} {W' : World}
theorem f_of_imp {a b : Bool} (h : a = true → b = true) (hb : b = false) : a = false := by
  cases a
  · rfl
  · rw [h rfl] at hb; cases hb
theorem WInv.s0 (h : WInv base u q nn xs cw W b4 L v13 v14 v15 v16 v17 W') : WInv base u q nn xs cw W b4 (lset L 0) u v14 v15 v16 v17 W' :=
  ⟨fun _ => rfl, by simpa [lset] using h.d1, by simpa [lset] using h.d2, by simpa [lset] using h.e2, by simpa [lset] using h.e3, by simpa [lset] using fun x => (h.e4 x).1, by simpa [lset] using h.e5, by simpa [lset] using h.w0, by simpa [lset] using h.w3, by simpa [lset] using h.w4, by simpa [lset] using h.w5⟩
theorem WInv.s1 (h : WInv base u q nn xs cw W b4 L v13 v14 v15 v16 v17 W') : WInv base u q nn xs cw W b4 (lset L 1) v13 q v15 v16 v17 W' :=
  ⟨by simpa [lset] using h.d0, fun _ => rfl, by simpa [lset] using h.d2, by simp [lset], by simpa [lset] using h.e3, by simpa [lset] using h.e4, by simpa [lset] using h.e5, by simpa [lset] using h.w0, by simpa [lset] using h.w3, by simpa [lset] using h.w4, by simpa [lset] using h.w5⟩
theorem WInv.s2 (h : WInv base u q nn xs cw W b4 L v13 v14 v15 v16 v17 W') (h1 : L 1 = true) : WInv base u q nn xs cw W b4 (lset L 2) v13 v14 (.int .u64 cw) v16 v17 W' :=
  ⟨by simpa [lset] using h.d0, by simpa [lset] using h.d1, fun _ => rfl, by simpa [lset] using h1, by simp [lset], by simpa [lset] using h.e4, by simpa [lset] using h.e5, by simpa [lset] using h.w0, by simpa [lset] using h.w3, by simpa [lset] using h.w4, by simpa [lset] using h.w5⟩
theorem WInv.s3 (h : WInv base u q nn xs cw W b4 L v13 v14 v15 v16 v17 W') (h3 : L 3 = false) (h2 : L 2 = true) :
    WInv base u q nn xs cw W b4 (lset L 3) v13 v14 v15 (.slice (some ⟨W.heap.size, 0, none⟩) 1 1) v17 (W.drew.alloc (.cells #[.int .u64 cw] 22)) := by
  have h4 := f_of_imp (fun x => (h.e4 x).1) h3
  have h5 := f_of_imp h.e5 h4
  exact ⟨by simpa [lset] using h.d0, by simpa [lset] using h.d1, by simpa [lset] using h.d2, by simpa [lset] using h.e2, by simpa [lset] using h2, by simp [lset, h4], by simp [lset, h5], by simp [lset], fun _ _ => ⟨rfl, rfl⟩, by simp [lset, h4], by simp [lset, h5]⟩
theorem WInv.s4 (h : WInv base u q nn xs cw W b4 L v13 v14 v15 v16 v17 W') (h4 : L 4 = false) (h3 : L 3 = true) (h0 : L 0 = true) {v : Value} {W1 : World} (hv : ∃ a n c, v = .slice a n c) (ho : W1.ownsRow base 22 1 v (nn + 1) (xs ++ [.int .u64 cw])) (hg : (W.drew.alloc (.cells #[.int .u64 cw] 22)).grownBy W1 u.ownBlock) :
    WInv base u q nn xs cw W b4 (lset L 4) v13 v14 v15 v16 v W1 := by
  have h5 := f_of_imp h.e5 h4
  exact ⟨by simpa [lset] using h.d0, by simpa [lset] using h.d1, by simpa [lset] using h.d2, by simpa [lset] using h.e2, by simpa [lset] using h.e3, by simp [lset, h3, h0], by simp [lset], by simp [lset, h3], by simp [lset], fun _ _ => ⟨hv, ho, hg⟩, by simp [lset, h5]⟩
theorem WInv.s5 (h : WInv base u q nn xs cw W b4 L v13 v14 v15 v16 v17 W') (h5 : L 5 = false) (h4 : L 4 = true) : WInv base u q nn xs cw W b4 (lset L 5) v13 v14 v15 v16 v17 (W'.setCell ⟨b4, 0, none⟩ v17) := by
  obtain ⟨h3, h0⟩ := h.e4 h4
  obtain ⟨a, b, c⟩ := h.w4 h4 h5
  exact ⟨by simpa [lset] using h.d0, by simpa [lset] using h.d1, by simpa [lset] using h.d2, by simpa [lset] using h.e2, by simpa [lset] using h.e3, by simpa [lset] using h.e4, by simp [lset, h4], by simp [lset, h3], by simp [lset, h4], by simp [lset], fun _ => ⟨_, _, rfl, a, b, c⟩⟩
theorem WInv.init : WInv base u q nn xs cw W b4 (fun _ => false) v13 v14 v15 v16 v17 W.drew :=
  ⟨by simp, by simp, by simp, by simp, by simp, by simp, by simp, fun _ => rfl, by simp, by simp, by simp⟩
end
theorem deps_of {o : Oper} {L : Nat → Bool} (h : ∀ e ∈ o.after, Region.binds .any e = true → L e.on = true) (j : Nat) (hj : (o.after.any fun e => Region.binds .any e && e.on == j) = true) : L j = true := by
  obtain ⟨e, he, h2⟩ := Array.any_eq_true'.1 hj
  simp only [Bool.and_eq_true, beq_iff_eq] at h2
  rw [← h2.2]; exact h e he h2.1

def wordAt (L : List UInt8) (n : Nat) (i : Fin n) : Int := chunk L i.val

set_option maxRecDepth 100000 in
set_option maxHeartbeats 4000000 in
theorem words_in (L : List UInt8) (n g o c : Nat) (p : Option Addr) (w : World) (hn : n ≤ 100000) (hl : L.length = 8 * n) (hc : 8 * n ≤ c) (hp : 0 < n → p = some ⟨g, o, none⟩) (hg : 0 < n → g < w.heap.size) (hb : BytesAt w g o L) :
    CallsIn Fence.wide 9 Tryd.prog 21 #[.slice p (8 * n) c] w fun e W' => ∃ v, e = .returned (.tuple #[v, .int .i64 0]) ∧ W'.ownsRow w.heap.size 22 1 v n (((List.finRange n).map (wordAt L n)).map (Value.int .u64)) ∧ Below w.heap.size w W' := by
  obtain ⟨i0, hi, hz0, hz1, hz2⟩ := info_parts Tryd.info22
  have h1 : (((8 * n : Nat) : Int) % 8 == 0) = true := by rw [beq_iff_eq]; omega
  have h2 : (((8 * n : Nat) : Int) % 8 != 0) = false := by rw [bne, h1]; rfl
  obtain ⟨m, hm⟩ : ∃ m, 8 * n = m := ⟨_, rfl⟩
  rw [hm] at hl hc h1 h2 ⊢
  have HM := Lib.hid hm
  refine callsIn_of_wp_marks Tryd.func21 rfl trivial ?_ rfl
  simp only [Tryd.ntmps21, List.size_toArray, List.length_cons, List.length_nil, Nat.reduceAdd, Nat.reduceSub, Array.replicate_succ, Array.replicate_zero, List.push_toArray, List.append_toArray, List.nil_append, List.cons_append]
  have HBy := Lib.hid hb
  have HLl := Lib.hid hl
  clear hb hl hm
  gi_wp2_with (refine ⟨trivial, ?_⟩; gi_at_call 36; refine (chunk_calls _ _ _ _ _).mono ?_; rintro e w' ⟨rfl, rfl⟩)
  obtain ⟨w3, hw3⟩ : ∃ w3, w3 = ((w.alloc (.cells #[.slice none 0 0] 36)).alloc (.cells #[.slice p m c] 26)).alloc (.cells #[.int .i64 8] 3) := ⟨_, rfl⟩
  have k3 : Blk w3 w.heap.size #[.slice none 0 0] 36 := by rw [hw3]; exact ((Blk.new w _ _).alloc _).alloc _
  have b3 : Blk w3 (w.heap.size + 1) #[.slice p (8 * n) c] 26 := by
    rw [hw3, HM.out]
    have := (Blk.new (w.alloc (.cells #[.slice none 0 0] 36)) #[.slice p m c] 26).alloc (.cells #[.int .i64 8] 3)
    rwa [show (w.alloc (.cells #[.slice none 0 0] 36)).heap.size = w.heap.size + 1 by simp] at this
  have d3 : Blk w3 (w.heap.size + 1 + 1) #[.int .i64 8] 3 := by
    rw [hw3]
    have := Blk.new ((w.alloc (.cells #[.slice none 0 0] 36)).alloc (.cells #[.slice p m c] 26)) #[.int .i64 8] 3
    rwa [show ((w.alloc (.cells #[.slice none 0 0] 36)).alloc (.cells #[.slice p m c] 26)).heap.size = w.heap.size + 1 + 1 by simp] at this
  have hB0 : Below w.heap.size w w3 := by rw [hw3]; exact (((Below.refl _ w).alloc (Nat.le_refl _) _).alloc (by simp) _).alloc (by simp; omega) _
  have hs3 : w3.heap.size = w.heap.size + 3 := by rw [hw3]; simp
  rw [← hw3]
  clear hw3
  refine wpIn_rangeFunc_ownF rfl (by omega) (gf := 45) (lb := #[.pointer (some ⟨w.heap.size + 1, 0, none⟩), .pointer (some ⟨w.heap.size + 1 + 1, 0, none⟩)]) (by simp [Act.eval]) trivial (enters_of Tryd.func45 (by kernel_rfl) rfl)
    (chunk_stops 8 (by omega) n g o c (w.heap.size + 1) p hp w3 hn (by rw [HM.out]; exact hc) b3 d3) kpC_t (kpC_b (by omega)) (Below.refl _ _) (fun _ => rfl)
    (fun pre W => (∃ u, Blk W w.heap.size #[u] 36 ∧ W.ownsRow (w.heap.size + 3) 22 1 u pre.length ((pre.map (wordAt L n)).map (Value.int .u64))) ∧ w.heap.size + 3 ≤ W.heap.size ∧ Below w.heap.size w W)
    (fun _ _ _ => False)
    (fun s A B row hs hg hr => by
      obtain ⟨⟨u, h1, h2⟩, h3, h4⟩ := hs
      exact ⟨⟨u, h1.put hg (fun r e => (hr r e).2), own_put h2 hg (fun r e => (hr r e).2)⟩, Nat.le_trans h3 hg.size, h4.grown hg h4.size (fun r e => by have := (hr r e).1; omega)⟩)
    (fun _ _ _ _ _ hs _ _ => hs)
    ⟨⟨_, k3, World.ownsRow_nil _ _ _ _⟩, by omega, hB0⟩
    (fun x => { tmps := #[.slice p m c, undef, .slice none 0 0, .int .i64 0, .pointer (some ⟨w.heap.size, 0, none⟩), .slice (some ⟨g, o + 8 * x.val, none⟩) 8 8, .slice p m c, .int .i64 m, .int .i64 ((m : Int) % 8), .bool false, .slice p m c, .func (.func 45) #[] #[.pointer (some ⟨w.heap.size + 1, 0, none⟩), .pointer (some ⟨w.heap.size + 1 + 1, 0, none⟩)], .slice (some ⟨g, o + 8 * x.val, none⟩) 8 8, undef, undef, undef, undef, undef, undef], defers := [] }) ?assign ?body ?done ?stop
  case assign =>
    intro l x W K hK
    simp [encC]
    gi_wp2
    exact hK
  case body =>
    rintro l2 pre x W ⟨⟨u, hk, hown⟩, hs, hB⟩ hlen
    have hc := hk.cell 0
    have hf := hk.frozen 0
    rw [show (#[u] : Array Value)[0]? = some u from rfl] at hc
    have hxn := x.isLt
    have HTk := Lib.hid (fun (mm : Nat) (W' : World) (hB' : Below w.heap.size w W') => show CallsIn Fence.wide mm Tryd.prog 32 #[.slice (some ⟨g, o + 8 * x.val, none⟩) 8 8] W' fun e w' => e = .returned (.int .u64 (wordAt L n x)) ∧ W' = w' from by
      have h8 : ((L.drop (8 * x.val)).take 8).length = 8 := by rw [List.length_take, List.length_drop, HLl.out, ← HM.out]; omega
      have := take_b ((L.drop (8 * x.val)).take 8) g (o + 8 * x.val) 8 (by omega) W' (fun i hi => by
        rw [Nat.add_assoc]
        have hlt : 8 * x.val + i < L.length := by rw [HLl.out, ← HM.out]; omega
        have := HBy.out (8 * x.val + i) hlt
        rw [show W'.cell? ⟨g, o + (8 * x.val + i), none⟩ = w.cell? ⟨g, o + (8 * x.val + i), none⟩ from hB'.cell (p := ⟨g, o + (8 * x.val + i), none⟩) (hg (by omega)), this]
        simp)
      rw [h8] at this
      exact callsIn_wide.2 this)
    gi_wp2
    refine wpIn_region_inv (fun L' a' W' => ∃ v13 v14 v15 v16 v17, a' = { tmps := #[.slice p m c, undef, .slice none 0 0, .int .i64 0, .pointer (some ⟨w.heap.size, 0, none⟩), .slice (some ⟨g, o + 8 * x.val, none⟩) 8 8, .slice p m c, .int .i64 m, .int .i64 ((m : Int) % 8), .bool false, .slice p m c, .func (.func 45) #[] #[.pointer (some ⟨w.heap.size + 1, 0, none⟩), .pointer (some ⟨w.heap.size + 1 + 1, 0, none⟩)], .slice (some ⟨g, o + 8 * x.val, none⟩) 8 8, v13, v14, v15, v16, v17, undef], defers := [] } ∧ WInv (w.heap.size + 3) u (.slice (some ⟨g, o + 8 * x.val, none⟩) 8 8) pre.length ((pre.map (wordAt L n)).map (Value.int .u64)) (wordAt L n x) W w.heap.size L' v13 v14 v15 v16 v17 W') (by kernel_rfl) (by kernel_rfl) (by kernel_rfl) ?h0 ⟨?o0, ?o1, ?o2, ?o3, ?o4, ?o5, trivial⟩ ?he
    case h0 => exact ⟨undef, undef, undef, undef, undef, rfl, WInv.init⟩
    case o0 =>
      rintro L' a' W' ⟨v13, v14, v15, v16, v17, rfl, hI⟩ hL hd K hK
      have h4 := f_of_imp (fun x => (hI.e4 x).2) hL
      have hcW : W'.cell? ⟨w.heap.size, 0, none⟩ = some u := by
        cases h3 : L' 3
        · rw [hI.w0 h3]; exact hc
        · rw [(hI.w3 h3 h4).2]
          exact (World.cell?_alloc_lt _ _ _ (by show w.heap.size < W.heap.size; omega)).trans hc
      have HI := Lib.hid hI.s0
      have HKk := Lib.hid hK
      clear hI hd hc hK
      gi_wp2
      exact HKk.out _ _ ⟨u, v14, v15, v16, v17, rfl, HI.out⟩
    case o1 =>
      rintro L' a' W' ⟨v13, v14, v15, v16, v17, rfl, hI⟩ hL hd K hK
      have HI := Lib.hid hI.s1
      have HKk := Lib.hid hK
      clear hI hd hc hK
      gi_wp2
      exact HKk.out _ _ ⟨v13, _, v15, v16, v17, rfl, HI.out⟩
    case o2 =>
      rintro L' a' W' ⟨v13, v14, v15, v16, v17, rfl, hI⟩ hL hd K hK
      have h1 := deps_of hd 1 (by kernel_rfl)
      have h3 := f_of_imp hI.e3 hL
      have e14 := hI.d1 h1
      have hBd : Below w.heap.size w W' := by rw [hI.w0 h3]; exact hB.trans (Below.drew (Below.refl _ _))
      have HT := Lib.hid (HTk.out 6 W' hBd)
      have HI := Lib.hid (hI.s2 h1)
      have HKk := Lib.hid hK
      clear hI hd hc hK hBd
      subst e14
      gi_wp2_with (refine ⟨trivial, ?_⟩; gi_at_call 32; refine (CallsIn.inRound l2 HT.out).mono ?_; rintro e w' ⟨rfl, rfl⟩)
      exact HKk.out _ _ ⟨v13, _, _, v16, v17, rfl, HI.out⟩
    case o3 =>
      rintro L' a' W' ⟨v13, v14, v15, v16, v17, rfl, hI⟩ hL hd K hK
      have h2 := deps_of hd 2 (by kernel_rfl)
      have e15 := hI.d2 h2
      have eW := hI.w0 hL
      have HI := Lib.hid (hI.s3 hL h2)
      have HKk := Lib.hid hK
      clear hI hd hc hK
      subst e15
      subst eW
      gi_wp2
      exact HKk.out _ _ ⟨v13, v14, _, _, v17, rfl, HI.out⟩
    case o4 =>
      rintro L' a' W' ⟨v13, v14, v15, v16, v17, rfl, hI⟩ hL hd K hK
      have h3 := deps_of hd 3 (by kernel_rfl)
      have h0 := deps_of hd 0 (by kernel_rfl)
      have e13 := hI.d0 h0
      obtain ⟨e16, eW⟩ := hI.w3 h3 hL
      refine wpIn_append_own1 W' _ _ 36 rfl (w.heap.size + 3) 22 i0 (.int .u64 0) 1 8 Tryd.underlying36 hi hz0 hz1 hz2 rfl (by decide) u pre.length ((pre.map (wordAt L n)).map (Value.int .u64)) (by rw [e13]; rfl) (by rw [eW]; exact World.ownsRow.alloc (w := W.drew) hown _) ⟨W.heap.size, 0, none⟩ 1 1 [.int .u64 (wordAt L n x)] (by rw [e16]; rfl) rfl (by rw [eW]; exact cell_one_new _ _ _) (ints_oneCell .u64 [_]) (by unfold maxLen; omega) (by omega) (by rw [eW]; simp; omega) ?_
      intro v' w1 hown' hgrow
      refine hK _ _ ⟨v13, v14, v15, v16, v', rfl, ?_⟩
      obtain ⟨a1, n1, c1, e1⟩ := own_slice hown'
      exact hI.s4 hL h3 h0 ⟨a1, n1, c1, e1⟩ hown' (by rw [← eW]; exact hgrow)
    case o5 =>
      rintro L' a' W' ⟨v13, v14, v15, v16, v17, rfl, hI⟩ hL hd K hK
      have h4 := deps_of hd 4 (by kernel_rfl)
      obtain ⟨⟨a1, n1, c1, e1⟩, hown', hgrow⟩ := hI.w4 h4 hL
      have hk1 := ((Blk.drew hk).alloc (.cells #[.int .u64 (wordAt L n x)] 22)).grown hgrow (fun e => by have := own_base hown _ e.symm; omega)
      have hc1 := hk1.cell 0
      rw [show (#[u] : Array Value)[0]? = some u from rfl] at hc1
      have hf1 := hk1.frozen 0
      have HI := Lib.hid (hI.s5 hL h4)
      have HKk := Lib.hid hK
      clear hI hd hc hK hown' hgrow hk1
      subst e1
      gi_wp2
      exact HKk.out _ _ ⟨v13, v14, v15, v16, _, rfl, HI.out⟩
    case he =>
      rintro L' a' W' ⟨v13, v14, v15, v16, v17, rfl, hI⟩ hall
      obtain ⟨v', w1, rfl, ⟨a1, n1, c1, e1⟩, hown', hgrow⟩ := hI.w5 (hall 5 (by decide))
      have hk1 := ((Blk.drew hk).alloc (.cells #[.int .u64 (wordAt L n x)] 22)).grown hgrow (fun e => by have := own_base hown _ e.symm; omega)
      have HB1 := Lib.hid (((Below.drew hB).alloc hB.size (.cells #[.int .u64 (wordAt L n x)] 22)).grown hgrow (by simp; have := hB.size; omega) (fun r e => by have := own_base hown _ e; omega))
      have HK1 := Lib.hid hk1
      have HO := Lib.hid hown'
      have HS := Lib.hid (show w.heap.size + 3 ≤ w1.heap.size by have := hgrow.size; simp at this; omega)
      have HKo := Lib.hid (((KeepsOthers.drew W).trans (KeepsOthers.alloc W.drew (.cells #[.int .u64 (wordAt L n x)] 22))).trans (KeepsOthers.of_grownBy hgrow (fun j o e ho => by obtain ⟨_, _, _, rfl⟩ := own_cells (World.ownsRow.alloc (w := W.drew) hown (.cells #[.int .u64 (wordAt L n x)] 22)) j o e ho; rfl)))
      have HG := Lib.hid (show W.heap.size ≤ w1.heap.size ∧ ∀ k, k < w.heap.size + 3 → w1.heap[k]? = W.heap[k]? from
        ⟨by have := hgrow.size; simp at this; omega, fun k hkk => (hgrow.block k (by simp; omega) (fun e => by have := own_base hown _ e.symm; omega)).trans (Below.heap_alloc W.drew _ _ (by show k < W.heap.size; omega))⟩)
      clear hk1 hown' hk hown hgrow hB hs hI hall hc hf
      gi_wp2
      refine ⟨HKo.out.trans (KeepsOthers.setCell _ _ _), ⟨by have := HG.out.1; simp [World.setCell]; omega, fun k hkk _ => ?_⟩, ⟨_, by simpa using HK1.out.set 0 v', ?_⟩, by simpa [World.setCell] using HS.out, HB1.out.setCell (p := ⟨w.heap.size, 0, none⟩) (by simp) _⟩
      · exact (heap_setCell_other _ _ _ _ (by show k ≠ w.heap.size; omega)).trans (HG.out.2 k (by omega))
      · have := ownsRow_setCell_below HO.out (a := ⟨w.heap.size, 0, none⟩) (by simp) v'
        simpa using this
  case done =>
    rintro D xs W hD rfl ⟨⟨u, hk, hown⟩, hs, hB⟩ hK
    obtain ⟨a, lw, cw, rfl⟩ := own_slice hown
    have hc := hk.cell 0
    rw [show (#[Value.slice a lw cw] : Array Value)[0]? = some (.slice a lw cw) from rfl] at hc
    have hf := hk.frozen 0
    have hsz := hB.size
    have HB := Lib.hid hB
    have HO := Lib.hid hown
    clear hk hB hown hs
    gi_wp2
    have HO2 := own_mono (base' := w.heap.size) HO.out (by omega)
    rw [List.length_finRange] at HO2
    refine ⟨by simp, .inl ⟨_, _, rfl, run_takeDeferred hK, ?_⟩⟩
    exact ⟨.tuple #[.slice a lw cw, .int .i64 0], by simp [results, Tryd.results21, go_sem], .slice a lw cw, rfl, own_put HO2 (grownBy_putObj' _ D (.deferred none)) (fun r e => by cases e; exact ⟨_, hK, rfl⟩), HB.out.trans (belowK_b (w := w) (Nat.le_refl _) _ D _ _ (by omega) hK rfl rfl)⟩
  case stop =>
    rintro D c pre W _ _ h _
    exact h.elim
end Go.Proofs.YtnmpgjodndfoiaaDoor
