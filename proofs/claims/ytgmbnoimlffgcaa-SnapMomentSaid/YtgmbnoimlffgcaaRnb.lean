/-
  run.Run.flush, fence: contracts.
-/
import Derived.Test.YtgmbnoimlffgcaaSnf
namespace Go.Proofs.Ytgmbnoimlffgcaa
open Go.RowKit
attribute [local go_sem] Oper.semAt_some
set_option linter.unusedVariables false

structure Rn where
  mv : Option Addr
  c : Int
  sl : Value
  at_ : Int
  next : Value
  over : Bool
  e : Int
def rnCells (r : Rn) : Array Value := #[.pointer r.mv, .int .i64 r.c, r.sl, .int .i64 r.at_, r.next, .bool r.over, .int .i64 r.e]
theorem rnCells_size (r : Rn) : (rnCells r).size = 7 := rfl
theorem rn_set3 (r : Rn) (x : Int) : (rnCells r).setIfInBounds 3 (.int .i64 x) = rnCells { r with at_ := x } := rfl
theorem rn_set4 (r : Rn) (x : Value) : (rnCells r).setIfInBounds 4 x = rnCells { r with next := x } := rfl
theorem rn_set5 (r : Rn) (x : Bool) : (rnCells r).setIfInBounds 5 (.bool x) = rnCells { r with over := x } := rfl
theorem rn_set6 (r : Rn) (x : Int) : (rnCells r).setIfInBounds 6 (.int .i64 x) = rnCells { r with e := x } := rfl
theorem cloneP_v (v : Value) (l : List (Int × Int)) (w : World) (h : w.ownsRow 0 32 2 v l.length (ecells l)) (hn : l.length ≤ 1000000) :
    Calls Try.prog 65 #[v] w fun e w' => ∃ v', e = .returned v' ∧ w'.ownsRow w.heap.size 32 2 v' l.length (ecells l) ∧ Below w.heap.size w w' := by
  obtain ⟨i0, hi, hz0, hz1, hz2⟩ := info_parts Try.infoPut
  have hq : ∀ (w : World) (a : Option Addr) (n c n' c' : Nat), (binOp .eql 22 (.slice a n c) (.slice none n' c')).run Try.prog w = .ok (.bool a.isNone) w := fun w a n c n' c' => Lib.run_eql_slice_nil w _ _ a n c n' c' Try.underlying22
  have hr : ∀ a c, v = .slice a l.length c → Reads w w.heap.size 2 a l.length (ecells l) := fun a c e => by subst e; exact Reads.of_own h
  obtain ⟨hl, ⟨rfl, h0⟩ | ⟨g, cap, cur, rfl, hb, hg, h1, h2, hsz, ht⟩⟩ := h
  · have : l = [] := List.eq_nil_of_length_eq_zero h0
    subst this
    go_enter Try.func65, Try.ntmps65
    go_wp2_with (fail)
    go_ret
    exact ⟨_, rfl, World.ownsRow_nil _ _ _ _, Below.refl _ _⟩
  · have HR := Lib.hid (hr _ _ rfl)
    clear hr hl hb hg hsz ht
    go_enter Try.func65, Try.ntmps65
    go_wp2_with (at_builtin; refine wpList_append_own _ rfl _ _ 22 rfl w.heap.size 32 i0 (.agg #[.int .u64 0, .int .u64 0]) 2 16 Try.underlying22 hi hz0 hz1 hz2 rfl (by decide) _ _ _ rfl (World.ownsRow_made w #[] 0 (Nat.le_refl _) (Nat.zero_le _) (by simp)) ⟨g, 0, none⟩ l.length cap (ecells l) rfl ?qc1 ?qc2 ?qc3 ?qc4 ?qc5 ?qc6 ?_)
    case qc1 => exact ecells_len2 l
    case qc2 =>
      intro j u hj
      obtain ⟨ad, hA, hb, hcc⟩ := HR.out.2 (by have := (List.getElem?_eq_some_iff.1 hj).1; rw [ecells_len2] at this; omega)
      cases hA
      have := hcc j u hj
      rw [Addr.add_lit] at this ⊢
      exact Lib.cell?_alloc_some _ this
    case qc3 => exact ecells_one l
    case qc4 => unfold maxLen; omega
    case qc5 => omega
    case qc6 => simp
    intro v' w1 hown hgrow hnil
    obtain ⟨a3, n3, c3, rfl⟩ := own_slice hown
    have HO := Lib.hid hown
    have HB := Lib.hid ((((Below.refl _ w).alloc (Nat.le_refl _) _).grown hgrow (by simp) (by intro k hk; simp [Value.ownBlock] at hk; omega)) : Below w.heap.size w w1)
    clear hown hgrow hnil
    go_wp2_with (fail)
    go_ret
    exact ⟨_, rfl, by simpa using HO.out, HB.out⟩
def rphV (rb f : Nat) : Value := .func (.func f) #[.pointer (some ⟨rb, 0, none⟩)] #[]
def rnNew (rb : Nat) (mv : Option Addr) (c : Int) (sl : Value) : Rn := { mv := mv, c := c, sl := sl, at_ := 0, next := rphV rb 66, over := false, e := 0 }
set_option maxRecDepth 100000 in
theorem rnew_v (mv : Option Addr) (c : Int) (v : Value) (l : List (Int × Int)) (w : World) (h : w.ownsRow 0 32 2 v l.length (ecells l)) (hn : l.length ≤ 1000000) :
    Calls Try.prog 47 #[.pointer mv, .int .i64 c, v] w fun e w' => ∃ rb sl, e = .returned (.pointer (some ⟨rb, 0, none⟩)) ∧ Blk w' rb (rnCells (rnNew rb mv c sl)) 129 ∧ w'.ownsRow w.heap.size 32 2 sl l.length (ecells l) ∧ w.heap.size ≤ rb ∧ sl.ownBlock ≠ some rb ∧ Below w.heap.size w w' := by
  have HC := Lib.hid (cloneP_v v l w h hn)
  clear h
  go_enter Try.func47, Try.ntmps47
  go_wp2_with (fail)
  refine HC.out.mono ?_
  rintro e w1 ⟨sl, rfl, hown, hB⟩
  obtain ⟨a3, n3, c3, rfl⟩ := own_slice hown
  have HB2 := Lib.hid (Blk.new w1 (rnCells (rnNew w1.heap.size mv c (.slice a3 n3 c3))) 129)
  have HO := Lib.hid (hown.alloc (.cells (rnCells (rnNew w1.heap.size mv c (.slice a3 n3 c3))) 129))
  have HN := Lib.hid (show (Value.slice a3 n3 c3).ownBlock ≠ some w1.heap.size from fun e => by have := own_ltS hown e; omega)
  have HB := Lib.hid (hB.alloc hB.size (.cells (rnCells (rnNew w1.heap.size mv c (.slice a3 n3 c3))) 129))
  have HSz := Lib.hid hB.size
  clear hown hB
  go_wp2_with (fail)
  go_ret
  exact ⟨_, _, rfl, HB2.out, HO.out, HSz.out, HN.out, HB.out⟩
end Go.Proofs.Ytgmbnoimlffgcaa
namespace Go.Proofs.Ytgmbnoimlffgcaa
open Go.RowKit
attribute [local go_sem] Oper.semAt_some
set_option linter.unusedVariables false

/-- the worlds of a drawn region with one call, at j, that leaves P -/
structure StC (W0 : World) (P : World → Prop) (S : Nat → Prop) (j : Nat) (L : Nat → Bool) (W : World) : Prop where
  n : L j = false → W = W0.drew
  y : L j = true → P W
  k : Keeps S W0 W
theorem StC.keep {W0 : World} {P : World → Prop} {S : Nat → Prop} {j : Nat} {L L' : Nat → Bool} {W : World} (h : StC W0 P S j L W) (e : L' j = L j) : StC W0 P S j L' W := ⟨by rw [e]; exact h.n, by rw [e]; exact h.y, h.k⟩
/-- what a flush leaves, what a fence -/
def FlP (w : World) (mb : Nat) (S : Nat → Prop) (vw is : List Int) (mk : Int → Nat → Int) (F : Int → List (Int × Int)) (lo st fl fe : Int) (c : Nat) (ad : Int) (w' : World) : Prop :=
  MemG w mb S vw is (updM mk (lineOf ad) (mkS (mk (lineOf ad)) c (F (lineOf ad)).length)) F lo st (fl + 1) fe w'
def FeP (w : World) (mb : Nat) (S : Nat → Prop) (vw is : List Int) (mk : Int → Nat → Int) (F : Int → List (Int × Int)) (lo st fl fe : Int) (c : Nat) (w' : World) : Prop :=
  ∃ mk' is', (∀ a i, 0 ≤ mk' a i ∧ mk' a i ≤ mk a i) ∧ (∀ a, F a ≠ [] → ∀ i, mk' a i = mkX F mk c a i) ∧ is'.length = is.length ∧ (∀ k, is'.getD k 0 = imX is F mk c k) ∧ MemG w mb S vw is' mk' (FF F mk c) lo st fl (fe + 1) w'
section
variable {w w' : World} {mb : Nat} {S : Nat → Prop} {vw is : List Int} {mk : Int → Nat → Int} {F : Int → List (Int × Int)} {lo st fl fe : Int} {c : Nat} {ad : Int}
theorem FlP.keeps (h : FlP w mb S vw is mk F lo st fl fe c ad w') : Keeps S w w' := by obtain ⟨_, _, _, h⟩ := h; exact h
theorem FeP.keeps (h : FeP w mb S vw is mk F lo st fl fe c w') : Keeps S w w' := by obtain ⟨_, _, _, _, _, _, _, _, _, h⟩ := h; exact h
end
/-- a run of a client over a row of stores, in memory -/
structure RnS (w : World) (rb mb g cap : Nat) (S : Nat → Prop) (r : Rn) (l : List (Int × Int)) (c : Nat) : Prop where
  b : Blk w rb (rnCells r) 129
  mv : r.mv = some ⟨mb, 0, none⟩
  cl : r.c = (c : Int)
  sl : r.sl = .slice (some ⟨g, 0, none⟩) l.length cap
  glt : g < w.heap.size
  e : EntsAt w g 0 l
  s : ¬ S rb ∧ ¬ S g ∧ rb ≠ g
set_option maxRecDepth 100000 in
set_option maxHeartbeats 16000000 in
theorem rflush_v (w : World) (rb mb g cap : Nat) (S : Nat → Prop) (r : Rn) (l : List (Int × Int)) (c kp : Nat) (vw is : List Int) (mk : Int → Nat → Int) (F : Int → List (Int × Int)) (lo st fl fe : Int)
    (h : RnS w rb mb g cap S r l c) (hm : MemP w mb S vw is mk F lo st fl fe) (hat : r.at_ = ((kp + 1 : Nat) : Int)) (hk : kp < l.length) (hl : l.length ≤ 1000000) (hc : c ≤ 64) (ha0 : 0 ≤ eK l kp) (ha1 : eK l kp ≤ 18446744073709551615) (he : atE vw.length (eK l kp) = 0) (hst : st ≤ 1000000) (hfl : fl ≤ 1000000) :
    Calls Try.prog 85 #[.pointer (some ⟨rb, 0, none⟩)] w fun e w' => e = .returned (.tuple #[.bool false, .int .i64 0]) ∧ ∃ W2, Keeps (fun i => i = rb) w W2 ∧ FlP W2 mb S vw is mk F lo st fl fe c (eK l kp) w' ∧ Blk w' rb (rnCells { r with next := rphV rb 99 }) 129 := by
  have hb2 := h.b.set 4 (rphV rb 99)
  rw [rn_set4] at hb2
  have hk2 : Keeps (fun i => i = rb) w (w.setCell ⟨rb, 4, none⟩ (rphV rb 99)) := (Keeps.refl (fun i => i = rb) w).setCell (p := ⟨rb, 4, none⟩) (.inl rfl) _
  obtain ⟨W2, hW2⟩ : ∃ W2, w.setCell ⟨rb, 4, none⟩ (rphV rb 99) = W2 := ⟨_, rfl⟩
  have HW2 := Lib.hid hW2
  rw [hW2] at hb2 hk2
  have HB := Lib.hid h.b
  have HB2 := Lib.hid hb2
  have HK2 := Lib.hid hk2
  obtain ⟨ad, had⟩ : ∃ ad, eK l kp = ad := ⟨_, rfl⟩
  rw [had] at ha0 ha1 he ⊢
  obtain ⟨ln, hln⟩ : ∃ ln, l.length = ln := ⟨_, rfl⟩
  have HGr := Lib.hid (show g < W2.heap.size ∧ ¬ S g from ⟨Nat.lt_of_lt_of_le h.glt hk2.size, h.s.2.1⟩)
  have HCk := Lib.hid (show W2.cell? ⟨g, kp * 2, none⟩ = some (.int .u64 ad) from by
    rw [hk2.cell (p := ⟨g, kp * 2, none⟩) h.glt (fun e => h.s.2.2 e.symm)]
    have := (h.e kp hk).1
    rw [Nat.zero_add, had] at this
    exact this)
  have Hc := Lib.hid (show ∀ W, Keeps S W2 W → ∀ j, W.cell? ⟨rb, j, none⟩ = (rnCells { r with next := rphV rb 99 })[j]? from fun W hk j => by rw [hk.cell (p := ⟨rb, j, none⟩) hb2.lt h.s.1]; exact hb2.cell j)
  have HR := Lib.hid (show (rnCells { r with next := rphV rb 99 })[0]? = some (.pointer (some ⟨mb, 0, none⟩)) ∧ (rnCells { r with next := rphV rb 99 })[1]? = some (.int .i64 (c : Int)) ∧ (rnCells { r with next := rphV rb 99 })[2]? = some (.slice (some ⟨g, 0, none⟩) ln cap) ∧ (rnCells { r with next := rphV rb 99 })[3]? = some (.int .i64 ((kp + 1 : Nat) : Int)) from ⟨by rw [← h.mv]; rfl, by rw [← h.cl]; rfl, by rw [← hln, ← h.sl]; rfl, by rw [← hat]; rfl⟩)
  have hm2 := hm.kept hk2 (fun i hi e => h.s.1 (e ▸ hi))
  have HSt := Lib.hid (show Calls Try.prog 40 #[.pointer (some ⟨mb, 0, none⟩), .int .i64 (c : Int), .int .u64 ad] W2.drew fun e w' => e = .returned (.int .i64 0) ∧ FlP W2.drew mb S vw is mk F lo st fl fe c ad w' from flush_m (hm2.below (Below.refl _ W2).drew) c hc ad ha0 ha1 he hst hfl)
  have Hsub := Lib.hid (show IntKind.i64.wrap (kp : Int) = (kp : Int) from IntWalk.i64_in _ (by omega))
  have Hb1 := Lib.hid (show (0 : Int) ≤ (kp : Int) from by omega)
  have Hb2 := Lib.hid (show (kp : Int) < (ln : Int) from by omega)
  have HSn := Lib.hid h.s.1
  clear h hm hat hk had hln ha0 ha1 he hb2 hk2 hW2 hm2
  go_enter Try.func85, Try.ntmps85
  go_upto_region 2 with ((with_reducible refine wpList_store_cellB (o := ⟨none, .store 36 (.tmp 8) (.tmp 6), _, _, _, _⟩) ?hg 36 (.tmp 8) (.tmp 6) ?ho rb 4 (rphV rb 99) ?CC 129 ?hx ?hy ?h1 ?hb ?hs ?hi ?_); (case hg => rfl); (case ho => rfl); (case hx => rfl); (case hy => rfl); (case h1 => rfl); (case hb => exact HB.out); (case hs => rw [rnCells_size]; decide); (case hi => exact infoFn))
  rw [HW2.out]
  simp [Act.put]
  go_wp2_with (fail)
  --GEN r_fl2
  refine wp_region_vals [Is (.pointer (some ⟨rb, 0, none⟩)), Is (.pointer (some ⟨rb, 0, none⟩)), Is (.pointer (some ⟨rb, 0, none⟩)), Is (.pointer (some ⟨mb, 0, none⟩)), Is (.pointer (some ⟨rb, 0, none⟩)), Is (.pointer (some ⟨rb, 0, none⟩)), Is (.pointer (some ⟨rb, 1, none⟩)), Is (.int .i64 (c : Int)), Is (.pointer (some ⟨rb, 0, none⟩)), Is (.pointer (some ⟨rb, 0, none⟩)), Is (.pointer (some ⟨rb, 2, none⟩)), Is (.slice (some ⟨g, 0, none⟩) ln cap), Is (.pointer (some ⟨rb, 0, none⟩)), Is (.pointer (some ⟨rb, 0, none⟩)), Is (.pointer (some ⟨rb, 3, none⟩)), Is (.int .i64 ((kp + 1 : Nat) : Int)), Is (.int .i64 (kp : Int)), Is (.pointer (some ⟨g, kp * 2, none⟩)), Is (.pointer (some ⟨g, kp * 2, none⟩)), Is (.int .u64 ad), Is (.int .i64 0), Is (.bool false), Is (.int .i64 0)]
    (fun _ _ _ => True) (fun L W => StC W2 (fun W => FlP W2.drew mb S vw is mk F lo st fl fe c ad W) S 20 L W) (by kernel_rfl) (by kernel_rfl) (by kernel_rfl) ?hst ?h0 ⟨?o0, ?o1, ?o2, ?o3, ?o4, ?o5, ?o6, ?o7, ?o8, ?o9, ?o10, ?o11, ?o12, ?o13, ?o14, ?o15, ?o16, ?o17, ?o18, ?o19, ?o20, ?o21, ?o22, trivial⟩ ?he
  case hst =>
    exact ⟨(fun _ _ _ _ _ _ h _ => h), (fun _ _ _ _ _ _ h _ => h), (fun _ _ _ _ _ _ h _ => h), (fun _ _ _ _ _ _ h _ => h), (fun _ _ _ _ _ _ h _ => h), (fun _ _ _ _ _ _ h _ => h), (fun _ _ _ _ _ _ h _ => h), (fun _ _ _ _ _ _ h _ => h), (fun _ _ _ _ _ _ h _ => h), (fun _ _ _ _ _ _ h _ => h), (fun _ _ _ _ _ _ h _ => h), (fun _ _ _ _ _ _ h _ => h), (fun _ _ _ _ _ _ h _ => h), (fun _ _ _ _ _ _ h _ => h), (fun _ _ _ _ _ _ h _ => h), (fun _ _ _ _ _ _ h _ => h), (fun _ _ _ _ _ _ h _ => h), (fun _ _ _ _ _ _ h _ => h), (fun _ _ _ _ _ _ h _ => h), (fun _ _ _ _ _ _ h _ => h), (fun _ _ _ _ _ _ h _ => h), (fun _ _ _ _ _ _ h _ => h), (fun _ _ _ _ _ _ h _ => h), trivial⟩
  case h0 =>
    exact ⟨fun _ => rfl, fun e => (by cases e), (Keeps.refl _ _).drew⟩
  case o0 =>
    intro L vs A W H hf hd K hK
    have e0 : A.tmps[0]?.getD undef = .pointer (some ⟨rb, 0, none⟩) := H.old 0 (by kernel_rfl)
    go_simp
    exact hK _ _ (trivial) rfl (H.glob.keep rfl)
  case o1 =>
    intro L vs A W H hf hd K hK
    have e9 := H.is 0 9 rfl rfl rfl (deps_of' hd 0 (by kernel_rfl)) (by kernel_rfl)
    go_simp
    exact hK _ _ (trivial) rfl (H.glob.keep rfl)
  case o2 =>
    intro L vs A W H hf hd K hK
    have e10 := H.is 1 10 rfl rfl rfl (deps_of' hd 1 (by kernel_rfl)) (by kernel_rfl)
    go_simp
    exact hK _ _ (trivial) rfl (H.glob.keep rfl)
  case o3 =>
    intro L vs A W H hf hd K hK
    have e11 := H.is 2 11 rfl rfl rfl (deps_of' hd 2 (by kernel_rfl)) (by kernel_rfl)
    have d : W.cell? ⟨rb, 0, none⟩ = some (.pointer (some ⟨mb, 0, none⟩)) := (Hc.out W H.glob.k 0).trans HR.out.1
    go_simp
    exact hK _ _ (trivial) rfl (H.glob.keep rfl)
  case o4 =>
    intro L vs A W H hf hd K hK
    have e0 : A.tmps[0]?.getD undef = .pointer (some ⟨rb, 0, none⟩) := H.old 0 (by kernel_rfl)
    go_simp
    exact hK _ _ (trivial) rfl (H.glob.keep rfl)
  case o5 =>
    intro L vs A W H hf hd K hK
    have e13 := H.is 4 13 rfl rfl rfl (deps_of' hd 4 (by kernel_rfl)) (by kernel_rfl)
    go_simp
    exact hK _ _ (trivial) rfl (H.glob.keep rfl)
  case o6 =>
    intro L vs A W H hf hd K hK
    have e14 := H.is 5 14 rfl rfl rfl (deps_of' hd 5 (by kernel_rfl)) (by kernel_rfl)
    go_simp
    exact hK _ _ (trivial) rfl (H.glob.keep rfl)
  case o7 =>
    intro L vs A W H hf hd K hK
    have e15 := H.is 6 15 rfl rfl rfl (deps_of' hd 6 (by kernel_rfl)) (by kernel_rfl)
    have d : W.cell? ⟨rb, 1, none⟩ = some (.int .i64 (c : Int)) := (Hc.out W H.glob.k 1).trans HR.out.2.1
    go_simp
    exact hK _ _ (trivial) rfl (H.glob.keep rfl)
  case o8 =>
    intro L vs A W H hf hd K hK
    have e0 : A.tmps[0]?.getD undef = .pointer (some ⟨rb, 0, none⟩) := H.old 0 (by kernel_rfl)
    go_simp
    exact hK _ _ (trivial) rfl (H.glob.keep rfl)
  case o9 =>
    intro L vs A W H hf hd K hK
    have e17 := H.is 8 17 rfl rfl rfl (deps_of' hd 8 (by kernel_rfl)) (by kernel_rfl)
    go_simp
    exact hK _ _ (trivial) rfl (H.glob.keep rfl)
  case o10 =>
    intro L vs A W H hf hd K hK
    have e18 := H.is 9 18 rfl rfl rfl (deps_of' hd 9 (by kernel_rfl)) (by kernel_rfl)
    go_simp
    exact hK _ _ (trivial) rfl (H.glob.keep rfl)
  case o11 =>
    intro L vs A W H hf hd K hK
    have e19 := H.is 10 19 rfl rfl rfl (deps_of' hd 10 (by kernel_rfl)) (by kernel_rfl)
    have d : W.cell? ⟨rb, 2, none⟩ = some (.slice (some ⟨g, 0, none⟩) ln cap) := (Hc.out W H.glob.k 2).trans HR.out.2.2.1
    go_simp
    exact hK _ _ (trivial) rfl (H.glob.keep rfl)
  case o12 =>
    intro L vs A W H hf hd K hK
    have e0 : A.tmps[0]?.getD undef = .pointer (some ⟨rb, 0, none⟩) := H.old 0 (by kernel_rfl)
    go_simp
    exact hK _ _ (trivial) rfl (H.glob.keep rfl)
  case o13 =>
    intro L vs A W H hf hd K hK
    have e21 := H.is 12 21 rfl rfl rfl (deps_of' hd 12 (by kernel_rfl)) (by kernel_rfl)
    go_simp
    exact hK _ _ (trivial) rfl (H.glob.keep rfl)
  case o14 =>
    intro L vs A W H hf hd K hK
    have e22 := H.is 13 22 rfl rfl rfl (deps_of' hd 13 (by kernel_rfl)) (by kernel_rfl)
    go_simp
    exact hK _ _ (trivial) rfl (H.glob.keep rfl)
  case o15 =>
    intro L vs A W H hf hd K hK
    have e23 := H.is 14 23 rfl rfl rfl (deps_of' hd 14 (by kernel_rfl)) (by kernel_rfl)
    have d : W.cell? ⟨rb, 3, none⟩ = some (.int .i64 ((kp + 1 : Nat) : Int)) := (Hc.out W H.glob.k 3).trans HR.out.2.2.2
    go_simp
    exact hK _ _ (trivial) rfl (H.glob.keep rfl)
  case o16 =>
    intro L vs A W H hf hd K hK
    have e24 := H.is 15 24 rfl rfl rfl (deps_of' hd 15 (by kernel_rfl)) (by kernel_rfl)
    have hs := Hsub.out
    go_simp
    exact hK _ _ (trivial) rfl (H.glob.keep rfl)
  case o17 =>
    intro L vs A W H hf hd K hK
    have e20 := H.is 11 20 rfl rfl rfl (deps_of' hd 11 (by kernel_rfl)) (by kernel_rfl)
    have e25 := H.is 16 25 rfl rfl rfl (deps_of' hd 16 (by kernel_rfl)) (by kernel_rfl)
    have hb1 := Hb1.out
    have hb2 := Hb2.out
    go_simp
    exact hK _ _ (trivial) rfl (H.glob.keep rfl)
  case o18 =>
    intro L vs A W H hf hd K hK
    have e26 := H.is 17 26 rfl rfl rfl (deps_of' hd 17 (by kernel_rfl)) (by kernel_rfl)
    go_simp
    exact hK _ _ (trivial) rfl (H.glob.keep rfl)
  case o19 =>
    intro L vs A W H hf hd K hK
    have e27 := H.is 18 27 rfl rfl rfl (deps_of' hd 18 (by kernel_rfl)) (by kernel_rfl)
    have d := (H.glob.k.cell (p := ⟨g, kp * 2, none⟩) HGr.out.1 HGr.out.2).trans HCk.out
    go_simp
    exact hK _ _ (trivial) rfl (H.glob.keep rfl)
  case o20 =>
    intro L vs A W H hf hd K hK
    have e12 := H.is 3 12 rfl rfl rfl (deps_of' hd 3 (by kernel_rfl)) (by kernel_rfl)
    have e16 := H.is 7 16 rfl rfl rfl (deps_of' hd 7 (by kernel_rfl)) (by kernel_rfl)
    have e28 := H.is 19 28 rfl rfl rfl (deps_of' hd 19 (by kernel_rfl)) (by kernel_rfl)
    have hW := H.glob.n hf
    subst hW
    go_simp
    refine HSt.out.mono ?_
    rintro e w' ⟨rfl, hI⟩
    have hk1 := hI.keeps
    go_simp
    exact hK _ _ trivial rfl ⟨fun e => (by simp [lset] at e), fun _ => hI, (Keeps.refl _ W2).drew.trans hk1⟩
  case o21 =>
    intro L vs A W H hf hd K hK
    go_simp
    exact hK _ _ (trivial) rfl (H.glob.keep rfl)
  case o22 =>
    intro L vs A W H hf hd K hK
    have e29 := H.is 20 29 rfl rfl rfl (deps_of' hd 20 (by kernel_rfl)) (by kernel_rfl)
    go_simp
    exact hK _ _ (trivial) rfl (H.glob.keep rfl)
  case he =>
    intro vs W hlen hv
    match vs, hlen, hv with
    | [x0_, x1_, x2_, x3_, x4_, x5_, x6_, x7_, x8_, x9_, x10_, x11_, x12_, x13_, x14_, x15_, x16_, x17_, x18_, x19_, x20_, x21_, x22_], _, hv =>
    obtain rfl : (.pointer (some ⟨rb, 0, none⟩)) = x0_ := by obtain ⟨z, h1, h2⟩ := hv 0 _ rfl; cases h1; exact h2.symm
    obtain rfl : (.pointer (some ⟨rb, 0, none⟩)) = x1_ := by obtain ⟨z, h1, h2⟩ := hv 1 _ rfl; cases h1; exact h2.symm
    obtain rfl : (.pointer (some ⟨rb, 0, none⟩)) = x2_ := by obtain ⟨z, h1, h2⟩ := hv 2 _ rfl; cases h1; exact h2.symm
    obtain rfl : (.pointer (some ⟨mb, 0, none⟩)) = x3_ := by obtain ⟨z, h1, h2⟩ := hv 3 _ rfl; cases h1; exact h2.symm
    obtain rfl : (.pointer (some ⟨rb, 0, none⟩)) = x4_ := by obtain ⟨z, h1, h2⟩ := hv 4 _ rfl; cases h1; exact h2.symm
    obtain rfl : (.pointer (some ⟨rb, 0, none⟩)) = x5_ := by obtain ⟨z, h1, h2⟩ := hv 5 _ rfl; cases h1; exact h2.symm
    obtain rfl : (.pointer (some ⟨rb, 1, none⟩)) = x6_ := by obtain ⟨z, h1, h2⟩ := hv 6 _ rfl; cases h1; exact h2.symm
    obtain rfl : (.int .i64 (c : Int)) = x7_ := by obtain ⟨z, h1, h2⟩ := hv 7 _ rfl; cases h1; exact h2.symm
    obtain rfl : (.pointer (some ⟨rb, 0, none⟩)) = x8_ := by obtain ⟨z, h1, h2⟩ := hv 8 _ rfl; cases h1; exact h2.symm
    obtain rfl : (.pointer (some ⟨rb, 0, none⟩)) = x9_ := by obtain ⟨z, h1, h2⟩ := hv 9 _ rfl; cases h1; exact h2.symm
    obtain rfl : (.pointer (some ⟨rb, 2, none⟩)) = x10_ := by obtain ⟨z, h1, h2⟩ := hv 10 _ rfl; cases h1; exact h2.symm
    obtain rfl : (.slice (some ⟨g, 0, none⟩) ln cap) = x11_ := by obtain ⟨z, h1, h2⟩ := hv 11 _ rfl; cases h1; exact h2.symm
    obtain rfl : (.pointer (some ⟨rb, 0, none⟩)) = x12_ := by obtain ⟨z, h1, h2⟩ := hv 12 _ rfl; cases h1; exact h2.symm
    obtain rfl : (.pointer (some ⟨rb, 0, none⟩)) = x13_ := by obtain ⟨z, h1, h2⟩ := hv 13 _ rfl; cases h1; exact h2.symm
    obtain rfl : (.pointer (some ⟨rb, 3, none⟩)) = x14_ := by obtain ⟨z, h1, h2⟩ := hv 14 _ rfl; cases h1; exact h2.symm
    obtain rfl : (.int .i64 ((kp + 1 : Nat) : Int)) = x15_ := by obtain ⟨z, h1, h2⟩ := hv 15 _ rfl; cases h1; exact h2.symm
    obtain rfl : (.int .i64 (kp : Int)) = x16_ := by obtain ⟨z, h1, h2⟩ := hv 16 _ rfl; cases h1; exact h2.symm
    obtain rfl : (.pointer (some ⟨g, kp * 2, none⟩)) = x17_ := by obtain ⟨z, h1, h2⟩ := hv 17 _ rfl; cases h1; exact h2.symm
    obtain rfl : (.pointer (some ⟨g, kp * 2, none⟩)) = x18_ := by obtain ⟨z, h1, h2⟩ := hv 18 _ rfl; cases h1; exact h2.symm
    obtain rfl : (.int .u64 ad) = x19_ := by obtain ⟨z, h1, h2⟩ := hv 19 _ rfl; cases h1; exact h2.symm
    obtain rfl : (.int .i64 0) = x20_ := by obtain ⟨z, h1, h2⟩ := hv 20 _ rfl; cases h1; exact h2.symm
    obtain rfl : (.bool false) = x21_ := by obtain ⟨z, h1, h2⟩ := hv 21 _ rfl; cases h1; exact h2.symm
    obtain rfl : (.int .i64 0) = x22_ := by obtain ⟨z, h1, h2⟩ := hv 22 _ rfl; cases h1; exact h2.symm
    intro L hall hG
    clear hv hlen
    have HG := Lib.hid (hG.y (hall 20 (by decide)))
    have HGk := Lib.hid hG.k
    clear hG hall
    simp only [fill, if_true]
  --END
    simp [Act.put]
    go_wp2_with (fail)
    go_ret2
    exact ⟨rfl, W2.drew, HK2.out.drew, HG.out, HB2.out.kept HGk.out HSn.out⟩
set_option maxRecDepth 100000 in
set_option maxHeartbeats 16000000 in
theorem rfence_v (w : World) (rb mb g cap : Nat) (S : Nat → Prop) (r : Rn) (l : List (Int × Int)) (c k : Nat) (vw is : List Int) (mk : Int → Nat → Int) (F : Int → List (Int × Int)) (lo st fl fe : Int)
    (h : RnS w rb mb g cap S r l c) (hm : MemP w mb S vw is mk F lo st fl fe) (hat : r.at_ = (k : Int)) (hc : c ≤ 64) (hst : st ≤ 1000000) (hfe : fe ≤ 1000000) :
    Calls Try.prog 99 #[.pointer (some ⟨rb, 0, none⟩)] w fun e w' => e = .returned (.tuple #[.bool (decide (k = l.length)), .int .i64 0]) ∧ ∃ W2, Keeps (fun i => i = rb) w W2 ∧ FeP W2 mb S vw is mk F lo st fl fe c w' ∧ Blk w' rb (rnCells { r with next := rphV rb 66 }) 129 := by
  have hb2 := h.b.set 4 (rphV rb 66)
  rw [rn_set4] at hb2
  have hk2 : Keeps (fun i => i = rb) w (w.setCell ⟨rb, 4, none⟩ (rphV rb 66)) := (Keeps.refl (fun i => i = rb) w).setCell (p := ⟨rb, 4, none⟩) (.inl rfl) _
  obtain ⟨W2, hW2⟩ : ∃ W2, w.setCell ⟨rb, 4, none⟩ (rphV rb 66) = W2 := ⟨_, rfl⟩
  have HW2 := Lib.hid hW2
  rw [hW2] at hb2 hk2
  have HB := Lib.hid h.b
  have HB2 := Lib.hid hb2
  have HK2 := Lib.hid hk2
  obtain ⟨ln, hln⟩ : ∃ ln, l.length = ln := ⟨_, rfl⟩
  have Hc := Lib.hid (show ∀ W, Keeps S W2 W → ∀ j, W.cell? ⟨rb, j, none⟩ = (rnCells { r with next := rphV rb 66 })[j]? from fun W hk j => by rw [hk.cell (p := ⟨rb, j, none⟩) hb2.lt h.s.1]; exact hb2.cell j)
  have HR := Lib.hid (show (rnCells { r with next := rphV rb 66 })[0]? = some (.pointer (some ⟨mb, 0, none⟩)) ∧ (rnCells { r with next := rphV rb 66 })[1]? = some (.int .i64 (c : Int)) ∧ (rnCells { r with next := rphV rb 66 })[2]? = some (.slice (some ⟨g, 0, none⟩) ln cap) ∧ (rnCells { r with next := rphV rb 66 })[3]? = some (.int .i64 (k : Int)) from ⟨by rw [← h.mv]; rfl, by rw [← h.cl]; rfl, by rw [← hln, ← h.sl]; rfl, by rw [← hat]; rfl⟩)
  have hm2 := hm.kept hk2 (fun i hi e => h.s.1 (e ▸ hi))
  have HSt := Lib.hid (show Calls Try.prog 41 #[.pointer (some ⟨mb, 0, none⟩), .int .i64 (c : Int)] W2.drew fun e w' => e = .returned (.int .i64 0) ∧ FeP W2.drew mb S vw is mk F lo st fl fe c w' from fence_m (hm2.below (Below.refl _ W2).drew) c hc hst hfe)
  have HSn := Lib.hid h.s.1
  have hbq0 : ((k : Int) == (ln : Int)) = decide (k = ln) := by rw [Bool.eq_iff_iff]; simp; omega
  rw [hln]
  obtain ⟨bq, hbq⟩ : ∃ bq, decide (k = ln) = bq := ⟨_, rfl⟩
  rw [hbq] at hbq0 ⊢
  have Hbq := Lib.hid hbq0
  have HBq := Lib.hid hbq
  clear h hm hat hln hb2 hk2 hW2 hm2 hbq0 hbq
  go_enter Try.func99, Try.ntmps99
  go_upto_region 2 with ((with_reducible refine wpList_store_cellB (o := ⟨none, .store 36 (.tmp 8) (.tmp 6), _, _, _, _⟩) ?hg 36 (.tmp 8) (.tmp 6) ?ho rb 4 (rphV rb 66) ?CC 129 ?hx ?hy ?h1 ?hb ?hs ?hi ?_); (case hg => rfl); (case ho => rfl); (case hx => rfl); (case hy => rfl); (case h1 => rfl); (case hb => exact HB.out); (case hs => rw [rnCells_size]; decide); (case hi => exact infoFn))
  rw [HW2.out]
  simp [Act.put]
  go_wp2_with (fail)
  --GEN r_fe2
  refine wp_region_vals [Is (.pointer (some ⟨rb, 0, none⟩)), Is (.pointer (some ⟨rb, 0, none⟩)), Is (.pointer (some ⟨rb, 3, none⟩)), Is (.int .i64 (k : Int)), Is (.pointer (some ⟨rb, 0, none⟩)), Is (.pointer (some ⟨rb, 0, none⟩)), Is (.pointer (some ⟨rb, 2, none⟩)), Is (.slice (some ⟨g, 0, none⟩) ln cap), Is (.int .i64 (ln : Int)), Is (.bool bq), Is (.pointer (some ⟨rb, 0, none⟩)), Is (.pointer (some ⟨rb, 0, none⟩)), Is (.pointer (some ⟨rb, 0, none⟩)), Is (.pointer (some ⟨mb, 0, none⟩)), Is (.pointer (some ⟨rb, 0, none⟩)), Is (.pointer (some ⟨rb, 0, none⟩)), Is (.pointer (some ⟨rb, 1, none⟩)), Is (.int .i64 (c : Int)), Is (.int .i64 0), Is (.bool bq), Is (.int .i64 0)]
    (fun _ _ _ => True) (fun L W => StC W2 (fun W => FeP W2.drew mb S vw is mk F lo st fl fe c W) S 18 L W) (by kernel_rfl) (by kernel_rfl) (by kernel_rfl) ?hst ?h0 ⟨?o0, ?o1, ?o2, ?o3, ?o4, ?o5, ?o6, ?o7, ?o8, ?o9, ?o10, ?o11, ?o12, ?o13, ?o14, ?o15, ?o16, ?o17, ?o18, ?o19, ?o20, trivial⟩ ?he
  case hst =>
    exact ⟨(fun _ _ _ _ _ _ h _ => h), (fun _ _ _ _ _ _ h _ => h), (fun _ _ _ _ _ _ h _ => h), (fun _ _ _ _ _ _ h _ => h), (fun _ _ _ _ _ _ h _ => h), (fun _ _ _ _ _ _ h _ => h), (fun _ _ _ _ _ _ h _ => h), (fun _ _ _ _ _ _ h _ => h), (fun _ _ _ _ _ _ h _ => h), (fun _ _ _ _ _ _ h _ => h), (fun _ _ _ _ _ _ h _ => h), (fun _ _ _ _ _ _ h _ => h), (fun _ _ _ _ _ _ h _ => h), (fun _ _ _ _ _ _ h _ => h), (fun _ _ _ _ _ _ h _ => h), (fun _ _ _ _ _ _ h _ => h), (fun _ _ _ _ _ _ h _ => h), (fun _ _ _ _ _ _ h _ => h), (fun _ _ _ _ _ _ h _ => h), (fun _ _ _ _ _ _ h _ => h), (fun _ _ _ _ _ _ h _ => h), trivial⟩
  case h0 =>
    exact ⟨fun _ => rfl, fun e => (by cases e), (Keeps.refl _ _).drew⟩
  case o0 =>
    intro L vs A W H hf hd K hK
    have e0 : A.tmps[0]?.getD undef = .pointer (some ⟨rb, 0, none⟩) := H.old 0 (by kernel_rfl)
    go_simp
    exact hK _ _ (trivial) rfl (H.glob.keep rfl)
  case o1 =>
    intro L vs A W H hf hd K hK
    have e9 := H.is 0 9 rfl rfl rfl (deps_of' hd 0 (by kernel_rfl)) (by kernel_rfl)
    go_simp
    exact hK _ _ (trivial) rfl (H.glob.keep rfl)
  case o2 =>
    intro L vs A W H hf hd K hK
    have e10 := H.is 1 10 rfl rfl rfl (deps_of' hd 1 (by kernel_rfl)) (by kernel_rfl)
    go_simp
    exact hK _ _ (trivial) rfl (H.glob.keep rfl)
  case o3 =>
    intro L vs A W H hf hd K hK
    have e11 := H.is 2 11 rfl rfl rfl (deps_of' hd 2 (by kernel_rfl)) (by kernel_rfl)
    have d : W.cell? ⟨rb, 3, none⟩ = some (.int .i64 (k : Int)) := (Hc.out W H.glob.k 3).trans HR.out.2.2.2
    go_simp
    exact hK _ _ (trivial) rfl (H.glob.keep rfl)
  case o4 =>
    intro L vs A W H hf hd K hK
    have e0 : A.tmps[0]?.getD undef = .pointer (some ⟨rb, 0, none⟩) := H.old 0 (by kernel_rfl)
    go_simp
    exact hK _ _ (trivial) rfl (H.glob.keep rfl)
  case o5 =>
    intro L vs A W H hf hd K hK
    have e13 := H.is 4 13 rfl rfl rfl (deps_of' hd 4 (by kernel_rfl)) (by kernel_rfl)
    go_simp
    exact hK _ _ (trivial) rfl (H.glob.keep rfl)
  case o6 =>
    intro L vs A W H hf hd K hK
    have e14 := H.is 5 14 rfl rfl rfl (deps_of' hd 5 (by kernel_rfl)) (by kernel_rfl)
    go_simp
    exact hK _ _ (trivial) rfl (H.glob.keep rfl)
  case o7 =>
    intro L vs A W H hf hd K hK
    have e15 := H.is 6 15 rfl rfl rfl (deps_of' hd 6 (by kernel_rfl)) (by kernel_rfl)
    have d : W.cell? ⟨rb, 2, none⟩ = some (.slice (some ⟨g, 0, none⟩) ln cap) := (Hc.out W H.glob.k 2).trans HR.out.2.2.1
    go_simp
    exact hK _ _ (trivial) rfl (H.glob.keep rfl)
  case o8 =>
    intro L vs A W H hf hd K hK
    have e16 := H.is 7 16 rfl rfl rfl (deps_of' hd 7 (by kernel_rfl)) (by kernel_rfl)
    go_simp
    exact hK _ _ (trivial) rfl (H.glob.keep rfl)
  case o9 =>
    intro L vs A W H hf hd K hK
    have e12 := H.is 3 12 rfl rfl rfl (deps_of' hd 3 (by kernel_rfl)) (by kernel_rfl)
    have e17 := H.is 8 17 rfl rfl rfl (deps_of' hd 8 (by kernel_rfl)) (by kernel_rfl)
    have hq := Hbq.out
    go_simp
    exact hK _ _ (trivial) rfl (H.glob.keep rfl)
  case o10 =>
    intro L vs A W H hf hd K hK
    have e0 : A.tmps[0]?.getD undef = .pointer (some ⟨rb, 0, none⟩) := H.old 0 (by kernel_rfl)
    go_simp
    exact hK _ _ (trivial) rfl (H.glob.keep rfl)
  case o11 =>
    intro L vs A W H hf hd K hK
    have e19 := H.is 10 19 rfl rfl rfl (deps_of' hd 10 (by kernel_rfl)) (by kernel_rfl)
    go_simp
    exact hK _ _ (trivial) rfl (H.glob.keep rfl)
  case o12 =>
    intro L vs A W H hf hd K hK
    have e20 := H.is 11 20 rfl rfl rfl (deps_of' hd 11 (by kernel_rfl)) (by kernel_rfl)
    go_simp
    exact hK _ _ (trivial) rfl (H.glob.keep rfl)
  case o13 =>
    intro L vs A W H hf hd K hK
    have e21 := H.is 12 21 rfl rfl rfl (deps_of' hd 12 (by kernel_rfl)) (by kernel_rfl)
    have d : W.cell? ⟨rb, 0, none⟩ = some (.pointer (some ⟨mb, 0, none⟩)) := (Hc.out W H.glob.k 0).trans HR.out.1
    go_simp
    exact hK _ _ (trivial) rfl (H.glob.keep rfl)
  case o14 =>
    intro L vs A W H hf hd K hK
    have e0 : A.tmps[0]?.getD undef = .pointer (some ⟨rb, 0, none⟩) := H.old 0 (by kernel_rfl)
    go_simp
    exact hK _ _ (trivial) rfl (H.glob.keep rfl)
  case o15 =>
    intro L vs A W H hf hd K hK
    have e23 := H.is 14 23 rfl rfl rfl (deps_of' hd 14 (by kernel_rfl)) (by kernel_rfl)
    go_simp
    exact hK _ _ (trivial) rfl (H.glob.keep rfl)
  case o16 =>
    intro L vs A W H hf hd K hK
    have e24 := H.is 15 24 rfl rfl rfl (deps_of' hd 15 (by kernel_rfl)) (by kernel_rfl)
    go_simp
    exact hK _ _ (trivial) rfl (H.glob.keep rfl)
  case o17 =>
    intro L vs A W H hf hd K hK
    have e25 := H.is 16 25 rfl rfl rfl (deps_of' hd 16 (by kernel_rfl)) (by kernel_rfl)
    have d : W.cell? ⟨rb, 1, none⟩ = some (.int .i64 (c : Int)) := (Hc.out W H.glob.k 1).trans HR.out.2.1
    go_simp
    exact hK _ _ (trivial) rfl (H.glob.keep rfl)
  case o18 =>
    intro L vs A W H hf hd K hK
    have e22 := H.is 13 22 rfl rfl rfl (deps_of' hd 13 (by kernel_rfl)) (by kernel_rfl)
    have e26 := H.is 17 26 rfl rfl rfl (deps_of' hd 17 (by kernel_rfl)) (by kernel_rfl)
    have hW := H.glob.n hf
    subst hW
    go_simp
    refine HSt.out.mono ?_
    rintro e w' ⟨rfl, hI⟩
    have hk1 := hI.keeps
    go_simp
    exact hK _ _ trivial rfl ⟨fun e => (by simp [lset] at e), fun _ => hI, (Keeps.refl _ W2).drew.trans hk1⟩
  case o19 =>
    intro L vs A W H hf hd K hK
    have e18 := H.is 9 18 rfl rfl rfl (deps_of' hd 9 (by kernel_rfl)) (by kernel_rfl)
    go_simp
    exact hK _ _ (trivial) rfl (H.glob.keep rfl)
  case o20 =>
    intro L vs A W H hf hd K hK
    have e27 := H.is 18 27 rfl rfl rfl (deps_of' hd 18 (by kernel_rfl)) (by kernel_rfl)
    go_simp
    exact hK _ _ (trivial) rfl (H.glob.keep rfl)
  case he =>
    intro vs W hlen hv
    match vs, hlen, hv with
    | [x0_, x1_, x2_, x3_, x4_, x5_, x6_, x7_, x8_, x9_, x10_, x11_, x12_, x13_, x14_, x15_, x16_, x17_, x18_, x19_, x20_], _, hv =>
    obtain rfl : (.pointer (some ⟨rb, 0, none⟩)) = x0_ := by obtain ⟨z, h1, h2⟩ := hv 0 _ rfl; cases h1; exact h2.symm
    obtain rfl : (.pointer (some ⟨rb, 0, none⟩)) = x1_ := by obtain ⟨z, h1, h2⟩ := hv 1 _ rfl; cases h1; exact h2.symm
    obtain rfl : (.pointer (some ⟨rb, 3, none⟩)) = x2_ := by obtain ⟨z, h1, h2⟩ := hv 2 _ rfl; cases h1; exact h2.symm
    obtain rfl : (.int .i64 (k : Int)) = x3_ := by obtain ⟨z, h1, h2⟩ := hv 3 _ rfl; cases h1; exact h2.symm
    obtain rfl : (.pointer (some ⟨rb, 0, none⟩)) = x4_ := by obtain ⟨z, h1, h2⟩ := hv 4 _ rfl; cases h1; exact h2.symm
    obtain rfl : (.pointer (some ⟨rb, 0, none⟩)) = x5_ := by obtain ⟨z, h1, h2⟩ := hv 5 _ rfl; cases h1; exact h2.symm
    obtain rfl : (.pointer (some ⟨rb, 2, none⟩)) = x6_ := by obtain ⟨z, h1, h2⟩ := hv 6 _ rfl; cases h1; exact h2.symm
    obtain rfl : (.slice (some ⟨g, 0, none⟩) ln cap) = x7_ := by obtain ⟨z, h1, h2⟩ := hv 7 _ rfl; cases h1; exact h2.symm
    obtain rfl : (.int .i64 (ln : Int)) = x8_ := by obtain ⟨z, h1, h2⟩ := hv 8 _ rfl; cases h1; exact h2.symm
    obtain rfl : (.bool bq) = x9_ := by obtain ⟨z, h1, h2⟩ := hv 9 _ rfl; cases h1; exact h2.symm
    obtain rfl : (.pointer (some ⟨rb, 0, none⟩)) = x10_ := by obtain ⟨z, h1, h2⟩ := hv 10 _ rfl; cases h1; exact h2.symm
    obtain rfl : (.pointer (some ⟨rb, 0, none⟩)) = x11_ := by obtain ⟨z, h1, h2⟩ := hv 11 _ rfl; cases h1; exact h2.symm
    obtain rfl : (.pointer (some ⟨rb, 0, none⟩)) = x12_ := by obtain ⟨z, h1, h2⟩ := hv 12 _ rfl; cases h1; exact h2.symm
    obtain rfl : (.pointer (some ⟨mb, 0, none⟩)) = x13_ := by obtain ⟨z, h1, h2⟩ := hv 13 _ rfl; cases h1; exact h2.symm
    obtain rfl : (.pointer (some ⟨rb, 0, none⟩)) = x14_ := by obtain ⟨z, h1, h2⟩ := hv 14 _ rfl; cases h1; exact h2.symm
    obtain rfl : (.pointer (some ⟨rb, 0, none⟩)) = x15_ := by obtain ⟨z, h1, h2⟩ := hv 15 _ rfl; cases h1; exact h2.symm
    obtain rfl : (.pointer (some ⟨rb, 1, none⟩)) = x16_ := by obtain ⟨z, h1, h2⟩ := hv 16 _ rfl; cases h1; exact h2.symm
    obtain rfl : (.int .i64 (c : Int)) = x17_ := by obtain ⟨z, h1, h2⟩ := hv 17 _ rfl; cases h1; exact h2.symm
    obtain rfl : (.int .i64 0) = x18_ := by obtain ⟨z, h1, h2⟩ := hv 18 _ rfl; cases h1; exact h2.symm
    obtain rfl : (.bool bq) = x19_ := by obtain ⟨z, h1, h2⟩ := hv 19 _ rfl; cases h1; exact h2.symm
    obtain rfl : (.int .i64 0) = x20_ := by obtain ⟨z, h1, h2⟩ := hv 20 _ rfl; cases h1; exact h2.symm
    intro L hall hG
    clear hv hlen
    have HG := Lib.hid (hG.y (hall 18 (by decide)))
    have HGk := Lib.hid hG.k
    clear hG hall
    simp only [fill, if_true]
  --END
    simp [Act.put]
    go_wp2_with (fail)
    go_ret2
    exact ⟨rfl, W2.drew, HK2.out.drew, HG.out, HB2.out.kept HGk.out HSn.out⟩
end Go.Proofs.Ytgmbnoimlffgcaa
