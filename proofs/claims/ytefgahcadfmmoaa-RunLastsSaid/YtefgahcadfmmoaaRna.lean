/-
  A RUN: its cells; New, line.
-/
import Derived.Test.YtefgahcadfmmoaaMn
import Derived.Deep.MidRow
import Derived.Laws.EntriesVeiled
import Derived.WalkSpells
import Derived.WalkLawsBesides
namespace Go.Proofs.Ytefgahcadfmmoaa
open Go.RowKit
set_option linter.unusedVariables false

def eK (l : List (Int × Int)) (i : Nat) : Int := (l.getD i (0, 0)).1
def eP (l : List (Int × Int)) (i : Nat) : Int := (l.getD i (0, 0)).2
def EntsAt (w : World) (g o : Nat) (l : List (Int × Int)) : Prop :=
  ∀ i, i < l.length → w.cell? ⟨g, o + i * 2, none⟩ = some (.int .u64 (eK l i)) ∧ w.cell? ⟨g, o + i * 2 + 1, none⟩ = some (.int .u64 (eP l i))
theorem EntsAt.below {w w' : World} {B g o : Nat} {l : List (Int × Int)} (h : EntsAt w g o l) (hB : Below B w w') (hg : g < B) : EntsAt w' g o l := by
  intro i hi
  obtain ⟨h1, h2⟩ := h i hi
  exact ⟨(hB.cell (p := ⟨g, o + i * 2, none⟩) hg).trans h1, (hB.cell (p := ⟨g, o + i * 2 + 1, none⟩) hg).trans h2⟩
theorem ecells_get (l : List (Int × Int)) : ∀ i, i < l.length → (ecells l)[i * 2]? = some (.int .u64 (eK l i)) ∧ (ecells l)[i * 2 + 1]? = some (.int .u64 (eP l i)) := by
  induction l with
  | nil => intro i h; simp at h
  | cons x r ih =>
    intro i h
    cases i with
    | zero => simp [ecells, eK, eP]
    | succ i =>
      have := ih i (by simpa using h)
      have e : ecells (x :: r) = .int .u64 x.1 :: .int .u64 x.2 :: ecells r := by simp [ecells]
      rw [e, show (i + 1) * 2 = i * 2 + 1 + 1 by omega]
      simpa [eK, eP] using this
theorem own_ents {w : World} {base : Nat} {e : TypeId} {v : Value} {n : Nat} {l : List (Int × Int)} (h : w.ownsRow base e 2 v n (ecells l)) (hn : n = l.length) (hp : 0 < n) :
    ∃ g cap, v = .slice (some ⟨g, 0, none⟩) n cap ∧ base ≤ g ∧ g < w.heap.size ∧ n ≤ cap ∧ cap ≤ maxLen ∧ EntsAt w g 0 l := by
  obtain ⟨g, cap, h1, h2, h3, h4, h5, _, h7, _⟩ := own_shapeK h hp
  refine ⟨g, cap, h1, h2, h3, h4, h5, fun i hi => ?_⟩
  obtain ⟨e1, e2⟩ := ecells_get l i hi
  rw [Nat.zero_add]
  exact ⟨(h7 (i * 2) (by omega)).trans e1, (h7 (i * 2 + 1) (by omega)).trans e2⟩

theorem run_storeVar_cellB {w : World} {sb off : Nat} {C : Array Value} {t : TypeId} (hb : Blk w sb C t) (ho : off < C.size) (ty : TypeId) (v : Value) (h1 : v.oneCell' = true) (hi : (Try.prog.info? ty).map (·.size) = some 1) :
    (storeVar ty ⟨sb, off, none⟩ v).run Try.prog w = .ok () (w.setCell ⟨sb, off, none⟩ v) := by
  have hst := run_store Try.prog w ⟨sb, off, none⟩ v .plain h1
  have hc : w.cell? ⟨sb, off, none⟩ = some C[off] := by rw [hb.cell]; exact Array.getElem?_eq_getElem ho
  have hf := hb.frozen off
  rw [hc] at hst
  simp only [hf] at hst
  have e0 : (⟨sb, off, none⟩ : Addr).add 0 = ⟨sb, off, none⟩ := by simp [Addr.add]
  have hcs : v.cells = #[v] := by cases v <;> first | rfl | cases h1
  cases hq : Try.prog.info? ty with
  | none => simp [hq] at hi
  | some i =>
    have hs : i.size = 1 := by simpa [hq] using hi
    simp [storeVar, sizeOf, typeInfo, hq, hcs, hs, storeCells, e0, hst]
theorem wpList_store_cellB {ops : Array Oper} {rest : List Oper} {o : Oper} {a : Act} {w : World} {Q : Exit → Act → World → Prop} (hgd : o.guard = none) (ty : TypeId) (x y : Operand) (ho : o.op = .store ty x y)
    (sb off : Nat) (v : Value) (C : Array Value) (t : TypeId) (hx : a.eval x = .pointer (some ⟨sb, off, none⟩)) (hy : a.eval y = v) (h1 : v.oneCell' = true) (hb : Blk w sb C t) (hsz : off < C.size) (hi : (Try.prog.info? ty).map (·.size) = some 1)
    (h : wpList Try.prog ops Q rest (a.put o.dst undef) (w.setCell ⟨sb, off, none⟩ v)) : wpList Try.prog ops Q (o :: rest) a w :=
  wpList_plain hgd fun _ hK => by
    unfold Oper.wp execOp
    simp only [ho, hx, hy, Instr.storeAt, Instr.sureAddr, Sem.run_bind, Sem.run_pure, Result.andThen_ok, run_storeVar_cellB hb hsz ty v h1 hi]
    exact hK _ _ h
theorem infoFn : (Try.prog.info? 33).map (·.size) = some 1 := by kernel_rfl
theorem nil_eq (w : World) : (binOp .eql 33 .nilFunc .nilFunc).run Try.prog w = .ok (.bool true) w := by kernel_rfl
theorem fn_eq (f b : Nat) (w : World) : (binOp .eql 33 (.func (.func f) #[.pointer (some ⟨b, 0, none⟩)] #[]) .nilFunc).run Try.prog w = .ok (.bool false) w := by kernel_rfl
/-! ### plain: what a load answers -/
theorem u64_rng (x : Int) : 0 ≤ IntKind.u64.wrap x ∧ IntKind.u64.wrap x ≤ 18446744073709551615 := by
  simp [IntKind.wrap, IntKind.bits, IntKind.signed]; omega
def ldW (vw : List Int) (a : Int) : Int := if atE vw.length a = 0 then vw.getD (a / 8).toNat 0 else 0
theorem ldW_u64 {vw : List Int} (h : U64s vw) (a : Int) : 0 ≤ ldW vw a ∧ ldW vw a ≤ 18446744073709551615 := by
  unfold ldW
  split
  · by_cases hk : (a / 8).toNat < vw.length
    · rw [List.getD_eq_getElem?_getD, List.getElem?_eq_getElem hk]; exact h _ (List.getElem_mem hk)
    · rw [List.getD_eq_getElem?_getD, List.getElem?_eq_none (by omega)]; decide
  · decide
def ldN (n : Nat) (a : Int) (lo : Int) : Int := if atE n a = 0 then IntKind.u64.wrap (lo + 1) else lo
def wrdA (a k : Int) : Int := IntKind.u64.wrap (a + 8 * k)
section
variable {w w' : World} {mb : Nat} {S : Nat → Prop} {vs is : List Int} {mk : Int → Nat → Int} {F : Int → List (Int × Int)} {lo st fl fe : Int}
theorem load_w (h : MemP w mb S vs is mk F lo st fl fe) (a : Int) (h0 : 0 ≤ a) (h1 : a ≤ 18446744073709551615) :
    Calls Try.prog 28 #[.pointer (some ⟨mb, 0, none⟩), .int .u64 a] w fun e w' => e = .returned (.tuple #[.int .u64 (ldW vs a), .int .i64 (atE vs.length a)]) ∧ MemP w' mb S vs is mk F (ldN vs.length a lo) st fl fe ∧ Keeps S w w' := by
  unfold ldW ldN
  rcases atE_or vs.length a with e | e
  · rw [e, if_pos rfl, if_pos rfl]
    exact load_m h a h0 h1 e
  · rw [e, if_neg (by decide), if_neg (by decide)]
    refine (load_no h a h0 h1 e).mono ?_
    rintro e w' ⟨rfl, rfl⟩
    exact ⟨rfl, h, Keeps.refl _ _⟩
end
/-- the worlds of a drawn region with one load -/
structure LGp (W0 : World) (mb : Nat) (S : Nat → Prop) (vs is : List Int) (mk : Int → Nat → Int) (F : Int → List (Int × Int)) (lo st fl fe ad : Int) (j : Nat) (L : Nat → Bool) (W : World) : Prop where
  n : L j = false → MemP W mb S vs is mk F lo st fl fe
  y : L j = true → MemP W mb S vs is mk F (ldN vs.length ad lo) st fl fe
  kp : Keeps S W0 W
section
variable {W0 W W' : World} {mb : Nat} {S : Nat → Prop} {vs is : List Int} {mk : Int → Nat → Int} {F : Int → List (Int × Int)} {lo st fl fe ad : Int} {j : Nat} {L L' : Nat → Bool}
theorem LGp.start (h : MemP W0 mb S vs is mk F lo st fl fe) : LGp W0 mb S vs is mk F lo st fl fe ad j (fun _ => false) W0.drew :=
  ⟨fun _ => h.below ((Below.refl _ W0).drew), (by simp), (Keeps.refl _ _).drew⟩
theorem LGp.keep (h : LGp W0 mb S vs is mk F lo st fl fe ad j L W) (e : L' j = L j) : LGp W0 mb S vs is mk F lo st fl fe ad j L' W := ⟨by rw [e]; exact h.n, by rw [e]; exact h.y, h.kp⟩
theorem LGp.load (h : LGp W0 mb S vs is mk F lo st fl fe ad j L W) (hm : MemP W' mb S vs is mk F (ldN vs.length ad lo) st fl fe) (hk : Keeps S W W') : LGp W0 mb S vs is mk F lo st fl fe ad j (lset L j) W' :=
  ⟨(fun e => by simp [lset] at e), fun _ => hm, h.kp.trans hk⟩
end

end Go.Proofs.Ytefgahcadfmmoaa
namespace Go.Proofs.Ytefgahcadfmmoaa
open Go.RowKit
attribute [local go_sem] Oper.semAt_some
set_option linter.unusedVariables false

structure Rn where
  mv : Option Addr
  c : Int
  sl : Value
  at_ : Int
  next : Value
  over : Bool
  e : Int
def rnCells (r : Rn) : Array Value := #[.pointer r.mv, .int .i64 r.c, r.sl, .int .i64 r.at_, r.next, .bool r.over, .int .i64 r.e]
theorem rnCells_size (r : Rn) : (rnCells r).size = 7 := rfl
theorem rn_set3 (r : Rn) (x : Int) : (rnCells r).setIfInBounds 3 (.int .i64 x) = rnCells { r with at_ := x } := rfl
theorem rn_set4 (r : Rn) (x : Value) : (rnCells r).setIfInBounds 4 x = rnCells { r with next := x } := rfl
theorem rn_set5 (r : Rn) (x : Bool) : (rnCells r).setIfInBounds 5 (.bool x) = rnCells { r with over := x } := rfl
theorem rn_set6 (r : Rn) (x : Int) : (rnCells r).setIfInBounds 6 (.int .i64 x) = rnCells { r with e := x } := rfl
theorem cloneP_v (v : Value) (l : List (Int × Int)) (w : World) (h : w.ownsRow 0 25 2 v l.length (ecells l)) (hn : l.length ≤ 1000000) :
    Calls Try.prog 29 #[v] w fun e w' => ∃ v', e = .returned v' ∧ w'.ownsRow w.heap.size 25 2 v' l.length (ecells l) ∧ Below w.heap.size w w' := by
  obtain ⟨i0, hi, hz0, hz1, hz2⟩ := info_parts Try.infoPut
  have hq : ∀ (w : World) (a : Option Addr) (n c n' c' : Nat), (binOp .eql 34 (.slice a n c) (.slice none n' c')).run Try.prog w = .ok (.bool a.isNone) w := fun w a n c n' c' => Lib.run_eql_slice_nil w _ _ a n c n' c' Try.underlying34
  have hr : ∀ a c, v = .slice a l.length c → Reads w w.heap.size 2 a l.length (ecells l) := fun a c e => by subst e; exact Reads.of_own h
  obtain ⟨hl, ⟨rfl, h0⟩ | ⟨g, cap, cur, rfl, hb, hg, h1, h2, hsz, ht⟩⟩ := h
  · have : l = [] := List.eq_nil_of_length_eq_zero h0
    subst this
    go_enter Try.func29, Try.ntmps29
    go_wp2_with (fail)
    go_ret
    exact ⟨_, rfl, World.ownsRow_nil _ _ _ _, Below.refl _ _⟩
  · have HR := Lib.hid (hr _ _ rfl)
    clear hr hl hb hg hsz ht
    go_enter Try.func29, Try.ntmps29
    go_wp2_with (at_builtin; refine wpList_append_own _ rfl _ _ 34 rfl w.heap.size 25 i0 (.agg #[.int .u64 0, .int .u64 0]) 2 16 Try.underlying34 hi hz0 hz1 hz2 rfl (by decide) _ _ _ rfl (World.ownsRow_made w #[] 0 (Nat.le_refl _) (Nat.zero_le _) (by simp)) ⟨g, 0, none⟩ l.length cap (ecells l) rfl ?qc1 ?qc2 ?qc3 ?qc4 ?qc5 ?qc6 ?_)
    case qc1 => exact ecells_len2 l
    case qc2 =>
      intro j u hj
      obtain ⟨ad, hA, hb, hcc⟩ := HR.out.2 (by have := (List.getElem?_eq_some_iff.1 hj).1; rw [ecells_len2] at this; omega)
      cases hA
      have := hcc j u hj
      rw [Addr.add_lit] at this ⊢
      exact Lib.cell?_alloc_some _ this
    case qc3 => exact ecells_one l
    case qc4 => unfold maxLen; omega
    case qc5 => omega
    case qc6 => simp
    intro v' w1 hown hgrow hnil
    obtain ⟨a3, n3, c3, rfl⟩ := own_slice hown
    have HO := Lib.hid hown
    have HB := Lib.hid ((((Below.refl _ w).alloc (Nat.le_refl _) _).grown hgrow (by simp) (by intro k hk; simp [Value.ownBlock] at hk; omega)) : Below w.heap.size w w1)
    clear hown hgrow hnil
    go_wp2_with (fail)
    go_ret
    exact ⟨_, rfl, by simpa using HO.out, HB.out⟩
def rphV (rb f : Nat) : Value := .func (.func f) #[.pointer (some ⟨rb, 0, none⟩)] #[]
def rnNew (rb : Nat) (mv : Option Addr) (c : Int) (sl : Value) : Rn := { mv := mv, c := c, sl := sl, at_ := 0, next := rphV rb 30, over := false, e := 0 }
set_option maxRecDepth 100000 in
theorem rnew_v (mv : Option Addr) (c : Int) (v : Value) (l : List (Int × Int)) (w : World) (h : w.ownsRow 0 25 2 v l.length (ecells l)) (hn : l.length ≤ 1000000) :
    Calls Try.prog 11 #[.pointer mv, .int .i64 c, v] w fun e w' => ∃ rb sl, e = .returned (.pointer (some ⟨rb, 0, none⟩)) ∧ Blk w' rb (rnCells (rnNew rb mv c sl)) 41 ∧ w'.ownsRow w.heap.size 25 2 sl l.length (ecells l) ∧ w.heap.size ≤ rb ∧ sl.ownBlock ≠ some rb ∧ Below w.heap.size w w' := by
  have HC := Lib.hid (cloneP_v v l w h hn)
  clear h
  go_enter Try.func11, Try.ntmps11
  go_wp2_with (fail)
  refine HC.out.mono ?_
  rintro e w1 ⟨sl, rfl, hown, hB⟩
  obtain ⟨a3, n3, c3, rfl⟩ := own_slice hown
  have HB2 := Lib.hid (Blk.new w1 (rnCells (rnNew w1.heap.size mv c (.slice a3 n3 c3))) 41)
  have HO := Lib.hid (hown.alloc (.cells (rnCells (rnNew w1.heap.size mv c (.slice a3 n3 c3))) 41))
  have HN := Lib.hid (show (Value.slice a3 n3 c3).ownBlock ≠ some w1.heap.size from fun e => by have := own_ltS hown e; omega)
  have HB := Lib.hid (hB.alloc hB.size (.cells (rnCells (rnNew w1.heap.size mv c (.slice a3 n3 c3))) 41))
  have HSz := Lib.hid hB.size
  clear hown hB
  go_wp2_with (fail)
  go_ret
  exact ⟨_, _, rfl, HB2.out, HO.out, HSz.out, HN.out, HB.out⟩
end Go.Proofs.Ytefgahcadfmmoaa
