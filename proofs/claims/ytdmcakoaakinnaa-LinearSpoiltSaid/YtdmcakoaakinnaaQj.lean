/-
  A MAP OF STATES, AS A SET: made, asked, put to, its size, gone over, deleted from.
-/
import Derived.Test.YtdmcakoaakinnaaQa
import Derived.Maps.Own
import Derived.Maps.OwnSet
import Derived.Maps.Views
import Derived.Maps.RangeWalk
import Derived.DeepKeys4
namespace Go.Proofs.Ytdmcakoaakinnaa
open Go.RowKit Go.Maps
set_option linter.unusedVariables false
set_option linter.unusedSimpArgs false

theorem laidOut : laidOutB Try.prog = true := by kernel_rfl
theorem rowSt : (71 : TypeId) < Try.prog.types.size := of_decide_eq_true (by kernel_rfl)
theorem wideSt : (match Try.prog.underlying 71 with | some (.array _ _) | some (.struct _) => true | _ => false) = true := by kernel_rfl
set_option maxRecDepth 100000 in
theorem kS : Keyed Try.prog 71 := Keyed.of_law (deep_law_laid laidOut (m := 3) (by omega) rowSt (by kernel_rfl) wideSt)
/-- a state that may be -/
def StOk (s : St) : Prop := s.dn < 18446744073709551616 ∧ s.v.size ≤ maxLen
def KL (s : St) (l : Lit) : Prop := keyOf Try.prog 71 (.agg (stCells s)) = some l
theorem St.ext' {a b : St} (h : stCells a = stCells b) : a = b := by
  obtain ⟨a1, a2, a3⟩ := a
  obtain ⟨b1, b2, b3⟩ := b
  simp [stCells] at h
  obtain ⟨h1, h2, h3⟩ := h
  obtain rfl : a1 = b1 := by omega
  subst h2 h3; rfl
theorem KL.inj {a b : St} {l : Lit} (h : KL a l) (h' : KL b l) : a = b := by
  have := kS.inj h h'
  exact St.ext' (by injection this)
theorem KL.one {a : St} {l l' : Lit} (h : KL a l) (h' : KL a l') : l = l' := Option.some.inj (h.symm.trans h')
theorem KL.key {a : St} {l : Lit} (h : KL a l) : WideAt.IsKeyLit l := kS.key h
theorem keySt : Try.prog.keyType 71 = true := by kernel_rfl
theorem cells3 : Try.prog.cellsOf 71 = 3 := by kernel_rfl
theorem cells1a : Try.prog.cellsOf 24 = 1 := by kernel_rfl
theorem cells1b : Try.prog.cellsOf 4 = 1 := by kernel_rfl
theorem cells1c : Try.prog.cellsOf 9 = 1 := by kernel_rfl
theorem keyOf_gen {P : Program} {k : TypeId} {fs : Array Field} (hu : P.underlying k = some (.struct fs)) (hk : P.keyType k = true) (hsz : 0 < P.types.size) (hc : P.cellsOf k = 3) (f0 f1 f2 : Field) (hf : fs = #[f0, f1, f2])
    (u0 : P.underlying f0.type = some (.int .u64)) (u1 : P.underlying f1.type = some .bool) (u2 : P.underlying f2.type = some .string) (o0 : f0.offset = 0) (o1 : f1.offset = 1) (o2 : f2.offset = 2) (hn : fs.all (·.name != "_") = true)
    (c0 : P.cellsOf f0.type = 1) (c1 : P.cellsOf f1.type = 1) (c2 : P.cellsOf f2.type = 1) (x : Int) (hx : (Lit.int .u64 x).wf = true) (y : Bool) (z : ByteArray) (hz : z.size ≤ maxLen) : ∃ l, keyOf P k (.agg #[.int .u64 x, .bool y, .string z]) = some l := by
  obtain ⟨n, hn1⟩ : ∃ n, P.types.size = n + 1 := ⟨P.types.size - 1, by omega⟩
  have hform : (Value.agg #[.int .u64 x, .bool y, .string z]).formed P k = true := by simp [Value.formed, hu, hc]
  unfold keyOf
  rw [hu]
  simp only [hk, hform, Bool.and_self, if_true, hn1]
  refine ⟨.string (keyBytes [.int .u64 x, .bool y, .string z.data.toList]), ?_⟩
  have hl : P.keyLits (n + 1 + 1) k (Value.agg #[.int .u64 x, .bool y, .string z]).cells.toList = some [.int .u64 x, .bool y, .string z.data.toList] := by
    unfold Program.keyLits
    rw [hu]
    simp only [Value.cells, List.length_cons, List.length_nil, hc]
    rw [if_pos ⟨trivial, hn⟩, hf]
    simp [Program.keyLits, u0, u1, u2, o0, o1, o2, c0, c1, c2, hx, hz]
  rw [hl]; rfl
set_option maxRecDepth 100000 in
theorem KL.of {s : St} (h : StOk s) : ∃ l, KL s l := by
  obtain ⟨h1, h2⟩ := h
  have hw : (Lit.int .u64 (s.dn : Int)).wf = true := by simp [Lit.wf, IntKind.min, IntKind.max, IntKind.signed, IntKind.bits]; omega
  have hs : 0 < Try.prog.types.size := Nat.lt_of_le_of_lt (Nat.zero_le _) rowSt
  exact keyOf_gen Try.underlying71 keySt hs cells3 _ _ _ rfl Try.underlying24 Try.underlying4 Try.underlying9 rfl rfl rfl (by simp) cells1a cells1b cells1c s.dn hw s.is s.v h2
abbrev TrueD : DataW Unit := .lit (.bool true)
abbrev FalseD : DataW Unit := .lit (.bool false)
/-- block b of w is a map of states, all of them true: just those of V -/
def SetM (w : World) (b : Nat) (V : List St) : Prop :=
  ∃ D : DataW Unit, w.ownsMap Try.prog 71 (plainElem Try.prog 4) b V.length D ∧ (∀ l, Maps.has D l = true → ∃ s ∈ V, KL s l) ∧ (∀ s ∈ V, StOk s ∧ ∀ l, KL s l → Maps.has D l = true ∧ D.atKey l FalseD = TrueD)
theorem SetM.ok {w : World} {b : Nat} {V : List St} (h : SetM w b V) {s : St} (hs : s ∈ V) : StOk s := by
  obtain ⟨D, _, _, h3⟩ := h
  exact (h3 s hs).1
theorem SetM.new (w : World) : SetM (w.alloc (.map #[] 0)) w.heap.size [] :=
  ⟨.map [], World.ownsMap_made w _ _ _, fun l h => by simp [Maps.has] at h, fun s h => by cases h⟩
theorem SetM.lt {w : World} {b : Nat} {V : List St} (h : SetM w b V) : b < w.heap.size := by
  obtain ⟨D, h1, _⟩ := h
  exact h1.lt
theorem SetM.kept {w w' : World} {b : Nat} {V : List St} {row : Option Nat} (h : SetM w b V) (hg : w.grownBy w' row) (hne : some b ≠ row) : SetM w' b V := by
  obtain ⟨D, h1, h2⟩ := h
  exact ⟨D, h1.kept hg hne, h2⟩
theorem SetM.keeps {S : Nat → Prop} {w w' : World} {b : Nat} {V : List St} (h : SetM w b V) (hk : Keeps S w w') (hn : ¬ S b) : SetM w' b V := by
  obtain ⟨D, ⟨es, clock, hb, F, hs, hD⟩, h2⟩ := h
  exact ⟨D, ⟨es, clock, (hk.block b (Array.getElem?_eq_some_iff.1 hb).1 hn).trans hb, F, hs, hD⟩, h2⟩
/-- the same set by another list -/
theorem SetM.congr {w : World} {b : Nat} {V V' : List St} (h : SetM w b V) (he : ∀ s, s ∈ V ↔ s ∈ V') : SetM w b V' := by
  obtain ⟨D, h1, h2, h3⟩ := h
  refine ⟨D, ?_, fun l hl => ?_, fun s hs => h3 s ((he s).2 hs)⟩
  · have hsz : Maps.size D ≤ V'.length := by
      obtain ⟨es, rfl, hp, hk⟩ := h1.entries kS
      rw [size_eq]
      have hf : ∀ p ∈ es, ∃ s ∈ V', KL s p.1 := fun p hpm => by
        obtain ⟨s, hs, hkl⟩ := h2 p.1 (by rw [has_eq, List.any_eq_true]; exact ⟨p, hpm, WideAt.sameKey_self (hk p hpm)⟩)
        exact ⟨s, (he s).1 hs, hkl⟩
      have gen : ∀ es : List (Lit × DataW Unit), es.Pairwise (fun p q => p.1 ≠ q.1) → (∀ p ∈ es, ∃ s ∈ V', KL s p.1) → ∃ ss : List St, ss.length = es.length ∧ ss.Nodup ∧ (∀ s ∈ ss, s ∈ V') ∧ (∀ s ∈ ss, ∃ p ∈ es, KL s p.1) := by
        intro es
        induction es with
        | nil => exact fun _ _ => ⟨[], rfl, List.nodup_nil, ⟨fun _ h => absurd h List.not_mem_nil, fun _ h => absurd h List.not_mem_nil⟩⟩
        | cons p r ih =>
          intro hp hf
          rw [List.pairwise_cons] at hp
          obtain ⟨ss, i1, i2, i3, i4⟩ := ih hp.2 (fun q hq => hf q (List.mem_cons_of_mem _ hq))
          obtain ⟨s, hs, hkl⟩ := hf p List.mem_cons_self
          refine ⟨s :: ss, by simp [i1], List.nodup_cons.2 ⟨fun hm => ?_, i2⟩, fun x hx => ?_, fun x hx => ?_⟩
          · obtain ⟨q, hq, hkq⟩ := i4 s hm
            exact hp.1 q hq (hkl.one hkq)
          · rcases List.mem_cons.1 hx with rfl | hx
            · exact hs
            · exact i3 x hx
          · rcases List.mem_cons.1 hx with rfl | hx
            · exact ⟨p, List.mem_cons_self, hkl⟩
            · obtain ⟨q, hq, h⟩ := i4 x hx
              exact ⟨q, List.mem_cons_of_mem _ hq, h⟩
      obtain ⟨ss, i1, i2, i3, _⟩ := gen es hp hf
      rw [← i1]
      exact i2.length_le_of_subset i3
    obtain ⟨es', clock, hb, F', hs, hD'⟩ := h1
    refine ⟨es', clock, hb, F', ?_, hD'⟩
    rw [hD', size_eq, length_sorted] at hsz
    simpa using hsz
  · obtain ⟨s, hs, hk⟩ := h2 l hl
    exact ⟨s, (he s).1 hs, hk⟩
theorem zeroBool (w : World) : (zeroValue 4).run Try.prog w = .ok (.bool false) w := by kernel_rfl
set_option maxRecDepth 100000 in
theorem SetM.look {w : World} {b : Nat} {V : List St} (h : SetM w b V) {s : St} (hs : StOk s) (x : Bool) (hx : x = true ↔ s ∈ V) :
    (Instr.lookup 72 (.map (some b)) (.agg (stCells s)) false).run Try.prog w = .ok (.bool x) w := by
  obtain ⟨D, h1, h2, h3⟩ := h
  obtain ⟨l, hl⟩ := KL.of hs
  obtain ⟨v, ps, hrun, hr⟩ := h1.lookup kS Try.underlying72 (zeroBool w) (zd := FalseD) (zp := []) (plainElem_bool Try.underlying4 false) hl
  rw [hrun]
  have hD : D.atKey l FalseD = .lit (.bool x) := by
    cases x with
    | true => exact ((h3 s (hx.1 rfl)).2 l hl).2
    | false =>
      refine atKey_of_not_has (Bool.eq_false_iff.2 (fun hh => ?_)) _
      obtain ⟨s', hs', hk⟩ := h2 l hh
      have := hx.2 (by rw [hl.inj hk]; exact hs')
      cases this
  rw [hD] at hr
  unfold plainElem at hr
  rw [Try.underlying4] at hr
  cases v <;> simp at hr
  rw [hr.1]
set_option maxRecDepth 100000 in
theorem SetM.put {w : World} {b : Nat} {V : List St} (h : SetM w b V) {s : St} (hs : StOk s) (hn : V.length < maxLen) :
    ∃ w', (Instr.mapUpdate 72 (.map (some b)) (.agg (stCells s)) (.bool true)).run Try.prog w = .ok () w' ∧ SetM w' b (s :: V) ∧ w.grownBy w' (some b) := by
  obtain ⟨D, h1, h2, h3⟩ := h
  obtain ⟨l, hl⟩ := KL.of hs
  have hM := h1.isMap
  obtain ⟨w', hrun, ho, hg⟩ := h1.update kS Try.underlying72 hn hl (plainElem_bool (H := Unit) Try.underlying4 true)
  refine ⟨w', hrun, ⟨_, ho, fun l' h' => ?_, fun s' hs' => ?_⟩, hg⟩
  · by_cases e : l' = l
    · subst e; exact ⟨s, List.mem_cons_self, hl⟩
    · rw [has_put_other e] at h'
      obtain ⟨s', hs', hk⟩ := h2 l' h'
      exact ⟨s', List.mem_cons_of_mem _ hs', hk⟩
  · by_cases e : s' = s
    · subst e
      refine ⟨hs, fun l' hl' => ?_⟩
      obtain rfl := hl'.one hl
      exact ⟨has_put_same hM hl.key _, atKey_put_same hM hl.key _ _⟩
    · have hm : s' ∈ V := by rcases List.mem_cons.1 hs' with h | h; exact absurd h e; exact h
      refine ⟨(h3 s' hm).1, fun l' hl' => ?_⟩
      have hne : l' ≠ l := fun e2 => e (by subst e2; exact hl'.inj hl)
      rw [has_put_other hne, atKey_put_other hne]
      exact (h3 s' hm).2 l' hl'
theorem wpList_put_st {ops : Array Oper} {rest : List Oper} {o : Oper} {a : Act} {w : World} {Q : Exit → Act → World → Prop} (hg : o.guard = none) (m x v : Operand) (ho : o.op = .mapUpdate 72 m x v) (b : Nat) (V : List St) (s : St)
    (hm : a.eval m = .map (some b)) (hx : a.eval x = .agg (stCells s)) (hv : a.eval v = .bool true) (h : SetM w b V) (hs : StOk s) (hn : V.length < maxLen)
    (hK : ∀ w', SetM w' b (s :: V) → w.grownBy w' (some b) → wpList Try.prog ops Q rest (a.put o.dst undef) w') : wpList Try.prog ops Q (o :: rest) a w := by
  refine wpList_plain hg fun K' hK' => ?_
  obtain ⟨w', hrun, r1, r2⟩ := h.put hs hn
  unfold Oper.wp
  simp [execOp, ho, hm, hx, hv, hrun, Result.andThen]
  exact hK' _ _ (hK w' r1 r2)
theorem wpList_look_st {ops : Array Oper} {rest : List Oper} {o : Oper} {a : Act} {w : World} {Q : Exit → Act → World → Prop} (hg : o.guard = none) (m x : Operand) (ho : o.op = .lookup 72 m x false) (b : Nat) (V : List St) (s : St) (y : Bool)
    (hm : a.eval m = .map (some b)) (hx : a.eval x = .agg (stCells s)) (h : SetM w b V) (hs : StOk s) (hy : y = true ↔ s ∈ V)
    (hK : wpList Try.prog ops Q rest (a.put o.dst (.bool y)) w) : wpList Try.prog ops Q (o :: rest) a w := by
  refine wpList_plain hg fun K' hK' => ?_
  unfold Oper.wp
  simp [execOp, ho, hm, hx, h.look hs y hy, Result.andThen]
  exact hK' _ _ hK
end Go.Proofs.Ytdmcakoaakinnaa
