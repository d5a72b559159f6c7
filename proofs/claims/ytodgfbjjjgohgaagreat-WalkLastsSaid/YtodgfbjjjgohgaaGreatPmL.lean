/-
 THE MEMORY IN MEMORY (pmem.Mem); its small methods: there, at, Load, Size, Stats, may.
-/
import Derived.Test.YtodgfbjjjgohgaaGreatLiftL
import Derived.Test.YtodgfbjjjgohgaaGreatKcL
import Derived.OneCell
namespace Go.Proofs.YtodgfbjjjgohgaaGreat
open Go.RowKit
set_option linter.unusedVariables false

def memCells (vv vi : Value) (ml : Nat) (lo st fl fe : Int) : Array Value := #[vv, vi, .map (some ml), .int .u64 lo, .int .u64 st, .int .u64 fl, .int .u64 fe]
structure MemB (w : World) (b : Nat) (vs is : List Int) (vv vi : Value) (ml : Nat) (lo st fl fe : Int) : Prop where
 blk : Blk w b (memCells vv vi ml lo st fl fe) 92
 v : w.ownsRow 0 25 1 vv vs.length (vs.map (Value.int .u64))
 i : w.ownsRow 0 25 1 vi is.length (is.map (Value.int .u64))
def MS (b : Nat) (vv vi : Value) : Nat -> Prop := fun k => k = b ∨ vv.ownBlock = some k ∨ vi.ownBlock = some k
theorem own_keeps {S : Nat -> Prop} {w w' : World} {B k : Nat} {e : TypeId} {v : Value} {n : Nat} {xs : List Value} (h : w.ownsRow B e k v n xs) (hk : Keeps S w w') (hs : ∀ i, v.ownBlock = some i -> ¬ S i) : w'.ownsRow B e k v n xs := by
 obtain ⟨hl, h0 | ⟨g, cap, cur, hv, hg, hh, h1⟩⟩ := h
 ·exact ⟨hl, .inl h0⟩
 ·refine ⟨hl, .inr ⟨g, cap, cur, hv, hg, ?_, h1⟩⟩
  rw [hk.block g (Array.getElem?_eq_some_iff.1 hh).1 (hs g (by rw [hv]; rfl))]; exact hh
theorem own_type {w : World} {B k : Nat} {e : TypeId} {v : Value} {n : Nat} {xs : List Value} (h : w.ownsRow B e k v n xs) {i : Nat} (hi : v.ownBlock = some i) : ∃ C : Array Value, w.heap[i]? = some (.cells C e (0, 0)) := by
 obtain ⟨hl, ⟨rfl, _⟩ | ⟨g, cap, cur, rfl, hg, hh, h1⟩⟩ := h
 ·cases hi
 ·cases hi; exact ⟨cur, hh⟩
theorem own_form {w : World} {B k : Nat} {e : TypeId} {v : Value} {q : Nat} {xs : List Value} (h : w.ownsRow B e k v q xs) : ∃ a c, v = .slice a q c := by
 obtain ⟨_, ⟨rfl, rfl⟩ | ⟨g, cap, cur, rfl, _⟩⟩ := h <;> exact ⟨_, _, rfl⟩
theorem ev_tmp {a : Act} {s : Nat} {v : Value} (h : a.tmps[s]?.getD undef = v) : a.eval (.tmp s) = v := by simpa [Act.eval] using h
section
variable {w w' : World} {b : Nat} {vs is : List Int} {vv vi : Value} {ml : Nat} {lo st fl fe : Int}
theorem MemB.kept {S : Nat -> Prop} (h : MemB w b vs is vv vi ml lo st fl fe) (hk : Keeps S w w') (hs : ∀ i, MS b vv vi i -> ¬ S i) : MemB w' b vs is vv vi ml lo st fl fe :=
 ⟨h.blk.kept hk (hs b (.inl rfl)), own_keeps h.v hk (fun i e => hs i (.inr (.inl e))), own_keeps h.i hk (fun i e => hs i (.inr (.inr e)))⟩
theorem MemB.keptN (h : MemB w b vs is vv vi ml lo st fl fe) (hk : Keeps NoB w w') : MemB w' b vs is vv vi ml lo st fl fe := h.kept hk (fun _ _ h => h)
theorem MemB.below (h : MemB w b vs is vv vi ml lo st fl fe) (hB : Below w.heap.size w w') : MemB w' b vs is vv vi ml lo st fl fe := h.keptN (Keeps.of_below' hB)
theorem MemB.c (h : MemB w b vs is vv vi ml lo st fl fe) (j : Nat) : w.cell? ⟨b, j, none⟩ = (memCells vv vi ml lo st fl fe)[j]? := h.blk.cell j
theorem MemB.ne (h : MemB w b vs is vv vi ml lo st fl fe) : vv.ownBlock ≠ some b /\ vi.ownBlock ≠ some b := by
 have hb := h.blk
 unfold Blk at hb
 exact ⟨(fun e => by obtain ⟨C, hC⟩ := own_type h.v e; rw [hb] at hC; cases hC), (fun e => by obtain ⟨C, hC⟩ := own_type h.i e; rw [hb] at hC; cases hC)⟩
theorem MemB.at (h : MemB w b vs is vv vi ml lo st fl fe) {k : Nat} (hk : k < vs.length) : ∃ g c, vv = .slice (some ⟨g, 0, none⟩) vs.length c /\ g < w.heap.size /\ vs.length <= maxLen /\ w.cell? ⟨g, k, none⟩ = some (.int .u64 (vs.getD k 0)) := by
 obtain ⟨g, cap, h1, _, h3, h4, h5, _, h7, _⟩ := own_shapeK h.v (by omega)
 refine ⟨g, cap, h1, h3, Nat.le_trans h4 h5, ?_⟩
 rw [h7 k (by omega)]; simp [hk]
theorem MemB.load (h : MemB w b vs is vv vi ml lo st fl fe) (x : Int) : MemB (w.setCell ⟨b, 3, none⟩ (.int .u64 x)) b vs is vv vi ml x st fl fe /\ Keeps (fun k => k = b) w (w.setCell ⟨b, 3, none⟩ (.int .u64 x)) := by
 refine ⟨⟨?_, ownsRow_setCell_other h.v h.ne.1 _, ownsRow_setCell_other h.i h.ne.2 _⟩, (Keeps.refl (fun k => k = b) w).setCell (p := ⟨b, 3, none⟩) (.inl rfl) _⟩
 have := h.blk.set 3 (.int .u64 x)
 exact this
end
section
variable {P : Program}
theorem run_loadVar_part (w : World) (g off : Nat) (ty : TypeId) (cs : Array Value) (d : TypeDesc) (hc : ∀ j v, cs[j]? = some v -> w.cell? ⟨g, off + j, none⟩ = some v)
  (hu : P.underlying ty = some d) (hd : (match d with | .struct _ | .array _ _ => true | _ => false) = true) (hi : (P.info? ty).map (·.size) = some cs.size) :
  (loadVar ty ⟨g, off, none⟩).run P w = .ok (.agg cs) w := by
 have hl : (loadCells ⟨g, off, none⟩ cs.toList.length).run P w = .ok cs.toList.toArray w :=
  run_loadCells_list (P := P) w ⟨g, off, none⟩ cs.toList (fun j v hv => by
   have hadd : (⟨g, off, none⟩ : Addr).add j = ⟨g, off + j, none⟩ := by unfold Addr.add; split <;> simp_all
   rw [hadd]
   exact hc j v (by simpa using hv))
 cases hq : P.info? ty with
 | none => simp [hq] at hi
 | some i =>
  rw [hq] at hi
  simp at hi
  have hs : (sizeOf ty).run P w = .ok cs.size w := by simp [sizeOf, typeInfo, hq, hi]
  have ha : (isAgg ty).run P w = .ok true w := by
   simp only [isAgg, Sem.run_bind, run_underlying hu, Result.andThen_ok]
   cases d <;> simp_all
  simp at hl
  simp [loadVar, ha, hs, hl, Result.andThen]
end
theorem results_stats {fn : Func} {w : World} {s : Nat} (hr : fn.results = #[.cell s 75]) (tmps : Array Value) (g : Nat) (lo st fl fe : Int) (hs : tmps.getD s undef = .pointer (some ⟨g, 0, none⟩)) (h : Blk w g #[.int .u64 lo, .int .u64 st, .int .u64 fl, .int .u64 fe] 75) :
  (results fn tmps).run Tryz.prog w = .ok (.agg #[.int .u64 lo, .int .u64 st, .int .u64 fl, .int .u64 fe]) w := by
 have hl := run_loadVar_part (P := Tryz.prog) w g 0 75 #[.int .u64 lo, .int .u64 st, .int .u64 fl, .int .u64 fe] _ (fun j v hv => by rw [Nat.zero_add, h.cell]; exact hv) Tryz.underlying75 rfl (by kernel_rfl)
 have hs' : tmps[s]?.getD undef = .pointer (some ⟨g, 0, none⟩) := by rw [<- hs]; simp
 simp [results, hr, hs', asAddr, hl]
theorem mthere_v (w : World) (b : Nat) (vs is : List Int) (vv vi : Value) (ml : Nat) (lo st fl fe : Int) (h : MemB w b vs is vv vi ml lo st fl fe) (hp : 0 < vs.length) :
  Calls Tryz.prog 29 #[.pointer (some ⟨b, 0, none⟩)] w fun e w' => e = .returned (.bool true) /\ w = w' := by
 obtain ⟨a, c, rfl⟩ := own_form h.v
 have c0 : w.cell? ⟨b, 0, none⟩ = some (.slice a vs.length c) := h.c 0
 have b1 : (0 : Int) < (vs.length : Int) := by omega
 clear h
 go_enter Tryz.func29, Tryz.ntmps29
 go_wp2_with (fail)
 go_ret
 exact ⟨rfl, rfl⟩
def atE (n : Nat) (a : Int) : Int := if a % 8 ≠ 0 ∨ (n : Int) <= a / 8 then 3 else 0
theorem mat_v (w : World) (b : Nat) (vs is : List Int) (vv vi : Value) (ml : Nat) (lo st fl fe : Int) (h : MemB w b vs is vv vi ml lo st fl fe) (hp : 0 < vs.length) (hn : vs.length <= 1000000) (a : Int) (h0 : 0 <= a) (h1 : a <= 18446744073709551615) :
  Calls Tryz.prog 27 #[.pointer (some ⟨b, 0, none⟩), .int .u64 a] w fun e w' => e = .returned (.int .i64 (atE vs.length a)) /\ w = w' := by
 have HTh := Lib.hid (mthere_v w b vs is vv vi ml lo st fl fe h hp)
 obtain ⟨av, c, rfl⟩ := own_form h.v
 have c0 : w.cell? ⟨b, 0, none⟩ = some (.slice av vs.length c) := h.c 0
 clear h
 by_cases hm : a % 8 = 0
 ·have e1 : (a % 8 == 0) = true := beq_iff_eq.2 hm
  have e1' : (a % 8 != 0) = false := by rw [bne, e1]; rfl
  by_cases hl : (vs.length : Int) <= a / 8
  ·have HR := Lib.hid (show atE vs.length a = 3 by unfold atE; rw [if_pos (.inr hl)])
   have b1 : decide ((vs.length : Int) <= a / 8) = true := decide_eq_true hl
   clear hm
   go_enter Tryz.func27, Tryz.ntmps27
   go_wp2_with (fail)
   refine HTh.out.mono ?_
   rintro e w' ⟨rfl, rfl⟩
   go_wp2_with (fail)
   go_ret
   exact ⟨by rw [HR.out]; rfl, rfl⟩
  ·have HR := Lib.hid (show atE vs.length a = 0 by unfold atE; rw [if_neg (by omega)])
   have b1 : decide ((vs.length : Int) <= a / 8) = false := decide_eq_false hl
   clear hm
   go_enter Tryz.func27, Tryz.ntmps27
   go_wp2_with (fail)
   refine HTh.out.mono ?_
   rintro e w' ⟨rfl, rfl⟩
   go_wp2_with (fail)
   go_ret
   exact ⟨by rw [HR.out]; rfl, rfl⟩
 ·have HR := Lib.hid (show atE vs.length a = 3 by unfold atE; rw [if_pos (.inl hm)])
  have e1 : (a % 8 == 0) = false := beq_eq_false_iff_ne.2 hm
  have e1' : (a % 8 != 0) = true := bne_iff_ne.2 hm
  clear hm
  go_enter Tryz.func27, Tryz.ntmps27
  go_wp2_with (fail)
  refine HTh.out.mono ?_
  rintro e w' ⟨rfl, rfl⟩
  go_wp2_with (fail)
  go_ret
  exact ⟨by rw [HR.out]; rfl, rfl⟩
theorem mload_no (w : World) (b : Nat) (vs is : List Int) (vv vi : Value) (ml : Nat) (lo st fl fe : Int) (h : MemB w b vs is vv vi ml lo st fl fe) (hp : 0 < vs.length) (hn : vs.length <= 1000000) (a : Int) (h0 : 0 <= a) (h1 : a <= 18446744073709551615) (he : atE vs.length a = 3) :
  Calls Tryz.prog 52 #[.pointer (some ⟨b, 0, none⟩), .int .u64 a] w fun e w' => e = .returned (.tuple #[.int .u64 0, .int .i64 3]) /\ w = w' := by
 have HA := Lib.hid (mat_v w b vs is vv vi ml lo st fl fe h hp hn a h0 h1)
 rw [he] at HA
 clear h
 go_enter Tryz.func52, Tryz.ntmps52
 go_wp2_with (fail)
 refine HA.out.mono ?_
 rintro e w' ⟨rfl, rfl⟩
 go_wp2_with (fail)
 go_ret2
 exact ⟨rfl, rfl⟩
theorem atE_zero {n : Nat} {a : Int} (h : atE n a = 0) : a % 8 = 0 /\ a / 8 < (n : Int) := by
 unfold atE at h
 split at h
 ·cases h
 ·omega
theorem atE_or (n : Nat) (a : Int) : atE n a = 0 ∨ atE n a = 3 := by
 unfold atE; split
 ·exact .inr rfl
 ·exact .inl rfl
theorem mload_yes (w : World) (b : Nat) (vs is : List Int) (vv vi : Value) (ml : Nat) (lo st fl fe : Int) (h : MemB w b vs is vv vi ml lo st fl fe) (hp : 0 < vs.length) (hn : vs.length <= 1000000) (a : Int) (h0 : 0 <= a) (h1 : a <= 18446744073709551615) (he : atE vs.length a = 0) :
  Calls Tryz.prog 52 #[.pointer (some ⟨b, 0, none⟩), .int .u64 a] w fun e w' => e = .returned (.tuple #[.int .u64 (vs.getD (a / 8).toNat 0), .int .i64 0]) /\ MemB w' b vs is vv vi ml (IntKind.u64.wrap (lo + 1)) st fl fe /\ Keeps (fun k => k = b) w w' := by
 have HA := Lib.hid (mat_v w b vs is vv vi ml lo st fl fe h hp hn a h0 h1)
 rw [he] at HA
 obtain ⟨m1, m2⟩ := atE_zero he
 obtain ⟨g, c, rfl, hg, hm, d0⟩ := h.at (k := (a / 8).toNat) (by omega)
 have c0 : w.cell? ⟨b, 0, none⟩ = some (.slice (some ⟨g, 0, none⟩) vs.length c) := h.c 0
 have c3 : w.cell? ⟨b, 3, none⟩ = some (.int .u64 lo) := h.c 3
 have f3 : w.frozen? ⟨b, 3, none⟩ = false := h.blk.frozen 3
 have hgb : g ≠ b := fun e => h.ne.1 (by rw [<- e]; rfl)
 have HL := Lib.hid (h.load (IntKind.u64.wrap (lo + 1)))
 have b1 : (0 : Int) <= a / 8 := by omega
 obtain ⟨x, hx⟩ : ∃ x, vs.getD (a / 8).toNat 0 = x := ⟨_, rfl⟩
 rw [hx] at d0 ⊢
 unfold maxLen at hm
 clear h he hx
 go_enter Tryz.func52, Tryz.ntmps52
 go_wp2_with (fail)
 refine HA.out.mono ?_
 rintro e w' ⟨rfl, rfl⟩
 go_wp2_with (fail)
 go_ret2
 exact ⟨rfl, HL.out.1, HL.out.2⟩
theorem msize_v (w : World) (b : Nat) (vs is : List Int) (vv vi : Value) (ml : Nat) (lo st fl fe : Int) (h : MemB w b vs is vv vi ml lo st fl fe) (hp : 0 < vs.length) (hn : vs.length <= 1000000) :
  Calls Tryz.prog 48 #[.pointer (some ⟨b, 0, none⟩)] w fun e w' => e = .returned (.int .i64 (8 * (vs.length : Int))) /\ w = w' := by
 have HTh := Lib.hid (mthere_v w b vs is vv vi ml lo st fl fe h hp)
 obtain ⟨av, c, rfl⟩ := own_form h.v
 have c0 : w.cell? ⟨b, 0, none⟩ = some (.slice av vs.length c) := h.c 0
 clear h
 go_enter Tryz.func48, Tryz.ntmps48
 go_wp2_with (fail)
 refine HTh.out.mono ?_
 rintro e w' ⟨rfl, rfl⟩
 go_wp2_with (fail)
 go_ret
 exact ⟨rfl, rfl⟩
def statCells (lo st fl fe : Int) : Array Value := #[.int .u64 lo, .int .u64 st, .int .u64 fl, .int .u64 fe]
theorem mstats_v (w : World) (b : Nat) (vs is : List Int) (vv vi : Value) (ml : Nat) (lo st fl fe : Int) (h : MemB w b vs is vv vi ml lo st fl fe) (hp : 0 < vs.length) :
  Calls Tryz.prog 20 #[.pointer (some ⟨b, 0, none⟩)] w fun e w' => e = .returned (.agg (statCells lo st fl fe)) /\ Below w.heap.size w w' := by
 have hB : Below w.heap.size w (w.alloc (.cells (statCells 0 0 0 0) 75)) := (Below.refl _ _).alloc (Nat.le_refl _) _
 have HTh := Lib.hid (mthere_v _ b vs is vv vi ml lo st fl fe (h.below hB) hp)
 have c3 : w.cell? ⟨b, 3, none⟩ = some (.int .u64 lo) := h.c 3
 have c4 : w.cell? ⟨b, 4, none⟩ = some (.int .u64 st) := h.c 4
 have c5 : w.cell? ⟨b, 5, none⟩ = some (.int .u64 fl) := h.c 5
 have c6 : w.cell? ⟨b, 6, none⟩ = some (.int .u64 fe) := h.c 6
 have hlt := h.blk.lt
 clear h
 unfold statCells at *
 go_enter Tryz.func20, Tryz.ntmps20
 go_wp2_with (fail)
 refine HTh.out.mono ?_
 rintro e w' ⟨rfl, h9⟩
 subst h9
 go_wp2_with (fail)
 exact bodyPost_ret (results_stats rfl _ w.heap.size lo st fl fe rfl (Blk.new w _ _)) rfl ⟨rfl, (Below.refl _ _).alloc (Nat.le_refl _) _⟩
def mayB (n : Nat) : Bool := decide (64 <= n /\ n <= 1048576 /\ n % 64 = 0)
theorem mmay_v (w : World) (n : Nat) : Calls Tryz.prog 34 #[.int .i64 n] w fun e w' => e = .returned (.bool (mayB n)) /\ w = w' := by
 by_cases h1 : (64 : Int) <= (n : Int)
 ·by_cases h2 : (n : Int) <= 1048576
  ·by_cases h3 : (n : Int) % 64 = 0
   ·have HR := Lib.hid (show mayB n = true from decide_eq_true ⟨by omega, by omega, by omega⟩)
    have e1 : ((n : Int) % 64 == 0) = true := beq_iff_eq.2 h3
    clear h3
    go_enter Tryz.func34, Tryz.ntmps34
    go_wp2_with (fail)
    go_ret
    exact ⟨by rw [HR.out]; rfl, rfl⟩
   ·have HR := Lib.hid (show mayB n = false from decide_eq_false (by omega))
    have e1 : ((n : Int) % 64 == 0) = false := beq_eq_false_iff_ne.2 h3
    clear h3
    go_enter Tryz.func34, Tryz.ntmps34
    go_wp2_with (fail)
    go_ret
    exact ⟨by rw [HR.out]; rfl, rfl⟩
  ·have HR := Lib.hid (show mayB n = false from decide_eq_false (by omega))
   go_enter Tryz.func34, Tryz.ntmps34
   go_wp2_with (fail)
   go_ret
   exact ⟨by rw [HR.out]; rfl, rfl⟩
 ·have HR := Lib.hid (show mayB n = false from decide_eq_false (by omega))
  go_enter Tryz.func34, Tryz.ntmps34
  go_wp2_with (fail)
  go_ret
  exact ⟨by rw [HR.out]; rfl, rfl⟩
end Go.Proofs.YtodgfbjjjgohgaaGreat
