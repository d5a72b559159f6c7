/-
  leveelaw28's put, get, explained; slices of calls, pairs, eras that a law writes out.
-/
import Derived.Test.YtdmcakoaakinnaaQs
namespace Go.Proofs.Ytdmcakoaakinnaa
open Go.RowKit
attribute [local go_sem] Oper.semAt_some
set_option linter.unusedVariables false
set_option linter.unusedSimpArgs false

def pcells (l : List Pr) : List Value := l.flatMap fun d => (prCells d).toList
def ecellsE (l : List Er) : List Value := l.flatMap fun d => (erCells d).toList
theorem pcells_get : ∀ (l : List Pr) (i j : Nat), i < l.length → j < 2 → (pcells l)[i * 2 + j]? = (prCells (l.getD i prZ))[j]?
  | d :: r, 0, j, _, hj => by
    show ((prCells d).toList ++ pcells r)[0 * 2 + j]? = _
    rw [List.getElem?_append_left (by show 0 * 2 + j < 2; omega), Nat.zero_mul, Nat.zero_add]
    rw [Array.getElem?_toList]
    rfl
  | d :: r, i + 1, j, hi, hj => by
    show ((prCells d).toList ++ pcells r)[(i + 1) * 2 + j]? = _
    rw [List.getElem?_append_right (by show 2 ≤ _; omega), show (i + 1) * 2 + j - (prCells d).toList.length = i * 2 + j from by show (i + 1) * 2 + j - 2 = _; omega]
    rw [pcells_get r i j (by simpa using hi) hj]
    rfl
theorem ecellsE_get : ∀ (l : List Er) (i j : Nat), i < l.length → j < 3 → (ecellsE l)[i * 3 + j]? = (erCells (l.getD i erZ))[j]?
  | d :: r, 0, j, _, hj => by
    show ((erCells d).toList ++ ecellsE r)[0 * 3 + j]? = _
    rw [List.getElem?_append_left (by show 0 * 3 + j < 3; omega), Nat.zero_mul, Nat.zero_add]
    rw [Array.getElem?_toList]
    rfl
  | d :: r, i + 1, j, hi, hj => by
    show ((erCells d).toList ++ ecellsE r)[(i + 1) * 3 + j]? = _
    rw [List.getElem?_append_right (by show 3 ≤ _; omega), show (i + 1) * 3 + j - (erCells d).toList.length = i * 3 + j from by show (i + 1) * 3 + j - 3 = _; omega]
    rw [ecellsE_get r i j (by simpa using hi) hj]
    rfl
theorem blk_prs {w : World} {b : Nat} {l : List Pr} {t : TypeId} (h : Blk w b (pcells l).toArray t) : PrsAt w (some ⟨b, 0, none⟩) l := fun _ =>
  ⟨b, 0, rfl, h.lt, fun i hi j hj => by rw [h.cell, Nat.zero_add, ← pcells_get l i j hi hj]; simp⟩
theorem blk_dns {w : World} {b : Nat} {l : List Dn} {t : TypeId} (h : Blk w b (dcells l).toArray t) (hp : ∀ d ∈ l, PrsAt w d.pa d.ps) : DnsAt w (some ⟨b, 0, none⟩) l :=
  ⟨fun _ => ⟨b, 0, rfl, h.lt, fun i hi j hj => by rw [h.cell, Nat.zero_add, ← dcells_get l i j hi hj]; simp⟩, hp⟩
theorem blk_ers {w : World} {b : Nat} {l : List Er} {t : TypeId} (h : Blk w b (ecellsE l).toArray t) (hp : ∀ e ∈ l, DnsAt w e.ca e.cs ∧ PrsAt w e.aa e.af) : ErsAt w (some ⟨b, 0, none⟩) l :=
  ⟨fun _ => ⟨b, 0, rfl, h.lt, fun i hi j hj => by rw [h.cell, Nat.zero_add, ← ecellsE_get l i j hi hj]; simp⟩, hp⟩
theorem run_bs1_dn (d : Dn) (w : World) : (Instr.buildSlice 44 1 #[(0, .agg (dnCells d))]).run Try.prog w = .ok (.slice (some ⟨w.heap.size, 0, none⟩) 1 1) (w.alloc (.cells (dcells [d]).toArray 53)) := by kernel_rfl
theorem wpList_bs1_dn {ops : Array Oper} {rest : List Oper} {o : Oper} {a : Act} {w : World} {Q : Exit → Act → World → Prop} (h1 : o.guard = none) (x : Operand) (ho : o.op = .buildSlice 44 1 #[(0, x)]) (d : Dn) (hx : a.eval x = .agg (dnCells d))
    (h : wpList Try.prog ops Q rest (a.put o.dst (.slice (some ⟨w.heap.size, 0, none⟩) 1 1)) (w.alloc (.cells (dcells [d]).toArray 53))) : wpList Try.prog ops Q (o :: rest) a w := by
  refine wpList_plain h1 fun K hK => ?_
  unfold Oper.wp execOp
  simp only [ho, List.map_toArray, List.map_cons, List.map_nil, hx, Sem.run_bind, run_bs1_dn, Result.andThen_ok, Sem.run_pure]
  exact hK _ _ h
theorem run_bs2_dn (d d2 : Dn) (w : World) : (Instr.buildSlice 44 2 #[(0, .agg (dnCells d)), (1, .agg (dnCells d2))]).run Try.prog w = .ok (.slice (some ⟨w.heap.size, 0, none⟩) 2 2) (w.alloc (.cells (dcells [d, d2]).toArray 53)) := by kernel_rfl
theorem wpList_bs2_dn {ops : Array Oper} {rest : List Oper} {o : Oper} {a : Act} {w : World} {Q : Exit → Act → World → Prop} (h1 : o.guard = none) (x y : Operand) (ho : o.op = .buildSlice 44 2 #[(0, x), (1, y)]) (d d2 : Dn) (hx : a.eval x = .agg (dnCells d)) (hy : a.eval y = .agg (dnCells d2))
    (h : wpList Try.prog ops Q rest (a.put o.dst (.slice (some ⟨w.heap.size, 0, none⟩) 2 2)) (w.alloc (.cells (dcells [d, d2]).toArray 53))) : wpList Try.prog ops Q (o :: rest) a w := by
  refine wpList_plain h1 fun K hK => ?_
  unfold Oper.wp execOp
  simp only [ho, List.map_toArray, List.map_cons, List.map_nil, hx, hy, Sem.run_bind, run_bs2_dn, Result.andThen_ok, Sem.run_pure]
  exact hK _ _ h
theorem run_bs1_pr (d : Pr) (w : World) : (Instr.buildSlice 22 1 #[(0, .agg (prCells d))]).run Try.prog w = .ok (.slice (some ⟨w.heap.size, 0, none⟩) 1 1) (w.alloc (.cells (pcells [d]).toArray 59)) := by kernel_rfl
theorem wpList_bs1_pr {ops : Array Oper} {rest : List Oper} {o : Oper} {a : Act} {w : World} {Q : Exit → Act → World → Prop} (h1 : o.guard = none) (x : Operand) (ho : o.op = .buildSlice 22 1 #[(0, x)]) (d : Pr) (hx : a.eval x = .agg (prCells d))
    (h : wpList Try.prog ops Q rest (a.put o.dst (.slice (some ⟨w.heap.size, 0, none⟩) 1 1)) (w.alloc (.cells (pcells [d]).toArray 59))) : wpList Try.prog ops Q (o :: rest) a w := by
  refine wpList_plain h1 fun K hK => ?_
  unfold Oper.wp execOp
  simp only [ho, List.map_toArray, List.map_cons, List.map_nil, hx, Sem.run_bind, run_bs1_pr, Result.andThen_ok, Sem.run_pure]
  exact hK _ _ h
theorem run_bs2_pr (d d2 : Pr) (w : World) : (Instr.buildSlice 22 2 #[(0, .agg (prCells d)), (1, .agg (prCells d2))]).run Try.prog w = .ok (.slice (some ⟨w.heap.size, 0, none⟩) 2 2) (w.alloc (.cells (pcells [d, d2]).toArray 59)) := by kernel_rfl
theorem wpList_bs2_pr {ops : Array Oper} {rest : List Oper} {o : Oper} {a : Act} {w : World} {Q : Exit → Act → World → Prop} (h1 : o.guard = none) (x y : Operand) (ho : o.op = .buildSlice 22 2 #[(0, x), (1, y)]) (d d2 : Pr) (hx : a.eval x = .agg (prCells d)) (hy : a.eval y = .agg (prCells d2))
    (h : wpList Try.prog ops Q rest (a.put o.dst (.slice (some ⟨w.heap.size, 0, none⟩) 2 2)) (w.alloc (.cells (pcells [d, d2]).toArray 59))) : wpList Try.prog ops Q (o :: rest) a w := by
  refine wpList_plain h1 fun K hK => ?_
  unfold Oper.wp execOp
  simp only [ho, List.map_toArray, List.map_cons, List.map_nil, hx, hy, Sem.run_bind, run_bs2_pr, Result.andThen_ok, Sem.run_pure]
  exact hK _ _ h
theorem run_bs1_er (d : Er) (w : World) : (Instr.buildSlice 23 1 #[(0, .agg (erCells d))]).run Try.prog w = .ok (.slice (some ⟨w.heap.size, 0, none⟩) 1 1) (w.alloc (.cells (ecellsE [d]).toArray 46)) := by kernel_rfl
theorem wpList_bs1_er {ops : Array Oper} {rest : List Oper} {o : Oper} {a : Act} {w : World} {Q : Exit → Act → World → Prop} (h1 : o.guard = none) (x : Operand) (ho : o.op = .buildSlice 23 1 #[(0, x)]) (d : Er) (hx : a.eval x = .agg (erCells d))
    (h : wpList Try.prog ops Q rest (a.put o.dst (.slice (some ⟨w.heap.size, 0, none⟩) 1 1)) (w.alloc (.cells (ecellsE [d]).toArray 46))) : wpList Try.prog ops Q (o :: rest) a w := by
  refine wpList_plain h1 fun K hK => ?_
  unfold Oper.wp execOp
  simp only [ho, List.map_toArray, List.map_cons, List.map_nil, hx, Sem.run_bind, run_bs1_er, Result.andThen_ok, Sem.run_pure]
  exact hK _ _ h
theorem run_bs2_er (d d2 : Er) (w : World) : (Instr.buildSlice 23 2 #[(0, .agg (erCells d)), (1, .agg (erCells d2))]).run Try.prog w = .ok (.slice (some ⟨w.heap.size, 0, none⟩) 2 2) (w.alloc (.cells (ecellsE [d, d2]).toArray 46)) := by kernel_rfl
theorem wpList_bs2_er {ops : Array Oper} {rest : List Oper} {o : Oper} {a : Act} {w : World} {Q : Exit → Act → World → Prop} (h1 : o.guard = none) (x y : Operand) (ho : o.op = .buildSlice 23 2 #[(0, x), (1, y)]) (d d2 : Er) (hx : a.eval x = .agg (erCells d)) (hy : a.eval y = .agg (erCells d2))
    (h : wpList Try.prog ops Q rest (a.put o.dst (.slice (some ⟨w.heap.size, 0, none⟩) 2 2)) (w.alloc (.cells (ecellsE [d, d2]).toArray 46))) : wpList Try.prog ops Q (o :: rest) a w := by
  refine wpList_plain h1 fun K hK => ?_
  unfold Oper.wp execOp
  simp only [ho, List.map_toArray, List.map_cons, List.map_nil, hx, hy, Sem.run_bind, run_bs2_er, Result.andThen_ok, Sem.run_pure]
  exact hK _ _ h
theorem run_bs3_dn (d d2 d3 : Dn) (w : World) : (Instr.buildSlice 44 3 #[(0, .agg (dnCells d)), (1, .agg (dnCells d2)), (2, .agg (dnCells d3))]).run Try.prog w = .ok (.slice (some ⟨w.heap.size, 0, none⟩) 3 3) (w.alloc (.cells (dcells [d, d2, d3]).toArray 53)) := by kernel_rfl
theorem wpList_bs3_dn {ops : Array Oper} {rest : List Oper} {o : Oper} {a : Act} {w : World} {Q : Exit → Act → World → Prop} (h1 : o.guard = none) (x y z : Operand) (ho : o.op = .buildSlice 44 3 #[(0, x), (1, y), (2, z)]) (d d2 d3 : Dn) (hx : a.eval x = .agg (dnCells d)) (hy : a.eval y = .agg (dnCells d2)) (hz : a.eval z = .agg (dnCells d3))
    (h : wpList Try.prog ops Q rest (a.put o.dst (.slice (some ⟨w.heap.size, 0, none⟩) 3 3)) (w.alloc (.cells (dcells [d, d2, d3]).toArray 53))) : wpList Try.prog ops Q (o :: rest) a w := by
  refine wpList_plain h1 fun K hK => ?_
  unfold Oper.wp execOp
  simp only [ho, List.map_toArray, List.map_cons, List.map_nil, hx, hy, hz, Sem.run_bind, run_bs3_dn, Result.andThen_ok, Sem.run_pure]
  exact hK _ _ h
def putD (v : ByteArray) (f t : Int) : Dn := ⟨0, 1, 5, 0, 0, v, f, t, 0, ⟨#[]⟩, none, 0, []⟩
def getD5 (v : ByteArray) (f t : Int) (c : Int) : Dn := ⟨0, 2, 5, 0, 0, ⟨#[]⟩, f, t, c, v, none, 0, []⟩
set_option maxRecDepth 100000 in
theorem put_v (v : ByteArray) (f t : Int) (w : World) : Calls Try.prog 13 #[.string v, .int .i64 f, .int .i64 t] w fun e w' => e = .returned (.agg (dnCells (putD v f t))) ∧ Below w.heap.size w w' := by
  have HB := Lib.hid (Below.refl w.heap.size w)
  go_enter Try.func13, Try.ntmps13
  go_wp2_with (fail)
  exact bodyPost_ret (results_dn rfl _ w.heap.size (putD v f t) rfl (Blk.new w (dnCells (putD v f t)) 53)) rfl ⟨rfl, HB.out.alloc (Nat.le_refl _) _⟩
set_option maxRecDepth 100000 in
theorem getA_v (f t : Int) (w : World) : Calls Try.prog 16 #[.string ⟨#[97]⟩, .int .i64 f, .int .i64 t] w fun e w' => e = .returned (.agg (dnCells (getD5 ⟨#[97]⟩ f t 0))) ∧ Below w.heap.size w w' := by
  have HB := Lib.hid (Below.refl w.heap.size w)
  go_enter Try.func16, Try.ntmps16
  go_wp2_with (fail)
  exact bodyPost_ret (results_dn rfl _ w.heap.size (getD5 ⟨#[97]⟩ f t 0) rfl ((Blk.new w (dnCells (getD5 ⟨#[97]⟩ f t 0)) 53).alloc _)) rfl ⟨rfl, (HB.out.alloc (Nat.le_refl _) _).alloc (by simp) _⟩
set_option maxRecDepth 100000 in
theorem getE_v (f t : Int) (w : World) : Calls Try.prog 16 #[.string ⟨#[]⟩, .int .i64 f, .int .i64 t] w fun e w' => e = .returned (.agg (dnCells (getD5 ⟨#[]⟩ f t 5))) ∧ Below w.heap.size w w' := by
  have HB := Lib.hid (Below.refl w.heap.size w)
  go_enter Try.func16, Try.ntmps16
  go_wp2_with (fail)
  exact bodyPost_ret (results_dn rfl _ w.heap.size (getD5 ⟨#[]⟩ f t 5) rfl ((Blk.new w (dnCells (getD5 ⟨#[]⟩ f t 5)) 53).alloc _)) rfl ⟨rfl, (HB.out.alloc (Nat.le_refl _) _).alloc (by simp) _⟩
/-! ### which keys a history names -/
def namesC (d : Dn) : List Int := (if d.op = 1 ∨ d.op = 2 ∨ d.op = 3 then [d.key] else []) ++ (if d.op = 4 ∧ wholeP d = true then d.ps.map (·.key) else [])
def namesL (first : List Pr) (l : List Er) : List Int := first.map (·.key) ++ l.flatMap fun e => e.af.map (·.key) ++ e.cs.flatMap namesC
theorem namesC_iff (d : Dn) (a : Int) : a ∈ namesC d ↔ inCall d a := by
  unfold namesC inCall inKeys
  rw [List.mem_append]
  constructor
  · rintro (h | h)
    · split at h
      · rename_i ho
        exact .inl ⟨ho, (List.mem_singleton.1 h).symm⟩
      · cases h
    · split at h
      · rename_i ho
        obtain ⟨p, hp, e⟩ := List.mem_map.1 h
        exact .inr ⟨ho.1, ho.2, p, hp, e⟩
      · cases h
  · rintro (⟨h1, h2⟩ | ⟨h1, h2, p, hp, e⟩)
    · exact .inl (by rw [if_pos h1]; exact List.mem_singleton.2 h2.symm)
    · exact .inr (by rw [if_pos ⟨h1, h2⟩]; exact List.mem_map.2 ⟨p, hp, e⟩)
theorem named_iff (first : List Pr) (l : List Er) (a : Int) : named first l a ↔ a ∈ namesL first l := by
  unfold named namesL inEra inKeys
  rw [List.mem_append, List.mem_map, List.mem_flatMap]
  constructor
  · rintro (h | ⟨e, he, h | ⟨d, hd, h⟩⟩)
    · exact .inl h
    · exact .inr ⟨e, he, List.mem_append.2 (.inl (List.mem_map.2 h))⟩
    · exact .inr ⟨e, he, List.mem_append.2 (.inr (List.mem_flatMap.2 ⟨d, hd, (namesC_iff d a).2 h⟩))⟩
  · rintro (h | ⟨e, he, h⟩)
    · exact .inl h
    · rcases List.mem_append.1 h with h | h
      · exact .inr ⟨e, he, .inl (List.mem_map.1 h)⟩
      · obtain ⟨d, hd, h⟩ := List.mem_flatMap.1 h
        exact .inr ⟨e, he, .inr ⟨d, hd, (namesC_iff d a).1 h⟩⟩
theorem exp_yes {first : List Pr} {l : List Er} (hm : mayP first l = true) (hn : ∀ a, named first l a → keyE a first l = 0 ∧ KeyT a first l) (ht : (l.any fun e => e.cs.any tornP) = false) {b : Bool} {k er : Int} (h : ExP first l b k er) : b = true ∧ k = 0 ∧ er = 0 := by
  rcases h with ⟨h, _⟩ | ⟨_, ⟨a, h1, h2, _⟩ | ⟨a, h1, _, h2, _⟩ | ⟨_, h1, h2, h3⟩⟩
  · rw [hm] at h; cases h
  · exact absurd (hn a h1).1 h2
  · exact absurd (hn a h1).2 h2
  · rw [ht] at h1; exact ⟨h1, h2, h3⟩
theorem exp_no {first : List Pr} {l : List Er} {a : Int} (hm : mayP first l = true) (ha : named first l a) (he : ∀ a', named first l a' → keyE a' first l = 0) (hk : ¬ KeyT a first l) (hl : ∀ a', named first l a' → a' ≠ a → KeyT a' first l) {b : Bool} {k er : Int} (h : ExP first l b k er) : b = false ∧ k = a ∧ er = 0 := by
  rcases h with ⟨h, _⟩ | ⟨_, ⟨a', h1, h2, _⟩ | ⟨a', h1, _, h2, _, h3, h4, h5⟩ | ⟨h1, _⟩⟩
  · rw [hm] at h; cases h
  · exact absurd (he a' h1) h2
  · have : a' = a := by
      by_cases e : a' = a
      · exact e
      · exact absurd (hl a' h1 e) h2
    exact ⟨h3, by rw [h4, this], h5⟩
  · exact absurd (h1 a ha).2 hk
/-- a history that explained says yes of -/
structure YesH (l : List Er) : Prop where
  h : HistB [] l
  u : ∀ a, named [] l a → ∃ U, KeyB a [] l U
  y : ∀ b k er, ExP [] l b k er → b = true ∧ k = 0 ∧ er = 0
set_option maxRecDepth 100000 in
theorem explained_v (l : List Er) (a : Option Addr) (cap : Nat) (w : World) (hy : YesH l) (hE : ErsAt w a l) : Calls Try.prog 14 #[.slice a l.length cap] w fun e w' => e = .returned (.bool true) ∧ Below w.heap.size w w' := by
  have HX := Lib.hid (explains_v [] l none a 0 cap w hy.h hy.u (PrsAt.nil _ _) hE)
  have HY := Lib.hid hy.y
  clear hy hE
  go_enter Try.func14, Try.ntmps14
  go_wp2_with (fail)
  refine HX.out.mono ?_
  rintro e w1 ⟨b, k, er, rfl, hp, hB⟩
  obtain ⟨rfl, rfl, rfl⟩ := HY.out _ _ _ hp
  go_wp2_with (fail)
  go_ret
  exact ⟨rfl, hB⟩
end Go.Proofs.Ytdmcakoaakinnaa
