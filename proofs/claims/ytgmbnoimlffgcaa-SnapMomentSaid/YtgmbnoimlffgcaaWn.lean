/-
  node.Words: a contract.
-/
import Derived.Test.YtgmbnoimlffgcaaP
import Derived.WalkKit
import Derived.ProofKit
import Derived.OpenShut
import Derived.ShutString
import Derived.WideKeyArgs
import Derived.ChangeSame
import Derived.Deep.Slices
import Derived.Deep.Fields
import Derived.Test.YtgmbnoimlffgcaaPaN
import Derived.Test.YtgmbnoimlffgcaaPcN
import Derived.Test.YtgmbnoimlffgcaaNd
import Derived.IntWalk
namespace Go.Proofs.Ytgmbnoimlffgcaa
open Go.RowKit Go.ChangeShapes Go.WideShapes Go.Deep

theorem trodAll_stays {H : Type} {enc : TypeId × Value → H} {P : Program} {W W' : World} {sp' : Nat → Bool} (hl : laidOutB P = true) : ∀ {ts : List TypeId} {vs : List Value} {ds : List (DataW H)} {ps : List MemPlace},
    (ts.all fun t => P.readableRec t && decide (t < P.types.size)) = true → DataW.TrodAll enc P W 0 (fun _ => true) true ts vs ds ps → (∀ p ∈ ps, W.sameAt W' p) → (∀ p ∈ ps, sp' p.block = true) → DataW.TrodAll enc P W' 0 sp' true ts vs ds ps
  | [], [], [], _, _, h, _, _ => h
  | t :: ts, v :: vs, d :: ds, ps, ht, h, hs, hsp => by
    obtain ⟨p, q, h1, h2, rfl⟩ := h
    simp only [List.all_cons, Bool.and_eq_true, decide_eq_true_eq] at ht
    exact ⟨p, q, WideElems.Trod_stays hl ht.1.1 ht.1.2 h1 (fun x hx => hs x (List.mem_append_left _ hx)) (fun x hx => hsp x (List.mem_append_left _ hx)),
      trodAll_stays hl ht.2 h2 (fun x hx => hs x (List.mem_append_right _ hx)) (fun x hx => hsp x (List.mem_append_right _ hx)), rfl⟩
  | [], _ :: _, _, _, _, h, _, _ => by cases h
  | [], [], _ :: _, _, _, h, _, _ => by cases h
  | _ :: _, [], _, _, _, h, _, _ => by cases h
  | _ :: _, _ :: _, [], _, _, h, _, _ => by cases h

/-- THE LAST STEP OF A LAW's ROW. -/
theorem law_post {H : Type} {enc : TypeId × Value → H} {P : Program} {f : Func} {s : ChangeSpec} {W W' : World} {args : Array Value} {ds : List (DataW H)} {p before : List MemPlace} {tb : TypeId} (hl : laidOutB P = true)
    (hr : (f.params.toList.all fun t => P.readableRec t && decide (t < P.types.size)) = true) (hres : f.resultTypes = #[tb]) (hb : P.underlying tb = some .bool) (hv : s.vars = []) (hfn : s.fn H (ds ++ []) = ⟨[.lit (.bool true)], ds, []⟩)
    (hW : DataW.Whole enc P f.params.toList s.vars false W args.toList ds [] before) (hA : DataW.TrodAll enc P W 0 (fun _ => true) true f.params.toList args.toList ds p) (hbel : Below W.heap.size W W') (hbp : before = p ++ []) :
    s.post enc P f false true false false W args (.bool true) W' := by
  have hlt : ∀ x ∈ p, x.block < W.heap.size := fun x hx => hW.lt x (by rw [hbp]; simpa using hx)
  refine ⟨ds, [], before, [], p, [], hW, ?_, ?_, ?_, ?_, ?_⟩
  · rw [hres, hfn]; exact trodAll_mk1 (shut_bool hb _)
  · rw [hfn]; exact trodAll_stays hl hr hA (fun x hx => hbel.same (hlt x hx)) (fun x hx => by simpa using hlt x hx)
  · rw [hfn, hv]; rfl
  · exact hbel.frame _
  · intro h; cases h
section
open Go.Deep
variable {H : Type} {enc : TypeId × Value → H} {P : Program} {w : World} {base : Nat} {spare : Nat → Bool} {held : Bool}
theorem open_slice_fields {t e : TypeId} {fs : Array Field} {fuel : Nat} {cs : List Value} {x : DataW H × List MemPlace} (ht : P.underlying t = some (.slice e)) (he : P.underlying e = some (.struct fs))
    (hone : oneCellFields P fs = true) (hC : P.cellsOf e = fs.size) (h : DataW.trod enc P w base spare held fuel t cs = some x) :
    (cs = [.slice none 0 0] ∧ x = (.nil, [])) ∨
    ∃ (a : Addr) (len cap m : Nat) (D : Nat → DataW H) (Pl : Nat → List MemPlace), cs = [.slice (some a) len cap] ∧ base ≤ a.block ∧ len ≤ cap ∧ cap ≤ maxLen ∧ m = (if spare a.block then cap else len) ∧
      x = (.slice ((List.range len).map D) ((List.range (m - len)).map fun j => D (len + j)), MemPlace.row a (m * fs.size) ++ (List.range m).flatMap Pl) ∧
      ∀ i, i < m → ∃ (ys : List (DataW H × List MemPlace)) (n : Nat), D i = .agg (ys.map (·.1)) ∧ Pl i = ys.flatMap (·.2) ∧ ys.length = fs.size ∧
        ∀ (j : Nat) (f : Field), fs[j]? = some f → ∃ (v : Value) (y : DataW H × List MemPlace), w.cell? (a.add (i * fs.size + j)) = some v ∧ ys[j]? = some y ∧ DataW.trod enc P w base spare held n f.type [v] = some y := by
  rcases open_slice ht h with h0 | ⟨a, len, cap, m, n, D, Pl, hcs, hb, hl, hm, hmm, hx, hi⟩
  · exact .inl h0
  · refine .inr ⟨a, len, cap, m, D, Pl, hcs, hb, hl, hm, hmm, by rw [hC] at hx; exact hx, fun i him => ?_⟩
    obtain ⟨cs', hc, ht'⟩ := hi i him
    rw [hC] at hc
    obtain ⟨ys, n', hn', hy, hlen, hyl, hf⟩ := DataW.trod_struct he ht'
    obtain ⟨_, hcl, hat⟩ := World.cells?_some hc
    simp only [Prod.mk.injEq] at hy
    refine ⟨ys, n', hy.1, hy.2, hyl, fun j f hj => ?_⟩
    obtain ⟨ho, hk⟩ := hone_of hone j f hj
    have hjl : j < fs.size := (Array.getElem?_eq_some_iff.1 hj).1
    have hcell := hat j hjl
    have hv : cs'[j]? = some (cs'[j]'(by omega)) := List.getElem?_eq_getElem (by omega)
    have h1 := hf j f hj
    rw [ho, hk] at h1
    have hone' : (cs'.drop j).take 1 = [cs'[j]'(by omega)] := by
      rw [List.drop_eq_getElem_cons (by omega)]
      rfl
    rw [hone'] at h1
    have hys : ys[j]? = some (ys[j]'(by omega)) := List.getElem?_eq_getElem (by omega)
    refine ⟨_, _, ?_, hys, h1.trans hys⟩
    rw [← Go.Deep.add_add, hcell, hv]
end


theorem u64_bounds {a : Int} (h : (Lit.int .u64 a).wf = true) : 0 ≤ a ∧ a ≤ 18446744073709551615 := by
  simp [Lit.wf, IntKind.min, IntKind.max, IntKind.signed, IntKind.bits] at h
  omega
theorem i64_bounds {a : Int} (h : (Lit.int .i64 a).wf = true) : -9223372036854775808 ≤ a ∧ a ≤ 9223372036854775807 := by
  simp [Lit.wf, IntKind.min, IntKind.max, IntKind.signed, IntKind.bits] at h
  omega
theorem spot_none {W : World} {a : Addr} {v : Value} (h : W.cell? a = some v) : a = ⟨a.block, a.off, none⟩ := by
  obtain ⟨b, o, s⟩ := a
  cases s with
  | none => rfl
  | some s =>
    simp [World.cell?] at h
    split at h <;> cases h

/-- A ROW OF STRUCTS OF ONE-CELL FIELDS THAT CAME IN. -/
theorem open_fields {H : Type} {enc : TypeId × Value → H} {P : Program} {W : World} {base : Nat} {v : Value} {d : DataW H} {p : List MemPlace} {t e : TypeId} {fs : Array Field} (ht : P.underlying t = some (.slice e)) (he : P.underlying e = some (.struct fs))
    (hone : oneCellFields P fs = true) (hC : P.cellsOf e = fs.size) (hf0 : 0 < fs.size) (hv : Value.okWide P W .any base t v) (h : DataW.Trod enc P W 0 (fun _ => true) true t v d p) :
    ∃ (a : Option Addr) (len cap : Nat), v = .slice a len cap ∧ len ≤ maxLen ∧ (0 < len → ∃ (g o : Nat), a = some ⟨g, o, none⟩ ∧ g < W.heap.size ∧
      ∀ i, i < len → ∀ (j : Nat) (f : Field), fs[j]? = some f → ∃ (u : Value) (y : DataW H × List MemPlace) (n : Nat), W.cell? ⟨g, o + (i * fs.size + j), none⟩ = some u ∧ DataW.trod enc P W 0 (fun _ => true) true n f.type [u] = some y) := by
  obtain ⟨a0, len0, cap0, rfl⟩ := okWide_slice ht hv
  obtain ⟨fuel, hf⟩ := h
  rcases open_slice_fields (x := (d, p)) ht he hone hC hf with ⟨hcs, _⟩ | ⟨a, len, cap, m, D, Pl, hcs, _, hl, hm, hmm, _, hi⟩
  · cases hcs
    exact ⟨none, 0, 0, rfl, by unfold maxLen; omega, fun h => by omega⟩
  · obtain ⟨rfl, rfl, rfl⟩ : a0 = some a ∧ len0 = len ∧ cap0 = cap := by
      have e1 := (List.cons.inj hcs).1
      exact ⟨(Value.slice.inj e1).1, (Value.slice.inj e1).2.1, (Value.slice.inj e1).2.2⟩
    refine ⟨some a, _, _, rfl, by omega, fun hl0 => ?_⟩
    have hlm : len0 ≤ m := by rw [hmm]; simp; exact hl
    obtain ⟨_, _, _, _, _, h0⟩ := hi 0 (by omega)
    obtain ⟨u, _, hc, _⟩ := h0 0 _ (Array.getElem?_eq_getElem hf0)
    rw [show a.add (0 * fs.size + 0) = a by simp [Addr.add]] at hc
    have hsp := spot_none hc
    refine ⟨a.block, a.off, by rw [← hsp], by have := World.block_lt_of_cell? W _ hc; exact this, fun i hil j f hj => ?_⟩
    obtain ⟨ys, n, _, _, _, hx⟩ := hi i (by omega)
    obtain ⟨u, y, hc, _, ht'⟩ := hx j f hj
    refine ⟨u, y, n, ?_, ht'⟩
    rw [← hc]
    congr 1
    rw [hsp]
    unfold Addr.add
    split
    · rename_i h; simp [h]
    · rfl

end Go.Proofs.Ytgmbnoimlffgcaa
namespace Go.Proofs.Ytgmbnoimlffgcaa
open Go.RowKit

theorem lit21 (n : Nd) : ndCells n = #[.int .i64 n.lv, .int .u64 n.lo, .int .u64 n.nx, .int .u64 n.ct, .int .u64 n.fi, .int .u64 (n.k 0), .int .u64 (n.k 1), .int .u64 (n.k 2), .int .u64 (n.k 3), .int .u64 (n.k 4), .int .u64 (n.k 5), .int .u64 (n.k 6), .int .u64 (n.k 7), .int .u64 (n.p 0), .int .u64 (n.p 1), .int .u64 (n.p 2), .int .u64 (n.p 3), .int .u64 (n.p 4), .int .u64 (n.p 5), .int .u64 (n.p 6), .int .u64 (n.p 7)] := rfl
theorem eq8_at (T e : TypeId) (hT : Try.prog.underlying T = some (.array 8 e)) (he : Try.prog.underlying e = some (.int .u64)) (ha : ∀ w, (isAgg e).run Try.prog w = .ok false w) (hz : ∀ w, (sizeOf e).run Try.prog w = .ok 1 w) (d : Nat) (a0 a1 a2 a3 a4 a5 a6 a7 : Int) (w : World) :
    (Op.equalIn (d + 2) T (.agg #[.int .u64 a0, .int .u64 a1, .int .u64 a2, .int .u64 a3, .int .u64 a4, .int .u64 a5, .int .u64 a6, .int .u64 a7]) (.agg #[.int .u64 a0, .int .u64 a1, .int .u64 a2, .int .u64 a3, .int .u64 a4, .int .u64 a5, .int .u64 a6, .int .u64 a7])).run Try.prog w = .ok true w := by
  rw [show d + 2 = (d + 1) + 1 from rfl, Op.equalIn]
  simp only [Sem.run_bind, run_underlying hT, Result.andThen_ok]
  simp only [Std.Legacy.Range.forIn_eq_forIn_range', Std.Legacy.Range.size, Nat.sub_zero, Nat.add_sub_cancel, Nat.div_one, List.range'_succ, List.range'_zero, List.forIn_cons, List.forIn_nil]
  go_simp
set_option maxRecDepth 100000 in
set_option maxHeartbeats 1600000 in
theorem eq_nd (n : Nd) (w : World) : (Op.equalIn 10000 40 (.agg (ndCells n)) (.agg (ndCells n))).run Try.prog w = .ok true w := by
  rw [lit21]
  have u3 := Try.underlying3
  have a3' := Try.isAgg3
  have z3 := Try.sizeOf3
  have u4 := Try.underlying23
  have a4' := Try.isAgg23
  have z4 := Try.sizeOf23
  have u5 := Try.underlying24
  have a5' := Try.isAgg24
  have z5 := Try.sizeOf24
  have k1 := fun w => eq8_at 37 23 Try.underlying37 u4 a4' z4 9997 (n.k 0) (n.k 1) (n.k 2) (n.k 3) (n.k 4) (n.k 5) (n.k 6) (n.k 7) w
  have k2 := fun w => eq8_at 38 24 Try.underlying38 u5 a5' z5 9997 (n.p 0) (n.p 1) (n.p 2) (n.p 3) (n.p 4) (n.p 5) (n.p 6) (n.p 7) w
  rw [show (10000 : Nat) = 9999 + 1 from rfl, Op.equalIn]
  simp only [Sem.run_bind, run_underlying Try.underlying40, Result.andThen_ok]
  go_simp
end Go.Proofs.Ytgmbnoimlffgcaa
namespace Go.Proofs.Ytgmbnoimlffgcaa
open Go.RowKit

def wdList (f : Nat → Int) : List Value := (List.range 24).map (fun i => Value.int .u64 (f i))
def wdCells (f : Nat → Int) : Array Value := (wdList f).toArray
theorem wdList_get (f : Nat → Int) (i : Nat) : (wdList f)[i]? = if i < 24 then some (.int .u64 (f i)) else none := by
  unfold wdList
  by_cases h : i < 24 <;> simp [h]
theorem wdList_len (f : Nat → Int) : (wdList f).length = 24 := by simp [wdList]
theorem wdCells_size (f : Nat → Int) : (wdCells f).size = 24 := by simp [wdCells, wdList_len]
theorem wdCells_get (f : Nat → Int) (i : Nat) (h : i < 24) : (wdCells f)[i]? = some (.int .u64 (f i)) := by
  unfold wdCells; simp [wdList_get, h]
def wset (f : Nat → Int) (i : Nat) (x : Int) : Nat → Int := fun j => if j = i then x else f j
theorem wdCells_set (f : Nat → Int) (i : Nat) (x : Int) : (wdCells f).setIfInBounds i (.int .u64 x) = wdCells (wset f i x) := by
  apply Array.ext_getElem?
  intro j
  rcases Nat.lt_or_ge j 24 with hj | hj
  · rw [wdCells_get _ _ hj]
    by_cases e : i = j
    · subst e
      rw [Array.getElem?_setIfInBounds_self_of_lt (by rw [wdCells_size]; exact hj)]
      simp [wset]
    · rw [Array.getElem?_setIfInBounds_ne e, wdCells_get _ _ hj]
      unfold wset; rw [if_neg (fun h => e h.symm)]
  · rw [Array.getElem?_eq_none (by rw [Array.size_setIfInBounds, wdCells_size]; exact hj), Array.getElem?_eq_none (by rw [wdCells_size]; exact hj)]
theorem wdCells_one (f : Nat → Int) : (wdCells f).all (·.oneCell') = true := by
  rw [Array.all_eq_true_iff_forall_mem]
  intro v hv
  unfold wdCells wdList at hv
  simp only [List.mem_toArray, List.mem_map] at hv
  obtain ⟨_, _, rfl⟩ := hv
  rfl
theorem infoWd (f : Nat → Int) : (Try.prog.info? 45).map (·.size) = some (wdCells f).size := by rw [wdCells_size]; kernel_rfl
theorem run_alloc_wd (w : World) : (Instr.alloc 45 true (.tuple #[])).run Try.prog w = .ok (.pointer (some ⟨w.heap.size, 0, none⟩)) (w.alloc (.cells (wdCells (fun _ => 0)) 45)) := by kernel_rfl
theorem wpList_alloc_wdAt {ops : Array Oper} {rest : List Oper} {o : Oper} {a : Act} {w : World} {Q : Exit → Act → World → Prop} (hgd : o.guard = none) (ho : o.op = .alloc 45) (H : Nat) (hH : w.heap.size = H)
    (h : wpList Try.prog ops Q rest (a.put o.dst (.pointer (some ⟨H, 0, none⟩))) (w.alloc (.cells (wdCells (fun _ => 0)) 45))) : wpList Try.prog ops Q (o :: rest) a w := by
  subst hH
  exact wpList_plain hgd fun _ hK => by
    unfold Oper.wp execOp
    simp only [ho, Sem.run_bind, run_alloc_wd, Result.andThen_ok, Sem.run_pure]
    exact hK _ _ h
theorem wpList_store_wd {ops : Array Oper} {rest : List Oper} {o : Oper} {a : Act} {w : World} {Q : Exit → Act → World → Prop} (hgd : o.guard = none) (x y : Operand) (ho : o.op = .store 45 x y)
    (g : Nat) (f f' : Nat → Int) (hx : a.eval x = .pointer (some ⟨g, 0, none⟩)) (hy : a.eval y = .agg (wdCells f)) (hg : Blk w g (wdCells f') 45)
    (h : wpList Try.prog ops Q rest (a.put o.dst undef) (w.setRow g (wdCells f))) : wpList Try.prog ops Q (o :: rest) a w :=
  wpList_store_row hgd 45 x y ho g (wdCells f) hx hy 45 (wdCells f') hg (infoWd f) (by rw [wdCells_size, wdCells_size]) (wdCells_one f) h
theorem wdLoad {w : World} {b : Nat} {f : Nat → Int} {t : TypeId} (hb : Blk w b (wdCells f) t) : ∀ j v, (wdCells f)[j]? = some v → w.cell? ⟨b, 0 + j, none⟩ = some v := by
  intro j v hv; rw [Nat.zero_add, hb.cell]; exact hv
theorem Blk.setw {w : World} {g : Nat} {f : Nat → Int} {t : TypeId} (h : Blk w g (wdCells f) t) (i : Nat) (x : Int) : Blk (w.setCell ⟨g, i, none⟩ (.int .u64 x)) g (wdCells (wset f i x)) t := by
  have := h.set i (.int .u64 x); rwa [wdCells_set] at this
theorem results_wd {fn : Func} {w : World} {s : Nat} (hr : fn.results = #[.cell s 45]) (tmps : Array Value) (g : Nat) (f : Nat → Int) (hs : tmps.getD s undef = .pointer (some ⟨g, 0, none⟩)) (h : Blk w g (wdCells f) 45) :
    (results fn tmps).run Try.prog w = .ok (.agg (wdCells f)) w := by
  have hl := run_loadVar_part (P := Try.prog) w g 0 45 (wdCells f) _ (wdLoad h) Try.underlying45 rfl (infoWd f)
  have hs' : tmps[s]?.getD undef = .pointer (some ⟨g, 0, none⟩) := by rw [← hs]; simp
  simp [results, hr, hs', asAddr, hl]
end Go.Proofs.Ytgmbnoimlffgcaa
namespace Go.Proofs.Ytgmbnoimlffgcaa
open Go.RowKit Go.ChangeShapes Go.WideShapes Go.Deep

theorem take1 {l : List Value} {off : Nat} {v : Value} (h : (l.drop off).take 1 = [v]) : l[off]? = some v := by
  have : ((l.drop off).take 1)[0]? = some v := by rw [h]; rfl
  simpa [List.getElem?_take, List.getElem?_drop] using this
section
variable {H : Type} {enc : TypeId × Value → H} {P : Program} {w : World} {base : Nat} {spare : Nat → Bool} {held : Bool}
theorem trod_int_at {t : TypeId} {k : IntKind} {m off : Nat} {l : List Value} {y : Option (DataW H × List MemPlace)} (ht : P.underlying t = some (.int k)) (hc : P.cellsOf t = 1) (hy : y ≠ none) (h : DataW.trod enc P w base spare held m t ((l.drop off).take (P.cellsOf t)) = y) :
    ∃ a, l[off]? = some (.int k a) ∧ (Lit.int k a).wf = true := by
  cases y with
  | none => exact absurd rfl hy
  | some y =>
    rw [hc] at h
    obtain ⟨a, e, _, hw⟩ := DataW.trod_int ht h
    exact ⟨a, take1 e, hw⟩
theorem trod_arr_at {t e : TypeId} {k : IntKind} {m off N : Nat} {l : List Value} {y : Option (DataW H × List MemPlace)} (ht : P.underlying t = some (.array N e)) (he : P.underlying e = some (.int k)) (hc : P.cellsOf t = N) (hce : P.cellsOf e = 1) (hy : y ≠ none) (h : DataW.trod enc P w base spare held m t ((l.drop off).take (P.cellsOf t)) = y) :
    ∃ f : Nat → Int, ∀ i, i < N → l[off + i]? = some (.int k (f i)) ∧ (Lit.int k (f i)).wf = true := by
  cases y with
  | none => exact absurd rfl hy
  | some y =>
    obtain ⟨xs, m', _, _, _, hl, hx⟩ := DataW.trod_array ht h
    have each : ∀ i, i < N → ∃ a, l[off + i]? = some (.int k a) ∧ (Lit.int k a).wf = true := by
      intro i hi
      obtain ⟨a, h1, h2⟩ := trod_int_at he hce (by
        have : i < xs.length := by omega
        rw [List.getElem?_eq_getElem this]; simp) (hx i hi)
      refine ⟨a, ?_, h2⟩
      rw [hce, Nat.mul_one, hc, List.getElem?_take] at h1
      rw [if_pos hi, List.getElem?_drop] at h1
      exact h1
    exact choose_lt each
end

set_option maxRecDepth 100000 in
theorem open_node {H : Type} {enc : TypeId × Value → H} {W : World} {base : Nat} {v : Value} {d : DataW H} {p : List MemPlace} (hv : Value.okWide Try.prog W .any base 40 v) (h : DataW.Trod enc Try.prog W 0 (fun _ => true) true 40 v d p) :
    ∃ n : Nd, v = .agg (ndCells n) ∧ n.Wf := by
  obtain ⟨cs, rfl, hsz⟩ := okWide_struct Try.underlying40 hv
  have h21 : Try.prog.cellsOf 40 = 21 := by kernel_rfl
  rw [h21] at hsz
  obtain ⟨fuel, hf⟩ := h
  obtain ⟨xs, m, _, _, _, hl, hx⟩ := DataW.trod_struct Try.underlying40 hf
  have hs : ∀ i, i < 7 → xs[i]? ≠ none := fun i hi => by
    have : i < xs.length := by rw [hl]; exact hi
    rw [List.getElem?_eq_getElem this]; simp
  obtain ⟨lv, e0, w0⟩ := trod_int_at Try.underlying3 (by kernel_rfl) (hs 0 (by omega)) (hx 0 _ rfl)
  obtain ⟨lo, e1, w1⟩ := trod_int_at Try.underlying23 (by kernel_rfl) (hs 1 (by omega)) (hx 1 _ rfl)
  obtain ⟨nx, e2, w2⟩ := trod_int_at Try.underlying24 (by kernel_rfl) (hs 2 (by omega)) (hx 2 _ rfl)
  obtain ⟨ct, e3, w3⟩ := trod_int_at Try.underlying23 (by kernel_rfl) (hs 3 (by omega)) (hx 3 _ rfl)
  obtain ⟨fi, e4, w4⟩ := trod_int_at Try.underlying24 (by kernel_rfl) (hs 4 (by omega)) (hx 4 _ rfl)
  obtain ⟨kf, hk⟩ := trod_arr_at Try.underlying37 Try.underlying23 (by kernel_rfl) (by kernel_rfl) (hs 5 (by omega)) (hx 5 _ rfl)
  obtain ⟨pf, hp⟩ := trod_arr_at Try.underlying38 Try.underlying24 (by kernel_rfl) (by kernel_rfl) (hs 6 (by omega)) (hx 6 _ rfl)
  let N : Nd := ⟨lv, lo, nx, ct, fi, kf, pf⟩
  refine ⟨N, ?_, ⟨w0, w1, w2, w3, w4, fun i hi => (hk i hi).2, fun i hi => (hp i hi).2⟩⟩
  refine congrArg Value.agg ?_
  simp only [Value.cells, Array.getElem?_toList] at e0 e1 e2 e3 e4 hk hp
  apply Array.ext_getElem?
  intro i
  rcases Nat.lt_or_ge i 21 with hi | hi
  · have hc : i = 0 ∨ i = 1 ∨ i = 2 ∨ i = 3 ∨ i = 4 ∨ (5 ≤ i ∧ i < 13) ∨ 13 ≤ i := by omega
    rcases hc with rfl | rfl | rfl | rfl | rfl | ⟨h5, h13⟩ | h13
    · exact e0.trans (ndCells_0 N).symm
    · exact e1.trans (ndCells_1 N).symm
    · exact e2.trans (ndCells_2 N).symm
    · exact e3.trans (ndCells_3 N).symm
    · exact e4.trans (ndCells_4 N).symm
    · obtain ⟨j, rfl⟩ : ∃ j, i = 5 + j := ⟨i - 5, by omega⟩
      exact ((hk j (by omega)).1).trans (ndCells_k N j (by omega)).symm
    · obtain ⟨j, rfl⟩ : ∃ j, i = 13 + j := ⟨i - 13, by omega⟩
      exact ((hp j (by omega)).1).trans (ndCells_p N j (by omega)).symm
  · rw [Array.getElem?_eq_none (by omega), Array.getElem?_eq_none (by rw [ndCells_size]; omega)]
end Go.Proofs.Ytgmbnoimlffgcaa
namespace Go.Proofs.Ytgmbnoimlffgcaa
open Go.RowKit

def tagM : Int := 5495893775785918464
/-- a node's word -/
def fullW (n : Nd) (i : Nat) : Int :=
  if i = 0 then tagM + n.lv else if i = 1 then n.lo else if i = 2 then n.nx else if i = 3 then n.ct else if i = 4 then n.fi else if i < 8 then 0
  else if i % 2 = 0 then n.k ((i - 8) / 2) else n.p ((i - 9) / 2)
def wTo (n : Nd) (k : Nat) (i : Nat) : Int := if i < 8 + 2 * k then fullW n i else 0
def wordsF (n : Nd) : Nat → Int := if n.lv < 0 ∨ 15 < n.lv then fun _ => 0 else wTo n 8
end Go.Proofs.Ytgmbnoimlffgcaa
