/-
  FROM A LAW's WALK TO ITS ROW: the arguments read as before in whatever world keeps what was.
-/
import Derived.Test.YtdmcakoaakinnaaLib
import Derived.WalkKit
import Derived.ProofKit
import Derived.OpenShut
import Derived.ShutString
import Derived.WideKeyArgs
import Derived.ChangeSame
import Derived.Deep.Slices
import Derived.Deep.Fields
namespace Go.Proofs.Ytdmcakoaakinnaa
open Go.RowKit Go.ChangeShapes Go.WideShapes Go.Deep

theorem trodAll_stays {H : Type} {enc : TypeId × Value → H} {P : Program} {W W' : World} {sp' : Nat → Bool} (hl : laidOutB P = true) : ∀ {ts : List TypeId} {vs : List Value} {ds : List (DataW H)} {ps : List MemPlace},
    (ts.all fun t => P.readableRec t && decide (t < P.types.size)) = true → DataW.TrodAll enc P W 0 (fun _ => true) true ts vs ds ps → (∀ p ∈ ps, W.sameAt W' p) → (∀ p ∈ ps, sp' p.block = true) → DataW.TrodAll enc P W' 0 sp' true ts vs ds ps
  | [], [], [], _, _, h, _, _ => h
  | t :: ts, v :: vs, d :: ds, ps, ht, h, hs, hsp => by
    obtain ⟨p, q, h1, h2, rfl⟩ := h
    simp only [List.all_cons, Bool.and_eq_true, decide_eq_true_eq] at ht
    exact ⟨p, q, WideElems.Trod_stays hl ht.1.1 ht.1.2 h1 (fun x hx => hs x (List.mem_append_left _ hx)) (fun x hx => hsp x (List.mem_append_left _ hx)),
      trodAll_stays hl ht.2 h2 (fun x hx => hs x (List.mem_append_right _ hx)) (fun x hx => hsp x (List.mem_append_right _ hx)), rfl⟩
  | [], _ :: _, _, _, _, h, _, _ => by cases h
  | [], [], _ :: _, _, _, h, _, _ => by cases h
  | _ :: _, [], _, _, _, h, _, _ => by cases h
  | _ :: _, _ :: _, [], _, _, h, _, _ => by cases h

/-- THE LAST STEP OF A LAW's ROW. -/
theorem law_post {H : Type} {enc : TypeId × Value → H} {P : Program} {f : Func} {s : ChangeSpec} {W W' : World} {args : Array Value} {ds : List (DataW H)} {p before : List MemPlace} {tb : TypeId} (hl : laidOutB P = true)
    (hr : (f.params.toList.all fun t => P.readableRec t && decide (t < P.types.size)) = true) (hres : f.resultTypes = #[tb]) (hb : P.underlying tb = some .bool) (hv : s.vars = []) (hfn : s.fn H (ds ++ []) = ⟨[.lit (.bool true)], ds, []⟩)
    (hW : DataW.Whole enc P f.params.toList s.vars false W args.toList ds [] before) (hA : DataW.TrodAll enc P W 0 (fun _ => true) true f.params.toList args.toList ds p) (hbel : Below W.heap.size W W') (hbp : before = p ++ []) :
    s.post enc P f false true false false W args (.bool true) W' := by
  have hlt : ∀ x ∈ p, x.block < W.heap.size := fun x hx => hW.lt x (by rw [hbp]; simpa using hx)
  refine ⟨ds, [], before, [], p, [], hW, ?_, ?_, ?_, ?_, ?_⟩
  · rw [hres, hfn]; exact trodAll_mk1 (shut_bool hb _)
  · rw [hfn]; exact trodAll_stays hl hr hA (fun x hx => hbel.same (hlt x hx)) (fun x hx => by simpa using hlt x hx)
  · rw [hfn, hv]; rfl
  · exact hbel.frame _
  · intro h; cases h
section
open Go.Deep
variable {H : Type} {enc : TypeId × Value → H} {P : Program} {w : World} {base : Nat} {spare : Nat → Bool} {held : Bool}
theorem open_slice_fields {t e : TypeId} {fs : Array Field} {fuel : Nat} {cs : List Value} {x : DataW H × List MemPlace} (ht : P.underlying t = some (.slice e)) (he : P.underlying e = some (.struct fs))
    (hone : oneCellFields P fs = true) (hC : P.cellsOf e = fs.size) (h : DataW.trod enc P w base spare held fuel t cs = some x) :
    (cs = [.slice none 0 0] ∧ x = (.nil, [])) ∨
    ∃ (a : Addr) (len cap m : Nat) (D : Nat → DataW H) (Pl : Nat → List MemPlace), cs = [.slice (some a) len cap] ∧ base ≤ a.block ∧ len ≤ cap ∧ cap ≤ maxLen ∧ m = (if spare a.block then cap else len) ∧
      x = (.slice ((List.range len).map D) ((List.range (m - len)).map fun j => D (len + j)), MemPlace.row a (m * fs.size) ++ (List.range m).flatMap Pl) ∧
      ∀ i, i < m → ∃ (ys : List (DataW H × List MemPlace)) (n : Nat), D i = .agg (ys.map (·.1)) ∧ Pl i = ys.flatMap (·.2) ∧ ys.length = fs.size ∧
        ∀ (j : Nat) (f : Field), fs[j]? = some f → ∃ (v : Value) (y : DataW H × List MemPlace), w.cell? (a.add (i * fs.size + j)) = some v ∧ ys[j]? = some y ∧ DataW.trod enc P w base spare held n f.type [v] = some y := by
  rcases open_slice ht h with h0 | ⟨a, len, cap, m, n, D, Pl, hcs, hb, hl, hm, hmm, hx, hi⟩
  · exact .inl h0
  · refine .inr ⟨a, len, cap, m, D, Pl, hcs, hb, hl, hm, hmm, by rw [hC] at hx; exact hx, fun i him => ?_⟩
    obtain ⟨cs', hc, ht'⟩ := hi i him
    rw [hC] at hc
    obtain ⟨ys, n', hn', hy, hlen, hyl, hf⟩ := DataW.trod_struct he ht'
    obtain ⟨_, hcl, hat⟩ := World.cells?_some hc
    simp only [Prod.mk.injEq] at hy
    refine ⟨ys, n', hy.1, hy.2, hyl, fun j f hj => ?_⟩
    obtain ⟨ho, hk⟩ := hone_of hone j f hj
    have hjl : j < fs.size := (Array.getElem?_eq_some_iff.1 hj).1
    have hcell := hat j hjl
    have hv : cs'[j]? = some (cs'[j]'(by omega)) := List.getElem?_eq_getElem (by omega)
    have h1 := hf j f hj
    rw [ho, hk] at h1
    have hone' : (cs'.drop j).take 1 = [cs'[j]'(by omega)] := by
      rw [List.drop_eq_getElem_cons (by omega)]
      rfl
    rw [hone'] at h1
    have hys : ys[j]? = some (ys[j]'(by omega)) := List.getElem?_eq_getElem (by omega)
    refine ⟨_, _, ?_, hys, h1.trans hys⟩
    rw [← Go.Deep.add_add, hcell, hv]
end


theorem u64_bounds {a : Int} (h : (Lit.int .u64 a).wf = true) : 0 ≤ a ∧ a ≤ 18446744073709551615 := by
  simp [Lit.wf, IntKind.min, IntKind.max, IntKind.signed, IntKind.bits] at h
  omega
theorem i64_bounds {a : Int} (h : (Lit.int .i64 a).wf = true) : -9223372036854775808 ≤ a ∧ a ≤ 9223372036854775807 := by
  simp [Lit.wf, IntKind.min, IntKind.max, IntKind.signed, IntKind.bits] at h
  omega
theorem spot_none {W : World} {a : Addr} {v : Value} (h : W.cell? a = some v) : a = ⟨a.block, a.off, none⟩ := by
  obtain ⟨b, o, s⟩ := a
  cases s with
  | none => rfl
  | some s =>
    simp [World.cell?] at h
    split at h <;> cases h

/-- A ROW OF STRUCTS OF ONE-CELL FIELDS THAT CAME IN. -/
theorem open_fields {H : Type} {enc : TypeId × Value → H} {P : Program} {W : World} {base : Nat} {v : Value} {d : DataW H} {p : List MemPlace} {t e : TypeId} {fs : Array Field} (ht : P.underlying t = some (.slice e)) (he : P.underlying e = some (.struct fs))
    (hone : oneCellFields P fs = true) (hC : P.cellsOf e = fs.size) (hf0 : 0 < fs.size) (hv : Value.okWide P W .any base t v) (h : DataW.Trod enc P W 0 (fun _ => true) true t v d p) :
    ∃ (a : Option Addr) (len cap : Nat), v = .slice a len cap ∧ len ≤ maxLen ∧ (0 < len → ∃ (g o : Nat), a = some ⟨g, o, none⟩ ∧ g < W.heap.size ∧
      ∀ i, i < len → ∀ (j : Nat) (f : Field), fs[j]? = some f → ∃ (u : Value) (y : DataW H × List MemPlace) (n : Nat), W.cell? ⟨g, o + (i * fs.size + j), none⟩ = some u ∧ DataW.trod enc P W 0 (fun _ => true) true n f.type [u] = some y) := by
  obtain ⟨a0, len0, cap0, rfl⟩ := okWide_slice ht hv
  obtain ⟨fuel, hf⟩ := h
  rcases open_slice_fields (x := (d, p)) ht he hone hC hf with ⟨hcs, _⟩ | ⟨a, len, cap, m, D, Pl, hcs, _, hl, hm, hmm, _, hi⟩
  · cases hcs
    exact ⟨none, 0, 0, rfl, by unfold maxLen; omega, fun h => by omega⟩
  · obtain ⟨rfl, rfl, rfl⟩ : a0 = some a ∧ len0 = len ∧ cap0 = cap := by
      have e1 := (List.cons.inj hcs).1
      exact ⟨(Value.slice.inj e1).1, (Value.slice.inj e1).2.1, (Value.slice.inj e1).2.2⟩
    refine ⟨some a, _, _, rfl, by omega, fun hl0 => ?_⟩
    have hlm : len0 ≤ m := by rw [hmm]; simp; exact hl
    obtain ⟨_, _, _, _, _, h0⟩ := hi 0 (by omega)
    obtain ⟨u, _, hc, _⟩ := h0 0 _ (Array.getElem?_eq_getElem hf0)
    rw [show a.add (0 * fs.size + 0) = a by simp [Addr.add]] at hc
    have hsp := spot_none hc
    refine ⟨a.block, a.off, by rw [← hsp], by have := World.block_lt_of_cell? W _ hc; exact this, fun i hil j f hj => ?_⟩
    obtain ⟨ys, n, _, _, _, hx⟩ := hi i (by omega)
    obtain ⟨u, y, hc, _, ht'⟩ := hx j f hj
    refine ⟨u, y, n, ?_, ht'⟩
    rw [← hc]
    congr 1
    rw [hsp]
    unfold Addr.add
    split
    · rename_i h; simp [h]
    · rfl

/-- A ROW OF NUMBERS THAT CAME IN. -/
theorem open_nums {H : Type} {enc : TypeId × Value → H} {P : Program} {W : World} {base : Nat} {v : Value} {d : DataW H} {p : List MemPlace} {t e : TypeId} {k : IntKind} (ht : P.underlying t = some (.slice e)) (he : P.underlying e = some (.int k)) (hC : P.cellsOf e = 1)
    (hv : Value.okWide P W .any base t v) (h : DataW.Trod enc P W 0 (fun _ => true) true t v d p) :
    ∃ (a : Option Addr) (len cap : Nat) (xs : List Int), v = .slice a len cap ∧ xs.length = len ∧ len ≤ maxLen ∧ len ≤ cap ∧ (∀ x ∈ xs, (Lit.int k x).wf = true) ∧ (0 < len → ∃ (g o : Nat), a = some ⟨g, o, none⟩ ∧ g < W.heap.size ∧
      ∀ i, i < len → W.cell? ⟨g, o + i, none⟩ = some (.int k (xs.getD i 0))) := by
  obtain ⟨a0, len0, cap0, rfl⟩ := okWide_slice ht hv
  obtain ⟨fuel, hf⟩ := h
  rcases open_ints (x := (d, p)) ht he hC hf with ⟨hcs, _⟩ | ⟨a, len, cap, zs, hcs, _, hl, hm, hlen, _, hc, hw⟩
  · cases hcs
    exact ⟨none, 0, 0, [], rfl, rfl, by unfold maxLen; omega, Nat.le_refl _, (fun x hx => by cases hx), fun h => by omega⟩
  · obtain ⟨rfl, rfl, rfl⟩ : a0 = some a ∧ len0 = len ∧ cap0 = cap := by
      have e1 := (List.cons.inj hcs).1
      exact ⟨(Value.slice.inj e1).1, (Value.slice.inj e1).2.1, (Value.slice.inj e1).2.2⟩
    have hlz : len0 ≤ zs.length := by rw [hlen]; simp; exact hl
    refine ⟨some a, _, _, zs.take len0, rfl, by simp; omega, by omega, hl, fun x hx => hw x (List.mem_of_mem_take hx), fun hl0 => ?_⟩
    have h0 := hc 0 (by omega)
    rw [show a.add 0 = a by simp [Addr.add]] at h0
    have hsp := spot_none h0
    refine ⟨a.block, a.off, by rw [← hsp], by have := World.block_lt_of_cell? W _ h0; exact this, fun i hil => ?_⟩
    rw [show (zs.take len0).getD i 0 = zs.getD i 0 by simp [hil]]
    rw [← hc i (by omega)]
    congr 1
    rw [hsp]
    unfold Addr.add
    split
    · rename_i h; simp [h]
    · rfl
end Go.Proofs.Ytdmcakoaakinnaa
