/-
  A HISTORY THAT CAME IN, opened: pairs, calls, eras; how long they may be.
-/
import Derived.Test.YtdmcakoaakinnaaQq
import Derived.Test.YtdmcakoaakinnaaLift
import Derived.SizedLaws
namespace Go.Proofs.Ytdmcakoaakinnaa
open Go.RowKit Go.ChangeShapes Go.WideShapes Go.Deep
set_option linter.unusedVariables false
set_option linter.unusedSimpArgs false

def SzD {H : Type} (P : Program) (t : TypeId) (d : DataW H) : Prop := ∀ n ∈ d.weights P t, n ≤ reachBytes
theorem weights_mem_all {H : Type} {P : Program} {e : TypeId} : ∀ {ds : List (DataW H)} {d : DataW H}, d ∈ ds → ∀ n ∈ d.weights P e, n ∈ DataW.weightsAll P e ds
  | d0 :: r, d, hd, n, hn => by
    simp only [DataW.weightsAll, List.mem_append]
    rcases List.mem_cons.1 hd with rfl | h
    · exact .inl hn
    · exact .inr (weights_mem_all h n hn)
section
variable {H : Type} {enc : TypeId × Value → H} {P : Program} {w : World} {base : Nat} {spare : Nat → Bool} {held : Bool}
/-- a slice, its elements as data -/
theorem open_row {α : Type} [Inhabited α] (cells : α → Array Value) (z : α) (Good : α → Prop) (K B : Nat) (hK : 0 < K) {t e : TypeId} (ht : P.underlying t = some (.slice e)) (hC : P.cellsOf e = K) (hBy : P.bytesOf e = B)
    (hel : ∀ (n : Nat) (cs : List Value) (x : DataW H × List MemPlace), cs.length = K → DataW.trod enc P w base spare held n e cs = some x → SzD P e x.1 → ∃ q, cs = (cells q).toList ∧ Good q)
    {fuel : Nat} {v : Value} {x : DataW H × List MemPlace} (h : DataW.trod enc P w base spare held fuel t [v] = some x) (hz : SzD P t x.1) :
    ∃ (a : Option Addr) (cap : Nat) (l : List α), v = .slice a l.length cap ∧ RowAt w a l.length K (fun i => cells (l.getD i z)) ∧ (∀ q ∈ l, Good q) ∧ l.length * B ≤ reachBytes := by
  rcases open_slice ht h with ⟨hcs, _⟩ | ⟨a, len, cap, m, n, D, Pl, hcs, _, hl, hm, hmm, hx, hi⟩
  · cases hcs
    exact ⟨none, 0, [], rfl, fun h => absurd h (by simp), (fun q hq => by cases hq), by simp⟩
  · cases hcs
    have hlm : len ≤ m := by rw [hmm]; split <;> omega
    have hxd : x.1 = .slice ((List.range len).map D) ((List.range (m - len)).map fun j => D (len + j)) := by rw [hx]
    have hsz : ∀ i, i < len → SzD P e (D i) := fun i hil n' hn' => by
      refine hz n' ?_
      rw [hxd]
      simp only [DataW.weights, ht, List.mem_cons, List.mem_append]
      exact .inr (.inl (weights_mem_all (List.mem_map.2 ⟨i, List.mem_range.2 hil, rfl⟩) n' hn'))
    have hlen : len * B ≤ reachBytes := by
      have h1 := hz ((((List.range len).map D).length + ((List.range (m - len)).map fun j => D (len + j)).length) * P.bytesOf e) (by
        rw [hxd]
        simp [DataW.weights, ht])
      rw [hBy] at h1
      refine Nat.le_trans (Nat.mul_le_mul_right B ?_) h1
      simp
    have each : ∀ i, i < len → ∃ q, (∀ j, j < K → w.cell? ((a.add (i * K)).add j) = (cells q)[j]?) ∧ Good q := fun i hil => by
      obtain ⟨cs', h1, h2⟩ := hi i (by omega)
      rw [hC] at h1
      obtain ⟨_, hcl, hat⟩ := World.cells?_some h1
      obtain ⟨q, hq, hg⟩ := hel n cs' _ hcl h2 (hsz i hil)
      exact ⟨q, fun j hj => by rw [hat j hj, hq, Array.getElem?_toList], hg⟩
    obtain ⟨f, hf⟩ := choose_lt each
    have hgd : ∀ i, i < len → ((List.range len).map f).getD i z = f i := fun i hil => by
      rw [List.getD_eq_getElem?_getD, List.getElem?_map, List.getElem?_range hil]; rfl
    refine ⟨some a, cap, (List.range len).map f, by simp, ?_, fun q hq => ?_, by simpa using hlen⟩
    · rw [List.length_map, List.length_range]
      intro hn
      obtain ⟨_, h0⟩ := hi 0 (by omega)
      obtain ⟨cs', h1, h2⟩ := hi 0 (by omega)
      rw [hC] at h1
      obtain ⟨_, hcl, hat⟩ := World.cells?_some h1
      have hc0 := hat 0 hK
      rw [show (a.add (0 * K)).add 0 = a by simp [Addr.add]] at hc0
      have hsome : cs'[0]? = some (cs'[0]'(by omega)) := List.getElem?_eq_getElem (by omega)
      rw [hsome] at hc0
      have hsp := spot_none hc0
      refine ⟨a.block, a.off, by rw [← hsp], World.block_lt_of_cell? w _ hc0, fun i hil j hj => ?_⟩
      show _ = (cells (((List.range len).map f).getD i z))[j]?
      rw [hgd i hil, ← (hf i hil).1 j hj]
      congr 1
      rw [hsp, Go.Deep.add_add]
      unfold Addr.add
      split
      · rename_i h9
        have h9' : i * K + j = 0 := by simpa using h9
        rw [Nat.add_assoc, h9']; rfl
      · rw [Nat.add_assoc]
    · obtain ⟨i, hir, rfl⟩ := List.mem_map.1 hq
      exact (hf i (List.mem_range.1 hir)).2
theorem takeL {l : List Value} {off : Nat} {v : Value} (h : (l.drop off).take 1 = [v]) : l[off]? = some v := by
  have : ((l.drop off).take 1)[0]? = some v := by rw [h]; rfl
  simpa [List.getElem?_take, List.getElem?_drop] using this
theorem at_int {t : TypeId} {k : IntKind} {m off : Nat} {l : List Value} {y : Option (DataW H × List MemPlace)} (ht : P.underlying t = some (.int k)) (hc : P.cellsOf t = 1) (hy : y ≠ none) (h : DataW.trod enc P w base spare held m t ((l.drop off).take (P.cellsOf t)) = y) :
    ∃ a, l[off]? = some (.int k a) ∧ (Lit.int k a).wf = true := by
  cases y with
  | none => exact absurd rfl hy
  | some y =>
    rw [hc] at h
    obtain ⟨a, e, _, hw⟩ := DataW.trod_int ht h
    exact ⟨a, takeL e, hw⟩
theorem at_str {t : TypeId} {m off : Nat} {l : List Value} {y : Option (DataW H × List MemPlace)} (ht : P.underlying t = some .string) (hc : P.cellsOf t = 1) (hy : y ≠ none) (h : DataW.trod enc P w base spare held m t ((l.drop off).take (P.cellsOf t)) = y) :
    ∃ s : ByteArray, l[off]? = some (.string s) ∧ s.size ≤ maxLen := by
  cases y with
  | none => exact absurd rfl hy
  | some y =>
    rw [hc] at h
    obtain ⟨a, e, _, hw⟩ := DataW.trod_string ht h
    exact ⟨a, takeL e, hw⟩
theorem at_bool {t : TypeId} {m off : Nat} {l : List Value} {y : Option (DataW H × List MemPlace)} (ht : P.underlying t = some .bool) (hc : P.cellsOf t = 1) (hy : y ≠ none) (h : DataW.trod enc P w base spare held m t ((l.drop off).take (P.cellsOf t)) = y) :
    ∃ b, l[off]? = some (.bool b) := by
  cases y with
  | none => exact absurd rfl hy
  | some y =>
    rw [hc] at h
    obtain ⟨b, e, _⟩ := DataW.trod_bool ht h
    exact ⟨b, takeL e⟩
/-- a field that is a slice -/
theorem at_slice {t e : TypeId} {m off : Nat} {l : List Value} {y : Option (DataW H × List MemPlace)} (ht : P.underlying t = some (.slice e)) (hc : P.cellsOf t = 1) (hy : y ≠ none) (h : DataW.trod enc P w base spare held m t ((l.drop off).take (P.cellsOf t)) = y) :
    ∃ v z, y = some z ∧ l[off]? = some v ∧ DataW.trod enc P w base spare held m t [v] = some z := by
  cases y with
  | none => exact absurd rfl hy
  | some y =>
    rw [hc] at h
    have h1 : ∃ v, (l.drop off).take 1 = [v] := by
      rcases open_slice ht h with ⟨hcs, _⟩ | ⟨a, len, cap, _, _, _, _, hcs, _⟩
      · exact ⟨_, hcs⟩
      · exact ⟨_, hcs⟩
    obtain ⟨v, hv⟩ := h1
    rw [hv] at h
    exact ⟨v, y, rfl, takeL hv, h⟩
end
def PrG (p : Pr) : Prop := U64P p.key ∧ p.val.size ≤ maxLen
instance : Inhabited Pr := ⟨prZ⟩
instance : Inhabited Dn := ⟨dnZ⟩
instance : Inhabited Er := ⟨erZ⟩
theorem list_ext_lt {l : List Value} {C : Array Value} (hl : l.length = C.size) (h : ∀ j, j < C.size → l[j]? = C[j]?) : l = C.toList := by
  apply List.ext_getElem?
  intro j
  by_cases hj : j < C.size
  · rw [h j hj, Array.getElem?_toList]
  · rw [List.getElem?_eq_none (by omega), List.getElem?_eq_none (by simp; omega)]
theorem sz_agg {H : Type} {P : Program} {t : TypeId} {fs : Array Field} {ds : List (DataW H)} (ht : P.underlying t = some (.struct fs)) (h : SzD P t (.agg ds)) {j : Nat} {f : Field} {d : DataW H} (hf : fs[j]? = some f) (hd : ds[j]? = some d) : SzD P f.type d := fun n hn => by
  refine h n ?_
  simp only [DataW.weights, ht]
  refine DataW.weights_mem_each (j := j) (t := f.type) ?_ hd n hn
  rw [List.getElem?_map, Array.getElem?_toList, hf]; rfl
section
variable {H : Type} {enc : TypeId × Value → H} {w : World} {base : Nat} {spare : Nat → Bool} {held : Bool}
theorem open_pr (n : Nat) (cs : List Value) (x : DataW H × List MemPlace) (hl : cs.length = 2) (h : DataW.trod enc Try.prog w base spare held n 59 cs = some x) (hz : SzD Try.prog 59 x.1) : ∃ q : Pr, cs = (prCells q).toList ∧ PrG q := by
  obtain ⟨xs, m, _, _, _, hxl, hx⟩ := DataW.trod_struct Try.underlying59 h
  have hs : ∀ i, i < 2 → xs[i]? ≠ none := fun i hi => by
    have : i < xs.length := by rw [hxl]; exact hi
    rw [List.getElem?_eq_getElem this]; simp
  obtain ⟨k, e0, w0⟩ := at_int Try.underlying24 (by kernel_rfl) (hs 0 (by omega)) (hx 0 _ rfl)
  obtain ⟨s, e1, w1⟩ := at_str Try.underlying9 (by kernel_rfl) (hs 1 (by omega)) (hx 1 _ rfl)
  refine ⟨⟨k, s⟩, list_ext_lt (by rw [hl]; rfl) (fun j hj => ?_), u64_bounds w0, w1⟩
  match j, hj with
  | 0, _ => exact e0
  | 1, _ => exact e1
theorem open_prs {fuel : Nat} {v : Value} {x : DataW H × List MemPlace} (h : DataW.trod enc Try.prog w base spare held fuel 22 [v] = some x) (hz : SzD Try.prog 22 x.1) :
    ∃ (a : Option Addr) (cap : Nat) (l : List Pr), v = .slice a l.length cap ∧ PrsAt w a l ∧ (∀ p ∈ l, PrG p) ∧ l.length * 24 ≤ reachBytes :=
  open_row prCells prZ PrG 2 24 (by decide) Try.underlying22 (by kernel_rfl) (by kernel_rfl) open_pr h hz
def DnG (w : World) (d : Dn) : Prop := U64P d.key ∧ DnV d ∧ PrsAt w d.pa d.ps ∧ (∀ p ∈ d.ps, PrG p) ∧ d.ps.length * 24 ≤ reachBytes
theorem nth_take {l : List Value} {a k j : Nat} {v : Value} (h : ((l.drop a).take k)[j]? = some v) : l[a + j]? = some v := by
  rw [List.getElem?_take] at h
  split at h
  · rwa [List.getElem?_drop] at h
  · cases h
set_option maxRecDepth 100000 in
theorem open_dn (n : Nat) (cs : List Value) (x : DataW H × List MemPlace) (hl : cs.length = 11) (h : DataW.trod enc Try.prog w base spare held n 53 cs = some x) (hz : SzD Try.prog 53 x.1) : ∃ q : Dn, cs = (dnCells q).toList ∧ DnG w q := by
  obtain ⟨xs, m, _, rfl, _, hxl, hx⟩ := DataW.trod_struct Try.underlying53 h
  have hs : ∀ i, i < 5 → xs[i]? ≠ none := fun i hi => by
    have : i < xs.length := by rw [hxl]; exact hi
    rw [List.getElem?_eq_getElem this]; simp
  obtain ⟨cl, e0, w0⟩ := at_int Try.underlying3 (by kernel_rfl) (hs 0 (by omega)) (hx 0 _ rfl)
  obtain ⟨bg, e6, w6⟩ := at_int Try.underlying3 (by kernel_rfl) (hs 2 (by omega)) (hx 2 _ rfl)
  obtain ⟨en, e7, w7⟩ := at_int Try.underlying3 (by kernel_rfl) (hs 3 (by omega)) (hx 3 _ rfl)
  have hca : DataW.trod enc Try.prog w base spare held m 41 ((cs.drop 1).take (Try.prog.cellsOf 41)) = xs[1]? := hx 1 _ rfl
  have hrs : DataW.trod enc Try.prog w base spare held m 51 ((cs.drop 8).take (Try.prog.cellsOf 51)) = xs[4]? := hx 4 _ rfl
  obtain ⟨xc, hxc⟩ : ∃ y, xs[1]? = some y := Option.ne_none_iff_exists'.1 (hs 1 (by omega))
  obtain ⟨xr, hxr⟩ : ∃ y, xs[4]? = some y := Option.ne_none_iff_exists'.1 (hs 4 (by omega))
  rw [hxc] at hca
  rw [hxr] at hrs
  rw [show Try.prog.cellsOf 41 = 5 from by kernel_rfl] at hca
  rw [show Try.prog.cellsOf 51 = 3 from by kernel_rfl] at hrs
  obtain ⟨ys, m2, _, rfl, _, hyl, hy⟩ := DataW.trod_struct Try.underlying41 hca
  obtain ⟨zs, m3, _, rfl, _, hzl, hzz⟩ := DataW.trod_struct Try.underlying51 hrs
  have hs2 : ∀ i, i < 5 → ys[i]? ≠ none := fun i hi => by
    have : i < ys.length := by rw [hyl]; exact hi
    rw [List.getElem?_eq_getElem this]; simp
  have hs3 : ∀ i, i < 3 → zs[i]? ≠ none := fun i hi => by
    have : i < zs.length := by rw [hzl]; exact hi
    rw [List.getElem?_eq_getElem this]; simp
  obtain ⟨op, e1, w1⟩ := at_int Try.underlying39 (by kernel_rfl) (hs2 0 (by omega)) (hy 0 _ rfl)
  obtain ⟨key, e2, w2⟩ := at_int Try.underlying24 (by kernel_rfl) (hs2 1 (by omega)) (hy 1 _ rfl)
  obtain ⟨hi, e3, w3⟩ := at_int Try.underlying24 (by kernel_rfl) (hs2 2 (by omega)) (hy 2 _ rfl)
  obtain ⟨lim, e4, w4⟩ := at_int Try.underlying3 (by kernel_rfl) (hs2 3 (by omega)) (hy 3 _ rfl)
  obtain ⟨val, e5, w5⟩ := at_str Try.underlying9 (by kernel_rfl) (hs2 4 (by omega)) (hy 4 _ rfl)
  obtain ⟨code, e8, w8⟩ := at_int Try.underlying27 (by kernel_rfl) (hs3 0 (by omega)) (hzz 0 _ rfl)
  obtain ⟨rv, e9, w9⟩ := at_str Try.underlying9 (by kernel_rfl) (hs3 1 (by omega)) (hzz 1 _ rfl)
  obtain ⟨v, z, hz1, e10, hsl⟩ := at_slice Try.underlying22 (by kernel_rfl) (hs3 2 (by omega)) (hzz 2 _ rfl)
  have hzr := sz_agg Try.underlying53 hz (j := 4) (d := .agg (zs.map (·.1))) rfl (by rw [List.getElem?_map, hxr]; rfl)
  have hzp := sz_agg Try.underlying51 hzr (j := 2) (d := z.1) rfl (by rw [List.getElem?_map, hz1]; rfl)
  obtain ⟨a, cap, l, rfl, hat, hg, hlen⟩ := open_prs hsl hzp
  refine ⟨⟨cl, op, key, hi, lim, val, bg, en, code, rv, a, cap, l⟩, list_ext_lt (by rw [hl]; rfl) (fun j hj => ?_), u64_bounds w2, w5, hat, hg, hlen⟩
  match j, hj with
  | 0, _ => exact e0
  | 1, _ => exact nth_take e1
  | 2, _ => exact nth_take e2
  | 3, _ => exact nth_take e3
  | 4, _ => exact nth_take e4
  | 5, _ => exact nth_take e5
  | 6, _ => exact e6
  | 7, _ => exact e7
  | 8, _ => exact nth_take e8
  | 9, _ => exact nth_take e9
  | 10, _ => exact nth_take e10
theorem open_dns {fuel : Nat} {v : Value} {x : DataW H × List MemPlace} (h : DataW.trod enc Try.prog w base spare held fuel 44 [v] = some x) (hz : SzD Try.prog 44 x.1) :
    ∃ (a : Option Addr) (cap : Nat) (l : List Dn), v = .slice a l.length cap ∧ DnsAt w a l ∧ (∀ d ∈ l, DnG w d) ∧ l.length * 120 ≤ reachBytes := by
  obtain ⟨a, cap, l, e, h1, h2, h3⟩ := open_row dnCells dnZ (DnG w) 11 120 (by decide) Try.underlying44 (by kernel_rfl) (by kernel_rfl) open_dn h hz
  exact ⟨a, cap, l, e, ⟨h1, fun d hd => (h2 d hd).2.2.1⟩, h2, h3⟩
def ErG (w : World) (e : Er) : Prop := DnsAt w e.ca e.cs ∧ (∀ d ∈ e.cs, DnG w d) ∧ e.cs.length * 120 ≤ reachBytes ∧ PrsAt w e.aa e.af ∧ (∀ p ∈ e.af, PrG p) ∧ e.af.length * 24 ≤ reachBytes
set_option maxRecDepth 100000 in
theorem open_er (n : Nat) (cs : List Value) (x : DataW H × List MemPlace) (hl : cs.length = 3) (h : DataW.trod enc Try.prog w base spare held n 46 cs = some x) (hz : SzD Try.prog 46 x.1) : ∃ q : Er, cs = (erCells q).toList ∧ ErG w q := by
  obtain ⟨xs, m, _, rfl, _, hxl, hx⟩ := DataW.trod_struct Try.underlying46 h
  have hs : ∀ i, i < 3 → xs[i]? ≠ none := fun i hi => by
    have : i < xs.length := by rw [hxl]; exact hi
    rw [List.getElem?_eq_getElem this]; simp
  obtain ⟨v0, z0, hz0, e0, t0⟩ := at_slice Try.underlying44 (by kernel_rfl) (hs 0 (by omega)) (hx 0 _ rfl)
  obtain ⟨v1, z1, hz1, e1, t1⟩ := at_slice Try.underlying22 (by kernel_rfl) (hs 1 (by omega)) (hx 1 _ rfl)
  obtain ⟨kn, e2⟩ := at_bool Try.underlying4 (by kernel_rfl) (hs 2 (by omega)) (hx 2 _ rfl)
  have s0 := sz_agg Try.underlying46 hz (j := 0) (d := z0.1) rfl (by rw [List.getElem?_map, hz0]; rfl)
  have s1 := sz_agg Try.underlying46 hz (j := 1) (d := z1.1) rfl (by rw [List.getElem?_map, hz1]; rfl)
  obtain ⟨a0, c0, l0, rfl, h01, h02, h03⟩ := open_dns t0 s0
  obtain ⟨a1, c1, l1, rfl, h11, h12, h13⟩ := open_prs t1 s1
  refine ⟨⟨a0, c0, l0, a1, c1, l1, kn⟩, list_ext_lt (by rw [hl]; rfl) (fun j hj => ?_), h01, h02, h03, h11, h12, h13⟩
  match j, hj with
  | 0, _ => exact e0
  | 1, _ => exact e1
  | 2, _ => exact e2
theorem open_ers {fuel : Nat} {v : Value} {x : DataW H × List MemPlace} (h : DataW.trod enc Try.prog w base spare held fuel 23 [v] = some x) (hz : SzD Try.prog 23 x.1) :
    ∃ (a : Option Addr) (cap : Nat) (l : List Er), v = .slice a l.length cap ∧ ErsAt w a l ∧ (∀ e ∈ l, ErG w e) ∧ l.length * 56 ≤ reachBytes := by
  obtain ⟨a, cap, l, e, h1, h2, h3⟩ := open_row erCells erZ (ErG w) 3 56 (by decide) Try.underlying23 (by kernel_rfl) (by kernel_rfl) open_er h hz
  exact ⟨a, cap, l, e, ⟨h1, fun d hd => ⟨(h2 d hd).1, (h2 d hd).2.2.2.1⟩⟩, h2, h3⟩
end
end Go.Proofs.Ytdmcakoaakinnaa
