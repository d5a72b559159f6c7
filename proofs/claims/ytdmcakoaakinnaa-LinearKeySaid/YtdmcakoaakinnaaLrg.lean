/-
  The law LinearKey: many, few, the document's Crowd (of few calls), Key.
-/
import Derived.Test.YtdmcakoaakinnaaQq
import Derived.Test.YtdmcakoaakinnaaLift
import Derived.SizedLaws
import Derived.Test.YtdmcakoaakinnaaLre
import Derived.Test.YtdmcakoaakinnaaQv
namespace Go.Proofs.Ytdmcakoaakinnaa
open Go.RowKit Go.ChangeShapes Go.WideShapes Go.Deep
set_option linter.unusedVariables false
set_option linter.unusedSimpArgs false

def SzD {H : Type} (P : Program) (t : TypeId) (d : DataW H) : Prop := ∀ n ∈ d.weights P t, n ≤ reachBytes
theorem weights_mem_all {H : Type} {P : Program} {e : TypeId} : ∀ {ds : List (DataW H)} {d : DataW H}, d ∈ ds → ∀ n ∈ d.weights P e, n ∈ DataW.weightsAll P e ds
  | d0 :: r, d, hd, n, hn => by
    simp only [DataW.weightsAll, List.mem_append]
    rcases List.mem_cons.1 hd with rfl | h
    · exact .inl hn
    · exact .inr (weights_mem_all h n hn)
section
variable {H : Type} {enc : TypeId × Value → H} {P : Program} {w : World} {base : Nat} {spare : Nat → Bool} {held : Bool}
/-- a slice, its elements as data -/
theorem open_row {α : Type} [Inhabited α] (cells : α → Array Value) (z : α) (Good : α → Prop) (K B : Nat) (hK : 0 < K) {t e : TypeId} (ht : P.underlying t = some (.slice e)) (hC : P.cellsOf e = K) (hBy : P.bytesOf e = B)
    (hel : ∀ (n : Nat) (cs : List Value) (x : DataW H × List MemPlace), cs.length = K → DataW.trod enc P w base spare held n e cs = some x → SzD P e x.1 → ∃ q, cs = (cells q).toList ∧ Good q)
    {fuel : Nat} {v : Value} {x : DataW H × List MemPlace} (h : DataW.trod enc P w base spare held fuel t [v] = some x) (hz : SzD P t x.1) :
    ∃ (a : Option Addr) (cap : Nat) (l : List α), v = .slice a l.length cap ∧ RowAt w a l.length K (fun i => cells (l.getD i z)) ∧ (∀ q ∈ l, Good q) ∧ l.length * B ≤ reachBytes := by
  rcases open_slice ht h with ⟨hcs, _⟩ | ⟨a, len, cap, m, n, D, Pl, hcs, _, hl, hm, hmm, hx, hi⟩
  · cases hcs
    exact ⟨none, 0, [], rfl, fun h => absurd h (by simp), (fun q hq => by cases hq), by simp⟩
  · cases hcs
    have hlm : len ≤ m := by rw [hmm]; split <;> omega
    have hxd : x.1 = .slice ((List.range len).map D) ((List.range (m - len)).map fun j => D (len + j)) := by rw [hx]
    have hsz : ∀ i, i < len → SzD P e (D i) := fun i hil n' hn' => by
      refine hz n' ?_
      rw [hxd]
      simp only [DataW.weights, ht, List.mem_cons, List.mem_append]
      exact .inr (.inl (weights_mem_all (List.mem_map.2 ⟨i, List.mem_range.2 hil, rfl⟩) n' hn'))
    have hlen : len * B ≤ reachBytes := by
      have h1 := hz ((((List.range len).map D).length + ((List.range (m - len)).map fun j => D (len + j)).length) * P.bytesOf e) (by
        rw [hxd]
        simp [DataW.weights, ht])
      rw [hBy] at h1
      refine Nat.le_trans (Nat.mul_le_mul_right B ?_) h1
      simp
    have each : ∀ i, i < len → ∃ q, (∀ j, j < K → w.cell? ((a.add (i * K)).add j) = (cells q)[j]?) ∧ Good q := fun i hil => by
      obtain ⟨cs', h1, h2⟩ := hi i (by omega)
      rw [hC] at h1
      obtain ⟨_, hcl, hat⟩ := World.cells?_some h1
      obtain ⟨q, hq, hg⟩ := hel n cs' _ hcl h2 (hsz i hil)
      exact ⟨q, fun j hj => by rw [hat j hj, hq, Array.getElem?_toList], hg⟩
    obtain ⟨f, hf⟩ := choose_lt each
    have hgd : ∀ i, i < len → ((List.range len).map f).getD i z = f i := fun i hil => by
      rw [List.getD_eq_getElem?_getD, List.getElem?_map, List.getElem?_range hil]; rfl
    refine ⟨some a, cap, (List.range len).map f, by simp, ?_, fun q hq => ?_, by simpa using hlen⟩
    · rw [List.length_map, List.length_range]
      intro hn
      obtain ⟨_, h0⟩ := hi 0 (by omega)
      obtain ⟨cs', h1, h2⟩ := hi 0 (by omega)
      rw [hC] at h1
      obtain ⟨_, hcl, hat⟩ := World.cells?_some h1
      have hc0 := hat 0 hK
      rw [show (a.add (0 * K)).add 0 = a by simp [Addr.add]] at hc0
      have hsome : cs'[0]? = some (cs'[0]'(by omega)) := List.getElem?_eq_getElem (by omega)
      rw [hsome] at hc0
      have hsp := spot_none hc0
      refine ⟨a.block, a.off, by rw [← hsp], World.block_lt_of_cell? w _ hc0, fun i hil j hj => ?_⟩
      show _ = (cells (((List.range len).map f).getD i z))[j]?
      rw [hgd i hil, ← (hf i hil).1 j hj]
      congr 1
      rw [hsp, Go.Deep.add_add]
      unfold Addr.add
      split
      · rename_i h9
        have h9' : i * K + j = 0 := by simpa using h9
        rw [Nat.add_assoc, h9']; rfl
      · rw [Nat.add_assoc]
    · obtain ⟨i, hir, rfl⟩ := List.mem_map.1 hq
      exact (hf i (List.mem_range.1 hir)).2
theorem takeL {l : List Value} {off : Nat} {v : Value} (h : (l.drop off).take 1 = [v]) : l[off]? = some v := by
  have : ((l.drop off).take 1)[0]? = some v := by rw [h]; rfl
  simpa [List.getElem?_take, List.getElem?_drop] using this
theorem at_int {t : TypeId} {k : IntKind} {m off : Nat} {l : List Value} {y : Option (DataW H × List MemPlace)} (ht : P.underlying t = some (.int k)) (hc : P.cellsOf t = 1) (hy : y ≠ none) (h : DataW.trod enc P w base spare held m t ((l.drop off).take (P.cellsOf t)) = y) :
    ∃ a, l[off]? = some (.int k a) ∧ (Lit.int k a).wf = true := by
  cases y with
  | none => exact absurd rfl hy
  | some y =>
    rw [hc] at h
    obtain ⟨a, e, _, hw⟩ := DataW.trod_int ht h
    exact ⟨a, takeL e, hw⟩
theorem at_str {t : TypeId} {m off : Nat} {l : List Value} {y : Option (DataW H × List MemPlace)} (ht : P.underlying t = some .string) (hc : P.cellsOf t = 1) (hy : y ≠ none) (h : DataW.trod enc P w base spare held m t ((l.drop off).take (P.cellsOf t)) = y) :
    ∃ s : ByteArray, l[off]? = some (.string s) ∧ s.size ≤ maxLen := by
  cases y with
  | none => exact absurd rfl hy
  | some y =>
    rw [hc] at h
    obtain ⟨a, e, _, hw⟩ := DataW.trod_string ht h
    exact ⟨a, takeL e, hw⟩
theorem at_bool {t : TypeId} {m off : Nat} {l : List Value} {y : Option (DataW H × List MemPlace)} (ht : P.underlying t = some .bool) (hc : P.cellsOf t = 1) (hy : y ≠ none) (h : DataW.trod enc P w base spare held m t ((l.drop off).take (P.cellsOf t)) = y) :
    ∃ b, l[off]? = some (.bool b) := by
  cases y with
  | none => exact absurd rfl hy
  | some y =>
    rw [hc] at h
    obtain ⟨b, e, _⟩ := DataW.trod_bool ht h
    exact ⟨b, takeL e⟩
/-- a field that is a slice -/
theorem at_slice {t e : TypeId} {m off : Nat} {l : List Value} {y : Option (DataW H × List MemPlace)} (ht : P.underlying t = some (.slice e)) (hc : P.cellsOf t = 1) (hy : y ≠ none) (h : DataW.trod enc P w base spare held m t ((l.drop off).take (P.cellsOf t)) = y) :
    ∃ v z, y = some z ∧ l[off]? = some v ∧ DataW.trod enc P w base spare held m t [v] = some z := by
  cases y with
  | none => exact absurd rfl hy
  | some y =>
    rw [hc] at h
    have h1 : ∃ v, (l.drop off).take 1 = [v] := by
      rcases open_slice ht h with ⟨hcs, _⟩ | ⟨a, len, cap, _, _, _, _, hcs, _⟩
      · exact ⟨_, hcs⟩
      · exact ⟨_, hcs⟩
    obtain ⟨v, hv⟩ := h1
    rw [hv] at h
    exact ⟨v, y, rfl, takeL hv, h⟩
end
def PrG (p : Pr) : Prop := U64P p.key ∧ p.val.size ≤ maxLen
instance : Inhabited Pr := ⟨prZ⟩
instance : Inhabited Dn := ⟨dnZ⟩
instance : Inhabited Er := ⟨erZ⟩
theorem list_ext_lt {l : List Value} {C : Array Value} (hl : l.length = C.size) (h : ∀ j, j < C.size → l[j]? = C[j]?) : l = C.toList := by
  apply List.ext_getElem?
  intro j
  by_cases hj : j < C.size
  · rw [h j hj, Array.getElem?_toList]
  · rw [List.getElem?_eq_none (by omega), List.getElem?_eq_none (by simp; omega)]
theorem sz_agg {H : Type} {P : Program} {t : TypeId} {fs : Array Field} {ds : List (DataW H)} (ht : P.underlying t = some (.struct fs)) (h : SzD P t (.agg ds)) {j : Nat} {f : Field} {d : DataW H} (hf : fs[j]? = some f) (hd : ds[j]? = some d) : SzD P f.type d := fun n hn => by
  refine h n ?_
  simp only [DataW.weights, ht]
  refine DataW.weights_mem_each (j := j) (t := f.type) ?_ hd n hn
  rw [List.getElem?_map, Array.getElem?_toList, hf]; rfl
section
variable {H : Type} {enc : TypeId × Value → H} {w : World} {base : Nat} {spare : Nat → Bool} {held : Bool}
theorem open_pr (n : Nat) (cs : List Value) (x : DataW H × List MemPlace) (hl : cs.length = 2) (h : DataW.trod enc Try.prog w base spare held n 59 cs = some x) (hz : SzD Try.prog 59 x.1) : ∃ q : Pr, cs = (prCells q).toList ∧ PrG q := by
  obtain ⟨xs, m, _, _, _, hxl, hx⟩ := DataW.trod_struct Try.underlying59 h
  have hs : ∀ i, i < 2 → xs[i]? ≠ none := fun i hi => by
    have : i < xs.length := by rw [hxl]; exact hi
    rw [List.getElem?_eq_getElem this]; simp
  obtain ⟨k, e0, w0⟩ := at_int Try.underlying24 (by kernel_rfl) (hs 0 (by omega)) (hx 0 _ rfl)
  obtain ⟨s, e1, w1⟩ := at_str Try.underlying9 (by kernel_rfl) (hs 1 (by omega)) (hx 1 _ rfl)
  refine ⟨⟨k, s⟩, list_ext_lt (by rw [hl]; rfl) (fun j hj => ?_), u64_bounds w0, w1⟩
  match j, hj with
  | 0, _ => exact e0
  | 1, _ => exact e1
theorem open_prs {fuel : Nat} {v : Value} {x : DataW H × List MemPlace} (h : DataW.trod enc Try.prog w base spare held fuel 22 [v] = some x) (hz : SzD Try.prog 22 x.1) :
    ∃ (a : Option Addr) (cap : Nat) (l : List Pr), v = .slice a l.length cap ∧ PrsAt w a l ∧ (∀ p ∈ l, PrG p) ∧ l.length * 24 ≤ reachBytes :=
  open_row prCells prZ PrG 2 24 (by decide) Try.underlying22 (by kernel_rfl) (by kernel_rfl) open_pr h hz
def DnG (w : World) (d : Dn) : Prop := U64P d.key ∧ DnV d ∧ PrsAt w d.pa d.ps ∧ (∀ p ∈ d.ps, PrG p) ∧ d.ps.length * 24 ≤ reachBytes
theorem nth_take {l : List Value} {a k j : Nat} {v : Value} (h : ((l.drop a).take k)[j]? = some v) : l[a + j]? = some v := by
  rw [List.getElem?_take] at h
  split at h
  · rwa [List.getElem?_drop] at h
  · cases h
set_option maxRecDepth 100000 in
theorem open_dn (n : Nat) (cs : List Value) (x : DataW H × List MemPlace) (hl : cs.length = 11) (h : DataW.trod enc Try.prog w base spare held n 53 cs = some x) (hz : SzD Try.prog 53 x.1) : ∃ q : Dn, cs = (dnCells q).toList ∧ DnG w q := by
  obtain ⟨xs, m, _, rfl, _, hxl, hx⟩ := DataW.trod_struct Try.underlying53 h
  have hs : ∀ i, i < 5 → xs[i]? ≠ none := fun i hi => by
    have : i < xs.length := by rw [hxl]; exact hi
    rw [List.getElem?_eq_getElem this]; simp
  obtain ⟨cl, e0, w0⟩ := at_int Try.underlying3 (by kernel_rfl) (hs 0 (by omega)) (hx 0 _ rfl)
  obtain ⟨bg, e6, w6⟩ := at_int Try.underlying3 (by kernel_rfl) (hs 2 (by omega)) (hx 2 _ rfl)
  obtain ⟨en, e7, w7⟩ := at_int Try.underlying3 (by kernel_rfl) (hs 3 (by omega)) (hx 3 _ rfl)
  have hca : DataW.trod enc Try.prog w base spare held m 41 ((cs.drop 1).take (Try.prog.cellsOf 41)) = xs[1]? := hx 1 _ rfl
  have hrs : DataW.trod enc Try.prog w base spare held m 51 ((cs.drop 8).take (Try.prog.cellsOf 51)) = xs[4]? := hx 4 _ rfl
  obtain ⟨xc, hxc⟩ : ∃ y, xs[1]? = some y := Option.ne_none_iff_exists'.1 (hs 1 (by omega))
  obtain ⟨xr, hxr⟩ : ∃ y, xs[4]? = some y := Option.ne_none_iff_exists'.1 (hs 4 (by omega))
  rw [hxc] at hca
  rw [hxr] at hrs
  rw [show Try.prog.cellsOf 41 = 5 from by kernel_rfl] at hca
  rw [show Try.prog.cellsOf 51 = 3 from by kernel_rfl] at hrs
  obtain ⟨ys, m2, _, rfl, _, hyl, hy⟩ := DataW.trod_struct Try.underlying41 hca
  obtain ⟨zs, m3, _, rfl, _, hzl, hzz⟩ := DataW.trod_struct Try.underlying51 hrs
  have hs2 : ∀ i, i < 5 → ys[i]? ≠ none := fun i hi => by
    have : i < ys.length := by rw [hyl]; exact hi
    rw [List.getElem?_eq_getElem this]; simp
  have hs3 : ∀ i, i < 3 → zs[i]? ≠ none := fun i hi => by
    have : i < zs.length := by rw [hzl]; exact hi
    rw [List.getElem?_eq_getElem this]; simp
  obtain ⟨op, e1, w1⟩ := at_int Try.underlying39 (by kernel_rfl) (hs2 0 (by omega)) (hy 0 _ rfl)
  obtain ⟨key, e2, w2⟩ := at_int Try.underlying24 (by kernel_rfl) (hs2 1 (by omega)) (hy 1 _ rfl)
  obtain ⟨hi, e3, w3⟩ := at_int Try.underlying24 (by kernel_rfl) (hs2 2 (by omega)) (hy 2 _ rfl)
  obtain ⟨lim, e4, w4⟩ := at_int Try.underlying3 (by kernel_rfl) (hs2 3 (by omega)) (hy 3 _ rfl)
  obtain ⟨val, e5, w5⟩ := at_str Try.underlying9 (by kernel_rfl) (hs2 4 (by omega)) (hy 4 _ rfl)
  obtain ⟨code, e8, w8⟩ := at_int Try.underlying27 (by kernel_rfl) (hs3 0 (by omega)) (hzz 0 _ rfl)
  obtain ⟨rv, e9, w9⟩ := at_str Try.underlying9 (by kernel_rfl) (hs3 1 (by omega)) (hzz 1 _ rfl)
  obtain ⟨v, z, hz1, e10, hsl⟩ := at_slice Try.underlying22 (by kernel_rfl) (hs3 2 (by omega)) (hzz 2 _ rfl)
  have hzr := sz_agg Try.underlying53 hz (j := 4) (d := .agg (zs.map (·.1))) rfl (by rw [List.getElem?_map, hxr]; rfl)
  have hzp := sz_agg Try.underlying51 hzr (j := 2) (d := z.1) rfl (by rw [List.getElem?_map, hz1]; rfl)
  obtain ⟨a, cap, l, rfl, hat, hg, hlen⟩ := open_prs hsl hzp
  refine ⟨⟨cl, op, key, hi, lim, val, bg, en, code, rv, a, cap, l⟩, list_ext_lt (by rw [hl]; rfl) (fun j hj => ?_), u64_bounds w2, w5, hat, hg, hlen⟩
  match j, hj with
  | 0, _ => exact e0
  | 1, _ => exact nth_take e1
  | 2, _ => exact nth_take e2
  | 3, _ => exact nth_take e3
  | 4, _ => exact nth_take e4
  | 5, _ => exact nth_take e5
  | 6, _ => exact e6
  | 7, _ => exact e7
  | 8, _ => exact nth_take e8
  | 9, _ => exact nth_take e9
  | 10, _ => exact nth_take e10
theorem open_dns {fuel : Nat} {v : Value} {x : DataW H × List MemPlace} (h : DataW.trod enc Try.prog w base spare held fuel 44 [v] = some x) (hz : SzD Try.prog 44 x.1) :
    ∃ (a : Option Addr) (cap : Nat) (l : List Dn), v = .slice a l.length cap ∧ DnsAt w a l ∧ (∀ d ∈ l, DnG w d) ∧ l.length * 120 ≤ reachBytes := by
  obtain ⟨a, cap, l, e, h1, h2, h3⟩ := open_row dnCells dnZ (DnG w) 11 120 (by decide) Try.underlying44 (by kernel_rfl) (by kernel_rfl) open_dn h hz
  exact ⟨a, cap, l, e, ⟨h1, fun d hd => (h2 d hd).2.2.1⟩, h2, h3⟩
def ErG (w : World) (e : Er) : Prop := DnsAt w e.ca e.cs ∧ (∀ d ∈ e.cs, DnG w d) ∧ e.cs.length * 120 ≤ reachBytes ∧ PrsAt w e.aa e.af ∧ (∀ p ∈ e.af, PrG p) ∧ e.af.length * 24 ≤ reachBytes
set_option maxRecDepth 100000 in
theorem open_er (n : Nat) (cs : List Value) (x : DataW H × List MemPlace) (hl : cs.length = 3) (h : DataW.trod enc Try.prog w base spare held n 46 cs = some x) (hz : SzD Try.prog 46 x.1) : ∃ q : Er, cs = (erCells q).toList ∧ ErG w q := by
  obtain ⟨xs, m, _, rfl, _, hxl, hx⟩ := DataW.trod_struct Try.underlying46 h
  have hs : ∀ i, i < 3 → xs[i]? ≠ none := fun i hi => by
    have : i < xs.length := by rw [hxl]; exact hi
    rw [List.getElem?_eq_getElem this]; simp
  obtain ⟨v0, z0, hz0, e0, t0⟩ := at_slice Try.underlying44 (by kernel_rfl) (hs 0 (by omega)) (hx 0 _ rfl)
  obtain ⟨v1, z1, hz1, e1, t1⟩ := at_slice Try.underlying22 (by kernel_rfl) (hs 1 (by omega)) (hx 1 _ rfl)
  obtain ⟨kn, e2⟩ := at_bool Try.underlying4 (by kernel_rfl) (hs 2 (by omega)) (hx 2 _ rfl)
  have s0 := sz_agg Try.underlying46 hz (j := 0) (d := z0.1) rfl (by rw [List.getElem?_map, hz0]; rfl)
  have s1 := sz_agg Try.underlying46 hz (j := 1) (d := z1.1) rfl (by rw [List.getElem?_map, hz1]; rfl)
  obtain ⟨a0, c0, l0, rfl, h01, h02, h03⟩ := open_dns t0 s0
  obtain ⟨a1, c1, l1, rfl, h11, h12, h13⟩ := open_prs t1 s1
  refine ⟨⟨a0, c0, l0, a1, c1, l1, kn⟩, list_ext_lt (by rw [hl]; rfl) (fun j hj => ?_), h01, h02, h03, h11, h12, h13⟩
  match j, hj with
  | 0, _ => exact e0
  | 1, _ => exact e1
  | 2, _ => exact e2
theorem open_ers {fuel : Nat} {v : Value} {x : DataW H × List MemPlace} (h : DataW.trod enc Try.prog w base spare held fuel 23 [v] = some x) (hz : SzD Try.prog 23 x.1) :
    ∃ (a : Option Addr) (cap : Nat) (l : List Er), v = .slice a l.length cap ∧ ErsAt w a l ∧ (∀ e ∈ l, ErG w e) ∧ l.length * 56 ≤ reachBytes := by
  obtain ⟨a, cap, l, e, h1, h2, h3⟩ := open_row erCells erZ (ErG w) 3 56 (by decide) Try.underlying23 (by kernel_rfl) (by kernel_rfl) open_er h hz
  exact ⟨a, cap, l, e, ⟨h1, fun d hd => ⟨(h2 d hd).1, (h2 d hd).2.2.2.1⟩⟩, h2, h3⟩
end
end Go.Proofs.Ytdmcakoaakinnaa
namespace Go.Proofs.Ytdmcakoaakinnaa
open Go.RowKit
attribute [local go_sem] Oper.semAt_some
set_option linter.unusedVariables false
set_option linter.unusedSimpArgs false

set_option maxRecDepth 100000 in
set_option maxHeartbeats 4000000 in
theorem rcrowd_v (l : List Dn) (a : Option Addr) (cap : Nat) (w : World) (hm : l.length ≤ 12) (hE : DnsAt w a l) :
    Calls Try.prog 27 #[.slice a l.length cap] w fun e w' => e = .returned (.bool false) ∧ Below w.heap.size w w' := by
  have HE := Lib.hid hE
  obtain ⟨cn, hcn⟩ : ∃ cn, l.length = cn := ⟨_, rfl⟩
  have HCN := Lib.hid hcn
  rw [hcn] at hm ⊢
  have hcn6 : (cn : Int) ≤ 12 := by omega
  clear hE hcn
  go_enter Try.func27, Try.ntmps27
  go_wp2_with (fail)
  go_loopw [3] (fun iv wr => ∃ i : Nat, i ≤ cn ∧ iv = .int .i64 i ∧ Below w.heap.size w wr) (fun iv _ => cn - (intOf iv).toNat)
  case atStart => exact ⟨0, Nat.zero_le _, rfl, Below.refl _ _⟩
  case round =>
    obtain ⟨i, hi, rfl, hB⟩ := hrel
    have HB := Lib.hid hB
    by_cases hit : i < cn
    · have hib : (i : Int) < (cn : Int) := by omega
      have HIt := Lib.hid hit
      clear hB hit hi
      obtain ⟨wo, rfl⟩ : ∃ wo : World, wo = wr := ⟨_, rfl⟩
      go_wp2_with (fail)
      go_loopw [4, 5] (fun nv qv wz => ∃ q c : Nat, q ≤ cn ∧ c ≤ q ∧ qv = .int .i64 q ∧ nv = .int .i64 c ∧ Below w.heap.size w wz) (fun _ qv _ => cn - (intOf qv).toNat)
      case atStart => exact ⟨0, 0, Nat.zero_le _, Nat.le_refl _, rfl, rfl, HB.out⟩
      case round =>
        obtain ⟨q, c, hq, hcq, rfl, rfl, hB⟩ := hrel
        have HB2 := Lib.hid hB
        by_cases hqt : q < cn
        · have hqb : (q : Int) < (cn : Int) := by omega
          have hcb : (c : Int) ≤ 12 := by omega
          obtain ⟨g, o, rfl, hg, hc⟩ := (HE.out.below hB).cell (k := q) (by rw [HCN.out]; exact hqt)
          obtain ⟨g', o', he', _, hc'⟩ := (HE.out.below hB).cell (k := i) (by rw [HCN.out]; exact HIt.out)
          cases he'
          obtain ⟨d, hd⟩ : ∃ x, l.getD q dnZ = x := ⟨_, rfl⟩
          obtain ⟨d2, hd2⟩ : ∃ x, l.getD i dnZ = x := ⟨_, rfl⟩
          rw [hd] at hc
          rw [hd2] at hc'
          have x6 : wr.cell? ⟨g, o + q * 11 + 6, none⟩ = some (.int .i64 d.bg) := hc 6 _ rfl
          have x7 : wr.cell? ⟨g, o + q * 11 + 7, none⟩ = some (.int .i64 d.en) := hc 7 _ rfl
          have y6 : wr.cell? ⟨g, o + i * 11 + 6, none⟩ = some (.int .i64 d2.bg) := hc' 6 _ rfl
          have HQt := Lib.hid hqt
          have HCq := Lib.hid hcq
          clear hc hc' hd hd2 hB hqt hq hcq
          cases h1 : decide (d.bg ≤ d2.bg) <;> cases h2 : decide (d.en < 0) <;> cases h3 : decide (d2.bg ≤ d.en)
          all_goals
            as_aux_lemma =>
              go_wp2_with (fail)
              go_quiet (fail)
              go_wp2_with (fail)
              go_roundw
              case rel => first | exact ⟨q + 1, c, HQt.out, Nat.le_succ_of_le HCq.out, by go_num, rfl, below_drewNL HB2.out _⟩ | exact ⟨q + 1, c + 1, HQt.out, Nat.succ_le_succ HCq.out, by go_num, by go_num, below_drewNL HB2.out _⟩
              case measure => have := HQt.out; simp [intOf]; omega
        · have hqb : ¬ (q : Int) < (cn : Int) := by omega
          have hcb : ¬ (12 : Int) < (c : Int) := by omega
          have hcb2 : (c : Int) ≤ 12 := by omega
          clear hB hqt hq hcq
          go_wp2_with (fail)
          go_roundw
          case rel => exact ⟨i + 1, HIt.out, by go_num, HB2.out⟩
          case measure => have := HIt.out; simp [intOf]; omega
    · have hib : ¬ (i : Int) < (cn : Int) := by omega
      clear hB hit hi
      go_wp2_with (fail)
      go_ret
      exact ⟨rfl, HB.out⟩
theorem wrap_in {x : Int} (h0 : -9223372036854775808 ≤ x) (h1 : x ≤ 9223372036854775807) : wrap64 x = x := by unfold wrap64; omega
theorem wrap_add (a b : Int) : wrap64 (wrap64 a + b) = wrap64 (a + b) := by unfold wrap64; omega
def callsN (l : List Er) : Nat := (l.map fun e => e.cs.length).sum
theorem callsN_succ (l : List Er) (k : Nat) (h : k < l.length) : callsN (l.take (k + 1)) = callsN (l.take k) + (l.getD k erZ).cs.length := by
  unfold callsN
  rw [List.take_add_one, List.getElem?_eq_getElem h, List.map_append, List.sum_append, getD_eq l k erZ h]
  simp
def ManyQ (l : List Er) (w : World) (e : Ending) (w' : World) : Prop := ∃ p : Int, e = .returned (.tuple #[.int .i64 (wrap64 (callsN l)), .int .i64 p]) ∧ w = w'
theorem ErsAt.cell {w : World} {a : Option Addr} {l : List Er} (h : ErsAt w a l) {k : Nat} (hk : k < l.length) : ∃ g o, a = some ⟨g, o, none⟩ ∧ g < w.heap.size ∧ ∀ j v, (erCells (l.getD k erZ))[j]? = some v → w.cell? ⟨g, o + k * 3 + j, none⟩ = some v := by
  obtain ⟨g, o, e, hg, hc⟩ := h.at_ hk
  exact ⟨g, o, e, hg, hc⟩
set_option maxRecDepth 100000 in
set_option maxHeartbeats 4000000 in
theorem many_v (first : List Pr) (l : List Er) (a1 a2 : Option Addr) (c1 c2 : Nat) (w : World) (hm1 : first.length ≤ 9223372036854775807) (hm : l.length ≤ 9223372036854775807) (hL : ∀ e ∈ l, ErL e) (hE : ErsAt w a2 l) :
    Calls Try.prog 15 #[.slice a1 first.length c1, .slice a2 l.length c2] w (ManyQ l w) := by
  have HE := Lib.hid hE
  have HL := Lib.hid hL
  clear hE hL
  go_enter Try.func15, Try.ntmps15
  go_wp2_with (fail)
  go_loop [6, 7, 8] (fun nv pv iv => ∃ (k : Nat) (n p : Int), k ≤ l.length ∧ iv = .int .i64 k ∧ nv = .int .i64 n ∧ pv = .int .i64 p ∧ Hid (n = wrap64 (callsN (l.take k)))) (fun _ _ iv => l.length - (intOf iv).toNat)
  case atStart => exact ⟨0, 0, _, Nat.zero_le _, rfl, rfl, rfl, Lib.hid (by simp [callsN, wrap64])⟩
  case round =>
    obtain ⟨k, n, p, hk, rfl, rfl, rfl, hN⟩ := hrel
    by_cases hlt : k < l.length
    · obtain ⟨g, o, rfl, hg, hc⟩ := HE.out.cell hlt
      obtain ⟨e, he⟩ : ∃ x, l.getD k erZ = x := ⟨_, rfl⟩
      rw [he] at hc
      have hmem : e ∈ l := by rw [← he]; exact getD_memL l k erZ hlt
      have d0 : w.cell? ⟨g, o + k * 3, none⟩ = some (.slice e.ca e.cs.length e.cc) := hc 0 _ rfl
      have d1 : w.cell? ⟨g, o + k * 3 + 1, none⟩ = some (.slice e.aa e.af.length e.ac) := hc 1 _ rfl
      have HS := Lib.hid (show wrap64 (n + e.cs.length) = wrap64 (callsN (l.take (k + 1))) from by rw [hN.out, wrap_add, callsN_succ l k hlt, he]; congr 1)
      have HLt := Lib.hid hlt
      have HEr := Lib.hid (HE.out.2 e hmem)
      have HErL := Lib.hid (HL.out e hmem)
      have hkb : (k : Int) < (l.length : Int) := by omega
      have hem : e.cs.length ≤ 9223372036854775807 := HErL.out.1
      obtain ⟨n2, hn2⟩ : ∃ n2, wrap64 (n + e.cs.length) = n2 := ⟨_, rfl⟩
      rw [hn2] at HS
      clear hc he hmem hlt hk
      go_upto_region 6 with (fail)
      rw [hn2]
      clear hn2
      go_wp2_with (fail)
      obtain ⟨p2, hp2⟩ : ∃ p2, wrap64 (p + e.af.length) = p2 := ⟨_, rfl⟩
      rw [hp2]
      clear hp2
      go_loop [7, 9] (fun pv jv => ∃ (j : Nat) (p : Int), j ≤ e.cs.length ∧ jv = .int .i64 j ∧ pv = .int .i64 p) (fun _ jv => e.cs.length - (intOf jv).toNat)
      case atStart => exact ⟨0, _, Nat.zero_le _, rfl, rfl⟩
      case round =>
        obtain ⟨j, p3, hj, rfl, rfl⟩ := hrel
        by_cases hjt : j < e.cs.length
        · obtain ⟨g2, o2, hca, hg2, hc2⟩ := HEr.out.1.cell hjt
          obtain ⟨d, hd⟩ : ∃ x, e.cs.getD j dnZ = x := ⟨_, rfl⟩
          rw [hd] at hc2
          rw [hca] at d0
          have x10 : w.cell? ⟨g2, o2 + j * 11 + 10, none⟩ = some (.slice d.pa d.ps.length d.pc) := hc2 10 _ rfl
          have HJt := Lib.hid hjt
          have hjb : (j : Int) < (e.cs.length : Int) := by omega
          clear hc2 hd hjt hj hca
          go_wp2_with (fail)
          go_round
          case rel => exact ⟨j + 1, _, HJt.out, by go_num, rfl⟩
          case measure => have := HJt.out; simp [intOf]; omega
        · have hjb : ¬ (j : Int) < (e.cs.length : Int) := by omega
          clear hjt hj
          go_wp2_with (fail)
          go_round
          case rel => exact ⟨k + 1, n2, _, HLt.out, by go_num, rfl, rfl, HS⟩
          case measure => have := HLt.out; simp [intOf]; omega
    · have hkb : ¬ (k : Int) < (l.length : Int) := by omega
      have HS := Lib.hid (show n = wrap64 (callsN l) from by rw [hN.out, List.take_of_length_le (by omega)])
      clear hlt hk
      go_wp2_with (fail)
      go_ret2
      exact ⟨_, by rw [HS.out]; rfl, rfl⟩
def FewQ (l : List Er) (m : Int) (w : World) (e : Ending) (w' : World) : Prop := ∃ b : Bool, e = .returned (.bool b) ∧ (b = true → (l.length : Int) ≤ 4 ∧ wrap64 (callsN l) ≤ m) ∧ w = w'
set_option maxRecDepth 100000 in
theorem few_v (first : List Pr) (l : List Er) (a1 a2 : Option Addr) (c1 c2 : Nat) (m : Int) (w : World) (hm1 : first.length ≤ 9223372036854775807) (hm : l.length ≤ 9223372036854775807) (hL : ∀ e ∈ l, ErL e) (hE : ErsAt w a2 l) :
    Calls Try.prog 7 #[.slice a1 first.length c1, .slice a2 l.length c2, .int .i64 m] w (FewQ l m w) := by
  have HM := Lib.hid (many_v first l a1 a2 c1 c2 w hm1 hm hL hE)
  clear hE hL
  obtain ⟨n, hn⟩ : ∃ n, wrap64 (callsN l) = n := ⟨_, rfl⟩
  unfold FewQ
  rw [hn]
  have HN := Lib.hid hn
  clear hn
  go_enter Try.func7, Try.ntmps7
  go_wp2_with (fail)
  refine HM.out.mono ?_
  rintro e w1 ⟨p, rfl, rfl⟩
  rw [HN.out]
  cases h1 : decide ((l.length : Int) ≤ 4) with
  | false =>
    go_wp2_with (fail)
    go_ret
    exact ⟨false, rfl, fun h => absurd h (by simp), rfl⟩
  | true =>
    have H1 := Lib.hid (of_decide_eq_true h1)
    cases h2 : decide (n ≤ m) with
    | false =>
      go_wp2_with (fail)
      go_ret
      exact ⟨false, rfl, fun h => absurd h (by simp), rfl⟩
    | true =>
      have H2 := Lib.hid (of_decide_eq_true h2)
      go_wp2_with (fail)
      go_ret
      exact ⟨_, rfl, fun _ => ⟨H1.out, H2.out⟩, rfl⟩
def RKeyQ (key : Int) (first : List Pr) (l : List Er) (w : World) (e : Ending) (w' : World) : Prop :=
  ∃ b : Bool, e = .returned (.tuple #[.bool b, .int .i64 (if mayP first l = false then 2 else 0)]) ∧ (b = true ↔ mayP first l = true ∧ KeyT key first l) ∧ Below w.heap.size w w'
set_option maxRecDepth 100000 in
set_option maxHeartbeats 8000000 in
theorem rkey_v (key : Int) (first : List Pr) (l : List Er) (a1 a2 : Option Addr) (c1 c2 : Nat) (w : World) (hb : FitB l) (hn : ∀ e ∈ l, e.cs.length ≤ 12) (hm1 : first.length ≤ 9223372036854775807) (hF : PrsAt w a1 first) (hE : ErsAt w a2 l) :
    Calls Try.prog 10 #[.int .u64 key, .slice a1 first.length c1, .slice a2 l.length c2] w (RKeyQ key first l w) := by
  have HMy := Lib.hid (rmay_v first l a1 a2 c1 c2 w hm1 (by have := hb.n; omega) (fun e he => (hb.e e he).1) hF hE)
  have HE := Lib.hid hE
  have HF := Lib.hid hF
  have HBn := Lib.hid (And.intro hb (And.intro hn hm1))
  have HRk := Lib.hid (show ∀ w e w', RKeyQ key first l w e w' = ∃ b : Bool, e = .returned (.tuple #[.bool b, .int .i64 (if mayP first l = false then 2 else 0)]) ∧ (b = true ↔ mayP first l = true ∧ KeyT key first l) ∧ Below w.heap.size w w' from fun _ _ _ => rfl)
  have hm : (l.length : Int) ≤ 1000000 := by have := hb.n; omega
  clear hb hn hm1 hF hE
  go_enter Try.func10, Try.ntmps10
  go_wp2_with (fail)
  refine HMy.out.mono ?_
  rintro e w1 ⟨rfl, hB1⟩
  have HB1 := Lib.hid hB1
  clear hB1
  cases hmy : mayP first l with
  | false =>
    have HMf := Lib.hid hmy
    clear hmy
    go_wp2_with (fail)
    go_ret2
    rw [HRk.out, HMf.out]
    exact ⟨false, rfl, ⟨fun h => absurd h (by simp), fun h => absurd h.1 (by simp)⟩, HB1.out⟩
  | true =>
    have HMf := Lib.hid hmy
    clear hmy
    go_wp2_with (fail)
    go_loopw [8] (fun iv wr => ∃ k : Nat, k ≤ l.length ∧ iv = .int .i64 k ∧ Below w.heap.size w wr) (fun iv _ => l.length - (intOf iv).toNat)
    case atStart => exact ⟨0, Nat.zero_le _, rfl, HB1.out⟩
    case round =>
      obtain ⟨k, hk, rfl, hB⟩ := hrel
      have HB := Lib.hid hB
      by_cases hlt : k < l.length
      · obtain ⟨g, o, rfl, hg, hc⟩ := (HE.out.below hB).at_ hlt
        obtain ⟨e, he⟩ : ∃ x, l.getD k erZ = x := ⟨_, rfl⟩
        rw [he] at hc
        have HCl := Lib.hid hc
        have HLt := Lib.hid hlt
        have HMem := Lib.hid (show e ∈ l from by rw [← he]; exact getD_memL l k erZ hlt)
        have HEb := Lib.hid (HBn.out.1.e e HMem.out)
        have HEa := Lib.hid ((HE.out.below hB).2 e HMem.out)
        have HOf := Lib.hid (rof_v key e wr HEb.out.1 HEb.out.2 HEa.out.1)
        have hkb : (k : Int) < (l.length : Int) := by omega
        clear hc he hB hlt hk
        go_upto_region 6 with (fail)
        go_step
        refine wpList_plain rfl (fun K hK => ?_)
        go_simp
        refine hK _ _ ?_
        clear hK K
        refine wpList_plain rfl (fun K hK => ?_)
        go_simp
        refine hK _ _ ?_
        clear hK K
        refine wpList_plain rfl (fun K hK => ?_)
        go_simp
        refine hK _ _ ?_
        clear hK K
        refine wpList_idx_er rfl rfl (.tmp 23) (.tmp 24) 25 rfl rfl rfl g o l.length c2 k e (ev_tmp (by first | (simp [Act.put]; done) | rfl)) (ev_tmp (by first | (simp [Act.put]; done) | rfl)) HLt.out (by first | (simp [Act.put]; done) | rfl) HCl.out ?_
        go_wp2_with (fail)
        refine HOf.out.mono ?_
        rintro e1 w2 ⟨v1, rfl, ho1, hB2⟩
        obtain ⟨ca, cc, rfl, hdn, _⟩ := own_dnsAt ho1 (ofP_prs (HEa.out.1.below hB2))
        have HC12 := Lib.hid (show (ofP key e.cs).length ≤ 12 from Nat.le_trans (ofP_len key e.cs) (HBn.out.2.1 e HMem.out))
        have HCr := Lib.hid (rcrowd_v (ofP key e.cs) ca cc w2 HC12.out hdn)
        have HB2 := Lib.hid (HB.out.trans (hB2.mono HB.out.size))
        obtain ⟨cn, hcn⟩ : ∃ cn, (ofP key e.cs).length = cn := ⟨_, rfl⟩
        rw [hcn] at HCr HC12 ⊢
        have hc60 : ¬ (60 : Int) < (cn : Int) := by have := HC12.out; omega
        have hc61 : (cn : Int) ≤ 60 := by omega
        clear ho1 hdn hB2 hcn
        go_wp2_with (fail)
        refine HCr.out.mono ?_
        rintro e2 w3 ⟨rfl, hB3⟩
        have HB3 := Lib.hid (HB2.out.trans (hB3.mono HB2.out.size))
        clear hB3
        go_wp2_with (fail)
        go_roundw
        case rel => exact ⟨k + 1, HLt.out, by go_num, HB3.out⟩
        case measure => have := HLt.out; simp [intOf]; omega
      · have hkb : ¬ (k : Int) < (l.length : Int) := by omega
        obtain ⟨vv, hvv⟩ : ∃ vv, (valueP first key).1 = vv := ⟨_, rfl⟩
        obtain ⟨vb, hvb⟩ : ∃ vb, (valueP first key).2 = vb := ⟨_, rfl⟩
        have HVl := Lib.hid (rvalue_v first key a1 c1 wr HBn.out.2.2 (HF.out.below hB))
        rw [hvv, hvb] at HVl
        have HFt := Lib.hid (fits_v key l a2 c2 HBn.out.1 (leftN key (l.drop 0) ⟨0, vb, vv⟩ + 1) 0 ⟨0, vb, vv⟩ none 0 0 wr (Nat.zero_le _) (Nat.lt_succ_self _) (.inl ⟨rfl, rfl⟩) (HE.out.below hB))
        have HKf := Lib.hid (show KeyT key first l ↔ FitsL key (l.drop 0) ⟨0, vb, vv⟩ from by rw [keyT_fits]; unfold startS; rw [hvv, hvb, List.drop_zero])
        clear hB hlt hk hvv hvb
        go_wp2_with (fail)
        refine HVl.out.mono ?_
        rintro e2 w2 ⟨rfl, rfl⟩
        go_wp2_with (fail)
        refine HFt.out.mono ?_
        rintro e3 w3 ⟨b, rfl, hb3, hB3⟩
        have HB3 := Lib.hid (HB.out.trans (hB3.mono HB.out.size))
        have Hb3 := Lib.hid hb3
        clear hb3 hB3
        go_wp2_with (fail)
        go_ret2
        rw [HRk.out, HMf.out]
        exact ⟨b, rfl, ⟨fun h => ⟨rfl, HKf.out.2 (Hb3.out.1 h)⟩, fun h => Hb3.out.2 (HKf.out.1 h.2)⟩, HB3.out⟩
theorem le_callsN {l : List Er} {e : Er} (h : e ∈ l) : e.cs.length ≤ callsN l := by
  unfold callsN
  induction l with
  | nil => cases h
  | cons x r ih =>
    simp only [List.map_cons, List.sum_cons]
    rcases List.mem_cons.1 h with rfl | h
    · omega
    · have := ih h; omega
theorem callsN_le {l : List Er} {B : Nat} (h : ∀ e ∈ l, e.cs.length ≤ B) : callsN l ≤ l.length * B := by
  unfold callsN
  induction l with
  | nil => simp
  | cons x r ih =>
    simp only [List.map_cons, List.sum_cons, List.length_cons]
    have h1 := h x List.mem_cons_self
    have h2 := ih (fun e he => h e (List.mem_cons_of_mem _ he))
    rw [Nat.succ_mul]
    omega
set_option maxRecDepth 100000 in
set_option maxHeartbeats 8000000 in
theorem lkey_v (first : List Pr) (l : List Er) (key : Int) (a1 a2 : Option Addr) (c1 c2 : Nat) (w : World) (hm1 : first.length ≤ 9223372036854775807) (hm : l.length ≤ 9223372036854775807) (hL : ∀ e ∈ l, ErL e) (hB : ∀ e ∈ l, e.cs.length ≤ 4611686018427387903 / 4) (hfv : ∀ p ∈ first, p.val.size ≤ maxLen) (hdv : ∀ e ∈ l, ∀ d ∈ e.cs, DnV d)
    (hF : PrsAt w a1 first) (hE : ErsAt w a2 l) :
    Calls Try.prog 3 #[.slice a1 first.length c1, .slice a2 l.length c2, .int .u64 key] w fun e w' => e = .returned (.bool true) ∧ Below w.heap.size w w' := by
  have HFw := Lib.hid (few_v first l a1 a2 c1 c2 9 w hm1 hm hL hE)
  have HF := Lib.hid hF
  have HE := Lib.hid hE
  have HL := Lib.hid (And.intro hm1 (And.intro hL (And.intro hB (And.intro hfv hdv))))
  clear hF hE hL hB hfv hdv hm1 hm
  go_enter Try.func3, Try.ntmps3
  go_wp2_with (fail)
  refine HFw.out.mono ?_
  rintro e w1 ⟨b, rfl, hb, rfl⟩
  cases b with
  | false =>
    clear hb
    go_wp2_with (fail)
    refine (known_v w).mono ?_
    rintro e w2 ⟨rfl, hB2⟩
    go_wp2_with (fail)
    go_ret
    exact ⟨rfl, hB2⟩
  | true =>
    have HS := Lib.hid (show l.length ≤ 4 ∧ ∀ e ∈ l, e.cs.length ≤ 9 from by
      obtain ⟨h1, h2⟩ := hb rfl
      have h4 : l.length ≤ 4 := by omega
      have h5 := callsN_le HL.out.2.2.1
      have h6 : callsN l ≤ 4611686018427387903 := Nat.le_trans h5 (Nat.le_trans (Nat.mul_le_mul_right _ h4) (by decide))
      rw [wrap_in (by omega) (by omega)] at h2
      exact ⟨h4, fun e he => by have := le_callsN he; omega⟩)
    have HK := Lib.hid (key_v key first l a1 a2 c1 c2 w _ (KeyB.small (key := key) (first := first) (l := l) (fun e he => Nat.le_trans (HS.out.2 e he) (by decide)) (Nat.le_trans HS.out.1 (by decide)) HL.out.2.2.2.1 HL.out.2.2.2.2) HL.out.1 (Nat.le_trans HS.out.1 (by decide)) HL.out.2.1 (fun e he => Nat.le_trans (HS.out.2 e he) (by decide)) HL.out.2.2.2.2 HF.out HE.out)
    have HKe := Lib.hid (show keyE key first l = if mayP first l = false then 2 else 0 from by
      unfold keyE
      have hn : l.any (longP key) = false := by
        rw [List.any_eq_false]
        intro e he
        have h1 : (ofP key e.cs).length ≤ 9 := Nat.le_trans (ofP_len key e.cs) (HS.out.2 e he)
        have h2 : crowdP (ofP key e.cs) = false := by
          unfold crowdP
          rw [List.any_eq_false]
          intro d _
          have h3 := List.length_filter_le (fun x => decide (x.bg ≤ d.bg) && !aheadP x d) (ofP key e.cs)
          simp only [decide_eq_true_eq]
          omega
        unfold longP
        rw [h2, Bool.or_false]
        simp only [decide_eq_true_eq]
        omega
      rw [hn]
      by_cases hmy : mayP first l = false
      · rw [if_pos hmy, if_pos hmy]
      · rw [if_neg hmy, if_neg hmy, if_neg (by simp)])
    clear hb
    go_wp2_with (fail)
    refine HK.out.mono ?_
    rintro e w2 ⟨b1, rfl, hb1, hB2⟩
    rw [HKe.out] at hb1
    rw [HKe.out]
    have Hb1 := Lib.hid hb1
    have HB2 := Lib.hid hB2
    have HRk := Lib.hid (rkey_v key first l a1 a2 c1 c2 w2 ⟨Nat.le_trans HS.out.1 (by decide), fun e he => ⟨HL.out.2.1 e he, Nat.le_trans (HS.out.2 e he) (by decide)⟩⟩ (fun e he => Nat.le_trans (HS.out.2 e he) (by decide)) HL.out.1 (HF.out.below hB2) (HE.out.below hB2))
    obtain ⟨cd, hcd⟩ : ∃ cd : Int, (if mayP first l = false then (2 : Int) else 0) = cd := ⟨_, rfl⟩
    unfold RKeyQ at HRk
    rw [hcd] at HRk ⊢
    have HCd := Lib.hid hcd
    clear hb1 hB2 hcd
    go_wp2_with (fail)
    refine HRk.out.mono ?_
    rintro e w3 ⟨b2, rfl, hb2, hB3⟩
    have HB3 := Lib.hid (HB2.out.trans (hB3.mono HB2.out.size))
    have heq : b1 = b2 := by
      rw [Bool.eq_iff_iff, Hb1.out, hb2]
      constructor
      · rintro ⟨h1, h2⟩
        refine ⟨?_, h2⟩
        cases hmy : mayP first l with
        | true => rfl
        | false => rw [hmy, if_pos rfl] at h1; exact absurd h1 (by decide)
      · rintro ⟨h1, h2⟩
        exact ⟨by rw [h1, if_neg (by simp)], h2⟩
    subst heq
    clear hb2 hB3
    cases b1
    all_goals
      go_wp2_with (fail)
      refine (known_v w3).mono ?_
      rintro e w4 ⟨rfl, hB4⟩
      go_wp2_with (fail)
      go_ret
      exact ⟨rfl, HB3.out.trans (hB4.mono HB3.out.size)⟩
end Go.Proofs.Ytdmcakoaakinnaa
