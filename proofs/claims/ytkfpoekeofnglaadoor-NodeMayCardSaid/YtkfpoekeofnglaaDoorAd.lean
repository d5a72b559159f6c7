/-
  slices.DeleteFunc at entries, node.Active: contracts.
-/
import Derived.Test.YtkfpoekeofnglaaDoorAc
import Derived.Laws.OwnMore
import Derived.Deep.DeepCutAuto
namespace Go.Proofs.YtkfpoekeofnglaaDoor
open Go.RowKit
set_option linter.unusedVariables false

/-! ### plain -/
theorem keepL_take {has : Bool} {high : Int} {l : List (Int × Int)} {j : Nat} (hj : j < l.length) :
    keepL has high (l.take (j + 1)) = if cutB has high (eK l j) = true then keepL has high (l.take j) else keepL has high (l.take j) ++ [(eK l j, eP l j)] := by
  have e : l[j] = (eK l j, eP l j) := by simp [eK, eP, List.getD, hj]
  unfold keepL
  rw [List.take_succ_eq_append_getElem hj, List.filter_append, e]
  cases h : cutB has high (eK l j) <;> simp [h]
theorem keepL_none {has : Bool} {high : Int} {l : List (Int × Int)} (h : ∀ j, j < l.length → cutB has high (eK l j) = false) : keepL has high l = l := by
  unfold keepL
  rw [List.filter_eq_self]
  intro e he
  obtain ⟨j, hj, rfl⟩ := List.getElem_of_mem he
  have := h j hj
  simp [eK, List.getD, hj] at this
  simp [this]
theorem keepL_len (has : Bool) (high : Int) (l : List (Int × Int)) : (keepL has high l).length ≤ l.length := List.length_filter_le _ _
theorem keepL_upto {has : Bool} {high : Int} {l : List (Int × Int)} {k : Nat} (hk : k ≤ l.length) (h : ∀ j, j < k → cutB has high (eK l j) = false) : keepL has high (l.take k) = l.take k := by
  refine keepL_none (fun j hj => ?_)
  have hjk : j < k := by simp at hj; omega
  have := h j hjk
  unfold eK at *
  simpa [List.getD, hjk] using this
/-- the row on the way: i kept, j looked at -/
structure DelI (has : Bool) (high : Int) (l d : List (Int × Int)) (i j : Nat) : Prop where
  len : d.length = l.length
  lt : i < j
  le : j ≤ l.length
  low : d.take i = keepL has high (l.take j)
  high : d.drop j = l.drop j
theorem DelI.cnt {has : Bool} {high : Int} {l d : List (Int × Int)} {i j : Nat} (h : DelI has high l d i j) : (keepL has high (l.take j)).length = i := by
  rw [← h.low]; have := h.len; have := h.lt; have := h.le; simp; omega
theorem DelI.start {has : Bool} {high : Int} {l : List (Int × Int)} {k : Nat} (hk : k < l.length) (h : ∀ j, j < k → cutB has high (eK l j) = false) (hc : cutB has high (eK l k) = true) : DelI has high l l k (k + 1) :=
  ⟨rfl, by omega, by omega, by rw [keepL_take hk, if_pos hc, keepL_upto (by omega) h], rfl⟩
theorem DelI.get {has : Bool} {high : Int} {l d : List (Int × Int)} {i j : Nat} (h : DelI has high l d i j) (hj : j < l.length) : eK d j = eK l j ∧ eP d j = eP l j := by
  have h1 : d[j]? = l[j]? := by
    have := congrArg (fun x => x[0]?) h.high
    simpa using this
  unfold eK eP
  simp [List.getD, h1]
theorem DelI.skip {has : Bool} {high : Int} {l d : List (Int × Int)} {i j : Nat} (h : DelI has high l d i j) (hj : j < l.length) (hc : cutB has high (eK l j) = true) : DelI has high l d i (j + 1) :=
  ⟨h.len, by have := h.lt; omega, by omega, by rw [keepL_take hj, if_pos hc]; exact h.low, by
    have := congrArg (fun x => x.drop 1) h.high
    simpa [Nat.add_comm] using this⟩
theorem DelI.keep {has : Bool} {high : Int} {l d : List (Int × Int)} {i j : Nat} (h : DelI has high l d i j) (hj : j < l.length) (hc : cutB has high (eK l j) = false) : DelI has high l (d.set i (eK l j, eP l j)) (i + 1) (j + 1) :=
  ⟨by rw [List.length_set]; exact h.len, by have := h.lt; omega, by omega, by
    have hi : i < d.length := by have := h.len; have := h.lt; omega
    rw [keepL_take hj, if_neg (by rw [hc]; simp), ← h.low, List.take_succ_eq_append_getElem (by simpa using hi)]
    simp [List.take_set_of_le], by
    have := congrArg (fun x => x.drop 1) h.high
    have hlt := h.lt
    rw [List.drop_set_of_lt (by omega)]
    simpa [Nat.add_comm] using this⟩
theorem ecells_set (d : List (Int × Int)) : ∀ (i : Nat) (e : Int × Int), ((ecells d).set (i * 2) (.int .u64 e.1)).set (i * 2 + 1) (.int .u64 e.2) = ecells (d.set i e) := by
  induction d with
  | nil => intro i e; simp [ecells]
  | cons x r ih =>
    intro i e
    have e1 : ∀ y : Int × Int, ecells (y :: r) = .int .u64 y.1 :: .int .u64 y.2 :: ecells r := fun y => by simp [ecells]
    cases i with
    | zero => rw [e1]; simp [e1]
    | succ i =>
      rw [e1, show (i + 1) * 2 = i * 2 + 1 + 1 by omega]
      simp only [List.set_cons_succ]
      rw [ih i e]
      simp [ecells]
theorem ecells_take (d : List (Int × Int)) : ∀ (i : Nat), (ecells d).take (i * 2) = ecells (d.take i) := by
  induction d with
  | nil => intro i; simp [ecells]
  | cons x r ih =>
    intro i
    cases i with
    | zero => simp [ecells]
    | succ i =>
      have := ih i
      simp only [ecells, List.flatMap_cons, List.take_succ_cons] at this ⊢
      rw [show (i + 1) * 2 = i * 2 + 1 + 1 by omega]
      simp [this]
/-! ### memory -/
theorem heap_setCells (g : Nat) (e : TypeId) : ∀ (vs : List Value) (o : Nat) (w : World) (cur : Array Value), w.heap[g]? = some (.cells cur e (0, 0)) → ∃ cur', (w.setCells g o vs).heap[g]? = some (.cells cur' e (0, 0)) ∧ cur'.size = cur.size ∧ ∀ k, k < o → cur'[k]? = cur[k]?
  | [], o, w, cur, h => ⟨cur, h, rfl, fun _ _ => rfl⟩
  | v :: r, o, w, cur, h => by
    obtain ⟨c, h1, h2, h3⟩ := heap_setCells g e r (o + 1) (w.setCell ⟨g, o, none⟩ v) _ (heap_setCell_same w g o cur e v h)
    refine ⟨c, h1, by simpa using h2, fun k hk => ?_⟩
    rw [h3 k (by omega)]
    rw [Array.getElem?_setIfInBounds_ne (by omega)]
/-- a row cut short, what is behind it laid over -/
theorem own_cut {w : World} {base g : Nat} {e : TypeId} {size n i cap : Nat} {xs : List Value} (h : w.ownsRow base e size (.slice (some ⟨g, 0, none⟩) n cap) n xs) (hi : i ≤ n) (vs : List Value) :
    (w.setCells g (i * size) vs).ownsRow base e size (.slice (some ⟨g, 0, none⟩) i cap) i (xs.take (i * size)) := by
  obtain ⟨hl, ⟨h0, _⟩ | ⟨g', cap', cur, hv, hb, hg, h1, h2, h3, h4⟩⟩ := h
  · cases h0
  · simp only [Value.slice.injEq, Option.some.injEq, Addr.mk.injEq, and_true, true_and] at hv
    obtain ⟨rfl, rfl⟩ := hv
    obtain ⟨c, e1, e2, e3⟩ := heap_setCells g e vs (i * size) w cur hg
    have hm : i * size ≤ n * size := Nat.mul_le_mul_right _ hi
    refine ⟨by rw [List.length_take, hl, Nat.min_eq_left hm], .inr ⟨g, cap, c, rfl, hb, e1, by omega, h2, by omega, ?_⟩⟩
    rw [← h4, List.take_take, Nat.min_eq_left hm]
    apply List.ext_getElem?
    intro k
    by_cases hk : k < i * size
    · rw [List.getElem?_take, if_pos hk, List.getElem?_take, if_pos hk]
      simpa using e3 k hk
    · rw [List.getElem?_take, if_neg hk, List.getElem?_take, if_neg hk]
theorem below_setCells' {B g : Nat} {a : World} (hb : B ≤ g) : ∀ (vs : List Value) (o : Nat) (w : World), Below B a w → Below B a (w.setCells g o vs)
  | [], _, _, h => h
  | v :: r, o, w, h => below_setCells' hb r (o + 1) _ (h.setCell (p := ⟨g, o, none⟩) hb v)
theorem zero57 : ∀ w, (zeroValue 57).run Tryd.prog w = .ok (.agg #[.int .u64 0, .int .u64 0]) w := fun _ => by kernel_rfl
/-- clear of what is behind -/
theorem run_clear_ents (w : World) (ty : TypeId) (g o n c : Nat) (hn : 0 < n) (hc : ∀ j, j < n * 2 → (w.cell? ⟨g, o + j, none⟩).isSome = true) (hf : ∀ j, w.frozen? ⟨g, j, none⟩ = false) :
    (Builtin.clear_ #[38] ty #[.slice (some ⟨g, o, none⟩) n c]).run Tryd.prog w = .ok (.tuple #[]) (w.setCells g o (Builtin.zeroCells #[.int .u64 0, .int .u64 0] n).toList) := by
  have hl : (Builtin.zeroCells #[.int .u64 0, .int .u64 0] n).toList.length = n * 2 := by simp [Builtin.zeroCells]
  have h1 : ∀ v ∈ (Builtin.zeroCells #[.int .u64 0, .int .u64 0] n).toList, v.oneCell' = true := by
    intro v hv
    simp only [Builtin.zeroCells, Array.mem_toList_iff] at hv
    obtain ⟨i, _, rfl⟩ := Array.mem_map.1 hv
    have : i % 2 = 0 ∨ i % 2 = 1 := by omega
    rcases this with h | h <;> simp [h, Value.oneCell']
  have hst := run_storeCells_cells (P := Tryd.prog) g o (Builtin.zeroCells #[.int .u64 0, .int .u64 0] n).toList 0 w (by rw [hl]; simpa using hc) (fun j _ => hf _) h1
  simp only [Nat.add_zero] at hst
  obtain ⟨m, rfl⟩ : ∃ m, n = m + 1 := ⟨n - 1, by omega⟩
  simp only [Builtin.clear_, List.getElem?_toArray, List.getElem?_cons_zero, Sem.run_bind, run_underlying Tryd.underlying38, Result.andThen_ok, zero57, Value.cells, hst, Sem.run_pure]

theorem idxA_nil (a : Option Addr) (cap : Nat) (high : Int) (has : Bool) (bh bg : Nat) (w : World) :
    Calls Tryd.prog 56 #[.slice a 0 cap, .func (.func 48) #[] #[.pointer (some ⟨bh, 0, none⟩), .pointer (some ⟨bg, 0, none⟩)]] w
      fun e w' => e = .returned (.int .i64 (-1)) ∧ w' = w := by
  go_enter Tryd.func56, Tryd.ntmps56
  go_wp2_with (fail)
  refine wp_loop_rounds 1 ?_
  rw [rounds_succ]
  go_wp2_with (fail)
  go_ret
  exact ⟨rfl, rfl⟩
theorem own_below2 {B : Nat} {e : TypeId} {k : Nat} {v : Value} {n : Nat} {xs : List Value} {w w' : World} (h : w.ownsRow B e k v n xs) (hb : Below w.heap.size w w') : w'.ownsRow B e k v n xs := own_below h hb

set_option maxRecDepth 100000 in
set_option maxHeartbeats 3200000 in
theorem del_calls (l : List (Int × Int)) (v : Value) (base : Nat) (high : Int) (has : Bool) (bh bg : Nat) (w : World) (hm : l.length ≤ 1000000) (hb : base ≤ w.heap.size) (ho : w.ownsRow base 57 2 v l.length (ecells l)) (hh : Blk w bh #[.bool has] 4) (hg : Blk w bg #[.int .u64 high] 22) (hbh : bh < base) (hbg : bg < base) :
    Calls Tryd.prog 47 #[v, .func (.func 48) #[] #[.pointer (some ⟨bh, 0, none⟩), .pointer (some ⟨bg, 0, none⟩)]] w
      fun e w' => ∃ v', e = .returned v' ∧ w'.ownsRow base 57 2 v' (keepL has high l).length (ecells (keepL has high l)) ∧ Below base w w' := by
  by_cases hp : 0 < l.length
  · obtain ⟨g, cap, rfl, hbg1, hgl, hcap, hcm, hE⟩ := own_ents ho rfl hp
    have hidx := idxA_calls l g cap high has bh bg w hm hE hh hg
    have HO := Lib.hid ho
    have HH := Lib.hid hh
    have HG := Lib.hid hg
    have hEl := hE
    clear hE ho hh hg
    rcases firstF_spec (fun j => cutB has high (eK l j)) l.length 0 with ⟨e1, hall⟩ | ⟨k, e1, _, hk, hck, hlow⟩
    · rw [e1] at hidx
      have HK := Lib.hid (keepL_none (has := has) (high := high) (l := l) (fun j hj => hall j (by omega) (by omega)))
      have HI := Lib.hid hidx
      clear hidx e1 hall
      go_enter Tryd.func47, Tryd.ntmps47
      go_wp2_with (go_at_call 56; refine HI.out.mono ?_; rintro e w1 ⟨rfl, hB⟩; have HB := Lib.hid (hB.mono hb); have HO1 := Lib.hid (own_below2 HO.out hB); clear hB)
      go_ret
      exact ⟨_, rfl, by rw [HK.out]; exact HO1.out, HB.out⟩
    · rw [e1] at hidx
      have HI := Lib.hid hidx
      have HD := Lib.hid (DelI.start (l := l) (has := has) (high := high) (by omega) (fun j hj => hlow j (by omega) hj) hck)
      have hkl : k < l.length := by omega
      have hkn : ((k : Int) == -1) = false := beq_eq_false_iff_ne.2 (by omega)
      clear hidx e1 hlow hck hk hEl
      go_enter Tryd.func47, Tryd.ntmps47
      go_wp2_with (go_at_call 56; refine HI.out.mono ?_; rintro e w1 ⟨rfl, hB⟩; have HB1 := Lib.hid (hB.mono hb); have HO1 := Lib.hid (own_below2 HO.out hB); clear hB)
      go_loopw [5, 6] (fun iv jv wr => ∃ (i j : Nat) (d : List (Int × Int)), iv = .int .i64 i ∧ jv = .int .i64 j ∧ i < j ∧ j ≤ l.length ∧ Hid (DelI has high l d i j) ∧ Hid (wr.ownsRow base 57 2 (.slice (some ⟨g, 0, none⟩) l.length cap) l.length (ecells d)) ∧ Hid (Below base w wr)) (fun _ jv _ => l.length - (intOf jv).toNat)
      case atStart => exact ⟨k, k + 1, l, rfl, by go_num, by omega, by omega, HD, HO1, HB1⟩
      case round =>
        obtain ⟨i, j, d, rfl, rfl, hij, hjl, HDr, HOr, HBr⟩ := hrel
        have hdl := Lib.hid HDr.out.len
        obtain ⟨gg, cp, ev, _, hgr, _, _, hEr⟩ := own_ents HOr.out hdl.out.symm hp
        obtain ⟨rfl, rfl⟩ : g = gg ∧ cap = cp := by cases ev; exact ⟨rfl, rfl⟩
        clear ev
        have hfr : ∀ q, wr.frozen? ⟨g, q, none⟩ = false := fun q => HOr.out.frozenAt q
        by_cases hlt : j < l.length
        · obtain ⟨c1, c2⟩ := hEr j (by rw [hdl.out]; exact hlt)
          rw [(HDr.out.get hlt).1, Nat.zero_add] at c1
          rw [(HDr.out.get hlt).2, Nat.zero_add] at c2
          obtain ⟨ka, hka⟩ : ∃ x, eK l j = x := ⟨_, rfl⟩
          obtain ⟨pa, hpa⟩ : ∃ x, eP l j = x := ⟨_, rfl⟩
          rw [hka] at c1
          rw [hpa] at c2
          have HKP := Lib.hid (And.intro hka hpa)
          have b1 : (j : Int) < (l.length : Int) := by omega
          have b2 : (i : Int) < (l.length : Int) := by omega
          have HX := Lib.hid (Blk.new wr #[.int .u64 ka, .int .u64 pa] 57)
          have hsz : w.heap.size ≤ wr.heap.size := HBr.out.size
          have HO2 := Lib.hid (HOr.out.alloc (.cells #[.int .u64 ka, .int .u64 pa] 57))
          have HB2 := Lib.hid (HBr.out.alloc (by omega) (.cells #[.int .u64 ka, .int .u64 pa] 57))
          clear hka hpa hEr hfr
          go_upto_region 8 with (fail)
          obtain ⟨bx, hbx⟩ : ∃ b, wr.heap.size = b := ⟨_, rfl⟩
          rw [hbx] at HX hsz ⊢
          clear c1 c2 hdl hgr hbx
          generalize wr.alloc (.cells #[.int .u64 ka, .int .u64 pa] 57) = w2 at *
          have x0 : w2.cell? ⟨bx, 0, none⟩ = some (.int .u64 ka) := by rw [HX.out.cell]; rfl
          have x1 : w2.cell? ⟨bx, 1, none⟩ = some (.int .u64 pa) := by rw [HX.out.cell]; rfl
          have HA := Lib.hid (actF_calls ka pa high has bh bg w2 (HH.out.below HB2.out hbh) (HG.out.below HB2.out hbg))
          cases hc : cutB has high ka
          · rw [hc] at HA
            have HDk := Lib.hid (HDr.out.keep hlt (by rw [HKP.out.1]; exact hc))
            rw [HKP.out.1, HKP.out.2] at HDk
            clear hc
            go_upto_region 9 with (go_at_call 48; refine HA.out.mono ?_; rintro e w3 ⟨rfl, hB3⟩)
            have hO3 := own_below HO2.out hB3
            obtain ⟨gg, cp, ev, _, hgr, _, _, hEr⟩ := own_ents hO3 HDr.out.len.symm hp
            obtain ⟨rfl, rfl⟩ : g = gg ∧ cap = cp := by cases ev; exact ⟨rfl, rfl⟩
            obtain ⟨i1, i2⟩ := hEr i (by have := HDr.out.len; omega)
            rw [Nat.zero_add] at i1 i2
            have f1 := hO3.frozenAt (i * 2)
            have f2 := hO3.frozenAt (i * 2 + 1)
            have hx3 := HX.out.below hB3 HX.out.lt
            have y0 : w3.cell? ⟨bx, 0, none⟩ = some (.int .u64 ka) := by rw [hx3.cell]; rfl
            have y1 : w3.cell? ⟨bx, 1, none⟩ = some (.int .u64 pa) := by rw [hx3.cell]; rfl
            have hO4 := ((hO3.stored (i * 2) (.int .u64 ka)).1.stored (i * 2 + 1) (.int .u64 pa)).1
            rw [ecells_set d i (ka, pa)] at hO4
            have HO4 := Lib.hid hO4
            have HB4 := Lib.hid (((HB2.out.trans (hB3.mono (Nat.le_trans hb HB2.out.size))).setCell (p := ⟨g, i * 2, none⟩) hbg1 (.int .u64 ka)).setCell (p := ⟨g, i * 2 + 1, none⟩) hbg1 (.int .u64 pa))
            clear hB3 hO3 ev hEr hx3 hO4 hgr x0 x1
            go_wp2_with (fail)
            go_roundw
            case rel => exact ⟨i + 1, j + 1, d.set i (ka, pa), by go_num, by go_num, by omega, by omega, HDk, HO4, HB4⟩
            case measure => simp [intOf]; omega
          · rw [hc] at HA
            have HDk := Lib.hid (HDr.out.skip hlt (by rw [HKP.out.1]; exact hc))
            clear hc
            go_wp2_with (go_at_call 48; refine HA.out.mono ?_; rintro e w3 ⟨rfl, hB3⟩; have HB3 := Lib.hid (HB2.out.trans (hB3.mono (Nat.le_trans hb HB2.out.size))); have HO3 := Lib.hid (own_below HO2.out hB3); clear hB3)
            go_roundw
            case rel => exact ⟨i, j + 1, d, rfl, by go_num, by omega, by omega, HDk, HO3, HB3⟩
            case measure => simp [intOf]; omega
        · have hjn : j = l.length := by omega
          subst hjn
          have b1 : ¬ (l.length : Int) < (l.length : Int) := by omega
          have hcl : ∀ ty, (Builtin.clear_ #[38] ty #[.slice (some ⟨g, i * 2, none⟩) (l.length - i) (cap - i)]).run Tryd.prog wr = .ok (.tuple #[]) (wr.setCells g (i * 2) (Builtin.zeroCells #[.int .u64 0, .int .u64 0] (l.length - i)).toList) :=
            fun ty => run_clear_ents wr ty g (i * 2) _ _ (by omega) (fun q hq => by
              have h1 : i * 2 + q = (i + q / 2) * 2 + q % 2 := by omega
              obtain ⟨e1, e2⟩ := hEr (i + q / 2) (by rw [hdl.out]; omega)
              rw [Nat.zero_add] at e1 e2
              rw [h1]
              have : q % 2 = 0 ∨ q % 2 = 1 := by omega
              rcases this with h | h
              · rw [h, Nat.add_zero, e1]; rfl
              · rw [h, e2]; rfl) hfr
          have hO4 := own_cut HOr.out (show i ≤ l.length by omega) (Builtin.zeroCells #[.int .u64 0, .int .u64 0] (l.length - i)).toList
          rw [ecells_take, HDr.out.low, List.take_length] at hO4
          have hc4 := HDr.out.cnt
          rw [List.take_length] at hc4
          have HF := Lib.hid (show (wr.setCells g (i * 2) (Builtin.zeroCells #[.int .u64 0, .int .u64 0] (l.length - i)).toList).ownsRow base 57 2 (.slice (some ⟨g, 0, none⟩) i cap) (keepL has high l).length (ecells (keepL has high l)) by rw [hc4]; exact hO4)
          have HBf := Lib.hid (below_setCells' hbg1 (Builtin.zeroCells #[.int .u64 0, .int .u64 0] (l.length - i)).toList (i * 2) wr HBr.out)
          clear hO4 hc4 hEr hfr hdl hgr
          go_wp2_with (fail)
          go_ret
          exact ⟨_, rfl, HF.out, HBf.out⟩
  · have h0 : l = [] := List.eq_nil_of_length_eq_zero (by omega)
    subst h0
    have HB := Lib.hid (Below.refl base w)
    obtain ⟨_, ⟨rfl, _⟩ | ⟨g, cap, cur, rfl, hbg1, hgl, _, hcm, hcs, _⟩⟩ := ho
    · have HI := Lib.hid (idxA_nil none 0 high has bh bg w)
      clear hh hg
      go_enter Tryd.func47, Tryd.ntmps47
      go_wp2_with (go_at_call 56; refine HI.out.mono ?_; rintro e w1 ⟨rfl, rfl⟩)
      go_ret
      exact ⟨_, rfl, World.ownsRow_nil _ _ _ _, HB.out⟩
    · have HO := Lib.hid (show w.ownsRow base 57 2 (.slice (some ⟨g, 0, none⟩) 0 cap) 0 [] from ⟨rfl, .inr ⟨g, cap, cur, rfl, hbg1, hgl, Nat.zero_le _, hcm, hcs, by simp⟩⟩)
      have HI := Lib.hid (idxA_nil (some ⟨g, 0, none⟩) cap high has bh bg w)
      clear hh hg hgl
      go_enter Tryd.func47, Tryd.ntmps47
      go_wp2_with (go_at_call 56; refine HI.out.mono ?_; rintro e w1 ⟨rfl, rfl⟩)
      go_ret
      exact ⟨_, rfl, HO.out, HB.out⟩
end Go.Proofs.YtkfpoekeofnglaaDoor
