/-
  AN ARENA THAT IS BUILT, AS A MEMORY: its words, its nodes. (Plain.)
-/
import Derived.Test.YtodgfbjjjgohgaaGreatKsQ
namespace Go.Proofs.YtodgfbjjjgohgaaGreat
open Go.RowKit
set_option linter.unusedVariables false

def memA (d : AD) : List Int := wordsB d.L (128 * (d.slabs + 1))
theorem memA_len (d : AD) : (memA d).length = 128 * (d.slabs + 1) := wordsM_len _ _
theorem memA_u64 (d : AD) : U64s (memA d) := wordsM_u64 _ _
theorem wordsY_getD (L : List UInt8) (N k : Nat) (h : k < N) : (wordsB L N).getD k 0 = chunk L k := by
  unfold wordsB
  rw [List.getD_eq_getElem?_getD, List.getElem?_eq_getElem (by simpa using h)]
  simp [wordAt]
theorem memA_at {d : AD} {k : Nat} (h : k < 128 * (d.slabs + 1)) : (memA d).getD k 0 = chunk d.L k := wordsY_getD _ _ _ h
/-! ### an image that may be -/
theorem all_lt_mono {l : List Int} {b : Int} (h : ∀ x ∈ l, x < b) : l.all (fun x => decide (x < b)) = true := by
  rw [List.all_eq_true]; exact fun x hx => decide_eq_true (h x hx)
theorem bitsTo_lt {m j : Nat} (h : m < 2 ^ j) : ∀ k, ∀ x ∈ bitsTo m k, x < (j : Int)
  | 0 => fun x hx => by simp [bitsTo] at hx
  | k + 1 => fun x hx => by
    by_cases hb : m.testBit k = true
    · rw [bitsTo_yes hb] at hx
      rcases List.mem_append.1 hx with h1 | h1
      · exact bitsTo_lt h k x h1
      · rw [List.mem_singleton.1 h1]
        rcases Nat.lt_or_ge k j with h2 | h2
        · omega
        · have := Nat.testBit_lt_two_pow (Nat.lt_of_lt_of_le h (Nat.pow_le_pow_right (by decide) h2))
          rw [this] at hb; cases hb
    · rw [bitsTo_no (by simpa using hb)] at hx
      exact bitsTo_lt h k x hx
theorem may_pow (j c : Nat) (h : j ≤ blkK c) : mayBt (2 ^ j - 1) (blkK c : Int) = true := by
  refine all_lt_mono (fun x hx => ?_)
  have hp : 0 < 2 ^ j := Nat.pow_pos (by decide)
  have := bitsTo_lt (show 2 ^ j - 1 < 2 ^ j by omega) 64 x hx
  omega
theorem ArI.img {d : AD} {kd cn : Nat → Nat} (h : ArI d kd cn) (h1 : 1 ≤ d.slabs) : ImgOk d.L d.slabs := by
  refine ⟨h1, h.ok.sl, h.ok.len, fun i hi hs => ⟨kd i, 2 ^ cn i - 1, ?_, ?_, ?_, ?_, ?_⟩⟩
  · have := h.h0 i hi hs
    unfold chunk at this
    rw [show 1024 * i = 8 * (128 * i) by omega]
    exact this
  · have := h.h1 i hi hs
    unfold chunk at this
    rw [show 1024 * i + 8 = 8 * (128 * i + 1) by omega]
    exact this
  · rcases h.kk i with h2 | h2 | h2 <;> omega
  · have h15 : cn i ≤ 15 := by rcases h.kk i with h2 | h2 | h2 <;> omega
    have := Nat.pow_le_pow_right (show 0 < 2 by decide) h15
    omega
  · refine may_pow _ _ ?_
    rcases h.kk i with ⟨h2, h3⟩ | ⟨h2, h3⟩ | ⟨h2, h3⟩ <;> rw [h2] <;> unfold blkK
    · rw [h3]; exact Nat.zero_le _
    · exact h3
    · exact h3
/-! ### nodes, as they stand -/
theorem words_of {n : Nd} (h : 0 ≤ n.lv ∧ n.lv ≤ 15) {q : Nat} (hq : q < 24) : wordsF n q = fullW n q := by
  unfold wordsF wTo
  rw [if_neg (by omega), if_pos (by omega)]
/-- where nodes stand in a memory -/
structure NdAt (vs : List Int) (a : Nat) (n : Nd) : Prop where
  wd : ∀ q, q < 24 → vs.getD (a / 8 + q) 0 = fullW n q
  al : a % 64 = 0
  lt : a + 192 ≤ 8 * vs.length
  hi : a + 192 ≤ 1000000
theorem NdAt.wrd {vs : List Int} {a : Nat} {n : Nd} (h : NdAt vs a n) {q : Nat} (hq : q < 24) : wrdA (a : Int) q = ((a + 8 * q : Nat) : Int) := by
  have := h.hi
  unfold wrdA
  rw [IntKind.wrap_u64]
  omega
theorem NdAt.er {vs : List Int} {a : Nat} {n : Nd} (h : NdAt vs a n) {q : Nat} (hq : q < 24) : erM vs (a : Int) q = 0 := by
  have h1 := h.al
  have h2 := h.lt
  unfold erM atE
  rw [h.wrd hq, if_neg (by omega)]
theorem NdAt.rd {vs : List Int} {a : Nat} {n : Nd} (h : NdAt vs a n) {q : Nat} (hq : q < 24) : wdM vs (a : Int) q = fullW n q := by
  have h1 := h.al
  have he := h.er hq
  unfold erM at he
  unfold wdM ldW
  rw [if_pos he, h.wrd hq, ← h.wd q hq]
  congr 1
  omega
theorem Built.at {d : AD} {slabs per lag : Nat} {keys : List Int} {l0 : List (Int × Int)} {kd cn : Nat → Nat} (h : Built d slabs per lag keys l0 kd cn) {L : Nat} {R : List (Nat × Nd)} (hR : d.lv[L]? = some R) {x : Nat × Nd} (hx : x ∈ R) : NdAt (memA d) x.1 x.2 := by
  obtain ⟨l, g⟩ := h.i.rw L R hR
  obtain ⟨w1, w2, w3, w4⟩ := g.w x hx
  obtain ⟨c1, c2⟩ := h.i.n.st R (List.mem_of_getElem? hR) x hx
  obtain ⟨s, j, e1, e2, e3, e4, _⟩ := h.i.n.i.slot c1
  have hus := h.i.n.i.ok.us
  obtain ⟨i, hi⟩ := List.mem_iff_getElem?.1 hx
  have hlv := (g.p.lvl hi).1
  have hL : L < d.lv.length := (List.getElem?_eq_some_iff.1 hR).1
  have h16 := h.le
  refine ⟨fun q hq => ?_, w4, by rw [memA_len]; omega, w3⟩
  rw [memA_at (by omega), c2 q hq]
  exact words_of (by omega) hq
theorem Built.rootW {d : AD} {slabs per lag : Nat} {keys : List Int} {l0 : List (Int × Int)} {kd cn : Nat → Nat} (h : Built d slabs per lag keys l0 kd cn) : atE (memA d).length 16 = 0 ∧ ldW (memA d) 16 = (topA d : Int) := by
  have he : atE (memA d).length 16 = 0 := by unfold atE; rw [memA_len, if_neg (by omega)]
  refine ⟨he, ?_⟩
  unfold ldW
  rw [if_pos he, show ((16 : Int) / 8).toNat = 2 by decide, memA_at (by omega)]
  exact h.root
/-- behind its entries there is nothing -/
def NdZ (n : Nd) : Prop := ∀ j, n.len ≤ j → n.k j = 0 ∧ n.p j = 0
theorem eK_beyond {l : List (Int × Int)} {j : Nat} (h : l.length ≤ j) : eK l j = 0 ∧ eP l j = 0 := by
  unfold eK eP; rw [List.getD_eq_getElem?_getD, List.getElem?_eq_none h]; exact ⟨rfl, rfl⟩
theorem RowP.own {lv per : Nat} {l : List (Int × Int)} {R : List (Nat × Nd)} (h : RowP lv per l R) (he : EntOk l) (hp8 : per ≤ 8) {i : Nat} {x : Nat × Nd} (hx : R[i]? = some x) :
    ∃ o : List (Int × Int), x.2.k = eK o ∧ x.2.p = eP o ∧ o.length ≤ 8 ∧ ∀ j, j < o.length → eP o j ≠ 0 := by
  have hn := h.nd i x hx
  have h8 : (ownG l per (i * per)).length ≤ 8 := by unfold ownG; rw [List.length_take]; omega
  have hne : ∀ j, j < (ownG l per (i * per)).length → eP (ownG l per (i * per)) j ≠ 0 := fun j hj => by
    have hj2 : j < per ∧ i * per + j < l.length := by unfold ownG at hj; rw [List.length_take, List.length_drop] at hj; omega
    rw [ownG_p, if_pos hj2.1]
    exact he.ptr _ hj2.2
  by_cases hl : lv = 0
  · refine ⟨ownG l per (i * per), ?_, ?_, h8, hne⟩
    · rw [hn]; unfold ndG; rw [if_pos hl, if_pos hl]; rfl
    · rw [hn]; unfold ndG; rw [if_pos hl, if_pos hl]; rfl
  · refine ⟨(ownG l per (i * per)).drop 1, ?_, ?_, by rw [List.length_drop]; omega, fun j hj => ?_⟩
    · rw [hn]; unfold ndG; rw [if_neg hl, if_neg hl]; rfl
    · rw [hn]; unfold ndG; rw [if_neg hl, if_neg hl]; rfl
    · rw [List.length_drop] at hj
      rw [eP_drop]
      exact hne _ (by omega)
theorem RowP.z {lv per : Nat} {l : List (Int × Int)} {R : List (Nat × Nd)} (h : RowP lv per l R) (he : EntOk l) (hp8 : per ≤ 8) {i : Nat} {x : Nat × Nd} (hx : R[i]? = some x) : NdZ x.2 := by
  obtain ⟨o, hk, hp, h8, hne⟩ := h.own he hp8 hx
  have hlen : x.2.len = o.length := len_ofK h8 (fun j hj => by rw [hp]; exact hne j hj) (fun _ => by rw [hp]; exact (eK_beyond (Nat.le_refl _)).2)
  intro j hj
  rw [hk, hp]
  exact eK_beyond (by omega)
/-- what is read of a node that stands -/
theorem rd_z {n : Nd} (h : NdZ n) {W : Nat → Int} (hW : ∀ q, q < 24 → W q = fullW n q) : ∀ q, q < 24 → q < 5 ∨ 8 ≤ q → rdW W 24 q = fullW n q := by
  intro q hq h58
  unfold rdW
  by_cases hp : q = 3 ∨ (pthB W q = true ∧ q < 24)
  · rw [if_pos hp, hW q hq]
  · rw [if_neg hp]
    rcases h58 with h5 | h8
    · exfalso
      apply hp
      by_cases e : q = 3
      · exact .inl e
      · exact .inr ⟨(pthB_iff W q).2 (by omega), hq⟩
    · have hnp : ¬ (8 ≤ q ∧ q < 24 ∧ ∀ j, j < q → 9 ≤ j → j % 2 = 1 → W j ≠ 0) := fun e => hp (.inr ⟨(pthB_iff W q).2 (.inr (.inr e)), hq⟩)
      have hz : ∃ j, j < q ∧ 9 ≤ j ∧ j % 2 = 1 ∧ W j = 0 := by
        refine Classical.byContradiction (fun hn => hnp ⟨h8, hq, fun j h1 h2 h3 h4 => hn ⟨j, h1, h2, h3, h4⟩⟩)
      obtain ⟨j, j1, j2, j3, j4⟩ := hz
      rw [hW j (by omega)] at j4
      obtain ⟨u, rfl⟩ : ∃ u, j = 9 + 2 * u := ⟨(j - 9) / 2, by omega⟩
      have hu : n.len ≤ u := by
        rcases Nat.lt_or_ge u n.len with h1 | h1
        · exact absurd ((show fullW n (9 + 2 * u) = n.p u from by
            unfold fullW
            rw [if_neg (by omega), if_neg (by omega), if_neg (by omega), if_neg (by omega), if_neg (by omega), if_neg (by omega), if_neg (by omega), show (9 + 2 * u - 9) / 2 = u by omega]).symm.trans j4) (Nd.p_lt n u h1)
        · exact h1
      unfold fullW
      rw [if_neg (by omega), if_neg (by omega), if_neg (by omega), if_neg (by omega), if_neg (by omega), if_neg (by omega)]
      split
      · exact ((h _ (by omega)).1).symm
      · exact ((h _ (by omega)).2).symm
theorem found_z {n : Nd} (h : NdZ n) (hl : 0 ≤ n.lv ∧ n.lv ≤ 15) {W : Nat → Int} (hW : ∀ q, q < 24 → W q = fullW n q) : (ofV (rdW W 24)).2 = 0 ∧ ndCells (ofV (rdW W 24)).1 = ndCells n ∧ (ofV (rdW W 24)).1 = nTo (rdW W 24) 8 := by
  have hr := rd_z h hW
  have e0 : rdW W 24 0 = tagM + n.lv := hr 0 (by decide) (by decide)
  have hb : ofBad (rdW W 24) = false := by
    unfold ofBad
    rw [e0, decide_eq_false (by omega), decide_eq_false (by omega)]; rfl
  have ho : ofV (rdW W 24) = (nTo (rdW W 24) 8, 0) := by unfold ofV; rw [hb]; rfl
  rw [ho]
  refine ⟨rfl, ?_, rfl⟩
  have hk : ∀ i, i < 8 → (nTo (rdW W 24) 8).k i = n.k i := fun i hi => by
    show (if i < 8 then rdW W 24 (8 + 2 * i) else 0) = _
    rw [if_pos hi, hr _ (by omega) (by omega)]
    unfold fullW
    rw [if_neg (by omega), if_neg (by omega), if_neg (by omega), if_neg (by omega), if_neg (by omega), if_neg (by omega), if_pos (by omega), show (8 + 2 * i - 8) / 2 = i by omega]
  have hp : ∀ i, i < 8 → (nTo (rdW W 24) 8).p i = n.p i := fun i hi => by
    show (if i < 8 then rdW W 24 (9 + 2 * i) else 0) = _
    rw [if_pos hi, hr _ (by omega) (by omega)]
    unfold fullW
    rw [if_neg (by omega), if_neg (by omega), if_neg (by omega), if_neg (by omega), if_neg (by omega), if_neg (by omega), if_neg (by omega), show (9 + 2 * i - 9) / 2 = i by omega]
  have h8 : ∀ (f g : Nat → Int), (∀ i, i < 8 → f i = g i) → u8s f = u8s g := fun f g h => List.map_congr_left (fun i hi => by rw [h i (List.mem_range.1 hi)])
  unfold ndCells
  rw [h8 _ _ hk, h8 _ _ hp]
  show _ = _
  have f1 : (nTo (rdW W 24) 8).lv = n.lv := by show rdW W 24 0 - tagM = _; omega
  have f2 : (nTo (rdW W 24) 8).lo = n.lo := hr 1 (by decide) (by decide)
  have f3 : (nTo (rdW W 24) 8).nx = n.nx := hr 2 (by decide) (by decide)
  have f4 : (nTo (rdW W 24) 8).ct = n.ct := hr 3 (by decide) (by decide)
  have f5 : (nTo (rdW W 24) 8).fi = n.fi := hr 4 (by decide) (by decide)
  rw [f1, f2, f3, f4, f5]
end Go.Proofs.YtodgfbjjjgohgaaGreat
