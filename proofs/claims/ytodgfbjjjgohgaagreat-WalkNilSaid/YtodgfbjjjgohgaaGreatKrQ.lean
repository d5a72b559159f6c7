/-
  THE WAY TO A KEY, level by level. (Plain.)
-/
import Derived.Test.YtodgfbjjjgohgaaGreatKpQ
import Derived.Test.YtodgfbjjjgohgaaGreatNfQ
namespace Go.Proofs.YtodgfbjjjgohgaaGreat
open Go.RowKit
set_option linter.unusedVariables false

/-- entries as they come to a level -/
structure EntOk (l : List (Int × Int)) : Prop where
  u : U64E l
  rise : ∀ i j, i < j → j < l.length → eK l i < eK l j
  ptr : ∀ i, i < l.length → eP l i ≠ 0
/-! ### a row's nodes -/
theorem eK_drop (l : List (Int × Int)) (k j : Nat) : eK (l.drop k) j = eK l (k + j) := by
  unfold eK; rw [List.getD_eq_getElem?_getD, List.getD_eq_getElem?_getD, List.getElem?_drop]
theorem eP_drop (l : List (Int × Int)) (k j : Nat) : eP (l.drop k) j = eP l (k + j) := by
  unfold eP; rw [List.getD_eq_getElem?_getD, List.getD_eq_getElem?_getD, List.getElem?_drop]
theorem ownG_k (l : List (Int × Int)) (per fr j : Nat) : eK (ownG l per fr) j = if j < per then eK l (fr + j) else 0 := by unfold ownG; rw [eK_take, eK_drop]
theorem ownG_p (l : List (Int × Int)) (per fr j : Nat) : eP (ownG l per fr) j = if j < per then eP l (fr + j) else 0 := by unfold ownG; rw [eP_take, eP_drop]
section
variable {lv per : Nat} {l : List (Int × Int)} {R : List (Nat × Nd)}
theorem RowP.lo (h : RowP lv per l R) (hp : 1 ≤ per) {i : Nat} {x : Nat × Nd} (hx : R[i]? = some x) : x.2.lo = if i = 0 then 0 else eK l (i * per) := by
  rw [h.nd i x hx]
  show (if (i == 0) = true then (0 : Int) else eK (ownG l per (i * per)) 0) = _
  by_cases e : i = 0
  · rw [if_pos (by simp [e]), if_pos e]
  · rw [if_neg (by simp [e]), if_neg e, ownG_k, if_pos (by omega), Nat.add_zero]
theorem RowP.lvl (h : RowP lv per l R) {i : Nat} {x : Nat × Nd} (hx : R[i]? = some x) : x.2.lv = (lv : Int) ∧ x.2.ct = 0 := by
  rw [h.nd i x hx]; exact ⟨rfl, rfl⟩
theorem RowP.nx (h : RowP lv per l R) {i : Nat} {x : Nat × Nd} (hx : R[i]? = some x) : x.2.nx = match R[i + 1]? with | some y => (y.1 : Int) | none => 0 := by
  rw [h.nd i x hx]
  cases R[i + 1]? <;> rfl
theorem RowP.lo_lt (h : RowP lv per l R) (he : EntOk l) (hp : 1 ≤ per) {i j : Nat} {x y : Nat × Nd} (hij : i < j) (hx : R[i]? = some x) (hy : R[j]? = some y) : x.2.lo < y.2.lo := by
  have hj := (List.getElem?_eq_some_iff.1 hy).1
  have h1 := (h.ln j (by omega)).1 hj
  rw [h.lo hp hx, h.lo hp hy, if_neg (show ¬ j = 0 by omega)]
  by_cases e : i = 0
  · rw [if_pos e]
    have h2 := he.rise 0 (j * per) (Nat.mul_pos (by omega) hp) h1
    have h3 := (he.u 0).1.1
    omega
  · rw [if_neg e]
    exact he.rise _ _ ((Nat.mul_lt_mul_right hp).2 hij) h1
/-- how many nodes a row has -/
theorem RowP.le (h : RowP lv per l R) (hp : 2 ≤ per) {n : Nat} (hn : l.length ≤ 2 * n) (h1 : 1 ≤ n) : R.length ≤ n := by
  rcases Nat.lt_or_ge n R.length with e | e
  · have h2 := (h.ln n (by omega)).1 e
    have h3 : n * 2 ≤ n * per := Nat.mul_le_mul_left n hp
    omega
  · exact e
/-! ### the entries above -/
theorem parG_len (R : List (Nat × Nd)) (lag : Nat) (h : 0 < R.length) : (parG R lag).length = max 1 (R.length - lag) ∧ (parG R lag).length ≤ R.length := by
  have e := parK_len R (pcG R lag) (by unfold pcG; omega)
  rw [parG_eq, e]
  unfold pcG
  omega
theorem parG_get (R : List (Nat × Nd)) (lag : Nat) {i : Nat} (hi : i < (parG R lag).length) : ∃ x, R[i]? = some x ∧ eK (parG R lag) i = x.2.lo ∧ eP (parG R lag) i = (x.1 : Int) := by
  have hi2 := hi
  unfold parG at hi2
  rw [List.length_map, List.length_take] at hi2
  have hR : i < R.length := by omega
  refine ⟨R[i], List.getElem?_eq_getElem hR, ?_, ?_⟩
  · unfold eK parG
    rw [List.getD_eq_getElem?_getD, List.getElem?_map, List.getElem?_take_of_lt (by omega), List.getElem?_eq_getElem hR]; rfl
  · unfold eP parG
    rw [List.getD_eq_getElem?_getD, List.getElem?_map, List.getElem?_take_of_lt (by omega), List.getElem?_eq_getElem hR]; rfl
theorem RowP.ent (h : RowP lv per l R) (he : EntOk l) (hp : 1 ≤ per) (hw : ∀ x ∈ R, x.2.Wf ∧ x.1 ≠ 0 ∧ x.1 + 192 ≤ 1000000) (lag : Nat) : EntOk (parG R lag) := by
  refine ⟨?_, fun i j hij hj => ?_, fun i hi => ?_⟩
  · rw [parG_eq]
    exact parK_u (Nat.le_refl 1000000) hw _
  · obtain ⟨x, h1, h2, _⟩ := parG_get R lag (show i < _ by omega)
    obtain ⟨y, h3, h4, _⟩ := parG_get R lag hj
    rw [h2, h4]
    exact h.lo_lt he hp hij h1 h3
  · obtain ⟨x, h1, _, h2⟩ := parG_get R lag hi
    rw [h2]
    have := (hw x (List.mem_of_getElem? h1)).2.1
    omega
end
/-! ### levels -/
structure RowQ2 (d : AD) (per lag : Nat) (l0 : List (Int × Int)) (L : Nat) (R : List (Nat × Nd)) (l : List (Int × Int)) : Prop where
  p : RowP L per l R
  e : EntOk l
  nd : (R.map (·.1)).Nodup
  w : ∀ x ∈ R, x.2.Wf ∧ x.1 ≠ 0 ∧ x.1 + 192 ≤ 1000000 ∧ x.1 % 64 = 0
  z : L = 0 → l = l0
  s : ∀ M, L = M + 1 → ∃ R', d.lv[M]? = some R' ∧ l = parG R' lag ∧ 2 ≤ l.length
structure LvI (d : AD) (per lag : Nat) (l0 : List (Int × Int)) (kd cn : Nat → Nat) : Prop where
  n : ArN d kd cn
  rw : ∀ L R, d.lv[L]? = some R → ∃ l, RowQ2 d per lag l0 L R l
theorem levelsA_st {per lag : Nat} {l0 : List (Int × Int)} (hp : 1 ≤ per) : ∀ (f lv : Nat) {l : List (Int × Int)} {d d' : AD} {kd cn : Nat → Nat}, LvI d per lag l0 kd cn → d.lv.length = lv → lv ≤ 15 → EntOk l → (lv = 0 → l = l0) →
    (∀ M, lv = M + 1 → ∃ R', d.lv[M]? = some R' ∧ l = parG R' lag ∧ 2 ≤ l.length) → levelsA per lag f lv l d = some d' →
    ∃ kd' cn', LvI d' per lag l0 kd' cn' ∧ 0 < d'.lv.length ∧ d'.lv.length ≤ 16 ∧ d'.slabs = d.slabs ∧ ∀ i, i < 128 → chunk d'.L i = chunk d.L i
  | 0, lv, l, d, d', kd, cn, _, _, _, _, _, _, h => by cases h
  | f + 1, lv, l, d, d', kd, cn, hI, hn, hlv, he, hz, hs, h => by
    unfold levelsA at h
    cases hl : levelA d lv per l with
    | none => rw [hl] at h; cases h
    | some d1 =>
      rw [hl] at h
      simp only [] at h
      obtain ⟨kd1, cn1, R, q1, q2, q3, ⟨d0, R0, q4, q5⟩, q6, q7, q8⟩ := levelA_st hlv he.u hI.n hl
      have hg : d1.lv.getD lv [] = R := by
        rw [q2, List.getD_eq_getElem?_getD, List.getElem?_append_right (by omega), hn, Nat.sub_self]; rfl
      have hlen : d1.lv.length = lv + 1 := by rw [q2, List.length_append, hn]; rfl
      have hold : ∀ M R', d.lv[M]? = some R' → d1.lv[M]? = some R' := fun M R' hM => by
        rw [q2, List.getElem?_append_left (List.getElem?_eq_some_iff.1 hM).1]; exact hM
      have hR : RowP lv per l R := by rw [q5]; exact rowP_of hp q4
      have h1 : LvI d1 per lag l0 kd1 cn1 := by
        refine ⟨q1, fun L R2 hL => ?_⟩
        rcases Nat.lt_or_ge L lv with e | e
        · have hL2 : d.lv[L]? = some R2 := by rwa [q2, List.getElem?_append_left (by omega)] at hL
          obtain ⟨l2, g⟩ := hI.rw L R2 hL2
          exact ⟨l2, g.p, g.e, g.nd, g.w, g.z, fun M hM => by obtain ⟨R', a, b⟩ := g.s M hM; exact ⟨R', hold M R' a, b⟩⟩
        · have hlt := (List.getElem?_eq_some_iff.1 hL).1
          obtain rfl : L = lv := by omega
          have e2 : R2 = R := by rw [← hg, List.getD_eq_getElem?_getD, hL]; rfl
          subst e2
          exact ⟨l, hR, he, q6, q7, hz, fun M hM => by obtain ⟨R', a, b⟩ := hs M hM; exact ⟨R', hold M R' a, b⟩⟩
      rw [hg] at h
      by_cases e1 : R.length = 1 ∨ lv = 15
      · rw [if_pos e1] at h
        obtain rfl : d1 = d' := Option.some.inj h
        exact ⟨kd1, cn1, h1, by omega, by omega, q3, q8⟩
      · rw [if_neg e1] at h
        have hRn : d1.lv[lv]? = some R := by rw [q2, List.getElem?_append_right (by omega), hn, Nat.sub_self]; rfl
        by_cases e2 : (parG R lag).length = 1
        · rw [if_pos e2] at h
          obtain rfl : d1 = d' := Option.some.inj h
          exact ⟨kd1, cn1, h1, by omega, by omega, q3, q8⟩
        · rw [if_neg e2] at h
          have hpl := (parG_len R lag hR.ne).1
          obtain ⟨kd2, cn2, r1, r2, r3, r4, r5⟩ := levelsA_st hp f (lv + 1) h1 hlen (by omega) (hR.ent he hp (fun x hx => ⟨(q7 x hx).1, (q7 x hx).2.1, (q7 x hx).2.2.1⟩) lag) (fun e => by omega)
            (fun M hM => ⟨R, by rw [show M = lv by omega]; exact hRn, rfl, by omega⟩) h
          exact ⟨kd2, cn2, r1, r2, r3, r4.trans q3, fun i hi => (r5 i hi).trans (q8 i hi)⟩
/-! ### what is built -/
theorem arena1_st {slabs : Nat} (h1 : 1 ≤ slabs) (h : slabs ≤ 16) : ArI (arena1 slabs) (fun _ => 0) (fun _ => 0) := by
  have hz : ∀ i, chunk (List.replicate (1024 * (slabs + 1)) 0) i = 0 := fun i => by
    unfold chunk
    rw [List.drop_replicate, List.take_replicate, wd_zero]
  have hl : (List.replicate (1024 * (slabs + 1)) (0 : UInt8)).length = 1024 * (slabs + 1) := List.length_replicate
  have hch : ∀ i, 128 ≤ i → chunk (arena1 slabs).L i = 0 := fun i hi => by
    have e : (arena1 slabs).L = putAt (putAt (putAt (List.replicate (1024 * (slabs + 1)) 0) (8 * 0) 5929342154728227142) (8 * 1) (1024 * (slabs + 1) : Nat)) (8 * 3) (18446744073709551615 - (1024 * (slabs + 1) : Nat)) := rfl
    have l1 := putAt_len (L := List.replicate (1024 * (slabs + 1)) (0 : UInt8)) (a := 8 * 0) 5929342154728227142 (by omega)
    have l2 := putAt_len (a := 8 * 1) ((1024 * (slabs + 1) : Nat) : Int) (L := putAt (List.replicate (1024 * (slabs + 1)) 0) (8 * 0) 5929342154728227142) (by omega)
    rw [e, chunk_put (by omega) (by omega) (by omega), if_neg (by omega), chunk_put (by omega) (by omega) (by omega), if_neg (by omega), chunk_put (by omega) (by decide) (by decide), if_neg (by omega)]
    exact hz i
  refine ⟨?_, fun s h2 h3 => hch _ (by omega), fun s h2 h3 => (hch _ (by omega)), fun _ _ => ⟨rfl, rfl⟩, rfl, fun _ => .inl ⟨rfl, rfl⟩, fun e => absurd rfl e, fun e => absurd rfl e⟩
  refine ⟨?_, h, Nat.zero_le _, Nat.le_refl _, Nat.le_refl _, Nat.zero_le _, Nat.zero_le _⟩
  have l1 := putAt_len (L := List.replicate (1024 * (slabs + 1)) (0 : UInt8)) (a := 0) 5929342154728227142 (by omega)
  have l2 := putAt_len (a := 8) ((1024 * (slabs + 1) : Nat) : Int) (L := putAt (List.replicate (1024 * (slabs + 1)) 0) 0 5929342154728227142) (by omega)
  have l3 := putAt_len (a := 24) (18446744073709551615 - (1024 * (slabs + 1) : Nat)) (L := putAt (putAt (List.replicate (1024 * (slabs + 1)) 0) 0 5929342154728227142) 8 ((1024 * (slabs + 1) : Nat) : Int)) (by omega)
  exact l3.trans (l2.trans (l1.trans hl))
/-- an arena that is built -/
structure Built (d : AD) (slabs per lag : Nat) (keys : List Int) (l0 : List (Int × Int)) (kd cn : Nat → Nat) : Prop where
  i : LvI d per lag l0 kd cn
  ne : 0 < d.lv.length
  le : d.lv.length ≤ 16
  sl : d.slabs = slabs
  keys : l0.map (·.1) = keys
  root : chunk d.L 2 = (topA d : Int)
theorem ent_vals {keys : List Int} {l0 : List (Int × Int)} (hk : ∀ x ∈ keys, 0 ≤ x ∧ x ≤ 18446744073709551615) (hr : keys.Pairwise (· < ·)) (h1 : l0.map (·.1) = keys) (h2 : ∀ x ∈ l0, 0 < x.2 ∧ x.2 ≤ 1000000) : EntOk l0 := by
  have hg : ∀ i (h : i < l0.length), l0.getD i (0, 0) = l0[i] := fun i h => by rw [List.getD_eq_getElem?_getD, List.getElem?_eq_getElem h]; rfl
  refine ⟨U64E.of (fun i hi => ?_), fun i j hij hj => ?_, fun i hi => ?_⟩
  · unfold eK eP
    rw [hg i hi]
    have h3 := h2 _ (List.getElem_mem hi)
    have h4 := hk l0[i].1 (by rw [← h1]; exact List.mem_map.2 ⟨_, List.getElem_mem hi, rfl⟩)
    exact ⟨h4, by omega, by omega⟩
  · unfold eK
    rw [hg i (by omega), hg j hj]
    rw [← h1, List.pairwise_map] at hr
    exact List.pairwise_iff_getElem.1 hr i j (by omega) hj hij
  · unfold eP
    rw [hg i hi]
    have h3 := h2 _ (List.getElem_mem hi)
    omega
theorem buildA_st {slabs per lag : Nat} {keys : List Int} (h1 : 1 ≤ slabs) (h : slabs ≤ 16) (hp : 1 ≤ per) (hk : ∀ x ∈ keys, 0 ≤ x ∧ x ≤ 18446744073709551615) (hr : keys.Pairwise (· < ·)) {d : AD} (hb : buildA slabs keys per lag = some d) :
    ∃ l0 kd cn, Built d slabs per lag keys l0 kd cn := by
  unfold buildA at hb
  cases hv : valsA keys (arena1 slabs) with
  | none => rw [hv] at hb; cases hb
  | some r =>
    obtain ⟨d1, l0⟩ := r
    rw [hv] at hb
    simp only [] at hb
    obtain ⟨d2, h2, rfl⟩ := Option.map_eq_some_iff.1 hb
    obtain ⟨kd1, cn1, q1, q2, q3, q4, q5⟩ := valsA_st keys hk (arena1_st h1 h) hv
    have q3' : d1.lv = [] := q3
    have hE := ent_vals hk hr q4 q5
    obtain ⟨kd, cn, r1, r2, r3, r4, r5⟩ := levelsA_st hp 16 0 (l0 := l0) ⟨⟨q1, fun R hR => by rw [q3'] at hR; cases hR⟩, fun L R hL => by rw [q3'] at hL; simp at hL⟩ (by rw [q3']; rfl) (by decide) hE (fun _ => rfl) (fun M hM => by omega) h2
    have hs := r4.trans q2
    have hlen := r1.n.i.ok.len
    have hT : (topA d2 : Int) ≤ 1000000 := by
      unfold topA
      obtain ⟨R, hR⟩ : ∃ R, d2.lv[d2.lv.length - 1]? = some R := ⟨_, List.getElem?_eq_getElem (by omega)⟩
      obtain ⟨l, g⟩ := r1.rw _ R hR
      have hgd : d2.lv.getD (d2.lv.length - 1) [] = R := by rw [List.getD_eq_getElem?_getD, hR]; rfl
      have h0 := List.getElem?_eq_getElem g.p.ne
      have hg0 : R.getD 0 (0, nd0) = R[0]'g.p.ne := by rw [List.getD_eq_getElem?_getD, h0]; rfl
      rw [hgd, hg0]
      have := (g.w _ (List.mem_of_getElem? h0)).2.2.1
      omega
    have hch : ∀ i, chunk (putAt d2.L 16 (topA d2)) i = if i = 2 then (topA d2 : Int) else chunk d2.L i := fun i => by
      rw [show 16 = 8 * 2 by rfl]
      exact chunk_put (by omega) (by omega) (by omega) i
    refine ⟨l0, kd, cn, ⟨⟨⟨r1.n.i.body (putAt_len _ (by omega)) (fun i h3 h4 => by rw [hch, if_neg (by omega)]), fun R hR x hx => ?_⟩, fun L R hL => ?_⟩, r2, r3, hs, q4, ?_⟩⟩
    · obtain ⟨g1, g2⟩ := r1.n.st R hR x hx
      refine ⟨g1, fun q hq => ?_⟩
      obtain ⟨s, j, e1, e2, _⟩ := r1.n.i.slot g1
      show chunk (putAt d2.L 16 _) _ = _
      rw [hch, if_neg (by omega)]
      exact g2 q hq
    · obtain ⟨l, g⟩ := r1.rw L R hL
      exact ⟨l, g.p, g.e, g.nd, g.w, g.z, g.s⟩
    · show chunk (putAt d2.L 16 _) 2 = _
      rw [hch, if_pos rfl]
      rfl
end Go.Proofs.YtodgfbjjjgohgaaGreat
namespace Go.Proofs.YtodgfbjjjgohgaaGreat
open Go.RowKit
set_option linter.unusedVariables false

/-! ### keys that rise -/
/-! ### the node in whose range a key is -/
theorem len_ofK {m : Nd} {c : Nat} (h8 : c ≤ 8) (hn : ∀ j, j < c → m.p j ≠ 0) (hf : c < 8 → m.p c = 0) : m.len = c := by
  rcases Nat.lt_trichotomy m.len c with h | h | h
  · exact absurd (Nd.p_len m (by omega)) (hn _ h)
  · exact h
  · exact absurd (hf (by have := m.len_le; omega)) (Nd.p_lt m c h)
def Nd.child (n : Nd) (key : Int) : Int := if 0 ≤ n.last key then n.p (n.last key).toNat else n.fi
/-! ### the way -/
structure PathP (rows : List (List (Nat × Nd))) (key : Int) (of st : Nat → Nat) : Prop where
  ne : 0 < rows.length
  lt : ∀ L R, rows[L]? = some R → of L < R.length ∧ st L ≤ of L
  top : ∀ L, L + 1 = rows.length → st L = 0
  hop : ∀ L R i y, rows[L]? = some R → R[i + 1]? = some y → (y.2.lo ≤ key ↔ i < of L)
  child : ∀ L R Rb x y, rows[L + 1]? = some R → rows[L]? = some Rb → R[of (L + 1)]? = some x → Rb[st L]? = some y → x.2.child key = (y.1 : Int)
/-- the child of an inner node by which a key is looked for -/
structure ChP (l : List (Int × Int)) (per fr : Nat) (n : Nd) (key : Int) (t : Nat) : Prop where
  m : fr + t < l.length ∧ t < per
  e : n.child key = eP l (fr + t)
  up : 0 < t → eK l (fr + t) ≤ key
  lo : ∀ u, t < u → u < per → fr + u < l.length → key < eK l (fr + u)
end Go.Proofs.YtodgfbjjjgohgaaGreat
