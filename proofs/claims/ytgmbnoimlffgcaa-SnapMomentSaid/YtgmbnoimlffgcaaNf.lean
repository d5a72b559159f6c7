/-
  node.Find, last, At: contracts.
-/
import Derived.Test.YtgmbnoimlffgcaaRx
import Derived.BigQuiet
import Derived.Deep.QuietTactic
namespace Go.Proofs.Ytgmbnoimlffgcaa
open Go.RowKit

/-! ### the first and the last place, in plain numbers -/
def FirstP (t : Nat → Bool) (i d : Nat) (r : Int) : Prop := (r = -1 ∧ ∀ j, i ≤ j → j < i + d → t j = false) ∨ ∃ j : Nat, r = j ∧ i ≤ j ∧ j < i + d ∧ t j = true ∧ ∀ k, i ≤ k → k < j → t k = false
theorem firstF_spec (t : Nat → Bool) : ∀ d i, FirstP t i d (firstF t d i)
  | 0, i => .inl ⟨rfl, fun j h1 h2 => by omega⟩
  | d + 1, i => by
    unfold firstF
    by_cases h : t i = true
    · rw [if_pos h]
      exact .inr ⟨i, rfl, Nat.le_refl _, by omega, h, fun k h1 h2 => by omega⟩
    · rw [if_neg h]
      have h' : t i = false := by simpa using h
      rcases firstF_spec t d (i + 1) with ⟨e, hn⟩ | ⟨j, e, h1, h2, h3, h4⟩
      · refine .inl ⟨e, fun j h1 h2 => ?_⟩
        rcases Nat.eq_or_lt_of_le h1 with e2 | e2
        · rw [← e2]; exact h'
        · exact hn j e2 (by omega)
      · refine .inr ⟨j, e, by omega, by omega, h3, fun k k1 k2 => ?_⟩
        rcases Nat.eq_or_lt_of_le k1 with e2 | e2
        · rw [← e2]; exact h'
        · exact h4 k e2 k2
theorem firstP_eq {t : Nat → Bool} {i d : Nat} {r r' : Int} (h : FirstP t i d r) (h' : FirstP t i d r') : r = r' := by
  rcases h with ⟨e, hn⟩ | ⟨j, e, h1, h2, h3, h4⟩ <;> rcases h' with ⟨e', hn'⟩ | ⟨j', e', h1', h2', h3', h4'⟩
  · rw [e, e']
  · have := hn j' h1' h2'; rw [h3'] at this; cases this
  · have := hn' j h1 h2; rw [h3] at this; cases this
  · rcases Nat.lt_trichotomy j j' with hl | hl | hl
    · have := h4' j h1 hl; rw [h3] at this; cases this
    · rw [e, e', hl]
    · have := h4 j' h1' hl; rw [h3'] at this; cases this
theorem plN_sorted (n : Nd) : (plN n).Pairwise (· < ·) := List.Pairwise.filter _ List.pairwise_lt_range
theorem plN_mem (n : Nd) (i : Nat) : i ∈ plN n ↔ i < n.len ∧ n.ok i = true := by
  unfold plN Nd.ok
  rw [List.mem_filter, List.mem_range]
def plA (n : Nd) (j : Nat) : Nat := (plN n).getD j 0
theorem plA_mem (n : Nd) (j : Nat) (h : j < (plN n).length) : plA n j ∈ plN n := by unfold plA; simp [h]
theorem plA_lt8 (n : Nd) (j : Nat) (h : j < (plN n).length) : plA n j < 8 := by
  have := (plN_mem n _).1 (plA_mem n j h)
  have := n.len_le
  omega
theorem plA_mono (n : Nd) {i j : Nat} (hij : i < j) (hj : j < (plN n).length) : plA n i < plA n j := by
  have := List.pairwise_iff_getElem.1 (plN_sorted n) i j (by omega) hj hij
  unfold plA
  simpa [hj, show i < (plN n).length by omega] using this
theorem plA_of (n : Nd) {i : Nat} (h : i ∈ plN n) : ∃ j, j < (plN n).length ∧ plA n j = i := by
  obtain ⟨j, hj, e⟩ := List.getElem_of_mem h
  exact ⟨j, hj, by unfold plA; simp [hj, e]⟩
theorem find_places (n : Nd) (key r : Int) (h : FirstP (fun j => n.k (plA n j) == key) 0 (plN n).length r) :
    (r = -1 ∧ n.find key = -1) ∨ ∃ j : Nat, r = j ∧ j < (plN n).length ∧ n.find key = (plA n j : Nat) := by
  have hf := firstF_spec (fun i => n.ok i && (n.k i == key)) n.len 0
  rcases h with ⟨e, hn⟩ | ⟨j, e, h1, h2, h3, h4⟩
  · refine .inl ⟨e, firstP_eq hf (.inl ⟨rfl, fun i _ hi => ?_⟩)⟩
    cases hok : n.ok i with
    | false => show (n.ok i && (n.k i == key)) = false; rw [hok]; rfl
    | true =>
      obtain ⟨j, hj, ej⟩ := plA_of n ((plN_mem n i).2 ⟨by omega, hok⟩)
      have h5 : (n.k (plA n j) == key) = false := hn j (Nat.zero_le _) (by omega)
      rw [ej] at h5
      show (n.ok i && (n.k i == key)) = false
      rw [h5, Bool.and_false]
  · have hm := (plN_mem n _).1 (plA_mem n j (by omega))
    refine .inr ⟨j, e, by omega, firstP_eq hf (.inr ⟨plA n j, rfl, Nat.zero_le _, by omega, ?_, fun i _ hi => ?_⟩)⟩
    · show (n.ok (plA n j) && (n.k (plA n j) == key)) = true
      rw [hm.2, Bool.true_and]; exact h3
    · cases hok : n.ok i with
      | false => show (n.ok i && (n.k i == key)) = false; rw [hok]; rfl
      | true =>
        obtain ⟨j', hj', ej⟩ := plA_of n ((plN_mem n i).2 ⟨by omega, hok⟩)
        have hlt : j' < j := by
          rcases Nat.lt_or_ge j' j with h | h
          · exact h
          · rcases Nat.eq_or_lt_of_le h with h | h
            · rw [← h] at ej; omega
            · have := plA_mono n h hj'; omega
        have h5 : (n.k (plA n j') == key) = false := h4 j' (Nat.zero_le _) hlt
        rw [ej] at h5
        show (n.ok i && (n.k i == key)) = false
        rw [h5, Bool.and_false]
def lastL (n : Nd) (key : Int) (L : List Nat) : Int := L.foldl (fun a i => if n.k i ≤ key then (i : Int) else a) (-1)
theorem lastL_snoc (n : Nd) (key : Int) (L : List Nat) (i : Nat) : lastL n key (L ++ [i]) = if n.k i ≤ key then (i : Int) else lastL n key L := by simp [lastL]
theorem lastL_places (n : Nd) (key : Int) : lastL n key (plN n) = n.last key := by
  unfold plN Nd.last
  have : ∀ m, lastL n key ((List.range m).filter (fun i => n.p i != n.ahead i)) = lastF (fun i => n.ok i && decide (n.k i ≤ key)) m := by
    intro m
    induction m with
    | zero => rfl
    | succ m ih =>
      rw [List.range_succ, List.filter_append]
      unfold lastF
      cases hok : n.ok m with
      | false =>
        have : (n.p m != n.ahead m) = false := hok
        simp [this, ih]
      | true =>
        have : (n.p m != n.ahead m) = true := hok
        rw [List.filter_cons, if_pos this, List.filter_nil, lastL_snoc, ih]
        by_cases hk : n.k m ≤ key <;> simp [hk]
  exact this n.len
theorem last_ge (n : Nd) (key : Int) : -1 ≤ n.last key ∧ n.last key < n.len := by
  unfold Nd.last
  have : ∀ (t : Nat → Bool) m, -1 ≤ lastF t m ∧ lastF t m < (m : Int) := by
    intro t m
    induction m with
    | zero => exact ⟨by simp [lastF], by simp [lastF]⟩
    | succ m ih => unfold lastF; split <;> omega
  exact this _ _
theorem lastL_lt (n : Nd) (key : Int) (L : List Nat) (h : ∀ i ∈ L, i < 8) : -1 ≤ lastL n key L ∧ lastL n key L < 8 := by
  unfold lastL
  have : ∀ (L : List Nat) (a : Int), (∀ i ∈ L, i < 8) → -1 ≤ a → a < 8 → -1 ≤ L.foldl (fun a i => if n.k i ≤ key then (i : Int) else a) a ∧ L.foldl (fun a i => if n.k i ≤ key then (i : Int) else a) a < 8 := by
    intro L
    induction L with
    | nil => intro a _ h1 h2; exact ⟨h1, h2⟩
    | cons x r ih =>
      intro a hl h1 h2
      have hx := hl x (by simp)
      rw [List.foldl_cons]
      refine ih _ (fun i hi => hl i (by simp [hi])) ?_ ?_ <;> split <;> omega
  exact this L (-1) h (by decide) (by decide)
theorem plN_take (n : Nd) (k : Nat) (h : k < (plN n).length) : (plN n).take (k + 1) = (plN n).take k ++ [plA n k] := by
  rw [List.take_succ_eq_append_getElem h]
  unfold plA
  simp [h]

/-! ### the walks -/
theorem findF_calls (n : Nd) (key : Int) (j : Nat) (hj : j < 8) (bn bk : Nat) (w : World) (hn : Blk w bn (ndCells n) 40) (hk : w.cell? ⟨bk, 0, none⟩ = some (.int .u64 key)) :
    Calls Try.prog 93 #[.int .i64 j, .pointer (some ⟨bn, 0, none⟩), .pointer (some ⟨bk, 0, none⟩)] w fun e w' => e = .returned (.bool (n.k j == key)) ∧ Below w.heap.size w w' := by
  have c1 : w.cell? ⟨bn, 5 + j, none⟩ = some (.int .u64 (n.k j)) := by rw [hn.cell, ndCells_k n j hj]
  have b1 : (j : Int) < 8 := by omega
  have b2 : (0 : Int) ≤ (j : Int) := by omega
  have b3 : ((j : Int)).toNat = j := by omega
  generalize n.k j = x at *
  clear hn
  go_enter Try.func93, Try.ntmps93
  go_wp2_with (fail)
  go_quiet (fail)
  go_wp2_with (fail)
  go_ret
  exact ⟨rfl, below_drewN (Below.refl _ _) _⟩

/-- a row of places, as it lies -/
def PlAt (w : World) (g : Nat) (n : Nd) : Prop := ∀ j, j < (plN n).length → w.cell? ⟨g, j, none⟩ = some (.int .i64 (plA n j : Nat))
theorem PlAt.below {w w' : World} {B g : Nat} {n : Nd} (h : PlAt w g n) (hB : Below B w w') (hg : g < B) : PlAt w' g n := fun j hj => (hB.cell (p := ⟨g, j, none⟩) hg).trans (h j hj)
theorem own_places {w : World} {base : Nat} {e : TypeId} {v : Value} {n : Nd} (h : w.ownsRow base e 1 v n.places.length (n.places.map (Value.int .i64))) :
    ∃ a c, v = .slice a (plN n).length c ∧ (0 < (plN n).length → ∃ g, a = some ⟨g, 0, none⟩ ∧ base ≤ g ∧ g < w.heap.size ∧ PlAt w g n) := by
  have hl : n.places.length = (plN n).length := by rw [places_eq, List.length_map]
  obtain ⟨a, m, c, rfl⟩ := own_slice h
  have hm : m = n.places.length := own_len h
  refine ⟨a, c, by rw [hm, hl], fun hp => ?_⟩
  obtain ⟨g, cap, e, hb, hg, _, _, _, hc, _⟩ := own_shape h (by omega)
  cases e
  refine ⟨g, rfl, hb, hg, fun j hj => ?_⟩
  rw [hc j (by omega), places_eq]
  unfold plA
  simp [hj]

set_option maxRecDepth 100000 in
set_option maxHeartbeats 1600000 in
theorem idxF_calls (n : Nd) (key : Int) (a : Option Addr) (c bn bk : Nat) (w : World) (hA : 0 < (plN n).length → ∃ g, a = some ⟨g, 0, none⟩ ∧ g < w.heap.size ∧ PlAt w g n) (hn : Blk w bn (ndCells n) 40) (hk : w.cell? ⟨bk, 0, none⟩ = some (.int .u64 key)) :
    Calls Try.prog 92 #[.slice a (plN n).length c, .func (.func 93) #[] #[.pointer (some ⟨bn, 0, none⟩), .pointer (some ⟨bk, 0, none⟩)]] w
      fun e w' => e = .returned (.int .i64 (firstF (fun j => n.k (plA n j) == key) (plN n).length 0)) ∧ Below w.heap.size w w' := by
  have HA := Lib.hid hA
  have HN := Lib.hid hn
  have HK := Lib.hid hk
  have hbn := hn.lt
  have hbk := World.block_lt_of_cell? w _ hk
  have h8 := plN_len n
  clear hA hn hk
  have FIN := Lib.hid (fun (r : Int) (hr : firstF (fun j => n.k (plA n j) == key) (plN n).length 0 = r) => show Ending.returned (.int .i64 r) = .returned (.int .i64 (firstF (fun j => n.k (plA n j) == key) (plN n).length 0)) by rw [hr])
  obtain ⟨m, hm⟩ : ∃ m, (plN n).length = m := ⟨_, rfl⟩
  rw [hm] at HA FIN h8 ⊢
  have HM := Lib.hid hm
  clear hm
  go_enter Try.func92, Try.ntmps92
  go_wp2_with (fail)
  go_loopw [8] (fun iv wr => ∃ k : Nat, k ≤ m ∧ iv = .int .i64 k ∧ Hid (firstF (fun j => n.k (plA n j) == key) m 0 = firstF (fun j => n.k (plA n j) == key) (m - k) k) ∧ Below w.heap.size w wr) (fun iv _ => m - (intOf iv).toNat)
  case atStart => exact ⟨0, Nat.zero_le _, rfl, Lib.hid rfl, Below.refl _ _⟩
  case round =>
    obtain ⟨k, hk, rfl, hR, hB⟩ := hrel
    have HB := Lib.hid hB
    have hsz : w.heap.size ≤ wr.heap.size := hB.size
    by_cases hlt : k < m
    · obtain ⟨g, rfl, hg, hp⟩ := HA.out (by omega)
      have c1 := hp.below hB hg k (by rw [HM.out]; exact hlt)
      have HF := Lib.hid (findF_calls n key (plA n k) (plA_lt8 n k (by rw [HM.out]; exact hlt)) bn bk wr (HN.out.below hB hbn) ((hB.cell (p := ⟨bk, 0, none⟩) hbk).trans HK.out))
      have hst := Lib.hid (hR.out.trans (firstF_step (fun j => n.k (plA n j) == key) m k hlt))
      cases hc : (n.k (plA n k) == key)
      · rw [hc] at HF
        have hr2 := Lib.hid (hst.out.trans (if_neg (by simp only [hc]; simp)))
        generalize plA n k = pk at *
        clear hB hp hc
        go_wp2_with (fail)
        refine HF.out.mono ?_
        rintro e w2 ⟨rfl, hB2⟩
        have HB2 := Lib.hid (HB.out.trans (hB2.mono hsz))
        clear hB2 c1
        go_wp2_with (fail)
        go_roundw
        case rel => exact ⟨k + 1, by omega, by go_num, hr2, HB2.out⟩
        case measure => simp [intOf]; omega
      · rw [hc] at HF
        have hr2 := Lib.hid (hst.out.trans (if_pos (by simp only [hc])))
        generalize plA n k = pk at *
        clear hB hp hc
        go_wp2_with (fail)
        refine HF.out.mono ?_
        rintro e w2 ⟨rfl, hB2⟩
        have HB2 := Lib.hid (HB.out.trans (hB2.mono hsz))
        clear hB2 c1
        go_wp2_with (fail)
        go_ret
        exact ⟨FIN.out _ hr2.out, HB2.out⟩
    · have hf := Lib.hid (hR.out.trans (firstF_end _ m k (by omega)))
      clear hB
      go_wp2_with (fail)
      go_ret
      exact ⟨FIN.out _ hf.out, HB.out⟩

def FindV (n : Nd) (key : Int) : Value := if n.find key < 0 then .tuple #[.int .i64 0, .bool false] else .tuple #[.int .i64 (n.find key), .bool true]
set_option maxRecDepth 100000 in
set_option maxHeartbeats 1600000 in
theorem nfind_calls (n : Nd) (key : Int) (w : World) :
    Calls Try.prog 71 #[.agg (ndCells n), .int .u64 key] w fun e W' => e = .returned (FindV n key) ∧ Below w.heap.size w W' := by
  have HI := Lib.hid (info27 n)
  have HS := Lib.hid (firstF_spec (fun j => n.k (plA n j) == key) (plN n).length 0)
  have H8 := plN_len n
  have hB1 : Below w.heap.size w ((w.alloc (.cells (ndCells n) 40)).alloc (.cells #[.int .u64 key] 23)) := ((Below.refl w.heap.size w).alloc (Nat.le_refl _) _).alloc (by simp) _
  have hk1 : Blk ((w.alloc (.cells (ndCells n) 40)).alloc (.cells #[.int .u64 key] 23)) w.heap.size (ndCells n) 40 := (Blk.new w _ _).alloc _
  have hk2 : Blk ((w.alloc (.cells (ndCells n) 40)).alloc (.cells #[.int .u64 key] 23)) (w.heap.size + 1) #[.int .u64 key] 23 := by
    have := Blk.new (w.alloc (.cells (ndCells n) 40)) #[.int .u64 key] 23
    simpa using this
  have HB1 := Lib.hid hB1
  have HK1 := Lib.hid hk1
  have HK2 := Lib.hid hk2
  have HL := Lib.hid (ndLoad hk1)
  clear hB1 hk1 hk2
  go_enter Try.func71, Try.ntmps71
  go_wp2_with (with_reducible refine wpList_load_part (o := ⟨some 8, _, _, _, _, _⟩) rfl 40 _ rfl w.heap.size 0 rfl (ndCells n) _ HL.out Try.underlying40 rfl HI.out ?_)
  refine (places_calls n _).mono ?_
  rintro e w1 ⟨v, rfl, hv, hB⟩
  obtain ⟨a, c, rfl, hA⟩ := own_places hv
  have HA := Lib.hid hA
  have hbw : Below w.heap.size w w1 := HB1.out.trans (hB.mono (by simp <;> omega))
  have HBW := Lib.hid hbw
  have b1 : Blk w1 w.heap.size (ndCells n) 40 := HK1.out.below hB (by simp <;> omega)
  have b2 : Blk w1 (w.heap.size + 1) #[.int .u64 key] 23 := HK2.out.below hB (by simp <;> omega)
  have HX := Lib.hid (idxF_calls n key a c w.heap.size (w.heap.size + 1) w1 (fun h => by obtain ⟨g, e1, _, e2, e3⟩ := hA h; exact ⟨g, e1, e2, e3⟩) b1 (by rw [b2.cell]; rfl))
  clear hv hB hA hbw b1 b2
  rcases find_places n key _ HS.out with ⟨e1, e2⟩ | ⟨j, e1, e2, e3⟩
  · rw [e1] at HX
    have HF := Lib.hid (show FindV n key = .tuple #[.int .i64 0, .bool false] by unfold FindV; rw [e2]; rfl)
    clear e1 e2
    go_wp2_with (fail)
    refine HX.out.mono ?_
    rintro e w2 ⟨rfl, hB2⟩
    have HB2 := Lib.hid (HBW.out.trans (hB2.mono HBW.out.size))
    clear hB2
    go_wp2_with (fail)
    go_ret2
    exact ⟨congrArg Ending.returned HF.out.symm, HB2.out⟩
  · rw [e1] at HX
    have HF := Lib.hid (show FindV n key = .tuple #[.int .i64 (plA n j : Nat), .bool true] by unfold FindV; rw [e3, if_neg (by omega)])
    obtain ⟨g, rfl, hgb, hg, hp⟩ := HA.out (by omega)
    have hpj := hp j e2
    obtain ⟨pj, hpe⟩ : ∃ x, plA n j = x := ⟨_, rfl⟩
    rw [hpe] at HF hpj
    obtain ⟨m, hm⟩ : ∃ m, (plN n).length = m := ⟨_, rfl⟩
    rw [hm] at HX e2 H8 ⊢
    have q1 : (j : Int) < (m : Int) := by omega
    have q2 : (0 : Int) ≤ (j : Int) := by omega
    have q3 : ((j : Int)).toNat = j := by omega
    clear e1 e3 hp hpe hm HA
    go_wp2_with (fail)
    refine HX.out.mono ?_
    rintro e w2 ⟨rfl, hB2⟩
    have hpj2 := (hB2.cell (p := ⟨g, j, none⟩) hg).trans hpj
    have HB2 := Lib.hid (HBW.out.trans (hB2.mono HBW.out.size))
    clear hB2
    go_wp2_with (fail)
    go_ret2
    exact ⟨congrArg Ending.returned HF.out.symm, HB2.out⟩

set_option maxRecDepth 100000 in
set_option maxHeartbeats 1600000 in
theorem nlast_calls (n : Nd) (key : Int) (w : World) :
    Calls Try.prog 96 #[.agg (ndCells n), .int .u64 key] w fun e W' => e = .returned (.int .i64 (n.last key)) ∧ Below w.heap.size w W' := by
  have HI := Lib.hid (info27 n)
  have H8 := plN_len n
  have hk1 : Blk (w.alloc (.cells (ndCells n) 40)) w.heap.size (ndCells n) 40 := Blk.new w _ _
  have HK1 := Lib.hid hk1
  have HL := Lib.hid (ndLoad hk1)
  clear hk1
  go_enter Try.func96, Try.ntmps96
  go_wp2_with (with_reducible refine wpList_load_part (o := ⟨some 8, _, _, _, _, _⟩) rfl 40 _ rfl w.heap.size 0 rfl (ndCells n) _ HL.out Try.underlying40 rfl HI.out ?_)
  refine (places_calls n _).mono ?_
  rintro e w1 ⟨v, rfl, hv, hB⟩
  obtain ⟨a, c, rfl, hA⟩ := own_places hv
  have HA := Lib.hid hA
  have HBW := Lib.hid (((Below.refl w.heap.size w).alloc (Nat.le_refl _) (.cells (ndCells n) 40)).trans (hB.mono (by simp <;> omega)))
  have HB1 := Lib.hid (HK1.out.below hB (by simp <;> omega))
  have HLL := Lib.hid (lastL_places n key)
  have HPL := Lib.hid (fun k h => plN_take n k h)
  have HP8 := Lib.hid (fun k h => plA_lt8 n k h)
  have HLT := Lib.hid (fun k => lastL_lt n key ((plN n).take k) (fun i hi => by
    have := (plN_mem n i).1 (List.mem_of_mem_take hi)
    have := n.len_le
    omega))
  have HTL := Lib.hid (List.take_length (l := plN n))
  clear hv hB hA
  obtain ⟨m, hm⟩ : ∃ m, (plN n).length = m := ⟨_, rfl⟩
  rw [hm] at HA H8 HPL HP8 HTL ⊢
  have HM := Lib.hid hm
  clear hm
  go_wp2_with (fail)
  go_loop [5, 11] (fun av iv => ∃ k : Nat, k ≤ m ∧ iv = .int .i64 k ∧ av = .int .i64 (lastL n key ((plN n).take k))) (fun _ iv => m - (intOf iv).toNat)
  case atStart => exact ⟨0, Nat.zero_le _, rfl, rfl⟩
  case round =>
    obtain ⟨k, hk, rfl, rfl⟩ := hrel
    by_cases hlt : k < m
    · obtain ⟨g, rfl, _, hg, hp⟩ := HA.out (by omega)
      have c1 := hp k (by rw [HM.out]; exact hlt)
      have hpk := HP8.out k hlt
      have HS := Lib.hid (HPL.out k hlt)
      have c2 : w1.cell? ⟨w.heap.size, 5 + plA n k, none⟩ = some (.int .u64 (n.k (plA n k))) := by rw [HB1.out.cell, ndCells_k n _ hpk]
      have HSn := Lib.hid (lastL_snoc n key ((plN n).take k) (plA n k))
      obtain ⟨x, hx⟩ : ∃ x, n.k (plA n k) = x := ⟨_, rfl⟩
      rw [hx] at c2 HSn
      generalize plA n k = pk at *
      have q1 : (k : Int) < (m : Int) := by omega
      have q2 : (0 : Int) ≤ (k : Int) := by omega
      have q3 : ((k : Int)).toNat = k := by omega
      have q4 : (pk : Int) < 8 := by omega
      have q5 : (0 : Int) ≤ (pk : Int) := by omega
      have q6 : ((pk : Int)).toNat = pk := by omega
      clear hp hx
      by_cases hle : x ≤ key
      · have HN : Hid (lastL n key ((plN n).take (k + 1)) = (pk : Int)) := Lib.hid (by rw [HS.out, HSn.out, if_pos hle])
        clear hpk
        go_wp2_with (fail)
        go_round
        case rel => exact ⟨k + 1, by omega, by go_num, by rw [HN.out]⟩
        case measure => simp [intOf]; omega
      · have HN : Hid (lastL n key ((plN n).take (k + 1)) = lastL n key ((plN n).take k)) := Lib.hid (by rw [HS.out, HSn.out, if_neg hle])
        clear hpk
        go_wp2_with (fail)
        go_round
        case rel => exact ⟨k + 1, by omega, by go_num, by rw [HN.out]⟩
        case measure => simp [intOf]; omega
    · have hkm : k = m := by omega
      subst hkm
      go_wp2_with (fail)
      go_ret
      exact ⟨congrArg (fun z => Ending.returned (.int .i64 z)) ((congrArg (lastL n key) HTL.out).trans HLL.out), HBW.out⟩

theorem nat_calls (n : Nd) (key : Int) (w : World) :
    Calls Try.prog 75 #[.agg (ndCells n), .int .u64 key] w fun e W' => e = .returned (.int .i64 (n.last key + 1)) ∧ Below w.heap.size w W' := by
  have HI := Lib.hid (info27 n)
  have hk1 : Blk (w.alloc (.cells (ndCells n) 40)) w.heap.size (ndCells n) 40 := Blk.new w _ _
  have HL := Lib.hid (ndLoad hk1)
  have hg := last_ge n key
  have h8 := n.len_le
  have g1 : -1 ≤ n.last key := hg.1
  have g2 : n.last key < 8 := by omega
  clear hk1 hg h8
  have HN := Lib.hid (fun w => nlast_calls n key w)
  obtain ⟨r, hr⟩ : ∃ r, n.last key = r := ⟨_, rfl⟩
  rw [hr] at g1 g2 HN ⊢
  clear hr
  go_enter Try.func75, Try.ntmps75
  go_wp2_with (with_reducible refine wpList_load_part (o := ⟨some 5, _, _, _, _, _⟩) rfl 40 _ rfl w.heap.size 0 rfl (ndCells n) _ HL.out Try.underlying40 rfl HI.out ?_)
  refine (HN.out _).mono ?_
  rintro e w1 ⟨rfl, hB⟩
  have HB := Lib.hid (((Below.refl w.heap.size w).alloc (Nat.le_refl _) (.cells (ndCells n) 40)).trans (hB.mono (by simp <;> omega)))
  clear hB
  go_wp2_with (fail)
  go_ret
  exact ⟨rfl, HB.out⟩
end Go.Proofs.Ytgmbnoimlffgcaa
