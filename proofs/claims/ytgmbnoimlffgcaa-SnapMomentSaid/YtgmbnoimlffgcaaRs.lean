/-
  THE REFERENCE's Rise: its contract.
-/
import Derived.Test.YtgmbnoimlffgcaaRa
namespace Go.Proofs.Ytgmbnoimlffgcaa
open Go.RowKit

/-! ### the first place from i on, below i + d, of which t holds -/
def firstF (t : Nat → Bool) : Nat → Nat → Int
  | 0, _ => -1
  | d + 1, i => if t i = true then (i : Int) else firstF t d (i + 1)
/-- the last one below k -/
def lastF (t : Nat → Bool) : Nat → Int
  | 0 => -1
  | k + 1 => if t k = true then (k : Int) else lastF t k
def Nd.find (n : Nd) (key : Int) : Int := firstF (fun i => n.ok i && (n.k i == key)) n.len 0
def Nd.last (n : Nd) (key : Int) : Int := lastF (fun i => n.ok i && decide (n.k i ≤ key)) n.len
def Nd.inval (n : Nd) : Int := firstF (fun i => !n.ok i) n.len 0

theorem rinvalid_calls (n : Nd) (w : World) : Calls Try.prog 28 #[.agg (ndCells n)] w fun e W' => e = .returned (.int .i64 n.inval) ∧ Below w.heap.size w W' := by
  have HI := Lib.hid (info27 n)
  have HB0 := Lib.hid (Blk.new w (ndCells n) 40)
  have HW := Lib.hid ((Below.refl w.heap.size w).alloc (Nat.le_refl _) (.cells (ndCells n) 40))
  go_enter Try.func28, Try.ntmps28
  go_wp2_with (fail)
  obtain ⟨w0, hw0⟩ : ∃ w0, w0 = w.alloc (.cells (ndCells n) 40) := ⟨_, rfl⟩
  rw [← hw0] at HB0 HW ⊢
  have hs0 : w0.heap.size ≤ w.heap.size + 1 := by rw [hw0]; simp
  have hs1 : w.heap.size + 1 ≤ w0.heap.size := by rw [hw0]; simp
  clear hw0
  go_loopw [3] (fun iv wr => ∃ k : Nat, k ≤ n.len ∧ iv = .int .i64 k ∧ Hid (n.inval = firstF (fun i => !n.ok i) (n.len - k) k) ∧ Below w0.heap.size w0 wr) (fun iv _ => 9 - (intOf iv).toNat)
  case atStart => exact ⟨0, Nat.zero_le _, rfl, rfl, Below.refl _ _⟩
  case round =>
    obtain ⟨k, hk, rfl, hR, hB⟩ := hrel
    have hl := n.len_le
    have HL := Lib.hid (ndLoad (HB0.out.below hB (by omega)))
    have HB := Lib.hid hB
    have hsz : w0.heap.size ≤ wr.heap.size := hB.size
    clear hB
    go_wp2_with (with_reducible refine wpList_load_part (o := ⟨some 5, _, _, _, _, _⟩) rfl 40 _ rfl w.heap.size 0 rfl (ndCells n) _ HL.out Try.underlying40 rfl HI.out ?_)
    refine (rlen_calls n _).mono ?_
    rintro e w2 ⟨rfl, hB2⟩
    have HB2 := Lib.hid (HB.out.trans (hB2.mono hsz))
    have hsz2 : w0.heap.size ≤ w2.heap.size := HB2.out.size
    clear hB2 HL HB
    by_cases hlt : k < n.len
    · have hlt' : (k : Int) < (n.len : Int) := by omega
      have HL2 := Lib.hid (ndLoad (HB0.out.below HB2.out (by omega)))
      have hr2 : n.inval = if (!n.ok k) = true then (k : Int) else firstF (fun i => !n.ok i) (n.len - (k + 1)) (k + 1) := by
        rw [hR.out, show n.len - k = (n.len - (k + 1)) + 1 by omega]; rfl
      go_wp2_with (with_reducible refine wpList_load_part (o := ⟨some 10, _, _, _, _, _⟩) rfl 40 _ rfl w.heap.size 0 rfl (ndCells n) _ HL2.out Try.underlying40 rfl HI.out ?_)
      refine (ris_calls n k (by omega) _).mono ?_
      rintro e w3 ⟨rfl, hB3⟩
      have HB3 := Lib.hid (HB2.out.trans (hB3.mono hsz2))
      cases ho : n.ok k
      · rw [ho] at hr2
        have HR := Lib.hid hr2
        clear hr2 ho hB3 HL2 hR
        go_wp2_with (fail)
        go_ret
        exact ⟨by rw [HR.out]; rfl, HW.out.trans (HB3.out.mono (by omega))⟩
      · rw [ho] at hr2
        have HR := Lib.hid hr2
        clear hr2 ho hB3 HL2 hR
        go_wp2_with (fail)
        go_roundw
        case rel => exact ⟨k + 1, by omega, by go_num, HR.out, HB3.out⟩
        case measure => simp [intOf]; omega
    · have he : n.len - k = 0 := by omega
      have hlt' : ¬ (k : Int) < (n.len : Int) := by omega
      have HF := Lib.hid (show n.inval = -1 by rw [hR.out, he]; rfl)
      clear he hR
      go_wp2_with (fail)
      go_ret
      exact ⟨by rw [HF.out]; rfl, HW.out.trans (HB2.out.mono (by omega))⟩

end Go.Proofs.Ytgmbnoimlffgcaa
namespace Go.Proofs.Ytgmbnoimlffgcaa
open Go.RowKit

set_option maxRecDepth 100000 in
set_option maxHeartbeats 1600000 in
theorem rvalid_calls (n : Nd) (w : World) :
    Calls Try.prog 30 #[.agg (ndCells n)] w fun e W' => ∃ v, e = .returned v ∧ W'.ownsRow w.heap.size 113 2 v n.valid.length (ecells n.valid) ∧ Below w.heap.size w W' := by
  obtain ⟨i0, hi, hz0, hz1, hz2⟩ := info_parts Try.info60
  have hb0 := Blk.new w (ndCells n) 40
  have HI := Lib.hid (info27 n)
  have HL := Lib.hid (ndLoad hb0)
  have HB0 := Lib.hid hb0
  clear hb0
  go_enter Try.func30, Try.ntmps30
  go_wp2_with (with_reducible refine wpList_load_part (o := ⟨some 6, _, _, _, _, _⟩) rfl 40 _ rfl w.heap.size 0 rfl (ndCells n) _ HL.out Try.underlying40 rfl HI.out ?_)
  refine (rplaces_calls n _).mono ?_
  rintro e w1 ⟨v, rfl, hv, hB⟩
  have hb1 : Blk w1 w.heap.size (ndCells n) 40 := (hB.block _ (by simp)).trans HB0.out
  have hBw : Below w.heap.size w w1 := ((Below.refl _ w).alloc (Nat.le_refl _) _).trans (hB.mono (by simp))
  have hs1 : w.heap.size + 1 ≤ w1.heap.size := by have := hB.size; simp at this; exact this
  rw [places_eq, List.length_map, List.map_map] at hv
  have hl8 := plN_len n
  have HVL := Lib.hid (show n.valid.length = (plN n).length by simp [Nd.valid])
  rcases own_cases hv with ⟨h0, a, c, rfl⟩ | ⟨hpos, g, cap, rfl, hg1, hg2, hg3, hg4, hg5, hg6⟩
  · have hv0 : n.valid = [] := by unfold Nd.valid; rw [List.eq_nil_of_length_eq_zero h0]; rfl
    have HV0 := Lib.hid hv0
    have HBw := Lib.hid hBw
    clear hv0 h0 hv hB hBw
    go_wp2_with (fail)
    refine wp_loop_rounds 1 ?_
    rw [rounds_succ]
    go_wp2_with (fail)
    go_ret
    exact ⟨_, rfl, by rw [HV0.out]; exact World.ownsRow_nil _ _ _ _, HBw.out⟩
  · have HG := Lib.hid hg5
    have HBw := Lib.hid hBw
    have HB1 := Lib.hid hb1
    clear hv hB hBw hb1 hg5 hg6
    go_wp2_with (fail)
    go_loopw [3, 5] (fun ov iv wr => ∃ k : Nat, k ≤ (plN n).length ∧ iv = .int .i64 k ∧ wr.ownsRow w1.heap.size 113 2 ov k (ecells (n.valid.take k)) ∧ Below w1.heap.size w1 wr) (fun _ iv _ => (plN n).length - (intOf iv).toNat)
    case atStart => exact ⟨0, Nat.zero_le _, rfl, World.ownsRow_nil _ _ _ _, Below.refl _ _⟩
    case round =>
      obtain ⟨k, hk, rfl, hown, hBr⟩ := hrel
      by_cases hlt : k < (plN n).length
      · obtain ⟨j, hj⟩ : ∃ j, j = (plN n)[k] := ⟨_, rfl⟩
        have hjm : j ∈ plN n := by rw [hj]; exact List.getElem_mem _
        have hjl := plN_lt n j hjm
        have hl := n.len_le
        have hj8 : j < 8 := by omega
        have cv : wr.cell? ⟨g, k, none⟩ = some (.int .i64 j) := by
          rw [hBr.cell (p := ⟨g, k, none⟩) hg2, HG.out k hlt]; simp [hlt, hj]
        have hb : Blk wr w.heap.size (ndCells n) 40 := (hBr.block _ (by omega)).trans HB1.out
        have ck : wr.cell? ⟨w.heap.size, 5 + j, none⟩ = some (.int .u64 (n.k j)) := by rw [hb.cell, ndCells_k n j hj8]
        have cp : wr.cell? ⟨w.heap.size, 13 + j, none⟩ = some (.int .u64 (n.p j)) := by rw [hb.cell, ndCells_p n j hj8]
        have htk : n.valid.take (k + 1) = n.valid.take k ++ [(n.k j, n.p j)] := by
          rw [List.take_succ_eq_append_getElem (by unfold Nd.valid; simpa using hlt)]; simp [Nd.valid, hj]
        have HTK := Lib.hid htk
        have b1 : (j : Int) < 8 := by omega
        have lb : w.heap.size < wr.heap.size := hb.lt
        have hb8 : k ≤ 8 := by omega
        have ab : u3.ownBlock ≠ some w.heap.size := fun e => by have := own_base hown _ e; omega
        have ag : u3.ownBlock ≠ some g := fun e => by have := own_base hown _ e; omega
        have hBs := Lib.hid hBr
        have hsz : w1.heap.size ≤ wr.heap.size := hBr.size
        have lg : g < wr.heap.size := by omega
        clear htk hj hjm hb hBr
        go_wp2_with (fail)
        go_region_held3 (fun w' => w'.cell? ⟨w.heap.size, 5 + j, none⟩ = some (.int .u64 (n.k j)) ∧ w'.cell? ⟨w.heap.size, 13 + j, none⟩ = some (.int .u64 (n.p j)) ∧ w'.cell? ⟨g, k, none⟩ = some (.int .i64 j))
          (first
            | go_keep
            | (go_split_ands
               refine ⟨?_, ?_, ?_⟩
               · (rw [hgrow.cell_far _ (by simp; omega) (Ne.symm ab)]; assumption)
               · (rw [hgrow.cell_far _ (by simp; omega) (Ne.symm ab)]; assumption)
               · (rw [hgrow.cell_far _ (by simp; omega) (Ne.symm ag)]; assumption)))
          ((refine step_append_lies _ (by rfl) _ _ _ (by rfl) w1.heap.size 113 i0 _ 2 16 Try.underlying81 hi hz0 hz1 hz2 rfl (by omega) u3 k _ (by rfl) ((hown.alloc _).drew)
              ⟨wr.heap.size, 0, none⟩ 1 1 [.int .u64 (n.k j), .int .u64 (n.p j)] (by rfl) (by rfl) (World.news_of_block (cs := #[.int .u64 (n.k j), .int .u64 (n.p j)]) (t := 113) (fr := (0, 0)) (heap_alloc_new wr _)) (by simp [Value.oneCell'])
              (by omega) (by unfold maxLen; omega) (by omega) (by simp; omega) (wr.heap.size + 1) (by simp) ?_; intro gg cap2 w4 hown4 hgrow hat hlt2))
        all_goals (go_wp2_with (fail))
        go_roundw
        case rel =>
          refine ⟨k + 1, by omega, by go_num, ?_, ?_⟩
          · rw [HTK.out, ecells_snoc]; exact hown4
          · exact ((hBs.out.alloc hsz (.cells #[.int .u64 (n.k j), .int .u64 (n.p j)] 113)).drew).grown hgrow (by simp; omega) (fun r e => own_base hown _ e)
        case measure => simp [intOf]; omega
      · have HVE := Lib.hid (show n.valid.take k = n.valid ∧ n.valid.length = k from ⟨List.take_of_length_le (by have := HVL.out; omega), by have := HVL.out; omega⟩)
        have HO := Lib.hid hown
        have HF := Lib.hid (HBw.out.trans (hBr.mono (by omega)))
        clear hown hBr
        go_wp2_with (fail)
        go_ret
        exact ⟨_, rfl, by have := own_mono HO.out (show w.heap.size ≤ w1.heap.size by omega); rw [HVE.out.1] at this; rw [HVE.out.2]; exact this, HF.out⟩
end Go.Proofs.Ytgmbnoimlffgcaa
namespace Go.Proofs.Ytgmbnoimlffgcaa
open Go.RowKit

def eK (l : List (Int × Int)) (i : Nat) : Int := (l.getD i (0, 0)).1
def eP (l : List (Int × Int)) (i : Nat) : Int := (l.getD i (0, 0)).2
def dupAt (l : List (Int × Int)) (i : Nat) : Bool := (List.range i).any (fun j => eP l j == eP l i)
def badAt (lv lo fi : Int) (l : List (Int × Int)) (i : Nat) : Bool :=
  decide (eK l i < lo) || (decide (0 < lv) && (eK l i == lo)) || (decide (0 < i) && decide (eK l i ≤ eK l (i - 1))) || (eP l i == fi) || dupAt l i
def riseB (lv lo fi : Int) (l : List (Int × Int)) : Bool := (List.range l.length).all (fun i => !badAt lv lo fi l i)

theorem rise_false {lv lo fi : Int} {l : List (Int × Int)} {i : Nat} (hi : i < l.length) (h : badAt lv lo fi l i = true) : riseB lv lo fi l = false := by
  unfold riseB
  rw [List.all_eq_false]
  exact ⟨i, by simp [hi], by simp [h]⟩
theorem rise_true {lv lo fi : Int} {l : List (Int × Int)} (h : ∀ j, j < l.length → badAt lv lo fi l j = false) : riseB lv lo fi l = true := by
  unfold riseB
  rw [List.all_eq_true]
  intro j hj
  simp at hj
  simp [h j hj]

/-- a slice's entries, in memory -/
def EntsAt (w : World) (g o : Nat) (l : List (Int × Int)) : Prop :=
  ∀ i, i < l.length → w.cell? ⟨g, o + i * 2, none⟩ = some (.int .u64 (eK l i)) ∧ w.cell? ⟨g, o + i * 2 + 1, none⟩ = some (.int .u64 (eP l i))

theorem EntsAt.lt {w : World} {g o : Nat} {l : List (Int × Int)} (h : EntsAt w g o l) (hn : 0 < l.length) : g < w.heap.size := World.block_lt_of_cell? w ⟨g, o + 0 * 2, none⟩ (h 0 hn).1
theorem EntsAt.below {w w' : World} {B g o : Nat} {l : List (Int × Int)} (h : EntsAt w g o l) (hB : Below B w w') (hg : g < B) : EntsAt w' g o l := by
  intro i hi
  obtain ⟨h1, h2⟩ := h i hi
  exact ⟨(hB.cell (p := ⟨g, o + i * 2, none⟩) hg).trans h1, (hB.cell (p := ⟨g, o + i * 2 + 1, none⟩) hg).trans h2⟩
theorem ecells_get (l : List (Int × Int)) : ∀ i, i < l.length → (ecells l)[i * 2]? = some (.int .u64 (eK l i)) ∧ (ecells l)[i * 2 + 1]? = some (.int .u64 (eP l i)) := by
  induction l with
  | nil => intro i h; simp at h
  | cons x r ih =>
    intro i h
    cases i with
    | zero => simp [ecells, eK, eP]
    | succ i =>
      have := ih i (by simpa using h)
      have e : ecells (x :: r) = .int .u64 x.1 :: .int .u64 x.2 :: ecells r := by simp [ecells]
      rw [e, show (i + 1) * 2 = i * 2 + 1 + 1 by omega]
      simpa [eK, eP] using this
theorem own_ents {w : World} {base : Nat} {e : TypeId} {v : Value} {n : Nat} {l : List (Int × Int)} (h : w.ownsRow base e 2 v n (ecells l)) (hn : n = l.length) (hp : 0 < n) :
    ∃ g cap, v = .slice (some ⟨g, 0, none⟩) n cap ∧ base ≤ g ∧ g < w.heap.size ∧ n ≤ cap ∧ cap ≤ maxLen ∧ EntsAt w g 0 l := by
  obtain ⟨g, cap, h1, h2, h3, h4, h5, _, h7, _⟩ := own_shapeK h hp
  refine ⟨g, cap, h1, h2, h3, h4, h5, fun i hi => ?_⟩
  obtain ⟨e1, e2⟩ := ecells_get l i hi
  rw [Nat.zero_add]
  exact ⟨(h7 (i * 2) (by omega)).trans e1, (h7 (i * 2 + 1) (by omega)).trans e2⟩

theorem bad_parts {lv lo fi : Int} {l : List (Int × Int)} {i : Nat} {ki kp pi : Int} (h1 : eK l i = ki) (h2 : eK l (i - 1) = kp) (h3 : eP l i = pi) :
    badAt lv lo fi l i = (decide (ki < lo) || (decide (0 < lv) && (ki == lo)) || (decide (0 < i) && decide (ki ≤ kp)) || (pi == fi) || dupAt l i) := by
  unfold badAt; rw [h1, h2, h3]
theorem dup_true {l : List (Int × Int)} {i j : Nat} (hj : j < i) (h : eP l j = eP l i) : dupAt l i = true := by
  unfold dupAt; rw [List.any_eq_true]; exact ⟨j, by simp [hj], by simp [h]⟩
theorem dup_false {l : List (Int × Int)} {i : Nat} (h : ∀ j, j < i → eP l j ≠ eP l i) : dupAt l i = false := by
  unfold dupAt; rw [List.any_eq_false]; intro j hj; simp at hj; simpa using h j hj

set_option maxRecDepth 100000 in
set_option maxHeartbeats 4000000 in
theorem rrise_pos (lv lo fi : Int) (l : List (Int × Int)) (g o cap : Nat) (w : World) (hn : l.length ≤ 1000000) (hp : 0 < l.length) (hE : EntsAt w g o l) :
    Calls Try.prog 54 #[.int .i64 lv, .int .u64 lo, .int .u64 fi, .slice (some ⟨g, o, none⟩) l.length cap] w fun e W' => e = .returned (.bool (riseB lv lo fi l)) ∧ Below w.heap.size w W' := by
  have hg := hE.lt hp
  have HE := Lib.hid hE
  clear hE
  have FIN := Lib.hid (fun (r : Bool) (hr : riseB lv lo fi l = r) => show Ending.returned (.bool r) = .returned (.bool (riseB lv lo fi l)) by rw [hr])
  go_enter Try.func54, Try.ntmps54
  go_wp2_with (fail)
  go_loopw [9, 10] (fun iv _ wr => ∃ k : Nat, k ≤ l.length ∧ iv = .int .i64 k ∧ Hid (∀ j, j < k → badAt lv lo fi l j = false) ∧ Below w.heap.size w wr) (fun iv _ _ => l.length - (intOf iv).toNat)
  case atStart => exact ⟨0, Nat.zero_le _, rfl, fun j hj => by omega, Below.refl _ _⟩
  case round =>
    obtain ⟨k, hk, rfl, hno, hB⟩ := hrel
    have HB := Lib.hid hB
    by_cases hlt : k < l.length
    · obtain ⟨c1, c2⟩ := HE.out.below hB hg k hlt
      have c3 := (HE.out.below hB hg (k - 1) (by omega)).1
      obtain ⟨kk, hkk⟩ : ∃ kk, k - 1 = kk := ⟨_, rfl⟩
      obtain ⟨ki, hki⟩ : ∃ ki, eK l k = ki := ⟨_, rfl⟩
      obtain ⟨kp, hkp⟩ : ∃ kp, eK l (k - 1) = kp := ⟨_, rfl⟩
      obtain ⟨pi, hpi⟩ : ∃ pi, eP l k = pi := ⟨_, rfl⟩
      have HBAD := Lib.hid (bad_parts (lv := lv) (lo := lo) (fi := fi) hki hkp hpi)
      have HPI := Lib.hid hpi
      rw [hki] at c1
      rw [hkp, hkk] at c3
      rw [hpi] at c2
      have HRB := Lib.hid (HE.out.below hB hg)
      clear hki hkp hpi hB
      by_cases a1 : ki < lo
      · have hf := Lib.hid (rise_false hlt (by rw [HBAD.out, decide_eq_true a1]; rfl))
        go_wp2_with (fail)
        go_ret
        exact ⟨FIN.out _ hf.out, HB.out⟩
      · have HA1 := Lib.hid (decide_eq_false a1)
        have a1' : lo ≤ ki := by omega
        clear a1
        by_cases a2 : 0 < lv ∧ ki = lo
        · obtain ⟨a2, a3⟩ := a2
          have hf := Lib.hid (rise_false hlt (by rw [HBAD.out, decide_eq_true a2, a3]; simp))
          have a3' : (ki == lo) = true := by simpa using a3
          clear a3
          go_wp2_with (fail)
          go_ret
          exact ⟨FIN.out _ hf.out, HB.out⟩
        · have HA2 := Lib.hid (show (decide (0 < lv) && (ki == lo)) = false by simpa using a2)
          -- behind the first test
          have h2 : (0 < lv ∧ (ki == lo) = false) ∨ lv ≤ 0 := by
            by_cases h : 0 < lv
            · exact .inl ⟨h, by simpa using fun e => a2 ⟨h, e⟩⟩
            · exact .inr (by omega)
          clear a2
          have HKK := Lib.hid hkk
          clear hkk
          rcases h2 with ⟨h2a, h2b⟩ | h2
          all_goals
            by_cases b1 : 0 < k
            · have b1' : (0 : Int) < (k : Int) := by omega
              have b3 : (k : Int) - 1 = (kk : Int) := by have := HKK.out; omega
              have b4 : (kk : Int) < (l.length : Int) := by omega
              have b5 : (k : Int) < (l.length : Int) := by omega
              have b6 : (0 : Int) ≤ (kk : Int) := by omega
              have b7 : IntKind.i64.wrap ((k : Int) - 1) = (kk : Int) := by rw [b3]; exact IntWalk.i64_in _ (by omega)
              have b8 : ((kk : Int)).toNat = kk := by omega
              have b9 : ((k : Int)).toNat = k := by omega
              have b10 : decide (0 < k) = true := by simpa using b1
              by_cases b2 : ki ≤ kp
              · have hf := Lib.hid (rise_false hlt (by rw [HBAD.out, decide_eq_true b2, decide_eq_true b1]; simp))
                clear b1
                go_wp2_with (fail)
                go_quiet (fail)
                go_wp2_with (fail)
                go_ret
                exact ⟨FIN.out _ hf.out, below_drewN HB.out _⟩
              · have b2d : decide (ki ≤ kp) = false := by simpa using b2
                have hD := Lib.hid (show (decide (0 < k) && decide (ki ≤ kp)) = false by rw [b2d]; simp)
                clear b1 b2
                by_cases a4 : pi = fi
                · have hf := Lib.hid (rise_false hlt (by rw [HBAD.out, a4]; simp))
                  have a4' : (pi == fi) = true := by simpa using a4
                  clear a4
                  go_wp2_with (fail)
                  go_quiet (fail)
                  go_wp2_with (fail)
                  go_ret
                  exact ⟨FIN.out _ hf.out, below_drewN HB.out _⟩
                · have a4' : (pi == fi) = false := by simpa using a4
                  have HA4 := Lib.hid a4'
                  clear a4
                  go_wp2_with (fail)
                  go_quiet (fail)
                  have HB2 := Lib.hid (below_drewN HB.out nq)
                  generalize wr.drewN nq = wr2 at *
                  clear c1 c2 c3 b3 b4 b6 b7 b8 b9 b10 b1' b2d
                  go_wp2_with (fail)
                  go_loopw [10] (fun iv wr3 => ∃ t : Nat, t ≤ k ∧ iv = .int .i64 t ∧ Hid (∀ j, j < t → eP l j ≠ pi) ∧ Below w.heap.size w wr3) (fun iv _ => k - (intOf iv).toNat)
                  case atStart => exact ⟨0, Nat.zero_le _, rfl, Lib.hid fun j hj => by omega, HB2.out⟩
                  case round =>
                    obtain ⟨t, ht, rfl, hnt, hB3⟩ := hrel
                    have HB3 := Lib.hid hB3
                    by_cases htk : t < k
                    · have d1 := (HE.out.below hB3 hg t (by omega)).2
                      have d2 := (HE.out.below hB3 hg k hlt).2
                      rw [HPI.out] at d2
                      obtain ⟨pt, hpt⟩ : ∃ pt, eP l t = pt := ⟨_, rfl⟩
                      rw [hpt] at d1
                      have HPT := Lib.hid hpt
                      clear hpt hB3
                      have b11 : (t : Int) < (l.length : Int) := by omega
                      have b12 : ((t : Int)).toNat = t := by omega
                      have b13 : ((k : Int)).toNat = k := by omega
                      by_cases e1 : pt = pi
                      · have hf := Lib.hid (rise_false hlt (by rw [HBAD.out, dup_true htk (by rw [HPT.out, HPI.out, e1])]; simp))
                        have e1' : (pt == pi) = true := by simpa using e1
                        clear e1
                        go_wp2_with (fail)
                        go_quiet (fail)
                        go_wp2_with (fail)
                        go_ret
                        exact ⟨FIN.out _ hf.out, below_drewN HB3.out _⟩
                      · have e1' : (pt == pi) = false := by simpa using e1
                        have HE1 := Lib.hid e1
                        clear e1
                        go_wp2_with (fail)
                        go_quiet (fail)
                        have HB4 := Lib.hid (below_drewN HB3.out nq)
                        generalize wr.drewN nq = wr4 at *
                        clear d1 d2 b11 b12 b13
                        go_wp2_with (fail)
                        go_roundw
                        case rel => exact ⟨t + 1, by omega, by go_num, Lib.hid (fun j hj => by
                          rcases Nat.lt_succ_iff_lt_or_eq.1 hj with h | h
                          · exact hnt.out j h
                          · rw [h, HPT.out]; exact HE1.out), HB4.out⟩
                        case measure => simp [intOf]; omega
                    · clear hB3
                      go_wp2_with (fail)
                      go_roundw
                      case rel => exact ⟨k + 1, by omega, by go_num, Lib.hid (fun j hj => by
                        rcases Nat.lt_succ_iff_lt_or_eq.1 hj with h | h
                        · exact hno.out j h
                        · rw [h, HBAD.out, HA1.out, HA4.out, hD.out, dup_false (fun j hj => by rw [HPI.out]; exact hnt.out j (by omega))]
                          first
                            | (rw [h2b]; simp)
                            | (rw [decide_eq_false (by omega : ¬ 0 < lv)]; simp)), HB3.out⟩
                      case measure => simp [intOf]; omega
            · have b1d : decide (0 < k) = false := by simpa using b1
              have b1i : decide ((0 : Int) < (k : Int)) = false := decide_eq_false (by omega)
              have b5 : (k : Int) < (l.length : Int) := by omega
              have b9 : ((k : Int)).toNat = k := by omega
              have hD := Lib.hid (show (decide (0 < k) && decide (ki ≤ kp)) = false by rw [b1d]; simp)
              clear b1
              by_cases a4 : pi = fi
              · have hf := Lib.hid (rise_false hlt (by rw [HBAD.out, a4]; simp))
                have a4' : (pi == fi) = true := by simpa using a4
                clear a4
                go_wp2_with (fail)
                go_quiet (fail)
                go_wp2_with (fail)
                go_ret
                exact ⟨FIN.out _ hf.out, below_drewN HB.out _⟩
              · have a4' : (pi == fi) = false := by simpa using a4
                have HA4 := Lib.hid a4'
                clear a4
                go_wp2_with (fail)
                go_quiet (fail)
                have HB2 := Lib.hid (below_drewN HB.out nq)
                generalize wr.drewN nq = wr2 at *
                clear c1 c2 c3 b9 b1d b1i
                go_wp2_with (fail)
                go_loopw [10] (fun iv wr3 => ∃ t : Nat, t ≤ k ∧ iv = .int .i64 t ∧ Hid (∀ j, j < t → eP l j ≠ pi) ∧ Below w.heap.size w wr3) (fun iv _ => k - (intOf iv).toNat)
                case atStart => exact ⟨0, Nat.zero_le _, rfl, Lib.hid fun j hj => by omega, HB2.out⟩
                case round =>
                  obtain ⟨t, ht, rfl, hnt, hB3⟩ := hrel
                  have HB3 := Lib.hid hB3
                  by_cases htk : t < k
                  · have d1 := (HE.out.below hB3 hg t (by omega)).2
                    have d2 := (HE.out.below hB3 hg k hlt).2
                    rw [HPI.out] at d2
                    obtain ⟨pt, hpt⟩ : ∃ pt, eP l t = pt := ⟨_, rfl⟩
                    rw [hpt] at d1
                    have HPT := Lib.hid hpt
                    clear hpt hB3
                    have b11 : (t : Int) < (l.length : Int) := by omega
                    have b12 : ((t : Int)).toNat = t := by omega
                    have b13 : ((k : Int)).toNat = k := by omega
                    by_cases e1 : pt = pi
                    · have hf := Lib.hid (rise_false hlt (by rw [HBAD.out, dup_true htk (by rw [HPT.out, HPI.out, e1])]; simp))
                      have e1' : (pt == pi) = true := by simpa using e1
                      clear e1
                      go_wp2_with (fail)
                      go_quiet (fail)
                      go_wp2_with (fail)
                      go_ret
                      exact ⟨FIN.out _ hf.out, below_drewN HB3.out _⟩
                    · have e1' : (pt == pi) = false := by simpa using e1
                      have HE1 := Lib.hid e1
                      clear e1
                      go_wp2_with (fail)
                      go_quiet (fail)
                      have HB4 := Lib.hid (below_drewN HB3.out nq)
                      generalize wr.drewN nq = wr4 at *
                      clear d1 d2 b11 b12 b13
                      go_wp2_with (fail)
                      go_roundw
                      case rel => exact ⟨t + 1, by omega, by go_num, Lib.hid (fun j hj => by
                        rcases Nat.lt_succ_iff_lt_or_eq.1 hj with h | h
                        · exact hnt.out j h
                        · rw [h, HPT.out]; exact HE1.out), HB4.out⟩
                      case measure => simp [intOf]; omega
                  · clear hB3
                    go_wp2_with (fail)
                    go_roundw
                    case rel => exact ⟨k + 1, by omega, by go_num, Lib.hid (fun j hj => by
                      rcases Nat.lt_succ_iff_lt_or_eq.1 hj with h | h
                      · exact hno.out j h
                      · rw [h, HBAD.out, HA1.out, HA4.out, hD.out, dup_false (fun j hj => by rw [HPI.out]; exact hnt.out j (by omega))]
                        first
                          | (rw [h2b]; simp)
                          | (rw [decide_eq_false (by omega : ¬ 0 < lv)]; simp)), HB3.out⟩
                    case measure => simp [intOf]; omega
    · have hf := Lib.hid (rise_true (lv := lv) (lo := lo) (fi := fi) (l := l) (fun j hj => hno.out j (by omega)))
      clear hB
      go_wp2_with (fail)
      go_ret
      exact ⟨FIN.out _ hf.out, HB.out⟩
end Go.Proofs.Ytgmbnoimlffgcaa
