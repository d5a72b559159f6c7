/-
  THE DOCUMENT's TABLE OF LOCKS IN MEMORY; Is, Holder, next: what they answer.
-/
import Derived.Test.YtajccnmeijgagaaPq
import Derived.Test.YtajccnmeijgagaaRd
import Derived.Maps.AppendAt
namespace Go.Proofs.Ytajccnmeijgagaa
open Go.RowKit Go.Maps
set_option linter.unusedVariables false

def hcells (l : List (Int × Int)) : List Value := l.flatMap (fun x => [Value.int .u64 x.1, .int .i64 x.2])
def hI (l : List (Int × Int)) (i : Nat) : Int := (l.getD i (0, 0)).1
def hC (l : List (Int × Int)) (i : Nat) : Int := (l.getD i (0, 0)).2
theorem hcells_len (l : List (Int × Int)) : (hcells l).length = l.length * 2 := by
  induction l with
  | nil => rfl
  | cons x r ih =>
    have e : hcells (x :: r) = .int .u64 x.1 :: .int .i64 x.2 :: hcells r := by simp [hcells]
    rw [e]; simp [ih]; omega
theorem hcells_get (l : List (Int × Int)) : ∀ i, i < l.length → (hcells l)[i * 2]? = some (.int .u64 (hI l i)) ∧ (hcells l)[i * 2 + 1]? = some (.int .i64 (hC l i)) := by
  induction l with
  | nil => intro i h; simp at h
  | cons x r ih =>
    intro i h
    cases i with
    | zero => simp [hcells, hI, hC]
    | succ i =>
      have := ih i (by simpa using h)
      have e : hcells (x :: r) = .int .u64 x.1 :: .int .i64 x.2 :: hcells r := by simp [hcells]
      rw [e, show (i + 1) * 2 = i * 2 + 1 + 1 by omega]
      simpa [hI, hC] using this
theorem hcells_app (l m : List (Int × Int)) : hcells (l ++ m) = hcells l ++ hcells m := by unfold hcells; rw [List.flatMap_append]
theorem has_get (l : List (Int × Int)) {k : Nat} (h : k < l.length) : l[k] = (hI l k, hC l k) := by simp [hI, hC, h]
theorem drop_has (l : List (Int × Int)) {k : Nat} (h : k < l.length) : l.drop k = (hI l k, hC l k) :: l.drop (k + 1) := by
  rw [List.drop_eq_getElem_cons h, has_get l h]
def ws (n : Nat) (W : Nat → Int) : List Value := (List.range n).map (fun i => .int .u64 (W i))
theorem ws_len (n : Nat) (W : Nat → Int) : (ws n W).length = n := by simp [ws]
theorem ws_get {n : Nat} {W : Nat → Int} {i : Nat} (h : i < n) : (ws n W)[i]? = some (.int .u64 (W i)) := by simp [ws, h]
theorem ws_set {n : Nat} {W : Nat → Int} {i : Nat} (x : Int) : (ws n W).set i (.int .u64 x) = ws n (updN W i x) := by
  apply List.ext_getElem?
  intro j
  rw [List.getElem?_set]
  by_cases hj : j < n
  · rw [ws_get hj]
    by_cases e : i = j
    · subst e; rw [if_pos rfl, if_pos (by rw [ws_len]; exact hj), ws_get hj]; simp [updN]
    · rw [if_neg e, ws_get hj]; simp [updN, show ¬ j = i from fun q => e q.symm]
  · rw [List.getElem?_eq_none (by rw [ws_len]; omega : (ws n (updN W i x)).length ≤ j), List.getElem?_eq_none (by rw [ws_len]; omega : (ws n W).length ≤ j)]
    split
    · rw [if_neg (by rw [ws_len]; omega)]
    · rfl

/-- THE DOCUMENT's TABLE IN MEMORY: block r its two slices, who has what in the one, for what each waits in the other. -/
structure RT (w : World) (r n : Nat) (l : List (Int × Int)) (W : Nat → Int) (vL vW : Value) : Prop where
  blk : Blk w r #[vL, vW] 47
  own : w.ownsRow 0 76 2 vL l.length (hcells l)
  wts : w.ownsRow 0 29 1 vW n (ws n W)
def RS (r : Nat) (vL vW : Value) : Nat → Prop := fun i => i = r ∨ vL.ownBlock = some i ∨ vW.ownBlock = some i
theorem own_keeps {S : Nat → Prop} {w w' : World} {B k : Nat} {e : TypeId} {v : Value} {n : Nat} {xs : List Value} (h : w.ownsRow B e k v n xs) (hk : Keeps S w w') (hs : ∀ i, v.ownBlock = some i → ¬ S i) : w'.ownsRow B e k v n xs := by
  obtain ⟨hl, h0 | ⟨g, cap, cur, hv, hg, hh, h1⟩⟩ := h
  · exact ⟨hl, .inl h0⟩
  · refine ⟨hl, .inr ⟨g, cap, cur, hv, hg, ?_, h1⟩⟩
    rw [hk.block g (Array.getElem?_eq_some_iff.1 hh).1 (hs g (by rw [hv]; rfl))]; exact hh
theorem own_type {w : World} {B k : Nat} {e : TypeId} {v : Value} {n : Nat} {xs : List Value} (h : w.ownsRow B e k v n xs) {i : Nat} (hi : v.ownBlock = some i) : ∃ C : Array Value, w.heap[i]? = some (.cells C e (0, 0)) := by
  obtain ⟨hl, ⟨rfl, _⟩ | ⟨g, cap, cur, rfl, hg, hh, h1⟩⟩ := h
  · cases hi
  · cases hi; exact ⟨cur, hh⟩
section
variable {w w' : World} {r n : Nat} {l : List (Int × Int)} {W : Nat → Int} {vL vW : Value}
theorem RT.kept {S : Nat → Prop} (t : RT w r n l W vL vW) (hk : Keeps S w w') (hs : ∀ i, RS r vL vW i → ¬ S i) : RT w' r n l W vL vW :=
  ⟨t.blk.kept hk (hs r (.inl rfl)), own_keeps t.own hk (fun i h => hs i (.inr (.inl h))), own_keeps t.wts hk (fun i h => hs i (.inr (.inr h)))⟩
theorem RT.keptN (t : RT w r n l W vL vW) (hk : Keeps NoB w w') : RT w' r n l W vL vW := t.kept hk (fun _ _ h => h)
theorem RT.apart (t : RT w r n l W vL vW) {b m : Nat} {k : Nat} {h : Int → Option Int} {W0 : Nat → Int} {n0 : Int} (T : Tab w b m n0 h W0 k) : ∀ i, RS r vL vW i → ¬ Two b m i := by
  have hb := T.blk
  obtain ⟨D, ⟨es, cl, hm, _⟩, _⟩ := T.map
  unfold Blk at hb
  rintro i (rfl | e | e) (rfl | rfl)
  · have := t.blk; unfold Blk at this; rw [hb] at this; cases this
  · have := t.blk; unfold Blk at this; rw [hm] at this; cases this
  · obtain ⟨C, hc⟩ := own_type t.own e; rw [hb] at hc; cases hc
  · obtain ⟨C, hc⟩ := own_type t.own e; rw [hm] at hc; cases hc
  · obtain ⟨C, hc⟩ := own_type t.wts e; rw [hb] at hc; cases hc
  · obtain ⟨C, hc⟩ := own_type t.wts e; rw [hm] at hc; cases hc
theorem RT.c0 (t : RT w r n l W vL vW) : w.cell? ⟨r, 0, none⟩ = some vL := by rw [t.blk.cell]; rfl
theorem RT.c1 (t : RT w r n l W vL vW) : w.cell? ⟨r, 1, none⟩ = some vW := by rw [t.blk.cell]; rfl
theorem RT.lt (t : RT w r n l W vL vW) : ∀ i, RS r vL vW i → i < w.heap.size := by
  rintro i (rfl | e | e)
  · exact t.blk.lt
  · obtain ⟨C, hc⟩ := own_type t.own e; exact (Array.getElem?_eq_some_iff.1 hc).1
  · obtain ⟨C, hc⟩ := own_type t.wts e; exact (Array.getElem?_eq_some_iff.1 hc).1
theorem own_form {B k : Nat} {e : TypeId} {v : Value} {q : Nat} {xs : List Value} (h : w.ownsRow B e k v q xs) : ∃ a c, v = .slice a q c := by
  obtain ⟨_, ⟨rfl, rfl⟩ | ⟨g, cap, cur, rfl, _⟩⟩ := h <;> exact ⟨_, _, rfl⟩
theorem RT.hasAt {a : Option Addr} {c : Nat} (t : RT w r n l W (.slice a l.length c) vW) {i : Nat} (hi : i < l.length) :
    ∃ g, a = some ⟨g, 0, none⟩ ∧ g < w.heap.size ∧ l.length ≤ maxLen ∧ w.cell? ⟨g, i * 2, none⟩ = some (.int .u64 (hI l i)) ∧ w.cell? ⟨g, i * 2 + 1, none⟩ = some (.int .i64 (hC l i)) := by
  obtain ⟨g, cap, h1, _, h3, h4, h5, _, h7, _⟩ := own_shapeK t.own (by omega)
  injection h1 with e1 e2 e3
  obtain ⟨a1, a2⟩ := hcells_get l i hi
  exact ⟨g, e1, h3, Nat.le_trans h4 h5, (h7 _ (by omega)).trans a1, (h7 _ (by omega)).trans a2⟩
theorem RT.wAt {a : Option Addr} {c : Nat} (t : RT w r n l W vL (.slice a n c)) {i : Nat} (hi : i < n) :
    ∃ g, a = some ⟨g, 0, none⟩ ∧ g < w.heap.size ∧ n ≤ maxLen ∧ w.cell? ⟨g, i, none⟩ = some (.int .u64 (W i)) ∧ w.frozen? ⟨g, i, none⟩ = false := by
  obtain ⟨g, cap, h1, _, h3, h4, h5, _, h7, h8⟩ := own_shapeK t.wts (by omega)
  injection h1 with e1 e2 e3
  exact ⟨g, e1, h3, Nat.le_trans h4 h5, (h7 _ (by omega)).trans (ws_get hi), h8 i⟩
end

def isB (n : Nat) (c : Int) : Bool := decide (0 ≤ c ∧ c < n)
set_option maxRecDepth 100000 in
theorem is_v (w : World) (r n : Nat) (l : List (Int × Int)) (W : Nat → Int) (vL vW : Value) (t : RT w r n l W vL vW) (c : Int) :
    Calls Try.prog 35 #[.pointer (some ⟨r, 0, none⟩), .int .i64 c] w fun e w' => e = .returned (.bool (isB n c)) ∧ w = w' := by
  have c1 := t.c1
  obtain ⟨a, cw, rfl⟩ := own_form t.wts
  clear t
  obtain ⟨R, hR⟩ : ∃ R, isB n c = R := ⟨_, rfl⟩
  rw [hR]
  unfold isB at hR
  by_cases h0 : 0 ≤ c
  · by_cases h1 : c < (n : Int)
    · have : R = true := by rw [← hR]; exact decide_eq_true ⟨h0, h1⟩
      subst this
      clear hR
      go_enter Try.func35, Try.ntmps35
      go_wp2_with (fail)
      go_ret
      exact ⟨rfl, rfl⟩
    · have : R = false := by rw [← hR]; exact decide_eq_false (fun e => h1 e.2)
      subst this
      clear hR
      go_enter Try.func35, Try.ntmps35
      go_wp2_with (fail)
      go_ret
      exact ⟨rfl, rfl⟩
  · have : R = false := by rw [← hR]; exact decide_eq_false (fun e => h0 e.1)
    subst this
    clear hR
    go_enter Try.func35, Try.ntmps35
    go_wp2_with (fail)
    go_ret
    exact ⟨rfl, rfl⟩
theorem hldI_at {l : List (Int × Int)} {id : Int} {k : Nat} (hk : k < l.length) (h : lk (l.drop k) id = lk l id) (e : hI l k = id) : hC l k = hldI l id := by
  unfold hldI; rw [← h, drop_has l hk, lk_cons, if_pos e]; rfl
theorem lk_drop_next {l : List (Int × Int)} {id : Int} {k : Nat} (hk : k < l.length) (h : lk (l.drop k) id = lk l id) (e : hI l k ≠ id) : lk (l.drop (k + 1)) id = lk l id := by
  rw [← h, drop_has l hk, lk_cons, if_neg e]
set_option maxRecDepth 100000 in
theorem rholder_v (w : World) (r n : Nat) (l : List (Int × Int)) (W : Nat → Int) (vL vW : Value) (t : RT w r n l W vL vW) (id : Int) :
    Calls Try.prog 33 #[.pointer (some ⟨r, 0, none⟩), .int .u64 id] w fun e w' => e = .returned (.int .i64 (hldI l id)) ∧ w = w' := by
  obtain ⟨a, cl, rfl⟩ := own_form t.own
  have HT := Lib.hid t
  have c0 := t.c0
  clear t
  go_enter Try.func33, Try.ntmps33
  go_wp2_with (fail)
  go_loopw [5] (fun iv wr => ∃ k : Nat, k ≤ l.length ∧ iv = .int .i64 (k : Int) ∧ Hid (lk (l.drop k) id = lk l id) ∧ wr = w) (fun iv _ => l.length - (intOf iv).toNat)
  case atStart => exact ⟨0, Nat.zero_le _, rfl, Lib.hid rfl, rfl⟩
  case round =>
    obtain ⟨k, hk, rfl, hd, rfl⟩ := hrel
    by_cases hlt : k < l.length
    · obtain ⟨g, rfl, hg, hm, d1, d2⟩ := HT.out.hasAt hlt
      unfold maxLen at hm
      have b1 : (k : Int) < (l.length : Int) := by omega
      have HL := Lib.hid hlt
      by_cases he : hI l k = id
      · have he2 : (hI l k == id) = true := beq_iff_eq.2 he
        have HR := Lib.hid (hldI_at hlt hd.out he)
        clear he
        go_wp2_with (fail)
        go_ret
        exact ⟨by rw [HR.out]; rfl, rfl⟩
      · have he2 : (hI l k == id) = false := beq_eq_false_iff_ne.2 he
        have HD := Lib.hid (lk_drop_next hlt hd.out he)
        clear he
        go_wp2_with (fail)
        go_roundw
        case rel => exact ⟨k + 1, by omega, by go_num, HD, trivial⟩
        case measure => simp [intOf]; omega
    · have b1 : ¬ (k : Int) < (l.length : Int) := by omega
      have HR := Lib.hid (show hldI l id = -1 by unfold hldI; rw [← hd.out, List.drop_of_length_le (by omega)]; rfl)
      go_wp2_with (fail)
      go_ret
      exact ⟨by rw [HR.out]; rfl, rfl⟩
/-- on whom a client waits; -1: on nobody -/
def nI (l : List (Int × Int)) (W : Nat → Int) (c : Int) : Int := if W c.toNat = 0 then -1 else if hldI l (W c.toNat) = c then -1 else hldI l (W c.toNat)
set_option maxRecDepth 100000 in
theorem rnext_v (w : World) (r n : Nat) (l : List (Int × Int)) (W : Nat → Int) (vL vW : Value) (t : RT w r n l W vL vW) (c : Int) (h0 : 0 ≤ c) (h1 : c < n) :
    Calls Try.prog 44 #[.pointer (some ⟨r, 0, none⟩), .int .i64 c] w fun e w' => e = .returned (.int .i64 (nI l W c)) ∧ w = w' := by
  have HH := Lib.hid (rholder_v w r n l W vL vW t (W c.toNat))
  obtain ⟨a, cw, rfl⟩ := own_form t.wts
  have c1 := t.c1
  obtain ⟨q, rfl⟩ : ∃ q : Nat, (q : Int) = c := ⟨c.toNat, by omega⟩
  obtain ⟨g, rfl, hg, hm, d1, _⟩ := t.wAt (i := q) (by omega)
  unfold maxLen at hm
  rw [Int.toNat_natCast] at HH
  obtain ⟨R, hR⟩ : ∃ R, nI l W q = R := ⟨_, rfl⟩
  rw [hR]
  unfold nI at hR
  rw [Int.toNat_natCast] at hR
  generalize hldI l (W q) = who at *
  generalize W q = x at *
  clear t
  by_cases hx : x = 0
  · rw [if_pos hx] at hR
    subst hx
    subst hR
    go_enter Try.func44, Try.ntmps44
    go_wp2_with (fail)
    go_ret
    exact ⟨rfl, rfl⟩
  · rw [if_neg hx] at hR
    have hx2 : (x == 0) = false := beq_eq_false_iff_ne.2 hx
    clear hx
    by_cases hw : who = (q : Int)
    · rw [if_pos hw] at hR
      subst hw
      subst hR
      go_enter Try.func44, Try.ntmps44
      go_wp2_with (fail)
      refine HH.out.mono ?_
      rintro e w' ⟨rfl, rfl⟩
      go_wp2_with (fail)
      go_ret
      exact ⟨rfl, rfl⟩
    · rw [if_neg hw] at hR
      subst hR
      have hw2 : (who == (q : Int)) = false := beq_eq_false_iff_ne.2 hw
      clear hw
      go_enter Try.func44, Try.ntmps44
      go_wp2_with (fail)
      refine HH.out.mono ?_
      rintro e w' ⟨rfl, rfl⟩
      go_wp2_with (fail)
      go_ret
      exact ⟨rfl, rfl⟩
end Go.Proofs.Ytajccnmeijgagaa
