/-
  THE DOCUMENT's SET OF ADDRESSES: Has, Take, Drop: contracts.
-/
import Derived.Test.YtdekjfbaoaobeaaTk
import Derived.Test.YtdekjfbaoaobeaaRd
import Derived.OneCell
import Derived.BigQuiet
import Derived.Deep.QuietTactic
namespace Go.Proofs.Ytdekjfbaoaobeaa
open Go.RowKit

/-- the document's set behind b: its list -/
structure AddV (w : World) (b : Nat) (v : Value) (l : List Int) : Prop where
  blk : Blk w b #[v] 48
  row : w.ownsRow 0 39 1 v l.length (l.map (Value.int .u64))
  ne : v.ownBlock ≠ some b
theorem AddV.slice {w : World} {b : Nat} {v : Value} {l : List Int} (h : AddV w b v l) : ∃ a c, v = .slice a l.length c := by
  obtain ⟨a, n, c, rfl⟩ := own_slice h.row
  have := own_len h.row
  exact ⟨a, c, by rw [← this]; rfl⟩
theorem AddV.cell {w : World} {b : Nat} {v : Value} {l : List Int} (h : AddV w b v l) : w.cell? ⟨b, 0, none⟩ = some v := by rw [h.blk.cell]; rfl
theorem AddV.at {w : World} {b : Nat} {v : Value} {l : List Int} (h : AddV w b v l) {k : Nat} (hk : k < l.length) :
    ∃ g cap, v = .slice (some ⟨g, 0, none⟩) l.length cap ∧ w.cell? ⟨g, k, none⟩ = some (.int .u64 (l.getD k 0)) := by
  obtain ⟨g, cap, rfl, _, _, _, _, _, hc, _⟩ := own_shape h.row (by omega)
  exact ⟨g, cap, rfl, by rw [hc k hk]; simp [hk]⟩
theorem AddV.drewN {w : World} {b : Nat} {v : Value} {l : List Int} (h : AddV w b v l) (q : Nat) : AddV (w.drewN q) b v l := ⟨h.blk, h.row, h.ne⟩
theorem AddV.keep {w w' : World} {b : Nat} {v : Value} {l : List Int} (h : AddV w b v l) (hB : Below w.heap.size w w') : AddV w' b v l :=
  ⟨h.blk.kept (Keeps.of_below' hB) id, own_keeps h.row (Keeps.of_below' hB) (fun _ _ => id), h.ne⟩

set_option maxRecDepth 100000 in
set_option maxHeartbeats 1000000 in
theorem ahas_v (b : Nat) (v : Value) (l : List Int) (a : Int) (w : World) (h : AddV w b v l) (hn : l.length ≤ 1000000) :
    Calls Try.prog 34 #[.pointer (some ⟨b, 0, none⟩), .int .u64 a] w fun e w' => e = .returned (.bool (decide (a ∈ l))) ∧ w = w' := by
  have hc := h.cell
  obtain ⟨a1, c1, rfl⟩ := h.slice
  have H := Lib.hid h
  clear h
  go_enter Try.func34, Try.ntmps34
  go_wp2_with (fail)
  go_loopw [5] (fun jv wr => ∃ k : Nat, jv = .int .i64 k ∧ k ≤ l.length ∧ wr = w ∧ ∀ j, j < k → l.getD j 0 ≠ a) (fun jv _ => l.length - (intOf jv).toNat)
  case atStart => exact ⟨0, rfl, Nat.zero_le _, rfl, fun j hj => absurd hj (Nat.not_lt_zero _)⟩
  case round =>
    obtain ⟨k, rfl, hk, rfl, hno⟩ := hrel
    have HN := Lib.hid hno
    clear hno
    by_cases hlt : k < l.length
    · obtain ⟨g, cap, e, c2⟩ := H.out.at hlt
      simp at e
      obtain ⟨rfl, rfl⟩ := e
      obtain ⟨x, hx⟩ : ∃ x, l.getD k 0 = x := ⟨_, rfl⟩
      rw [hx] at c2
      have HX := Lib.hid hx
      have b1 : (k : Int) < (l.length : Int) := by omega
      have b3 : ((k : Int)).toNat = k := by omega
      have HLT := Lib.hid hlt
      clear hx hlt
      by_cases hxa : x = a
      · have hb := Lib.hid hxa
        subst hxa
        go_wp2_with (fail)
        go_ret
        have hm : x ∈ l := by rw [← HX.out]; have := HLT.out; simp [this]
        simp [hm]
      · have hb : (x == a) = false := by simpa using hxa
        have HXA := Lib.hid hxa
        clear hxa
        go_wp2_with (fail)
        go_roundw
        case rel =>
          refine ⟨k + 1, by go_num, HLT.out, by first | rfl | trivial, fun j hj => ?_⟩
          by_cases e : j = k
          · subst e; rw [HX.out]; exact HXA.out
          · exact HN.out j (by omega)
        case measure => have := HLT.out; simp [intOf]; omega
    · have hk2 : k = l.length := by omega
      subst hk2
      go_wp2_with (fail)
      go_ret
      have hm : a ∉ l := fun hm => by
        obtain ⟨i, hi, e⟩ := List.getElem_of_mem hm
        exact HN.out i hi (by simp [hi, e])
      simp [hm]

def ASetP (b : Nat) (v : Value) (l' : List Int) (w w' : World) : Prop := ∃ v', AddV w' b v' l' ∧ HStep b v v' w w'

theorem atake_none (b : Nat) (v : Value) (w : World) (h : AddV w b v []) :
    Calls Try.prog 31 #[.pointer (some ⟨b, 0, none⟩)] w fun e w' => e = .returned (.tuple #[.int .u64 0, .bool false]) ∧ w = w' := by
  have hc := h.cell
  obtain ⟨a1, c1, rfl⟩ := h.slice
  clear h
  go_enter Try.func31, Try.ntmps31
  go_wp2_with (fail)
  go_ret2
  exact ⟨rfl, rfl⟩


/-- a new row in the set's place -/
theorem AddV.put {w w1 : World} {b : Nat} {v v1 : Value} {l l1 : List Int} (h : AddV w b v l) (hB : Below w.heap.size w w1) (ho : w1.ownsRow w.heap.size 39 1 v1 l1.length (l1.map (Value.int .u64))) :
    ASetP b v l1 w (w1.setCell ⟨b, 0, none⟩ v1) := by
  have hlt := h.blk.lt
  have hb1 : Blk w1 b #[v] 48 := h.blk.kept (Keeps.of_below' hB) id
  have hne : v1.ownBlock ≠ some b := fun e => by have := own_base ho _ e; omega
  refine ⟨v1, ⟨hb1.set 0 v1, own_mono (ownsRow_setCell_other ho (by simpa using hne) _) (Nat.zero_le _), hne⟩, ?_, .inr (fun g hg => own_base ho g hg)⟩
  exact ((Keeps.of_below' hB).mono (fun _ _ h => h.elim)).setCell (.inl (.inl rfl)) _


set_option maxRecDepth 100000 in
set_option maxHeartbeats 1000000 in
theorem atake_some (b : Nat) (v : Value) (x : Int) (l : List Int) (w : World) (h : AddV w b v (x :: l)) (hn : l.length ≤ 1000000) :
    Calls Try.prog 31 #[.pointer (some ⟨b, 0, none⟩)] w fun e w' => e = .returned (.tuple #[.int .u64 x, .bool true]) ∧ ASetP b v l w w' := by
  obtain ⟨i0, hi, hz0, hz1, hz2⟩ := info_parts Try.infoA
  have hc := h.cell
  have H := Lib.hid h
  obtain ⟨g, cap, hv, c0⟩ := h.at (k := 0) (by simp)
  have hcap : (x :: l).length ≤ cap := by
    obtain ⟨_, ⟨e, _⟩ | ⟨_, cap', _, e, _, _, h1, _⟩⟩ := h.row
    · rw [hv] at e; cases e
    · rw [hv] at e; cases e; exact h1
  subst hv
  have hfz := h.blk.frozen 0
  have hr : Reads w w.heap.size 1 (some ⟨g, 0, none⟩) (x :: l).length ((x :: l).map (Value.int .u64)) := Reads.of_own h.row
  have hcut := hr.cut (k := 1) (cap := cap) (by simp) hcap
  simp only [List.map_cons, Nat.one_mul, List.drop_succ_cons, List.drop_zero, List.length_cons, Nat.add_sub_cancel] at hcut hcap
  simp only [List.getD_cons_zero] at c0
  simp only [List.length_cons] at hc
  have HC := Lib.hid hcut
  have b1 : ((l.length : Int) + 1 == 0) = false := by rw [beq_eq_false_iff_ne]; omega
  clear h hr hcut
  obtain ⟨n, hnl⟩ : ∃ n, l.length = n := ⟨_, rfl⟩
  rw [hnl] at HC hc hcap b1 hn
  have HN := Lib.hid hnl
  clear hnl
  by_cases hc1 : cap = 1
  · subst hc1
    obtain rfl : n = 0 := by omega
    rw [if_pos rfl] at HC
    go_enter Try.func31, Try.ntmps31
    go_wp2_with (at_builtin; refine wpList_append_any _ rfl (.const (.slice none 0 0)) (.tmp 22) _ rfl w.heap.size 39 i0 _ 1 8 Try.underlying35 hi hz0 hz1 hz2 rfl (by omega) (.slice none 0 0) 0 [] rfl (World.ownsRow_nil _ _ _ _) w.heap.size _ 0 0 _ rfl HC.out (ints_oneCell .u64 l) (by unfold maxLen; omega) (by omega) (Nat.le_refl _) ?_; intro v1 w1 hown1 hg1 hat1; have hB1 := (Below.refl w.heap.size w).grown hg1 (Nat.le_refl _) (fun r e => by simp [Value.ownBlock] at e); have hc1' := (hB1.cell (p := ⟨b, 0, none⟩) H.out.blk.lt).trans hc; have hf1' := (hB1.frozen (p := ⟨b, 0, none⟩) H.out.blk.lt).trans hfz; obtain ⟨a1, n1, c1, rfl⟩ := own_slice hown1; have HO := Lib.hid hown1; have HB := Lib.hid hB1; clear hown1 hg1 hat1 hB1)
    go_ret2
    exact ⟨rfl, H.out.put HB.out (by rw [HN.out]; simpa using HO.out)⟩
  · rw [if_neg hc1] at HC
    go_enter Try.func31, Try.ntmps31
    go_wp2_with (at_builtin; refine wpList_append_any _ rfl (.const (.slice none 0 0)) (.tmp 22) _ rfl w.heap.size 39 i0 _ 1 8 Try.underlying35 hi hz0 hz1 hz2 rfl (by omega) (.slice none 0 0) 0 [] rfl (World.ownsRow_nil _ _ _ _) w.heap.size _ n (cap-1) _ rfl HC.out (ints_oneCell .u64 l) (by unfold maxLen; omega) (by omega) (Nat.le_refl _) ?_; intro v1 w1 hown1 hg1 hat1; have hB1 := (Below.refl w.heap.size w).grown hg1 (Nat.le_refl _) (fun r e => by simp [Value.ownBlock] at e); have hc1' := (hB1.cell (p := ⟨b, 0, none⟩) H.out.blk.lt).trans hc; have hf1' := (hB1.frozen (p := ⟨b, 0, none⟩) H.out.blk.lt).trans hfz; obtain ⟨a1, n1, c1, rfl⟩ := own_slice hown1; have HO := Lib.hid hown1; have HB := Lib.hid hB1; clear hown1 hg1 hat1 hB1)
    go_ret2
    exact ⟨rfl, H.out.put HB.out (by rw [HN.out]; simpa using HO.out)⟩

def dropL (l : List Int) (a : Int) : List Int := l.filter (fun x => x != a)
theorem dropL_yes {l : List Int} {k : Nat} {a : Int} (h : k < l.length) (e : l.getD k 0 ≠ a) : dropL (l.take (k + 1)) a = dropL (l.take k) a ++ [l.getD k 0] := by
  unfold dropL; rw [take_snocI l k h, List.filter_append]; generalize l.getD k 0 = y at *; simp [e]
theorem dropL_no {l : List Int} {k : Nat} {a : Int} (h : k < l.length) (e : l.getD k 0 = a) : dropL (l.take (k + 1)) a = dropL (l.take k) a := by
  unfold dropL; rw [take_snocI l k h, List.filter_append]; generalize l.getD k 0 = y at *; simp [e]
theorem dropL_len (l : List Int) (a : Int) : (dropL l a).length ≤ l.length := List.length_filter_le _ _

set_option maxRecDepth 100000 in
set_option maxHeartbeats 2000000 in
theorem adrop_v (b : Nat) (v : Value) (l : List Int) (a : Int) (w : World) (h : AddV w b v l) (hn : l.length ≤ 1000000) :
    Calls Try.prog 32 #[.pointer (some ⟨b, 0, none⟩), .int .u64 a] w fun e w' => e = .returned (.bool (decide (a ∈ l))) ∧ ASetP b v (dropL l a) w w' := by
  obtain ⟨i0, hi, hz0, hz1, hz2⟩ := info_parts Try.infoA
  have HH := Lib.hid (ahas_v b v l a w h hn)
  have hc := h.cell
  obtain ⟨a1, c1, rfl⟩ := h.slice
  have H := Lib.hid h
  have hbl := h.blk.lt
  have hfz := h.blk.frozen 0
  clear h
  obtain ⟨is, his⟩ : ∃ is, decide (a ∈ l) = is := ⟨_, rfl⟩
  rw [his] at HH ⊢
  clear his
  go_enter Try.func32, Try.ntmps32
  go_wp2_with (go_at_call 34; refine HH.out.mono ?_; rintro e w' ⟨rfl, rfl⟩)
  go_loopw [6, 7] (fun ov jv wr => ∃ k : Nat, jv = .int .i64 k ∧ k ≤ l.length ∧ Hid (wr.ownsRow w.heap.size 39 1 ov (dropL (l.take k) a).length ((dropL (l.take k) a).map (Value.int .u64))) ∧ Hid (Below w.heap.size w wr)) (fun _ jv _ => l.length - (intOf jv).toNat)
  case atStart => exact ⟨0, rfl, Nat.zero_le _, Lib.hid (World.ownsRow_nil _ _ _ _), Lib.hid (Below.refl _ _)⟩
  case round =>
    obtain ⟨k, rfl, hk, HO, HB⟩ := hrel
    have hsz := HB.out.size
    have hcw := (HB.out.cell (p := ⟨b, 0, none⟩) hbl).trans hc
    have hfw := (HB.out.frozen (p := ⟨b, 0, none⟩) hbl).trans hfz
    have hdl := dropL_len (l.take k) a
    have htl : (l.take k).length ≤ k := List.length_take_le _ _
    by_cases hlt : k < l.length
    · obtain ⟨g, cap, e, c2⟩ := (H.out.keep HB.out).at hlt
      simp at e
      obtain ⟨rfl, rfl⟩ := e
      have b1 : (k : Int) < (l.length : Int) := by omega
      have b3 : ((k : Int)).toNat = k := by omega
      have HLT := Lib.hid hlt
      by_cases hxa : l.getD k 0 = a
      · have HD := Lib.hid (dropL_no hlt hxa)
        rw [hxa] at c2
        clear hxa hlt
        go_wp2_with (fail)
        go_roundw
        case rel => exact ⟨k + 1, by go_num, HLT.out, by rw [HD.out]; exact HO, HB⟩
        case measure => have := HLT.out; simp [intOf]; omega
      · have HD := Lib.hid (dropL_yes hlt hxa)
        obtain ⟨x, hx⟩ : ∃ x, l.getD k 0 = x := ⟨_, rfl⟩
        rw [hx] at c2 hxa HD
        have hb : (x != a) = true := by simpa using hxa
        clear hxa hlt hx
        have hown := HO.out
        go_wp2_with (at_builtin; refine wpList_append_own _ rfl _ _ 35 rfl w.heap.size 39 i0 (.int .u64 0) 1 8 Try.underlying35 hi hz0 hz1 hz2 rfl (by decide) _ _ _ rfl (hown.alloc _) ⟨wr.heap.size, 0, none⟩ 1 1 [.int .u64 x] rfl rfl (cell_one_new _ _ _) (ints_oneCell .u64 [x]) (by unfold maxLen; omega) (by omega) (by simp; omega) ?_; intro v' w1 hown' hgrow hnil)
        have HB1 := Lib.hid ((HB.out.alloc HB.out.size (.cells #[.int .u64 x] 39)).grown hgrow (by simp; have := HB.out.size; omega) (fun r e => own_base hown r e))
        have HO1 := Lib.hid hown'
        clear hown hown' hgrow hnil
        go_roundw
        case rel => exact ⟨k + 1, by go_num, HLT.out, Lib.hid (by rw [HD.out]; simpa using HO1.out), HB1⟩
        case measure => have := HLT.out; simp [intOf]; omega
    · have hk2 : k = l.length := by omega
      subst hk2
      rw [List.take_length] at HO
      obtain ⟨a2, n2, c2, rfl⟩ := own_slice HO.out
      clear hdl htl
      go_wp2_with (fail)
      go_ret
      exact ⟨rfl, H.out.put HB.out HO.out⟩
end Go.Proofs.Ytdekjfbaoaobeaa
