/-
  The law WordSets, walked.
-/
import Derived.Test.YtnmpgjodndfoiaaDoorSe
import Derived.Test.YtnmpgjodndfoiaaDoorRd
namespace Go.Proofs.YtnmpgjodndfoiaaDoor
open Go.RowKit

theorem drop8 (n : Nat) : (putB (n : Int)).length = 8 := putB_len _
/-- the bytes behind Set -/
def setB (L : List UInt8) (a : Nat) (x : Int) : List UInt8 := L.take a ++ putB x ++ L.drop (a + 8)
theorem setB_len (L : List UInt8) (a : Nat) (x : Int) (h : a + 8 ≤ L.length) : (setB L a x).length = L.length := by simp [setB, putB_len]; omega
theorem setB_in (L : List UInt8) (a i : Nat) (x : Int) (h : a + 8 ≤ L.length) (hi : i < 8) : (setB L a x).getD (a + i) 0 = (putB x).getD i 0 := by
  unfold setB
  simp only [List.getD_eq_getElem?_getD]
  rw [List.append_assoc, List.getElem?_append_right (by simp; omega), List.getElem?_append_left (by simp [putB_len]; omega)]
  congr 2
  simp; omega
theorem setB_out (L : List UInt8) (a i : Nat) (x : Int) (h : a + 8 ≤ L.length) (hi : i < a ∨ a + 8 ≤ i) : (setB L a x).getD i 0 = L.getD i 0 := by
  unfold setB
  simp only [List.getD_eq_getElem?_getD]
  rcases hi with hi | hi
  · rw [List.append_assoc, List.getElem?_append_left (by simp; omega), List.getElem?_take_of_lt hi]
  · rw [List.getElem?_append_right (by simp [putB_len]; omega), List.getElem?_drop]
    congr 2
    simp [putB_len]; omega
theorem splice_set (cur : List Value) (L : List UInt8) (a : Nat) (x : Int) (h : a + 8 ≤ L.length) (hc : L.length ≤ cur.length) (ht : cur.take L.length = bvals L) : (splice cur a (bvals (putB x))).take L.length = bvals (setB L a x) := by
  have hb : (bvals (putB x)).length = 8 := by simp [bvals, putB_len]
  unfold splice setB
  rw [hb]
  rw [List.append_assoc, List.take_append, List.take_append]
  simp only [List.length_take, hb]
  rw [Nat.min_eq_left (by omega)]
  rw [List.take_of_length_le (l := cur.take a) (by simp; omega), List.take_of_length_le (l := bvals (putB x)) (by rw [hb]; omega)]
  unfold bvals
  rw [List.map_append, List.map_append, List.map_take, List.map_drop]
  try rw [List.append_assoc]
  have e1 : cur.take a = (L.map (fun b => Value.int .u8 (b.toNat : Int))).take a := by
    have := congrArg (List.take a) ht
    rw [List.take_take, Nat.min_eq_left (by omega)] at this
    exact this
  have e2 : (cur.drop (a + 8)).take (L.length - a - 8) = (L.map (fun b => Value.int .u8 (b.toNat : Int))).drop (a + 8) := by
    have := congrArg (List.drop (a + 8)) ht
    rw [List.drop_take] at this
    rw [Nat.sub_sub]; exact this
  rw [e1, e2]
/-- bytes behind an address, one by one -/
def BAt (w : World) (p : Option Addr) (L : List UInt8) : Prop := ∀ i, i < L.length → ∃ g o, p = some ⟨g, o, none⟩ ∧ g < w.heap.size ∧ w.cell? ⟨g, o + i, none⟩ = some (.int .u8 ((L.getD i 0).toNat : Int))
theorem BAt.below {w w' : World} {p : Option Addr} {L : List UInt8} (h : BAt w p L) (hB : Below w.heap.size w w') : BAt w' p L := fun i hi => by
  obtain ⟨g, o, h1, h2, h3⟩ := h i hi
  exact ⟨g, o, h1, Nat.lt_of_lt_of_le h2 hB.size, (hB.cell (p := ⟨g, o + i, none⟩) h2).trans h3⟩
theorem BAt.reads {w : World} {p : Option Addr} {L : List UInt8} (h : BAt w p L) : Reads w w.heap.size 1 p L.length (bvals L) := by
  refine ⟨by simp [bvals], fun h0 => ?_⟩
  obtain ⟨g, o, rfl, hg, _⟩ := h 0 h0
  refine ⟨_, rfl, hg, fun j u hu => ?_⟩
  have hj : j < L.length := by have := (List.getElem?_eq_some_iff.1 hu).1; simpa [bvals] using this
  obtain ⟨g', o', e, _, hc⟩ := h j hj
  cases e
  have e1 : (⟨g, o, none⟩ : Addr).add j = ⟨g, o + j, none⟩ := by unfold Addr.add; split; (rename_i h; subst h; rfl); rfl
  rw [e1, hc]
  simp [bvals, hj] at hu ⊢
  exact hu
theorem BAt.bytes {w : World} {g o : Nat} {L : List UInt8} (h : BAt w (some ⟨g, o, none⟩) L) : BytesAt w g o L := fun i hi => by
  obtain ⟨g', o', e, _, hc⟩ := h i hi
  cases e
  rw [hc]; simp [hi]
theorem BAt.of_own {w : World} {base : Nat} {e : TypeId} {p : Option Addr} {n c : Nat} {L : List UInt8} (h : w.ownsRow base e 1 (.slice p n c) L.length (bvals L)) : BAt w p L := fun i hi => by
  obtain ⟨g, cap, e1, _, hg, _, _, _, hc, _⟩ := own_shape h (by omega)
  cases e1
  exact ⟨g, 0, rfl, hg, by rw [Nat.zero_add, hc i hi]; simp [bvals, hi]⟩
theorem BAt.of_blk {w : World} {g : Nat} {cur : List Value} {t : TypeId} {L : List UInt8} (h : w.heap[g]? = some (.cells cur.toArray t (0, 0))) (ht : cur.take L.length = bvals L) : BAt w (some ⟨g, 0, none⟩) L := fun i hi => by
  refine ⟨g, 0, rfl, (Array.getElem?_eq_some_iff.1 h).1, ?_⟩
  have hb : Blk w g cur.toArray t := h
  rw [Nat.zero_add, hb.cell]
  have := congrArg (fun l => l[i]?) ht
  simp only [List.getElem?_take_of_lt hi] at this
  simp [this, bvals, hi]

theorem bytes_of {W : World} {a : Option Addr} {xs : List Int} (hwf : ∀ x ∈ xs, (Lit.int .u8 x).wf = true) (hc : 0 < xs.length → ∃ (g o : Nat), a = some ⟨g, o, none⟩ ∧ g < W.heap.size ∧ ∀ i, i < xs.length → W.cell? ⟨g, o + i, none⟩ = some (.int .u8 (xs.getD i 0))) :
    ∃ L : List UInt8, L.length = xs.length ∧ BAt W a L := by
  refine ⟨xs.map (fun x => UInt8.ofNat x.toNat), by simp, fun i hi => ?_⟩
  have hi' : i < xs.length := by simpa using hi
  obtain ⟨g, o, h1, h2, h3⟩ := hc (by omega)
  refine ⟨g, o, h1, h2, ?_⟩
  rw [h3 i hi']
  have hm : xs.getD i 0 ∈ xs := by simp [hi']
  have hb := hwf _ hm
  simp [Lit.wf, IntKind.min, IntKind.max, IntKind.signed, IntKind.bits] at hb
  have e : ((xs.map (fun x => UInt8.ofNat x.toNat)).getD i 0) = UInt8.ofNat (xs.getD i 0).toNat := by simp [hi']
  rw [e]
  have e2 : (UInt8.ofNat (xs.getD i 0).toNat).toNat = (xs.getD i 0).toNat := by
    rw [UInt8.toNat_ofNat']
    exact Nat.mod_eq_of_lt (by simp [hi'] at hb ⊢; omega)
  rw [e2]
  congr 2
  simp [hi'] at hb ⊢
  omega

theorem sets_big (p : Option Addr) (n c : Nat) (at_ x : Int) (w : World) (hn : n ≤ maxLen) (h : 1000 < n) (hT : Tab16 w) :
    Calls Tryd.prog 4 #[.slice p n c, .int .i64 at_, .int .u64 x] w fun e w' => e = .returned (.bool true) ∧ Below w.heap.size w w' := by
  unfold maxLen at hn
  have h1 : (1000 : Int) < (n : Int) := by omega
  have HT := Lib.hid hT
  clear hT
  go_enter Tryd.func4, Tryd.ntmps4
  go_wp2_with (go_at_call 11; refine (known_any _ HT.out).mono ?_; rintro e w7 ⟨rfl, hk⟩; have HK := Lib.hid hk; clear hk)
  go_ret
  exact ⟨rfl, HK.out⟩

set_option maxRecDepth 100000 in
set_option maxHeartbeats 4000000 in
theorem sets_no (p : Option Addr) (c : Nat) (L : List UInt8) (at_ x : Int) (w : World) (hl : L.length ≤ 1000) (ha : at_ ≤ 9223372036854775807) (h0 : 0 ≤ x) (hx : x ≤ 18446744073709551615) (hL : BAt w p L) (hT : Tab16 w) (hf : ¬ fits L.length at_) :
    Calls Tryd.prog 4 #[.slice p L.length c, .int .i64 at_, .int .u64 x] w fun e w' => e = .returned (.bool true) ∧ Below w.heap.size w w' := by
  obtain ⟨i0, hi, hz0, hz1, hz2⟩ := info_parts Tryd.infoB
  have h1 : ¬ (1000 : Int) < (L.length : Int) := by omega
  have HT := Lib.hid hT
  have HL := Lib.hid hL
  have HG := Lib.hid (fun p c w => get_no p L.length c at_ (by omega) ha hf w)
  have HR := Lib.hid (fun p c w => rget_no p L.length c at_ hf w)
  have HS := Lib.hid (fun p c w => set_no p L.length c at_ x (by omega) ha hf w)
  obtain ⟨a0, a1, a2, a3, a4, a5, a6, a7, hpu⟩ := putB_lit x
  have HU := Lib.hid (show ∀ w, Calls Tryd.prog 15 #[.int .u64 x] w fun e w' => e = .returned (.agg #[.int .u8 (a0.toNat : Int), .int .u8 (a1.toNat : Int), .int .u8 (a2.toNat : Int), .int .u8 (a3.toNat : Int), .int .u8 (a4.toNat : Int), .int .u8 (a5.toNat : Int), .int .u8 (a6.toNat : Int), .int .u8 (a7.toNat : Int)]) ∧ Below w.heap.size w w' from fun w => by
    have := rput_n x h0 hx w
    rw [hpu] at this
    exact this)
  have HPU := Lib.hid hpu
  clear hT hL hf hpu
  go_enter Tryd.func4, Tryd.ntmps4
  go_wp2_with (at_builtin; refine wpList_append_any _ rfl (.const (.slice none 0 0)) (.tmp 20) _ rfl w.heap.size 5 i0 _ 1 1 Tryd.underlying26 hi hz0 hz1 hz2 rfl (by omega) (.slice none 0 0) 0 [] rfl (World.ownsRow_nil _ _ _ _) w.heap.size _ L.length c _ rfl HL.out.reads (bvals_one L) (by unfold maxLen; omega) (by omega) (Nat.le_refl _) ?_; intro v1 w1 hown1 hg1 hat1; have hB1 := (Below.refl w.heap.size w).grown hg1 (Nat.le_refl _) (fun r e => by simp [Value.ownBlock] at e); obtain ⟨s1, n1, c1, rfl⟩ := own_slice hown1; have hn1 := own_len hown1; simp only [lenOf, Nat.zero_add] at hn1; subst hn1; have HO := Lib.hid hown1; have HB := Lib.hid hB1; clear hown1 hg1 hat1 hB1)
  refine (HG.out _ _ _).mono ?_
  rintro e w2 ⟨rfl, rfl⟩
  go_wp2_with (fail)
  refine (HR.out _ _ _).mono ?_
  rintro e w2 ⟨rfl, rfl⟩
  go_wp2_with (fail)
  refine (HS.out _ _ _).mono ?_
  rintro e w2 ⟨rfl, rfl⟩
  go_wp2_with (fail)
  refine (HU.out _).mono ?_
  rintro e w2 ⟨rfl, hB2⟩
  have HL2 := Lib.hid ((HL.out.below HB.out).below hB2)
  have HO2 := Lib.hid ((BAt.of_own (L := L) (by simpa using HO.out)).below hB2)
  have HB2 := Lib.hid (HB.out.trans (hB2.mono HB.out.size))
  clear hB2
  go_wp2_with (fail)
  obtain ⟨w4, hw4⟩ : ∃ w4, w4 = w2.alloc (.cells #[.int .u8 (a0.toNat : Int), .int .u8 (a1.toNat : Int), .int .u8 (a2.toNat : Int), .int .u8 (a3.toNat : Int), .int .u8 (a4.toNat : Int), .int .u8 (a5.toNat : Int), .int .u8 (a6.toNat : Int), .int .u8 (a7.toNat : Int)] 33) := ⟨_, rfl⟩
  have hB4 : Below w2.heap.size w2 w4 := by rw [hw4]; exact (Below.refl _ w2).alloc (Nat.le_refl _) _
  have HL4 := Lib.hid (HL2.out.below hB4)
  have HO4 := Lib.hid (HO2.out.below hB4)
  have HB4 := Lib.hid (HB2.out.trans (hB4.mono HB2.out.size))
  rw [← hw4]
  clear hw4 hB4 HL2 HO2 HB2
  go_loopw [14] (fun iv wr => ∃ k : Nat, iv = .int .i64 k ∧ k ≤ L.length ∧ w4 = wr) (fun iv _ => L.length - (intOf iv).toNat)
  case atStart => exact ⟨0, rfl, Nat.zero_le _, rfl⟩
  case round =>
    obtain ⟨k, rfl, hk, rfl⟩ := hrel
    by_cases hlt : k < L.length
    · obtain ⟨g1, o1, e1, _, d1⟩ := HL4.out k hlt
      obtain ⟨g2, o2, e2, _, d2⟩ := HO4.out k hlt
      obtain ⟨z, hz⟩ : ∃ z, L.getD k 0 = z := ⟨_, rfl⟩
      rw [hz] at d1 d2
      subst e1 e2
      have b1 : (k : Int) < (L.length : Int) := by omega
      have b3 : ((k : Int)).toNat = k := by omega
      have HLT := Lib.hid hlt
      clear hz hlt
      go_wp2_with (fail)
      go_roundw
      case rel => exact ⟨k + 1, by go_num, HLT.out, by first | rfl | trivial⟩
      case measure => have := HLT.out; simp [intOf]; omega
    · have hk2 : k = L.length := by omega
      subst hk2
      go_wp2_with (fail)
      refine (known_any _ (HT.out.below HB4.out)).mono ?_
      rintro e w7 ⟨rfl, hB7⟩
      have HB7 := Lib.hid (HB4.out.trans (hB7.mono HB4.out.size))
      clear hB7
      go_wp2_with (fail)
      go_ret
      exact ⟨rfl, HB7.out⟩

theorem get_yes' (l : List UInt8) (p : Option Addr) (cap a : Nat) (hn : l.length ≤ 1000000) (hc : l.length ≤ cap) (h : a + 8 ≤ l.length) (w : World) (hb : BAt w p l) :
    Calls Tryd.prog 12 #[.slice p l.length cap, .int .i64 a] w fun e w' => e = .returned (.tuple #[.int .u64 (wd ((l.drop a).take 8)), .int .i64 0]) ∧ w = w' := by
  obtain ⟨g, o, rfl, _, _⟩ := hb 0 (by omega)
  exact get_yes l g o cap a hn hc h w hb.bytes
theorem rget_yes' (l : List UInt8) (p : Option Addr) (cap a : Nat) (hn : l.length ≤ 1000000) (h : a + 8 ≤ l.length) (w : World) (hb : BAt w p l) :
    Calls Tryd.prog 13 #[.slice p l.length cap, .int .i64 a] w fun e w' => e = .returned (.tuple #[.int .u64 (wd ((l.drop a).take 8)), .int .i64 0]) ∧ w = w' := by
  obtain ⟨g, o, rfl, _, _⟩ := hb 0 (by omega)
  exact rget_yes l g o cap a hn h w hb.bytes

set_option maxRecDepth 100000 in
set_option maxHeartbeats 4000000 in
theorem sets_yes (p : Option Addr) (c : Nat) (L : List UInt8) (a : Nat) (x : Int) (w : World) (hl : L.length ≤ 1000) (h0 : 0 ≤ x) (hx : x ≤ 18446744073709551615) (hL : BAt w p L) (hT : Tab16 w) (hf : a + 8 ≤ L.length) :
    Calls Tryd.prog 4 #[.slice p L.length c, .int .i64 a, .int .u64 x] w fun e w' => e = .returned (.bool true) ∧ Below w.heap.size w w' := by
  obtain ⟨i0, hi, hz0, hz1, hz2⟩ := info_parts Tryd.infoB
  have h1 : ¬ (1000 : Int) < (L.length : Int) := by omega
  have HT := Lib.hid hT
  have HL := Lib.hid hL
  obtain ⟨r, hr⟩ : ∃ r, wd ((L.drop a).take 8) = r := ⟨_, rfl⟩
  have HG := Lib.hid (fun p c w hc hb => get_yes' L p c a (by omega) hc hf w hb)
  have HR := Lib.hid (fun p c w hb => rget_yes' L p c a (by omega) hf w hb)
  rw [hr] at HG HR
  have HF := Lib.hid hf
  obtain ⟨a0, a1, a2, a3, a4, a5, a6, a7, hpu⟩ := putB_lit x
  have HU := Lib.hid (show ∀ w, Calls Tryd.prog 15 #[.int .u64 x] w fun e w' => e = .returned (.agg #[.int .u8 (a0.toNat : Int), .int .u8 (a1.toNat : Int), .int .u8 (a2.toNat : Int), .int .u8 (a3.toNat : Int), .int .u8 (a4.toNat : Int), .int .u8 (a5.toNat : Int), .int .u8 (a6.toNat : Int), .int .u8 (a7.toNat : Int)]) ∧ Below w.heap.size w w' from fun w => by
    have := rput_n x h0 hx w
    rw [hpu] at this
    exact this)
  have HPU := Lib.hid hpu
  clear hT hL hpu hr hf
  go_enter Tryd.func4, Tryd.ntmps4
  go_wp2_with (at_builtin; refine wpList_append_any _ rfl (.const (.slice none 0 0)) (.tmp 20) _ rfl w.heap.size 5 i0 _ 1 1 Tryd.underlying26 hi hz0 hz1 hz2 rfl (by omega) (.slice none 0 0) 0 [] rfl (World.ownsRow_nil _ _ _ _) w.heap.size _ L.length c _ rfl HL.out.reads (bvals_one L) (by unfold maxLen; omega) (by omega) (Nat.le_refl _) ?_; intro v1 w1 hown1 hg1 hat1; have hB1 := (Below.refl w.heap.size w).grown hg1 (Nat.le_refl _) (fun r e => by simp [Value.ownBlock] at e); obtain ⟨s1, n1, c1, rfl⟩ := own_slice hown1; have hn1 := own_len hown1; simp only [lenOf, Nat.zero_add] at hn1; subst hn1; have HO := Lib.hid hown1; have HB := Lib.hid hB1; clear hown1 hg1 hat1 hB1)
  have hfl := HF.out
  have hown : w1.ownsRow w.heap.size 5 1 (.slice s1 L.length c1) L.length (bvals L) := by simpa using HO.out
  obtain ⟨_, ⟨e, _⟩ | ⟨g, cap, cur, e, hg, hh, hc1, hc2, hsz, ht⟩⟩ := hown
  · exfalso; simp at e; omega
  simp at e
  obtain ⟨rfl, rfl⟩ := e
  rw [Nat.mul_one] at ht hsz
  have hh' : w1.heap[g]? = some (.cells cur.toList.toArray 5 (0, 0)) := by simpa using hh
  have HH := Lib.hid hh'
  have HTk := Lib.hid ht
  have HSz := Lib.hid (show cur.toList.length = c1 by simpa using hsz)
  clear hh hh' ht hsz hfl HO
  refine (HG.out _ _ _ hc1 (BAt.of_blk HH.out HTk.out)).mono ?_
  rintro e w2 ⟨rfl, rfl⟩
  go_wp2_with (fail)
  refine (HR.out _ _ _ (HL.out.below HB.out)).mono ?_
  rintro e w2 ⟨rfl, rfl⟩
  go_wp2_with (fail)
  refine (set_yes cur.toList g a L.length c1 w.heap.size x w w1 h0 hx (by omega) hc1 HF.out (by rw [HSz.out]; exact hc1) HH.out HB.out hg HB.out.size).mono ?_
  rintro e w2 ⟨rfl, hh2, hB2⟩
  have HO2 := Lib.hid (show BAt w2 (some ⟨g, 0, none⟩) (setB L a x) from BAt.of_blk hh2 (by rw [setB_len _ _ _ HF.out]; exact splice_set _ _ _ _ HF.out (by rw [HSz.out]; exact hc1) HTk.out))
  have HB2 := Lib.hid hB2
  clear hh2 hB2 HH HTk
  go_wp2_with (fail)
  refine (HU.out _).mono ?_
  rintro e w3 ⟨rfl, hB3⟩
  have HO3 := Lib.hid (HO2.out.below hB3)
  have HB3 := Lib.hid (HB2.out.trans (hB3.mono HB2.out.size))
  clear hB3 HB2 HO2
  go_wp2_with (fail)
  obtain ⟨w4, hw4⟩ : ∃ w4, w4 = w3.alloc (.cells #[.int .u8 (a0.toNat : Int), .int .u8 (a1.toNat : Int), .int .u8 (a2.toNat : Int), .int .u8 (a3.toNat : Int), .int .u8 (a4.toNat : Int), .int .u8 (a5.toNat : Int), .int .u8 (a6.toNat : Int), .int .u8 (a7.toNat : Int)] 33) := ⟨_, rfl⟩
  have hB4 : Below w3.heap.size w3 w4 := by rw [hw4]; exact (Below.refl _ w3).alloc (Nat.le_refl _) _
  have hP4 : Blk w4 w3.heap.size (bcells (putB x)) 33 := by rw [hw4, HPU.out]; exact Blk.new w3 _ _
  have HP4 := Lib.hid hP4
  have HO4 := Lib.hid (HO3.out.below hB4)
  have HB4 := Lib.hid (HB3.out.trans (hB4.mono HB3.out.size))
  have HL4 := Lib.hid (HL.out.below HB4.out)
  rw [← hw4]
  obtain ⟨B4, hB4e⟩ : ∃ B4, w3.heap.size = B4 := ⟨_, rfl⟩
  rw [hB4e] at HP4 ⊢
  clear hw4 hB4 HO3 HB3 hP4 hB4e
  go_loopw [14] (fun iv wr => ∃ k : Nat, iv = .int .i64 k ∧ k ≤ L.length ∧ w4 = wr) (fun iv _ => L.length - (intOf iv).toNat)
  case atStart => exact ⟨0, rfl, Nat.zero_le _, rfl⟩
  case round =>
    obtain ⟨k, rfl, hk, rfl⟩ := hrel
    have hfl := HF.out
    by_cases hlt : k < L.length
    · obtain ⟨g1, o1, e1, _, d1⟩ := HL4.out k hlt
      obtain ⟨g2, o2, e2, _, d2⟩ := HO4.out k (by rw [setB_len _ _ _ HF.out]; exact hlt)
      subst e1
      cases e2
      have b1 : (k : Int) < (L.length : Int) := by omega
      have b3 : ((k : Int)).toNat = k := by omega
      have HLT := Lib.hid hlt
      by_cases hin : a ≤ k ∧ k < a + 8
      · obtain ⟨i, hki⟩ : ∃ i, k = a + i := ⟨k - a, by omega⟩
        have hi8 : i < 8 := by omega
        have d3 := HP4.out.cell i
        have e3 : (setB L a x).getD k 0 = (putB x).getD i 0 := by rw [hki]; exact setB_in L a i x HF.out hi8
        rw [e3] at d2
        have hpl : i < (putB x).length := by rw [putB_len]; exact hi8
        rw [show (bcells (putB x))[i]? = some (.int .u8 (((putB x).getD i 0).toNat : Int)) by simp [bcells, hpl]] at d3
        obtain ⟨z, hz⟩ : ∃ z, (putB x).getD i 0 = z := ⟨_, rfl⟩
        rw [hz] at d2 d3
        have c1 : (a : Int) ≤ (k : Int) := by omega
        have c2 : (k : Int) < (a : Int) + 8 := by omega
        have c3 : (k : Int) - (a : Int) = (i : Int) := by omega
        have c4 : (i : Int) < 8 := by omega
        have c5 : ((i : Int)).toNat = i := by omega
        rw [Nat.zero_add] at d2
        clear hz hlt hin hpl hki e3
        go_wp2_with (fail)
        go_roundw
        case rel => exact ⟨k + 1, by go_num, HLT.out, by first | rfl | trivial⟩
        case measure => have := HLT.out; simp [intOf]; omega
      · rw [setB_out L a k x HF.out (by omega)] at d2
        rw [Nat.zero_add] at d2
        obtain ⟨z, hz⟩ : ∃ z, L.getD k 0 = z := ⟨_, rfl⟩
        rw [hz] at d1 d2
        clear hz hlt
        by_cases hka : a ≤ k
        · have c1 : (a : Int) ≤ (k : Int) := by omega
          have c2 : ¬ (k : Int) < (a : Int) + 8 := by omega
          clear hin hka
          go_wp2_with (fail)
          go_roundw
          case rel => exact ⟨k + 1, by go_num, HLT.out, by first | rfl | trivial⟩
          case measure => have := HLT.out; simp [intOf]; omega
        · have c1 : ¬ (a : Int) ≤ (k : Int) := by omega
          clear hin hka
          go_wp2_with (fail)
          go_roundw
          case rel => exact ⟨k + 1, by go_num, HLT.out, by first | rfl | trivial⟩
          case measure => have := HLT.out; simp [intOf]; omega
    · have hk2 : k = L.length := by omega
      subst hk2
      go_wp2_with (fail)
      refine (known_any _ (HT.out.below HB4.out)).mono ?_
      rintro e w7 ⟨rfl, hB7⟩
      have HB7 := Lib.hid (HB4.out.trans (hB7.mono HB4.out.size))
      clear hB7
      go_wp2_with (fail)
      go_ret
      exact ⟨rfl, HB7.out⟩
end Go.Proofs.YtnmpgjodndfoiaaDoor
