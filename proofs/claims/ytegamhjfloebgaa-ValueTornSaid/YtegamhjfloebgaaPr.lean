/-
  THE REFERENCE's Pack: contract.
-/
import Derived.Test.YtegamhjfloebgaaGr
import Derived.Laws.BitsAllLaws
import Derived.Maps.AppendAt
namespace Go.Proofs.Ytegamhjfloebgaa
open Go.RowKit

/-- the word of bytes, the lowest one first -/
def wd : List UInt8 → Int
  | [] => 0
  | b :: r => wd r * 256 + (b.toNat : Int)
theorem u8_lt (b : UInt8) : (b.toNat : Int) < 256 := by have := b.toNat_lt; omega
theorem wd_nonneg : ∀ l, 0 ≤ wd l
  | [] => Int.le_refl _
  | b :: r => by unfold wd; have := wd_nonneg r; omega
theorem wd_lt (l : List UInt8) : wd l < ((256 ^ l.length : Nat) : Int) := by
  induction l with
  | nil => decide
  | cons b r ih =>
    unfold wd
    rw [List.length_cons, Nat.pow_succ]
    have := u8_lt b
    omega
theorem wd_lt7 (l : List UInt8) (h : l.length ≤ 7) : wd l < 72057594037927936 := by
  have h1 := wd_lt l
  have h2 : 256 ^ l.length ≤ 256 ^ 7 := Nat.pow_le_pow_right (n := 256) (by decide) h
  have h3 : 256 ^ 7 = 72057594037927936 := by decide
  rw [h3] at h2
  omega
theorem or_byte (n b : Int) (h0 : 0 ≤ n) (h1 : n < 72057594037927936) (h2 : 0 ≤ b) (h3 : b < 256) : bits BinOp.or IntKind.u64 (n * 256) b = n * 256 + b := by
  obtain ⟨n, rfl⟩ := Int.eq_ofNat_of_zero_le h0
  obtain ⟨b, rfl⟩ := Int.eq_ofNat_of_zero_le h2
  have e : ((n : Int) * 256) = ((n * 256 : Nat) : Int) := by omega
  rw [e, u64_or_nat (n * 256) b (by omega) (by omega)]
  have : n * 256 ||| b = n * 256 + b := by
    have h := Nat.shiftLeft_add_eq_or_of_lt (a := n) (b := b) (i := 8) (by omega)
    rw [Nat.shiftLeft_eq] at h
    exact h.symm
  rw [this]; omega
theorem wd_zeros : ∀ (l : List UInt8) (k : Nat), wd (l ++ List.replicate k 0) = wd l
  | [], k => by
    induction k with
    | zero => rfl
    | succ k ih => rw [List.nil_append, List.replicate_succ]; unfold wd; rw [List.nil_append] at ih; rw [ih]; rfl
  | b :: r, k => by rw [List.cons_append]; unfold wd; rw [wd_zeros r k]
theorem wd_drop (l : List UInt8) (k : Nat) (h : k < l.length) : wd (l.drop k) = wd (l.drop (k + 1)) * 256 + (l[k].toNat : Int) := by
  rw [List.drop_eq_getElem_cons h]; rfl

set_option maxRecDepth 100000 in
theorem take_s (l : List UInt8) (hl : l.length ≤ 8) (w : World) : Calls Try.prog 57 #[.string ⟨l.toArray⟩] w fun e w' => e = .returned (.int .u64 (wd l)) ∧ w = w' := by
  go_enter Try.func57, Try.ntmps57
  go_wp2_with (fail)
  go_loop [2, 3] (fun nv iv => ∃ k : Nat, k ≤ l.length ∧ iv = .int .i64 ((k : Int) - 1) ∧ nv = .int .u64 (wd (l.drop k))) (fun _ iv => (intOf iv + 1).toNat)
  case atStart => exact ⟨l.length, Nat.le_refl _, rfl, by rw [List.drop_length]; rfl⟩
  case round =>
    obtain ⟨k, hk, rfl, rfl⟩ := hrel
    by_cases h0 : k = 0
    · subst h0
      go_wp2_with (fail)
      go_ret
      exact ⟨rfl, rfl⟩
    · have h1 : k - 1 < l.length := by omega
      have hd := Lib.hid (wd_drop l (k - 1) h1)
      have e1 : k - 1 + 1 = k := by omega
      obtain ⟨n, hn⟩ : ∃ n, wd (l.drop k) = n := ⟨_, rfl⟩
      have n0 : 0 ≤ n := by rw [← hn]; exact wd_nonneg _
      have n1 : n < 72057594037927936 := by rw [← hn]; exact wd_lt7 _ (by rw [List.length_drop]; omega)
      have HN := Lib.hid hn
      rw [hn]
      clear hn
      go_wp2_with (fail)
      go_round
      case rel => exact ⟨k - 1, by omega, by go_num, by
        rw [hd.out, e1, HN.out]
        change Value.int .u64 (bits BinOp.or .u64 (n * 256) (IntKind.u64.wrap (l[k - 1].toNat : Int))) = Value.int .u64 (n * 256 + (l[k - 1].toNat : Int))
        rw [IntWalk.u64_in _ (by have := u8_lt l[k - 1]; omega), or_byte n _ n0 n1 (by omega) (u8_lt _)]⟩
      case measure => simp [intOf]; omega

/-- bytes in memory -/
def BytesAt (w : World) (g o : Nat) (l : List UInt8) : Prop := ∀ i, (h : i < l.length) → w.cell? ⟨g, o + i, none⟩ = some (.int .u8 (l[i].toNat : Int))

set_option maxRecDepth 100000 in
theorem rtake_s (l : List UInt8) (g o len cap at_ : Nat) (hl : at_ + 8 ≤ l.length) (hlen : l.length ≤ len) (hm : len ≤ maxLen) (w : World) (hb : BytesAt w g o l) :
    Calls Try.prog 28 #[.slice (some ⟨g, o, none⟩) len cap, .int .i64 at_] w fun e w' => e = .returned (.int .u64 (wd ((l.drop at_).take 8))) ∧ w = w' := by
  unfold maxLen at hm
  have h8 : ((l.drop at_).take 8).length = 8 := by rw [List.length_take, List.length_drop]; omega
  obtain ⟨r, hr⟩ : ∃ r, r = (l.drop at_).take 8 := ⟨_, rfl⟩
  rw [← hr] at h8 ⊢
  have HC := Lib.hid (show ∀ i, (h : i < r.length) → w.cell? ⟨g, o + (at_ + i), none⟩ = some (.int .u8 (r[i].toNat : Int)) from fun i hi => by
    rw [hb (at_ + i) (by omega)]
    subst hr
    simp)
  clear hb hr
  go_enter Try.func28, Try.ntmps28
  go_wp2_with (fail)
  go_loop [5, 6] (fun nv iv => ∃ k : Nat, k ≤ 8 ∧ iv = .int .i64 ((k : Int) - 1) ∧ nv = .int .u64 (wd (r.drop k))) (fun _ iv => (intOf iv + 1).toNat)
  case atStart => exact ⟨8, Nat.le_refl _, rfl, by rw [List.drop_of_length_le (by omega)]; rfl⟩
  case round =>
    obtain ⟨k, hk, rfl, rfl⟩ := hrel
    by_cases h0 : k = 0
    · subst h0
      go_wp2_with (fail)
      go_ret
      exact ⟨rfl, rfl⟩
    · have h1 : k - 1 < r.length := by omega
      have hd := Lib.hid (wd_drop r (k - 1) h1)
      obtain ⟨j, hj⟩ : ∃ j : Nat, k = j + 1 := ⟨k - 1, by omega⟩
      subst hj
      have hc := HC.out j (by omega)
      obtain ⟨b, hbb⟩ : ∃ b : UInt8, r[j] = b := ⟨_, rfl⟩
      rw [hbb] at hc
      have HB := Lib.hid hbb
      obtain ⟨n, hn⟩ : ∃ n, wd (r.drop (j + 1)) = n := ⟨_, rfl⟩
      have n0 : 0 ≤ n := by rw [← hn]; exact wd_nonneg _
      have n1 : n < 72057594037927936 := by rw [← hn]; exact wd_lt7 _ (by rw [List.length_drop]; omega)
      have HN := Lib.hid hn
      rw [hn]
      have hb1 := u8_lt b
      have e2 : ((j + 1 : Nat) : Int) - 1 = (j : Int) := by omega
      rw [e2]
      clear hn hbb
      go_wp2_with (fail)
      go_round
      case rel => exact ⟨j, by omega, rfl, by
        have := hd.out
        simp only [Nat.add_sub_cancel] at this
        rw [this, HN.out, HB.out]⟩
      case measure => simp [intOf]
end Go.Proofs.Ytegamhjfloebgaa
namespace Go.Proofs.Ytegamhjfloebgaa
open Go.RowKit

def chunk (l : List UInt8) (i : Nat) : Int := wd ((l.drop (8 * i)).take 8)
def packTo (l : List UInt8) (k : Nat) : List Int := (l.length : Int) :: (List.range k).map (chunk l)
def packW (l : List UInt8) : List Int := packTo l ((l.length + 7) / 8)
theorem packTo_succ (l : List UInt8) (k : Nat) : packTo l (k + 1) = packTo l k ++ [chunk l k] := by
  unfold packTo; rw [List.range_succ, List.map_append]; rfl
theorem packTo_len (l : List UInt8) (k : Nat) : (packTo l k).length = k + 1 := by simp [packTo]

theorem chunk_lt (l : List UInt8) (i : Nat) : 0 ≤ chunk l i := wd_nonneg _

theorem Try.info22 : (Try.prog.info? 22).map (fun i => (i.zero, i.size, i.bytes)) = some (some (.int .u64 0), 1, 8) := by kernel_rfl

theorem ext_take (l : List UInt8) (n : Nat) : (⟨l.toArray⟩ : ByteArray).extract 0 n = ⟨(l.take n).toArray⟩ := by
  apply ByteArray.ext
  rw [ByteArray.data_extract]
  simp
theorem ext_drop (l : List UInt8) (a n : Nat) (h : l.length ≤ n) : (⟨l.toArray⟩ : ByteArray).extract a n = ⟨(l.drop a).toArray⟩ := by
  apply ByteArray.ext
  rw [ByteArray.data_extract]
  apply Array.ext'
  simp
  rw [List.take_of_length_le (by simp; omega)]

set_option maxRecDepth 100000 in
theorem pack_s (l : List UInt8) (hl : l.length ≤ 1000000) (w : World) : Calls Try.prog 33 #[.string ⟨l.toArray⟩] w fun e w' => ∃ v, e = .returned v ∧ w'.ownsRow w.heap.size 22 1 v (packW l).length ((packW l).map (Value.int .u64)) ∧ Below w.heap.size w w' := by
  obtain ⟨i0, hi, hz0, hz1, hz2⟩ := info_parts Try.info22
  go_enter Try.func33, Try.ntmps33
  go_wp2_with (fail)
  go_loopw [0, 3] (fun sv ov wr => ∃ k : Nat, 8 * k ≤ l.length + 7 ∧ sv = .string ⟨(l.drop (8 * k)).toArray⟩ ∧ wr.ownsRow w.heap.size 22 1 ov (packTo l k).length ((packTo l k).map (Value.int .u64)) ∧ Below w.heap.size w wr)
    (fun sv _ _ => match sv with | .string s => s.size | _ => 0)
  case atStart =>
    refine ⟨0, by omega, rfl, ⟨rfl, .inr ⟨w.heap.size, 1, _, rfl, Nat.le_refl _, Blk.new w #[.int .u64 l.length] 22, by simp [packTo], by unfold maxLen; omega, rfl, by simp [packTo]⟩⟩, (Below.refl _ _).alloc (Nat.le_refl _) _⟩
  case round =>
    obtain ⟨k, hk, rfl, hown, hB⟩ := hrel
    by_cases hlt : 8 * k < l.length
    · have hpl := packTo_len l k
      have HP := Lib.hid hpl
      obtain ⟨c, hc⟩ : ∃ c, chunk l k = c := ⟨_, rfl⟩
      have HS := Lib.hid (packTo_succ l k)
      have HC := Lib.hid hc
      have hcl := chunk_lt l k
      have HT := Lib.hid (show ∀ w, Calls Try.prog 57 #[.string ⟨((l.drop (8 * k)).take 8).toArray⟩] w fun e w' => e = .returned (.int .u64 c) ∧ w = w' from fun w => by
        rw [← hc]; exact take_s _ (by rw [List.length_take]; omega) w)
      have hBs := hB.size
      clear hpl hc
      by_cases h8 : l.length - 8 * k ≤ 8
      all_goals
        go_wp2_with (fail)
        rw [ext_take]
        try rw [show (l.drop (8 * k)).take (l.length - 8 * k) = (l.drop (8 * k)).take 8 by rw [List.take_of_length_le (by simp), List.take_of_length_le (by simp; omega)]]
        refine (HT.out _).mono ?_
        rintro e w1 ⟨rfl, rfl⟩
        go_wp2_with (at_builtin; refine wpList_append_own _ rfl _ _ 40 rfl w.heap.size 22 i0 (.int .u64 0) 1 8 Try.underlying40 hi hz0 hz1 hz2 rfl (by decide) _ _ _ rfl (hown.alloc _) ⟨wr.heap.size, 0, none⟩ 1 1 [.int .u64 c] rfl rfl (cell_one_new _ _ _) (ints_oneCell .u64 [c]) (by rw [HP.out]; unfold maxLen; omega) (by rw [HP.out]; omega) (by simp; omega) ?_)
        intro v' w2 hown' hgrow hnil
        have HO := Lib.hid hown'
        have HB2 := Lib.hid ((hB.alloc hBs (.cells #[.int .u64 c] 22)).grown hgrow (by simp; omega) (fun r e => own_base hown _ e))
        clear hown' hgrow hnil hB hown
        go_wp2_with (fail)
        go_roundw
        case rel =>
          refine ⟨k + 1, by omega, ?_, ?_, HB2.out⟩
          · first
            | rw [ext_drop _ _ _ (by simp), List.drop_drop, show 8 * k + 8 = 8 * (k + 1) by omega]
            | (rw [List.drop_of_length_le (by omega)]; rfl)
          · rw [HS.out, HC.out, List.length_append, List.map_append]; exact HO.out
        case measure =>
          first
          | (rw [ext_drop _ _ _ (by simp)]; simp [ByteArray.size]; omega)
          | (simp [ByteArray.size]; omega)
    · have hk2 : k = (l.length + 7) / 8 := by omega
      have HO := Lib.hid hown
      have HK := Lib.hid (show packTo l k = packW l by unfold packW; rw [← hk2])
      clear hown hk2
      go_wp2_with (fail)
      go_ret
      exact ⟨_, rfl, by rw [← HK.out]; exact HO.out, hB⟩
end Go.Proofs.Ytegamhjfloebgaa
namespace Go.Proofs.Ytegamhjfloebgaa
open Go.RowKit

theorem own_below {B : Nat} {e : TypeId} {k : Nat} {v : Value} {n : Nat} {xs : List Value} {w w' : World} (h : w.ownsRow B e k v n xs) (hb : Below w.heap.size w w') : w'.ownsRow B e k v n xs := by
  obtain ⟨hl, h2⟩ := h
  refine ⟨hl, ?_⟩
  rcases h2 with h2 | ⟨g, cap, cur, hv, hB, hh, r⟩
  · exact .inl h2
  · exact .inr ⟨g, cap, cur, hv, hB, (hb.block g (Array.getElem?_eq_some_iff.1 hh).1).trans hh, r⟩

def zero8 : List UInt8 := List.replicate 8 0
def bcells (m : List UInt8) : Array Value := (m.map (fun b => Value.int .u8 (b.toNat : Int))).toArray
theorem bytesAt_blk {w : World} {b : Nat} {m : List UInt8} {t : TypeId} (h : Blk w b (bcells m) t) : BytesAt w b 0 m := fun i hi => by
  rw [Nat.zero_add, h.cell]; simp [bcells, hi]
/-- a part of a text in eight bytes -/
def pad8 (l : List UInt8) (i k : Nat) : List UInt8 := (l.drop i).take k ++ List.replicate (8 - k) 0
theorem pad8_len (l : List UInt8) (i k : Nat) (hk : k ≤ 8) (h : i + k ≤ l.length) : (pad8 l i k).length = 8 := by
  simp [pad8]; omega
theorem pad8_set (l : List UInt8) (i k : Nat) (hk : k < 8) (h : i + k < l.length) : (pad8 l i k).set k (l[i + k]) = pad8 l i (k + 1) := by
  have hl : ((l.drop i).take k).length = k := by simp; omega
  unfold pad8
  rw [show 8 - k = (8 - (k + 1)) + 1 by omega, List.replicate_succ, List.set_append_right _ _ (by omega), hl, Nat.sub_self, List.set_cons_zero]
  have : (l.drop i).take (k + 1) = (l.drop i).take k ++ [l[i + k]] := by
    rw [List.take_succ_eq_append_getElem (by simp; omega)]; simp
  rw [this, List.append_assoc]; rfl
theorem bcells_set (m : List UInt8) (k : Nat) (b : UInt8) : (bcells m).setIfInBounds k (.int .u8 (b.toNat : Int)) = bcells (m.set k b) := by
  simp [bcells]
theorem pad8_wd (l : List UInt8) (i k : Nat) (hk : k ≤ 8) (h : 8 ≤ k ∨ l.length ≤ i + k) : wd (pad8 l i k) = wd ((l.drop i).take 8) := by
  unfold pad8
  rw [wd_zeros]
  by_cases h9 : k = 8
  · rw [h9]
  · rw [List.take_of_length_le (by simp; omega), List.take_of_length_le (by simp; omega)]

set_option maxRecDepth 100000 in
theorem rpack_s (l : List UInt8) (hl : l.length ≤ 1000000) (w : World) : Calls Try.prog 35 #[.string ⟨l.toArray⟩] w fun e w' => ∃ v, e = .returned v ∧ w'.ownsRow w.heap.size 22 1 v (packW l).length ((packW l).map (Value.int .u64)) ∧ Below w.heap.size w w' := by
  obtain ⟨i0, hi, hz0, hz1, hz2⟩ := info_parts Try.info22
  have hmk : ∀ w : World, (Instr.makeSlice 48 (.int .i64 8) (.int .i64 8)).run Try.prog w = .ok (.slice (some ⟨w.heap.size, 0, none⟩) 8 8) (w.alloc (.cells (bcells zero8) 5)) := fun _ => by kernel_rfl
  go_enter Try.func35, Try.ntmps35
  go_wp2_with (fail)
  go_loopw [3, 4] (fun ov iv wr => ∃ k : Nat, 8 * k ≤ l.length + 7 ∧ iv = .int .i64 (8 * (k : Int)) ∧ wr.ownsRow w.heap.size 22 1 ov (packTo l k).length ((packTo l k).map (Value.int .u64)) ∧ Below w.heap.size w wr)
    (fun _ iv _ => (l.length + 8) - (intOf iv).toNat)
  case atStart =>
    refine ⟨0, by omega, rfl, ⟨rfl, .inr ⟨w.heap.size, 1, _, rfl, Nat.le_refl _, Blk.new w #[.int .u64 l.length] 22, by simp [packTo], by unfold maxLen; omega, rfl, by simp [packTo]⟩⟩, (Below.refl _ _).alloc (Nat.le_refl _) _⟩
  case round =>
    obtain ⟨k, hk, rfl, hown, hB⟩ := hrel
    by_cases hlt : 8 * k < l.length
    · have hpl := packTo_len l k
      have HP := Lib.hid hpl
      have HS := Lib.hid (packTo_succ l k)
      have hBs := hB.size
      have HO := Lib.hid hown
      have HB := Lib.hid hB
      have hdb : decide (8 * (k : Int) < (l.length : Int)) = true := decide_eq_true (by omega)
      clear hpl hown hB
      go_wp2_with (fail)
      obtain ⟨wo, hwo⟩ : ∃ wo : World, wo = wr := ⟨_, rfl⟩
      obtain ⟨bb, hbb⟩ : ∃ bb, bb = wr.heap.size := ⟨_, rfl⟩
      have hK0 := Lib.hid (Blk.new wr (bcells zero8) 5)
      have hB0 : Below bb wo (wr.alloc (.cells (bcells zero8) 5)) := by rw [hwo, hbb]; exact (Below.refl _ _).alloc (Nat.le_refl _) _
      rw [← hbb] at hK0 ⊢
      rw [← hwo] at HO HB
      have hbo : bb = wo.heap.size := by rw [hbb, hwo]
      generalize wr.alloc (.cells (bcells zero8) 5) = w2 at *
      have HBO := Lib.hid hbo
      clear hwo hbb hmk hbo
      go_loopw [6] (fun jv wq => ∃ j : Nat, j ≤ 8 ∧ (j = 0 ∨ 8 * k + j ≤ l.length) ∧ jv = .int .i64 j ∧ Hid (Blk wq bb (bcells (pad8 l (8 * k) j)) 5) ∧ Below bb wo wq) (fun jv _ => 8 - (intOf jv).toNat)
      case atStart => exact ⟨0, by omega, .inl rfl, rfl, Lib.hid (by rw [show pad8 l (8 * k) 0 = zero8 by unfold pad8 zero8; rfl]; exact hK0.out), hB0⟩
      case round =>
        obtain ⟨j, hj, hjl, rfl, hk2, hBq⟩ := hrel
        clear hB0 hK0
        have hjl2 : 8 * k + j ≤ l.length := by omega
        clear hjl
        by_cases hlt2 : j < 8 ∧ 8 * k + j < l.length
        · obtain ⟨q1, q2⟩ := hlt2
          have hc := hk2.out.cell j
          have hf := hk2.out.frozen j
          have hlen8 := pad8_len l (8 * k) j (by omega) hjl2
          rw [show (bcells (pad8 l (8 * k) j))[j]? = some (.int .u8 (((pad8 l (8 * k) j)[j]'(by omega)).toNat : Int)) by simp [bcells, hlen8, q1]] at hc
          have HS2 := Lib.hid (pad8_set l (8 * k) j q1 q2)
          have HK3 := Lib.hid (hk2.out.set j (.int .u8 ((l[8 * k + j]).toNat : Int)))
          have HB3 := Lib.hid (hBq.setCell (p := ⟨bb, j, none⟩) (Nat.le_refl _) (.int .u8 ((l[8 * k + j]).toNat : Int)))
          go_wp2_with (fail)
          go_roundw
          case rel => exact ⟨j + 1, by omega, .inr (by omega), by go_num, Lib.hid (by
            have := HK3.out
            rw [bcells_set, HS2.out] at this
            exact this), HB3.out⟩
          case measure => simp [intOf]; omega
        · have hq : 8 ≤ j ∨ l.length ≤ 8 * k + j := by omega
          have hch := pad8_wd l (8 * k) j hj hq
          have hp8 := pad8_len l (8 * k) j hj hjl2
          have hT := rtake_s (pad8 l (8 * k) j) bb 0 8 8 0 (by omega) (by omega) (by unfold maxLen; omega) wr (bytesAt_blk hk2.out)
          rw [List.drop_zero, List.take_of_length_le (by omega), hch] at hT
          obtain ⟨c, hc⟩ : ∃ c, chunk l k = c := ⟨_, rfl⟩
          rw [show wd ((l.drop (8 * k)).take 8) = c from hc] at hT
          have HT := Lib.hid hT
          have HC := Lib.hid hc
          have HOq := Lib.hid (own_below HO.out (by rw [← HBO.out]; exact hBq))
          have HBq := Lib.hid (HB.out.trans (hBq.mono (by rw [HBO.out]; exact HB.out.size)))
          have hBs2 := HBq.out.size
          have c0 : 0 ≤ c := by rw [← hc]; exact chunk_lt l k
          clear hT hc hch hp8 hBq
          by_cases h8 : j < 8
          · have d2 : decide (8 * (k : Int) + (j : Int) < (l.length : Int)) = false := decide_eq_false (by omega)
            clear hq hlt2
            go_wp2_with (fail)
            refine HT.out.mono ?_
            rintro e w5 ⟨rfl, rfl⟩
            have hown2 := HOq.out
            go_wp2_with (at_builtin; refine wpList_append_own _ rfl _ _ 40 rfl w.heap.size 22 i0 (.int .u64 0) 1 8 Try.underlying40 hi hz0 hz1 hz2 rfl (by decide) _ _ _ rfl (hown2.alloc _) ⟨wr.heap.size, 0, none⟩ 1 1 [.int .u64 c] rfl rfl (cell_one_new _ _ _) (ints_oneCell .u64 [c]) (by rw [HP.out]; unfold maxLen; omega) (by rw [HP.out]; omega) (by simp; omega) ?_)
            intro v' w6 hown' hgrow hnil
            have HO6 := Lib.hid hown'
            have HB6 := Lib.hid ((HBq.out.alloc hBs2 (.cells #[.int .u64 c] 22)).grown hgrow (by simp; omega) (fun r e => own_base hown2 _ e))
            clear hown' hgrow hnil hown2
            go_wp2_with (fail)
            go_roundw
            case rel => exact ⟨k + 1, by omega, by go_num, by rw [HS.out, HC.out, List.length_append, List.map_append]; exact HO6.out, HB6.out⟩
            case measure => simp [intOf]; omega
          · clear hq hlt2
            go_wp2_with (fail)
            refine HT.out.mono ?_
            rintro e w5 ⟨rfl, rfl⟩
            have hown2 := HOq.out
            go_wp2_with (at_builtin; refine wpList_append_own _ rfl _ _ 40 rfl w.heap.size 22 i0 (.int .u64 0) 1 8 Try.underlying40 hi hz0 hz1 hz2 rfl (by decide) _ _ _ rfl (hown2.alloc _) ⟨wr.heap.size, 0, none⟩ 1 1 [.int .u64 c] rfl rfl (cell_one_new _ _ _) (ints_oneCell .u64 [c]) (by rw [HP.out]; unfold maxLen; omega) (by rw [HP.out]; omega) (by simp; omega) ?_)
            intro v' w6 hown' hgrow hnil
            have HO6 := Lib.hid hown'
            have HB6 := Lib.hid ((HBq.out.alloc hBs2 (.cells #[.int .u64 c] 22)).grown hgrow (by simp; omega) (fun r e => own_base hown2 _ e))
            clear hown' hgrow hnil hown2
            go_wp2_with (fail)
            go_roundw
            case rel => exact ⟨k + 1, by omega, by go_num, by rw [HS.out, HC.out, List.length_append, List.map_append]; exact HO6.out, HB6.out⟩
            case measure => simp [intOf]; omega
    · have hk2 : k = (l.length + 7) / 8 := by omega
      have HO := Lib.hid hown
      have HK := Lib.hid (show packTo l k = packW l by unfold packW; rw [← hk2])
      clear hown hk2
      go_wp2_with (fail)
      go_ret
      exact ⟨_, rfl, by rw [← HK.out]; exact HO.out, hB⟩
end Go.Proofs.Ytegamhjfloebgaa
