/-
  THE REFERENCE's Pack: contract.
-/
import Derived.Test.YtegamhjfloebgaaP
namespace Go.Proofs.Ytegamhjfloebgaa
open Go.RowKit

theorem own_below {B : Nat} {e : TypeId} {k : Nat} {v : Value} {n : Nat} {xs : List Value} {w w' : World} (h : w.ownsRow B e k v n xs) (hb : Below w.heap.size w w') : w'.ownsRow B e k v n xs := by
  obtain ⟨hl, h2⟩ := h
  refine ⟨hl, ?_⟩
  rcases h2 with h2 | ⟨g, cap, cur, hv, hB, hh, r⟩
  · exact .inl h2
  · exact .inr ⟨g, cap, cur, hv, hB, (hb.block g (Array.getElem?_eq_some_iff.1 hh).1).trans hh, r⟩

def zero8 : List UInt8 := List.replicate 8 0
def bcells (m : List UInt8) : Array Value := (m.map (fun b => Value.int .u8 (b.toNat : Int))).toArray
theorem bytesAt_blk {w : World} {b : Nat} {m : List UInt8} {t : TypeId} (h : Blk w b (bcells m) t) : BytesAt w b 0 m := fun i hi => by
  rw [Nat.zero_add, h.cell]; simp [bcells, hi]
/-- a part of a text in eight bytes -/
def pad8 (l : List UInt8) (i k : Nat) : List UInt8 := (l.drop i).take k ++ List.replicate (8 - k) 0
theorem pad8_len (l : List UInt8) (i k : Nat) (hk : k ≤ 8) (h : i + k ≤ l.length) : (pad8 l i k).length = 8 := by
  simp [pad8]; omega
theorem pad8_set (l : List UInt8) (i k : Nat) (hk : k < 8) (h : i + k < l.length) : (pad8 l i k).set k (l[i + k]) = pad8 l i (k + 1) := by
  have hl : ((l.drop i).take k).length = k := by simp; omega
  unfold pad8
  rw [show 8 - k = (8 - (k + 1)) + 1 by omega, List.replicate_succ, List.set_append_right _ _ (by omega), hl, Nat.sub_self, List.set_cons_zero]
  have : (l.drop i).take (k + 1) = (l.drop i).take k ++ [l[i + k]] := by
    rw [List.take_succ_eq_append_getElem (by simp; omega)]; simp
  rw [this, List.append_assoc]; rfl
theorem bcells_set (m : List UInt8) (k : Nat) (b : UInt8) : (bcells m).setIfInBounds k (.int .u8 (b.toNat : Int)) = bcells (m.set k b) := by
  simp [bcells]
theorem pad8_wd (l : List UInt8) (i k : Nat) (hk : k ≤ 8) (h : 8 ≤ k ∨ l.length ≤ i + k) : wd (pad8 l i k) = wd ((l.drop i).take 8) := by
  unfold pad8
  rw [wd_zeros]
  by_cases h9 : k = 8
  · rw [h9]
  · rw [List.take_of_length_le (by simp; omega), List.take_of_length_le (by simp; omega)]

set_option maxRecDepth 100000 in
theorem rpack_s (l : List UInt8) (hl : l.length ≤ 1000000) (w : World) : Calls Try.prog 35 #[.string ⟨l.toArray⟩] w fun e w' => ∃ v, e = .returned v ∧ w'.ownsRow w.heap.size 22 1 v (packW l).length ((packW l).map (Value.int .u64)) ∧ Below w.heap.size w w' := by
  obtain ⟨i0, hi, hz0, hz1, hz2⟩ := info_parts Try.info22
  have hmk : ∀ w : World, (Instr.makeSlice 48 (.int .i64 8) (.int .i64 8)).run Try.prog w = .ok (.slice (some ⟨w.heap.size, 0, none⟩) 8 8) (w.alloc (.cells (bcells zero8) 5)) := fun _ => by kernel_rfl
  go_enter Try.func35, Try.ntmps35
  go_wp2_with (fail)
  go_loopw [3, 4] (fun ov iv wr => ∃ k : Nat, 8 * k ≤ l.length + 7 ∧ iv = .int .i64 (8 * (k : Int)) ∧ wr.ownsRow w.heap.size 22 1 ov (packTo l k).length ((packTo l k).map (Value.int .u64)) ∧ Below w.heap.size w wr)
    (fun _ iv _ => (l.length + 8) - (intOf iv).toNat)
  case atStart =>
    refine ⟨0, by omega, rfl, ⟨rfl, .inr ⟨w.heap.size, 1, _, rfl, Nat.le_refl _, Blk.new w #[.int .u64 l.length] 22, by simp [packTo], by unfold maxLen; omega, rfl, by simp [packTo]⟩⟩, (Below.refl _ _).alloc (Nat.le_refl _) _⟩
  case round =>
    obtain ⟨k, hk, rfl, hown, hB⟩ := hrel
    by_cases hlt : 8 * k < l.length
    · have hpl := packTo_len l k
      have HP := Lib.hid hpl
      have HS := Lib.hid (packTo_succ l k)
      have hBs := hB.size
      have HO := Lib.hid hown
      have HB := Lib.hid hB
      have hdb : decide (8 * (k : Int) < (l.length : Int)) = true := decide_eq_true (by omega)
      clear hpl hown hB
      go_wp2_with (fail)
      obtain ⟨wo, hwo⟩ : ∃ wo : World, wo = wr := ⟨_, rfl⟩
      obtain ⟨bb, hbb⟩ : ∃ bb, bb = wr.heap.size := ⟨_, rfl⟩
      have hK0 := Lib.hid (Blk.new wr (bcells zero8) 5)
      have hB0 : Below bb wo (wr.alloc (.cells (bcells zero8) 5)) := by rw [hwo, hbb]; exact (Below.refl _ _).alloc (Nat.le_refl _) _
      rw [← hbb] at hK0 ⊢
      rw [← hwo] at HO HB
      have hbo : bb = wo.heap.size := by rw [hbb, hwo]
      generalize wr.alloc (.cells (bcells zero8) 5) = w2 at *
      have HBO := Lib.hid hbo
      clear hwo hbb hmk hbo
      go_loopw [6] (fun jv wq => ∃ j : Nat, j ≤ 8 ∧ (j = 0 ∨ 8 * k + j ≤ l.length) ∧ jv = .int .i64 j ∧ Hid (Blk wq bb (bcells (pad8 l (8 * k) j)) 5) ∧ Below bb wo wq) (fun jv _ => 8 - (intOf jv).toNat)
      case atStart => exact ⟨0, by omega, .inl rfl, rfl, Lib.hid (by rw [show pad8 l (8 * k) 0 = zero8 by unfold pad8 zero8; rfl]; exact hK0.out), hB0⟩
      case round =>
        obtain ⟨j, hj, hjl, rfl, hk2, hBq⟩ := hrel
        clear hB0 hK0
        have hjl2 : 8 * k + j ≤ l.length := by omega
        clear hjl
        by_cases hlt2 : j < 8 ∧ 8 * k + j < l.length
        · obtain ⟨q1, q2⟩ := hlt2
          have hc := hk2.out.cell j
          have hf := hk2.out.frozen j
          have hlen8 := pad8_len l (8 * k) j (by omega) hjl2
          rw [show (bcells (pad8 l (8 * k) j))[j]? = some (.int .u8 (((pad8 l (8 * k) j)[j]'(by omega)).toNat : Int)) by simp [bcells, hlen8, q1]] at hc
          have HS2 := Lib.hid (pad8_set l (8 * k) j q1 q2)
          have HK3 := Lib.hid (hk2.out.set j (.int .u8 ((l[8 * k + j]).toNat : Int)))
          have HB3 := Lib.hid (hBq.setCell (p := ⟨bb, j, none⟩) (Nat.le_refl _) (.int .u8 ((l[8 * k + j]).toNat : Int)))
          go_wp2_with (fail)
          go_roundw
          case rel => exact ⟨j + 1, by omega, .inr (by omega), by go_num, Lib.hid (by
            have := HK3.out
            rw [bcells_set, HS2.out] at this
            exact this), HB3.out⟩
          case measure => simp [intOf]; omega
        · have hq : 8 ≤ j ∨ l.length ≤ 8 * k + j := by omega
          have hch := pad8_wd l (8 * k) j hj hq
          have hp8 := pad8_len l (8 * k) j hj hjl2
          have hT := rtake_s (pad8 l (8 * k) j) bb 0 8 8 0 (by omega) (by omega) (by unfold maxLen; omega) wr (bytesAt_blk hk2.out)
          rw [List.drop_zero, List.take_of_length_le (by omega), hch] at hT
          obtain ⟨c, hc⟩ : ∃ c, chunk l k = c := ⟨_, rfl⟩
          rw [show wd ((l.drop (8 * k)).take 8) = c from hc] at hT
          have HT := Lib.hid hT
          have HC := Lib.hid hc
          have HOq := Lib.hid (own_below HO.out (by rw [← HBO.out]; exact hBq))
          have HBq := Lib.hid (HB.out.trans (hBq.mono (by rw [HBO.out]; exact HB.out.size)))
          have hBs2 := HBq.out.size
          have c0 : 0 ≤ c := by rw [← hc]; exact chunk_lt l k
          clear hT hc hch hp8 hBq
          by_cases h8 : j < 8
          · have d2 : decide (8 * (k : Int) + (j : Int) < (l.length : Int)) = false := decide_eq_false (by omega)
            clear hq hlt2
            go_wp2_with (fail)
            refine HT.out.mono ?_
            rintro e w5 ⟨rfl, rfl⟩
            have hown2 := HOq.out
            go_wp2_with (at_builtin; refine wpList_append_own _ rfl _ _ 40 rfl w.heap.size 22 i0 (.int .u64 0) 1 8 Try.underlying40 hi hz0 hz1 hz2 rfl (by decide) _ _ _ rfl (hown2.alloc _) ⟨wr.heap.size, 0, none⟩ 1 1 [.int .u64 c] rfl rfl (cell_one_new _ _ _) (ints_oneCell .u64 [c]) (by rw [HP.out]; unfold maxLen; omega) (by rw [HP.out]; omega) (by simp; omega) ?_)
            intro v' w6 hown' hgrow hnil
            have HO6 := Lib.hid hown'
            have HB6 := Lib.hid ((HBq.out.alloc hBs2 (.cells #[.int .u64 c] 22)).grown hgrow (by simp; omega) (fun r e => own_base hown2 _ e))
            clear hown' hgrow hnil hown2
            go_wp2_with (fail)
            go_roundw
            case rel => exact ⟨k + 1, by omega, by go_num, by rw [HS.out, HC.out, List.length_append, List.map_append]; exact HO6.out, HB6.out⟩
            case measure => simp [intOf]; omega
          · clear hq hlt2
            go_wp2_with (fail)
            refine HT.out.mono ?_
            rintro e w5 ⟨rfl, rfl⟩
            have hown2 := HOq.out
            go_wp2_with (at_builtin; refine wpList_append_own _ rfl _ _ 40 rfl w.heap.size 22 i0 (.int .u64 0) 1 8 Try.underlying40 hi hz0 hz1 hz2 rfl (by decide) _ _ _ rfl (hown2.alloc _) ⟨wr.heap.size, 0, none⟩ 1 1 [.int .u64 c] rfl rfl (cell_one_new _ _ _) (ints_oneCell .u64 [c]) (by rw [HP.out]; unfold maxLen; omega) (by rw [HP.out]; omega) (by simp; omega) ?_)
            intro v' w6 hown' hgrow hnil
            have HO6 := Lib.hid hown'
            have HB6 := Lib.hid ((HBq.out.alloc hBs2 (.cells #[.int .u64 c] 22)).grown hgrow (by simp; omega) (fun r e => own_base hown2 _ e))
            clear hown' hgrow hnil hown2
            go_wp2_with (fail)
            go_roundw
            case rel => exact ⟨k + 1, by omega, by go_num, by rw [HS.out, HC.out, List.length_append, List.map_append]; exact HO6.out, HB6.out⟩
            case measure => simp [intOf]; omega
    · have hk2 : k = (l.length + 7) / 8 := by omega
      have HO := Lib.hid hown
      have HK := Lib.hid (show packTo l k = packW l by unfold packW; rw [← hk2])
      clear hown hk2
      go_wp2_with (fail)
      go_ret
      exact ⟨_, rfl, by rw [← HK.out]; exact HO.out, hB⟩
end Go.Proofs.Ytegamhjfloebgaa
