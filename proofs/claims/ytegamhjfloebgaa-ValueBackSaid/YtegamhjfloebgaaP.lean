/-
  word.Pack, the reference's Pack: contracts.
-/
import Derived.Test.YtegamhjfloebgaaW
import Derived.Maps.AppendAt
namespace Go.Proofs.Ytegamhjfloebgaa
open Go.RowKit

def chunk (l : List UInt8) (i : Nat) : Int := wd ((l.drop (8 * i)).take 8)
def packTo (l : List UInt8) (k : Nat) : List Int := (l.length : Int) :: (List.range k).map (chunk l)
def packW (l : List UInt8) : List Int := packTo l ((l.length + 7) / 8)
theorem packTo_succ (l : List UInt8) (k : Nat) : packTo l (k + 1) = packTo l k ++ [chunk l k] := by
  unfold packTo; rw [List.range_succ, List.map_append]; rfl
theorem packTo_len (l : List UInt8) (k : Nat) : (packTo l k).length = k + 1 := by simp [packTo]

theorem chunk_lt (l : List UInt8) (i : Nat) : 0 ≤ chunk l i := wd_nonneg _

theorem Try.info22 : (Try.prog.info? 22).map (fun i => (i.zero, i.size, i.bytes)) = some (some (.int .u64 0), 1, 8) := by kernel_rfl

theorem ext_take (l : List UInt8) (n : Nat) : (⟨l.toArray⟩ : ByteArray).extract 0 n = ⟨(l.take n).toArray⟩ := by
  apply ByteArray.ext
  rw [ByteArray.data_extract]
  simp
theorem ext_drop (l : List UInt8) (a n : Nat) (h : l.length ≤ n) : (⟨l.toArray⟩ : ByteArray).extract a n = ⟨(l.drop a).toArray⟩ := by
  apply ByteArray.ext
  rw [ByteArray.data_extract]
  apply Array.ext'
  simp
  rw [List.take_of_length_le (by simp; omega)]

set_option maxRecDepth 100000 in
theorem pack_s (l : List UInt8) (hl : l.length ≤ 1000000) (w : World) : Calls Try.prog 33 #[.string ⟨l.toArray⟩] w fun e w' => ∃ v, e = .returned v ∧ w'.ownsRow w.heap.size 22 1 v (packW l).length ((packW l).map (Value.int .u64)) ∧ Below w.heap.size w w' := by
  obtain ⟨i0, hi, hz0, hz1, hz2⟩ := info_parts Try.info22
  go_enter Try.func33, Try.ntmps33
  go_wp2_with (fail)
  go_loopw [0, 3] (fun sv ov wr => ∃ k : Nat, 8 * k ≤ l.length + 7 ∧ sv = .string ⟨(l.drop (8 * k)).toArray⟩ ∧ wr.ownsRow w.heap.size 22 1 ov (packTo l k).length ((packTo l k).map (Value.int .u64)) ∧ Below w.heap.size w wr)
    (fun sv _ _ => match sv with | .string s => s.size | _ => 0)
  case atStart =>
    refine ⟨0, by omega, rfl, ⟨rfl, .inr ⟨w.heap.size, 1, _, rfl, Nat.le_refl _, Blk.new w #[.int .u64 l.length] 22, by simp [packTo], by unfold maxLen; omega, rfl, by simp [packTo]⟩⟩, (Below.refl _ _).alloc (Nat.le_refl _) _⟩
  case round =>
    obtain ⟨k, hk, rfl, hown, hB⟩ := hrel
    by_cases hlt : 8 * k < l.length
    · have hpl := packTo_len l k
      have HP := Lib.hid hpl
      obtain ⟨c, hc⟩ : ∃ c, chunk l k = c := ⟨_, rfl⟩
      have HS := Lib.hid (packTo_succ l k)
      have HC := Lib.hid hc
      have hcl := chunk_lt l k
      have HT := Lib.hid (show ∀ w, Calls Try.prog 57 #[.string ⟨((l.drop (8 * k)).take 8).toArray⟩] w fun e w' => e = .returned (.int .u64 c) ∧ w = w' from fun w => by
        rw [← hc]; exact take_s _ (by rw [List.length_take]; omega) w)
      have hBs := hB.size
      clear hpl hc
      by_cases h8 : l.length - 8 * k ≤ 8
      all_goals
        go_wp2_with (fail)
        rw [ext_take]
        try rw [show (l.drop (8 * k)).take (l.length - 8 * k) = (l.drop (8 * k)).take 8 by rw [List.take_of_length_le (by simp), List.take_of_length_le (by simp; omega)]]
        refine (HT.out _).mono ?_
        rintro e w1 ⟨rfl, rfl⟩
        go_wp2_with (at_builtin; refine wpList_append_own _ rfl _ _ 40 rfl w.heap.size 22 i0 (.int .u64 0) 1 8 Try.underlying40 hi hz0 hz1 hz2 rfl (by decide) _ _ _ rfl (hown.alloc _) ⟨wr.heap.size, 0, none⟩ 1 1 [.int .u64 c] rfl rfl (cell_one_new _ _ _) (ints_oneCell .u64 [c]) (by rw [HP.out]; unfold maxLen; omega) (by rw [HP.out]; omega) (by simp; omega) ?_)
        intro v' w2 hown' hgrow hnil
        have HO := Lib.hid hown'
        have HB2 := Lib.hid ((hB.alloc hBs (.cells #[.int .u64 c] 22)).grown hgrow (by simp; omega) (fun r e => own_base hown _ e))
        clear hown' hgrow hnil hB hown
        go_wp2_with (fail)
        go_roundw
        case rel =>
          refine ⟨k + 1, by omega, ?_, ?_, HB2.out⟩
          · first
            | rw [ext_drop _ _ _ (by simp), List.drop_drop, show 8 * k + 8 = 8 * (k + 1) by omega]
            | (rw [List.drop_of_length_le (by omega)]; rfl)
          · rw [HS.out, HC.out, List.length_append, List.map_append]; exact HO.out
        case measure =>
          first
          | (rw [ext_drop _ _ _ (by simp)]; simp [ByteArray.size]; omega)
          | (simp [ByteArray.size]; omega)
    · have hk2 : k = (l.length + 7) / 8 := by omega
      have HO := Lib.hid hown
      have HK := Lib.hid (show packTo l k = packW l by unfold packW; rw [← hk2])
      clear hown hk2
      go_wp2_with (fail)
      go_ret
      exact ⟨_, rfl, by rw [← HK.out]; exact HO.out, hB⟩
end Go.Proofs.Ytegamhjfloebgaa
