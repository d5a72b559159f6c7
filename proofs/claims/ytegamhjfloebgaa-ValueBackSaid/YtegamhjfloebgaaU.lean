/-
  word.Bytes, slices.Equal of words: contracts.
-/
import Derived.Test.YtegamhjfloebgaaB
namespace Go.Proofs.Ytegamhjfloebgaa
open Go.RowKit

/-- words in memory -/
def WordsAt (w : World) (g o : Nat) (l : List Int) : Prop := ∀ i, (h : i < l.length) → w.cell? ⟨g, o + i, none⟩ = some (.int .u64 l[i])
theorem WordsAt.below {w w' : World} {g o : Nat} {l : List Int} (h : WordsAt w g o l) {B : Nat} (hB : Below B w w') (hg : g < B) : WordsAt w' g o l := fun i hi => (hB.cell (p := ⟨g, o + i, none⟩) hg).trans (h i hi)
def U64s (l : List Int) : Prop := ∀ x ∈ l, 0 ≤ x ∧ x ≤ 18446744073709551615
def bytesW (l : List Int) : List UInt8 := l.flatMap putB
def bvals (m : List UInt8) : List Value := m.map (fun b => Value.int .u8 (b.toNat : Int))
theorem putB_len (n : Int) : (putB n).length = 8 := by simp [putB]
theorem bytesW_len (l : List Int) : (bytesW l).length = 8 * l.length := by
  induction l with
  | nil => rfl
  | cons x r ih => simp only [bytesW, List.flatMap_cons, List.length_append, putB_len, List.length_cons] at ih ⊢; omega
theorem bytesW_snoc (l : List Int) (x : Int) : bytesW (l ++ [x]) = bytesW l ++ putB x := by simp [bytesW]
theorem bvals_len (m : List UInt8) : (bvals m).length = m.length := by simp [bvals]
theorem bvals_one (m : List UInt8) : ∀ u ∈ bvals m, u.oneCell' = true := by
  intro u hu
  obtain ⟨_, _, rfl⟩ := List.mem_map.1 hu
  rfl
theorem bvals_new (w : World) (m : List UInt8) (t : TypeId) : ∀ j u, (bvals m)[j]? = some u → (w.alloc (.cells (bcells m) t)).cell? ((⟨w.heap.size, 0, none⟩ : Addr).add j) = some u := by
  intro j u hj
  have hb := (Blk.new w (bcells m) t).cell j
  have : (⟨w.heap.size, 0, none⟩ : Addr).add j = ⟨w.heap.size, j, none⟩ := by unfold Addr.add; split; (rename_i h; subst h; rfl); simp
  rw [this, hb]
  simpa [bcells, bvals] using hj
theorem putB_lit (n : Int) : ∃ a0 a1 a2 a3 a4 a5 a6 a7 : UInt8, putB n = [a0, a1, a2, a3, a4, a5, a6, a7] := ⟨_, _, _, _, _, _, _, _, rfl⟩
theorem Try.infoB : (Try.prog.info? 5).map (fun i => (i.zero, i.size, i.bytes)) = some (some (.int .u8 0), 1, 1) := by kernel_rfl

theorem bytes_nil (a : Option Addr) (c : Nat) (w : World) : Calls Try.prog 70 #[.slice a 0 c] w fun e w' => e = .returned (.slice none 0 0) ∧ w = w' := by
  go_enter Try.func70, Try.ntmps70
  go_wp2_with (fail)
  refine wp_loop_rounds 1 ?_
  rw [rounds_succ]
  go_wp2_with (fail)
  go_ret
  exact ⟨rfl, rfl⟩

set_option maxRecDepth 100000 in
set_option maxHeartbeats 1000000 in
theorem bytes_l (l : List Int) (g o cap : Nat) (hl : l.length ≤ 1000000) (hu : U64s l) (w : World) (hp : 0 < l.length) (hw : WordsAt w g o l) :
    Calls Try.prog 70 #[.slice (some ⟨g, o, none⟩) l.length cap] w fun e w' => ∃ v, e = .returned v ∧ w'.ownsRow w.heap.size 5 1 v (bytesW l).length (bvals (bytesW l)) ∧ Below w.heap.size w w' := by
  obtain ⟨i0, hi, hz0, hz1, hz2⟩ := info_parts Try.infoB
  have hg : g < w.heap.size := World.block_lt_of_cell? w ⟨g, o + 0, none⟩ (hw 0 hp)
  have HW := Lib.hid hw
  have HU := Lib.hid hu
  clear hw hu
  go_enter Try.func70, Try.ntmps70
  go_wp2_with (fail)
  go_loopw [3, 9] (fun ov iv wr => ∃ k : Nat, k ≤ l.length ∧ iv = .int .i64 k ∧ wr.ownsRow w.heap.size 5 1 ov (bytesW (l.take k)).length (bvals (bytesW (l.take k))) ∧ Below w.heap.size w wr) (fun _ iv _ => l.length - (intOf iv).toNat)
  case atStart => exact ⟨0, by omega, rfl, World.ownsRow_nil _ _ _ _, Below.refl _ _⟩
  case round =>
    obtain ⟨k, hk, rfl, hown, hB⟩ := hrel
    by_cases hlt : k < l.length
    · have hc := HW.out.below hB hg k hlt
      obtain ⟨x, hx⟩ : ∃ x, l[k] = x := ⟨_, rfl⟩
      rw [hx] at hc
      have hxu := HU.out x (by rw [← hx]; exact List.getElem_mem _)
      have HS := Lib.hid (show bytesW (l.take (k + 1)) = bytesW (l.take k) ++ putB x by rw [List.take_succ_eq_append_getElem hlt, bytesW_snoc, hx])
      have hbl : (bytesW (l.take k)).length = 8 * k := by rw [bytesW_len, List.length_take]; omega
      have HL := Lib.hid hbl
      obtain ⟨a0, a1, a2, a3, a4, a5, a6, a7, ha⟩ := putB_lit x
      have HP := Lib.hid (show Calls Try.prog 77 #[.int .u64 x] wr fun e w' => e = .returned (.agg #[.int .u8 (a0.toNat : Int), .int .u8 (a1.toNat : Int), .int .u8 (a2.toNat : Int), .int .u8 (a3.toNat : Int), .int .u8 (a4.toNat : Int), .int .u8 (a5.toNat : Int), .int .u8 (a6.toNat : Int), .int .u8 (a7.toNat : Int)]) ∧ Below wr.heap.size wr w' by
        have := put_n x hxu.1 hxu.2 wr
        rw [ha] at this
        exact this)
      have HA := Lib.hid ha
      have HOw := Lib.hid hown
      have HB := Lib.hid hB
      have hsz := hB.size
      clear hx hbl hxu hown hB ha
      go_wp2_with (fail)
      refine HP.out.mono ?_
      rintro e w2 ⟨rfl, hB2⟩
      have hown2 := own_below HOw.out hB2
      have HB2 := Lib.hid (HB.out.trans (hB2.mono hsz))
      have hsz2 := HB2.out.size
      clear hB2
      go_wp2_with (at_builtin; refine wpList_append_own _ rfl _ _ 48 rfl w.heap.size 5 i0 (.int .u8 0) 1 1 Try.underlying48 hi hz0 hz1 hz2 rfl (by decide) _ _ _ rfl (hown2.alloc _) ⟨w2.heap.size, 0, none⟩ 8 8 (bvals [a0, a1, a2, a3, a4, a5, a6, a7]) rfl rfl (bvals_new w2 [a0, a1, a2, a3, a4, a5, a6, a7] 113) (bvals_one _) (by rw [HL.out]; unfold maxLen; omega) (by rw [HL.out]; omega) (by simp; omega) ?_)
      intro v' w6 hown' hgrow hnil
      have HO6 := Lib.hid hown'
      have HB6 := Lib.hid ((HB2.out.alloc hsz2 (.cells (bcells [a0, a1, a2, a3, a4, a5, a6, a7]) 113)).grown hgrow (by simp; omega) (fun r e => own_base hown2 _ e))
      clear hown' hgrow hnil hown2
      go_wp2_with (fail)
      go_roundw
      case rel => exact ⟨k + 1, by omega, by go_num, by
        have := HO6.out
        rw [HS.out, HA.out, List.length_append]
        rw [show bvals (bytesW (l.take k) ++ [a0, a1, a2, a3, a4, a5, a6, a7]) = bvals (bytesW (l.take k)) ++ bvals [a0, a1, a2, a3, a4, a5, a6, a7] by simp [bvals]]
        exact this, HB6.out⟩
      case measure => simp [intOf]; omega
    · have hk2 : l.take k = l := List.take_of_length_le (by omega)
      rw [hk2] at hown
      have HO := Lib.hid hown
      clear hk2 hown
      go_wp2_with (fail)
      go_ret
      exact ⟨_, rfl, HO.out, hB⟩
end Go.Proofs.Ytegamhjfloebgaa
