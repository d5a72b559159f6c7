/-
  word.Bytes, slices.Equal of words: contracts.
-/
import Derived.Test.YtegamhjfloebgaaPr
import Derived.Laws.Rows
namespace Go.Proofs.Ytegamhjfloebgaa
open Go.RowKit

def byteN (n : Int) (i : Nat) : UInt8 := UInt8.ofNat (n.toNat / 256 ^ i % 256)
def putB (n : Int) : List UInt8 := (List.range 8).map (byteN n)
def putTo8 (n : Int) (k : Nat) : List UInt8 := (List.range k).map (byteN n) ++ List.replicate (8 - k) 0
theorem putTo8_len (n : Int) (k : Nat) (h : k ≤ 8) : (putTo8 n k).length = 8 := by simp [putTo8]; omega
theorem putTo8_set (n : Int) (k : Nat) (h : k < 8) : (putTo8 n k).set k (byteN n k) = putTo8 n (k + 1) := by
  unfold putTo8
  rw [show 8 - k = (8 - (k + 1)) + 1 by omega, List.replicate_succ, List.set_append_right _ _ (by simp)]
  simp only [List.length_map, List.length_range, Nat.sub_self, List.set_cons_zero, List.range_succ, List.map_append, List.append_assoc, List.map_cons, List.map_nil]
  rfl
theorem byteN_mod (m : Nat) (i : Nat) : ((m / 256 ^ i : Nat) : Int) % 256 = ((byteN m i).toNat : Int) := by
  unfold byteN
  have : (UInt8.ofNat ((m : Int).toNat / 256 ^ i % 256)).toNat = m / 256 ^ i % 256 := by
    rw [UInt8.toNat_ofNat', Int.toNat_natCast]
    exact Nat.mod_eq_of_lt (Nat.mod_lt _ (by decide))
  rw [this]; omega
theorem div_step (m k : Nat) : m / 256 ^ k / 256 = m / 256 ^ (k + 1) := by rw [Nat.div_div_eq_div_mul, Nat.pow_succ]

theorem set8 {wr : World} {b : Nat} {t : TypeId} {B : Nat} {w : World} {v0 v1 v2 v3 v4 v5 v6 v7 : Value} (h : Blk wr b #[v0, v1, v2, v3, v4, v5, v6, v7] t) (hB : Below B w wr) (hb : B ≤ b) :
    Blk ((((((((wr.setCell ⟨b, 0, none⟩ v0).setCell ⟨b, 1, none⟩ v1).setCell ⟨b, 2, none⟩ v2).setCell ⟨b, 3, none⟩ v3).setCell ⟨b, 4, none⟩ v4).setCell ⟨b, 5, none⟩ v5).setCell ⟨b, 6, none⟩ v6).setCell ⟨b, 7, none⟩ v7) b #[v0, v1, v2, v3, v4, v5, v6, v7] t ∧ Below B w ((((((((wr.setCell ⟨b, 0, none⟩ v0).setCell ⟨b, 1, none⟩ v1).setCell ⟨b, 2, none⟩ v2).setCell ⟨b, 3, none⟩ v3).setCell ⟨b, 4, none⟩ v4).setCell ⟨b, 5, none⟩ v5).setCell ⟨b, 6, none⟩ v6).setCell ⟨b, 7, none⟩ v7) := by
  refine ⟨?_, ?_⟩
  · have a0 := h.set 0 v0
    rw [show (#[v0, v1, v2, v3, v4, v5, v6, v7] : Array Value).setIfInBounds 0 v0 = (#[v0, v1, v2, v3, v4, v5, v6, v7] : Array Value) from rfl] at a0
    have a1 := a0.set 1 v1
    rw [show (#[v0, v1, v2, v3, v4, v5, v6, v7] : Array Value).setIfInBounds 1 v1 = (#[v0, v1, v2, v3, v4, v5, v6, v7] : Array Value) from rfl] at a1
    have a2 := a1.set 2 v2
    rw [show (#[v0, v1, v2, v3, v4, v5, v6, v7] : Array Value).setIfInBounds 2 v2 = (#[v0, v1, v2, v3, v4, v5, v6, v7] : Array Value) from rfl] at a2
    have a3 := a2.set 3 v3
    rw [show (#[v0, v1, v2, v3, v4, v5, v6, v7] : Array Value).setIfInBounds 3 v3 = (#[v0, v1, v2, v3, v4, v5, v6, v7] : Array Value) from rfl] at a3
    have a4 := a3.set 4 v4
    rw [show (#[v0, v1, v2, v3, v4, v5, v6, v7] : Array Value).setIfInBounds 4 v4 = (#[v0, v1, v2, v3, v4, v5, v6, v7] : Array Value) from rfl] at a4
    have a5 := a4.set 5 v5
    rw [show (#[v0, v1, v2, v3, v4, v5, v6, v7] : Array Value).setIfInBounds 5 v5 = (#[v0, v1, v2, v3, v4, v5, v6, v7] : Array Value) from rfl] at a5
    have a6 := a5.set 6 v6
    rw [show (#[v0, v1, v2, v3, v4, v5, v6, v7] : Array Value).setIfInBounds 6 v6 = (#[v0, v1, v2, v3, v4, v5, v6, v7] : Array Value) from rfl] at a6
    have a7 := a6.set 7 v7
    rw [show (#[v0, v1, v2, v3, v4, v5, v6, v7] : Array Value).setIfInBounds 7 v7 = (#[v0, v1, v2, v3, v4, v5, v6, v7] : Array Value) from rfl] at a7
    exact a7
  · have b0 := hB.setCell (p := ⟨b, 0, none⟩) hb v0
    have b1 := b0.setCell (p := ⟨b, 1, none⟩) hb v1
    have b2 := b1.setCell (p := ⟨b, 2, none⟩) hb v2
    have b3 := b2.setCell (p := ⟨b, 3, none⟩) hb v3
    have b4 := b3.setCell (p := ⟨b, 4, none⟩) hb v4
    have b5 := b4.setCell (p := ⟨b, 5, none⟩) hb v5
    have b6 := b5.setCell (p := ⟨b, 6, none⟩) hb v6
    have b7 := b6.setCell (p := ⟨b, 7, none⟩) hb v7
    exact b7

set_option maxRecDepth 100000 in
theorem put_n (n : Int) (h0 : 0 ≤ n) (hm : n ≤ 18446744073709551615) (w : World) : Calls Try.prog 77 #[.int .u64 n] w fun e w' => e = .returned (.agg (bcells (putB n))) ∧ Below w.heap.size w w' := by
  obtain ⟨m, rfl⟩ := Int.eq_ofNat_of_zero_le h0
  have hm2 : m ≤ 18446744073709551615 := by omega
  go_enter Try.func77, Try.ntmps77
  go_wp2_with (fail)
  go_loopw [0, 4] (fun nv iv wr => ∃ k : Nat, k ≤ 8 ∧ iv = .int .i64 k ∧ nv = .int .u64 ((m / 256 ^ k : Nat) : Int) ∧ Hid (Blk wr w.heap.size (bcells (putTo8 m k)) 113) ∧ Below w.heap.size w wr) (fun _ iv _ => 8 - (intOf iv).toNat)
  case atStart => exact ⟨0, by omega, rfl, by simp, Lib.hid (Blk.new w (bcells (putTo8 m 0)) 113), (Below.refl _ _).alloc (Nat.le_refl _) _⟩
  case round =>
    obtain ⟨k, hk, rfl, rfl, hk2, hB⟩ := hrel
    by_cases hlt : k < 8
    · have hc := hk2.out.cell k
      have hf := hk2.out.frozen k
      have hl8 := putTo8_len m k hk
      rw [show (bcells (putTo8 m k))[k]? = some (.int .u8 (((putTo8 m k)[k]'(by omega)).toNat : Int)) by simp [bcells, hl8, hlt]] at hc
      have hq : ((m / 256 ^ k : Nat) : Int) ≤ 18446744073709551615 := by
        have := Nat.div_le_self m (256 ^ k); omega
      obtain ⟨x, hx⟩ : ∃ x : Nat, m / 256 ^ k = x := ⟨_, rfl⟩
      rw [hx] at hq ⊢
      have HX := Lib.hid hx
      clear hx
      have HS := Lib.hid (putTo8_set m k hlt)
      have HM := Lib.hid (byteN_mod m k)
      have HD := Lib.hid (div_step m k)
      have HK3 := Lib.hid (hk2.out.set k (.int .u8 ((byteN m k).toNat : Int)))
      have HB3 := Lib.hid (hB.setCell (p := ⟨w.heap.size, k, none⟩) (Nat.le_refl _) (.int .u8 ((byteN m k).toNat : Int)))
      go_wp2_with (fail)
      go_roundw
      case rel => exact ⟨k + 1, by omega, by go_num, by rw [← HD.out, HX.out]; rfl, Lib.hid (by
        have := HK3.out
        rw [bcells_set, HS.out, ← HM.out, HX.out] at this
        exact this), by
        have := HB3.out
        rw [← HM.out, HX.out] at this
        exact this⟩
      case measure => simp [intOf]; omega
    · have hk8 : k = 8 := by omega
      have hp : putTo8 m k = putB m := by rw [hk8]; unfold putTo8 putB; simp
      rw [hp] at hk2
      have hl8 : (putB (m : Int)).length = 8 := by simp [putB]
      have e8 : bcells (putB m) = #[.int .u8 ((byteN m 0).toNat : Int), .int .u8 ((byteN m 1).toNat : Int), .int .u8 ((byteN m 2).toNat : Int), .int .u8 ((byteN m 3).toNat : Int), .int .u8 ((byteN m 4).toNat : Int), .int .u8 ((byteN m 5).toNat : Int), .int .u8 ((byteN m 6).toNat : Int), .int .u8 ((byteN m 7).toNat : Int)] := rfl
      have E8 := Lib.hid e8
      rw [e8] at hk2
      have c0 := hk2.out.cell 0
      have c1 := hk2.out.cell 1
      have c2 := hk2.out.cell 2
      have c3 := hk2.out.cell 3
      have c4 := hk2.out.cell 4
      have c5 := hk2.out.cell 5
      have c6 := hk2.out.cell 6
      have c7 := hk2.out.cell 7
      simp only [List.getElem?_toArray, List.getElem?_cons_zero, List.getElem?_cons_succ] at c0 c1 c2 c3 c4 c5 c6 c7
      have hf : ∀ i, wr.frozen? ⟨w.heap.size, i, none⟩ = false := fun i => hk2.out.frozen i
      have HZ := Lib.hid (set8 hk2.out hB (Nat.le_refl _))
      clear e8 hp hB hk8
      go_wp2_with (fail)
      obtain ⟨hz, hbz⟩ := HZ.out
      have z0 := hz.cell 0
      have z1 := hz.cell 1
      have z2 := hz.cell 2
      have z3 := hz.cell 3
      have z4 := hz.cell 4
      have z5 := hz.cell 5
      have z6 := hz.cell 6
      have z7 := hz.cell 7
      simp only [List.getElem?_toArray, List.getElem?_cons_zero, List.getElem?_cons_succ] at z0 z1 z2 z3 z4 z5 z6 z7
      rw [E8.out]
      exact bodyPost_ret (v := .agg #[.int .u8 ((byteN m 0).toNat : Int), .int .u8 ((byteN m 1).toNat : Int), .int .u8 ((byteN m 2).toNat : Int), .int .u8 ((byteN m 3).toNat : Int), .int .u8 ((byteN m 4).toNat : Int), .int .u8 ((byteN m 5).toNat : Int), .int .u8 ((byteN m 6).toNat : Int), .int .u8 ((byteN m 7).toNat : Int)])
        (by simp [results, Try.results77, go_sem, z0, z1, z2, z3, z4, z5, z6, z7]) rfl ⟨rfl, hbz⟩
end Go.Proofs.Ytegamhjfloebgaa
namespace Go.Proofs.Ytegamhjfloebgaa
open Go.RowKit

/-- words in memory -/
def WordsAt (w : World) (g o : Nat) (l : List Int) : Prop := ∀ i, (h : i < l.length) → w.cell? ⟨g, o + i, none⟩ = some (.int .u64 l[i])
theorem WordsAt.below {w w' : World} {g o : Nat} {l : List Int} (h : WordsAt w g o l) {B : Nat} (hB : Below B w w') (hg : g < B) : WordsAt w' g o l := fun i hi => (hB.cell (p := ⟨g, o + i, none⟩) hg).trans (h i hi)
def U64s (l : List Int) : Prop := ∀ x ∈ l, 0 ≤ x ∧ x ≤ 18446744073709551615
def bytesW (l : List Int) : List UInt8 := l.flatMap putB
def bvals (m : List UInt8) : List Value := m.map (fun b => Value.int .u8 (b.toNat : Int))
theorem putB_len (n : Int) : (putB n).length = 8 := by simp [putB]
theorem bytesW_len (l : List Int) : (bytesW l).length = 8 * l.length := by
  induction l with
  | nil => rfl
  | cons x r ih => simp only [bytesW, List.flatMap_cons, List.length_append, putB_len, List.length_cons] at ih ⊢; omega
theorem bytesW_snoc (l : List Int) (x : Int) : bytesW (l ++ [x]) = bytesW l ++ putB x := by simp [bytesW]
theorem bvals_len (m : List UInt8) : (bvals m).length = m.length := by simp [bvals]
theorem bvals_one (m : List UInt8) : ∀ u ∈ bvals m, u.oneCell' = true := by
  intro u hu
  obtain ⟨_, _, rfl⟩ := List.mem_map.1 hu
  rfl
theorem bvals_new (w : World) (m : List UInt8) (t : TypeId) : ∀ j u, (bvals m)[j]? = some u → (w.alloc (.cells (bcells m) t)).cell? ((⟨w.heap.size, 0, none⟩ : Addr).add j) = some u := by
  intro j u hj
  have hb := (Blk.new w (bcells m) t).cell j
  have : (⟨w.heap.size, 0, none⟩ : Addr).add j = ⟨w.heap.size, j, none⟩ := by unfold Addr.add; split; (rename_i h; subst h; rfl); simp
  rw [this, hb]
  simpa [bcells, bvals] using hj
theorem putB_lit (n : Int) : ∃ a0 a1 a2 a3 a4 a5 a6 a7 : UInt8, putB n = [a0, a1, a2, a3, a4, a5, a6, a7] := ⟨_, _, _, _, _, _, _, _, rfl⟩
theorem Try.infoB : (Try.prog.info? 5).map (fun i => (i.zero, i.size, i.bytes)) = some (some (.int .u8 0), 1, 1) := by kernel_rfl

theorem bytes_nil (a : Option Addr) (c : Nat) (w : World) : Calls Try.prog 70 #[.slice a 0 c] w fun e w' => e = .returned (.slice none 0 0) ∧ w = w' := by
  go_enter Try.func70, Try.ntmps70
  go_wp2_with (fail)
  refine wp_loop_rounds 1 ?_
  rw [rounds_succ]
  go_wp2_with (fail)
  go_ret
  exact ⟨rfl, rfl⟩

set_option maxRecDepth 100000 in
set_option maxHeartbeats 1000000 in
theorem bytes_l (l : List Int) (g o cap : Nat) (hl : l.length ≤ 1000000) (hu : U64s l) (w : World) (hp : 0 < l.length) (hw : WordsAt w g o l) :
    Calls Try.prog 70 #[.slice (some ⟨g, o, none⟩) l.length cap] w fun e w' => ∃ v, e = .returned v ∧ w'.ownsRow w.heap.size 5 1 v (bytesW l).length (bvals (bytesW l)) ∧ Below w.heap.size w w' := by
  obtain ⟨i0, hi, hz0, hz1, hz2⟩ := info_parts Try.infoB
  have hg : g < w.heap.size := World.block_lt_of_cell? w ⟨g, o + 0, none⟩ (hw 0 hp)
  have HW := Lib.hid hw
  have HU := Lib.hid hu
  clear hw hu
  go_enter Try.func70, Try.ntmps70
  go_wp2_with (fail)
  go_loopw [3, 9] (fun ov iv wr => ∃ k : Nat, k ≤ l.length ∧ iv = .int .i64 k ∧ wr.ownsRow w.heap.size 5 1 ov (bytesW (l.take k)).length (bvals (bytesW (l.take k))) ∧ Below w.heap.size w wr) (fun _ iv _ => l.length - (intOf iv).toNat)
  case atStart => exact ⟨0, by omega, rfl, World.ownsRow_nil _ _ _ _, Below.refl _ _⟩
  case round =>
    obtain ⟨k, hk, rfl, hown, hB⟩ := hrel
    by_cases hlt : k < l.length
    · have hc := HW.out.below hB hg k hlt
      obtain ⟨x, hx⟩ : ∃ x, l[k] = x := ⟨_, rfl⟩
      rw [hx] at hc
      have hxu := HU.out x (by rw [← hx]; exact List.getElem_mem _)
      have HS := Lib.hid (show bytesW (l.take (k + 1)) = bytesW (l.take k) ++ putB x by rw [List.take_succ_eq_append_getElem hlt, bytesW_snoc, hx])
      have hbl : (bytesW (l.take k)).length = 8 * k := by rw [bytesW_len, List.length_take]; omega
      have HL := Lib.hid hbl
      obtain ⟨a0, a1, a2, a3, a4, a5, a6, a7, ha⟩ := putB_lit x
      have HP := Lib.hid (show Calls Try.prog 77 #[.int .u64 x] wr fun e w' => e = .returned (.agg #[.int .u8 (a0.toNat : Int), .int .u8 (a1.toNat : Int), .int .u8 (a2.toNat : Int), .int .u8 (a3.toNat : Int), .int .u8 (a4.toNat : Int), .int .u8 (a5.toNat : Int), .int .u8 (a6.toNat : Int), .int .u8 (a7.toNat : Int)]) ∧ Below wr.heap.size wr w' by
        have := put_n x hxu.1 hxu.2 wr
        rw [ha] at this
        exact this)
      have HA := Lib.hid ha
      have HOw := Lib.hid hown
      have HB := Lib.hid hB
      have hsz := hB.size
      clear hx hbl hxu hown hB ha
      go_wp2_with (fail)
      refine HP.out.mono ?_
      rintro e w2 ⟨rfl, hB2⟩
      have hown2 := own_below HOw.out hB2
      have HB2 := Lib.hid (HB.out.trans (hB2.mono hsz))
      have hsz2 := HB2.out.size
      clear hB2
      go_wp2_with (at_builtin; refine wpList_append_own _ rfl _ _ 48 rfl w.heap.size 5 i0 (.int .u8 0) 1 1 Try.underlying48 hi hz0 hz1 hz2 rfl (by decide) _ _ _ rfl (hown2.alloc _) ⟨w2.heap.size, 0, none⟩ 8 8 (bvals [a0, a1, a2, a3, a4, a5, a6, a7]) rfl rfl (bvals_new w2 [a0, a1, a2, a3, a4, a5, a6, a7] 113) (bvals_one _) (by rw [HL.out]; unfold maxLen; omega) (by rw [HL.out]; omega) (by simp; omega) ?_)
      intro v' w6 hown' hgrow hnil
      have HO6 := Lib.hid hown'
      have HB6 := Lib.hid ((HB2.out.alloc hsz2 (.cells (bcells [a0, a1, a2, a3, a4, a5, a6, a7]) 113)).grown hgrow (by simp; omega) (fun r e => own_base hown2 _ e))
      clear hown' hgrow hnil hown2
      go_wp2_with (fail)
      go_roundw
      case rel => exact ⟨k + 1, by omega, by go_num, by
        have := HO6.out
        rw [HS.out, HA.out, List.length_append]
        rw [show bvals (bytesW (l.take k) ++ [a0, a1, a2, a3, a4, a5, a6, a7]) = bvals (bytesW (l.take k)) ++ bvals [a0, a1, a2, a3, a4, a5, a6, a7] by simp [bvals]]
        exact this, HB6.out⟩
      case measure => simp [intOf]; omega
    · have hk2 : l.take k = l := List.take_of_length_le (by omega)
      rw [hk2] at hown
      have HO := Lib.hid hown
      clear hk2 hown
      go_wp2_with (fail)
      go_ret
      exact ⟨_, rfl, HO.out, hB⟩
end Go.Proofs.Ytegamhjfloebgaa
