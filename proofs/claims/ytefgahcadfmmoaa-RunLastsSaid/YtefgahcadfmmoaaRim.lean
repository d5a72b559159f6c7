/-
  leveeref10.Image: a contract.
-/
import Derived.Test.YtefgahcadfmmoaaRwi
namespace Go.Proofs.Ytefgahcadfmmoaa
open Go.RowKit
attribute [local go_sem] Oper.semAt_some
set_option linter.unusedVariables false

/-- the first k bytes of a word, set at a place -/
def bset (B : List UInt8) (o : Nat) (x : Int) : Nat → List UInt8
  | 0 => B
  | k + 1 => (bset B o x k).set (o + k) (byteN x k)
theorem bset_len (B : List UInt8) (o : Nat) (x : Int) : ∀ k, (bset B o x k).length = B.length
  | 0 => rfl
  | k + 1 => by rw [bset, List.length_set, bset_len B o x k]
theorem bset_skip (A B : List UInt8) (o : Nat) (x : Int) : ∀ k, bset (A ++ B) (A.length + o) x k = A ++ bset B o x k
  | 0 => rfl
  | k + 1 => by
    rw [bset, bset, bset_skip A B o x k, List.set_append_right _ _ (by omega)]
    congr 2
    omega
theorem bset_word (v x : Int) (R : List UInt8) : bset (putB v ++ R) 0 x 8 = putB x ++ R := by
  obtain ⟨a0, a1, a2, a3, a4, a5, a6, a7, e⟩ := putB_lit v
  rw [e]
  simp only [bset, Nat.zero_add]
  show _ = (List.range 8).map (byteN x) ++ R
  rfl
theorem bset_bytesW (x : Int) : ∀ (vs : List Int) (i : Nat), i < vs.length → bset (bytesW vs) (8 * i) x 8 = bytesW (vs.set i x)
  | [], i, h => absurd h (by simp)
  | v :: vs, 0, _ => by
    show bset (putB v ++ bytesW vs) 0 x 8 = putB x ++ bytesW vs
    exact bset_word v x _
  | v :: vs, i + 1, h => by
    show bset (putB v ++ bytesW vs) (8 * (i + 1)) x 8 = putB v ++ bytesW (vs.set i x)
    have := bset_skip (putB v) (bytesW vs) (8 * i) x 8
    rw [putB_len] at this
    rw [show 8 * (i + 1) = 8 + 8 * i by omega, this, bset_bytesW x vs i (by simpa using h)]
theorem bvals_set (B : List UInt8) (i : Nat) (x : UInt8) : bvals (B.set i x) = (bvals B).set i (Value.int .u8 (x.toNat : Int)) := by
  unfold bvals
  rw [List.map_set]
theorem bytesW_zero (N : Nat) : bytesW (List.replicate N 0) = List.replicate (8 * N) 0 := by
  induction N with
  | zero => rfl
  | succ n ih =>
    rw [List.replicate_succ]
    show putB 0 ++ bytesW (List.replicate n 0) = _
    rw [ih, show 8 * (n + 1) = 8 + 8 * n by omega, ← List.replicate_append_replicate]
    rfl
def ByB (B : Nat) (l : List UInt8) (v : Value) (W : World) : Prop := W.ownsRow B 5 1 v l.length (bvals l)
set_option maxRecDepth 100000 in
set_option maxHeartbeats 40000000 in
theorem rimage_v (N K : Nat) (hN : 0 < N ∧ N ≤ 1000) (a : Option Addr) (l : List (Int × Int)) (cap : Nat) (w1 : World) (hp : PutsAt w1 a l) (hl : l.length ≤ 1000) (hok : ∀ i, i < K → 0 ≤ eK l i ∧ eK l i % 8 = 0 ∧ eK l i / 8 < (N : Int) ∧ 0 ≤ eP l i ∧ eP l i ≤ 18446744073709551615) (hK : K ≤ l.length) :
    Calls Try.prog 17 #[.int .i64 ((8 * N : Nat) : Int), .slice a l.length cap, .int .i64 (K : Int)] w1 fun e w' => ∃ v, e = .returned v ∧ ByB w1.heap.size (bytesW (vsOf N l K)) v w' ∧ Below w1.heap.size w1 w' := by
  obtain ⟨i0, hi, hz0, hz1, hz2⟩ := info_parts Try.infoB
  have HLm := Lib.hid (show K ≤ l.length ∧ K ≤ 1000 from by omega)
  have HPu := Lib.hid hp
  have HOk := Lib.hid hok
  obtain ⟨sz, hsz⟩ : ∃ sz : Nat, 8 * N = sz := ⟨_, rfl⟩
  have HSz := Lib.hid (show 8 * N = sz ∧ 0 < sz ∧ sz ≤ 8000 from by omega)
  rw [hsz]
  have hszl : (sz : Int) ≤ 8000 := by omega
  clear hp hok hl hK hN hsz
  go_enter Try.func17, Try.ntmps17
  go_wp2_with (refine wpList_make_full _ rfl _ _ _ rfl w1.heap.size 5 i0 (.int .u8 0) 1 Try.underlying44 hi hz0 hz1 .i64 .i64 (sz : Int) (sz : Int) sz rfl rfl rfl rfl (by rw [hz2]; omega) (by unfold maxLen; omega) (Nat.le_refl _) ?_; intro w2 hown hgrow)
  rw [show (Value.int .u8 0).cells = #[Value.int .u8 0] from rfl, toList_madeCells_one, Nat.mul_one] at hown
  have hL0 : List.replicate sz (Value.int .u8 0) = bvals (bytesW (vsOf N l 0)) := by
    rw [show vsOf N l 0 = List.replicate N 0 from rfl, bytesW_zero, HSz.out.1]
    simp [bvals]
  rw [hL0] at hown
  have HO := Lib.hid hown
  have HB1 := Lib.hid ((Below.refl w1.heap.size w1).grown hgrow (Nat.le_refl _) (fun r e => by cases e))
  clear hown hgrow hL0
  obtain ⟨g, hg⟩ : ∃ g, w1.heap.size = g := ⟨_, rfl⟩
  have HG := Lib.hid hg
  rw [hg] at HO HB1 ⊢
  clear hg
  go_wp2_with (fail)
  go_loopw [8, 9] (fun iv nv wr => ∃ k : Nat, k ≤ K ∧ iv = .int .i64 k ∧ wr.ownsRow g 5 1 (.slice (some ⟨g, 0, none⟩) sz sz) sz (bvals (bytesW (vsOf N l k))) ∧ Below g w1 wr) (fun iv _ _ => K - (intOf iv).toNat)
  case atStart => exact ⟨0, by omega, rfl, HO.out, HB1.out⟩
  case round =>
    obtain ⟨k, hk, rfl, hown, hB⟩ := hrel
    have HO1 := Lib.hid hown
    have HB := Lib.hid hB
    clear hown hB
    by_cases hlt : k < K
    · have hkl : k < l.length := by have := HLm.out; omega
      obtain ⟨gl, o, rfl, hgl, he⟩ := HPu.out (by omega)
      obtain ⟨b0, b8, bN, bp0, bp1⟩ := HOk.out k hlt
      obtain ⟨x, hx⟩ : ∃ x : Nat, eP l k = (x : Int) := ⟨(eP l k).toNat, by omega⟩
      obtain ⟨i, hi9⟩ : ∃ i : Nat, eK l k = ((8 * i : Nat) : Int) := ⟨(eK l k).toNat / 8, by omega⟩
      have hck := he k hkl
      rw [hx, hi9] at hck
      have hglw : gl < g := by rw [← HG.out]; exact hgl
      have c0 : wr.cell? ⟨gl, o + k * 2, none⟩ = some (.int .u64 ((8 * i : Nat) : Int)) := (HB.out.cell (p := ⟨gl, o + k * 2, none⟩) hglw).trans hck.1
      have c1 : wr.cell? ⟨gl, o + k * 2 + 1, none⟩ = some (.int .u64 (x : Int)) := (HB.out.cell (p := ⟨gl, o + k * 2 + 1, none⟩) hglw).trans hck.2
      have HC0 := Lib.hid c0
      have HGl := Lib.hid hglw
      have HVs := Lib.hid (show bytesW (vsOf N l (k + 1)) = bset (bytesW (vsOf N l k)) (8 * i) (x : Int) 8 from by
        rw [vsOf_succ N hkl, hi9, hx, show (((8 * i : Nat) : Int) / 8).toNat = i by omega, bset_bytesW _ _ _ (by rw [vsOf_len]; omega)])
      obtain ⟨B0, hB0⟩ : ∃ B0, bytesW (vsOf N l k) = B0 := ⟨_, rfl⟩
      have hB0l : B0.length = sz := by rw [← hB0, bytesW_len, vsOf_len]; exact HSz.out.1
      rw [hB0] at HO1 HVs
      have hkb : (k : Int) < (l.length : Int) := by omega
      have hkK : (k : Int) < (K : Int) := by omega
      have hx0 : (x : Int) ≤ 18446744073709551615 := by omega
      have HIx := Lib.hid (show 8 * i + 8 ≤ sz ∧ sz ≤ 8000 ∧ k < K ∧ K ≤ 1000 from by have := HSz.out; have := HLm.out; omega)
      have HBl := Lib.hid hB0l
      have hlm := HLm.out.2
      clear c0 b0 b8 bN bp0 bp1 hx hi9 hck he hB0 hB0l hglw hgl hlt hkl
      have c1 : wr.cell? ⟨gl, o + k * 2 + 1, none⟩ = some (.int .u64 (x : Int)) := c1
      go_wp2_with (fail)
      go_loopw [9, 10] (fun nv jv wr => ∃ j : Nat, j ≤ 8 ∧ jv = .int .i64 j ∧ nv = .int .u64 ((x / 256 ^ j : Nat) : Int) ∧ wr.ownsRow g 5 1 (.slice (some ⟨g, 0, none⟩) sz sz) sz (bvals (bset B0 (8 * i) x j)) ∧ Below g w1 wr ∧ wr.cell? ⟨gl, o + k * 2, none⟩ = some (.int .u64 ((8 * i : Nat) : Int))) (fun _ jv _ => 8 - (intOf jv).toNat)
      case atStart => exact ⟨0, by omega, rfl, by simp, HO1.out, HB.out, HC0.out⟩
      case round =>
        obtain ⟨j, hj, rfl, rfl, hown, hB2, hc2⟩ := hrel
        have HO2 := Lib.hid hown
        have HB2 := Lib.hid hB2
        have HC2 := Lib.hid hc2
        clear hown hB2 hc2
        by_cases hlt : j < 8
        · have hq : ((x / 256 ^ j : Nat) : Int) ≤ 18446744073709551615 := by
            have := Nat.div_le_self x (256 ^ j); omega
          have hjb : (j : Int) < 8 := by omega
          obtain ⟨y, hy⟩ : ∃ y : Nat, x / 256 ^ j = y := ⟨_, rfl⟩
          rw [hy] at hq ⊢
          have HM := Lib.hid (show (y : Int) % 256 = ((byteN x j).toNat : Int) by rw [← hy]; exact byteN_mod x j)
          have HD := Lib.hid (show y / 256 = x / 256 ^ (j + 1) by rw [← hy]; exact div_step x j)
          have HLT2 := Lib.hid hlt
          have d0 : wr.cell? ⟨gl, o + k * 2, none⟩ = some (.int .u64 ((8 * i : Nat) : Int)) := HC2.out
          have dj : wr.cell? ⟨g, 8 * i + j, none⟩ = (bvals (bset B0 (8 * i) x j))[8 * i + j]? := HO2.out.cellAt _ (by have := HIx.out; omega)
          have df : wr.frozen? ⟨g, 8 * i + j, none⟩ = false := HO2.out.frozenAt _
          have hbl : (bset B0 (8 * i) x j).length = sz := by rw [bset_len]; exact HBl.out
          have hlb : 8 * i + j < (bvals (bset B0 (8 * i) x j)).length := by rw [bvals_len, hbl]; have := HIx.out; omega
          obtain ⟨z, hz⟩ : ∃ z, (bvals (bset B0 (8 * i) x j))[8 * i + j]? = some z := ⟨_, List.getElem?_eq_getElem hlb⟩
          rw [hz] at dj
          have HW := Lib.hid (show IntKind.i64.wrap ((8 * i : Nat) : Int) = ((8 * i : Nat) : Int) ∧ IntKind.i64.wrap (((8 * i : Nat) : Int) + (j : Int)) = ((8 * i + j : Nat) : Int) from ⟨IntWalk.i64_in _ (by have := HIx.out; omega), by rw [IntWalk.i64_in _ (by have := HIx.out; omega)]; omega⟩)
          have hsz8 : 8 * (i : Int) + 8 ≤ (sz : Int) := by have := HIx.out; omega
          clear hy hlt hbl hlb hz
          go_wp2_with (fail)
          have hs := (HO2.out.stored (8 * i + j) (.int .u8 ((y : Int) % 256))).1
          have hcc := ((Keeps.refl (fun i => i = g) wr).setCell (p := ⟨g, 8 * i + j, none⟩) (.inl rfl) (.int .u8 ((y : Int) % 256))).cell (p := ⟨gl, o + k * 2, none⟩) (World.block_lt_of_cell? wr _ HC2.out) (by have := HGl.out; show ¬ gl = g; omega)
          refine ⟨⟨j + 1, by have := HLT2.out; omega, by go_num, by rw [← HD.out]; rfl, ?_, HB2.out.setCell (p := ⟨g, 8 * i + j, none⟩) (Nat.le_refl _) _, hcc.trans HC2.out⟩, ?_⟩
          · rw [show bset B0 (8 * i) x (j + 1) = (bset B0 (8 * i) x j).set (8 * i + j) (byteN x j) from rfl, bvals_set, ← HM.out]
            exact hs
          · have := HLT2.out; simp [intOf]; omega
        · obtain rfl : j = 8 := by omega
          go_wp2_with (fail)
          go_roundw
          case rel => exact ⟨k + 1, by have := HIx.out; omega, by go_num, by rw [HVs.out]; exact HO2.out, HB2.out⟩
          case measure => have := HIx.out; simp [intOf]; omega
    · obtain rfl : k = K := by omega
      clear hlt
      go_wp2_with (fail)
      go_ret
      have hl2 : (bytesW (vsOf N l k)).length = sz := by rw [bytesW_len, vsOf_len]; exact HSz.out.1
      rw [HG.out]
      refine ⟨_, rfl, ?_, HB.out⟩
      unfold ByB
      rw [hl2]
      exact HO1.out
end Go.Proofs.Ytefgahcadfmmoaa
