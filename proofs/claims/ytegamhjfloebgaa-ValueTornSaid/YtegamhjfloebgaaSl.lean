/-
  BYTES BEHIND AN ADDRESS; the document's Put: contracts (from the texts of word).
-/
import Derived.Test.YtegamhjfloebgaaU
import Derived.Test.YtegamhjfloebgaaUn
import Derived.Test.YtegamhjfloebgaaRd
import Derived.Laws.CopyOwn
namespace Go.Proofs.Ytegamhjfloebgaa
open Go.RowKit
set_option linter.unusedVariables false

theorem set8x {wr : World} {b : Nat} {t : TypeId} {B : Nat} {w : World} {v0 v1 v2 v3 v4 v5 v6 v7 z0 z1 z2 z3 z4 z5 z6 z7 : Value} (h : Blk wr b #[z0, z1, z2, z3, z4, z5, z6, z7] t) (hB : Below B w wr) (hb : B ≤ b) :
    Blk ((((((((wr.setCell ⟨b, 0, none⟩ v0).setCell ⟨b, 1, none⟩ v1).setCell ⟨b, 2, none⟩ v2).setCell ⟨b, 3, none⟩ v3).setCell ⟨b, 4, none⟩ v4).setCell ⟨b, 5, none⟩ v5).setCell ⟨b, 6, none⟩ v6).setCell ⟨b, 7, none⟩ v7) b #[v0, v1, v2, v3, v4, v5, v6, v7] t ∧ Below B w ((((((((wr.setCell ⟨b, 0, none⟩ v0).setCell ⟨b, 1, none⟩ v1).setCell ⟨b, 2, none⟩ v2).setCell ⟨b, 3, none⟩ v3).setCell ⟨b, 4, none⟩ v4).setCell ⟨b, 5, none⟩ v5).setCell ⟨b, 6, none⟩ v6).setCell ⟨b, 7, none⟩ v7) := by
  refine ⟨?_, ?_⟩
  · have a0 := h.set 0 v0
    rw [show (#[z0, z1, z2, z3, z4, z5, z6, z7] : Array Value).setIfInBounds 0 v0 = (#[v0, z1, z2, z3, z4, z5, z6, z7] : Array Value) from rfl] at a0
    have a1 := a0.set 1 v1
    rw [show (#[v0, z1, z2, z3, z4, z5, z6, z7] : Array Value).setIfInBounds 1 v1 = (#[v0, v1, z2, z3, z4, z5, z6, z7] : Array Value) from rfl] at a1
    have a2 := a1.set 2 v2
    rw [show (#[v0, v1, z2, z3, z4, z5, z6, z7] : Array Value).setIfInBounds 2 v2 = (#[v0, v1, v2, z3, z4, z5, z6, z7] : Array Value) from rfl] at a2
    have a3 := a2.set 3 v3
    rw [show (#[v0, v1, v2, z3, z4, z5, z6, z7] : Array Value).setIfInBounds 3 v3 = (#[v0, v1, v2, v3, z4, z5, z6, z7] : Array Value) from rfl] at a3
    have a4 := a3.set 4 v4
    rw [show (#[v0, v1, v2, v3, z4, z5, z6, z7] : Array Value).setIfInBounds 4 v4 = (#[v0, v1, v2, v3, v4, z5, z6, z7] : Array Value) from rfl] at a4
    have a5 := a4.set 5 v5
    rw [show (#[v0, v1, v2, v3, v4, z5, z6, z7] : Array Value).setIfInBounds 5 v5 = (#[v0, v1, v2, v3, v4, v5, z6, z7] : Array Value) from rfl] at a5
    have a6 := a5.set 6 v6
    rw [show (#[v0, v1, v2, v3, v4, v5, z6, z7] : Array Value).setIfInBounds 6 v6 = (#[v0, v1, v2, v3, v4, v5, v6, z7] : Array Value) from rfl] at a6
    have a7 := a6.set 7 v7
    rw [show (#[v0, v1, v2, v3, v4, v5, v6, z7] : Array Value).setIfInBounds 7 v7 = (#[v0, v1, v2, v3, v4, v5, v6, v7] : Array Value) from rfl] at a7
    exact a7
  · have b0 := hB.setCell (p := ⟨b, 0, none⟩) hb v0
    have b1 := b0.setCell (p := ⟨b, 1, none⟩) hb v1
    have b2 := b1.setCell (p := ⟨b, 2, none⟩) hb v2
    have b3 := b2.setCell (p := ⟨b, 3, none⟩) hb v3
    have b4 := b3.setCell (p := ⟨b, 4, none⟩) hb v4
    have b5 := b4.setCell (p := ⟨b, 5, none⟩) hb v5
    have b6 := b5.setCell (p := ⟨b, 6, none⟩) hb v6
    have b7 := b6.setCell (p := ⟨b, 7, none⟩) hb v7
    exact b7

set_option maxRecDepth 100000 in
theorem rput_n (n : Int) (h0 : 0 ≤ n) (hm : n ≤ 18446744073709551615) (w : World) : Calls Try.prog 72 #[.int .u64 n] w fun e w' => e = .returned (.agg (bcells (putB n))) ∧ Below w.heap.size w w' := by
  obtain ⟨m, rfl⟩ := Int.eq_ofNat_of_zero_le h0
  have hm2 : m ≤ 18446744073709551615 := by omega
  go_enter Try.func72, Try.ntmps72
  go_wp2_with (fail)
  go_loopw [0, 4] (fun nv iv wr => ∃ k : Nat, k ≤ 8 ∧ iv = .int .i64 k ∧ nv = .int .u64 ((m / 256 ^ k : Nat) : Int) ∧ Hid (Blk wr (w.heap.size + 1) (bcells (putTo8 m k)) 113) ∧ Hid (Blk wr w.heap.size (bcells (putTo8 0 0)) 113) ∧ Below w.heap.size w wr) (fun _ iv _ => 8 - (intOf iv).toNat)
  case atStart => exact ⟨0, by omega, rfl, by simp, Lib.hid (by have h := Blk.new (w.alloc (.cells (bcells (putTo8 0 0)) 113)) (bcells (putTo8 m 0)) 113; rw [show (w.alloc (.cells (bcells (putTo8 0 0)) 113)).heap.size = w.heap.size + 1 by simp] at h; exact h), Lib.hid ((Blk.new w (bcells (putTo8 0 0)) 113).alloc _), ((Below.refl _ _).alloc (Nat.le_refl _) _).alloc (by simp) _⟩
  case round =>
    obtain ⟨k, hk, rfl, rfl, hk2, hz2, hB⟩ := hrel
    by_cases hlt : k < 8
    · have hc := hk2.out.cell k
      have hf := hk2.out.frozen k
      have hl8 := putTo8_len m k hk
      rw [show (bcells (putTo8 m k))[k]? = some (.int .u8 (((putTo8 m k)[k]'(by omega)).toNat : Int)) by simp [bcells, hl8, hlt]] at hc
      have hq : ((m / 256 ^ k : Nat) : Int) ≤ 18446744073709551615 := by
        have := Nat.div_le_self m (256 ^ k); omega
      obtain ⟨x, hx⟩ : ∃ x : Nat, m / 256 ^ k = x := ⟨_, rfl⟩
      rw [hx] at hq ⊢
      have HX := Lib.hid hx
      clear hx
      have HS := Lib.hid (putTo8_set m k hlt)
      have HM := Lib.hid (byteN_mod m k)
      have HD := Lib.hid (div_step m k)
      have HK3 := Lib.hid (hk2.out.set k (.int .u8 ((byteN m k).toNat : Int)))
      have HZ3 := Lib.hid (hz2.out.other k (.int .u8 ((byteN m k).toNat : Int)) (b' := w.heap.size + 1) (by omega))
      have HB3 := Lib.hid (hB.setCell (p := ⟨w.heap.size + 1, k, none⟩) (by simp) (.int .u8 ((byteN m k).toNat : Int)))
      go_wp2_with (fail)
      go_roundw
      case rel => exact ⟨k + 1, by omega, by go_num, by rw [← HD.out, HX.out]; rfl, Lib.hid (by
        have := HK3.out
        rw [bcells_set, HS.out, ← HM.out, HX.out] at this
        exact this), Lib.hid (by
        have := HZ3.out
        rw [← HM.out, HX.out] at this
        exact this), by
        have := HB3.out
        rw [← HM.out, HX.out] at this
        exact this⟩
      case measure => simp [intOf]; omega
    · have hk8 : k = 8 := by omega
      have hp : putTo8 m k = putB m := by rw [hk8]; unfold putTo8 putB; simp
      rw [hp] at hk2
      have hl8 : (putB (m : Int)).length = 8 := by simp [putB]
      have e8 : bcells (putB m) = #[.int .u8 ((byteN m 0).toNat : Int), .int .u8 ((byteN m 1).toNat : Int), .int .u8 ((byteN m 2).toNat : Int), .int .u8 ((byteN m 3).toNat : Int), .int .u8 ((byteN m 4).toNat : Int), .int .u8 ((byteN m 5).toNat : Int), .int .u8 ((byteN m 6).toNat : Int), .int .u8 ((byteN m 7).toNat : Int)] := rfl
      have E8 := Lib.hid e8
      rw [e8] at hk2
      have c0 := hk2.out.cell 0
      have c1 := hk2.out.cell 1
      have c2 := hk2.out.cell 2
      have c3 := hk2.out.cell 3
      have c4 := hk2.out.cell 4
      have c5 := hk2.out.cell 5
      have c6 := hk2.out.cell 6
      have c7 := hk2.out.cell 7
      simp only [List.getElem?_toArray, List.getElem?_cons_zero, List.getElem?_cons_succ] at c0 c1 c2 c3 c4 c5 c6 c7
      rw [show bcells (putTo8 0 0) = #[.int .u8 0, .int .u8 0, .int .u8 0, .int .u8 0, .int .u8 0, .int .u8 0, .int .u8 0, .int .u8 0] from rfl] at hz2
      have y0 := hz2.out.cell 0
      have y1 := hz2.out.cell 1
      have y2 := hz2.out.cell 2
      have y3 := hz2.out.cell 3
      have y4 := hz2.out.cell 4
      have y5 := hz2.out.cell 5
      have y6 := hz2.out.cell 6
      have y7 := hz2.out.cell 7
      simp only [List.getElem?_toArray, List.getElem?_cons_zero, List.getElem?_cons_succ] at y0 y1 y2 y3 y4 y5 y6 y7
      have hf : ∀ i, wr.frozen? ⟨w.heap.size, i, none⟩ = false := fun i => hz2.out.frozen i
      have HZ := Lib.hid (set8x (v0 := .int .u8 ((byteN m 0).toNat : Int)) (v1 := .int .u8 ((byteN m 1).toNat : Int)) (v2 := .int .u8 ((byteN m 2).toNat : Int)) (v3 := .int .u8 ((byteN m 3).toNat : Int)) (v4 := .int .u8 ((byteN m 4).toNat : Int)) (v5 := .int .u8 ((byteN m 5).toNat : Int)) (v6 := .int .u8 ((byteN m 6).toNat : Int)) (v7 := .int .u8 ((byteN m 7).toNat : Int)) hz2.out hB (Nat.le_refl _))
      clear e8 hp hB hk8
      go_wp2_with (fail)
      obtain ⟨hz, hbz⟩ := HZ.out
      have z0 := hz.cell 0
      have z1 := hz.cell 1
      have z2 := hz.cell 2
      have z3 := hz.cell 3
      have z4 := hz.cell 4
      have z5 := hz.cell 5
      have z6 := hz.cell 6
      have z7 := hz.cell 7
      simp only [List.getElem?_toArray, List.getElem?_cons_zero, List.getElem?_cons_succ] at z0 z1 z2 z3 z4 z5 z6 z7
      rw [E8.out]
      exact bodyPost_ret (v := .agg #[.int .u8 ((byteN m 0).toNat : Int), .int .u8 ((byteN m 1).toNat : Int), .int .u8 ((byteN m 2).toNat : Int), .int .u8 ((byteN m 3).toNat : Int), .int .u8 ((byteN m 4).toNat : Int), .int .u8 ((byteN m 5).toNat : Int), .int .u8 ((byteN m 6).toNat : Int), .int .u8 ((byteN m 7).toNat : Int)])
        (by simp [results, Try.results72, go_sem, z0, z1, z2, z3, z4, z5, z6, z7]) rfl ⟨rfl, hbz⟩
def BAt (w : World) (p : Option Addr) (L : List UInt8) : Prop := ∀ i, i < L.length → ∃ g o, p = some ⟨g, o, none⟩ ∧ g < w.heap.size ∧ w.cell? ⟨g, o + i, none⟩ = some (.int .u8 ((L.getD i 0).toNat : Int))
theorem BAt.below {w w' : World} {p : Option Addr} {L : List UInt8} (h : BAt w p L) (hB : Below w.heap.size w w') : BAt w' p L := fun i hi => by
  obtain ⟨g, o, h1, h2, h3⟩ := h i hi
  exact ⟨g, o, h1, Nat.lt_of_lt_of_le h2 hB.size, (hB.cell (p := ⟨g, o + i, none⟩) h2).trans h3⟩
theorem BAt.reads {w : World} {p : Option Addr} {L : List UInt8} (h : BAt w p L) : Reads w w.heap.size 1 p L.length (bvals L) := by
  refine ⟨by simp [bvals], fun h0 => ?_⟩
  obtain ⟨g, o, rfl, hg, _⟩ := h 0 h0
  refine ⟨_, rfl, hg, fun j u hu => ?_⟩
  have hj : j < L.length := by have := (List.getElem?_eq_some_iff.1 hu).1; simpa [bvals] using this
  obtain ⟨g', o', e, _, hc⟩ := h j hj
  cases e
  have e1 : (⟨g, o, none⟩ : Addr).add j = ⟨g, o + j, none⟩ := by unfold Addr.add; split; (rename_i h; subst h; rfl); rfl
  rw [e1, hc]
  simp [bvals, hj] at hu ⊢
  exact hu
theorem BAt.bytes {w : World} {g o : Nat} {L : List UInt8} (h : BAt w (some ⟨g, o, none⟩) L) : BytesAt w g o L := fun i hi => by
  obtain ⟨g', o', e, _, hc⟩ := h i hi
  cases e
  rw [hc]; simp [hi]
theorem BAt.of_own {w : World} {base : Nat} {e : TypeId} {p : Option Addr} {n c : Nat} {L : List UInt8} (h : w.ownsRow base e 1 (.slice p n c) L.length (bvals L)) : BAt w p L := fun i hi => by
  obtain ⟨g, cap, e1, _, hg, _, _, _, hc, _⟩ := own_shape h (by omega)
  cases e1
  exact ⟨g, 0, rfl, hg, by rw [Nat.zero_add, hc i hi]; simp [bvals, hi]⟩
theorem BAt.of_blk {w : World} {g : Nat} {cur : List Value} {t : TypeId} {L : List UInt8} (h : w.heap[g]? = some (.cells cur.toArray t (0, 0))) (ht : cur.take L.length = bvals L) : BAt w (some ⟨g, 0, none⟩) L := fun i hi => by
  refine ⟨g, 0, rfl, (Array.getElem?_eq_some_iff.1 h).1, ?_⟩
  have hb : Blk w g cur.toArray t := h
  rw [Nat.zero_add, hb.cell]
  have := congrArg (fun l => l[i]?) ht
  simp only [List.getElem?_take_of_lt hi] at this
  simp [this, bvals, hi]

theorem bytes_of {W : World} {a : Option Addr} {xs : List Int} (hwf : ∀ x ∈ xs, (Lit.int .u8 x).wf = true) (hc : 0 < xs.length → ∃ (g o : Nat), a = some ⟨g, o, none⟩ ∧ g < W.heap.size ∧ ∀ i, i < xs.length → W.cell? ⟨g, o + i, none⟩ = some (.int .u8 (xs.getD i 0))) :
    ∃ L : List UInt8, L.length = xs.length ∧ BAt W a L := by
  refine ⟨xs.map (fun x => UInt8.ofNat x.toNat), by simp, fun i hi => ?_⟩
  have hi' : i < xs.length := by simpa using hi
  obtain ⟨g, o, h1, h2, h3⟩ := hc (by omega)
  refine ⟨g, o, h1, h2, ?_⟩
  rw [h3 i hi']
  have hm : xs.getD i 0 ∈ xs := by simp [hi']
  have hb := hwf _ hm
  simp [Lit.wf, IntKind.min, IntKind.max, IntKind.signed, IntKind.bits] at hb
  have e : ((xs.map (fun x => UInt8.ofNat x.toNat)).getD i 0) = UInt8.ofNat (xs.getD i 0).toNat := by simp [hi']
  rw [e]
  have e2 : (UInt8.ofNat (xs.getD i 0).toNat).toNat = (xs.getD i 0).toNat := by
    rw [UInt8.toNat_ofNat']
    exact Nat.mod_eq_of_lt (by simp [hi'] at hb ⊢; omega)
  rw [e2]
  congr 2
  simp [hi'] at hb ⊢
  omega

end Go.Proofs.Ytegamhjfloebgaa
