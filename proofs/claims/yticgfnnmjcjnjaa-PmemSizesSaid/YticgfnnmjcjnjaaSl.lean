/-
  BYTES BEHIND AN ADDRESS; the document's Put: contracts (from the texts of word).
-/
import Derived.Test.YticgfnnmjcjnjaaUn
import Derived.Test.YticgfnnmjcjnjaaRd
import Derived.Laws.CopyOwn
namespace Go.Proofs.Yticgfnnmjcjnjaa
open Go.RowKit
set_option linter.unusedVariables false

theorem set8x {wr : World} {b : Nat} {t : TypeId} {B : Nat} {w : World} {v0 v1 v2 v3 v4 v5 v6 v7 z0 z1 z2 z3 z4 z5 z6 z7 : Value} (h : Blk wr b #[z0, z1, z2, z3, z4, z5, z6, z7] t) (hB : Below B w wr) (hb : B ≤ b) :
    Blk ((((((((wr.setCell ⟨b, 0, none⟩ v0).setCell ⟨b, 1, none⟩ v1).setCell ⟨b, 2, none⟩ v2).setCell ⟨b, 3, none⟩ v3).setCell ⟨b, 4, none⟩ v4).setCell ⟨b, 5, none⟩ v5).setCell ⟨b, 6, none⟩ v6).setCell ⟨b, 7, none⟩ v7) b #[v0, v1, v2, v3, v4, v5, v6, v7] t ∧ Below B w ((((((((wr.setCell ⟨b, 0, none⟩ v0).setCell ⟨b, 1, none⟩ v1).setCell ⟨b, 2, none⟩ v2).setCell ⟨b, 3, none⟩ v3).setCell ⟨b, 4, none⟩ v4).setCell ⟨b, 5, none⟩ v5).setCell ⟨b, 6, none⟩ v6).setCell ⟨b, 7, none⟩ v7) := by
  refine ⟨?_, ?_⟩
  · have a0 := h.set 0 v0
    rw [show (#[z0, z1, z2, z3, z4, z5, z6, z7] : Array Value).setIfInBounds 0 v0 = (#[v0, z1, z2, z3, z4, z5, z6, z7] : Array Value) from rfl] at a0
    have a1 := a0.set 1 v1
    rw [show (#[v0, z1, z2, z3, z4, z5, z6, z7] : Array Value).setIfInBounds 1 v1 = (#[v0, v1, z2, z3, z4, z5, z6, z7] : Array Value) from rfl] at a1
    have a2 := a1.set 2 v2
    rw [show (#[v0, v1, z2, z3, z4, z5, z6, z7] : Array Value).setIfInBounds 2 v2 = (#[v0, v1, v2, z3, z4, z5, z6, z7] : Array Value) from rfl] at a2
    have a3 := a2.set 3 v3
    rw [show (#[v0, v1, v2, z3, z4, z5, z6, z7] : Array Value).setIfInBounds 3 v3 = (#[v0, v1, v2, v3, z4, z5, z6, z7] : Array Value) from rfl] at a3
    have a4 := a3.set 4 v4
    rw [show (#[v0, v1, v2, v3, z4, z5, z6, z7] : Array Value).setIfInBounds 4 v4 = (#[v0, v1, v2, v3, v4, z5, z6, z7] : Array Value) from rfl] at a4
    have a5 := a4.set 5 v5
    rw [show (#[v0, v1, v2, v3, v4, z5, z6, z7] : Array Value).setIfInBounds 5 v5 = (#[v0, v1, v2, v3, v4, v5, z6, z7] : Array Value) from rfl] at a5
    have a6 := a5.set 6 v6
    rw [show (#[v0, v1, v2, v3, v4, v5, z6, z7] : Array Value).setIfInBounds 6 v6 = (#[v0, v1, v2, v3, v4, v5, v6, z7] : Array Value) from rfl] at a6
    have a7 := a6.set 7 v7
    rw [show (#[v0, v1, v2, v3, v4, v5, v6, z7] : Array Value).setIfInBounds 7 v7 = (#[v0, v1, v2, v3, v4, v5, v6, v7] : Array Value) from rfl] at a7
    exact a7
  · have b0 := hB.setCell (p := ⟨b, 0, none⟩) hb v0
    have b1 := b0.setCell (p := ⟨b, 1, none⟩) hb v1
    have b2 := b1.setCell (p := ⟨b, 2, none⟩) hb v2
    have b3 := b2.setCell (p := ⟨b, 3, none⟩) hb v3
    have b4 := b3.setCell (p := ⟨b, 4, none⟩) hb v4
    have b5 := b4.setCell (p := ⟨b, 5, none⟩) hb v5
    have b6 := b5.setCell (p := ⟨b, 6, none⟩) hb v6
    have b7 := b6.setCell (p := ⟨b, 7, none⟩) hb v7
    exact b7

def BAt (w : World) (p : Option Addr) (L : List UInt8) : Prop := ∀ i, i < L.length → ∃ g o, p = some ⟨g, o, none⟩ ∧ g < w.heap.size ∧ w.cell? ⟨g, o + i, none⟩ = some (.int .u8 ((L.getD i 0).toNat : Int))
theorem BAt.below {w w' : World} {p : Option Addr} {L : List UInt8} (h : BAt w p L) (hB : Below w.heap.size w w') : BAt w' p L := fun i hi => by
  obtain ⟨g, o, h1, h2, h3⟩ := h i hi
  exact ⟨g, o, h1, Nat.lt_of_lt_of_le h2 hB.size, (hB.cell (p := ⟨g, o + i, none⟩) h2).trans h3⟩
theorem BAt.reads {w : World} {p : Option Addr} {L : List UInt8} (h : BAt w p L) : Reads w w.heap.size 1 p L.length (bvals L) := by
  refine ⟨by simp [bvals], fun h0 => ?_⟩
  obtain ⟨g, o, rfl, hg, _⟩ := h 0 h0
  refine ⟨_, rfl, hg, fun j u hu => ?_⟩
  have hj : j < L.length := by have := (List.getElem?_eq_some_iff.1 hu).1; simpa [bvals] using this
  obtain ⟨g', o', e, _, hc⟩ := h j hj
  cases e
  have e1 : (⟨g, o, none⟩ : Addr).add j = ⟨g, o + j, none⟩ := by unfold Addr.add; split; (rename_i h; subst h; rfl); rfl
  rw [e1, hc]
  simp [bvals, hj] at hu ⊢
  exact hu
theorem BAt.bytes {w : World} {g o : Nat} {L : List UInt8} (h : BAt w (some ⟨g, o, none⟩) L) : BytesAt w g o L := fun i hi => by
  obtain ⟨g', o', e, _, hc⟩ := h i hi
  cases e
  rw [hc]; simp [hi]
theorem BAt.of_own {w : World} {base : Nat} {e : TypeId} {p : Option Addr} {n c : Nat} {L : List UInt8} (h : w.ownsRow base e 1 (.slice p n c) L.length (bvals L)) : BAt w p L := fun i hi => by
  obtain ⟨g, cap, e1, _, hg, _, _, _, hc, _⟩ := own_shape h (by omega)
  cases e1
  exact ⟨g, 0, rfl, hg, by rw [Nat.zero_add, hc i hi]; simp [bvals, hi]⟩
theorem BAt.of_blk {w : World} {g : Nat} {cur : List Value} {t : TypeId} {L : List UInt8} (h : w.heap[g]? = some (.cells cur.toArray t (0, 0))) (ht : cur.take L.length = bvals L) : BAt w (some ⟨g, 0, none⟩) L := fun i hi => by
  refine ⟨g, 0, rfl, (Array.getElem?_eq_some_iff.1 h).1, ?_⟩
  have hb : Blk w g cur.toArray t := h
  rw [Nat.zero_add, hb.cell]
  have := congrArg (fun l => l[i]?) ht
  simp only [List.getElem?_take_of_lt hi] at this
  simp [this, bvals, hi]

theorem bytes_of {W : World} {a : Option Addr} {xs : List Int} (hwf : ∀ x ∈ xs, (Lit.int .u8 x).wf = true) (hc : 0 < xs.length → ∃ (g o : Nat), a = some ⟨g, o, none⟩ ∧ g < W.heap.size ∧ ∀ i, i < xs.length → W.cell? ⟨g, o + i, none⟩ = some (.int .u8 (xs.getD i 0))) :
    ∃ L : List UInt8, L.length = xs.length ∧ BAt W a L := by
  refine ⟨xs.map (fun x => UInt8.ofNat x.toNat), by simp, fun i hi => ?_⟩
  have hi' : i < xs.length := by simpa using hi
  obtain ⟨g, o, h1, h2, h3⟩ := hc (by omega)
  refine ⟨g, o, h1, h2, ?_⟩
  rw [h3 i hi']
  have hm : xs.getD i 0 ∈ xs := by simp [hi']
  have hb := hwf _ hm
  simp [Lit.wf, IntKind.min, IntKind.max, IntKind.signed, IntKind.bits] at hb
  have e : ((xs.map (fun x => UInt8.ofNat x.toNat)).getD i 0) = UInt8.ofNat (xs.getD i 0).toNat := by simp [hi']
  rw [e]
  have e2 : (UInt8.ofNat (xs.getD i 0).toNat).toNat = (xs.getD i 0).toNat := by
    rw [UInt8.toNat_ofNat']
    exact Nat.mod_eq_of_lt (by simp [hi'] at hb ⊢; omega)
  rw [e2]
  congr 2
  simp [hi'] at hb ⊢
  omega

end Go.Proofs.Yticgfnnmjcjnjaa
