/-
  slices.Equal of words, word.Unpack: contracts.
-/
import Derived.Test.YticgfnnmjcjnjaaPu
import Derived.Laws.Rows
import Derived.Laws.IdiomStrings
import Derived.Deep.RegionWith
import Derived.StillTactics
namespace Go.Proofs.Yticgfnnmjcjnjaa
open Go.RowKit

def byteN (n : Int) (i : Nat) : UInt8 := UInt8.ofNat (n.toNat / 256 ^ i % 256)
def putB (n : Int) : List UInt8 := (List.range 8).map (byteN n)
def putTo8 (n : Int) (k : Nat) : List UInt8 := (List.range k).map (byteN n) ++ List.replicate (8 - k) 0
theorem putTo8_len (n : Int) (k : Nat) (h : k ≤ 8) : (putTo8 n k).length = 8 := by simp [putTo8]; omega
theorem putTo8_set (n : Int) (k : Nat) (h : k < 8) : (putTo8 n k).set k (byteN n k) = putTo8 n (k + 1) := by
  unfold putTo8
  rw [show 8 - k = (8 - (k + 1)) + 1 by omega, List.replicate_succ, List.set_append_right _ _ (by simp)]
  simp only [List.length_map, List.length_range, Nat.sub_self, List.set_cons_zero, List.range_succ, List.map_append, List.append_assoc, List.map_cons, List.map_nil]
  rfl
theorem byteN_mod (m : Nat) (i : Nat) : ((m / 256 ^ i : Nat) : Int) % 256 = ((byteN m i).toNat : Int) := by
  unfold byteN
  have : (UInt8.ofNat ((m : Int).toNat / 256 ^ i % 256)).toNat = m / 256 ^ i % 256 := by
    rw [UInt8.toNat_ofNat', Int.toNat_natCast]
    exact Nat.mod_eq_of_lt (Nat.mod_lt _ (by decide))
  rw [this]; omega
theorem div_step (m k : Nat) : m / 256 ^ k / 256 = m / 256 ^ (k + 1) := by rw [Nat.div_div_eq_div_mul, Nat.pow_succ]

theorem set8 {wr : World} {b : Nat} {t : TypeId} {B : Nat} {w : World} {v0 v1 v2 v3 v4 v5 v6 v7 : Value} (h : Blk wr b #[v0, v1, v2, v3, v4, v5, v6, v7] t) (hB : Below B w wr) (hb : B ≤ b) :
    Blk ((((((((wr.setCell ⟨b, 0, none⟩ v0).setCell ⟨b, 1, none⟩ v1).setCell ⟨b, 2, none⟩ v2).setCell ⟨b, 3, none⟩ v3).setCell ⟨b, 4, none⟩ v4).setCell ⟨b, 5, none⟩ v5).setCell ⟨b, 6, none⟩ v6).setCell ⟨b, 7, none⟩ v7) b #[v0, v1, v2, v3, v4, v5, v6, v7] t ∧ Below B w ((((((((wr.setCell ⟨b, 0, none⟩ v0).setCell ⟨b, 1, none⟩ v1).setCell ⟨b, 2, none⟩ v2).setCell ⟨b, 3, none⟩ v3).setCell ⟨b, 4, none⟩ v4).setCell ⟨b, 5, none⟩ v5).setCell ⟨b, 6, none⟩ v6).setCell ⟨b, 7, none⟩ v7) := by
  refine ⟨?_, ?_⟩
  · have a0 := h.set 0 v0
    rw [show (#[v0, v1, v2, v3, v4, v5, v6, v7] : Array Value).setIfInBounds 0 v0 = (#[v0, v1, v2, v3, v4, v5, v6, v7] : Array Value) from rfl] at a0
    have a1 := a0.set 1 v1
    rw [show (#[v0, v1, v2, v3, v4, v5, v6, v7] : Array Value).setIfInBounds 1 v1 = (#[v0, v1, v2, v3, v4, v5, v6, v7] : Array Value) from rfl] at a1
    have a2 := a1.set 2 v2
    rw [show (#[v0, v1, v2, v3, v4, v5, v6, v7] : Array Value).setIfInBounds 2 v2 = (#[v0, v1, v2, v3, v4, v5, v6, v7] : Array Value) from rfl] at a2
    have a3 := a2.set 3 v3
    rw [show (#[v0, v1, v2, v3, v4, v5, v6, v7] : Array Value).setIfInBounds 3 v3 = (#[v0, v1, v2, v3, v4, v5, v6, v7] : Array Value) from rfl] at a3
    have a4 := a3.set 4 v4
    rw [show (#[v0, v1, v2, v3, v4, v5, v6, v7] : Array Value).setIfInBounds 4 v4 = (#[v0, v1, v2, v3, v4, v5, v6, v7] : Array Value) from rfl] at a4
    have a5 := a4.set 5 v5
    rw [show (#[v0, v1, v2, v3, v4, v5, v6, v7] : Array Value).setIfInBounds 5 v5 = (#[v0, v1, v2, v3, v4, v5, v6, v7] : Array Value) from rfl] at a5
    have a6 := a5.set 6 v6
    rw [show (#[v0, v1, v2, v3, v4, v5, v6, v7] : Array Value).setIfInBounds 6 v6 = (#[v0, v1, v2, v3, v4, v5, v6, v7] : Array Value) from rfl] at a6
    have a7 := a6.set 7 v7
    rw [show (#[v0, v1, v2, v3, v4, v5, v6, v7] : Array Value).setIfInBounds 7 v7 = (#[v0, v1, v2, v3, v4, v5, v6, v7] : Array Value) from rfl] at a7
    exact a7
  · have b0 := hB.setCell (p := ⟨b, 0, none⟩) hb v0
    have b1 := b0.setCell (p := ⟨b, 1, none⟩) hb v1
    have b2 := b1.setCell (p := ⟨b, 2, none⟩) hb v2
    have b3 := b2.setCell (p := ⟨b, 3, none⟩) hb v3
    have b4 := b3.setCell (p := ⟨b, 4, none⟩) hb v4
    have b5 := b4.setCell (p := ⟨b, 5, none⟩) hb v5
    have b6 := b5.setCell (p := ⟨b, 6, none⟩) hb v6
    have b7 := b6.setCell (p := ⟨b, 7, none⟩) hb v7
    exact b7

end Go.Proofs.Yticgfnnmjcjnjaa
namespace Go.Proofs.Yticgfnnmjcjnjaa
open Go.RowKit

/-- words in memory -/
def WordsAt (w : World) (g o : Nat) (l : List Int) : Prop := ∀ i, (h : i < l.length) → w.cell? ⟨g, o + i, none⟩ = some (.int .u64 l[i])
theorem WordsAt.below {w w' : World} {g o : Nat} {l : List Int} (h : WordsAt w g o l) {B : Nat} (hB : Below B w w') (hg : g < B) : WordsAt w' g o l := fun i hi => (hB.cell (p := ⟨g, o + i, none⟩) hg).trans (h i hi)
def U64s (l : List Int) : Prop := ∀ x ∈ l, 0 ≤ x ∧ x ≤ 18446744073709551615
def bytesW (l : List Int) : List UInt8 := l.flatMap putB
def bvals (m : List UInt8) : List Value := m.map (fun b => Value.int .u8 (b.toNat : Int))
theorem putB_len (n : Int) : (putB n).length = 8 := by simp [putB]
theorem bytesW_len (l : List Int) : (bytesW l).length = 8 * l.length := by
  induction l with
  | nil => rfl
  | cons x r ih => simp only [bytesW, List.flatMap_cons, List.length_append, putB_len, List.length_cons] at ih ⊢; omega
theorem bytesW_snoc (l : List Int) (x : Int) : bytesW (l ++ [x]) = bytesW l ++ putB x := by simp [bytesW]
theorem bvals_len (m : List UInt8) : (bvals m).length = m.length := by simp [bvals]
theorem bvals_one (m : List UInt8) : ∀ u ∈ bvals m, u.oneCell' = true := by
  intro u hu
  obtain ⟨_, _, rfl⟩ := List.mem_map.1 hu
  rfl
theorem bvals_new (w : World) (m : List UInt8) (t : TypeId) : ∀ j u, (bvals m)[j]? = some u → (w.alloc (.cells (bcells m) t)).cell? ((⟨w.heap.size, 0, none⟩ : Addr).add j) = some u := by
  intro j u hj
  have hb := (Blk.new w (bcells m) t).cell j
  have : (⟨w.heap.size, 0, none⟩ : Addr).add j = ⟨w.heap.size, j, none⟩ := by unfold Addr.add; split; (rename_i h; subst h; rfl); simp
  rw [this, hb]
  simpa [bcells, bvals] using hj
theorem putB_lit (n : Int) : ∃ a0 a1 a2 a3 a4 a5 a6 a7 : UInt8, putB n = [a0, a1, a2, a3, a4, a5, a6, a7] := ⟨_, _, _, _, _, _, _, _, rfl⟩
theorem Try.infoB : (Try.prog.info? 5).map (fun i => (i.zero, i.size, i.bytes)) = some (some (.int .u8 0), 1, 1) := by kernel_rfl

end Go.Proofs.Yticgfnnmjcjnjaa
namespace Go.Proofs.Yticgfnnmjcjnjaa
open Go.RowKit

theorem drewN_add (w : World) (a b : Nat) : (w.drewN a).drewN b = w.drewN (a + b) := by simp [World.drewN, Nat.add_assoc]
theorem below_drewN {B : Nat} {a w : World} (h : Below B a w) (n : Nat) : Below B a (w.drewN n) := ⟨h.os, h.tape, h.output, h.size, h.block⟩
theorem ext_eq (a b : List Int) (hl : a.length = b.length) (h : ∀ i, (ha : i < a.length) → a[i] = b[i]'(by omega)) : a = b := List.ext_getElem hl fun i h1 _ => h i h1

/-- a row of words -/
def RowAt (w : World) (v : Value) (l : List Int) : Prop := (l = [] ∧ ∃ p c, v = .slice p 0 c) ∨ (0 < l.length ∧ ∃ g o cap, v = .slice (some ⟨g, o, none⟩) l.length cap ∧ l.length ≤ cap ∧ g < w.heap.size ∧ WordsAt w g o l)
theorem RowAt.of_own {w : World} {base : Nat} {e : TypeId} {v : Value} {l : List Int} (h : w.ownsRow base e 1 v l.length (l.map (Value.int .u64))) : RowAt w v l := by
  rcases own_cases h with ⟨h0, a, c, rfl⟩ | ⟨hp, g, cap, rfl, _, h2, h3, _, h5, _⟩
  · exact .inl ⟨List.eq_nil_of_length_eq_zero h0, a, c, rfl⟩
  · exact .inr ⟨hp, g, 0, cap, rfl, h3, h2, fun i hi => by rw [Nat.zero_add, h5 i hi]; simp [hi]⟩
theorem RowAt.below {w w' : World} {v : Value} {l : List Int} (h : RowAt w v l) (hB : Below w.heap.size w w') : RowAt w' v l := by
  rcases h with h | ⟨h1, g, o, cap, h2, h3, h4, h5⟩
  · exact .inl h
  · exact .inr ⟨h1, g, o, cap, h2, h3, by have := hB.size; omega, h5.below hB h4⟩
/-- the text of words, if they are one's -/
def unpackT (l : List Int) : List UInt8 := (bytesW l.tail).take (l.headD 0).toNat
def unpackOk (l : List Int) : Bool := !l.isEmpty && decide (l.headD 0 ≤ 8 * ((l.length : Int) - 1)) && decide (packW (unpackT l) = l)
def UnpackPost (w : World) (l : List Int) (e : Ending) (w' : World) : Prop :=
  (e = if unpackOk l = true then .returned (.tuple #[.string ⟨(unpackT l).toArray⟩, .int .i64 0]) else .returned (.tuple #[.string ⟨#[]⟩, .int .i64 11])) ∧ Below w.heap.size w w'

end Go.Proofs.Yticgfnnmjcjnjaa
