/-
  word.Pack, the reference's Pack: contracts.
-/
import Derived.BigQuiet
import Derived.Below
import Derived.Lib.Hide
import Derived.Test.YtgmbnoimlffgcaaChecked
import Derived.Test.YtgmbnoimlffgcaaLib
import Derived.Outline
import Derived.Deep.QuietTactic
import Derived.Handy
import Derived.Laws.BitsAllLaws
import Derived.Maps.AppendAt
namespace Go.Proofs.Ytgmbnoimlffgcaa
open Go.RowKit

theorem wp_region_cls {P : Program} {S : Type} (f : S → World) {id : Nat} {Q : Exit → Act → World → Prop} {a : Act} {w : World} {l : List Oper} (hm : P.follows .mixedOrders = true) (hB : Region.lexB .any l.toArray = true)
    (h0 : ∃ x, w.drew = f x) (h : wpQuiet P l.toArray (fun w' => ∃ x, w' = f x) (fun a' => ∀ w', (∃ x, w' = f x) → Q .normal a' w') l a) : (Code.region id l.toArray true).wp P Q a w :=
  wp_region_quiet (C := fun w' => ∃ x, w' = f x) hm hB h0 (by simpa using h)

/-- all worlds that keep what is below a block -/
theorem cls_of (w : World) : ∃ (S : Type) (f : S → World), Nonempty S ∧ (∃ x, w.drew = f x) ∧ (∀ x, Below w.heap.size w (f x)) ∧ (∀ w', Below w.heap.size w w' → ∃ x, w' = f x) :=
  ⟨{w' // Below w.heap.size w w'}, Subtype.val, ⟨⟨w.drew, (Below.refl _ _).drew⟩⟩, ⟨⟨w.drew, (Below.refl _ _).drew⟩, rfl⟩, fun x => x.2, fun w' h => ⟨⟨w', h⟩, rfl⟩⟩

theorem calls_cls {P : Program} {S : Type} {f : S → World} {w : World} {g : FuncId} {args : Array Value} {v : Value} {x : S} (hi : ∀ w', Below w.heap.size w w' → ∃ x, w' = f x) (hB : ∀ x, Below w.heap.size w (f x))
    (h : Calls P g args (f x) fun e w' => e = .returned v ∧ Below (f x).heap.size (f x) w') : Calls P g args (f x) fun e w' => e = .returned v ∧ ∃ y, w' = f y :=
  h.mono fun _ _ ⟨he, hb⟩ => ⟨he, hi _ ((hB x).trans (hb.mono (hB x).size))⟩

/- In the templates a line 'go_class f, F0, (tac)' is written out by fill.py: the walk over such a class. -/
end Go.Proofs.Ytgmbnoimlffgcaa
namespace Go.Proofs.Ytgmbnoimlffgcaa
open Go.RowKit

theorem ret_int {k : IntKind} {a b : Int} (h : a = b) : Ending.returned (.int k a) = .returned (.int k b) := by rw [h]
/-- how many blocks of a class -/
def blkN (c : Int) : Int := if c = 1 then 15 else 7

def slabN (a : Int) : Int := if 1 ≤ a / 1024 ∧ a / 1024 ≤ 64 then a / 1024 else 0
def clsN (n : Int) : Int := if n < 0 then 0 else if n ≤ 56 then 1 else if n ≤ 120 then 2 else 0

def idxC (n : Int) : Int := if n ≤ 56 then 0 else if n ≤ 120 then 1 else -1
end Go.Proofs.Ytgmbnoimlffgcaa
namespace Go.Proofs.Ytgmbnoimlffgcaa
open Go.RowKit

/-- a block of a class begins there -/
def HasBlk (a c : Int) : Prop := ∃ i j : Nat, 1 ≤ i ∧ i ≤ 64 ∧ (j : Int) < blkN c ∧ a = 1024 * (i : Int) + 64 + (j : Int) * (64 * c)

theorem blk_bd (c : Int) (hc : c = 1 ∨ c = 2) (j : Nat) (hj : (j : Int) < blkN c) : 0 ≤ (j : Int) * (64 * c) ∧ (j : Int) * (64 * c) < 960 := by
  unfold blkN at hj
  rcases hc with rfl | rfl
  · rw [if_pos rfl] at hj; omega
  · rw [if_neg (by decide)] at hj; omega
theorem hasBlk_slab {a c : Int} (hc : c = 1 ∨ c = 2) (h : HasBlk a c) : 1 ≤ a / 1024 ∧ a / 1024 ≤ 64 ∧ ∃ j : Nat, (j : Int) < blkN c ∧ a = 1024 * (a / 1024) + 64 + (j : Int) * (64 * c) := by
  obtain ⟨i, j, h1, h2, h3, h4⟩ := h
  have := blk_bd c hc j h3
  have e : a / 1024 = i := by omega
  exact ⟨by omega, by omega, j, h3, by rw [e]; exact h4⟩

def IdxPost (w : World) (a c : Int) (e : Ending) (w' : World) : Prop :=
  ((HasBlk a c ∧ ∃ j, e = .returned (.tuple #[.int .i64 j, .bool true])) ∨ (¬ HasBlk a c ∧ e = .returned (.tuple #[.int .i64 0, .bool false]))) ∧ Below w.heap.size w w'

end Go.Proofs.Ytgmbnoimlffgcaa
namespace Go.Proofs.Ytgmbnoimlffgcaa
open Go.RowKit

def RIdxPost (w : World) (a c : Int) (e : Ending) (w' : World) : Prop :=
  ((HasBlk a c ∧ ∃ j : Nat, e = .returned (.int .i64 j)) ∨ (¬ HasBlk a c ∧ e = .returned (.int .i64 (-1)))) ∧ w = w'

end Go.Proofs.Ytgmbnoimlffgcaa
namespace Go.Proofs.Ytgmbnoimlffgcaa
open Go.RowKit

/-- the word of bytes, the lowest one first -/
def wd : List UInt8 → Int
  | [] => 0
  | b :: r => wd r * 256 + (b.toNat : Int)
theorem u8_lt (b : UInt8) : (b.toNat : Int) < 256 := by have := b.toNat_lt; omega
theorem wd_nonneg : ∀ l, 0 ≤ wd l
  | [] => Int.le_refl _
  | b :: r => by unfold wd; have := wd_nonneg r; omega
theorem wd_lt (l : List UInt8) : wd l < ((256 ^ l.length : Nat) : Int) := by
  induction l with
  | nil => decide
  | cons b r ih =>
    unfold wd
    rw [List.length_cons, Nat.pow_succ]
    have := u8_lt b
    omega
theorem wd_lt7 (l : List UInt8) (h : l.length ≤ 7) : wd l < 72057594037927936 := by
  have h1 := wd_lt l
  have h2 : 256 ^ l.length ≤ 256 ^ 7 := Nat.pow_le_pow_right (n := 256) (by decide) h
  have h3 : 256 ^ 7 = 72057594037927936 := by decide
  rw [h3] at h2
  omega
theorem or_byte (n b : Int) (h0 : 0 ≤ n) (h1 : n < 72057594037927936) (h2 : 0 ≤ b) (h3 : b < 256) : bits BinOp.or IntKind.u64 (n * 256) b = n * 256 + b := by
  obtain ⟨n, rfl⟩ := Int.eq_ofNat_of_zero_le h0
  obtain ⟨b, rfl⟩ := Int.eq_ofNat_of_zero_le h2
  have e : ((n : Int) * 256) = ((n * 256 : Nat) : Int) := by omega
  rw [e, u64_or_nat (n * 256) b (by omega) (by omega)]
  have : n * 256 ||| b = n * 256 + b := by
    have h := Nat.shiftLeft_add_eq_or_of_lt (a := n) (b := b) (i := 8) (by omega)
    rw [Nat.shiftLeft_eq] at h
    exact h.symm
  rw [this]; omega
theorem wd_zeros : ∀ (l : List UInt8) (k : Nat), wd (l ++ List.replicate k 0) = wd l
  | [], k => by
    induction k with
    | zero => rfl
    | succ k ih => rw [List.nil_append, List.replicate_succ]; unfold wd; rw [List.nil_append] at ih; rw [ih]; rfl
  | b :: r, k => by rw [List.cons_append]; unfold wd; rw [wd_zeros r k]
theorem wd_drop (l : List UInt8) (k : Nat) (h : k < l.length) : wd (l.drop k) = wd (l.drop (k + 1)) * 256 + (l[k].toNat : Int) := by
  rw [List.drop_eq_getElem_cons h]; rfl

/-- bytes in memory -/
def BytesAt (w : World) (g o : Nat) (l : List UInt8) : Prop := ∀ i, (h : i < l.length) → w.cell? ⟨g, o + i, none⟩ = some (.int .u8 (l[i].toNat : Int))

end Go.Proofs.Ytgmbnoimlffgcaa
namespace Go.Proofs.Ytgmbnoimlffgcaa
open Go.RowKit

def chunk (l : List UInt8) (i : Nat) : Int := wd ((l.drop (8 * i)).take 8)
def packTo (l : List UInt8) (k : Nat) : List Int := (l.length : Int) :: (List.range k).map (chunk l)
def packW (l : List UInt8) : List Int := packTo l ((l.length + 7) / 8)
theorem packTo_succ (l : List UInt8) (k : Nat) : packTo l (k + 1) = packTo l k ++ [chunk l k] := by
  unfold packTo; rw [List.range_succ, List.map_append]; rfl
theorem packTo_len (l : List UInt8) (k : Nat) : (packTo l k).length = k + 1 := by simp [packTo]

theorem chunk_lt (l : List UInt8) (i : Nat) : 0 ≤ chunk l i := wd_nonneg _

theorem Try.info22 : (Try.prog.info? 23).map (fun i => (i.zero, i.size, i.bytes)) = some (some (.int .u64 0), 1, 8) := by kernel_rfl

theorem ext_take (l : List UInt8) (n : Nat) : (⟨l.toArray⟩ : ByteArray).extract 0 n = ⟨(l.take n).toArray⟩ := by
  apply ByteArray.ext
  rw [ByteArray.data_extract]
  simp
theorem ext_drop (l : List UInt8) (a n : Nat) (h : l.length ≤ n) : (⟨l.toArray⟩ : ByteArray).extract a n = ⟨(l.drop a).toArray⟩ := by
  apply ByteArray.ext
  rw [ByteArray.data_extract]
  apply Array.ext'
  simp
  rw [List.take_of_length_le (by simp; omega)]

end Go.Proofs.Ytgmbnoimlffgcaa
