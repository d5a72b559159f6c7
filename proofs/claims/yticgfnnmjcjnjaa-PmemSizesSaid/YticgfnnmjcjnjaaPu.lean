/-
  value.Puts, the reference's Puts; Words: contracts.
-/
import Derived.BigQuiet
import Derived.Below
import Derived.Lib.Hide
import Derived.Test.YticgfnnmjcjnjaaChecked
import Derived.Test.YticgfnnmjcjnjaaLib
import Derived.Outline
import Derived.Deep.QuietTactic
import Derived.Handy
import Derived.Laws.BitsAllLaws
import Derived.Maps.AppendAt
namespace Go.Proofs.Yticgfnnmjcjnjaa
open Go.RowKit

theorem wp_region_cls {P : Program} {S : Type} (f : S → World) {id : Nat} {Q : Exit → Act → World → Prop} {a : Act} {w : World} {l : List Oper} (hm : P.follows .mixedOrders = true) (hB : Region.lexB .any l.toArray = true)
    (h0 : ∃ x, w.drew = f x) (h : wpQuiet P l.toArray (fun w' => ∃ x, w' = f x) (fun a' => ∀ w', (∃ x, w' = f x) → Q .normal a' w') l a) : (Code.region id l.toArray true).wp P Q a w :=
  wp_region_quiet (C := fun w' => ∃ x, w' = f x) hm hB h0 (by simpa using h)

/-- all worlds that keep what is below a block -/
theorem cls_of (w : World) : ∃ (S : Type) (f : S → World), Nonempty S ∧ (∃ x, w.drew = f x) ∧ (∀ x, Below w.heap.size w (f x)) ∧ (∀ w', Below w.heap.size w w' → ∃ x, w' = f x) :=
  ⟨{w' // Below w.heap.size w w'}, Subtype.val, ⟨⟨w.drew, (Below.refl _ _).drew⟩⟩, ⟨⟨w.drew, (Below.refl _ _).drew⟩, rfl⟩, fun x => x.2, fun w' h => ⟨⟨w', h⟩, rfl⟩⟩

theorem calls_cls {P : Program} {S : Type} {f : S → World} {w : World} {g : FuncId} {args : Array Value} {v : Value} {x : S} (hi : ∀ w', Below w.heap.size w w' → ∃ x, w' = f x) (hB : ∀ x, Below w.heap.size w (f x))
    (h : Calls P g args (f x) fun e w' => e = .returned v ∧ Below (f x).heap.size (f x) w') : Calls P g args (f x) fun e w' => e = .returned v ∧ ∃ y, w' = f y :=
  h.mono fun _ _ ⟨he, hb⟩ => ⟨he, hi _ ((hB x).trans (hb.mono (hB x).size))⟩

/- In the templates a line 'go_class f, F0, (tac)' is written out by fill.py: the walk over such a class. -/
end Go.Proofs.Yticgfnnmjcjnjaa
namespace Go.Proofs.Yticgfnnmjcjnjaa
open Go.RowKit

theorem ret_int {k : IntKind} {a b : Int} (h : a = b) : Ending.returned (.int k a) = .returned (.int k b) := by rw [h]
/-- how many blocks of a class -/
def blkN (c : Int) : Int := if c = 1 then 15 else 7

def slabN (a : Int) : Int := if 1 ≤ a / 1024 ∧ a / 1024 ≤ 64 then a / 1024 else 0
def clsN (n : Int) : Int := if n < 0 then 0 else if n ≤ 56 then 1 else if n ≤ 120 then 2 else 0

def idxC (n : Int) : Int := if n ≤ 56 then 0 else if n ≤ 120 then 1 else -1
end Go.Proofs.Yticgfnnmjcjnjaa
namespace Go.Proofs.Yticgfnnmjcjnjaa
open Go.RowKit

/-- a block of a class begins there -/
def HasBlk (a c : Int) : Prop := ∃ i j : Nat, 1 ≤ i ∧ i ≤ 64 ∧ (j : Int) < blkN c ∧ a = 1024 * (i : Int) + 64 + (j : Int) * (64 * c)

theorem blk_bd (c : Int) (hc : c = 1 ∨ c = 2) (j : Nat) (hj : (j : Int) < blkN c) : 0 ≤ (j : Int) * (64 * c) ∧ (j : Int) * (64 * c) < 960 := by
  unfold blkN at hj
  rcases hc with rfl | rfl
  · rw [if_pos rfl] at hj; omega
  · rw [if_neg (by decide)] at hj; omega
theorem hasBlk_slab {a c : Int} (hc : c = 1 ∨ c = 2) (h : HasBlk a c) : 1 ≤ a / 1024 ∧ a / 1024 ≤ 64 ∧ ∃ j : Nat, (j : Int) < blkN c ∧ a = 1024 * (a / 1024) + 64 + (j : Int) * (64 * c) := by
  obtain ⟨i, j, h1, h2, h3, h4⟩ := h
  have := blk_bd c hc j h3
  have e : a / 1024 = i := by omega
  exact ⟨by omega, by omega, j, h3, by rw [e]; exact h4⟩

def IdxPost (w : World) (a c : Int) (e : Ending) (w' : World) : Prop :=
  ((HasBlk a c ∧ ∃ j, e = .returned (.tuple #[.int .i64 j, .bool true])) ∨ (¬ HasBlk a c ∧ e = .returned (.tuple #[.int .i64 0, .bool false]))) ∧ Below w.heap.size w w'

end Go.Proofs.Yticgfnnmjcjnjaa
namespace Go.Proofs.Yticgfnnmjcjnjaa
open Go.RowKit

def RIdxPost (w : World) (a c : Int) (e : Ending) (w' : World) : Prop :=
  ((HasBlk a c ∧ ∃ j : Nat, e = .returned (.int .i64 j)) ∨ (¬ HasBlk a c ∧ e = .returned (.int .i64 (-1)))) ∧ w = w'

end Go.Proofs.Yticgfnnmjcjnjaa
namespace Go.Proofs.Yticgfnnmjcjnjaa
open Go.RowKit

/-- the word of bytes, the lowest one first -/
def wd : List UInt8 → Int
  | [] => 0
  | b :: r => wd r * 256 + (b.toNat : Int)
theorem u8_lt (b : UInt8) : (b.toNat : Int) < 256 := by have := b.toNat_lt; omega
theorem wd_nonneg : ∀ l, 0 ≤ wd l
  | [] => Int.le_refl _
  | b :: r => by unfold wd; have := wd_nonneg r; omega
theorem wd_lt (l : List UInt8) : wd l < ((256 ^ l.length : Nat) : Int) := by
  induction l with
  | nil => decide
  | cons b r ih =>
    unfold wd
    rw [List.length_cons, Nat.pow_succ]
    have := u8_lt b
    omega
theorem wd_lt7 (l : List UInt8) (h : l.length ≤ 7) : wd l < 72057594037927936 := by
  have h1 := wd_lt l
  have h2 : 256 ^ l.length ≤ 256 ^ 7 := Nat.pow_le_pow_right (n := 256) (by decide) h
  have h3 : 256 ^ 7 = 72057594037927936 := by decide
  rw [h3] at h2
  omega
theorem or_byte (n b : Int) (h0 : 0 ≤ n) (h1 : n < 72057594037927936) (h2 : 0 ≤ b) (h3 : b < 256) : bits BinOp.or IntKind.u64 (n * 256) b = n * 256 + b := by
  obtain ⟨n, rfl⟩ := Int.eq_ofNat_of_zero_le h0
  obtain ⟨b, rfl⟩ := Int.eq_ofNat_of_zero_le h2
  have e : ((n : Int) * 256) = ((n * 256 : Nat) : Int) := by omega
  rw [e, u64_or_nat (n * 256) b (by omega) (by omega)]
  have : n * 256 ||| b = n * 256 + b := by
    have h := Nat.shiftLeft_add_eq_or_of_lt (a := n) (b := b) (i := 8) (by omega)
    rw [Nat.shiftLeft_eq] at h
    exact h.symm
  rw [this]; omega
theorem wd_zeros : ∀ (l : List UInt8) (k : Nat), wd (l ++ List.replicate k 0) = wd l
  | [], k => by
    induction k with
    | zero => rfl
    | succ k ih => rw [List.nil_append, List.replicate_succ]; unfold wd; rw [List.nil_append] at ih; rw [ih]; rfl
  | b :: r, k => by rw [List.cons_append]; unfold wd; rw [wd_zeros r k]
theorem wd_drop (l : List UInt8) (k : Nat) (h : k < l.length) : wd (l.drop k) = wd (l.drop (k + 1)) * 256 + (l[k].toNat : Int) := by
  rw [List.drop_eq_getElem_cons h]; rfl

/-- bytes in memory -/
def BytesAt (w : World) (g o : Nat) (l : List UInt8) : Prop := ∀ i, (h : i < l.length) → w.cell? ⟨g, o + i, none⟩ = some (.int .u8 (l[i].toNat : Int))

end Go.Proofs.Yticgfnnmjcjnjaa
namespace Go.Proofs.Yticgfnnmjcjnjaa
open Go.RowKit

def chunk (l : List UInt8) (i : Nat) : Int := wd ((l.drop (8 * i)).take 8)
def packTo (l : List UInt8) (k : Nat) : List Int := (l.length : Int) :: (List.range k).map (chunk l)
def packW (l : List UInt8) : List Int := packTo l ((l.length + 7) / 8)
theorem packTo_succ (l : List UInt8) (k : Nat) : packTo l (k + 1) = packTo l k ++ [chunk l k] := by
  unfold packTo; rw [List.range_succ, List.map_append]; rfl
theorem packTo_len (l : List UInt8) (k : Nat) : (packTo l k).length = k + 1 := by simp [packTo]

theorem chunk_lt (l : List UInt8) (i : Nat) : 0 ≤ chunk l i := wd_nonneg _

theorem Try.info22 : (Try.prog.info? 35).map (fun i => (i.zero, i.size, i.bytes)) = some (some (.int .u64 0), 1, 8) := by kernel_rfl

theorem ext_take (l : List UInt8) (n : Nat) : (⟨l.toArray⟩ : ByteArray).extract 0 n = ⟨(l.take n).toArray⟩ := by
  apply ByteArray.ext
  rw [ByteArray.data_extract]
  simp
theorem ext_drop (l : List UInt8) (a n : Nat) (h : l.length ≤ n) : (⟨l.toArray⟩ : ByteArray).extract a n = ⟨(l.drop a).toArray⟩ := by
  apply ByteArray.ext
  rw [ByteArray.data_extract]
  apply Array.ext'
  simp
  rw [List.take_of_length_le (by simp; omega)]

end Go.Proofs.Yticgfnnmjcjnjaa
namespace Go.Proofs.Yticgfnnmjcjnjaa
open Go.RowKit

theorem own_below {B : Nat} {e : TypeId} {k : Nat} {v : Value} {n : Nat} {xs : List Value} {w w' : World} (h : w.ownsRow B e k v n xs) (hb : Below w.heap.size w w') : w'.ownsRow B e k v n xs := by
  obtain ⟨hl, h2⟩ := h
  refine ⟨hl, ?_⟩
  rcases h2 with h2 | ⟨g, cap, cur, hv, hB, hh, r⟩
  · exact .inl h2
  · exact .inr ⟨g, cap, cur, hv, hB, (hb.block g (Array.getElem?_eq_some_iff.1 hh).1).trans hh, r⟩

def zero8 : List UInt8 := List.replicate 8 0
def bcells (m : List UInt8) : Array Value := (m.map (fun b => Value.int .u8 (b.toNat : Int))).toArray
theorem bytesAt_blk {w : World} {b : Nat} {m : List UInt8} {t : TypeId} (h : Blk w b (bcells m) t) : BytesAt w b 0 m := fun i hi => by
  rw [Nat.zero_add, h.cell]; simp [bcells, hi]
/-- a part of a text in eight bytes -/
def pad8 (l : List UInt8) (i k : Nat) : List UInt8 := (l.drop i).take k ++ List.replicate (8 - k) 0
theorem pad8_len (l : List UInt8) (i k : Nat) (hk : k ≤ 8) (h : i + k ≤ l.length) : (pad8 l i k).length = 8 := by
  simp [pad8]; omega
theorem pad8_set (l : List UInt8) (i k : Nat) (hk : k < 8) (h : i + k < l.length) : (pad8 l i k).set k (l[i + k]) = pad8 l i (k + 1) := by
  have hl : ((l.drop i).take k).length = k := by simp; omega
  unfold pad8
  rw [show 8 - k = (8 - (k + 1)) + 1 by omega, List.replicate_succ, List.set_append_right _ _ (by omega), hl, Nat.sub_self, List.set_cons_zero]
  have : (l.drop i).take (k + 1) = (l.drop i).take k ++ [l[i + k]] := by
    rw [List.take_succ_eq_append_getElem (by simp; omega)]; simp
  rw [this, List.append_assoc]; rfl
theorem bcells_set (m : List UInt8) (k : Nat) (b : UInt8) : (bcells m).setIfInBounds k (.int .u8 (b.toNat : Int)) = bcells (m.set k b) := by
  simp [bcells]
theorem pad8_wd (l : List UInt8) (i k : Nat) (hk : k ≤ 8) (h : 8 ≤ k ∨ l.length ≤ i + k) : wd (pad8 l i k) = wd ((l.drop i).take 8) := by
  unfold pad8
  rw [wd_zeros]
  by_cases h9 : k = 8
  · rw [h9]
  · rw [List.take_of_length_le (by simp; omega), List.take_of_length_le (by simp; omega)]

end Go.Proofs.Yticgfnnmjcjnjaa
namespace Go.Proofs.Yticgfnnmjcjnjaa
open Go.RowKit

/-- stores as cells -/
def ecells (l : List (Int × Int)) : List Value := l.flatMap (fun e => [Value.int .u64 e.1, Value.int .u64 e.2])
theorem ecells_snoc (l : List (Int × Int)) (e : Int × Int) : ecells (l ++ [e]) = ecells l ++ [.int .u64 e.1, .int .u64 e.2] := by simp [ecells]
theorem ecells_len (l : List (Int × Int)) : (ecells l).length = l.length * 2 := by
  induction l with
  | nil => rfl
  | cons x r ih => simp [ecells] at ih ⊢; omega
theorem cells_two_new (w : World) (x y : Value) (t : TypeId) : ∀ j u, [x, y][j]? = some u → (w.alloc (.cells #[x, y] t)).cell? ((⟨w.heap.size, 0, none⟩ : Addr).add j) = some u := by
  intro j u hj
  match j, hj with
  | 0, hj => simp at hj; subst hj; simp [Addr.add]
  | 1, hj => simp at hj; subst hj; simp [Addr.add]
theorem Try.infoPut : (Try.prog.info? 62).map (fun i => (i.zero, i.size, i.bytes)) = some (some (.agg #[.int .u64 0, .int .u64 0]), 2, 16) := by kernel_rfl

def putTo (base : Int) (l : List Int) (k : Nat) : List (Int × Int) := (List.range k).map (fun (i : Nat) => (base + 8 * (i : Int), l.getD i 0))
theorem putTo_succ (base : Int) (l : List Int) (k : Nat) : putTo base l (k + 1) = putTo base l k ++ [(base + 8 * (k : Int), l.getD k 0)] := by
  unfold putTo; rw [List.range_succ, List.map_append]; rfl
theorem putTo_len (base : Int) (l : List Int) (k : Nat) : (putTo base l k).length = k := by simp [putTo]
def putsL (base : Int) (l : List UInt8) : List (Int × Int) := putTo base (packW l) (packW l).length

def PutsPost (w : World) (base : Int) (l : List UInt8) (e : Ending) (w' : World) : Prop :=
  (if 120 < l.length then e = .returned (.tuple #[.slice none 0 0, .int .i64 10])
   else (¬ HasBlk base (clsN l.length) ∧ e = .returned (.tuple #[.slice none 0 0, .int .i64 2])) ∨
     (HasBlk base (clsN l.length) ∧ ∃ v, e = .returned (.tuple #[v, .int .i64 0]) ∧ w'.ownsRow w.heap.size 62 2 v (putsL base l).length (ecells (putsL base l)))) ∧ Below w.heap.size w w'

theorem cls_12 (n : Nat) (h : n ≤ 120) : clsN n = 1 ∨ clsN n = 2 := by
  unfold clsN
  rw [if_neg (by omega)]
  by_cases h1 : (n : Int) ≤ 56
  · rw [if_pos h1]; exact .inl rfl
  · rw [if_neg h1, if_pos (by omega)]; exact .inr rfl
theorem cls_0 (n : Nat) (h : 120 < n) : clsN n = 0 := by
  unfold clsN
  rw [if_neg (by omega), if_neg (by omega), if_neg (by omega)]
theorem hasBlk_le {a c : Int} (hc : c = 1 ∨ c = 2) (h : HasBlk a c) : 64 ≤ a ∧ a ≤ 70000 := by
  obtain ⟨i, j, h1, h2, h3, h4⟩ := h
  have := blk_bd c hc j h3
  omega
theorem packW_len (l : List UInt8) : (packW l).length = (l.length + 7) / 8 + 1 := by simp [packW, packTo]

/-- how many words a value has -/
def wordsN (n : Int) : Int := if n < 0 ∨ 120 < n then 0 else 1 + (n + 7) / 8
end Go.Proofs.Yticgfnnmjcjnjaa
