/-
 node.Find, last, At: contracts.
-/
import Derived.Test.YtodgfbjjjgohgaaGreatPlH
import Derived.StillTactics
import Derived.Deep.RegionHeld3
import Derived.Deep.AppendLies
import Derived.WalkSpells
import Derived.BigQuiet
import Derived.Deep.QuietTactic
import Derived.Test.YtodgfbjjjgohgaaGreatPH
namespace Go.Proofs.YtodgfbjjjgohgaaGreat
open Go.RowKit

def plN (n : Nd) : List Nat := (List.range n.len).filter (fun i => n.p i != n.ahead i)
theorem places_eq (n : Nd) : n.places = (plN n).map (fun (i : Nat) => (i : Int)) := by
 unfold Nd.places plc Nd.ents plN
 rw [List.filter_map, List.map_map]
 rfl
theorem plN_len (n : Nd) : (plN n).length <= 8 := by
 have h1 : (plN n).length <= (List.range n.len).length := List.length_filter_le _ _
 have := n.len_le
 simp at h1; omega
def Nd.valid (n : Nd) : List (Int × Int) := (plN n).map (fun i => (n.k i, n.p i))
end Go.Proofs.YtodgfbjjjgohgaaGreat
namespace Go.Proofs.YtodgfbjjjgohgaaGreat
open Go.RowKit

theorem ndLoad {w : World} {b : Nat} {n : Nd} (hb : Blk w b (ndCells n) 46) : ∀ j v, (ndCells n)[j]? = some v -> w.cell? ⟨b, 0 + j, none⟩ = some v := by
 intro j v hv; rw [Nat.zero_add, hb.cell]; exact hv
theorem info27 (n : Nd) : (Tryz.prog.info? 46).map (·.size) = some (ndCells n).size := by rw [ndCells_size]; kernel_rfl
theorem Blk.below {w w' : World} {B b : Nat} {C : Array Value} {t : TypeId} (h : Blk w b C t) (hB : Below B w w') (hb : b < B) : Blk w' b C t := (hB.block b hb).trans h
def Nd.ok (n : Nd) (i : Nat) : Bool := n.p i != n.ahead i

end Go.Proofs.YtodgfbjjjgohgaaGreat
namespace Go.Proofs.YtodgfbjjjgohgaaGreat
open Go.RowKit

/-! . -/
def lastF (t : Nat -> Bool) : Nat -> Int
 | 0 => -1
 | k + 1 => if t k = true then (k : Int) else lastF t k
def Nd.last (n : Nd) (key : Int) : Int := lastF (fun i => n.ok i && decide (n.k i <= key)) n.len
end Go.Proofs.YtodgfbjjjgohgaaGreat
namespace Go.Proofs.YtodgfbjjjgohgaaGreat
open Go.RowKit

end Go.Proofs.YtodgfbjjjgohgaaGreat
namespace Go.Proofs.YtodgfbjjjgohgaaGreat
open Go.RowKit

def eK (l : List (Int × Int)) (i : Nat) : Int := (l.getD i (0, 0)).1
def eP (l : List (Int × Int)) (i : Nat) : Int := (l.getD i (0, 0)).2
def dupAt (l : List (Int × Int)) (i : Nat) : Bool := (List.range i).any (fun j => eP l j == eP l i)
def badAt (lv lo fi : Int) (l : List (Int × Int)) (i : Nat) : Bool :=
 decide (eK l i < lo) || (decide (0 < lv) && (eK l i == lo)) || (decide (0 < i) && decide (eK l i <= eK l (i - 1))) || (eP l i == fi) || dupAt l i
def riseB (lv lo fi : Int) (l : List (Int × Int)) : Bool := (List.range l.length).all (fun i => !badAt lv lo fi l i)

def EntsAt (w : World) (g o : Nat) (l : List (Int × Int)) : Prop :=
 ∀ i, i < l.length -> w.cell? ⟨g, o + i * 2, none⟩ = some (.int .u64 (eK l i)) /\ w.cell? ⟨g, o + i * 2 + 1, none⟩ = some (.int .u64 (eP l i))

theorem EntsAt.lt {w : World} {g o : Nat} {l : List (Int × Int)} (h : EntsAt w g o l) (hn : 0 < l.length) : g < w.heap.size := World.block_lt_of_cell? w ⟨g, o + 0 * 2, none⟩ (h 0 hn).1
theorem ecells_get (l : List (Int × Int)) : ∀ i, i < l.length -> (ecells l)[i * 2]? = some (.int .u64 (eK l i)) /\ (ecells l)[i * 2 + 1]? = some (.int .u64 (eP l i)) := by
 induction l with
 | nil => intro i h; simp at h
 | cons x r ih =>
  intro i h
  cases i with
  | zero => simp [ecells, eK, eP]
  | succ i =>
   have := ih i (by simpa using h)
   have e : ecells (x :: r) = .int .u64 x.1 :: .int .u64 x.2 :: ecells r := by simp [ecells]
   rw [e, show (i + 1) * 2 = i * 2 + 1 + 1 by omega]
   simpa [eK, eP] using this
end Go.Proofs.YtodgfbjjjgohgaaGreat
namespace Go.Proofs.YtodgfbjjjgohgaaGreat
open Go.RowKit

def Nd.mayB (n : Nd) (high : Int) (has : Bool) : Bool :=
 !(decide (n.lv < 0) || decide (15 < n.lv) || (n.fi == 0) || (has && decide (high <= n.lo))) && (decide (n.len <= n.valid.length + 1) && riseB n.lv n.lo n.fi n.valid)

end Go.Proofs.YtodgfbjjjgohgaaGreat
namespace Go.Proofs.YtodgfbjjjgohgaaGreat
open Go.RowKit

end Go.Proofs.YtodgfbjjjgohgaaGreat
namespace Go.Proofs.YtodgfbjjjgohgaaGreat
open Go.RowKit

end Go.Proofs.YtodgfbjjjgohgaaGreat
namespace Go.Proofs.YtodgfbjjjgohgaaGreat
open Go.RowKit

end Go.Proofs.YtodgfbjjjgohgaaGreat
namespace Go.Proofs.YtodgfbjjjgohgaaGreat
open Go.RowKit

end Go.Proofs.YtodgfbjjjgohgaaGreat
namespace Go.Proofs.YtodgfbjjjgohgaaGreat
open Go.RowKit

/-! . -/
theorem plN_mem (n : Nd) (i : Nat) : i ∈ plN n ↔ i < n.len /\ n.ok i = true := by
 unfold plN Nd.ok
 rw [List.mem_filter, List.mem_range]
def plA (n : Nd) (j : Nat) : Nat := (plN n).getD j 0
theorem plA_mem (n : Nd) (j : Nat) (h : j < (plN n).length) : plA n j ∈ plN n := by unfold plA; simp [h]
theorem plA_lt8 (n : Nd) (j : Nat) (h : j < (plN n).length) : plA n j < 8 := by
 have := (plN_mem n _).1 (plA_mem n j h)
 have := n.len_le
 omega
def lastL (n : Nd) (key : Int) (L : List Nat) : Int := L.foldl (fun a i => if n.k i <= key then (i : Int) else a) (-1)
theorem lastL_snoc (n : Nd) (key : Int) (L : List Nat) (i : Nat) : lastL n key (L ++ [i]) = if n.k i <= key then (i : Int) else lastL n key L := by simp [lastL]
theorem lastL_places (n : Nd) (key : Int) : lastL n key (plN n) = n.last key := by
 unfold plN Nd.last
 have : ∀ m, lastL n key ((List.range m).filter (fun i => n.p i != n.ahead i)) = lastF (fun i => n.ok i && decide (n.k i <= key)) m := by
  intro m
  induction m with
  | zero => rfl
  | succ m ih =>
   rw [List.range_succ, List.filter_append]
   unfold lastF
   cases hok : n.ok m with
   | false =>
    have : (n.p m != n.ahead m) = false := hok
    simp [this, ih]
   | true =>
    have : (n.p m != n.ahead m) = true := hok
    rw [List.filter_cons, if_pos this, List.filter_nil, lastL_snoc, ih]
    by_cases hk : n.k m <= key <;> simp [hk]
 exact this n.len
theorem last_ge (n : Nd) (key : Int) : -1 <= n.last key /\ n.last key < n.len := by
 unfold Nd.last
 have : ∀ (t : Nat -> Bool) m, -1 <= lastF t m /\ lastF t m < (m : Int) := by
  intro t m
  induction m with
  | zero => exact ⟨by simp [lastF], by simp [lastF]⟩
  | succ m ih => unfold lastF; split <;> omega
 exact this _ _
theorem lastL_lt (n : Nd) (key : Int) (L : List Nat) (h : ∀ i ∈ L, i < 8) : -1 <= lastL n key L /\ lastL n key L < 8 := by
 unfold lastL
 have : ∀ (L : List Nat) (a : Int), (∀ i ∈ L, i < 8) -> -1 <= a -> a < 8 -> -1 <= L.foldl (fun a i => if n.k i <= key then (i : Int) else a) a /\ L.foldl (fun a i => if n.k i <= key then (i : Int) else a) a < 8 := by
  intro L
  induction L with
  | nil => intro a _ h1 h2; exact ⟨h1, h2⟩
  | cons x r ih =>
   intro a hl h1 h2
   have hx := hl x (by simp)
   rw [List.foldl_cons]
   refine ih _ (fun i hi => hl i (by simp [hi])) ?_ ?_ <;> split <;> omega
 exact this L (-1) h (by decide) (by decide)
theorem plN_take (n : Nd) (k : Nat) (h : k < (plN n).length) : (plN n).take (k + 1) = (plN n).take k ++ [plA n k] := by
 rw [List.take_succ_eq_append_getElem h]
 unfold plA
 simp [h]

/-! . -/
def PlAt (w : World) (g : Nat) (n : Nd) : Prop := ∀ j, j < (plN n).length -> w.cell? ⟨g, j, none⟩ = some (.int .i64 (plA n j : Nat))
theorem own_places {w : World} {base : Nat} {e : TypeId} {v : Value} {n : Nd} (h : w.ownsRow base e 1 v n.places.length (n.places.map (Value.int .i64))) :
  ∃ a c, v = .slice a (plN n).length c /\ (0 < (plN n).length -> ∃ g, a = some ⟨g, 0, none⟩ /\ base <= g /\ g < w.heap.size /\ PlAt w g n) := by
 have hl : n.places.length = (plN n).length := by rw [places_eq, List.length_map]
 obtain ⟨a, m, c, rfl⟩ := own_slice h
 have hm : m = n.places.length := own_len h
 refine ⟨a, c, by rw [hm, hl], fun hp => ?_⟩
 obtain ⟨g, cap, e, hb, hg, _, _, _, hc, _⟩ := own_shape h (by omega)
 cases e
 refine ⟨g, rfl, hb, hg, fun j hj => ?_⟩
 rw [hc j (by omega), places_eq]
 unfold plA
 simp [hj]

set_option maxRecDepth 100000 in
set_option maxHeartbeats 1600000 in
theorem nlast_calls (n : Nd) (key : Int) (w : World) :
  Calls Tryz.prog 90 #[.agg (ndCells n), .int .u64 key] w fun e W' => e = .returned (.int .i64 (n.last key)) /\ Below w.heap.size w W' := by
 have HI := Lib.hid (info27 n)
 have H8 := plN_len n
 have hk1 : Blk (w.alloc (.cells (ndCells n) 46)) w.heap.size (ndCells n) 46 := Blk.new w _ _
 have HK1 := Lib.hid hk1
 have HL := Lib.hid (ndLoad hk1)
 clear hk1
 go_enter Tryz.func90, Tryz.ntmps90
 go_wp2_with (with_reducible refine wpList_load_part (o := ⟨some 8, _, _, _, _, _⟩) rfl 46 _ rfl w.heap.size 0 rfl (ndCells n) _ HL.out Tryz.underlying46 rfl HI.out ?_)
 refine (places_calls n _).mono ?_
 rintro e w1 ⟨v, rfl, hv, hB⟩
 obtain ⟨a, c, rfl, hA⟩ := own_places hv
 have HA := Lib.hid hA
 have HBW := Lib.hid (((Below.refl w.heap.size w).alloc (Nat.le_refl _) (.cells (ndCells n) 46)).trans (hB.mono (by simp <;> omega)))
 have HB1 := Lib.hid (HK1.out.below hB (by simp <;> omega))
 have HLL := Lib.hid (lastL_places n key)
 have HPL := Lib.hid (fun k h => plN_take n k h)
 have HP8 := Lib.hid (fun k h => plA_lt8 n k h)
 have HLT := Lib.hid (fun k => lastL_lt n key ((plN n).take k) (fun i hi => by
  have := (plN_mem n i).1 (List.mem_of_mem_take hi)
  have := n.len_le
  omega))
 have HTL := Lib.hid (List.take_length (l := plN n))
 clear hv hB hA
 obtain ⟨m, hm⟩ : ∃ m, (plN n).length = m := ⟨_, rfl⟩
 rw [hm] at HA H8 HPL HP8 HTL ⊢
 have HM := Lib.hid hm
 clear hm
 go_wp2_with (fail)
 go_loop [5, 11] (fun av iv => ∃ k : Nat, k <= m /\ iv = .int .i64 k /\ av = .int .i64 (lastL n key ((plN n).take k))) (fun _ iv => m - (intOf iv).toNat)
 case atStart => exact ⟨0, Nat.zero_le _, rfl, rfl⟩
 case round =>
  obtain ⟨k, hk, rfl, rfl⟩ := hrel
  by_cases hlt : k < m
  ·obtain ⟨g, rfl, _, hg, hp⟩ := HA.out (by omega)
   have c1 := hp k (by rw [HM.out]; exact hlt)
   have hpk := HP8.out k hlt
   have HS := Lib.hid (HPL.out k hlt)
   have c2 : w1.cell? ⟨w.heap.size, 5 + plA n k, none⟩ = some (.int .u64 (n.k (plA n k))) := by rw [HB1.out.cell, ndCells_k n _ hpk]
   have HSn := Lib.hid (lastL_snoc n key ((plN n).take k) (plA n k))
   obtain ⟨x, hx⟩ : ∃ x, n.k (plA n k) = x := ⟨_, rfl⟩
   rw [hx] at c2 HSn
   generalize plA n k = pk at *
   have q1 : (k : Int) < (m : Int) := by omega
   have q2 : (0 : Int) <= (k : Int) := by omega
   have q3 : ((k : Int)).toNat = k := by omega
   have q4 : (pk : Int) < 8 := by omega
   have q5 : (0 : Int) <= (pk : Int) := by omega
   have q6 : ((pk : Int)).toNat = pk := by omega
   clear hp hx
   by_cases hle : x <= key
   ·have HN : Hid (lastL n key ((plN n).take (k + 1)) = (pk : Int)) := Lib.hid (by rw [HS.out, HSn.out, if_pos hle])
    clear hpk
    go_wp2_with (fail)
    go_round
    case rel => exact ⟨k + 1, by omega, by go_num, by rw [HN.out]⟩
    case measure => simp [intOf]; omega
   ·have HN : Hid (lastL n key ((plN n).take (k + 1)) = lastL n key ((plN n).take k)) := Lib.hid (by rw [HS.out, HSn.out, if_neg hle])
    clear hpk
    go_wp2_with (fail)
    go_round
    case rel => exact ⟨k + 1, by omega, by go_num, by rw [HN.out]⟩
    case measure => simp [intOf]; omega
  ·have hkm : k = m := by omega
   subst hkm
   go_wp2_with (fail)
   go_ret
   exact ⟨congrArg (fun z => Ending.returned (.int .i64 z)) ((congrArg (lastL n key) HTL.out).trans HLL.out), HBW.out⟩

end Go.Proofs.YtodgfbjjjgohgaaGreat
