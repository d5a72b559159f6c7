/-
 word.Pack,the reference's Pack: contracts.
-/
import Derived.BigQuiet
import Derived.Below
import Derived.Lib.Hide
import Derived.Test.YtodgfbjjjgohgaaGreatChecked
import Derived.Test.YtodgfbjjjgohgaaGreatLiftZ
import Derived.Outline
import Derived.Handy
import Derived.Deep.QuietTactic
import Derived.RegionTactic
import Derived.Laws.BitsAllLaws
import Derived.Laws.ShiftsVarLaws
import Derived.Deep.RegionWith
import Derived.BigRegion
import Derived.Maps.AppendAt
import Derived.Laws.OwnMore
namespace Go.Proofs.YtodgfbjjjgohgaaGreat
open Go.RowKit

/- In the templates a line 'go_class f, F0, (tac)' is written out by fill.py: the walk over such a class. -/
end Go.Proofs.YtodgfbjjjgohgaaGreat
namespace Go.Proofs.YtodgfbjjjgohgaaGreat
open Go.RowKit

def bitN (j : Int) : Nat := if 0 <= j /\ j < 64 then 2 ^ j.toNat else 0
theorem bitN_lt (j : Int) : bitN j < 18446744073709551616 := by
 unfold bitN
 split
 ·rw [show 18446744073709551616 = 2 ^ 64 by rfl];exact Nat.pow_lt_pow_right (by omega) (by omega)
 ·omega
theorem bit_v (j : Int) (w : World) : Calls Tryz.prog 77 #[.int .i64 j] w fun e w' => e = .returned (.int .u64 ((bitN j : Nat) : Int)) /\ w = w' := by
 by_cases h : 0 <= j /\ j < 64
 ·have e : bitN j = 2 ^ j.toNat := if_pos h
  rw [e]
  obtain ⟨n,rfl⟩ : ∃ n : Nat,j = n := ⟨j.toNat,by omega⟩
  have h1 : ¬ (n : Int) < 0 := by omega
  have h2 : ¬ (n : Int) ≥ 64 := by omega
  have h3 : ¬ (64 : Int) <= (n : Int) := by omega
  clear h e
  go_enter Tryz.func77,Tryz.ntmps77
  go_wp2_with (fail)
  go_ret
  refine ⟨?_,rfl⟩
  have hw : IntKind.u64.wrap ((2 : Int) ^ n) = (2 : Int) ^ n := by
   have hp : (2 : Int) ^ n < 2 ^ 64 := Int.pow_lt_pow_of_lt (by decide) (by omega)
   have h0 : (0 : Int) < 2 ^ n := Int.pow_pos (by decide)
   have : IntKind.u64.wrap ((2 : Int) ^ n) = (2 : Int) ^ n % 18446744073709551616 := by simp [IntKind.wrap,IntKind.bits,IntKind.signed]
   rw [this];exact Int.emod_eq_of_lt (by omega) (by simpa using hp)
  show Ending.returned (.int .u64 (IntKind.u64.wrap ((2 : Int) ^ n))) = _
  rw [hw]
 ·have e : bitN j = 0 := if_neg h
  rw [e]
  go_enter Tryz.func77,Tryz.ntmps77
  by_cases h1 : j < 0
  ·go_wp2_with (fail)
   go_ret
   exact ⟨rfl,rfl⟩
  ·have h2 : (64 : Int) <= j := by omega
   go_wp2_with (fail)
   go_ret
   exact ⟨rfl,rfl⟩

theorem bhas_v (m : Nat) (hm : m < 18446744073709551616) (j : Int) (w : World) : Calls Tryz.prog 65 #[.int .u64 m,.int .i64 j] w fun e w' => e = .returned (.bool (decide (m &&& bitN j ≠ 0))) /\ w = w' := by
 have HB := Lib.hid (bit_v j)
 have h1 := u64_and_nat m (bitN j) hm (bitN_lt j)
 generalize bitN j = c at *
 go_enter Tryz.func65,Tryz.ntmps65
 go_wp2_with (go_at_call 77;refine (HB.out _).mono ?_;rintro e w2 ⟨rfl,rfl⟩)
 go_ret
 refine ⟨?_,rfl⟩
 show Ending.returned (.bool ((((m &&& c : Nat) : Int)) != 0)) = _
 by_cases h : m &&& c = 0
 ·rw [h];rfl
 ·have h2 : ¬ (((m &&& c : Nat) : Int) = 0) := by omega
  simp only [bne,beq_eq_false_iff_ne.2 h2,decide_eq_true h,ne_eq];simp
theorem has_bit (m : Nat) (hm : m < 18446744073709551616) (j : Int) : decide (m &&& bitN j ≠ 0) = (decide (0 <= j) && m.testBit j.toNat) := by
 unfold bitN
 by_cases h : 0 <= j /\ j < 64
 ·rw [if_pos h,nat_bit,Nat.testBit_eq_decide_div_mod_eq]
  have h2 : 0 < 2 ^ j.toNat := Nat.pow_pos (by omega)
  have h3 : m / 2 ^ j.toNat % 2 = 0 ∨ m / 2 ^ j.toNat % 2 = 1 := by omega
  rcases h3 with h3 | h3
  ·rw [h3];simp
  ·rw [h3];simp [h.1]
 ·rw [if_neg h]
  by_cases h0 : 0 <= j
  ·have : m.testBit j.toNat = false := Nat.testBit_lt_two_pow (Nat.lt_of_lt_of_le hm (by rw [show 18446744073709551616 = 2 ^ 64 by rfl];exact Nat.pow_le_pow_right (by omega) (by omega)))
   simp [this]
  ·simp [h0]
end Go.Proofs.YtodgfbjjjgohgaaGreat
namespace Go.Proofs.YtodgfbjjjgohgaaGreat
open Go.RowKit

end Go.Proofs.YtodgfbjjjgohgaaGreat
namespace Go.Proofs.YtodgfbjjjgohgaaGreat
open Go.RowKit

structure HeapV (w : World) (b : Nat) (v : Value) (l : List Int) : Prop where
 blk : Blk w b #[v] 142
 row : w.ownsRow 0 39 1 v l.length (l.map (Value.int .u64))
 ne : v.ownBlock ≠ some b
def HStep (b : Nat) (v v' : Value) (w w' : World) : Prop :=
 Keeps (fun k => k = b ∨ v.ownBlock = some k) w w' /\ (v'.ownBlock = v.ownBlock ∨ ∀ g,v'.ownBlock = some g -> w.heap.size <= g)
theorem HStep.refl (b : Nat) (v : Value) (w : World) : HStep b v v w w := ⟨Keeps.refl _ _,.inl rfl⟩
theorem HStep.trans {b : Nat} {v v1 v2 : Value} {w w1 w2 : World} (h : HStep b v v1 w w1) (k : HStep b v1 v2 w1 w2) : HStep b v v2 w w2 := by
 refine ⟨h.1.trans' k.1 (fun i hi hS => ?_),?_⟩
 ·rcases hS with rfl | hS
  ·exact .inl rfl
  ·rcases h.2 with h2 | h2
   ·rw [h2] at hS;exact .inr hS
   ·have := h2 i hS;omega
 ·rcases k.2 with k2 | k2
  ·rcases h.2 with h2 | h2
   ·exact .inl (k2.trans h2)
   ·exact .inr (fun g hg => h2 g (by rw [<- k2];exact hg))
  ·exact .inr (fun g hg => by have := k2 g hg;have := h.1.size;omega)

theorem find_len : ∃ m, Tryz.t146.methods.find? (fun x => x.name == "Len") = some m /\ m.path = #[] /\ m.func = some (119, false) := ⟨_, rfl, rfl, rfl⟩
theorem meth_len (n : Nat) (hn : 0 < n) (w : World) (b : Nat) (v : Value) (h : w.cell? ⟨b, 0, none⟩ = some v) : (method n 146 (.pointer (some ⟨b, 0, none⟩)) "Len").run Tryz.prog w = .ok (119, v) w := by
 obtain ⟨m,h1,h2,h3⟩ := find_len
 obtain ⟨fuel,rfl⟩ : ∃ fuel,n = fuel + 1 := ⟨n - 1,by omega⟩
 unfold method
 simp [go_sem]
 rw [h1]
 simp only [h2,h3,follow]
 have hw : ∀ s : String, (Builtin.ssaWrapNilChk_ #[146] 146 #[.pointer (some ⟨b, 0, none⟩), strVal "", strVal s]).run Tryz.prog w = .ok (.pointer (some ⟨b, 0, none⟩)) w := fun s => rfl
 simp [go_sem,receiverAt,Place.get,hw,h]

theorem find_less : ∃ m, Tryz.t146.methods.find? (fun x => x.name == "Less") = some m /\ m.path = #[] /\ m.func = some (120, false) := ⟨_, rfl, rfl, rfl⟩
theorem meth_less (n : Nat) (hn : 0 < n) (w : World) (b : Nat) (v : Value) (h : w.cell? ⟨b, 0, none⟩ = some v) : (method n 146 (.pointer (some ⟨b, 0, none⟩)) "Less").run Tryz.prog w = .ok (120, v) w := by
 obtain ⟨m,h1,h2,h3⟩ := find_less
 obtain ⟨fuel,rfl⟩ : ∃ fuel,n = fuel + 1 := ⟨n - 1,by omega⟩
 unfold method
 simp [go_sem]
 rw [h1]
 simp only [h2,h3,follow]
 have hw : ∀ s : String, (Builtin.ssaWrapNilChk_ #[146] 146 #[.pointer (some ⟨b, 0, none⟩), strVal "", strVal s]).run Tryz.prog w = .ok (.pointer (some ⟨b, 0, none⟩)) w := fun s => rfl
 simp [go_sem,receiverAt,Place.get,hw,h]

theorem find_swap : ∃ m, Tryz.t146.methods.find? (fun x => x.name == "Swap") = some m /\ m.path = #[] /\ m.func = some (121, false) := ⟨_, rfl, rfl, rfl⟩
theorem meth_swap (n : Nat) (hn : 0 < n) (w : World) (b : Nat) (v : Value) (h : w.cell? ⟨b, 0, none⟩ = some v) : (method n 146 (.pointer (some ⟨b, 0, none⟩)) "Swap").run Tryz.prog w = .ok (121, v) w := by
 obtain ⟨m,h1,h2,h3⟩ := find_swap
 obtain ⟨fuel,rfl⟩ : ∃ fuel,n = fuel + 1 := ⟨n - 1,by omega⟩
 unfold method
 simp [go_sem]
 rw [h1]
 simp only [h2,h3,follow]
 have hw : ∀ s : String, (Builtin.ssaWrapNilChk_ #[146] 146 #[.pointer (some ⟨b, 0, none⟩), strVal "", strVal s]).run Tryz.prog w = .ok (.pointer (some ⟨b, 0, none⟩)) w := fun s => rfl
 simp [go_sem,receiverAt,Place.get,hw,h]

end Go.Proofs.YtodgfbjjjgohgaaGreat
namespace Go.Proofs.YtodgfbjjjgohgaaGreat
open Go.RowKit

def swpL (l : List Int) (i j : Nat) : List Int := (l.set i (l.getD j 0)).set j (l.getD i 0)
theorem swpL_len (l : List Int) (i j : Nat) : (swpL l i j).length = l.length := by simp [swpL]

theorem len_v (v : Value) (n : Nat) (w : World) (hv : ∃ a c,v = .slice a n c) : Calls Tryz.prog 119 #[v] w fun e w' => e = .returned (.int .i64 n) /\ w = w' := by
 obtain ⟨a,c,rfl⟩ := hv
 go_enter Tryz.func119,Tryz.ntmps119
 go_wp2
 go_ret
 exact ⟨rfl,rfl⟩

theorem HeapV.slice {w : World} {b : Nat} {v : Value} {l : List Int} (h : HeapV w b v l) : ∃ a c,v = .slice a l.length c := by
 obtain ⟨_,⟨rfl,h0⟩ | ⟨g,cap,cur,rfl,_⟩⟩ := h.row
 ·exact ⟨none,0,by rw [h0]⟩
 ·exact ⟨_,_,rfl⟩
theorem HeapV.cell {w : World} {b : Nat} {v : Value} {l : List Int} (h : HeapV w b v l) : w.cell? ⟨b,0,none⟩ = some v := by rw [h.blk.cell];rfl
theorem HeapV.pos {w : World} {b : Nat} {v : Value} {l : List Int} (h : HeapV w b v l) (hp : 0 < l.length) :
  ∃ g cap,v = .slice (some ⟨g,0,none⟩) l.length cap /\ g < w.heap.size /\ l.length <= cap /\ cap <= maxLen /\ g ≠ b /\ (∀ i,i < l.length -> w.cell? ⟨g,i,none⟩ = some (.int .u64 (l.getD i 0))) /\ ∀ i,w.frozen? ⟨g,i,none⟩ = false := by
 obtain ⟨g,cap,rfl,_,h2,h3,h4,_,h6,h7⟩ := own_shape h.row hp
 refine ⟨g,cap,rfl,h2,h3,h4,fun e => h.ne (by subst e;rfl),fun i hi => ?_,h7⟩
 rw [h6 i hi];simp [hi]
theorem HeapV.drewN {w : World} {b : Nat} {v : Value} {l : List Int} (h : HeapV w b v l) (q : Nat) : HeapV (w.drewN q) b v l := ⟨h.blk,h.row,h.ne⟩
theorem HStep.drewN {b : Nat} {v v' : Value} {w w' : World} (h : HStep b v v' w w') (q : Nat) : HStep b v v' w (w'.drewN q) := ⟨h.1.drewN q,h.2⟩

theorem less_v (b : Nat) (v : Value) (l : List Int) (i j : Nat) (w : World) (h : HeapV w b v l) (hi : i < l.length) (hj : j < l.length) (hn : l.length <= 1000000) :
  Calls Tryz.prog 120 #[v,.int .i64 i,.int .i64 j] w fun e w' => e = .returned (.bool (decide (l.getD i 0 < l.getD j 0))) /\ ∃ q,w' = w.drewN q := by
 obtain ⟨g,cap,rfl,_,_,_,_,hc,_⟩ := h.pos (by omega)
 have c1 := hc i hi
 have c2 := hc j hj
 generalize l.getD i 0 = x at *
 generalize l.getD j 0 = y at *
 have b1 : (i : Int) < (l.length : Int) := by omega
 have b2 : (j : Int) < (l.length : Int) := by omega
 have b3 : ((i : Int)).toNat = i := by omega
 have b4 : ((j : Int)).toNat = j := by omega
 clear hc h
 go_enter Tryz.func120,Tryz.ntmps120
 go_wp2_with (fail)
 go_quiet (fail)
 go_wp2_with (fail)
 go_ret
 exact ⟨rfl,⟨_,rfl⟩⟩

theorem HeapV.swapped {w : World} {b : Nat} {g cap : Nat} {l : List Int} (h : HeapV w b (.slice (some ⟨g,0,none⟩) l.length cap) l) (i j : Nat) :
  HeapV ((w.setCell ⟨g,i,none⟩ (.int .u64 (l.getD j 0))).setCell ⟨g,j,none⟩ (.int .u64 (l.getD i 0))) b (.slice (some ⟨g,0,none⟩) l.length cap) (swpL l i j) ∧
  HStep b (.slice (some ⟨g,0,none⟩) l.length cap) (.slice (some ⟨g,0,none⟩) l.length cap) w ((w.setCell ⟨g,i,none⟩ (.int .u64 (l.getD j 0))).setCell ⟨g,j,none⟩ (.int .u64 (l.getD i 0))) := by
 have s1 := h.row.stored i (.int .u64 (l.getD j 0))
 have s2 := s1.1.stored j (.int .u64 (l.getD i 0))
 have hgb : b ≠ g := fun e => h.ne (by subst e;rfl)
 refine ⟨⟨(h.blk.other _ _ hgb).other _ _ hgb,?_,h.ne⟩,?_,.inl rfl⟩
 ·have := s2.1
  rw [swpL_len,show (swpL l i j).map (Value.int .u64) = ((l.map (Value.int .u64)).set i (.int .u64 (l.getD j 0))).set j (.int .u64 (l.getD i 0)) by simp [swpL,List.map_set]]
  exact this
 ·exact ((Keeps.refl _ w).setCell (.inl (.inr rfl)) _).setCell (.inl (.inr rfl)) _

set_option maxRecDepth 100000 in
set_option maxHeartbeats 1000000 in
theorem swap_v (b : Nat) (v : Value) (l : List Int) (i j : Nat) (w : World) (h : HeapV w b v l) (hi : i < l.length) (hj : j < l.length) (hn : l.length <= 1000000) :
  Calls Tryz.prog 121 #[v,.int .i64 i,.int .i64 j] w fun e w' => e = .returned (.tuple #[]) /\ HeapV w' b v (swpL l i j) /\ HStep b v v w w' := by
 obtain ⟨g,cap,rfl,_,_,_,_,hc,hf⟩ := h.pos (by omega)
 have SW := Lib.hid (HeapV.swapped h i j)
 have c1 := hc i hi
 have c2 := hc j hj
 generalize l.getD i 0 = x at *
 generalize l.getD j 0 = y at *
 have b1 : (i : Int) < (l.length : Int) := by omega
 have b2 : (j : Int) < (l.length : Int) := by omega
 have b3 : ((i : Int)).toNat = i := by omega
 have b4 : ((j : Int)).toNat = j := by omega
 have f1 := hf i
 have f2 := hf j
 obtain ⟨v',hy'⟩ := cell?_setCell_some (w := w) (p := ⟨g,i,none⟩) (x := .int .u64 y) (q := ⟨g,j,none⟩) (v := .int .u64 y) c2
 clear hc h hf
 go_enter Tryz.func121,Tryz.ntmps121
 go_wp2_with (fail)
 go_region
 all_goals
  go_wp2_with (fail)
  go_end0
  exact ⟨rfl,⟨SW.out.1.blk,SW.out.1.row,SW.out.1.ne⟩,⟨SW.out.2.1.drew,SW.out.2.2⟩⟩
end Go.Proofs.YtodgfbjjjgohgaaGreat
namespace Go.Proofs.YtodgfbjjjgohgaaGreat
open Go.RowKit

theorem withinI_yes (n a b : Int) (h : a <= n /\ n <= b) (w : World) : Calls Tryz.prog 61 #[.int .i64 n,.int .i64 a,.int .i64 b] w fun e w' => e = .returned (.bool true) /\ w = w' := by
 obtain ⟨h1,h2⟩ := h
 go_enter Tryz.func61,Tryz.ntmps61
 go_wp2
 go_ret
 exact ⟨rfl,rfl⟩
theorem withinI_no (n a b : Int) (h : n < a ∨ b < n) (w : World) : Calls Tryz.prog 61 #[.int .i64 n,.int .i64 a,.int .i64 b] w fun e w' => e = .returned (.bool false) /\ w = w' := by
 by_cases h1 : n < a
 ·go_enter Tryz.func61,Tryz.ntmps61
  go_wp2
  go_ret
  exact ⟨rfl,rfl⟩
 ·have h2 : b < n := by omega
  have h3 : decide (n <= b) = false := decide_eq_false (by omega)
  go_enter Tryz.func61,Tryz.ntmps61
  go_wp2
  go_ret
  exact ⟨rfl,rfl⟩
theorem blocks_1 (w : World) : Calls Tryz.prog 43 #[.int .i64 1] w fun e w' => e = .returned (.int .i64 15) /\ Below w.heap.size w w' := by
 go_enter Tryz.func43,Tryz.ntmps43
 go_wp2
 go_ret
 exact ⟨rfl,((Below.refl _ _).alloc (Nat.le_refl _) _).alloc (by simp) _⟩
theorem blocks_2 (w : World) : Calls Tryz.prog 43 #[.int .i64 2] w fun e w' => e = .returned (.int .i64 7) /\ Below w.heap.size w w' := by
 go_enter Tryz.func43,Tryz.ntmps43
 go_wp2
 go_ret
 exact ⟨rfl,((Below.refl _ _).alloc (Nat.le_refl _) _).alloc (by simp) _⟩
theorem header_s (s : Int) (h : 1 <= s /\ s <= 64) (w : World) : Calls Tryz.prog 40 #[.int .i64 s] w fun e w' => e = .returned (.int .u64 (1024 * s)) /\ w = w' := by
 obtain ⟨h1,h2⟩ := h
 go_enter Tryz.func40,Tryz.ntmps40
 go_wp2_with (go_at_call 61;refine (withinI_yes _ _ _ ⟨h1,h2⟩ _).mono ?_;rintro e w1 ⟨rfl,rfl⟩)
 go_ret
 exact ⟨rfl,rfl⟩
/-! . -/
end Go.Proofs.YtodgfbjjjgohgaaGreat
namespace Go.Proofs.YtodgfbjjjgohgaaGreat
open Go.RowKit

end Go.Proofs.YtodgfbjjjgohgaaGreat
namespace Go.Proofs.YtodgfbjjjgohgaaGreat
open Go.RowKit

end Go.Proofs.YtodgfbjjjgohgaaGreat
namespace Go.Proofs.YtodgfbjjjgohgaaGreat
open Go.RowKit

def wd : List UInt8 -> Int
 | [] => 0
 | b :: r => wd r * 256 + (b.toNat : Int)
theorem u8_lt (b : UInt8) : (b.toNat : Int) < 256 := by have := b.toNat_lt;omega
theorem wd_nonneg : ∀ l,0 <= wd l
 | [] => Int.le_refl _
 | b :: r => by unfold wd;have := wd_nonneg r;omega
theorem wd_lt (l : List UInt8) : wd l < ((256 ^ l.length : Nat) : Int) := by
 induction l with
 | nil => decide
 | cons b r ih =>
  unfold wd
  rw [List.length_cons,Nat.pow_succ]
  have := u8_lt b
  omega
def BytesAt (w : World) (g o : Nat) (l : List UInt8) : Prop := ∀ i,(h : i < l.length) -> w.cell? ⟨g,o + i,none⟩ = some (.int .u8 (l[i].toNat : Int))

end Go.Proofs.YtodgfbjjjgohgaaGreat
namespace Go.Proofs.YtodgfbjjjgohgaaGreat
open Go.RowKit

def chunk (l : List UInt8) (i : Nat) : Int := wd ((l.drop (8 * i)).take 8)
theorem Tryz.info22 : (Tryz.prog.info? 25).map (fun i => (i.zero,i.size,i.bytes)) = some (some (.int .u64 0),1,8) := by kernel_rfl

end Go.Proofs.YtodgfbjjjgohgaaGreat
