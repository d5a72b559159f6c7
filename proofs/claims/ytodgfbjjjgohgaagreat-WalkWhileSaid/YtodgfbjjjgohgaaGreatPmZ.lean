/-
 THE MEMORY IN MEMORY (pmem.Mem);its small methods: there,at,Load,Size,Stats,may.
-/
import Derived.Test.YtodgfbjjjgohgaaGreatPrZ
import Derived.Laws.Rows
import Derived.Laws.IdiomStrings
import Derived.Deep.RegionWith
import Derived.StillTactics
import Derived.Deep.DeepCutAuto
import Derived.Test.YtodgfbjjjgohgaaGreatLiftZ
import Derived.OneCell
namespace Go.Proofs.YtodgfbjjjgohgaaGreat
open Go.RowKit

def byteN (n : Int) (i : Nat) : UInt8 := UInt8.ofNat (n.toNat / 256 ^ i % 256)
def putB (n : Int) : List UInt8 := (List.range 8).map (byteN n)
theorem byteN_mod (m : Nat) (i : Nat) : ((m / 256 ^ i : Nat) : Int) % 256 = ((byteN m i).toNat : Int) := by
 unfold byteN
 have : (UInt8.ofNat ((m : Int).toNat / 256 ^ i % 256)).toNat = m / 256 ^ i % 256 := by
  rw [UInt8.toNat_ofNat',Int.toNat_natCast]
  exact Nat.mod_eq_of_lt (Nat.mod_lt _ (by decide))
 rw [this];omega
theorem div_step (m k : Nat) : m / 256 ^ k / 256 = m / 256 ^ (k + 1) := by rw [Nat.div_div_eq_div_mul,Nat.pow_succ]

end Go.Proofs.YtodgfbjjjgohgaaGreat
namespace Go.Proofs.YtodgfbjjjgohgaaGreat
open Go.RowKit

def ecells (l : List (Int × Int)) : List Value := l.flatMap (fun e => [Value.int .u64 e.1,Value.int .u64 e.2])
theorem ecells_snoc (l : List (Int × Int)) (e : Int × Int) : ecells (l ++ [e]) = ecells l ++ [.int .u64 e.1,.int .u64 e.2] := by simp [ecells]
theorem cells_two_new (w : World) (x y : Value) (t : TypeId) : ∀ j u,[x,y][j]? = some u -> (w.alloc (.cells #[x,y] t)).cell? ((⟨w.heap.size,0,none⟩ : Addr).add j) = some u := by
 intro j u hj
 match j,hj with
 | 0,hj => simp at hj;subst hj;simp [Addr.add]
 | 1,hj => simp at hj;subst hj;simp [Addr.add]
theorem Tryz.infoPut : (Tryz.prog.info? 56).map (fun i => (i.zero,i.size,i.bytes)) = some (some (.agg #[.int .u64 0,.int .u64 0]),2,16) := by kernel_rfl

end Go.Proofs.YtodgfbjjjgohgaaGreat
namespace Go.Proofs.YtodgfbjjjgohgaaGreat
open Go.RowKit

def WordsAt (w : World) (g o : Nat) (l : List Int) : Prop := ∀ i,(h : i < l.length) -> w.cell? ⟨g,o + i,none⟩ = some (.int .u64 l[i])
def U64s (l : List Int) : Prop := ∀ x ∈ l,0 <= x /\ x <= 18446744073709551615
def bvals (m : List UInt8) : List Value := m.map (fun b => Value.int .u8 (b.toNat : Int))
theorem putB_len (n : Int) : (putB n).length = 8 := by simp [putB]
end Go.Proofs.YtodgfbjjjgohgaaGreat
namespace Go.Proofs.YtodgfbjjjgohgaaGreat
open Go.RowKit

def RowAt (w : World) (v : Value) (l : List Int) : Prop := (l = [] /\ ∃ p c,v = .slice p 0 c) ∨ (0 < l.length /\ ∃ g o cap,v = .slice (some ⟨g,o,none⟩) l.length cap /\ l.length <= cap /\ g < w.heap.size /\ WordsAt w g o l)
end Go.Proofs.YtodgfbjjjgohgaaGreat
namespace Go.Proofs.YtodgfbjjjgohgaaGreat
open Go.RowKit
set_option linter.unusedVariables false

def putAt (L : List UInt8) (a : Nat) (n : Int) : List UInt8 := L.take a ++ (putB n ++ L.drop (a + 8))
theorem putAt_len {L : List UInt8} {a : Nat} (n : Int) (h : a + 8 <= L.length) : (putAt L a n).length = L.length := by
 unfold putAt
 rw [List.length_append,List.length_append,putB_len,List.length_take,List.length_drop]
 omega
theorem putAt_get {L : List UInt8} {a : Nat} (n : Int) (h : a + 8 <= L.length) (i : Nat) : (putAt L a n)[i]? = if a <= i /\ i < a + 8 then some (byteN n (i - a)) else L[i]? := by
 unfold putAt
 by_cases h1 : i < a
 ·rw [if_neg (by omega),List.getElem?_append_left (by rw [List.length_take];omega),List.getElem?_take_of_lt h1]
 ·rw [List.getElem?_append_right (by rw [List.length_take];omega),List.length_take,Nat.min_eq_left (by omega)]
  by_cases h2 : i < a + 8
  ·rw [if_pos ⟨by omega,h2⟩,List.getElem?_append_left (by rw [putB_len];omega)]
   unfold putB
   rw [List.getElem?_map,List.getElem?_range (by omega)]
   rfl
  ·rw [if_neg (by omega),List.getElem?_append_right (by rw [putB_len];omega),putB_len,List.getElem?_drop]
   congr 1;omega
theorem chunk_ext {L M : List UInt8} {i : Nat} (h : ∀ k,8 * i <= k -> k < 8 * i + 8 -> L[k]? = M[k]?) : chunk L i = chunk M i := by
 unfold chunk
 congr 1
 apply List.ext_getElem?
 intro j
 by_cases hj : j < 8
 ·rw [List.getElem?_take_of_lt hj,List.getElem?_take_of_lt hj,List.getElem?_drop,List.getElem?_drop]
  exact h _ (by omega) (by omega)
 ·rw [List.getElem?_take_eq_none (by omega),List.getElem?_take_eq_none (by omega)]
theorem wd_putBK (x : Int) (h0 : 0 <= x) (h1 : x <= 18446744073709551615) : wd (putB x) = x := by
 obtain ⟨n,rfl⟩ := Int.eq_ofNat_of_zero_le h0
 have key : ∀ (k m : Nat),wd ((List.range k).map (fun i => UInt8.ofNat (m / 256 ^ i % 256))) = ((m % 256 ^ k : Nat) : Int) := by
  intro k
  induction k with
  | zero => intro m;simp [wd,Nat.mod_one]
  | succ k ih =>
   intro m
   rw [List.range_succ_eq_map,List.map_cons,List.map_map]
   have e0 : (UInt8.ofNat (m / 256 ^ 0 % 256)).toNat = m % 256 := by
    rw [Nat.pow_zero,Nat.div_one,UInt8.toNat_ofNat']
    exact Nat.mod_eq_of_lt (Nat.mod_lt _ (by decide))
   show wd ((List.range k).map _) * 256 + ((UInt8.ofNat (m / 256 ^ 0 % 256)).toNat : Int) = _
   rw [e0]
   have e1 : (List.range k).map ((fun i => UInt8.ofNat (m / 256 ^ i % 256)) ∘ Nat.succ) = (List.range k).map (fun i => UInt8.ofNat (m / 256 / 256 ^ i % 256)) := by
    apply List.map_congr_left
    intro i _
    show UInt8.ofNat (m / 256 ^ (i + 1) % 256) = _
    rw [Nat.pow_succ,Nat.mul_comm,<- Nat.div_div_eq_div_mul]
   rw [e1,ih (m / 256)]
   have e2 : m % 256 ^ (k + 1) = m / 256 % 256 ^ k * 256 + m % 256 := by
    rw [Nat.pow_succ,Nat.mul_comm (256 ^ k) 256,Nat.mod_mul];omega
   rw [e2];omega
 have := key 8 n
 have e3 : (256 : Nat) ^ 8 = 18446744073709551616 := by decide
 rw [e3,Nat.mod_eq_of_lt (by omega)] at this
 exact this
theorem chunk_put {L : List UInt8} {j : Nat} {n : Int} (h : 8 * j + 8 <= L.length) (h0 : 0 <= n) (h1 : n <= 18446744073709551615) (i : Nat) : chunk (putAt L (8 * j) n) i = if i = j then n else chunk L i := by
 by_cases e : i = j
 ·subst e
  rw [if_pos rfl]
  unfold chunk
  have : ((putAt L (8 * i) n).drop (8 * i)).take 8 = putB n := by
   unfold putAt
   rw [List.drop_append_of_le_length (by rw [List.length_take];omega),List.drop_take,Nat.sub_self,List.take_zero,List.nil_append,List.take_append_of_le_length (by rw [putB_len];omega),List.take_of_length_le (by rw [putB_len];omega)]
  rw [this]
  exact wd_putBK n h0 h1
 ·rw [if_neg e]
  refine chunk_ext (fun k h2 h3 => ?_)
  rw [putAt_get n h,if_neg (by omega)]
theorem chunk_set {L : List UInt8} {a : Nat} (b : UInt8) {i : Nat} (h : i ≠ a / 8) : chunk (L.set a b) i = chunk L i :=
 chunk_ext (fun k h2 h3 => by rw [List.getElem?_set_ne (by omega)])

/-! . -/
def bcA (L : List UInt8) : Array Value := (bvals L).toArray
theorem bcA_size (L : List UInt8) : (bcA L).size = L.length := by simp [bcA,bvals]
theorem bcA_get (L : List UInt8) (i : Nat) : (bcA L)[i]? = (L[i]?).map (fun b => Value.int .u8 (b.toNat : Int)) := by simp [bcA,bvals]
theorem bcA_set (L : List UInt8) (i : Nat) (b : UInt8) : (bcA L).setIfInBounds i (.int .u8 (b.toNat : Int)) = bcA (L.set i b) := by simp [bcA,bvals]
def putK (L : List UInt8) (a : Nat) (n : Int) : Nat -> List UInt8
 | 0 => L
 | k + 1 => (putK L a n k).set (a + k) (byteN n k)
theorem putK_len (L : List UInt8) (a : Nat) (n : Int) : ∀ k,(putK L a n k).length = L.length
 | 0 => rfl
 | k + 1 => by rw [putK,List.length_set,putK_len L a n k]
theorem putK_get {L : List UInt8} {a : Nat} (n : Int) : ∀ k,a + k <= L.length -> ∀ i,(putK L a n k)[i]? = if a <= i /\ i < a + k then some (byteN n (i - a)) else L[i]?
 | 0,_,i => by rw [putK,if_neg (by omega)]
 | k + 1,h,i => by
  rw [putK]
  by_cases e : i = a + k
  ·subst e
   rw [List.getElem?_set_self (by rw [putK_len];omega),if_pos (by omega),Nat.add_sub_cancel_left]
  ·rw [List.getElem?_set_ne (by omega),putK_get n k (by omega)]
   by_cases h2 : a <= i /\ i < a + k
   ·rw [if_pos h2,if_pos (by omega)]
   ·rw [if_neg h2,if_neg (by omega)]
theorem putK_all {L : List UInt8} {a : Nat} (n : Int) (h : a + 8 <= L.length) : putK L a n 8 = putAt L a n := by
 apply List.ext_getElem?
 intro i
 rw [putK_get n 8 h,putAt_get n h]
def rdK (L : List UInt8) (a : Nat) : Nat -> Int
 | 0 => 0
 | k + 1 => rdK L a k * 256 + ((L.getD (a + (7 - k)) 0).toNat : Int)
theorem rdK_eq (L : List UInt8) (a : Nat) : ∀ k,k <= 8 -> a + 8 <= L.length -> rdK L a k = wd ((L.drop (a + (8 - k))).take k)
 | 0,_,_ => by simp [rdK,wd]
 | k + 1,h,hl => by
  have hd : (L.drop (a + (8 - (k + 1)))).take (k + 1) = L.getD (a + (7 - k)) 0 :: (L.drop (a + (8 - k))).take k := by
   rw [show 8 - (k + 1) = 7 - k by omega,List.drop_eq_getElem_cons (by omega),List.take_succ_cons,show a + (7 - k) + 1 = a + (8 - k) by omega]
   congr 1
   rw [List.getD_eq_getElem?_getD,List.getElem?_eq_getElem (by omega)]
   rfl
  rw [hd,rdK,wd,rdK_eq L a k (by omega) hl]
theorem rdK_all {L : List UInt8} {j : Nat} (hl : 8 * j + 8 <= L.length) : rdK L (8 * j) 8 = chunk L j := by
 rw [rdK_eq L (8 * j) 8 (Nat.le_refl _) hl]
 rfl
theorem rdK_rng (L : List UInt8) (a : Nat) : ∀ k,0 <= rdK L a k /\ rdK L a k < ((256 ^ k : Nat) : Int)
 | 0 => by simp [rdK]
 | k + 1 => by
  have h := rdK_rng L a k
  have hb := (L.getD (a + (7 - k)) 0).toNat_lt
  have e : ((256 ^ (k + 1) : Nat) : Int) = ((256 ^ k : Nat) : Int) * 256 := by rw [Nat.pow_succ];simp
  rw [rdK,e]
  omega
end Go.Proofs.YtodgfbjjjgohgaaGreat
namespace Go.Proofs.YtodgfbjjjgohgaaGreat
open Go.RowKit
attribute [local go_sem] Oper.semAt_some
set_option linter.unusedVariables false

structure ArB (W : World) (ab gb cb : Nat) (C : Array Value) (L : List UInt8) : Prop where
 a : Blk W ab C 31
 c : C[0]? = some (.slice (some ⟨gb,0,none⟩) L.length cb)
 b : Blk W gb (bcA L) 5
 ne : ab ≠ gb
theorem tdiv256 (m : Nat) (h : (m : Int) <= 18446744073709551615) (k : Nat) : IntKind.u64.wrap (((m / 256 ^ k : Nat) : Int).tdiv 256) = ((m / 256 ^ (k + 1) : Nat) : Int) := by
 have e : ((m / 256 ^ k : Nat) : Int).tdiv 256 = ((m / 256 ^ (k + 1) : Nat) : Int) := by
  rw [<- div_step m k];rfl
 have h2 : m / 256 ^ (k + 1) <= m := Nat.div_le_self _ _
 rw [e]
 generalize m / 256 ^ (k + 1) = z at h2
 exact IntWalk.u64_in _ (by omega)
theorem u8_byte (m i : Nat) : IntKind.u8.wrap ((m / 256 ^ i : Nat) : Int) = ((byteN (m : Int) i).toNat : Int) := by
 rw [<- byteN_mod]
 exact IntKind.wrap_u8 _
set_option maxRecDepth 100000 in
set_option maxHeartbeats 4000000 in
theorem bput_v (w : World) (ab gb cb : Nat) (C : Array Value) (L : List UInt8) (a : Nat) (n : Int) (h : ArB w ab gb cb C L) (ha : a + 8 <= L.length) (hl : L.length <= 1000000) (h0 : 0 <= n) (h1 : n <= 18446744073709551615) :
  Calls Tryz.prog 30 #[.pointer (some ⟨ab,0,none⟩),.int .i64 (a : Int),.int .u64 n] w fun e w' => e = .returned (.tuple #[]) /\ ArB w' ab gb cb C (putAt L a n) /\ Keeps (fun i => i = gb) w w' := by
 obtain ⟨m,rfl⟩ := Int.eq_ofNat_of_zero_le h0
 have HH := Lib.hid h
 clear h h0
 go_enter Tryz.func30,Tryz.ntmps30
 go_wp2_with (fail)
 go_loopw [2,6] (fun nv iv wr => ∃ k : Nat,k <= 8 /\ iv = .int .i64 k /\ nv = .int .u64 ((m / 256 ^ k : Nat) : Int) /\ Hid (Blk wr ab C 31) /\ Hid (Blk wr gb (bcA (putK L a m k)) 5) /\ Hid (Keeps (fun i => i = gb) w wr)) (fun _ iv _ => 8 - (intOf iv).toNat)
 case atStart => exact ⟨0,by omega,rfl,by simp,Lib.hid HH.out.a,Lib.hid HH.out.b,Lib.hid (Keeps.refl _ _)⟩
 case round =>
  obtain ⟨k,hk,rfl,rfl,HA,HB,HK⟩ := hrel
  by_cases hlt : k < 8
  ·have b1 : (k : Int) < 8 := by omega
   have c0 : wr.cell? ⟨ab,0,none⟩ = some (.slice (some ⟨gb,0,none⟩) L.length cb) := (HA.out.cell 0).trans HH.out.c
   have hsz : a + k < (bcA (putK L a m k)).size := by rw [bcA_size,putK_len];omega
   obtain ⟨ov,hov⟩ : ∃ ov,(bcA (putK L a m k))[a + k]'hsz = ov := ⟨_,rfl⟩
   have c1 : wr.cell? ⟨gb,a + k,none⟩ = some ov := (HB.out.cell _).trans ((Array.getElem?_eq_getElem hsz).trans (by rw [hov]))
   have f1 : wr.frozen? ⟨gb,a + k,none⟩ = false := HB.out.frozen _
   have hq := u8_byte m k
   have hb := HB.out.set (a + k) (.int .u8 ((byteN (m : Int) k).toNat : Int))
   rw [bcA_set] at hb
   have HB2 := Lib.hid hb
   obtain ⟨by_,hby⟩ : ∃ y : Int,((byteN (m : Int) k).toNat : Int) = y := ⟨_,rfl⟩
   obtain ⟨q,hqq⟩ : ∃ q : Int,((m / 256 ^ k : Nat) : Int) = q := ⟨_,rfl⟩
   rw [hby,hqq] at hq
   rw [hqq]
   obtain ⟨ln,hln⟩ : ∃ ln,L.length = ln := ⟨_,rfl⟩
   rw [hln] at c0
   have hb2 : (a : Int) + (k : Int) < (ln : Int) := by omega
   have hb5 : (a : Int) <= 1000000 := by omega
   have hd : IntKind.u64.wrap (q.tdiv 256) = ((m / 256 ^ (k + 1) : Nat) : Int) := by
    rw [<- hqq];exact tdiv256 m h1 k
   have Hby := Lib.hid hby
   clear hb hov hqq hby hsz
   go_upto_region 4 with (fail)
   rw [<- Hby.out]
   have HA2 := Lib.hid (HA.out.other (a + k) (.int .u8 ((byteN (m : Int) k).toNat : Int)) HH.out.ne)
   have HK2 := Lib.hid (HK.out.setCell (p := ⟨gb,a + k,none⟩) (.inl rfl) (.int .u8 ((byteN (m : Int) k).toNat : Int)))
   have HLt := Lib.hid hlt
   clear c0 c1 f1 hq
   go_wp2_with (fail)
   go_roundw
   case rel => exact ⟨k + 1,HLt.out,by go_num,by simp,HA2,HB2,HK2⟩
   case measure => have := HLt.out;simp [intOf];omega
  ·obtain rfl : k = 8 := by omega
   have HE := Lib.hid (show ArB wr ab gb cb C (putAt L a m) from ⟨HA.out,by rw [putAt_len _ ha];exact HH.out.c,by rw [<- putK_all _ ha];exact HB.out,HH.out.ne⟩)
   clear HB HA
   go_wp2_with (fail)
   go_end0
   exact ⟨rfl,HE.out,HK.out⟩
set_option maxRecDepth 100000 in
set_option maxHeartbeats 4000000 in
theorem bword_v (w : World) (ab gb cb : Nat) (C : Array Value) (L : List UInt8) (a : Nat) (h : ArB w ab gb cb C L) (ha : a + 8 <= L.length) (hl : L.length <= 1000000) :
  Calls Tryz.prog 73 #[.pointer (some ⟨ab,0,none⟩),.int .i64 (a : Int)] w fun e w' => e = .returned (.int .u64 (rdK L a 8)) /\ w = w' := by
 have HH := Lib.hid h
 clear h
 go_enter Tryz.func73,Tryz.ntmps73
 go_wp2_with (fail)
 go_loopw [5,6] (fun nv iv wr => ∃ k : Nat,k <= 8 /\ iv = .int .i64 (7 - (k : Int)) /\ nv = .int .u64 (rdK L a k) /\ w = wr) (fun _ iv _ => (intOf iv + 1).toNat)
 case atStart => exact ⟨0,by omega,by simp,by simp [rdK],rfl⟩
 case round =>
  obtain ⟨k,hk,rfl,rfl,rfl⟩ := hrel
  by_cases hlt : k < 8
  ·have b1 : (0 : Int) <= 7 - (k : Int) := by omega
   have c0 : w.cell? ⟨ab,0,none⟩ = some (.slice (some ⟨gb,0,none⟩) L.length cb) := (HH.out.a.cell 0).trans HH.out.c
   have hgd : L[a + (7 - k)]? = some (L.getD (a + (7 - k)) 0) := by
    rw [List.getD_eq_getElem?_getD,List.getElem?_eq_getElem (by omega)];rfl
   obtain ⟨by_,hby⟩ : ∃ y : UInt8,L.getD (a + (7 - k)) 0 = y := ⟨_,rfl⟩
   rw [hby] at hgd
   have c1 : w.cell? ⟨gb,a + (7 - k),none⟩ = some (.int .u8 (by_.toNat : Int)) := by rw [HH.out.b.cell,bcA_get,hgd];rfl
   have hrn := rdK_rng L a (k + 1)
   have h256 : ((256 ^ (k + 1) : Nat) : Int) <= 18446744073709551616 := by
    have : (256 : Nat) ^ (k + 1) <= 256 ^ 8 := Nat.pow_le_pow_right (by decide) (by omega)
    have e : (256 : Nat) ^ 8 = 18446744073709551616 := by decide
    omega
   have he : rdK L a (k + 1) = rdK L a k * 256 + (by_.toNat : Int) := by rw [rdK,hby]
   have hx0 := (rdK_rng L a k).1
   have hbn := by_.toNat_lt
   have He := Lib.hid he
   rw [he] at hrn
   obtain ⟨x,hx⟩ : ∃ x,rdK L a k = x := ⟨_,rfl⟩
   obtain ⟨y,hy⟩ : ∃ y : Int,(by_.toNat : Int) = y := ⟨_,rfl⟩
   rw [hx,hy] at hrn
   rw [hx] at hx0 ⊢
   rw [hy] at c1
   have hy0 : 0 <= y /\ y < 256 := by rw [<- hy];omega
   have w1 : IntKind.u64.wrap (x * 256) = x * 256 := IntWalk.u64_in _ (by omega)
   have w2 : IntKind.u64.wrap (x * 256 + y) = x * 256 + y := IntWalk.u64_in _ (by omega)
   have w3 : IntKind.u64.wrap y = y := IntWalk.u64_in _ (by omega)
   obtain ⟨ln,hln⟩ : ∃ ln,L.length = ln := ⟨_,rfl⟩
   rw [hln] at c0
   have hb2 : (a : Int) + (7 - (k : Int)) < (ln : Int) := by omega
   have hb5 : (a : Int) <= 1000000 := by omega
   have ht : ((a : Int) + (7 - (k : Int))).toNat = a + (7 - k) := by omega
   have Hxy := Lib.hid (And.intro hx hy)
   clear hgd hrn h256 he hby hx hy hbn
   have HLt := Lib.hid hlt
   have hq : x * 256 + y = rdK L a (k + 1) := by rw [He.out,Hxy.out.1,Hxy.out.2]
   have Hq := Lib.hid hq
   clear hq He
   go_wp2_with (fail)
   go_roundw
   case rel => exact ⟨k + 1,HLt.out,congrArg (Value.int .i64) (by have := HLt.out;omega),by rw [Hq.out],trivial⟩
   case measure => have := HLt.out;simp [intOf];omega
  ·obtain rfl : k = 8 := by omega
   go_wp2_with (fail)
   go_ret
   exact ⟨rfl,rfl⟩
end Go.Proofs.YtodgfbjjjgohgaaGreat
namespace Go.Proofs.YtodgfbjjjgohgaaGreat
open Go.RowKit
set_option linter.unusedVariables false

def memCells (vv vi : Value) (ml : Nat) (lo st fl fe : Int) : Array Value := #[vv,vi,.map (some ml),.int .u64 lo,.int .u64 st,.int .u64 fl,.int .u64 fe]
structure MemB (w : World) (b : Nat) (vs is : List Int) (vv vi : Value) (ml : Nat) (lo st fl fe : Int) : Prop where
 blk : Blk w b (memCells vv vi ml lo st fl fe) 92
 v : w.ownsRow 0 25 1 vv vs.length (vs.map (Value.int .u64))
 i : w.ownsRow 0 25 1 vi is.length (is.map (Value.int .u64))
def MS (b : Nat) (vv vi : Value) : Nat -> Prop := fun k => k = b ∨ vv.ownBlock = some k ∨ vi.ownBlock = some k
theorem own_keeps {S : Nat -> Prop} {w w' : World} {B k : Nat} {e : TypeId} {v : Value} {n : Nat} {xs : List Value} (h : w.ownsRow B e k v n xs) (hk : Keeps S w w') (hs : ∀ i,v.ownBlock = some i -> ¬ S i) : w'.ownsRow B e k v n xs := by
 obtain ⟨hl,h0 | ⟨g,cap,cur,hv,hg,hh,h1⟩⟩ := h
 ·exact ⟨hl,.inl h0⟩
 ·refine ⟨hl,.inr ⟨g,cap,cur,hv,hg,?_,h1⟩⟩
  rw [hk.block g (Array.getElem?_eq_some_iff.1 hh).1 (hs g (by rw [hv];rfl))];exact hh
theorem own_type {w : World} {B k : Nat} {e : TypeId} {v : Value} {n : Nat} {xs : List Value} (h : w.ownsRow B e k v n xs) {i : Nat} (hi : v.ownBlock = some i) : ∃ C : Array Value,w.heap[i]? = some (.cells C e (0,0)) := by
 obtain ⟨hl,⟨rfl,_⟩ | ⟨g,cap,cur,rfl,hg,hh,h1⟩⟩ := h
 ·cases hi
 ·cases hi;exact ⟨cur,hh⟩
theorem own_form {w : World} {B k : Nat} {e : TypeId} {v : Value} {q : Nat} {xs : List Value} (h : w.ownsRow B e k v q xs) : ∃ a c,v = .slice a q c := by
 obtain ⟨_,⟨rfl,rfl⟩ | ⟨g,cap,cur,rfl,_⟩⟩ := h <;> exact ⟨_,_,rfl⟩
theorem ev_tmp {a : Act} {s : Nat} {v : Value} (h : a.tmps[s]?.getD undef = v) : a.eval (.tmp s) = v := by simpa [Act.eval] using h
section
variable {w w' : World} {b : Nat} {vs is : List Int} {vv vi : Value} {ml : Nat} {lo st fl fe : Int}
theorem MemB.kept {S : Nat -> Prop} (h : MemB w b vs is vv vi ml lo st fl fe) (hk : Keeps S w w') (hs : ∀ i,MS b vv vi i -> ¬ S i) : MemB w' b vs is vv vi ml lo st fl fe :=
 ⟨h.blk.kept hk (hs b (.inl rfl)),own_keeps h.v hk (fun i e => hs i (.inr (.inl e))),own_keeps h.i hk (fun i e => hs i (.inr (.inr e)))⟩
theorem MemB.keptN (h : MemB w b vs is vv vi ml lo st fl fe) (hk : Keeps NoB w w') : MemB w' b vs is vv vi ml lo st fl fe := h.kept hk (fun _ _ h => h)
theorem MemB.below (h : MemB w b vs is vv vi ml lo st fl fe) (hB : Below w.heap.size w w') : MemB w' b vs is vv vi ml lo st fl fe := h.keptN (Keeps.of_below' hB)
theorem MemB.c (h : MemB w b vs is vv vi ml lo st fl fe) (j : Nat) : w.cell? ⟨b,j,none⟩ = (memCells vv vi ml lo st fl fe)[j]? := h.blk.cell j
theorem MemB.ne (h : MemB w b vs is vv vi ml lo st fl fe) : vv.ownBlock ≠ some b /\ vi.ownBlock ≠ some b := by
 have hb := h.blk
 unfold Blk at hb
 exact ⟨(fun e => by obtain ⟨C,hC⟩ := own_type h.v e;rw [hb] at hC;cases hC),(fun e => by obtain ⟨C,hC⟩ := own_type h.i e;rw [hb] at hC;cases hC)⟩
theorem MemB.at (h : MemB w b vs is vv vi ml lo st fl fe) {k : Nat} (hk : k < vs.length) : ∃ g c,vv = .slice (some ⟨g,0,none⟩) vs.length c /\ g < w.heap.size /\ vs.length <= maxLen /\ w.cell? ⟨g,k,none⟩ = some (.int .u64 (vs.getD k 0)) := by
 obtain ⟨g,cap,h1,_,h3,h4,h5,_,h7,_⟩ := own_shapeK h.v (by omega)
 refine ⟨g,cap,h1,h3,Nat.le_trans h4 h5,?_⟩
 rw [h7 k (by omega)];simp [hk]
theorem MemB.load (h : MemB w b vs is vv vi ml lo st fl fe) (x : Int) : MemB (w.setCell ⟨b,3,none⟩ (.int .u64 x)) b vs is vv vi ml x st fl fe /\ Keeps (fun k => k = b) w (w.setCell ⟨b,3,none⟩ (.int .u64 x)) := by
 refine ⟨⟨?_,ownsRow_setCell_other h.v h.ne.1 _,ownsRow_setCell_other h.i h.ne.2 _⟩,(Keeps.refl (fun k => k = b) w).setCell (p := ⟨b,3,none⟩) (.inl rfl) _⟩
 have := h.blk.set 3 (.int .u64 x)
 exact this
end
section
variable {P : Program}
theorem run_loadVar_part (w : World) (g off : Nat) (ty : TypeId) (cs : Array Value) (d : TypeDesc) (hc : ∀ j v,cs[j]? = some v -> w.cell? ⟨g,off + j,none⟩ = some v)
  (hu : P.underlying ty = some d) (hd : (match d with | .struct _ | .array _ _ => true | _ => false) = true) (hi : (P.info? ty).map (·.size) = some cs.size) :
  (loadVar ty ⟨g,off,none⟩).run P w = .ok (.agg cs) w := by
 have hl : (loadCells ⟨g,off,none⟩ cs.toList.length).run P w = .ok cs.toList.toArray w :=
  run_loadCells_list (P := P) w ⟨g,off,none⟩ cs.toList (fun j v hv => by
   have hadd : (⟨g,off,none⟩ : Addr).add j = ⟨g,off + j,none⟩ := by unfold Addr.add;split <;> simp_all
   rw [hadd]
   exact hc j v (by simpa using hv))
 cases hq : P.info? ty with
 | none => simp [hq] at hi
 | some i =>
  rw [hq] at hi
  simp at hi
  have hs : (sizeOf ty).run P w = .ok cs.size w := by simp [sizeOf,typeInfo,hq,hi]
  have ha : (isAgg ty).run P w = .ok true w := by
   simp only [isAgg,Sem.run_bind,run_underlying hu,Result.andThen_ok]
   cases d <;> simp_all
  simp at hl
  simp [loadVar,ha,hs,hl,Result.andThen]
end
theorem results_stats {fn : Func} {w : World} {s : Nat} (hr : fn.results = #[.cell s 75]) (tmps : Array Value) (g : Nat) (lo st fl fe : Int) (hs : tmps.getD s undef = .pointer (some ⟨g,0,none⟩)) (h : Blk w g #[.int .u64 lo,.int .u64 st,.int .u64 fl,.int .u64 fe] 75) :
  (results fn tmps).run Tryz.prog w = .ok (.agg #[.int .u64 lo,.int .u64 st,.int .u64 fl,.int .u64 fe]) w := by
 have hl := run_loadVar_part (P := Tryz.prog) w g 0 75 #[.int .u64 lo,.int .u64 st,.int .u64 fl,.int .u64 fe] _ (fun j v hv => by rw [Nat.zero_add,h.cell];exact hv) Tryz.underlying75 rfl (by kernel_rfl)
 have hs' : tmps[s]?.getD undef = .pointer (some ⟨g,0,none⟩) := by rw [<- hs];simp
 simp [results,hr,hs',asAddr,hl]
theorem mthere_v (w : World) (b : Nat) (vs is : List Int) (vv vi : Value) (ml : Nat) (lo st fl fe : Int) (h : MemB w b vs is vv vi ml lo st fl fe) (hp : 0 < vs.length) :
  Calls Tryz.prog 29 #[.pointer (some ⟨b,0,none⟩)] w fun e w' => e = .returned (.bool true) /\ w = w' := by
 obtain ⟨a,c,rfl⟩ := own_form h.v
 have c0 : w.cell? ⟨b,0,none⟩ = some (.slice a vs.length c) := h.c 0
 have b1 : (0 : Int) < (vs.length : Int) := by omega
 clear h
 go_enter Tryz.func29,Tryz.ntmps29
 go_wp2_with (fail)
 go_ret
 exact ⟨rfl,rfl⟩
def atE (n : Nat) (a : Int) : Int := if a % 8 ≠ 0 ∨ (n : Int) <= a / 8 then 3 else 0
theorem mat_v (w : World) (b : Nat) (vs is : List Int) (vv vi : Value) (ml : Nat) (lo st fl fe : Int) (h : MemB w b vs is vv vi ml lo st fl fe) (hp : 0 < vs.length) (hn : vs.length <= 1000000) (a : Int) (h0 : 0 <= a) (h1 : a <= 18446744073709551615) :
  Calls Tryz.prog 27 #[.pointer (some ⟨b,0,none⟩),.int .u64 a] w fun e w' => e = .returned (.int .i64 (atE vs.length a)) /\ w = w' := by
 have HTh := Lib.hid (mthere_v w b vs is vv vi ml lo st fl fe h hp)
 obtain ⟨av,c,rfl⟩ := own_form h.v
 have c0 : w.cell? ⟨b,0,none⟩ = some (.slice av vs.length c) := h.c 0
 clear h
 by_cases hm : a % 8 = 0
 ·have e1 : (a % 8 == 0) = true := beq_iff_eq.2 hm
  have e1' : (a % 8 != 0) = false := by rw [bne,e1];rfl
  by_cases hl : (vs.length : Int) <= a / 8
  ·have HR := Lib.hid (show atE vs.length a = 3 by unfold atE;rw [if_pos (.inr hl)])
   have b1 : decide ((vs.length : Int) <= a / 8) = true := decide_eq_true hl
   clear hm
   go_enter Tryz.func27,Tryz.ntmps27
   go_wp2_with (fail)
   refine HTh.out.mono ?_
   rintro e w' ⟨rfl,rfl⟩
   go_wp2_with (fail)
   go_ret
   exact ⟨by rw [HR.out];rfl,rfl⟩
  ·have HR := Lib.hid (show atE vs.length a = 0 by unfold atE;rw [if_neg (by omega)])
   have b1 : decide ((vs.length : Int) <= a / 8) = false := decide_eq_false hl
   clear hm
   go_enter Tryz.func27,Tryz.ntmps27
   go_wp2_with (fail)
   refine HTh.out.mono ?_
   rintro e w' ⟨rfl,rfl⟩
   go_wp2_with (fail)
   go_ret
   exact ⟨by rw [HR.out];rfl,rfl⟩
 ·have HR := Lib.hid (show atE vs.length a = 3 by unfold atE;rw [if_pos (.inl hm)])
  have e1 : (a % 8 == 0) = false := beq_eq_false_iff_ne.2 hm
  have e1' : (a % 8 != 0) = true := bne_iff_ne.2 hm
  clear hm
  go_enter Tryz.func27,Tryz.ntmps27
  go_wp2_with (fail)
  refine HTh.out.mono ?_
  rintro e w' ⟨rfl,rfl⟩
  go_wp2_with (fail)
  go_ret
  exact ⟨by rw [HR.out];rfl,rfl⟩
theorem mload_no (w : World) (b : Nat) (vs is : List Int) (vv vi : Value) (ml : Nat) (lo st fl fe : Int) (h : MemB w b vs is vv vi ml lo st fl fe) (hp : 0 < vs.length) (hn : vs.length <= 1000000) (a : Int) (h0 : 0 <= a) (h1 : a <= 18446744073709551615) (he : atE vs.length a = 3) :
  Calls Tryz.prog 52 #[.pointer (some ⟨b,0,none⟩),.int .u64 a] w fun e w' => e = .returned (.tuple #[.int .u64 0,.int .i64 3]) /\ w = w' := by
 have HA := Lib.hid (mat_v w b vs is vv vi ml lo st fl fe h hp hn a h0 h1)
 rw [he] at HA
 clear h
 go_enter Tryz.func52,Tryz.ntmps52
 go_wp2_with (fail)
 refine HA.out.mono ?_
 rintro e w' ⟨rfl,rfl⟩
 go_wp2_with (fail)
 go_ret2
 exact ⟨rfl,rfl⟩
theorem atE_zero {n : Nat} {a : Int} (h : atE n a = 0) : a % 8 = 0 /\ a / 8 < (n : Int) := by
 unfold atE at h
 split at h
 ·cases h
 ·omega
theorem atE_or (n : Nat) (a : Int) : atE n a = 0 ∨ atE n a = 3 := by
 unfold atE;split
 ·exact .inr rfl
 ·exact .inl rfl
theorem mload_yes (w : World) (b : Nat) (vs is : List Int) (vv vi : Value) (ml : Nat) (lo st fl fe : Int) (h : MemB w b vs is vv vi ml lo st fl fe) (hp : 0 < vs.length) (hn : vs.length <= 1000000) (a : Int) (h0 : 0 <= a) (h1 : a <= 18446744073709551615) (he : atE vs.length a = 0) :
  Calls Tryz.prog 52 #[.pointer (some ⟨b,0,none⟩),.int .u64 a] w fun e w' => e = .returned (.tuple #[.int .u64 (vs.getD (a / 8).toNat 0),.int .i64 0]) /\ MemB w' b vs is vv vi ml (IntKind.u64.wrap (lo + 1)) st fl fe /\ Keeps (fun k => k = b) w w' := by
 have HA := Lib.hid (mat_v w b vs is vv vi ml lo st fl fe h hp hn a h0 h1)
 rw [he] at HA
 obtain ⟨m1,m2⟩ := atE_zero he
 obtain ⟨g,c,rfl,hg,hm,d0⟩ := h.at (k := (a / 8).toNat) (by omega)
 have c0 : w.cell? ⟨b,0,none⟩ = some (.slice (some ⟨g,0,none⟩) vs.length c) := h.c 0
 have c3 : w.cell? ⟨b,3,none⟩ = some (.int .u64 lo) := h.c 3
 have f3 : w.frozen? ⟨b,3,none⟩ = false := h.blk.frozen 3
 have hgb : g ≠ b := fun e => h.ne.1 (by rw [<- e];rfl)
 have HL := Lib.hid (h.load (IntKind.u64.wrap (lo + 1)))
 have b1 : (0 : Int) <= a / 8 := by omega
 obtain ⟨x,hx⟩ : ∃ x,vs.getD (a / 8).toNat 0 = x := ⟨_,rfl⟩
 rw [hx] at d0 ⊢
 unfold maxLen at hm
 clear h he hx
 go_enter Tryz.func52,Tryz.ntmps52
 go_wp2_with (fail)
 refine HA.out.mono ?_
 rintro e w' ⟨rfl,rfl⟩
 go_wp2_with (fail)
 go_ret2
 exact ⟨rfl,HL.out.1,HL.out.2⟩
theorem msize_v (w : World) (b : Nat) (vs is : List Int) (vv vi : Value) (ml : Nat) (lo st fl fe : Int) (h : MemB w b vs is vv vi ml lo st fl fe) (hp : 0 < vs.length) (hn : vs.length <= 1000000) :
  Calls Tryz.prog 48 #[.pointer (some ⟨b,0,none⟩)] w fun e w' => e = .returned (.int .i64 (8 * (vs.length : Int))) /\ w = w' := by
 have HTh := Lib.hid (mthere_v w b vs is vv vi ml lo st fl fe h hp)
 obtain ⟨av,c,rfl⟩ := own_form h.v
 have c0 : w.cell? ⟨b,0,none⟩ = some (.slice av vs.length c) := h.c 0
 clear h
 go_enter Tryz.func48,Tryz.ntmps48
 go_wp2_with (fail)
 refine HTh.out.mono ?_
 rintro e w' ⟨rfl,rfl⟩
 go_wp2_with (fail)
 go_ret
 exact ⟨rfl,rfl⟩
def statCells (lo st fl fe : Int) : Array Value := #[.int .u64 lo,.int .u64 st,.int .u64 fl,.int .u64 fe]
theorem mstats_v (w : World) (b : Nat) (vs is : List Int) (vv vi : Value) (ml : Nat) (lo st fl fe : Int) (h : MemB w b vs is vv vi ml lo st fl fe) (hp : 0 < vs.length) :
  Calls Tryz.prog 20 #[.pointer (some ⟨b,0,none⟩)] w fun e w' => e = .returned (.agg (statCells lo st fl fe)) /\ Below w.heap.size w w' := by
 have hB : Below w.heap.size w (w.alloc (.cells (statCells 0 0 0 0) 75)) := (Below.refl _ _).alloc (Nat.le_refl _) _
 have HTh := Lib.hid (mthere_v _ b vs is vv vi ml lo st fl fe (h.below hB) hp)
 have c3 : w.cell? ⟨b,3,none⟩ = some (.int .u64 lo) := h.c 3
 have c4 : w.cell? ⟨b,4,none⟩ = some (.int .u64 st) := h.c 4
 have c5 : w.cell? ⟨b,5,none⟩ = some (.int .u64 fl) := h.c 5
 have c6 : w.cell? ⟨b,6,none⟩ = some (.int .u64 fe) := h.c 6
 have hlt := h.blk.lt
 clear h
 unfold statCells at *
 go_enter Tryz.func20,Tryz.ntmps20
 go_wp2_with (fail)
 refine HTh.out.mono ?_
 rintro e w' ⟨rfl,h9⟩
 subst h9
 go_wp2_with (fail)
 exact bodyPost_ret (results_stats rfl _ w.heap.size lo st fl fe rfl (Blk.new w _ _)) rfl ⟨rfl,(Below.refl _ _).alloc (Nat.le_refl _) _⟩
def mayB (n : Nat) : Bool := decide (64 <= n /\ n <= 1048576 /\ n % 64 = 0)
theorem mmay_v (w : World) (n : Nat) : Calls Tryz.prog 34 #[.int .i64 n] w fun e w' => e = .returned (.bool (mayB n)) /\ w = w' := by
 by_cases h1 : (64 : Int) <= (n : Int)
 ·by_cases h2 : (n : Int) <= 1048576
  ·by_cases h3 : (n : Int) % 64 = 0
   ·have HR := Lib.hid (show mayB n = true from decide_eq_true ⟨by omega,by omega,by omega⟩)
    have e1 : ((n : Int) % 64 == 0) = true := beq_iff_eq.2 h3
    clear h3
    go_enter Tryz.func34,Tryz.ntmps34
    go_wp2_with (fail)
    go_ret
    exact ⟨by rw [HR.out];rfl,rfl⟩
   ·have HR := Lib.hid (show mayB n = false from decide_eq_false (by omega))
    have e1 : ((n : Int) % 64 == 0) = false := beq_eq_false_iff_ne.2 h3
    clear h3
    go_enter Tryz.func34,Tryz.ntmps34
    go_wp2_with (fail)
    go_ret
    exact ⟨by rw [HR.out];rfl,rfl⟩
  ·have HR := Lib.hid (show mayB n = false from decide_eq_false (by omega))
   go_enter Tryz.func34,Tryz.ntmps34
   go_wp2_with (fail)
   go_ret
   exact ⟨by rw [HR.out];rfl,rfl⟩
 ·have HR := Lib.hid (show mayB n = false from decide_eq_false (by omega))
  go_enter Tryz.func34,Tryz.ntmps34
  go_wp2_with (fail)
  go_ret
  exact ⟨by rw [HR.out];rfl,rfl⟩
end Go.Proofs.YtodgfbjjjgohgaaGreat
