/-
 A value is its key's digits: contracts (node/XNm's,here).
-/
import Derived.Test.YtodgfbjjjgohgaaGreatKfZ
import Derived.Lib.ItoaNum
import Derived.Lib.AppendIntMem
import Derived.Lib.Hide
import Derived.Lib.LaidTab
namespace Go.Proofs.YtodgfbjjjgohgaaGreat
open Go.RowKit

def numS (u : Nat) : Value := .string ⟨(Lib.decDigits u).toArray⟩
def dg (x : Nat) : List UInt8 := Lib.decDigits x
def strV (b : List UInt8) : Value := .string ⟨b.toArray⟩
theorem str_app (a b : List UInt8) : (⟨a.toArray⟩ ++ ⟨b.toArray⟩ : ByteArray) = ⟨(a ++ b).toArray⟩ := by
 apply ByteArray.ext
 simp
theorem dg_len (u : Nat) (h : u < 18446744073709551616) : (dg u).length <= 20 := by
 unfold dg
 rw [Lib.decDigits_length]
 by_cases h1 : 1 <= u
 ·have := Lib.numDigits_eq u h1 h;split at this <;> omega
 ·have : u = 0 := by omega
  subst this
  unfold Lib.nDigits
  simp
def NewB (x : Int) : Value -> World -> Prop := fun v W => ∃ g,v = .slice (some ⟨g,0,none⟩) 1 1 /\ Blk W g #[.int .u8 x] 5
theorem NewB.below {x : Int} {v : Value} {w w' : World} (h : NewB x v w) (hB : Below w.heap.size w w') : NewB x v w' := by
 obtain ⟨g,e,hb⟩ := h
 exact ⟨g,e,hb.below hB hb.lt⟩
theorem conv1 (W : World) (g : Nat) (x : Int) (d : UInt8) (hd : (d.toNat : Int) = x) (hb : Blk W g #[.int .u8 x] 5) :
  (convert 28 9 (.slice (some ⟨g,0,none⟩) 1 1)).run Tryz.prog W = .ok (strV [d]) W := by
 have h := run_convert_bytes_back (P := Tryz.prog) W 28 9 5 ⟨g,0,none⟩ 1 [d] Tryz.underlying28 Tryz.underlying5 Tryz.underlying9 (fun j hj => by
  have hj0 : j = 0 := by simp at hj;omega
  subst hj0
  rw [show (⟨g,0,none⟩ : Addr).add 0 = ⟨g,0,none⟩ by simp [Addr.add],hb.cell]
  simp [hd])
 exact h
theorem ofNat_toNat (r : Nat) (h : r < 10) : (((UInt8.ofNat (48 + r)).toNat : Nat) : Int) = 48 + (r : Int) := by
 have : (UInt8.ofNat (48 + r)).toNat = 48 + r := by
  rw [UInt8.toNat_ofNat'];omega
 omega
theorem dec_small (u : Nat) (h : u < 10) : Lib.decDigits u = [UInt8.ofNat (48 + u)] := by
 rw [Lib.decDigits];simp [h]
theorem dec_big (u : Nat) (h : ¬ u < 10) : Lib.decDigits u = Lib.decDigits (u / 10) ++ [UInt8.ofNat (48 + u % 10)] := by
 rw [Lib.decDigits];simp [h]

set_option maxRecDepth 100000 in
set_option maxHeartbeats 3200000 in
theorem rnum_calls : ∀ (u : Nat) (_ : u < 18446744073709551616) (w : World),Calls Tryz.prog 57 #[.int .u64 u] w fun e w' => e = .returned (numS u) /\ Below w.heap.size w w' := by
 intro u
 induction u using Nat.strongRecOn with
 | _ u ih =>
  intro hu w
  by_cases h : u < 10
  ·have hD := Lib.hid (dec_small u h)
   have h1 : (u : Int) < 10 := by omega
   obtain ⟨d,hd⟩ : ∃ d,UInt8.ofNat (48 + u) = d := ⟨_,rfl⟩
   have hdn := ofNat_toNat u h
   rw [hd] at hD hdn
   have hc2 := conv1 _ _ (48 + (u : Int)) d hdn (Blk.new w #[.int .u8 (48 + (u : Int))] 5)
   clear ih hu h hd hdn
   go_enter Tryz.func57,Tryz.ntmps57
   go_wp2_with (fail)
   go_ret
   exact ⟨by unfold numS;rw [hD.out];rfl,(Below.refl _ _).alloc (Nat.le_refl _) _⟩
  ·obtain ⟨q,hq⟩ : ∃ q,u / 10 = q := ⟨_,rfl⟩
   obtain ⟨r,hr⟩ : ∃ r,u % 10 = r := ⟨_,rfl⟩
   have IH := Lib.hid (ih q (by omega) (by omega))
   have HDG := Lib.hid (show (⟨(Lib.decDigits q ++ [UInt8.ofNat (48 + r)]).toArray⟩ : ByteArray) = ⟨(Lib.decDigits u).toArray⟩ by rw [dec_big u h,hq,hr])
   have HL1 := Lib.hid (show (Lib.decDigits q).length <= 20 from dg_len q (by omega))
   have hq' : (u : Int) / 10 = (q : Int) := by omega
   have hr' : (u : Int) % 10 = (r : Int) := by omega
   obtain ⟨d,hd⟩ : ∃ d,UInt8.ofNat (48 + r) = d := ⟨_,rfl⟩
   have hdn := ofNat_toNat r (by omega)
   rw [hd] at HDG hdn
   have HDN := Lib.hid hdn
   have wq : IntKind.u64.wrap (q : Int) = (q : Int) := by rw [IntKind.wrap_u64];omega
   have wt : (u : Int).tmod 10 = (r : Int) := by rw [Int.tmod_eq_emod_of_nonneg (by omega)];exact hr'
   have w48 : IntKind.u64.wrap (48 + (r : Int)) = 48 + (r : Int) := by rw [IntKind.wrap_u64];omega
   have w8 : IntKind.u8.wrap (48 + (r : Int)) = 48 + (r : Int) := by rw [IntKind.wrap_u8];omega
   have hr10i : (r : Int) < 10 := by omega
   have h1 : ¬ (u : Int) < 10 := by omega
   have hub : (u : Int) < 18446744073709551616 := by omega
   clear ih hu h hq hr hd hdn
   go_enter Tryz.func57,Tryz.ntmps57
   go_wp2_with (fail)
   refine wp_region_vals [Is (.int .u64 (u : Nat)),Is (.int .u64 (q : Nat)),Is (numS q),Is (.int .u64 (u : Nat)),Is (.int .u64 (r : Nat)),Is (.int .u64 (48 + (r : Int))),Is (.int .u8 (48 + (r : Int))),NewB (48 + (r : Int)),Is (strV [d]),Is (numS u),Is (numS u)]
    (fun _ W W' => Below W.heap.size W W') (fun _ W => Below w.heap.size w W) (by kernel_rfl) (by kernel_rfl) (by kernel_rfl) ?hst ?h0 ⟨?o0,?o1,?o2,?o3,?o4,?o5,?o6,?o7,?o8,?o9,?o10,trivial⟩ ?he
   case hst =>
    exact ⟨(fun _ _ _ _ _ _ h _ => h),(fun _ _ _ _ _ _ h _ => h),(fun _ _ _ _ _ _ h _ => h),(fun _ _ _ _ _ _ h _ => h),(fun _ _ _ _ _ _ h _ => h),(fun _ _ _ _ _ _ h _ => h),(fun _ _ _ _ _ _ h _ => h),(fun i hij hw v w w' h hR => h.below hR),(fun _ _ _ _ _ _ h _ => h),(fun _ _ _ _ _ _ h _ => h),(fun _ _ _ _ _ _ h _ => h),trivial⟩
   case h0 =>
    exact (Below.refl _ _).drew
   case o0 =>
    intro L vs A W H hf hd K hK
    have e0 : A.tmps[0]?.getD undef = .int .u64 (u : Nat) := H.old 0 (by kernel_rfl)
    go_simp
    exact hK _ _ (Below.refl _ _) rfl (H.glob)
   case o1 =>
    intro L vs A W H hf hd K hK
    have e10 := H.is 0 10 rfl rfl rfl (deps_of' hd 0 (by kernel_rfl)) (by kernel_rfl)
    go_simp
    exact hK _ _ (Below.refl _ _) rfl (H.glob)
   case o2 =>
    intro L vs A W H hf hd K hK
    have e11 := H.is 1 11 rfl rfl rfl (deps_of' hd 1 (by kernel_rfl)) (by kernel_rfl)
    rw [if_pos (show Region.wanted _ _ = true from rfl)]
    go_wp2_with (fail)
    refine (IH.out _).mono ?_
    rintro e W2 ⟨rfl,hB⟩
    exact hK _ _ hB rfl (H.glob.trans (hB.mono H.glob.size))
   case o3 =>
    intro L vs A W H hf hd K hK
    have e0 : A.tmps[0]?.getD undef = .int .u64 (u : Nat) := H.old 0 (by kernel_rfl)
    go_simp
    exact hK _ _ (Below.refl _ _) rfl (H.glob)
   case o4 =>
    intro L vs A W H hf hd K hK
    have e13 := H.is 3 13 rfl rfl rfl (deps_of' hd 3 (by kernel_rfl)) (by kernel_rfl)
    go_simp
    exact hK _ _ (Below.refl _ _) rfl (H.glob)
   case o5 =>
    intro L vs A W H hf hd K hK
    have e14 := H.is 4 14 rfl rfl rfl (deps_of' hd 4 (by kernel_rfl)) (by kernel_rfl)
    go_simp
    exact hK _ _ (Below.refl _ _) rfl (H.glob)
   case o6 =>
    intro L vs A W H hf hd K hK
    have e15 := H.is 5 15 rfl rfl rfl (deps_of' hd 5 (by kernel_rfl)) (by kernel_rfl)
    go_simp
    exact hK _ _ (Below.refl _ _) rfl (H.glob)
   case o7 =>
    intro L vs A W H hf hd K hK
    have e16 := H.is 6 16 rfl rfl rfl (deps_of' hd 6 (by kernel_rfl)) (by kernel_rfl)
    go_simp
    exact hK _ _ ((Below.refl _ _).alloc (Nat.le_refl _) _) ⟨W.heap.size,rfl,Blk.new W _ _⟩ (H.glob.alloc H.glob.size _)
   case o8 =>
    intro L vs A W H hf hd K hK
    obtain ⟨v17,e17,q17⟩ := H.val 7 17 rfl rfl rfl (deps_of' hd 7 (by kernel_rfl)) (by kernel_rfl)
    obtain ⟨g,rfl,hb⟩ := q17
    have hcv := conv1 W g _ d HDN.out hb
    go_simp
    exact hK _ _ (Below.refl _ _) rfl H.glob
   case o9 =>
    intro L vs A W H hf hd K hK
    have e12 := H.is 2 12 rfl rfl rfl (deps_of' hd 2 (by kernel_rfl)) (by kernel_rfl)
    have e18 := H.is 8 18 rfl rfl rfl (deps_of' hd 8 (by kernel_rfl)) (by kernel_rfl)
    have hl1 := HL1.out
    simp only [numS,strV] at e12 e18
    go_simp
    rw [if_neg (by omega)]
    exact hK _ _ (Below.refl _ _) (congrArg Value.string ((str_app _ _).trans HDG.out)) H.glob
   case o10 =>
    intro L vs A W H hf hd K hK
    have e19 := H.is 9 19 rfl rfl rfl (deps_of' hd 9 (by kernel_rfl)) (by kernel_rfl)
    go_simp
    exact hK _ _ (Below.refl _ _) rfl (H.glob)
   case he =>
    intro vs W hlen hv
    match vs,hlen,hv with
    | [x0_,x1_,x2_,x3_,x4_,x5_,x6_,x7_,x8_,x9_,x10_],_,hv =>
    obtain rfl : (.int .u64 (u : Nat)) = x0_ := by obtain ⟨z,h1,h2⟩ := hv 0 _ rfl;cases h1;exact h2.symm
    obtain rfl : (.int .u64 (q : Nat)) = x1_ := by obtain ⟨z,h1,h2⟩ := hv 1 _ rfl;cases h1;exact h2.symm
    obtain rfl : (numS q) = x2_ := by obtain ⟨z,h1,h2⟩ := hv 2 _ rfl;cases h1;exact h2.symm
    obtain rfl : (.int .u64 (u : Nat)) = x3_ := by obtain ⟨z,h1,h2⟩ := hv 3 _ rfl;cases h1;exact h2.symm
    obtain rfl : (.int .u64 (r : Nat)) = x4_ := by obtain ⟨z,h1,h2⟩ := hv 4 _ rfl;cases h1;exact h2.symm
    obtain rfl : (.int .u64 (48 + (r : Int))) = x5_ := by obtain ⟨z,h1,h2⟩ := hv 5 _ rfl;cases h1;exact h2.symm
    obtain rfl : (.int .u8 (48 + (r : Int))) = x6_ := by obtain ⟨z,h1,h2⟩ := hv 6 _ rfl;cases h1;exact h2.symm
    have hx7 : (NewB (48 + (r : Int))) x7_ W := by obtain ⟨z,h1,h2⟩ := hv 7 _ rfl;cases h1;exact h2
    obtain rfl : (strV [d]) = x8_ := by obtain ⟨z,h1,h2⟩ := hv 8 _ rfl;cases h1;exact h2.symm
    obtain rfl : (numS u) = x9_ := by obtain ⟨z,h1,h2⟩ := hv 9 _ rfl;cases h1;exact h2.symm
    obtain rfl : (numS u) = x10_ := by obtain ⟨z,h1,h2⟩ := hv 10 _ rfl;cases h1;exact h2.symm
    intro L hall hG
    clear hv hlen
    simp only [fill,if_true]
    go_simp
    go_wp2_with (fail)
    go_ret
    exact ⟨rfl,hG⟩
set_option maxRecDepth 100000 in
theorem rvalue_v (u : Nat) (hu : u < 18446744073709551616) (w : World) : Calls Tryz.prog 32 #[.int .u64 u] w fun e w' => e = .returned (numS u) /\ Below w.heap.size w w' := by
 have HN := Lib.hid (rnum_calls u hu w)
 clear hu
 go_enter Tryz.func32,Tryz.ntmps32
 go_wp2_with (fail)
 refine HN.out.mono ?_
 rintro e w1 ⟨rfl,hB⟩
 have HB := Lib.hid hB
 clear hB HN
 unfold numS
 go_wp2_with (fail)
 go_ret
 exact ⟨rfl,HB.out⟩
end Go.Proofs.YtodgfbjjjgohgaaGreat
