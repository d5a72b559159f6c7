/-
 THE DOCUMENT's Rising: keys in order,each once: a contract.
-/
import Derived.Test.YtodgfbjjjgohgaaGreatKdZ
import Derived.Test.YtodgfbjjjgohgaaGreatRdZ
import Derived.Test.YtodgfbjjjgohgaaGreatFiZ
namespace Go.Proofs.YtodgfbjjjgohgaaGreat
open Go.RowKit
attribute [local go_sem] Oper.semAt_some
set_option linter.unusedVariables false

/-! . -/
def posR (out : List Int) (x : Int) : Nat := (out.takeWhile (fun y => decide (y < x))).length
theorem posR_le (out : List Int) (x : Int) : posR out x <= out.length := by
 unfold posR;induction out with
 | nil => simp
 | cons y l ih => rw [List.takeWhile_cons];split <;> simp <;> omega
theorem posR_lt {out : List Int} {x : Int} : ∀ {j : Nat},j < posR out x -> out.getD j 0 < x := by
 unfold posR;induction out with
 | nil => intro j h;simp at h
 | cons y l ih =>
  intro j h
  rw [List.takeWhile_cons] at h
  by_cases hy : y < x
  ·rw [decide_eq_true hy,if_pos rfl] at h
   cases j with
   | zero => exact hy
   | succ j => simp at h ih ⊢;exact ih h
  ·rw [decide_eq_false hy,if_neg (by decide)] at h;simp at h
theorem posR_ge {out : List Int} {x : Int} (h : posR out x < out.length) : ¬ out.getD (posR out x) 0 < x := by
 unfold posR at *;induction out with
 | nil => simp at h
 | cons y l ih =>
  rw [List.takeWhile_cons] at h ⊢
  by_cases hy : y < x
  ·rw [decide_eq_true hy,if_pos rfl] at h ⊢
   simp at h ih ⊢;exact ih h
  ·rw [decide_eq_false hy,if_neg (by decide)];exact hy
def insR (out : List Int) (x : Int) : List Int :=
 if posR out x < out.length /\ out.getD (posR out x) 0 = x then out else out.take (posR out x) ++ [x] ++ out.drop (posR out x)
def risR (most : Int) : List Int -> List Int -> List Int
 | out,[] => out
 | out,x :: r => if (out.length : Int) < most then risR most (insR out x) r else out
theorem risR_full {most : Int} {out : List Int} (h : ¬ (out.length : Int) < most) (l : List Int) : risR most out l = out := by
 cases l with
 | nil => rfl
 | cons x r => rw [risR,if_neg h]
theorem insR_len (out : List Int) (x : Int) : (insR out x).length <= out.length + 1 := by
 unfold insR;have := posR_le out x;split
 ·omega
 ·simp;omega

theorem get_u {l : List Int} {k : Nat} (h : k < l.length) : (l.map (Value.int .u64))[k]? = some (.int .u64 (l.getD k 0)) := by
 rw [List.getElem?_map,List.getElem?_eq_getElem h,List.getD_eq_getElem?_getD,List.getElem?_eq_getElem h];rfl
theorem own_capK {w : World} {base : Nat} {e : TypeId} {size : Nat} {A : Option Addr} {m cap n : Nat} {xs : List Value} (h : w.ownsRow base e size (.slice A m cap) n xs) : n <= cap := by
 obtain ⟨_,⟨e,rfl⟩ | ⟨_,cap',_,e,_,_,h1,_⟩⟩ := h
 ·exact Nat.zero_le _
 ·cases e;exact h1
theorem risR_step {most : Int} {out l : List Int} {k : Nat} (hm : (out.length : Int) < most) (hk : k < l.length) : risR most out (l.drop k) = risR most (insR out (l.getD k 0)) (l.drop (k + 1)) := by
 rw [List.drop_eq_getElem_cons hk,risR,if_pos hm,List.getD_eq_getElem?_getD,List.getElem?_eq_getElem hk];rfl
theorem own_belowK {B : Nat} {e : TypeId} {k : Nat} {v : Value} {n : Nat} {xs : List Value} {w w' : World} (h : w.ownsRow B e k v n xs) (hb : Below w.heap.size w w') : w'.ownsRow B e k v n xs := by
 obtain ⟨hl,h2⟩ := h
 refine ⟨hl,?_⟩
 rcases h2 with h2 | ⟨g,cap,cur,hv,hB,hh,r⟩
 ·exact .inl h2
 ·exact .inr ⟨g,cap,cur,hv,hB,(hb.block g (Array.getElem?_eq_some_iff.1 hh).1).trans hh,r⟩
theorem own_castK {w : World} {base : Nat} {e : TypeId} {v : Value} {n n' : Nat} {xs xs' : List Value} (h : w.ownsRow base e 1 v n xs) (h1 : n = n') (h2 : xs = xs') : w.ownsRow base e 1 v n' xs' := by rw [<- h1,<- h2];exact h
theorem Reads.takeK {w : World} {B : Nat} {A : Option Addr} {n : Nat} {xs : List Value} (h : Reads w B 1 A n xs) {k : Nat} (hk : k <= n) : Reads w B 1 A k (xs.take k) := by
 refine ⟨by have := h.1;simp;omega,fun h0 => ?_⟩
 obtain ⟨ad,e,hb,hc⟩ := h.2 (by omega)
 refine ⟨ad,e,hb,fun j u hu => ?_⟩
 rcases Nat.lt_or_ge j k with hj | hj
 ·rw [List.getElem?_take_of_lt hj] at hu;exact hc j u hu
 ·rw [List.getElem?_take_eq_none hj] at hu;cases hu
theorem reads_oneK {w : World} {g : Nat} {v : Value} (h : w.cell? ⟨g,0,none⟩ = some v) : Reads w (g + 1) 1 (some ⟨g,0,none⟩) 1 [v] :=
 ⟨rfl,fun _ => ⟨_,rfl,Nat.lt_succ_self _,fun j u hu => by
  cases j with
  | zero => simp at hu;subst hu;exact h
  | succ j => simp at hu⟩⟩
theorem infoUK : (Tryz.prog.info? 25).map (fun i => (i.zero,i.size,i.bytes)) = some (some (.int .u64 0),1,8) := by kernel_rfl
/-! . -/
structure RiG (w0 : World) (xs ys : List Value) (x : Int) (L : Nat -> Bool) (A : Act) (W : World) : Prop where
 b : Below w0.heap.size w0 W
 c : L 9 = true -> L 3 = true /\ L 8 = true
 d : L 13 = true -> L 9 = true
 e : L 14 = true -> L 13 = true
 p3 : L 3 = true -> L 9 = false -> W.ownsRow w0.heap.size 25 1 (A.tmps[55]?.getD undef) xs.length xs
 p8 : L 8 = true -> L 9 = false -> ∃ g,A.tmps[60]?.getD undef = .slice (some ⟨g,0,none⟩) 1 1 /\ g < W.heap.size /\ W.cell? ⟨g,0,none⟩ = some (.int .u64 x)
 p9 : L 9 = true -> L 13 = false -> W.ownsRow w0.heap.size 25 1 (A.tmps[61]?.getD undef) (xs.length + 1) (xs ++ [.int .u64 x])
 p13 : L 13 = true -> W.ownsRow w0.heap.size 25 1 (A.tmps[65]?.getD undef) (xs.length + 1 + ys.length) (xs ++ [.int .u64 x] ++ ys)
 p14 : L 14 = true -> A.tmps[5]?.getD undef = A.tmps[65]?.getD undef
theorem put_neK {a : Act} {d : Option Tmp} {v : Value} {s : Nat} (h : d ≠ some s) : (a.put d v).tmps[s]?.getD undef = a.tmps[s]?.getD undef := by
 have := getD_put_ne (a := a) (v := v) h
 simpa only [Array.getD_eq_getD_getElem?] using this
theorem put_eqK {a : Act} {v : Value} {s : Nat} (h : s < a.tmps.size) : (a.put (some s) v).tmps[s]?.getD undef = v := by
 simp [Act.put,h]
section
variable {w0 W : World} {xs ys : List Value} {x : Int} {L : Nat -> Bool} {A : Act}
theorem RiG.start : RiG w0 xs ys x (fun _ => false) A w0.drew :=
 ⟨(Below.refl _ _).drew,by simp,by simp,by simp,by simp,by simp,by simp,by simp,by simp⟩
theorem RiG.keep {L' : Nat -> Bool} {d : Option Tmp} {v : Value} (h : RiG w0 xs ys x L A W) (h3 : L' 3 = L 3) (h8 : L' 8 = L 8) (h9 : L' 9 = L 9) (h13 : L' 13 = L 13) (h14 : L' 14 = L 14) (d5 : d ≠ some 5) (d55 : d ≠ some 55) (d60 : d ≠ some 60) (d61 : d ≠ some 61) (d65 : d ≠ some 65) : RiG w0 xs ys x L' (A.put d v) W :=
 ⟨h.b,by rw [h3,h8,h9];exact h.c,by rw [h13,h9];exact h.d,by rw [h14,h13];exact h.e,by rw [h3,h9,put_neK d55];exact h.p3,by rw [h8,h9,put_neK d60];exact h.p8,by rw [h9,h13,put_neK d61];exact h.p9,by rw [h13,put_neK d65];exact h.p13,by rw [h14,put_neK d5,put_neK d65];exact h.p14⟩
theorem RiG.not {i : Nat} (h : RiG w0 xs ys x L A W) (h9 : L 9 = false) : L 13 = false /\ L 14 = false := by
 have h13 : L 13 = false := by cases hh : L 13 with | false => rfl | true => rw [h.d hh] at h9;cases h9
 exact ⟨h13,by cases hh : L 14 with | false => rfl | true => rw [h.e hh] at h13;cases h13⟩
theorem RiG.s3 {v : Value} {W' : World} (h : RiG w0 xs ys x L A W) (hf : L 3 = false) (hz : 55 < A.tmps.size) (ho : W'.ownsRow w0.heap.size 25 1 v xs.length xs) (hg : W.grownBy W' none) : RiG w0 xs ys x (lset L 3) (A.put (some 55) v) W' := by
 have h9 : L 9 = false := by cases hh : L 9 with | false => rfl | true => rw [(h.c hh).1] at hf;cases hf
 obtain ⟨h13,h14⟩ := h.not (i := 0) h9
 refine ⟨h.b.grown hg h.b.size (fun r e => by cases e),by simp [lset,h9],by simp [lset,h13],by simp [lset,h14],fun _ _ => by rw [put_eqK hz];exact ho,fun h8 _ => ?_,by simp [lset,h9],by simp [lset,h13],by simp [lset,h14]⟩
 obtain ⟨g,e,hlt,hc⟩ := h.p8 (by simpa [lset] using h8) h9
 refine ⟨g,by rw [put_neK (by decide)];exact e,Nat.lt_of_lt_of_le hlt hg.size,?_⟩
 rw [<- hc]
 simp only [World.cell?,hg.block g hlt (by simp)]
theorem RiG.s8 (h : RiG w0 xs ys x L A W) (hf : L 8 = false) (hz : 60 < A.tmps.size) (t : TypeId) : RiG w0 xs ys x (lset L 8) (A.put (some 60) (.slice (some ⟨W.heap.size,0,none⟩) 1 1)) (W.alloc (.cells #[.int .u64 x] t)) := by
 have h9 : L 9 = false := by cases hh : L 9 with | false => rfl | true => rw [(h.c hh).2] at hf;cases hf
 obtain ⟨h13,h14⟩ := h.not (i := 0) h9
 refine ⟨h.b.alloc h.b.size _,by simp [lset,h9],by simp [lset,h13],by simp [lset,h14],fun h3 _ => by rw [put_neK (by decide)];exact (h.p3 (by simpa [lset] using h3) h9).alloc _,fun _ _ => ⟨_,by rw [put_eqK hz],by simp,?_⟩,by simp [lset,h9],by simp [lset,h13],by simp [lset,h14]⟩
 rw [(Blk.new W #[.int .u64 x] t).cell];rfl
theorem RiG.s9 {v : Value} {W' : World} (h : RiG w0 xs ys x L A W) (hf : L 9 = false) (d3 : L 3 = true) (d8 : L 8 = true) (hz : 61 < A.tmps.size) (ho : W'.ownsRow w0.heap.size 25 1 v (xs.length + 1) (xs ++ [.int .u64 x])) (hg : W.grownBy W' (A.tmps[55]?.getD undef).ownBlock) : RiG w0 xs ys x (lset L 9) (A.put (some 61) v) W' := by
 obtain ⟨h13,h14⟩ := h.not (i := 0) hf
 exact ⟨h.b.grown hg h.b.size (fun r e => own_base (h.p3 d3 hf) r e),by simp [lset,d3,d8],by simp [lset],by simp [lset,h14],by simp [lset],by simp [lset],fun _ _ => by rw [put_eqK hz];exact ho,by simp [lset,h13],by simp [lset,h14]⟩
theorem RiG.s13 {v : Value} {W' : World} (h : RiG w0 xs ys x L A W) (hf : L 13 = false) (d9 : L 9 = true) (hz : 65 < A.tmps.size) (ho : W'.ownsRow w0.heap.size 25 1 v (xs.length + 1 + ys.length) (xs ++ [.int .u64 x] ++ ys)) (hg : W.grownBy W' (A.tmps[61]?.getD undef).ownBlock) : RiG w0 xs ys x (lset L 13) (A.put (some 65) v) W' := by
 have h14 : L 14 = false := by cases hh : L 14 with | false => rfl | true => rw [h.e hh] at hf;cases hf
 obtain ⟨e3,e8⟩ := h.c d9
 exact ⟨h.b.grown hg h.b.size (fun r e => own_base (h.p9 d9 hf) r e),by simp [lset,e3,e8],by simp [lset,d9],by simp [lset],by simp [lset,d9],by simp [lset,d9],by simp [lset],fun _ => by rw [put_eqK hz];exact ho,by simp [lset,h14]⟩
theorem RiG.fin (h : RiG w0 xs ys x L A W) (h13 : L 13 = true) (h14 : L 14 = true) : ∃ v,A.tmps[65]?.getD undef = v /\ A.tmps[5]?.getD undef = v /\ W.ownsRow w0.heap.size 25 1 v (xs.length + 1 + ys.length) (xs ++ [.int .u64 x] ++ ys) /\ Below w0.heap.size w0 W :=
 ⟨_,rfl,h.p14 h14,h.p13 h13,h.b⟩
theorem RiG.s14 (h : RiG w0 xs ys x L A W) (hf : L 14 = false) (d13 : L 13 = true) (hz : 5 < A.tmps.size) : RiG w0 xs ys x (lset L 14) (A.put (some 5) (A.tmps[65]?.getD undef)) W := by
 have d9 := h.d d13
 obtain ⟨e3,e8⟩ := h.c d9
 exact ⟨h.b,by simp [lset,e3,e8],by simp [lset,d9],by simp [lset,d13],by simp [lset,d9],by simp [lset,d9],by simp [lset,d13],fun _ => by rw [put_neK (by decide)];exact h.p13 d13,fun _ => by rw [put_eqK hz,put_neK (by decide)]⟩
end
set_option maxRecDepth 100000 in
set_option maxHeartbeats 40000000 in
theorem rising_v (w : World) (A : Option Addr) (c : Nat) (l : List Int) (most : Int) (hr : Reads w w.heap.size 1 A l.length (l.map (Value.int .u64))) (hl : l.length <= 1000) :
  Calls Tryz.prog 22 #[.slice A l.length c,.int .i64 most] w fun e w' => ∃ v,e = .returned v /\ w'.ownsRow w.heap.size 25 1 v (risR most [] l).length ((risR most [] l).map (Value.int .u64)) /\ Below w.heap.size w w' := by
 have HR := Lib.hid hr
 have HL := Lib.hid hl
 clear hr hl
 go_enter Tryz.func22,Tryz.ntmps22
 go_wp2_with (fail)
 go_loopw [5,6] (fun ov iv wr => ∃ (k : Nat) (out : List Int),k <= l.length /\ iv = .int .i64 k /\ Hid (out.length <= k) /\ Hid (risR most out (l.drop k) = risR most [] l) /\ Hid (wr.ownsRow w.heap.size 25 1 ov out.length (out.map (Value.int .u64))) /\ Hid (Below w.heap.size w wr)) (fun _ iv _ => l.length - (intOf iv).toNat)
 case atStart => exact ⟨0,[],by omega,rfl,Nat.le_refl _,rfl,World.ownsRow_nil _ _ _ _,Below.refl _ _⟩
 case round =>
  obtain ⟨k,out,hk,rfl,HO,HQ,HW,HB⟩ := hrel
  rename World => wo
  have hll : l.length <= 1000 := HL.out
  obtain ⟨oa,on,oc,rfl⟩ := own_slice HW.out
  obtain rfl : on = out.length := own_len HW.out
  by_cases hlt : k < l.length
  ·have b1 : (k : Int) < (l.length : Int) := by omega
   by_cases hm : (out.length : Int) < most
   ·obtain ⟨ad,u,rfl,had,hu,hcu⟩ := HR.out.at_ hlt
    rw [get_u hlt] at hu
    obtain rfl := (Option.some.inj hu).symm
    obtain ⟨x,hx⟩ : ∃ x,l.getD k 0 = x := ⟨_,rfl⟩
    rw [hx] at hcu
    have HX := Lib.hid hx
    have HC := Lib.hid (And.intro had hcu)
    clear hx hu had hcu
    obtain ⟨p,hp⟩ : ∃ p,posR out x = p := ⟨_,rfl⟩
    have HP := Lib.hid (show p <= out.length /\ (∀ j,j < p -> out.getD j 0 < x) /\ (p < out.length -> ¬ out.getD p 0 < x) from by subst hp;exact ⟨posR_le _ _,fun j h => posR_lt h,fun h => posR_ge h⟩)
    have Hp := Lib.hid hp
    clear hp
    go_wp2_with (fail)
    go_loopw [7] (fun jv wq => ∃ j : Nat,jv = .int .i64 j /\ j <= p /\ Hid (Below wo.heap.size wo wq)) (fun jv _ => p - (intOf jv).toNat)
    case atStart => exact ⟨0,rfl,by omega,Below.refl _ _⟩
    case round =>
     obtain ⟨j,rfl,hj,HI2⟩ := hrel
     have HB1 := Lib.hid (HB.out.trans (HI2.out.mono HB.out.size))
     have HS1 := Lib.hid (show w.heap.size <= _ from HB1.out.size)
     have hon : out.length <= 1000 := by have := HO.out;omega
     by_cases hjo : j < out.length
     ·have b2 : (j : Int) < (out.length : Int) := by omega
      obtain ⟨ao,u,rfl,hao,hu,hcu⟩ := (Reads.of_own HW.out).at_ hjo
      rw [get_u hjo] at hu
      obtain rfl := (Option.some.inj hu).symm
      obtain ⟨y,hy⟩ : ∃ y,out.getD j 0 = y := ⟨_,rfl⟩
      rw [hy] at hcu
      have HY := Lib.hid hy
      have HCo := Lib.hid (And.intro hao hcu)
      obtain ⟨bq,hbq⟩ : ∃ bq,decide (y < x) = bq := ⟨_,rfl⟩
      have Hbq := Lib.hid hbq
      have HJ := Lib.hid hj
      clear hy hu hao hcu hbq hj
      go_wp2_with (fail)
      refine wp_region_vals [Is (.int .i64 (j : Nat)),Is (.slice (some ao) out.length oc),Is (.int .i64 (out.length : Nat)),Is (.bool true),Is (.bool true),Is (.slice (some ao) out.length oc),Is (.int .i64 (j : Nat)),Is (.pointer (some (ao.add j))),Is (.int .u64 y),Is (.slice (some ad) l.length c),Is (.int .i64 (k : Nat)),Is (.pointer (some (ad.add k))),Is (.int .u64 x),Is (.bool bq),Is (.bool bq)]
       (fun _ _ _ => True) (fun _ W => Below wr.heap.size wr W) (by kernel_rfl) (by kernel_rfl) (by kernel_rfl) ?hst ?h0 ⟨?o0,?o1,?o2,?o3,?o4,?o5,?o6,?o7,?o8,?o9,?o10,?o11,?o12,?o13,?o14,trivial⟩ ?he
      any_goals (intro L vs A W H hf hd K hK)
      case hst => repeat' (first | exact trivial | refine ⟨fun _ _ _ _ _ _ h _ => h,?_⟩)
      case h0 =>
       exact (Below.refl _ wr).drew
      case o0 => have e7 : A.tmps[7]?.getD undef = .int .i64 (j : Nat) := H.old 7 (by kernel_rfl);go_simp;exact hK _ _ (trivial) rfl (H.glob)
      case o1 => have e5 : A.tmps[5]?.getD undef = .slice (some ao) out.length oc := H.old 5 (by kernel_rfl);go_simp;exact hK _ _ (trivial) rfl (H.glob)
      case o2 => have e21 := H.iz hd 1 21 rfl rfl rfl (by kernel_rfl);go_simp;exact hK _ _ (trivial) rfl (H.glob)
      case o3 => have e20 := H.iz hd 0 20 rfl rfl rfl (by kernel_rfl);have e22 := H.iz hd 2 22 rfl rfl rfl (by kernel_rfl);go_simp;exact hK _ _ (trivial) rfl (H.glob)
      case o4 => have e23 := H.iz hd 3 23 rfl rfl rfl (by kernel_rfl);go_simp;exact hK _ _ (trivial) rfl (H.glob)
      case o5 => have e24 := H.iz hd 4 24 rfl rfl rfl (by kernel_rfl);refine if_wanted (j := 4) (s := 24) rfl rfl rfl e24 rfl ?_;have e5 : A.tmps[5]?.getD undef = .slice (some ao) out.length oc := H.old 5 (by kernel_rfl);go_simp;exact hK _ _ (trivial) rfl (H.glob)
      case o6 => have e24 := H.iz hd 4 24 rfl rfl rfl (by kernel_rfl);refine if_wanted (j := 4) (s := 24) rfl rfl rfl e24 rfl ?_;have e7 : A.tmps[7]?.getD undef = .int .i64 (j : Nat) := H.old 7 (by kernel_rfl);go_simp;exact hK _ _ (trivial) rfl (H.glob)
      case o7 => have e24 := H.iz hd 4 24 rfl rfl rfl (by kernel_rfl);refine if_wanted (j := 4) (s := 24) rfl rfl rfl e24 rfl ?_;have e25 := H.iz hd 5 25 rfl rfl rfl (by kernel_rfl);have e26 := H.iz hd 6 26 rfl rfl rfl (by kernel_rfl);go_simp;exact hK _ _ (trivial) rfl (H.glob)
      case o8 => have e24 := H.iz hd 4 24 rfl rfl rfl (by kernel_rfl);refine if_wanted (j := 4) (s := 24) rfl rfl rfl e24 rfl ?_;have e27 := H.iz hd 7 27 rfl rfl rfl (by kernel_rfl);have d0 : W.cell? (ao.add j) = some (.int .u64 y) := ((HI2.out.trans (H.glob.mono HI2.out.size)).cell (p := ao.add j) (by rw [block_of_add];exact HCo.out.1)).trans HCo.out.2;go_simp;exact hK _ _ (trivial) rfl (H.glob)
      case o9 => have e24 := H.iz hd 4 24 rfl rfl rfl (by kernel_rfl);refine if_wanted (j := 4) (s := 24) rfl rfl rfl e24 rfl ?_;have e0 : A.tmps[0]?.getD undef = .slice (some ad) l.length c := H.old 0 (by kernel_rfl);go_simp;exact hK _ _ (trivial) rfl (H.glob)
      case o10 => have e24 := H.iz hd 4 24 rfl rfl rfl (by kernel_rfl);refine if_wanted (j := 4) (s := 24) rfl rfl rfl e24 rfl ?_;have e6 : A.tmps[6]?.getD undef = .int .i64 (k : Nat) := H.old 6 (by kernel_rfl);go_simp;exact hK _ _ (trivial) rfl (H.glob)
      case o11 => have e24 := H.iz hd 4 24 rfl rfl rfl (by kernel_rfl);refine if_wanted (j := 4) (s := 24) rfl rfl rfl e24 rfl ?_;have e29 := H.iz hd 9 29 rfl rfl rfl (by kernel_rfl);have e30 := H.iz hd 10 30 rfl rfl rfl (by kernel_rfl);go_simp;exact hK _ _ (trivial) rfl (H.glob)
      case o12 => have e24 := H.iz hd 4 24 rfl rfl rfl (by kernel_rfl);refine if_wanted (j := 4) (s := 24) rfl rfl rfl e24 rfl ?_;have e31 := H.iz hd 11 31 rfl rfl rfl (by kernel_rfl);have d0 : W.cell? (ad.add k) = some (.int .u64 x) := ((HB1.out.trans (H.glob.mono (by exact HS1.out))).cell (p := ad.add k) (by rw [block_of_add];exact HC.out.1)).trans HC.out.2;go_simp;exact hK _ _ (trivial) rfl (H.glob)
      case o13 => have e24 := H.iz hd 4 24 rfl rfl rfl (by kernel_rfl);refine if_wanted (j := 4) (s := 24) rfl rfl rfl e24 rfl ?_;have e28 := H.iz hd 8 28 rfl rfl rfl (by kernel_rfl);have e32 := H.iz hd 12 32 rfl rfl rfl (by kernel_rfl);have hq := Hbq.out;go_simp;exact hK _ _ (trivial) rfl (H.glob)
      case o14 => have e24 := H.iz hd 4 24 rfl rfl rfl (by kernel_rfl);have e33 := H.iz hd 13 33 rfl rfl rfl (by kernel_rfl);go_simp;exact hK _ _ (trivial) rfl (H.glob)
      case he =>
       intro vs W hlen hv
       match vs,hlen,hv with
       | [x0_,x1_,x2_,x3_,x4_,x5_,x6_,x7_,x8_,x9_,x10_,x11_,x12_,x13_,x14_],_,hv =>
       obtain rfl := isv hv 0 rfl rfl;obtain rfl := isv hv 1 rfl rfl;obtain rfl := isv hv 2 rfl rfl;obtain rfl := isv hv 3 rfl rfl;obtain rfl := isv hv 4 rfl rfl;obtain rfl := isv hv 5 rfl rfl;obtain rfl := isv hv 6 rfl rfl;obtain rfl := isv hv 7 rfl rfl;obtain rfl := isv hv 8 rfl rfl;obtain rfl := isv hv 9 rfl rfl;obtain rfl := isv hv 10 rfl rfl;obtain rfl := isv hv 11 rfl rfl;obtain rfl := isv hv 12 rfl rfl;obtain rfl := isv hv 13 rfl rfl;obtain rfl := isv hv 14 rfl rfl
       intro L hall hG
       clear hv hlen
       have HB2 := Lib.hid hG
       clear hG hall
       simp only [fill,if_true]
       simp [Act.put]
       cases bq with
       | true =>
        go_wp2_with (fail)
        go_roundw
        case rel => exact ⟨j + 1,by go_num,by have := HJ.out;rcases Nat.lt_or_ge j p with h | h;omega;exact absurd (of_decide_eq_true Hbq.out) (by rw [<- HY.out,show j = p by omega];exact Int.not_lt.2 (HP.out.2.2 (by omega))),HI2.out.trans (HB2.out.mono HI2.out.size)⟩
        case measure => have hjp : j < p := (by have := HJ.out;rcases Nat.lt_or_ge j p with h | h;exact h;exact absurd (of_decide_eq_true Hbq.out) (by rw [<- HY.out,show j = p by omega];exact Int.not_lt.2 (HP.out.2.2 (by omega))));simp [intOf];omega
       | false =>
        obtain rfl : p = j := by
         have := HJ.out
         rcases Nat.lt_or_ge j p with h | h
         ·exact absurd (HP.out.2.1 j h) (by rw [HY.out];exact of_decide_eq_false Hbq.out)
         ·omega
        have HI8 := Lib.hid (HI2.out.trans (HB2.out.mono HI2.out.size))
        have HB8 := Lib.hid (HB.out.trans (HI8.out.mono HB.out.size))
        have HS8 := Lib.hid HB8.out.size
        rename World => w8
        clear HB2 HI2 HB1 HS1 hv
        obtain ⟨be,hbe⟩ : ∃ be,(y == x) = be := ⟨_,rfl⟩
        have Hbe := Lib.hid hbe
        clear hbe
        go_wp2_with (fail)
        refine wp_region_vals [Is (.int .i64 (p : Nat)),Is (.slice (some ao) out.length oc),Is (.int .i64 (out.length : Nat)),Is (.bool true),Is (.bool true),Is (.slice (some ao) out.length oc),Is (.int .i64 (p : Nat)),Is (.pointer (some (ao.add p))),Is (.int .u64 y),Is (.slice (some ad) l.length c),Is (.int .i64 (k : Nat)),Is (.pointer (some (ad.add k))),Is (.int .u64 x),Is (.bool be),Is (.bool be)]
         (fun _ _ _ => True) (fun _ W => Below w8.heap.size w8 W) (by kernel_rfl) (by kernel_rfl) (by kernel_rfl) ?hst ?h0 ⟨?o0,?o1,?o2,?o3,?o4,?o5,?o6,?o7,?o8,?o9,?o10,?o11,?o12,?o13,?o14,trivial⟩ ?he
        any_goals (intro L vs A W H hf hd K hK)
        case hst => repeat' (first | exact trivial | refine ⟨fun _ _ _ _ _ _ h _ => h,?_⟩)
        case h0 =>
         exact (Below.refl _ w8).drew
        case o0 => have e7 : A.tmps[7]?.getD undef = .int .i64 (p : Nat) := H.old 7 (by kernel_rfl);go_simp;exact hK _ _ (trivial) rfl (H.glob)
        case o1 => have e5 : A.tmps[5]?.getD undef = .slice (some ao) out.length oc := H.old 5 (by kernel_rfl);go_simp;exact hK _ _ (trivial) rfl (H.glob)
        case o2 => have e38 := H.iz hd 1 38 rfl rfl rfl (by kernel_rfl);go_simp;exact hK _ _ (trivial) rfl (H.glob)
        case o3 => have e37 := H.iz hd 0 37 rfl rfl rfl (by kernel_rfl);have e39 := H.iz hd 2 39 rfl rfl rfl (by kernel_rfl);go_simp;exact hK _ _ (trivial) rfl (H.glob)
        case o4 => have e40 := H.iz hd 3 40 rfl rfl rfl (by kernel_rfl);go_simp;exact hK _ _ (trivial) rfl (H.glob)
        case o5 => have e41 := H.iz hd 4 41 rfl rfl rfl (by kernel_rfl);refine if_wanted (j := 4) (s := 41) rfl rfl rfl e41 rfl ?_;have e5 : A.tmps[5]?.getD undef = .slice (some ao) out.length oc := H.old 5 (by kernel_rfl);go_simp;exact hK _ _ (trivial) rfl (H.glob)
        case o6 => have e41 := H.iz hd 4 41 rfl rfl rfl (by kernel_rfl);refine if_wanted (j := 4) (s := 41) rfl rfl rfl e41 rfl ?_;have e7 : A.tmps[7]?.getD undef = .int .i64 (p : Nat) := H.old 7 (by kernel_rfl);go_simp;exact hK _ _ (trivial) rfl (H.glob)
        case o7 => have e41 := H.iz hd 4 41 rfl rfl rfl (by kernel_rfl);refine if_wanted (j := 4) (s := 41) rfl rfl rfl e41 rfl ?_;have e42 := H.iz hd 5 42 rfl rfl rfl (by kernel_rfl);have e43 := H.iz hd 6 43 rfl rfl rfl (by kernel_rfl);go_simp;exact hK _ _ (trivial) rfl (H.glob)
        case o8 => have e41 := H.iz hd 4 41 rfl rfl rfl (by kernel_rfl);refine if_wanted (j := 4) (s := 41) rfl rfl rfl e41 rfl ?_;have e44 := H.iz hd 7 44 rfl rfl rfl (by kernel_rfl);have d0 : W.cell? (ao.add p) = some (.int .u64 y) := ((HI8.out.trans (H.glob.mono HI8.out.size)).cell (p := ao.add p) (by rw [block_of_add];exact HCo.out.1)).trans HCo.out.2;go_simp;exact hK _ _ (trivial) rfl (H.glob)
        case o9 => have e41 := H.iz hd 4 41 rfl rfl rfl (by kernel_rfl);refine if_wanted (j := 4) (s := 41) rfl rfl rfl e41 rfl ?_;have e0 : A.tmps[0]?.getD undef = .slice (some ad) l.length c := H.old 0 (by kernel_rfl);go_simp;exact hK _ _ (trivial) rfl (H.glob)
        case o10 => have e41 := H.iz hd 4 41 rfl rfl rfl (by kernel_rfl);refine if_wanted (j := 4) (s := 41) rfl rfl rfl e41 rfl ?_;have e6 : A.tmps[6]?.getD undef = .int .i64 (k : Nat) := H.old 6 (by kernel_rfl);go_simp;exact hK _ _ (trivial) rfl (H.glob)
        case o11 => have e41 := H.iz hd 4 41 rfl rfl rfl (by kernel_rfl);refine if_wanted (j := 4) (s := 41) rfl rfl rfl e41 rfl ?_;have e46 := H.iz hd 9 46 rfl rfl rfl (by kernel_rfl);have e47 := H.iz hd 10 47 rfl rfl rfl (by kernel_rfl);go_simp;exact hK _ _ (trivial) rfl (H.glob)
        case o12 => have e41 := H.iz hd 4 41 rfl rfl rfl (by kernel_rfl);refine if_wanted (j := 4) (s := 41) rfl rfl rfl e41 rfl ?_;have e48 := H.iz hd 11 48 rfl rfl rfl (by kernel_rfl);have d0 : W.cell? (ad.add k) = some (.int .u64 x) := ((HB8.out.trans (H.glob.mono (by exact HS8.out))).cell (p := ad.add k) (by rw [block_of_add];exact HC.out.1)).trans HC.out.2;go_simp;exact hK _ _ (trivial) rfl (H.glob)
        case o13 => have e41 := H.iz hd 4 41 rfl rfl rfl (by kernel_rfl);refine if_wanted (j := 4) (s := 41) rfl rfl rfl e41 rfl ?_;have e45 := H.iz hd 8 45 rfl rfl rfl (by kernel_rfl);have e49 := H.iz hd 12 49 rfl rfl rfl (by kernel_rfl);have hq := Hbe.out;go_simp;exact hK _ _ (trivial) rfl (H.glob)
        case o14 => have e41 := H.iz hd 4 41 rfl rfl rfl (by kernel_rfl);have e50 := H.iz hd 13 50 rfl rfl rfl (by kernel_rfl);go_simp;exact hK _ _ (trivial) rfl (H.glob)
        case he =>
         intro vs W hlen hv
         match vs,hlen,hv with
         | [x0_,x1_,x2_,x3_,x4_,x5_,x6_,x7_,x8_,x9_,x10_,x11_,x12_,x13_,x14_],_,hv =>
         obtain rfl := isv hv 0 rfl rfl;obtain rfl := isv hv 1 rfl rfl;obtain rfl := isv hv 2 rfl rfl;obtain rfl := isv hv 3 rfl rfl;obtain rfl := isv hv 4 rfl rfl;obtain rfl := isv hv 5 rfl rfl;obtain rfl := isv hv 6 rfl rfl;obtain rfl := isv hv 7 rfl rfl;obtain rfl := isv hv 8 rfl rfl;obtain rfl := isv hv 9 rfl rfl;obtain rfl := isv hv 10 rfl rfl;obtain rfl := isv hv 11 rfl rfl;obtain rfl := isv hv 12 rfl rfl;obtain rfl := isv hv 13 rfl rfl;obtain rfl := isv hv 14 rfl rfl
         intro L hall hG
         clear hv hlen
         have HB3 := Lib.hid hG
         clear hG hall
         simp only [fill,if_true]
         simp [Act.put]
         cases be with
         | true =>
          go_wp2_with (fail)
          go_roundw
          case rel => exact ⟨k + 1,out,by omega,by go_num,Lib.hid (by have := HO.out;omega),Lib.hid (by
           rw [<- HQ.out,risR_step hm hlt,HX.out]
           have : insR out x = out := by unfold insR;rw [Hp.out,if_pos ⟨hjo,HY.out.trans (of_decide_eq_true (by simpa using Hbe.out))⟩]
           rw [this]),Lib.hid (own_belowK HW.out (HI8.out.trans (HB3.out.mono HI8.out.size))),Lib.hid (HB8.out.trans (HB3.out.mono HB8.out.size))⟩
          case measure => simp [intOf];omega
         | false =>
          have HI9 := Lib.hid (HI8.out.trans (HB3.out.mono HI8.out.size))
          have HB9 := Lib.hid (HB.out.trans (HI9.out.mono HB.out.size))
          have HS9 := Lib.hid HB9.out.size
          rename World => w9
          have hrd := ((Reads.of_own HW.out).below HI9.out).more HI9.out.size
          have hoc : out.length <= oc := own_capK HW.out
          have hpl : p <= out.length := HP.out.1
          obtain ⟨ob,hob⟩ : ∃ ob,(if oc = p then (some ao) else some (ao.add p)) = ob := ⟨_,rfl⟩
          have hcut := hrd.cut (k := p) (cap := oc) hpl hoc
          rw [Nat.mul_one] at hcut
          have hcut2 : Reads w9 w9.heap.size 1 ob (out.length - p) ((out.map (Value.int .u64)).drop p) := by rw [<- hob];exact hcut
          obtain ⟨xs,hxs⟩ : ∃ xs,(out.map (Value.int .u64)).take p = xs := ⟨_,rfl⟩
          obtain ⟨ys,hys⟩ : ∃ ys,(out.map (Value.int .u64)).drop p = ys := ⟨_,rfl⟩
          have HXY := Lib.hid (And.intro hxs hys)
          have HXs := Lib.hid (show Reads w9 w9.heap.size 1 (some ao) p xs /\ (∀ u ∈ xs,u.oneCell' = true) /\ (xs.length = p /\ xs.length <= 1000 /\ ys.length <= 1000) from ⟨by rw [<- hxs];exact hrd.takeK hpl,by rw [<- hxs];exact fun u hu => ints_oneCell .u64 out u (List.mem_of_mem_take hu),by rw [<- hxs,<- hys];simp;omega⟩)
          have HYs := Lib.hid (show Reads w9 w9.heap.size 1 ob (out.length - p) ys /\ (∀ u ∈ ys,u.oneCell' = true) from ⟨by rw [<- hys];exact hcut2,by rw [<- hys];exact fun u hu => ints_oneCell .u64 out u (List.mem_of_mem_drop hu)⟩)
          have HYl := Lib.hid (show ys.length = out.length - p by rw [<- hys];simp)
          have HPl := Lib.hid hpl
          have Hob := Lib.hid hob
          clear hrd hcut hcut2 hxs hys hob HB3 hv
          obtain ⟨i0,hi,hz0,hz1,hz2⟩ := info_parts infoUK
          go_wp2_with (fail)
          refine wp_region_valsA [Is (.slice (some ao) out.length oc),Is (.int .i64 (p : Nat)),Is (.slice (some ao) p oc),Any,Is (.slice (some ad) l.length c),Is (.int .i64 (k : Nat)),Is (.pointer (some (ad.add k))),Is (.int .u64 x),Any,Any,Is (.slice (some ao) out.length oc),Is (.int .i64 (p : Nat)),Is (.slice ob (out.length - p) (oc - p)),Any,Any]
           (fun _ _ _ => True) (fun L A W => RiG w9 xs ys x L A W) (by kernel_rfl) (by kernel_rfl) (by kernel_rfl) ?hst ?h0 ⟨?o0,?o1,?o2,?o3,?o4,?o5,?o6,?o7,?o8,?o9,?o10,?o11,?o12,?o13,?o14,trivial⟩ ?he
          any_goals (intro L vs A W H hf hd K hK)
          case hst =>
           exact ⟨(fun _ _ _ _ _ _ h _ => h),(fun _ _ _ _ _ _ h _ => h),(fun _ _ _ _ _ _ h _ => h),(fun _ _ _ _ _ _ h _ => h),(fun _ _ _ _ _ _ h _ => h),(fun _ _ _ _ _ _ h _ => h),(fun _ _ _ _ _ _ h _ => h),(fun _ _ _ _ _ _ h _ => h),(fun _ _ _ _ _ _ h _ => h),(fun _ _ _ _ _ _ h _ => h),(fun _ _ _ _ _ _ h _ => h),(fun _ _ _ _ _ _ h _ => h),(fun _ _ _ _ _ _ h _ => h),(fun _ _ _ _ _ _ h _ => h),(fun _ _ _ _ _ _ h _ => h),trivial⟩
          case h0 =>
           exact RiG.start
          case o0 => have e5 : A.tmps[5]?.getD undef = .slice (some ao) out.length oc := H.later 5 0 hf (by kernel_rfl);go_simp;exact hK _ _ (trivial) rfl (H.glob.keep rfl rfl rfl rfl rfl (by decide) (by decide) (by decide) (by decide) (by decide))
          case o1 => have e7 : A.tmps[7]?.getD undef = .int .i64 (p : Nat) := H.old 7 (by kernel_rfl);go_simp;exact hK _ _ (trivial) rfl (H.glob.keep rfl rfl rfl rfl rfl (by decide) (by decide) (by decide) (by decide) (by decide))
          case o2 => have e52 := H.is 0 52 rfl rfl rfl (deps_of' hd 0 (by kernel_rfl)) (by kernel_rfl);have e53 := H.is 1 53 rfl rfl rfl (deps_of' hd 1 (by kernel_rfl)) (by kernel_rfl);have hpo : p <= oc := Nat.le_trans hpl hoc;go_simp;exact hK _ _ (trivial) rfl (H.glob.keep rfl rfl rfl rfl rfl (by decide) (by decide) (by decide) (by decide) (by decide))
          case o3 => have e54 := H.is 2 54 rfl rfl rfl (deps_of' hd 2 (by kernel_rfl)) (by kernel_rfl);refine step_append_any W rfl (.const (.slice none 0 0)) (.tmp 54) 22 rfl w9.heap.size 25 i0 _ 1 8 Tryz.underlying22 hi hz0 hz1 hz2 rfl (by decide) (.slice none 0 0) 0 [] rfl (World.ownsRow_nil _ _ _ _) w9.heap.size (some ao) p oc xs (ev_tmp e54) (HXs.out.1.below H.glob.b) HXs.out.2.1 (by have := HXs.out.2.2;unfold maxLen;omega) (by have := HXs.out.2.2;omega) H.glob.b.size ?_;intro v' w' hown hg hat;exact hK _ _ trivial trivial (H.glob.s3 hf (by rw [H.frame,fill_size];exact of_decide_eq_true (by kernel_rfl)) (own_castK hown (by have := HXs.out.2.2;omega) rfl) hg)
          case o4 => have e0 : A.tmps[0]?.getD undef = .slice (some ad) l.length c := H.old 0 (by kernel_rfl);go_simp;exact hK _ _ (trivial) rfl (H.glob.keep rfl rfl rfl rfl rfl (by decide) (by decide) (by decide) (by decide) (by decide))
          case o5 => have e6 : A.tmps[6]?.getD undef = .int .i64 (k : Nat) := H.old 6 (by kernel_rfl);go_simp;exact hK _ _ (trivial) rfl (H.glob.keep rfl rfl rfl rfl rfl (by decide) (by decide) (by decide) (by decide) (by decide))
          case o6 => have e56 := H.is 4 56 rfl rfl rfl (deps_of' hd 4 (by kernel_rfl)) (by kernel_rfl);have e57 := H.is 5 57 rfl rfl rfl (deps_of' hd 5 (by kernel_rfl)) (by kernel_rfl);go_simp;exact hK _ _ (trivial) rfl (H.glob.keep rfl rfl rfl rfl rfl (by decide) (by decide) (by decide) (by decide) (by decide))
          case o7 => have e58 := H.is 6 58 rfl rfl rfl (deps_of' hd 6 (by kernel_rfl)) (by kernel_rfl);have d0 : W.cell? (ad.add k) = some (.int .u64 x) := ((HB9.out.trans (H.glob.b.mono HS9.out)).cell (p := ad.add k) (by rw [block_of_add];exact HC.out.1)).trans HC.out.2;go_simp;exact hK _ _ (trivial) rfl (H.glob.keep rfl rfl rfl rfl rfl (by decide) (by decide) (by decide) (by decide) (by decide))
          case o8 => have e59 := H.is 7 59 rfl rfl rfl (deps_of' hd 7 (by kernel_rfl)) (by kernel_rfl);have HG8 := H.glob.s8 hf (by rw [H.frame,fill_size];exact of_decide_eq_true (by kernel_rfl)) 25;go_simp;exact hK _ _ (trivial) trivial (HG8)
          case o9 => obtain ⟨v55,e55,q55⟩ := H.val 3 55 rfl rfl rfl (deps_of' hd 3 (by kernel_rfl)) (by kernel_rfl);obtain ⟨v60,e60,q60⟩ := H.val 8 60 rfl rfl rfl (deps_of' hd 8 (by kernel_rfl)) (by kernel_rfl);have d3 : L 3 = true := deps_of' hd 3 (by kernel_rfl);have d8 : L 8 = true := deps_of' hd 8 (by kernel_rfl);obtain ⟨g,eg,_,hcg⟩ := H.glob.p8 d8 hf;refine step_append_any W rfl (.tmp 55) (.tmp 60) 22 rfl w9.heap.size 25 i0 _ 1 8 Tryz.underlying22 hi hz0 hz1 hz2 rfl (by decide) _ xs.length xs (ev_tmp rfl) (H.glob.p3 d3 hf) (g + 1) (some ⟨g,0,none⟩) 1 1 [.int .u64 x] (ev_tmp eg) (reads_oneK hcg) (ints_oneCell .u64 [x]) (by have := HXs.out.2.2;unfold maxLen;omega) (by have := HXs.out.2.2;omega) H.glob.b.size ?_;intro v' w' hown hg hat;exact hK _ _ trivial trivial (H.glob.s9 hf d3 d8 (by rw [H.frame,fill_size];exact of_decide_eq_true (by kernel_rfl)) hown hg)
          case o10 => have e5 : A.tmps[5]?.getD undef = .slice (some ao) out.length oc := H.later 5 10 hf (by kernel_rfl);go_simp;exact hK _ _ (trivial) rfl (H.glob.keep rfl rfl rfl rfl rfl (by decide) (by decide) (by decide) (by decide) (by decide))
          case o11 => have e7 : A.tmps[7]?.getD undef = .int .i64 (p : Nat) := H.old 7 (by kernel_rfl);go_simp;exact hK _ _ (trivial) rfl (H.glob.keep rfl rfl rfl rfl rfl (by decide) (by decide) (by decide) (by decide) (by decide))
          case o12 => have e62 := H.is 10 62 rfl rfl rfl (deps_of' hd 10 (by kernel_rfl)) (by kernel_rfl);have e63 := H.is 11 63 rfl rfl rfl (deps_of' hd 11 (by kernel_rfl)) (by kernel_rfl);have hob := Hob.out;have hpl := HPl.out;go_simp;exact hK _ _ (trivial) rfl (H.glob.keep rfl rfl rfl rfl rfl (by decide) (by decide) (by decide) (by decide) (by decide))
          case o13 => obtain ⟨v61,e61,q61⟩ := H.val 9 61 rfl rfl rfl (deps_of' hd 9 (by kernel_rfl)) (by kernel_rfl);have e64 := H.is 12 64 rfl rfl rfl (deps_of' hd 12 (by kernel_rfl)) (by kernel_rfl);have d9 : L 9 = true := deps_of' hd 9 (by kernel_rfl);refine step_append_any W rfl (.tmp 61) (.tmp 64) 22 rfl w9.heap.size 25 i0 _ 1 8 Tryz.underlying22 hi hz0 hz1 hz2 rfl (by decide) _ (xs.length + 1) (xs ++ [.int .u64 x]) (ev_tmp rfl) (H.glob.p9 d9 hf) w9.heap.size _ (out.length - p) _ ys (ev_tmp e64) (HYs.out.1.below H.glob.b) HYs.out.2 (by have := HXs.out.2.2;unfold maxLen;omega) (by have := HXs.out.2.2;omega) H.glob.b.size ?_;intro v' w' hown hg hat;exact hK _ _ trivial trivial (H.glob.s13 hf d9 (by rw [H.frame,fill_size];exact of_decide_eq_true (by kernel_rfl)) (own_castK hown (by rw [HYl.out]) rfl) hg)
          case o14 => have d13 : L 13 = true := deps_of' hd 13 (by kernel_rfl);have HG := H.glob.s14 hf d13 (by rw [H.frame,fill_size];exact of_decide_eq_true (by kernel_rfl));obtain ⟨v65,e65⟩ : ∃ v65,A.tmps[65]?.getD undef = v65 := ⟨_,rfl⟩;rw [e65] at HG;go_simp;exact hK _ _ trivial trivial HG
          case he =>
           intro vs W hlen hv
           match vs,hlen,hv with
           | [x0_,x1_,x2_,x3_,x4_,x5_,x6_,x7_,x8_,x9_,x10_,x11_,x12_,x13_,x14_],_,hv =>
           obtain rfl : (.slice (some ao) out.length oc) = x0_ := by obtain ⟨z,h1,h2⟩ := hv 0 _ rfl;cases h1;exact h2.symm
           obtain rfl : (.int .i64 (p : Nat)) = x1_ := by obtain ⟨z,h1,h2⟩ := hv 1 _ rfl;cases h1;exact h2.symm
           obtain rfl : (.slice (some ao) p oc) = x2_ := by obtain ⟨z,h1,h2⟩ := hv 2 _ rfl;cases h1;exact h2.symm
           obtain rfl : (.slice (some ad) l.length c) = x4_ := by obtain ⟨z,h1,h2⟩ := hv 4 _ rfl;cases h1;exact h2.symm
           obtain rfl : (.int .i64 (k : Nat)) = x5_ := by obtain ⟨z,h1,h2⟩ := hv 5 _ rfl;cases h1;exact h2.symm
           obtain rfl : (.pointer (some (ad.add k))) = x6_ := by obtain ⟨z,h1,h2⟩ := hv 6 _ rfl;cases h1;exact h2.symm
           obtain rfl : (.int .u64 x) = x7_ := by obtain ⟨z,h1,h2⟩ := hv 7 _ rfl;cases h1;exact h2.symm
           obtain rfl : (.slice (some ao) out.length oc) = x10_ := by obtain ⟨z,h1,h2⟩ := hv 10 _ rfl;cases h1;exact h2.symm
           obtain rfl : (.int .i64 (p : Nat)) = x11_ := by obtain ⟨z,h1,h2⟩ := hv 11 _ rfl;cases h1;exact h2.symm
           obtain rfl : (.slice ob (out.length - p) (oc - p)) = x12_ := by obtain ⟨z,h1,h2⟩ := hv 12 _ rfl;cases h1;exact h2.symm
           intro L hall hG
           clear hv hlen
           obtain ⟨v,e65,e5,ho,hb⟩ := hG.fin (hall 13 (by decide)) (hall 14 (by decide))
           simp [fill,Act.put] at e65 e5
           subst e65
           subst e5
           have HO14 := Lib.hid ho
           have HB14 := Lib.hid hb
           clear hG hall ho hb
           simp only [fill,if_true]
           simp [Act.put]
           go_wp2_with (fail)
           go_roundw
           case rel => exact ⟨k + 1,insR out x,by omega,by go_num,Lib.hid (by have := HO.out;have := insR_len out x;omega),Lib.hid (by rw [<- HQ.out,risR_step hm hlt,HX.out]),Lib.hid (own_castK (own_mono HO14.out HS9.out) (by unfold insR;rw [Hp.out,if_neg (fun h => absurd (HY.out.symm.trans h.2) (by simpa using Hbe.out)),<- HXY.out.1,<- HXY.out.2];simp;omega) (by unfold insR;rw [Hp.out,if_neg (fun h => absurd (HY.out.symm.trans h.2) (by simpa using Hbe.out)),<- HXY.out.1,<- HXY.out.2];simp)),Lib.hid (HB9.out.trans (HB14.out.mono HB9.out.size))⟩
           case measure => simp [intOf];omega
     ·have b2 : ¬ (j : Int) < (out.length : Int) := by omega
      have HJ := Lib.hid hj
      clear hj
      go_wp2_with (fail)
      refine wp_region_vals [Is (.int .i64 (j : Nat)),Is (.slice oa out.length oc),Is (.int .i64 (out.length : Nat)),Is (.bool false),Is (.bool false),Any,Any,Any,Any,Any,Any,Any,Any,Any,Is (.bool false)]
       (fun _ _ _ => True) (fun _ W => Below wr.heap.size wr W) (by kernel_rfl) (by kernel_rfl) (by kernel_rfl) ?hst ?h0 ⟨?o0,?o1,?o2,?o3,?o4,?o5,?o6,?o7,?o8,?o9,?o10,?o11,?o12,?o13,?o14,trivial⟩ ?he
      any_goals (intro L vs A W H hf hd K hK)
      case hst => repeat' (first | exact trivial | refine ⟨fun _ _ _ _ _ _ h _ => h,?_⟩)
      case h0 =>
       exact (Below.refl _ wr).drew
      case o0 => have e7 : A.tmps[7]?.getD undef = .int .i64 (j : Nat) := H.old 7 (by kernel_rfl);go_simp;exact hK _ _ (trivial) rfl (H.glob)
      case o1 => have e5 : A.tmps[5]?.getD undef = .slice oa out.length oc := H.old 5 (by kernel_rfl);go_simp;exact hK _ _ (trivial) rfl (H.glob)
      case o2 => have e21 := H.iz hd 1 21 rfl rfl rfl (by kernel_rfl);go_simp;exact hK _ _ (trivial) rfl (H.glob)
      case o3 => have e20 := H.iz hd 0 20 rfl rfl rfl (by kernel_rfl);have e22 := H.iz hd 2 22 rfl rfl rfl (by kernel_rfl);go_simp;exact hK _ _ (trivial) rfl (H.glob)
      case o4 => have e23 := H.iz hd 3 23 rfl rfl rfl (by kernel_rfl);go_simp;exact hK _ _ (trivial) rfl (H.glob)
      case o5 => have e24 := H.iz hd 4 24 rfl rfl rfl (by kernel_rfl);refine if_unwanted (j := 4) (s := 24) rfl rfl rfl e24 rfl ?_;exact hK _ _ (trivial) trivial (H.glob)
      case o6 => have e24 := H.iz hd 4 24 rfl rfl rfl (by kernel_rfl);refine if_unwanted (j := 4) (s := 24) rfl rfl rfl e24 rfl ?_;exact hK _ _ (trivial) trivial (H.glob)
      case o7 => have e24 := H.iz hd 4 24 rfl rfl rfl (by kernel_rfl);refine if_unwanted (j := 4) (s := 24) rfl rfl rfl e24 rfl ?_;exact hK _ _ (trivial) trivial (H.glob)
      case o8 => have e24 := H.iz hd 4 24 rfl rfl rfl (by kernel_rfl);refine if_unwanted (j := 4) (s := 24) rfl rfl rfl e24 rfl ?_;exact hK _ _ (trivial) trivial (H.glob)
      case o9 => have e24 := H.iz hd 4 24 rfl rfl rfl (by kernel_rfl);refine if_unwanted (j := 4) (s := 24) rfl rfl rfl e24 rfl ?_;exact hK _ _ (trivial) trivial (H.glob)
      case o10 => have e24 := H.iz hd 4 24 rfl rfl rfl (by kernel_rfl);refine if_unwanted (j := 4) (s := 24) rfl rfl rfl e24 rfl ?_;exact hK _ _ (trivial) trivial (H.glob)
      case o11 => have e24 := H.iz hd 4 24 rfl rfl rfl (by kernel_rfl);refine if_unwanted (j := 4) (s := 24) rfl rfl rfl e24 rfl ?_;exact hK _ _ (trivial) trivial (H.glob)
      case o12 => have e24 := H.iz hd 4 24 rfl rfl rfl (by kernel_rfl);refine if_unwanted (j := 4) (s := 24) rfl rfl rfl e24 rfl ?_;exact hK _ _ (trivial) trivial (H.glob)
      case o13 => have e24 := H.iz hd 4 24 rfl rfl rfl (by kernel_rfl);refine if_unwanted (j := 4) (s := 24) rfl rfl rfl e24 rfl ?_;exact hK _ _ (trivial) trivial (H.glob)
      case o14 => have e24 := H.iz hd 4 24 rfl rfl rfl (by kernel_rfl);obtain ⟨v33,e33,q33⟩ := H.val 13 33 rfl rfl rfl (deps_of' hd 13 (by kernel_rfl)) (by kernel_rfl);go_simp;exact hK _ _ (trivial) rfl (H.glob)
      case he =>
       intro vs W hlen hv
       match vs,hlen,hv with
       | [x0_,x1_,x2_,x3_,x4_,x5_,x6_,x7_,x8_,x9_,x10_,x11_,x12_,x13_,x14_],_,hv =>
       obtain rfl := isv hv 0 rfl rfl;obtain rfl := isv hv 1 rfl rfl;obtain rfl := isv hv 2 rfl rfl;obtain rfl := isv hv 3 rfl rfl;obtain rfl := isv hv 4 rfl rfl;obtain rfl := isv hv 14 rfl rfl
       intro L hall hG
       clear hv hlen
       have HB2 := Lib.hid hG
       clear hG hall
       simp only [fill,if_true]
       obtain rfl : p = j := by have := HJ.out;have := HP.out.1;omega
       have HI8 := Lib.hid (HI2.out.trans (HB2.out.mono HI2.out.size))
       have HB8 := Lib.hid (HB.out.trans (HI8.out.mono HB.out.size))
       have HS8 := Lib.hid HB8.out.size
       rename World => w8
       clear HB2 HI2 HB1 HS1 hv
       simp [Act.put]
       go_wp2_with (fail)
       refine wp_region_vals [Is (.int .i64 (p : Nat)),Is (.slice oa out.length oc),Is (.int .i64 (out.length : Nat)),Is (.bool false),Is (.bool false),Any,Any,Any,Any,Any,Any,Any,Any,Any,Is (.bool false)]
        (fun _ _ _ => True) (fun _ W => Below w8.heap.size w8 W) (by kernel_rfl) (by kernel_rfl) (by kernel_rfl) ?hst ?h0 ⟨?o0,?o1,?o2,?o3,?o4,?o5,?o6,?o7,?o8,?o9,?o10,?o11,?o12,?o13,?o14,trivial⟩ ?he
       any_goals (intro L vs A W H hf hd K hK)
       case hst => repeat' (first | exact trivial | refine ⟨fun _ _ _ _ _ _ h _ => h,?_⟩)
       case h0 =>
        exact (Below.refl _ w8).drew
       case o0 => have e7 : A.tmps[7]?.getD undef = .int .i64 (p : Nat) := H.old 7 (by kernel_rfl);go_simp;exact hK _ _ (trivial) rfl (H.glob)
       case o1 => have e5 : A.tmps[5]?.getD undef = .slice oa out.length oc := H.old 5 (by kernel_rfl);go_simp;exact hK _ _ (trivial) rfl (H.glob)
       case o2 => have e38 := H.iz hd 1 38 rfl rfl rfl (by kernel_rfl);go_simp;exact hK _ _ (trivial) rfl (H.glob)
       case o3 => have e37 := H.iz hd 0 37 rfl rfl rfl (by kernel_rfl);have e39 := H.iz hd 2 39 rfl rfl rfl (by kernel_rfl);go_simp;exact hK _ _ (trivial) rfl (H.glob)
       case o4 => have e40 := H.iz hd 3 40 rfl rfl rfl (by kernel_rfl);go_simp;exact hK _ _ (trivial) rfl (H.glob)
       case o5 => have e41 := H.iz hd 4 41 rfl rfl rfl (by kernel_rfl);refine if_unwanted (j := 4) (s := 41) rfl rfl rfl e41 rfl ?_;exact hK _ _ (trivial) trivial (H.glob)
       case o6 => have e41 := H.iz hd 4 41 rfl rfl rfl (by kernel_rfl);refine if_unwanted (j := 4) (s := 41) rfl rfl rfl e41 rfl ?_;exact hK _ _ (trivial) trivial (H.glob)
       case o7 => have e41 := H.iz hd 4 41 rfl rfl rfl (by kernel_rfl);refine if_unwanted (j := 4) (s := 41) rfl rfl rfl e41 rfl ?_;exact hK _ _ (trivial) trivial (H.glob)
       case o8 => have e41 := H.iz hd 4 41 rfl rfl rfl (by kernel_rfl);refine if_unwanted (j := 4) (s := 41) rfl rfl rfl e41 rfl ?_;exact hK _ _ (trivial) trivial (H.glob)
       case o9 => have e41 := H.iz hd 4 41 rfl rfl rfl (by kernel_rfl);refine if_unwanted (j := 4) (s := 41) rfl rfl rfl e41 rfl ?_;exact hK _ _ (trivial) trivial (H.glob)
       case o10 => have e41 := H.iz hd 4 41 rfl rfl rfl (by kernel_rfl);refine if_unwanted (j := 4) (s := 41) rfl rfl rfl e41 rfl ?_;exact hK _ _ (trivial) trivial (H.glob)
       case o11 => have e41 := H.iz hd 4 41 rfl rfl rfl (by kernel_rfl);refine if_unwanted (j := 4) (s := 41) rfl rfl rfl e41 rfl ?_;exact hK _ _ (trivial) trivial (H.glob)
       case o12 => have e41 := H.iz hd 4 41 rfl rfl rfl (by kernel_rfl);refine if_unwanted (j := 4) (s := 41) rfl rfl rfl e41 rfl ?_;exact hK _ _ (trivial) trivial (H.glob)
       case o13 => have e41 := H.iz hd 4 41 rfl rfl rfl (by kernel_rfl);refine if_unwanted (j := 4) (s := 41) rfl rfl rfl e41 rfl ?_;exact hK _ _ (trivial) trivial (H.glob)
       case o14 => have e41 := H.iz hd 4 41 rfl rfl rfl (by kernel_rfl);obtain ⟨v50,e50,q50⟩ := H.val 13 50 rfl rfl rfl (deps_of' hd 13 (by kernel_rfl)) (by kernel_rfl);go_simp;exact hK _ _ (trivial) rfl (H.glob)
       case he =>
        intro vs W hlen hv
        match vs,hlen,hv with
        | [x0_,x1_,x2_,x3_,x4_,x5_,x6_,x7_,x8_,x9_,x10_,x11_,x12_,x13_,x14_],_,hv =>
        obtain rfl := isv hv 0 rfl rfl;obtain rfl := isv hv 1 rfl rfl;obtain rfl := isv hv 2 rfl rfl;obtain rfl := isv hv 3 rfl rfl;obtain rfl := isv hv 4 rfl rfl;obtain rfl := isv hv 14 rfl rfl
        intro L hall hG
        clear hv hlen
        have HB3 := Lib.hid hG
        clear hG hall
        simp only [fill,if_true]
        simp [Act.put]
        go_wp2_with (fail)
        have HI9 := Lib.hid (HI8.out.trans (HB3.out.mono HI8.out.size))
        have HB9 := Lib.hid (HB.out.trans (HI9.out.mono HB.out.size))
        have HS9 := Lib.hid HB9.out.size
        rename World => w9
        have hrd := ((Reads.of_own HW.out).below HI9.out).more HI9.out.size
        have hoc : out.length <= oc := own_capK HW.out
        have hpl : p <= out.length := HP.out.1
        obtain ⟨ob,hob⟩ : ∃ ob,(if oc = p then oa else oa.map (·.add p)) = ob := ⟨_,rfl⟩
        have hcut := hrd.cut (k := p) (cap := oc) hpl hoc
        rw [Nat.mul_one] at hcut
        have hcut2 : Reads w9 w9.heap.size 1 ob (out.length - p) ((out.map (Value.int .u64)).drop p) := by rw [<- hob];exact hcut
        obtain ⟨xs,hxs⟩ : ∃ xs,(out.map (Value.int .u64)).take p = xs := ⟨_,rfl⟩
        obtain ⟨ys,hys⟩ : ∃ ys,(out.map (Value.int .u64)).drop p = ys := ⟨_,rfl⟩
        have HXY := Lib.hid (And.intro hxs hys)
        have HXs := Lib.hid (show Reads w9 w9.heap.size 1 oa p xs /\ (∀ u ∈ xs,u.oneCell' = true) /\ (xs.length = p /\ xs.length <= 1000 /\ ys.length <= 1000) from ⟨by rw [<- hxs];exact hrd.takeK hpl,by rw [<- hxs];exact fun u hu => ints_oneCell .u64 out u (List.mem_of_mem_take hu),by rw [<- hxs,<- hys];simp;omega⟩)
        have HYs := Lib.hid (show Reads w9 w9.heap.size 1 ob (out.length - p) ys /\ (∀ u ∈ ys,u.oneCell' = true) from ⟨by rw [<- hys];exact hcut2,by rw [<- hys];exact fun u hu => ints_oneCell .u64 out u (List.mem_of_mem_drop hu)⟩)
        have HYl := Lib.hid (show ys.length = out.length - p by rw [<- hys];simp)
        have HPl := Lib.hid hpl
        have Hob := Lib.hid hob
        clear hrd hcut hcut2 hxs hys hob HB3 hv
        obtain ⟨i0,hi,hz0,hz1,hz2⟩ := info_parts infoUK
        go_wp2_with (fail)
        refine wp_region_valsA [Is (.slice oa out.length oc),Is (.int .i64 (p : Nat)),Is (.slice oa p oc),Any,Is (.slice (some ad) l.length c),Is (.int .i64 (k : Nat)),Is (.pointer (some (ad.add k))),Is (.int .u64 x),Any,Any,Is (.slice oa out.length oc),Is (.int .i64 (p : Nat)),Is (.slice ob (out.length - p) (oc - p)),Any,Any]
         (fun _ _ _ => True) (fun L A W => RiG w9 xs ys x L A W) (by kernel_rfl) (by kernel_rfl) (by kernel_rfl) ?hst ?h0 ⟨?o0,?o1,?o2,?o3,?o4,?o5,?o6,?o7,?o8,?o9,?o10,?o11,?o12,?o13,?o14,trivial⟩ ?he
        any_goals (intro L vs A W H hf hd K hK)
        case hst =>
         exact ⟨(fun _ _ _ _ _ _ h _ => h),(fun _ _ _ _ _ _ h _ => h),(fun _ _ _ _ _ _ h _ => h),(fun _ _ _ _ _ _ h _ => h),(fun _ _ _ _ _ _ h _ => h),(fun _ _ _ _ _ _ h _ => h),(fun _ _ _ _ _ _ h _ => h),(fun _ _ _ _ _ _ h _ => h),(fun _ _ _ _ _ _ h _ => h),(fun _ _ _ _ _ _ h _ => h),(fun _ _ _ _ _ _ h _ => h),(fun _ _ _ _ _ _ h _ => h),(fun _ _ _ _ _ _ h _ => h),(fun _ _ _ _ _ _ h _ => h),(fun _ _ _ _ _ _ h _ => h),trivial⟩
        case h0 =>
         exact RiG.start
        case o0 => have e5 : A.tmps[5]?.getD undef = .slice oa out.length oc := H.later 5 0 hf (by kernel_rfl);go_simp;exact hK _ _ (trivial) rfl (H.glob.keep rfl rfl rfl rfl rfl (by decide) (by decide) (by decide) (by decide) (by decide))
        case o1 => have e7 : A.tmps[7]?.getD undef = .int .i64 (p : Nat) := H.old 7 (by kernel_rfl);go_simp;exact hK _ _ (trivial) rfl (H.glob.keep rfl rfl rfl rfl rfl (by decide) (by decide) (by decide) (by decide) (by decide))
        case o2 => have e52 := H.is 0 52 rfl rfl rfl (deps_of' hd 0 (by kernel_rfl)) (by kernel_rfl);have e53 := H.is 1 53 rfl rfl rfl (deps_of' hd 1 (by kernel_rfl)) (by kernel_rfl);have hpo : p <= oc := Nat.le_trans hpl hoc;go_simp;exact hK _ _ (trivial) rfl (H.glob.keep rfl rfl rfl rfl rfl (by decide) (by decide) (by decide) (by decide) (by decide))
        case o3 => have e54 := H.is 2 54 rfl rfl rfl (deps_of' hd 2 (by kernel_rfl)) (by kernel_rfl);refine step_append_any W rfl (.const (.slice none 0 0)) (.tmp 54) 22 rfl w9.heap.size 25 i0 _ 1 8 Tryz.underlying22 hi hz0 hz1 hz2 rfl (by decide) (.slice none 0 0) 0 [] rfl (World.ownsRow_nil _ _ _ _) w9.heap.size oa p oc xs (ev_tmp e54) (HXs.out.1.below H.glob.b) HXs.out.2.1 (by have := HXs.out.2.2;unfold maxLen;omega) (by have := HXs.out.2.2;omega) H.glob.b.size ?_;intro v' w' hown hg hat;exact hK _ _ trivial trivial (H.glob.s3 hf (by rw [H.frame,fill_size];exact of_decide_eq_true (by kernel_rfl)) (own_castK hown (by have := HXs.out.2.2;omega) rfl) hg)
        case o4 => have e0 : A.tmps[0]?.getD undef = .slice (some ad) l.length c := H.old 0 (by kernel_rfl);go_simp;exact hK _ _ (trivial) rfl (H.glob.keep rfl rfl rfl rfl rfl (by decide) (by decide) (by decide) (by decide) (by decide))
        case o5 => have e6 : A.tmps[6]?.getD undef = .int .i64 (k : Nat) := H.old 6 (by kernel_rfl);go_simp;exact hK _ _ (trivial) rfl (H.glob.keep rfl rfl rfl rfl rfl (by decide) (by decide) (by decide) (by decide) (by decide))
        case o6 => have e56 := H.is 4 56 rfl rfl rfl (deps_of' hd 4 (by kernel_rfl)) (by kernel_rfl);have e57 := H.is 5 57 rfl rfl rfl (deps_of' hd 5 (by kernel_rfl)) (by kernel_rfl);go_simp;exact hK _ _ (trivial) rfl (H.glob.keep rfl rfl rfl rfl rfl (by decide) (by decide) (by decide) (by decide) (by decide))
        case o7 => have e58 := H.is 6 58 rfl rfl rfl (deps_of' hd 6 (by kernel_rfl)) (by kernel_rfl);have d0 : W.cell? (ad.add k) = some (.int .u64 x) := ((HB9.out.trans (H.glob.b.mono HS9.out)).cell (p := ad.add k) (by rw [block_of_add];exact HC.out.1)).trans HC.out.2;go_simp;exact hK _ _ (trivial) rfl (H.glob.keep rfl rfl rfl rfl rfl (by decide) (by decide) (by decide) (by decide) (by decide))
        case o8 => have e59 := H.is 7 59 rfl rfl rfl (deps_of' hd 7 (by kernel_rfl)) (by kernel_rfl);have HG8 := H.glob.s8 hf (by rw [H.frame,fill_size];exact of_decide_eq_true (by kernel_rfl)) 25;go_simp;exact hK _ _ (trivial) trivial (HG8)
        case o9 => obtain ⟨v55,e55,q55⟩ := H.val 3 55 rfl rfl rfl (deps_of' hd 3 (by kernel_rfl)) (by kernel_rfl);obtain ⟨v60,e60,q60⟩ := H.val 8 60 rfl rfl rfl (deps_of' hd 8 (by kernel_rfl)) (by kernel_rfl);have d3 : L 3 = true := deps_of' hd 3 (by kernel_rfl);have d8 : L 8 = true := deps_of' hd 8 (by kernel_rfl);obtain ⟨g,eg,_,hcg⟩ := H.glob.p8 d8 hf;refine step_append_any W rfl (.tmp 55) (.tmp 60) 22 rfl w9.heap.size 25 i0 _ 1 8 Tryz.underlying22 hi hz0 hz1 hz2 rfl (by decide) _ xs.length xs (ev_tmp rfl) (H.glob.p3 d3 hf) (g + 1) (some ⟨g,0,none⟩) 1 1 [.int .u64 x] (ev_tmp eg) (reads_oneK hcg) (ints_oneCell .u64 [x]) (by have := HXs.out.2.2;unfold maxLen;omega) (by have := HXs.out.2.2;omega) H.glob.b.size ?_;intro v' w' hown hg hat;exact hK _ _ trivial trivial (H.glob.s9 hf d3 d8 (by rw [H.frame,fill_size];exact of_decide_eq_true (by kernel_rfl)) hown hg)
        case o10 => have e5 : A.tmps[5]?.getD undef = .slice oa out.length oc := H.later 5 10 hf (by kernel_rfl);go_simp;exact hK _ _ (trivial) rfl (H.glob.keep rfl rfl rfl rfl rfl (by decide) (by decide) (by decide) (by decide) (by decide))
        case o11 => have e7 : A.tmps[7]?.getD undef = .int .i64 (p : Nat) := H.old 7 (by kernel_rfl);go_simp;exact hK _ _ (trivial) rfl (H.glob.keep rfl rfl rfl rfl rfl (by decide) (by decide) (by decide) (by decide) (by decide))
        case o12 => have e62 := H.is 10 62 rfl rfl rfl (deps_of' hd 10 (by kernel_rfl)) (by kernel_rfl);have e63 := H.is 11 63 rfl rfl rfl (deps_of' hd 11 (by kernel_rfl)) (by kernel_rfl);have hob := Hob.out;have hpl := HPl.out;go_simp;exact hK _ _ (trivial) rfl (H.glob.keep rfl rfl rfl rfl rfl (by decide) (by decide) (by decide) (by decide) (by decide))
        case o13 => obtain ⟨v61,e61,q61⟩ := H.val 9 61 rfl rfl rfl (deps_of' hd 9 (by kernel_rfl)) (by kernel_rfl);have e64 := H.is 12 64 rfl rfl rfl (deps_of' hd 12 (by kernel_rfl)) (by kernel_rfl);have d9 : L 9 = true := deps_of' hd 9 (by kernel_rfl);refine step_append_any W rfl (.tmp 61) (.tmp 64) 22 rfl w9.heap.size 25 i0 _ 1 8 Tryz.underlying22 hi hz0 hz1 hz2 rfl (by decide) _ (xs.length + 1) (xs ++ [.int .u64 x]) (ev_tmp rfl) (H.glob.p9 d9 hf) w9.heap.size _ (out.length - p) _ ys (ev_tmp e64) (HYs.out.1.below H.glob.b) HYs.out.2 (by have := HXs.out.2.2;unfold maxLen;omega) (by have := HXs.out.2.2;omega) H.glob.b.size ?_;intro v' w' hown hg hat;exact hK _ _ trivial trivial (H.glob.s13 hf d9 (by rw [H.frame,fill_size];exact of_decide_eq_true (by kernel_rfl)) (own_castK hown (by rw [HYl.out]) rfl) hg)
        case o14 => have d13 : L 13 = true := deps_of' hd 13 (by kernel_rfl);have HG := H.glob.s14 hf d13 (by rw [H.frame,fill_size];exact of_decide_eq_true (by kernel_rfl));obtain ⟨v65,e65⟩ : ∃ v65,A.tmps[65]?.getD undef = v65 := ⟨_,rfl⟩;rw [e65] at HG;go_simp;exact hK _ _ trivial trivial HG
        case he =>
         intro vs W hlen hv
         match vs,hlen,hv with
         | [x0_,x1_,x2_,x3_,x4_,x5_,x6_,x7_,x8_,x9_,x10_,x11_,x12_,x13_,x14_],_,hv =>
         obtain rfl : (.slice oa out.length oc) = x0_ := by obtain ⟨z,h1,h2⟩ := hv 0 _ rfl;cases h1;exact h2.symm
         obtain rfl : (.int .i64 (p : Nat)) = x1_ := by obtain ⟨z,h1,h2⟩ := hv 1 _ rfl;cases h1;exact h2.symm
         obtain rfl : (.slice oa p oc) = x2_ := by obtain ⟨z,h1,h2⟩ := hv 2 _ rfl;cases h1;exact h2.symm
         obtain rfl : (.slice (some ad) l.length c) = x4_ := by obtain ⟨z,h1,h2⟩ := hv 4 _ rfl;cases h1;exact h2.symm
         obtain rfl : (.int .i64 (k : Nat)) = x5_ := by obtain ⟨z,h1,h2⟩ := hv 5 _ rfl;cases h1;exact h2.symm
         obtain rfl : (.pointer (some (ad.add k))) = x6_ := by obtain ⟨z,h1,h2⟩ := hv 6 _ rfl;cases h1;exact h2.symm
         obtain rfl : (.int .u64 x) = x7_ := by obtain ⟨z,h1,h2⟩ := hv 7 _ rfl;cases h1;exact h2.symm
         obtain rfl : (.slice oa out.length oc) = x10_ := by obtain ⟨z,h1,h2⟩ := hv 10 _ rfl;cases h1;exact h2.symm
         obtain rfl : (.int .i64 (p : Nat)) = x11_ := by obtain ⟨z,h1,h2⟩ := hv 11 _ rfl;cases h1;exact h2.symm
         obtain rfl : (.slice ob (out.length - p) (oc - p)) = x12_ := by obtain ⟨z,h1,h2⟩ := hv 12 _ rfl;cases h1;exact h2.symm
         intro L hall hG
         clear hv hlen
         obtain ⟨v,e65,e5,ho,hb⟩ := hG.fin (hall 13 (by decide)) (hall 14 (by decide))
         simp [fill,Act.put] at e65 e5
         subst e65
         subst e5
         have HO14 := Lib.hid ho
         have HB14 := Lib.hid hb
         clear hG hall ho hb
         simp only [fill,if_true]
         simp [Act.put]
         go_wp2_with (fail)
         go_roundw
         case rel => exact ⟨k + 1,insR out x,by omega,by go_num,Lib.hid (by have := HO.out;have := insR_len out x;omega),Lib.hid (by rw [<- HQ.out,risR_step hm hlt,HX.out]),Lib.hid (own_castK (own_mono HO14.out HS9.out) (by unfold insR;rw [Hp.out,if_neg (fun h => hjo h.1),<- HXY.out.1,<- HXY.out.2];simp;omega) (by unfold insR;rw [Hp.out,if_neg (fun h => hjo h.1),<- HXY.out.1,<- HXY.out.2];simp)),Lib.hid (HB9.out.trans (HB14.out.mono HB9.out.size))⟩
         case measure => simp [intOf];omega
   ·have HM := Lib.hid (show risR most [] l = out by rw [<- HQ.out];exact risR_full hm _)
    go_wp2_with (fail)
    go_ret
    exact ⟨_,rfl,by rw [HM.out];exact HW.out,HB.out⟩
  ·have b1 : ¬ (k : Int) < (l.length : Int) := by omega
   have HM := Lib.hid (show risR most [] l = out by rw [<- HQ.out,List.drop_eq_nil_of_le (by omega)];rfl)
   go_wp2_with (fail)
   go_ret
   exact ⟨_,rfl,by rw [HM.out];exact HW.out,HB.out⟩
end Go.Proofs.YtodgfbjjjgohgaaGreat
