/-
 A LEAF BETWEEN A SWAP's STORES: the stores between the walk's steps;the law WalkWhile.
-/
import Derived.Test.YtodgfbjjjgohgaaGreatYoZ
namespace Go.Proofs.YtodgfbjjjgohgaaGreat
open Go.RowKit
set_option linter.unusedVariables false

theorem getD_set (l : List Int) (i j : Nat) (v : Int) : (l.set i v).getD j 0 = if j = i /\ i < l.length then v else l.getD j 0 := by
 rw [List.getD_eq_getElem?_getD,List.getD_eq_getElem?_getD,List.getElem?_set]
 by_cases h : i = j
 ·subst h
  by_cases h2 : i < l.length
  ·rw [if_pos rfl,if_pos h2,if_pos ⟨rfl,h2⟩];rfl
  ·rw [if_pos rfl,if_neg h2,if_neg (fun e => h2 e.2),List.getElem?_eq_none (by omega)]
 ·rw [if_neg h,if_neg (fun e => h e.1.symm)]
def swV (vs : List Int) (b : Nat) (ptr : Int) : Nat -> List Int
 | 0 => vs
 | 1 => vs.set (b + 3) 1
 | 2 => (vs.set (b + 3) 1).set (b + 9) ptr
 | _ + 3 => ((vs.set (b + 3) 1).set (b + 9) ptr).set (b + 3) 2
theorem swV_len (vs : List Int) (b : Nat) (ptr : Int) (τ : Nat) : (swV vs b ptr τ).length = vs.length := by
 match τ with
 | 0 => rfl
 | 1 => simp [swV]
 | 2 => simp [swV]
 | _ + 3 => simp [swV]
theorem swV_other (vs : List Int) (b : Nat) (ptr : Int) (τ j : Nat) (h1 : j ≠ b + 3) (h2 : j ≠ b + 9) : (swV vs b ptr τ).getD j 0 = vs.getD j 0 := by
 match τ with
 | 0 => rfl
 | 1 => unfold swV;rw [getD_set,if_neg (fun e => h1 e.1)]
 | 2 => unfold swV;rw [getD_set,if_neg (fun e => h2 e.1),getD_set,if_neg (fun e => h1 e.1)]
 | _ + 3 => unfold swV;rw [getD_set,if_neg (fun e => h1 e.1),getD_set,if_neg (fun e => h2 e.1),getD_set,if_neg (fun e => h1 e.1)]
def swN (n : Nd) (ptr : Int) (τ : Nat) : Nd := { n with ct := if τ = 0 then n.ct else if τ <= 2 then 1 else 2,p := fun i => if i = 0 /\ 2 <= τ then ptr else n.p i }
theorem fullW_sw (n : Nd) (ptr : Int) (τ : Nat) (q : Nat) (hq : q < 24) : fullW (swN n ptr τ) q = if q = 3 then (swN n ptr τ).ct else if q = 9 then (swN n ptr τ).p 0 else fullW n q := by
 by_cases h3 : q = 3
 ·subst h3;rw [if_pos rfl];rfl
 ·rw [if_neg h3]
  by_cases h9 : q = 9
  ·subst h9;rw [if_pos rfl];rfl
  ·rw [if_neg h9]
   unfold fullW
   rw [if_neg h3,if_neg h3]
   by_cases h0 : q = 0
   ·rw [if_pos h0,if_pos h0];rfl
   rw [if_neg h0,if_neg h0]
   by_cases h1 : q = 1
   ·rw [if_pos h1,if_pos h1];rfl
   rw [if_neg h1,if_neg h1]
   by_cases h2 : q = 2
   ·rw [if_pos h2,if_pos h2];rfl
   rw [if_neg h2,if_neg h2]
   by_cases h4 : q = 4
   ·rw [if_pos h4,if_pos h4];rfl
   rw [if_neg h4,if_neg h4]
   by_cases h8 : q < 8
   ·rw [if_pos h8,if_pos h8]
   rw [if_neg h8,if_neg h8]
   by_cases he : q % 2 = 0
   ·rw [if_pos he,if_pos he];rfl
   ·rw [if_neg he,if_neg he]
    show (if (q - 9) / 2 = 0 /\ 2 <= τ then ptr else n.p ((q - 9) / 2)) = _
    rw [if_neg (by omega)]
theorem swV_at {vs : List Int} {a : Nat} {n : Nd} (h : NdAt vs a n) (ptr : Int) (τ q : Nat) (hq : q < 24) : (swV vs (a / 8) ptr τ).getD (a / 8 + q) 0 = fullW (swN n ptr τ) q := by
 have hl := h.lt
 have ha := h.al
 rw [fullW_sw n ptr τ q hq]
 by_cases h3 : q = 3
 ·subst h3
  rw [if_pos rfl]
  match τ with
  | 0 => exact h.wd 3 (by decide)
  | 1 => unfold swV;rw [getD_set,if_pos ⟨rfl,by omega⟩];rfl
  | 2 => unfold swV;rw [getD_set,if_neg (fun e => by omega),getD_set,if_pos ⟨rfl,by omega⟩];rfl
  | t + 3 =>
   unfold swV;rw [getD_set,if_pos ⟨rfl,by simp;omega⟩]
   show _ = if t + 3 = 0 then n.ct else if t + 3 <= 2 then (1 : Int) else 2
   rw [if_neg (by omega),if_neg (by omega)]
 ·rw [if_neg h3]
  by_cases h9 : q = 9
  ·subst h9
   rw [if_pos rfl]
   have h0 : vs.getD (a / 8 + 9) 0 = n.p 0 := (h.wd 9 (by decide)).trans rfl
   match τ with
   | 0 => exact h0
   | 1 => unfold swV;rw [getD_set,if_neg (fun e => by omega)];exact h0
   | 2 => unfold swV;rw [getD_set,if_pos ⟨rfl,by simp;omega⟩];rfl
   | t + 3 =>
    unfold swV;rw [getD_set,if_neg (fun e => by omega),getD_set,if_pos ⟨rfl,by simp;omega⟩]
    show _ = if 0 = 0 /\ 2 <= t + 3 then ptr else n.p 0
    rw [if_pos ⟨rfl,by omega⟩]
  ·rw [if_neg h9,swV_other vs (a / 8) ptr τ (a / 8 + q) (by omega) (by omega)]
   exact h.wd q hq
theorem swN_z {n : Nd} (h : NdZ n) {ptr : Int} (hp : n.p 0 ≠ 0) (hq : ptr ≠ 0) (τ : Nat) : NdZ (swN n ptr τ) := by
 have h8 := n.len_le
 have h0 : 1 <= n.len := by
  rcases Nat.eq_zero_or_pos n.len with e | e
  ·have := Nd.p_len n (by omega)
   rw [e] at this
   exact absurd this hp
  ·exact e
 have hpn : ∀ j,(swN n ptr τ).p j = if j = 0 /\ 2 <= τ then ptr else n.p j := fun _ => rfl
 have hl : (swN n ptr τ).len = n.len := len_ofK h8 (fun j hj => by
  rw [hpn]
  split
  ·exact hq
  ·exact Nd.p_lt n j hj) (fun hc => by rw [hpn,if_neg (by omega)];exact Nd.p_len n hc)
 intro j hj
 rw [hl] at hj
 refine ⟨(h j hj).1,?_⟩
 rw [hpn,if_neg (by omega)]
 exact (h j hj).2
section
variable {d : AD} {slabs per lag : Nat} {keys : List Int} {l0 : List (Int × Int)} {kd cn : Nat -> Nat}
theorem Built.apart (hB : Built d slabs per lag keys l0 kd cn) {L M : Nat} {R Q : List (Nat × Nd)} {x y : Nat × Nd} (hR : d.lv[L]? = some R) (hQ : d.lv[M]? = some Q) (hx : x ∈ R) (hy : y ∈ Q) (hne : x.1 ≠ y.1) {q : Nat} (hq : q < 24) : x.1 / 8 + q < y.1 / 8 ∨ y.1 / 8 + 24 <= x.1 / 8 + q :=
 slots_apart hB.i.n.i (hB.i.n.st R (List.mem_of_getElem? hR) x hx).1 (hB.i.n.st Q (List.mem_of_getElem? hQ) y hy).1 hne hq
theorem Built.same (hB : Built d slabs per lag keys l0 kd cn) {L M i k : Nat} {R Q : List (Nat × Nd)} {x y : Nat × Nd} (hR : d.lv[L]? = some R) (hQ : d.lv[M]? = some Q) (hx : R[i]? = some x) (hy : Q[k]? = some y) (he : x.1 = y.1) : L = M /\ i = k /\ x = y := by
 have h1 := (hB.at hR (List.mem_of_getElem? hx)).wd 0 (by decide)
 have h2 := (hB.at hQ (List.mem_of_getElem? hy)).wd 0 (by decide)
 rw [he] at h1
 rw [h1] at h2
 obtain ⟨l1,g1⟩ := hB.i.rw L R hR
 obtain ⟨l2,g2⟩ := hB.i.rw M Q hQ
 have e1 : fullW x.2 0 = tagM + x.2.lv := rfl
 have e2 : fullW y.2 0 = tagM + y.2.lv := rfl
 rw [e1,e2,(g1.p.lvl hx).1,(g2.p.lvl hy).1] at h2
 have hLM : L = M := by omega
 subst hLM
 obtain rfl : R = Q := Option.some.inj (hR.symm.trans hQ)
 have n1 : (R.map (·.1))[i]? = some x.1 := by rw [List.getElem?_map,hx];rfl
 have n2 : (R.map (·.1))[k]? = some y.1 := by rw [List.getElem?_map,hy];rfl
 have l1 := (List.getElem?_eq_some_iff.1 n1).1
 have l2 := (List.getElem?_eq_some_iff.1 n2).1
 have hnd := List.pairwise_iff_getElem.1 g1.nd
 have hik : i = k := by
  rcases Nat.lt_trichotomy i k with h | h | h
  ·have := hnd _ _ l1 l2 h
   rw [(List.getElem?_eq_some_iff.1 n1).2,(List.getElem?_eq_some_iff.1 n2).2] at this
   exact absurd he this
  ·exact h
  ·have := hnd _ _ l2 l1 h
   rw [(List.getElem?_eq_some_iff.1 n1).2,(List.getElem?_eq_some_iff.1 n2).2] at this
   exact absurd he.symm this
 subst hik
 exact ⟨rfl,rfl,Option.some.inj (hx.symm.trans hy)⟩
def WtW (d : AD) (b : Nat) (ptr : Int) : Nat -> Nat -> Nat -> Int := fun a τ q => (swV (memA d) b ptr τ).getD (a / 8 + q) 0
theorem wtw_at (hB : Built d slabs per lag keys l0 kd cn) {R0 : List (Nat × Nd)} {k : Nat} {xk : Nat × Nd} (hR0 : d.lv[0]? = some R0) (hxk : R0[k]? = some xk) (ptr : Int) {L : Nat} {R : List (Nat × Nd)} {i : Nat} {x : Nat × Nd} (hR : d.lv[L]? = some R) (hx : R[i]? = some x) (τ q : Nat) (hq : q < 24) :
  WtW d (xk.1 / 8) ptr x.1 τ q = fullW (if x.1 = xk.1 then swN xk.2 ptr τ else x.2) q := by
 unfold WtW
 by_cases h : x.1 = xk.1
 ·rw [if_pos h,h]
  exact swV_at (hB.at hR0 (List.mem_of_getElem? hxk)) ptr τ q hq
 ·rw [if_neg h]
  have h1 := hB.apart hR hR0 (List.mem_of_getElem? hx) (List.mem_of_getElem? hxk) h hq
  rw [swV_other _ _ _ _ _ (by omega) (by omega)]
  exact (hB.at hR (List.mem_of_getElem? hx)).wd q hq
theorem found_w (hB : Built d slabs per lag keys l0 kd cn) (hp8 : per <= 8) {R0 : List (Nat × Nd)} {k : Nat} {xk : Nat × Nd} (hR0 : d.lv[0]? = some R0) (hxk : R0[k]? = some xk) {ptr : Int} (hp : xk.2.p 0 ≠ 0) (hq : ptr ≠ 0) {L : Nat} {R : List (Nat × Nd)} {i : Nat} {x : Nat × Nd} (hR : d.lv[L]? = some R) (hx : R[i]? = some x) (t : Nat) :
  (ofV (rdW (WtW d (xk.1 / 8) ptr x.1 t) 24)).2 = 0 /\ ndCells (ofV (rdW (WtW d (xk.1 / 8) ptr x.1 t) 24)).1 = ndCells (if x.1 = xk.1 then swN xk.2 ptr t else x.2) := by
 obtain ⟨l,g⟩ := hB.i.rw L R hR
 have hl := (g.p.lvl hx).1
 have hL := (List.getElem?_eq_some_iff.1 hR).1
 have h16 := hB.le
 obtain ⟨lk,gk⟩ := hB.i.rw 0 R0 hR0
 have hlk := (gk.p.lvl hxk).1
 have hz : NdZ (if x.1 = xk.1 then swN xk.2 ptr t else x.2) := by
  split
  ·exact swN_z (gk.p.z gk.e hp8 hxk) hp hq t
  ·exact g.p.z g.e hp8 hx
 have hlv : 0 <= (if x.1 = xk.1 then swN xk.2 ptr t else x.2).lv /\ (if x.1 = xk.1 then swN xk.2 ptr t else x.2).lv <= 15 := by
  split
  ·show 0 <= xk.2.lv /\ xk.2.lv <= 15
   omega
  ·omega
 obtain ⟨f1,f2,_⟩ := found_z hz hlv (W := WtW d (xk.1 / 8) ptr x.1 t) (fun q hq => wtw_at hB hR0 hxk ptr hR hx t q hq)
 exact ⟨f1,f2⟩
theorem tr_while (hB : Built d slabs per lag keys l0 kd cn) (hp : 2 <= per) (hp8 : per <= 8) (key : Int) (hk : 0 <= key) {R0 : List (Nat × Nd)} {k : Nat} {xk : Nat × Nd} (hR0 : d.lv[0]? = some R0) (hxk : R0[k]? = some xk) {ptr : Int} (hpp : xk.2.p 0 ≠ 0) (hq : ptr ≠ 0) (hpu : 0 <= ptr /\ ptr <= 18446744073709551615) :
  Tr d.lv key (ofA d key) (stA d per key) (WtW d (xk.1 / 8) ptr) (swV (memA d) (xk.1 / 8) ptr) := by
 have hbk := hB.at hR0 (List.mem_of_getElem? hxk)
 obtain ⟨sk,jk,ek,ek1,_⟩ := hB.i.n.i.slot (hB.i.n.st R0 (List.mem_of_getElem? hR0) xk (List.mem_of_getElem? hxk)).1
 obtain ⟨lk,gk⟩ := hB.i.rw 0 R0 hR0
 have hct := (gk.p.lvl hxk).2
 refine tr_of hB hp hp8 key hk _ _ (fun τ => swV_len _ _ _ _) (fun τ => swV_other _ _ _ _ _ (by omega) (by omega)) (fun τ L R i x hR hx q hq => rfl) (fun τ L R i x hR hx => ?_) (fun L R i x hR hx => ⟨fun a b c h1 h2 h3 q hq h4 => ?_,fun t => ?_⟩) (fun L R i x hR hx t q => ?_) (fun L R i x t hR hx => ?_)
 ·rw [wtw_at hB hR0 hxk ptr hR hx τ 1 (by decide)]
  split
  ·rename_i h
   obtain ⟨rfl,rfl,rfl⟩ := hB.same hR hR0 hx hxk h
   rfl
  ·rfl
 ·rw [wtw_at hB hR0 hxk ptr hR hx _ 3 (by decide),wtw_at hB hR0 hxk ptr hR hx _ 3 (by decide)] at h3
  rw [wtw_at hB hR0 hxk ptr hR hx _ q hq,wtw_at hB hR0 hxk ptr hR hx _ q hq] at h4
  rw [wtw_at hB hR0 hxk ptr hR hx _ q hq,wtw_at hB hR0 hxk ptr hR hx _ q hq]
  by_cases h : x.1 = xk.1
  ·rw [if_pos h] at h3 h4
   rw [if_pos h,if_pos h]
   rw [if_pos h] at h3 h4
   rw [fullW_sw _ _ _ _ hq,fullW_sw _ _ _ _ hq] at h4
   rw [fullW_sw _ _ _ _ hq,fullW_sw _ _ _ _ hq]
   have h3' : (if a = 0 then xk.2.ct else if a <= 2 then (1 : Int) else 2) = (if c = 0 then xk.2.ct else if c <= 2 then (1 : Int) else 2) := h3
   have hcl : (a = 0 /\ c = 0) ∨ (1 <= a /\ c <= 2) ∨ 3 <= a := by
    rw [hct] at h3'
    by_cases a0 : a = 0
    ·rw [if_pos a0] at h3'
     by_cases c0 : c = 0
     ·exact .inl ⟨a0,c0⟩
     ·rw [if_neg c0] at h3'
      split at h3' <;> omega
    ·rw [if_neg a0] at h3'
     by_cases a2 : a <= 2
     ·rw [if_pos a2] at h3'
      by_cases c2 : c <= 2
      ·exact .inr (.inl ⟨by omega,c2⟩)
      ·rw [if_neg (by omega),if_neg c2] at h3'
       omega
     ·exact .inr (.inr (by omega))
   by_cases q3 : q = 3
   ·rw [if_pos q3,if_pos q3]
    show (if b = 0 then xk.2.ct else if b <= 2 then (1 : Int) else 2) = (if a = 0 then xk.2.ct else if a <= 2 then (1 : Int) else 2)
    rcases hcl with ⟨e1,e2⟩ | ⟨e1,e2⟩ | e1
    ·rw [if_pos (by omega),if_pos e1]
    ·rw [if_neg (by omega),if_pos (by omega),if_neg (by omega),if_pos (by omega)]
    ·rw [if_neg (by omega),if_neg (by omega),if_neg (by omega),if_neg (by omega)]
   ·rw [if_neg q3,if_neg q3] at h4
    rw [if_neg q3,if_neg q3]
    by_cases q9 : q = 9
    ·rw [if_pos q9,if_pos q9] at h4
     rw [if_pos q9,if_pos q9]
     have h4' : (if 0 = 0 /\ 2 <= a then ptr else xk.2.p 0) = (if 0 = 0 /\ 2 <= c then ptr else xk.2.p 0) := h4
     show (if 0 = 0 /\ 2 <= b then ptr else xk.2.p 0) = (if 0 = 0 /\ 2 <= a then ptr else xk.2.p 0)
     by_cases b2 : 2 <= b
     ·rw [if_pos ⟨rfl,b2⟩]
      by_cases a2 : 2 <= a
      ·rw [if_pos ⟨rfl,a2⟩]
      ·rw [if_neg (fun e => a2 e.2)] at h4' ⊢
       rw [h4',if_pos ⟨rfl,by omega⟩]
     ·rw [if_neg (fun e => b2 e.2),if_neg (fun e => by omega)]
    ·rw [if_neg q9,if_neg q9]
  ·rw [if_neg h,if_neg h]
 ·rw [wtw_at hB hR0 hxk ptr hR hx t 2 (by decide)]
  split
  ·rename_i h
   obtain ⟨rfl,rfl,rfl⟩ := hB.same hR hR0 hx hxk h
   rfl
  ·rfl
 ·unfold WtW
  by_cases h3 : x.1 / 8 + q = xk.1 / 8 + 3 ∨ x.1 / 8 + q = xk.1 / 8 + 9
  ·have hb := hbk.lt
   have ha := hbk.al
   rcases h3 with h3 | h3
   ·rw [h3,swV_at hbk ptr t 3 (by decide)]
    show 0 <= (if t = 0 then xk.2.ct else if t <= 2 then (1 : Int) else 2) /\ _ <= _
    rw [hct]
    show 0 <= (if t = 0 then (0 : Int) else if t <= 2 then (1 : Int) else 2) /\ (if t = 0 then xk.2.ct else if t <= 2 then (1 : Int) else 2) <= 18446744073709551615
    rw [hct]
    split
    ·omega
    ·split <;> omega
   ·rw [h3,swV_at hbk ptr t 9 (by decide)]
    have h9 := u64_bounds ((gk.w xk (List.mem_of_getElem? hxk)).1.p 0 (by decide))
    have e : fullW (swN xk.2 ptr t) 9 = if 0 = 0 /\ 2 <= t then ptr else xk.2.p 0 := rfl
    rw [e]
    split
    ·exact hpu
    ·exact h9
  ·rw [swV_other _ _ _ _ _ (fun e => h3 (.inl e)) (fun e => h3 (.inr e))]
   by_cases h : x.1 / 8 + q < (memA d).length
   ·rw [List.getD_eq_getElem?_getD,List.getElem?_eq_getElem h]
    exact memA_u64 d _ (List.getElem_mem h)
   ·rw [List.getD_eq_getElem?_getD,List.getElem?_eq_none (by omega)]
    exact ⟨by decide,by decide⟩
 ·obtain ⟨f1,f2⟩ := found_w hB hp8 hR0 hxk hpp hq hR hx t
  obtain ⟨c1,c2,c3,c4,c5,_⟩ := nd_of_cells f2
  obtain ⟨l,g⟩ := hB.i.rw L R hR
  have hl := (g.p.lvl hx).1
  by_cases h : x.1 = xk.1
  ·obtain ⟨rfl,rfl,rfl⟩ := hB.same hR hR0 hx hxk h
   rw [if_pos h] at c4 c5
   exact ⟨f1,c4.trans hl,c5,fun h => by omega⟩
  ·rw [if_neg h] at c1 c2 c3 c4 c5
   exact ⟨f1,c4.trans hl,c5,fun _ => child_congr c1 c2 c3 key⟩
end
end Go.Proofs.YtodgfbjjjgohgaaGreat
namespace Go.Proofs.YtodgfbjjjgohgaaGreat
open Go.RowKit
attribute [local go_sem] Oper.semAt_some
set_option linter.unusedVariables false

/-! . -/
def putC (a b c d e f : Int) : Array Value := #[.int .u64 a,.int .u64 b,.int .u64 c,.int .u64 d,.int .u64 e,.int .u64 f]
set_option maxRecDepth 100000 in
theorem run_bs_put (a b c d e f : Int) (w : World) : (Instr.buildSlice 57 3 #[(0,.agg #[.int .u64 a,.int .u64 b]),(1,.agg #[.int .u64 c,.int .u64 d]),(2,.agg #[.int .u64 e,.int .u64 f])]).run Tryz.prog w = .ok (.slice (some ⟨w.heap.size,0,none⟩) 3 3) (w.alloc (.cells (putC a b c d e f) 56)) := by
 kernel_rfl
theorem wpList_bs_put {ops : Array Oper} {rest : List Oper} {o : Oper} {A : Act} {w : World} {Q : Exit -> Act -> World -> Prop} (hgd : o.guard = none) (x y z : Operand) (ho : o.op = .buildSlice 57 3 #[(0,x),(1,y),(2,z)]) (a b c d e f : Int)
  (hx : A.eval x = .agg #[.int .u64 a,.int .u64 b]) (hy : A.eval y = .agg #[.int .u64 c,.int .u64 d]) (hz : A.eval z = .agg #[.int .u64 e,.int .u64 f]) (g : Nat) (hg : w.heap.size = g)
  (h : wpList Tryz.prog ops Q rest (A.put o.dst (.slice (some ⟨g,0,none⟩) 3 3)) (w.alloc (.cells (putC a b c d e f) 56))) : wpList Tryz.prog ops Q (o :: rest) A w := by
 subst hg
 exact wpList_plain hgd fun _ hK => by
  unfold Oper.wp execOp
  simp only [ho,List.map_toArray,List.map_cons,List.map_nil,hx,hy,hz,Sem.run_bind,run_bs_put,Result.andThen_ok,Sem.run_pure]
  exact hK _ _ h
/-! . -/
structure CaG (n : Nat) (w0 : World) (P : World -> Prop) (L : Nat -> Bool) (W : World) : Prop where
 p : L n = false -> W = w0
 q : L n = true -> P W
section
variable {n : Nat} {w0 W W' : World} {P : World -> Prop} {L L' : Nat -> Bool}
theorem CaG.start : CaG n w0 P (fun _ => false) w0 := ⟨fun _ => rfl,fun e => (by cases e)⟩
theorem CaG.keep (h : CaG n w0 P L W) (e : L' n = L n) : CaG n w0 P L' W := ⟨by rw [e];exact h.p,by rw [e];exact h.q⟩
theorem CaG.done (h : P W') : CaG n w0 P (lset L n) W' := ⟨fun e => (by simp [lset] at e),fun _ => h⟩
end
/-! . -/
def adS (a : Int) (τ : Nat) : Int := if τ = 1 then a + 72 else a + 24
def vaS (ptr : Int) (τ : Nat) : Int := if τ = 0 then 1 else if τ = 1 then ptr else 2
theorem swV_next (vs : List Int) (a : Nat) (ptr : Int) (τ : Nat) (hτ : τ < 3) (ha : a % 8 = 0) : swV vs (a / 8) ptr (τ + 1) = (swV vs (a / 8) ptr τ).set (adS (a : Int) τ / 8).toNat (vaS ptr τ) := by
 match τ,hτ with
 | 0,_ => rw [show (adS (a : Int) 0 / 8).toNat = a / 8 + 3 by unfold adS;rw [if_neg (by decide)];omega];rfl
 | 1,_ => rw [show (adS (a : Int) 1 / 8).toNat = a / 8 + 9 by unfold adS;rw [if_pos rfl];omega];rfl
 | 2,_ => rw [show (adS (a : Int) 2 / 8).toNat = a / 8 + 3 by unfold adS;rw [if_neg (by decide)];omega];rfl
theorem adS_ok {vs : List Int} {a : Nat} (hl : a / 8 + 24 <= vs.length) (ha : a % 8 = 0) (hb : a <= 1000000) (τ : Nat) : 0 <= adS (a : Int) τ /\ adS (a : Int) τ <= 18446744073709551615 /\ atE vs.length (adS (a : Int) τ) = 0 := by
 unfold adS atE
 split
 ·exact ⟨by omega,by omega,by rw [if_neg (by omega)]⟩
 ·exact ⟨by omega,by omega,by rw [if_neg (by omega)]⟩
section
variable {rows : List (List (Nat × Nd))} {of st : Nat -> Nat} {Wt : Nat -> Nat -> Nat -> Int} {key : Int} {level c : Nat} {N0 : Nat}
variable {w : World} {B U kb xb mb : Nat} {S0 : Nat -> Prop} {j τ : Nat} {vs : List Int} {a : Nat} {ptr : Int}
theorem turn_w (hl : a / 8 + 24 <= vs.length) (ha : a % 8 = 0) (hb : a <= 1000000) (h : StG2 rows of st Wt (swV vs (a / 8) ptr) key level c N0 (τ : Int) (fun _ _ _ _ => True) False w B U kb xb mb S0 j τ) (hτ : τ < 3) :
  Calls Tryz.prog 15 #[.pointer (some ⟨mb,0,none⟩),.int .u64 (adS (a : Int) τ),.int .u64 (vaS ptr τ)] w fun e w' => e = .returned (.int .i64 0) ∧
   (∃ U',StG2 rows of st Wt (swV vs (a / 8) ptr) key level c N0 ((τ + 1 : Nat) : Int) (fun _ _ _ _ => True) False w' B U' kb xb mb S0 j (τ + 1)) /\ Keeps (ZG kb S0 B) w w' := by
 obtain ⟨S,is,mk,F,lo,fl,fe,hM,hT⟩ := h.turn
 have hok := adS_ok (vs := swV vs (a / 8) ptr τ) (by rw [swV_len];exact hl) ha hb τ
 refine (store_m hM.m (adS (a : Int) τ) (vaS ptr τ) hok.1 hok.2.1 hok.2.2 (by omega)).mono ?_
 rintro e w' ⟨rfl,S',hm,hs',hk⟩
 rw [<- swV_next vs a ptr τ hτ ha] at hm
 rw [show (τ : Int) + 1 = ((τ + 1 : Nat) : Int) by omega] at hm
 refine ⟨rfl,⟨_,hT w' S' _ _ _ _ _ hm hs' hk⟩,hk.mono (fun i _ hi => ?_)⟩
 ·rcases hM.s i hi with e | e
  ·exact .inr (.inl e)
  ·exact .inr (.inr e.1)
end
def MP (mb : Nat) (S0 : Nat -> Prop) (B N m : Nat) (W : World) : Prop := ∃ S vs is mk F lo st fl fe,MemP W mb S vs is mk F lo st fl fe /\ vs.length = N /\ st <= (m : Int) /\ ∀ i,S i -> S0 i ∨ B <= i
section
variable {mb B N m : Nat} {S0 : Nat -> Prop} {W W' : World}
theorem MP.store (h : MP mb S0 B N m W) (hB : B <= W.heap.size) (a x : Int) (h0 : 0 <= a) (h1 : a <= 18446744073709551615) (he : atE N a = 0) (hm : m <= 1000) :
  Calls Tryz.prog 15 #[.pointer (some ⟨mb,0,none⟩),.int .u64 a,.int .u64 x] W fun e w' => e = .returned (.int .i64 0) /\ MP mb S0 B N (m + 1) w' /\ Keeps (fun i => S0 i ∨ B <= i) W w' := by
 obtain ⟨S,vs,is,mk,F,lo,st,fl,fe,hM,rfl,hst,hS⟩ := h
 refine (store_m hM a x h0 h1 he (by omega)).mono ?_
 rintro e w' ⟨rfl,S',hm',hs',hk⟩
 refine ⟨rfl,⟨S',_,_,_,_,_,_,_,_,hm',by rw [List.length_set],by omega,fun i hi => ?_⟩,hk.mono (fun i _ hi => hS i hi)⟩
 rcases hs' i hi with e | e
 ·exact hS i e
 ·exact .inr (by omega)
theorem MP.below (h : MP mb S0 B N m W) (hB : Below W.heap.size W W') : MP mb S0 B N m W' := by
 obtain ⟨S,vs,is,mk,F,lo,st,fl,fe,hM,r⟩ := h
 exact ⟨S,vs,is,mk,F,lo,st,fl,fe,hM.below hB,r⟩
end
/-! . -/
def eqU8 (f g : Nat -> Int) : Bool := (List.range 8).all (fun i => f i == g i)
section
variable {T e : TypeId} (hT : Tryz.prog.underlying T = some (.array 8 e)) (he : Tryz.prog.underlying e = some (.int .u64)) (hc : Tryz.prog.cellsOf e = 1) (hp : ∀ (f : Nat -> Int) (i : Nat),i < 8 -> ∀ w,(part e (u8s f).toArray (i * 1)).run Tryz.prog w = .ok (.int .u64 (f i)) w)
include he hp in
theorem eqItems_u8 (f g : Nat -> Int) (d : Nat) (w : World) : ∀ is : List Nat,(∀ i ∈ is,i < 8) -> (Op.eqItems (d + 1) e 1 (u8s f).toArray (u8s g).toArray is).run Tryz.prog w = .ok (is.all (fun i => f i == g i)) w
 | [],_ => by simp [Op.eqItems]
 | i :: is,h => by
  have hi := h i (List.mem_cons_self)
  simp only [Op.eqItems,Sem.run_bind,hp _ _ hi,Result.andThen_ok,run_equalIn_int w d e .u64 .u64 _ _ he]
  rw [List.all_cons]
  cases hq : (f i == g i)
  ·simp
  ·simpa using eqItems_u8 f g d w is (fun j hj => h j (List.mem_cons_of_mem _ hj))
include hT he hc hp in
theorem eq8_any (f g : Nat -> Int) (d : Nat) (w : World) : (Op.equalIn (d + 2) T (.agg (u8s f).toArray) (.agg (u8s g).toArray)).run Tryz.prog w = .ok (eqU8 f g) w := by
 obtain ⟨i,hi⟩ := info_of_underlying (P := Tryz.prog) he
 rw [show d + 2 = d + 1 + 1 from rfl,run_equalIn_array w (d + 1) (u8s f).toArray (u8s g).toArray hT hi,hc,eqItems_u8 he hp f g d w (List.range 8) (fun i hi => List.mem_range.1 hi)]
 rfl
end
theorem part_u8 (f : Nat -> Int) (i : Nat) (hi : i < 8) (w : World) : (part 25 (u8s f).toArray (i * 1)).run Tryz.prog w = .ok (.int .u64 (f i)) w := by
 refine run_part_plain w (by kernel_rfl) ?_
 rw [Nat.mul_one,List.getElem?_toArray,u8s_get,if_pos hi]
theorem part_a8 (f : Nat -> Int) (i : Nat) (hi : i < 8) (w : World) : (part 39 (u8s f).toArray (i * 1)).run Tryz.prog w = .ok (.int .u64 (f i)) w := by
 refine run_part_plain w (by kernel_rfl) ?_
 rw [Nat.mul_one,List.getElem?_toArray,u8s_get,if_pos hi]
set_option maxRecDepth 100000 in
set_option maxHeartbeats 1600000 in
theorem eq_any (n m : Nd) : ∃ r : Bool,∀ w,(Op.equalIn 10000 46 (.agg (ndCells n)) (.agg (ndCells m))).run Tryz.prog w = .ok r w := by
 have k1 := fun w => eq8_any Tryz.underlying43 Tryz.underlying25 (by kernel_rfl) part_u8 n.k m.k 9997 w
 have k2 := fun w => eq8_any Tryz.underlying44 Tryz.underlying39 (by kernel_rfl) part_a8 n.p m.p 9997 w
 obtain ⟨r1,h1⟩ : ∃ r,eqU8 n.k m.k = r := ⟨_,rfl⟩
 obtain ⟨r2,h2⟩ : ∃ r,eqU8 n.p m.p = r := ⟨_,rfl⟩
 rw [h1] at k1
 rw [h2] at k2
 have u3 := Tryz.underlying3
 have a3' := Tryz.isAgg3
 have z3 := Tryz.sizeOf3
 have u4 := Tryz.underlying25
 have a4' := Tryz.isAgg25
 have z4 := Tryz.sizeOf25
 have u5 := Tryz.underlying39
 have a5' := Tryz.isAgg39
 have z5 := Tryz.sizeOf39
 replace k1 := fun w => (show (Op.equalIn (9997 + 2) 43 (.agg #[.int .u64 (n.k 0),.int .u64 (n.k 1),.int .u64 (n.k 2),.int .u64 (n.k 3),.int .u64 (n.k 4),.int .u64 (n.k 5),.int .u64 (n.k 6),.int .u64 (n.k 7)]) (.agg #[.int .u64 (m.k 0),.int .u64 (m.k 1),.int .u64 (m.k 2),.int .u64 (m.k 3),.int .u64 (m.k 4),.int .u64 (m.k 5),.int .u64 (m.k 6),.int .u64 (m.k 7)])).run Tryz.prog w = .ok r1 w from k1 w)
 replace k2 := fun w => (show (Op.equalIn (9997 + 2) 44 (.agg #[.int .u64 (n.p 0),.int .u64 (n.p 1),.int .u64 (n.p 2),.int .u64 (n.p 3),.int .u64 (n.p 4),.int .u64 (n.p 5),.int .u64 (n.p 6),.int .u64 (n.p 7)]) (.agg #[.int .u64 (m.p 0),.int .u64 (m.p 1),.int .u64 (m.p 2),.int .u64 (m.p 3),.int .u64 (m.p 4),.int .u64 (m.p 5),.int .u64 (m.p 6),.int .u64 (m.p 7)])).run Tryz.prog w = .ok r2 w from k2 w)
 rw [lit21,lit21]
 obtain ⟨b0,g0⟩ : ∃ r,(n.lv == m.lv) = r := ⟨_,rfl⟩
 obtain ⟨b1,g1⟩ : ∃ r,(n.lo == m.lo) = r := ⟨_,rfl⟩
 obtain ⟨b2,g2⟩ : ∃ r,(n.nx == m.nx) = r := ⟨_,rfl⟩
 obtain ⟨b3,g3⟩ : ∃ r,(n.ct == m.ct) = r := ⟨_,rfl⟩
 obtain ⟨b4,g4⟩ : ∃ r,(n.fi == m.fi) = r := ⟨_,rfl⟩
 clear h1 h2
 cases b0
 ·refine ⟨false,fun w => ?_⟩;rw [show (10000 : Nat) = 9999 + 1 from rfl,Op.equalIn];simp only [Sem.run_bind,run_underlying Tryz.underlying46,Result.andThen_ok];go_simp
 cases b1
 ·refine ⟨false,fun w => ?_⟩;rw [show (10000 : Nat) = 9999 + 1 from rfl,Op.equalIn];simp only [Sem.run_bind,run_underlying Tryz.underlying46,Result.andThen_ok];go_simp
 cases b2
 ·refine ⟨false,fun w => ?_⟩;rw [show (10000 : Nat) = 9999 + 1 from rfl,Op.equalIn];simp only [Sem.run_bind,run_underlying Tryz.underlying46,Result.andThen_ok];go_simp
 cases b3
 ·refine ⟨false,fun w => ?_⟩;rw [show (10000 : Nat) = 9999 + 1 from rfl,Op.equalIn];simp only [Sem.run_bind,run_underlying Tryz.underlying46,Result.andThen_ok];go_simp
 cases b4
 ·refine ⟨false,fun w => ?_⟩;rw [show (10000 : Nat) = 9999 + 1 from rfl,Op.equalIn];simp only [Sem.run_bind,run_underlying Tryz.underlying46,Result.andThen_ok];go_simp
 cases r1
 ·refine ⟨false,fun w => ?_⟩;rw [show (10000 : Nat) = 9999 + 1 from rfl,Op.equalIn];simp only [Sem.run_bind,run_underlying Tryz.underlying46,Result.andThen_ok];go_simp
 cases r2
 ·refine ⟨false,fun w => ?_⟩;rw [show (10000 : Nat) = 9999 + 1 from rfl,Op.equalIn];simp only [Sem.run_bind,run_underlying Tryz.underlying46,Result.andThen_ok];go_simp
 ·refine ⟨true,fun w => ?_⟩;rw [show (10000 : Nat) = 9999 + 1 from rfl,Op.equalIn];simp only [Sem.run_bind,run_underlying Tryz.underlying46,Result.andThen_ok];go_simp
/-! . -/
theorem nd_ct0 (n : Nd) : (ndCells n).setIfInBounds 3 (.int .u64 0) = ndCells { n with ct := 0 } := by
 unfold ndCells
 rfl
theorem nd_p0 (n : Nd) (x : Int) : (ndCells n).setIfInBounds 13 (.int .u64 x) = ndCells { n with p := fun i => if i = 0 then x else n.p i } := by
 unfold ndCells
 rfl
theorem nd_ct {n m : Nd} (h : ndCells n = ndCells m) : ndCells { n with ct := 0 } = ndCells { m with ct := 0 } := by rw [<- nd_ct0,<- nd_ct0,h]
theorem nd_same {n m : Nd} (h : ndCells n = ndCells m) (h0 : m.ct = 0) : ndCells { n with ct := 0 } = ndCells m := by
 rw [nd_ct h]
 obtain ⟨a1,a2,a3,a4,a5,a6,a7⟩ := m
 have : a4 = 0 := h0
 subst this
 rfl
theorem nd_which {n e : Nd} {ptr : Int} {T : Nat} (h : ndCells n = ndCells (swN e ptr T)) : ∃ r : Bool,(∀ w,(Op.equalIn 10000 46 (.agg (ndCells { n with ct := 0 })) (.agg (ndCells { e with ct := 0 }))).run Tryz.prog w = .ok r w) ∧
  (r = false -> ndCells { n with ct := 0 } = ndCells { { e with p := fun i => if i = 0 then ptr else e.p i } with ct := 0 }) := by
 have h1 := nd_ct h
 by_cases hT : 2 <= T
 ·obtain ⟨r,hr⟩ := eq_any { n with ct := 0 } { e with ct := 0 }
  refine ⟨r,hr,fun _ => h1.trans ?_⟩
  have hp : (swN e ptr T).p = fun i => if i = 0 then ptr else e.p i := by
   funext i
   show (if i = 0 /\ 2 <= T then ptr else e.p i) = _
   by_cases hi : i = 0
   ·rw [if_pos ⟨hi,hT⟩,if_pos hi]
   ·rw [if_neg (fun e => hi e.1),if_neg hi]
  rw [show ({ swN e ptr T with ct := 0 } : Nd) = { { e with p := fun i => if i = 0 then ptr else e.p i } with ct := 0 } from by rw [<- hp];rfl]
 ·refine ⟨true,fun w => ?_,fun e => by cases e⟩
  have hp : (swN e ptr T).p = e.p := by
   funext i
   show (if i = 0 /\ 2 <= T then ptr else e.p i) = _
   rw [if_neg (fun e => hT e.2)]
  rw [h1,show ({ swN e ptr T with ct := 0 } : Nd) = { e with ct := 0 } from by rw [show ({ swN e ptr T with ct := 0 } : Nd) = { e with ct := 0,p := (swN e ptr T).p } from rfl,hp]]
  exact eq_nd _ w
end Go.Proofs.YtodgfbjjjgohgaaGreat
