/-
 WHAT THE LAWS OF walk CALL BESIDES: what comes in;an arena that is laid;Of,Hop: contracts.
-/
import Derived.Test.YtodgfbjjjgohgaaGreatYgZ
import Derived.Test.YtodgfbjjjgohgaaGreatYbZ
import Derived.Test.YtodgfbjjjgohgaaGreatKbZ
namespace Go.Proofs.YtodgfbjjjgohgaaGreat
open Go.RowKit
set_option linter.unusedVariables false

theorem last_congr {n m : Nd} (hk : ∀ j,j < 8 -> n.k j = m.k j) (hp : ∀ j,j < 8 -> n.p j = m.p j) (hf : n.fi = m.fi) (key : Int) : n.last key = m.last key /\ n.len = m.len := by
 have hlen : ∀ d i,i + d <= 8 -> n.lenFrom d i = m.lenFrom d i := by
  intro d
  induction d with
  | zero => intro i _;rfl
  | succ d ih =>
   intro i hi
   unfold Nd.lenFrom
   rw [hp i (by omega),ih (i + 1) (by omega)]
 have h1 : n.len = m.len := hlen 8 0 (by decide)
 refine ⟨?_,h1⟩
 have hah : ∀ i,i < 8 -> n.ahead i = m.ahead i := fun i hi => by
  cases i with
  | zero => exact hf
  | succ i => exact hp i (by omega)
 have hl : ∀ t,t <= 8 -> lastF (fun i => n.ok i && decide (n.k i <= key)) t = lastF (fun i => m.ok i && decide (m.k i <= key)) t := by
  intro t
  induction t with
  | zero => intro _;rfl
  | succ t ih =>
   intro ht
   have e : (n.ok t && decide (n.k t <= key)) = (m.ok t && decide (m.k t <= key)) := by
    unfold Nd.ok
    rw [hp t (by omega),hk t (by omega),hah t (by omega)]
   unfold lastF
   rw [e,ih (by omega)]
 unfold Nd.last
 rw [h1]
 exact hl _ m.len_le
theorem child_congr {n m : Nd} (hk : ∀ j,j < 8 -> n.k j = m.k j) (hp : ∀ j,j < 8 -> n.p j = m.p j) (hf : n.fi = m.fi) (key : Int) : n.child key = m.child key := by
 obtain ⟨h1,_⟩ := last_congr hk hp hf key
 unfold Nd.child
 rw [h1]
 by_cases h : 0 <= m.last key
 ·rw [if_pos h,if_pos h]
  have := last_ge m key
  have := m.len_le
  exact hp _ (by omega)
 ·rw [if_neg h,if_neg h,hf]
theorem nd_of_cells {n m : Nd} (h : ndCells n = ndCells m) : (∀ j,j < 8 -> n.k j = m.k j) /\ (∀ j,j < 8 -> n.p j = m.p j) /\ n.fi = m.fi /\ n.lv = m.lv /\ n.nx = m.nx /\ n.lo = m.lo /\ n.ct = m.ct := by
 have hc : ∀ i : Nat,(ndCells n)[i]? = (ndCells m)[i]? := fun i => by rw [h]
 refine ⟨fun j hj => ?_,fun j hj => ?_,?_,?_,?_,?_,?_⟩
 ·have := hc (5 + j)
  rw [ndCells_k n j hj,ndCells_k m j hj] at this
  simpa using this
 ·have := hc (13 + j)
  rw [ndCells_p n j hj,ndCells_p m j hj] at this
  simpa using this
 ·have := hc 4
  have e : (some (Value.int .u64 n.fi)) = some (.int .u64 m.fi) := this
  simpa using e
 ·have := hc 0
  have e : (some (Value.int .i64 n.lv)) = some (.int .i64 m.lv) := this
  simpa using e
 ·have := hc 2
  have e : (some (Value.int .u64 n.nx)) = some (.int .u64 m.nx) := this
  simpa using e
 ·have := hc 1
  have e : (some (Value.int .u64 n.lo)) = some (.int .u64 m.lo) := this
  simpa using e
 ·have := hc 3
  have e : (some (Value.int .u64 n.ct)) = some (.int .u64 m.ct) := this
  simpa using e
section
variable {d : AD} {slabs per lag : Nat} {keys : List Int} {l0 : List (Int × Int)} {kd cn : Nat -> Nat}
theorem rd_at {vs : List Int} {a : Nat} (h64 : a % 64 = 0) (hlt : a + 192 <= 8 * vs.length) (h1 : a + 192 <= 1000000) {q : Nat} (hq : q < 24) : wdM vs (a : Int) q = vs.getD (a / 8 + q) 0 /\ erM vs (a : Int) q = 0 := by
 have hw : wrdA (a : Int) q = ((a + 8 * q : Nat) : Int) := by
  unfold wrdA
  rw [IntKind.wrap_u64]
  omega
 have he : erM vs (a : Int) q = 0 := by
  unfold erM atE
  rw [hw,if_neg (by omega)]
 refine ⟨?_,he⟩
 unfold erM at he
 unfold wdM ldW
 rw [if_pos he,hw]
 congr 1
 omega
theorem tr_of (hB : Built d slabs per lag keys l0 kd cn) (hp : 2 <= per) (hp8 : per <= 8) (key : Int) (hk : 0 <= key) (Wt : Nat -> Nat -> Nat -> Int) (vsT : Nat -> List Int)
  (hlen : ∀ τ,(vsT τ).length = (memA d).length) (h2 : ∀ τ,(vsT τ).getD 2 0 = (memA d).getD 2 0)
  (hw : ∀ (τ L : Nat) (R : List (Nat × Nd)) (i : Nat) (x : Nat × Nd),d.lv[L]? = some R -> R[i]? = some x -> ∀ q,q < 24 -> (vsT τ).getD (x.1 / 8 + q) 0 = Wt x.1 τ q)
  (hlo : ∀ (τ L : Nat) (R : List (Nat × Nd)) (i : Nat) (x : Nat × Nd),d.lv[L]? = some R -> R[i]? = some x -> Wt x.1 τ 1 = x.2.lo)
  (hcr : ∀ (L : Nat) (R : List (Nat × Nd)) (i : Nat) (x : Nat × Nd),d.lv[L]? = some R -> R[i]? = some x -> Crs (Wt x.1) x.2.nx)
  (hu : ∀ (L : Nat) (R : List (Nat × Nd)) (i : Nat) (x : Nat × Nd),d.lv[L]? = some R -> R[i]? = some x -> ∀ t q,0 <= Wt x.1 t q /\ Wt x.1 t q <= 18446744073709551615)
  (hf : ∀ (L : Nat) (R : List (Nat × Nd)) (i : Nat) (x : Nat × Nd) (t : Nat),d.lv[L]? = some R -> R[i]? = some x -> (ofV (rdW (Wt x.1 t) 24)).2 = 0 /\ (ofV (rdW (Wt x.1 t) 24)).1.lv = (L : Int) /\ (ofV (rdW (Wt x.1 t) 24)).1.nx = x.2.nx /\ (0 < L -> (ofV (rdW (Wt x.1 t) 24)).1.child key = x.2.child key)) :
  Tr d.lv key (ofA d key) (stA d per key) Wt vsT := by
 have hml := memA_len d
 have hus := hB.i.n.i.ok.sl
 have hloc : ∀ (L : Nat) (R : List (Nat × Nd)) (i : Nat) (x : Nat × Nd),d.lv[L]? = some R -> R[i]? = some x -> 0 < x.1 /\ x.1 % 64 = 0 /\ x.1 + 192 <= 8 * (memA d).length /\ x.1 + 192 <= 1000000 := fun L R i x hR hx => by
  obtain ⟨l,g⟩ := hB.i.rw L R hR
  obtain ⟨w1,w2,w3,w4⟩ := g.w x (List.mem_of_getElem? hx)
  have := (hB.at hR (List.mem_of_getElem? hx)).lt
  exact ⟨by omega,w4,this,w3⟩
 refine ⟨path_st hB.i hp hp8 hB.ne key hk,fun τ => ?_,fun τ R x hR hx => ?_,hcr,fun τ L R i x hR hx => ⟨fun {q} hq => ?_,fun hz => ?_⟩,hu,hf,fun L R i x hR hx => ?_,fun L R i x hR hx => ?_,hB.le,fun τ => by rw [hlen,hml];omega⟩
 ·unfold atE;rw [hlen,hml,if_neg (by omega)]
 ·have he : atE (vsT τ).length 16 = 0 := by unfold atE;rw [hlen,hml,if_neg (by omega)]
  unfold ldW
  rw [if_pos he,show ((16 : Int) / 8).toNat = 2 by decide,h2,memA_at (by omega),hB.root]
  unfold topA
  rw [List.getD_eq_getElem?_getD (l := d.lv),hR,Option.getD_some,List.getD_eq_getElem?_getD,hx,Option.getD_some]
 ·obtain ⟨a1,a2,a3,a4⟩ := hloc L R i x hR hx
  obtain ⟨e1,e2⟩ := rd_at (vs := vsT τ) a2 (by rw [hlen];exact a3) a4 hq
  exact ⟨e1.trans (hw τ L R i x hR hx q hq),e2⟩
 ·obtain ⟨l,g⟩ := hB.i.rw L R hR
  have hn := g.p.nx hx
  cases hy : R[i + 1]? with
  | none => rw [hy] at hn;exact absurd hn hz
  | some y =>
   rw [hy] at hn
   have hn' : x.2.nx = (y.1 : Int) := hn
   obtain ⟨a1,a2,a3,a4⟩ := hloc L R (i + 1) y hR hy
   obtain ⟨e1,e2⟩ := rd_at (vs := vsT τ) a2 (by rw [hlen];exact a3) a4 (show 1 < 24 by decide)
   rw [hn',loK_get hy]
   exact ⟨e2,e1.trans ((hw τ L R (i + 1) y hR hy 1 (by decide)).trans (hlo τ L R (i + 1) y hR hy))⟩
 ·obtain ⟨l,g⟩ := hB.i.rw L R hR
  have hn := g.p.nx hx
  rw [hn]
  cases R[i + 1]? <;> rfl
 ·obtain ⟨a1,a2,a3,a4⟩ := hloc L R i x hR hx
  refine ⟨a1,by omega,fun τ => ?_⟩
  unfold atE
  rw [hlen,if_neg (by omega)]
/-! . -/
theorem Built.rowLe (hB : Built d slabs per lag keys l0 kd cn) (hp : 2 <= per) (h40 : keys.length <= 40) : ∀ L R,d.lv[L]? = some R -> R.length <= if L = 0 then 20 else 10 := by
 have hl0 : l0.length <= 40 := by
  have := congrArg List.length hB.keys
  rw [List.length_map] at this
  omega
 intro L
 induction L with
 | zero =>
  intro R hR
  obtain ⟨l,g⟩ := hB.i.rw 0 R hR
  have := g.z rfl
  subst this
  rw [if_pos rfl]
  exact g.p.le hp (n := 20) (by omega) (by decide)
 | succ L ih =>
  intro R hR
  obtain ⟨l,g⟩ := hB.i.rw (L + 1) R hR
  obtain ⟨R',hR',rfl,_⟩ := g.s L rfl
  have h1 := ih R' hR'
  have h2 := (parG_len R' lag (by
   obtain ⟨l',g'⟩ := hB.i.rw L R' hR'
   exact g'.p.ne)).2
  rw [if_neg (by omega)]
  refine g.p.le hp (n := 10) ?_ (by decide)
  split at h1 <;> omega
theorem Built.rem_le (hB : Built d slabs per lag keys l0 kd cn) (hp : 2 <= per) (hp8 : per <= 8) (h40 : keys.length <= 40) (key : Int) (hk : 0 <= key) : rem (ofA d key) (stA d per key) (d.lv.length - 1) 0 <= 200 := by
 have hpth := path_st hB.i hp hp8 hB.ne key hk
 have hof : ∀ L,L < d.lv.length -> ofA d key L + 1 <= if L = 0 then 20 else 10 := fun L hL => by
  obtain ⟨R,hR⟩ : ∃ R,d.lv[L]? = some R := ⟨_,List.getElem?_eq_getElem hL⟩
  have h1 := (hpth.lt L R hR).1
  have h2 := hB.rowLe hp h40 L R hR
  omega
 have hrs : ∀ L,L <= d.lv.length -> remS (ofA d key) (stA d per key) L <= 20 + 10 * L := by
  intro L
  induction L with
  | zero => intro _;exact Nat.zero_le _
  | succ L ih =>
   intro hL
   have h1 := ih (by omega)
   have h2 := hof L (by omega)
   unfold remS
   by_cases e : L = 0
   ·subst e
    rw [if_pos rfl] at h2
    have : remS (ofA d key) (stA d per key) 0 = 0 := rfl
    omega
   ·rw [if_neg e] at h2
    omega
 have h1 := hrs (d.lv.length - 1) (by omega)
 have h2 := hof (d.lv.length - 1) (by have := hB.ne;omega)
 have h3 := hB.le
 have h4 := hB.ne
 unfold rem
 split at h2 <;> omega
/-! . -/
end
end Go.Proofs.YtodgfbjjjgohgaaGreat
namespace Go.Proofs.YtodgfbjjjgohgaaGreat
open Go.RowKit Go.ChangeShapes Go.WideShapes Go.Deep
attribute [local go_sem] Oper.semAt_some
set_option linter.unusedVariables false

/-! . -/
def laidC (slabs : Int) (A : Option Addr) (n c : Nat) (per lag : Int) : Array Value := #[.int .i64 slabs,.slice A n c,.int .i64 per,.int .i64 lag]
set_option maxRecDepth 100000 in
theorem open_laid {H : Type} {enc : TypeId × Value -> H} {W : World} {base : Nat} {v : Value} {d : DataW H} {p : List MemPlace} (hv : Value.okWide Tryz.prog W .any base 24 v) (h : DataW.Trod enc Tryz.prog W 0 (fun _ => true) true 24 v d p) :
  ∃ (slabs per lag : Int) (A : Option Addr) (c : Nat) (l : List Int),v = .agg (laidC slabs A l.length c per lag) /\ Reads W W.heap.size 1 A l.length (l.map (Value.int .u64)) /\ (∀ x ∈ l,0 <= x /\ x <= 18446744073709551615) := by
 obtain ⟨cs,rfl,hsz⟩ := okWide_struct Tryz.underlying24 hv
 have h4 : Tryz.prog.cellsOf 24 = 4 := by kernel_rfl
 rw [h4] at hsz
 obtain ⟨fuel,hf⟩ := h
 obtain ⟨xs,m,_,_,_,hl,hx⟩ := DataW.trod_struct Tryz.underlying24 hf
 have hs : ∀ i,i < 4 -> xs[i]? ≠ none := fun i hi => by
  have : i < xs.length := by rw [hl];exact hi
  rw [List.getElem?_eq_getElem this];simp
 obtain ⟨a,e0,w0⟩ := trod_int_at Tryz.underlying3 (by kernel_rfl) (hs 0 (by omega)) (hx 0 _ rfl)
 obtain ⟨b,e2,w2⟩ := trod_int_at Tryz.underlying3 (by kernel_rfl) (hs 2 (by omega)) (hx 2 _ rfl)
 obtain ⟨c,e3,w3⟩ := trod_int_at Tryz.underlying3 (by kernel_rfl) (hs 3 (by omega)) (hx 3 _ rfl)
 have e1 := hx 1 _ rfl
 obtain ⟨y,hy⟩ : ∃ y,xs[1]? = some y := by
  cases h : xs[1]? with
  | none => exact absurd h (hs 1 (by omega))
  | some y => exact ⟨y,rfl⟩
 rw [hy] at e1
 have hc1 : Tryz.prog.cellsOf 22 = 1 := by kernel_rfl
 have hce : Tryz.prog.cellsOf 25 = 1 := by kernel_rfl
 have hsl : ∃ (A : Option Addr) (cp : Nat) (l : List Int),cs[1]? = some (.slice A l.length cp) /\ Reads W W.heap.size 1 A l.length (l.map (Value.int .u64)) /\ (∀ x ∈ l,0 <= x /\ x <= 18446744073709551615) := by
  obtain ⟨cl,hcl⟩ : ∃ cl : List Value,((Value.agg cs).cells.toList.drop 1).take 1 = cl := ⟨_,rfl⟩
  have e1' : DataW.trod enc Tryz.prog W 0 (fun _ => true) true m 22 cl = some y := by
   rw [<- hcl]
   exact e1
  rcases open_ints Tryz.underlying22 Tryz.underlying25 hce e1' with ⟨hcs,_⟩ | ⟨a,len,cap,zs,hcs,_,hl2,hm,hlen,_,hc,hw⟩
  ·rw [hcs] at hcl
   have := take1 hcl
   simp only [Value.cells,Array.getElem?_toList] at this
   exact ⟨none,0,[],this,⟨rfl,fun h => absurd h (by decide)⟩,fun x hx => by cases hx⟩
  ·rw [hcs] at hcl
   have := take1 hcl
   simp only [Value.cells,Array.getElem?_toList] at this
   have hlz : len <= zs.length := by rw [hlen];simp;exact hl2
   have htl : (zs.take len).length = len := by rw [List.length_take];omega
   refine ⟨some a,cap,zs.take len,by rw [htl];exact this,⟨by rw [List.length_map,Nat.mul_one],fun hn => ?_⟩,fun x hx => u64_bounds (hw x (List.mem_of_mem_take hx))⟩
   rw [htl] at hn
   have h0 := hc 0 (by omega)
   rw [show a.add 0 = a by simp [Addr.add]] at h0
   refine ⟨a,rfl,World.block_lt_of_cell? W _ h0,fun j u hj => ?_⟩
   rw [List.getElem?_map] at hj
   have hjl : j < len := by
    rcases Nat.lt_or_ge j len with h | h
    ·exact h
    ·rw [List.getElem?_eq_none (by rw [htl];exact h)] at hj;cases hj
   rw [hc j (by omega),<- hj,List.getElem?_take_of_lt hjl,List.getD_eq_getElem?_getD,List.getElem?_eq_getElem (by omega)]
   rfl
 obtain ⟨A,cp,l,e1,hr,hu⟩ := hsl
 refine ⟨a,b,c,A,cp,l,congrArg Value.agg ?_,hr,hu⟩
 simp only [Value.cells,Array.getElem?_toList] at e0 e2 e3
 apply Array.ext_getElem?
 intro i
 rcases Nat.lt_or_ge i 4 with hi | hi
 ·have hc : i = 0 ∨ i = 1 ∨ i = 2 ∨ i = 3 := by omega
  rcases hc with rfl | rfl | rfl | rfl
  ·exact e0
  ·exact e1
  ·exact e2
  ·exact e3
 ·rw [Array.getElem?_eq_none (by omega),Array.getElem?_eq_none (by simp [laidC];omega)]
/-! . -/
structure ArR (w : World) (ab gb cb g cap : Nat) (d : AD) : Prop where
 b0 : w.cell? ⟨ab,0,none⟩ = some (.slice (some ⟨gb,0,none⟩) d.L.length cb)
 gl : gb < w.heap.size
 cl : d.L.length <= cb
 by_ : BytesAt w gb 0 d.L
 c7 : w.cell? ⟨ab,7,none⟩ = some (.slice (some ⟨g,0,none⟩) d.lv.length cap)
 lt : ab < w.heap.size /\ g < w.heap.size
 row : ∀ (i : Nat) (R : List (Nat × Nd)),d.lv[i]? = some R -> ∃ rb cr,w.cell? ⟨g,i,none⟩ = some (.slice (some ⟨rb,0,none⟩) R.length cr) /\ RowAtB w rb R
theorem ArR.below {w w' : World} {ab gb cb g cap : Nat} {d : AD} (h : ArR w ab gb cb g cap d) (hB : Below w.heap.size w w') : ArR w' ab gb cb g cap d := by
 obtain ⟨l1,l2⟩ := h.lt
 have := hB.size
 refine ⟨(hB.cell (p := ⟨ab,0,none⟩) l1).trans h.b0,by have := h.gl;omega,h.cl,fun i hi => (hB.cell (p := ⟨gb,0 + i,none⟩) h.gl).trans (h.by_ i hi),(hB.cell (p := ⟨ab,7,none⟩) l1).trans h.c7,⟨by omega,by omega⟩,fun i R hR => ?_⟩
 obtain ⟨rb,cr,h1,h2⟩ := h.row i R hR
 exact ⟨rb,cr,(hB.cell (p := ⟨g,i,none⟩) l2).trans h1,h2.kept (Keeps.of_below' hB) (fun e => e)⟩
def LayQ (w w' : World) (e : Ending) (l : List Int) : Prop :=
 Below w.heap.size w w' /\ (e = .returned (.pointer none) ∨ ∃ (d : AD) (slabs per lag : Nat) (l0 : List (Int × Int)) (kd cn : Nat -> Nat) (ab gb cb g cap : Nat),e = .returned (.pointer (some ⟨ab,0,none⟩)) /\ 1 <= slabs /\ 2 <= per /\ per <= 8 ∧
  Built d slabs per lag (risR 40 [] l) l0 kd cn /\ ArR w' ab gb cb g cap d)
theorem LayP.q {w w' : World} {e : Ending} {slabs per lag : Int} {l : List Int} (hu : ∀ x ∈ l,0 <= x /\ x <= 18446744073709551615) (h : LayP w w' e slabs per lag l) : LayQ w w' e l := by
 obtain ⟨v,rfl,h1,hB⟩ := h
 refine ⟨hB,?_⟩
 rcases h1 with ⟨_,rfl⟩ | ⟨h1,h2⟩
 ·exact .inl rfl
 ·have hb : 1 <= slabs /\ slabs <= 16 /\ 2 <= per /\ per <= 8 := by
   unfold layBad at h1
   simp only [Bool.or_eq_false_iff,decide_eq_false_iff_not] at h1
   omega
  rcases h2 with ⟨_,rfl⟩ | ⟨d,ab,gb,cb,vv,h3,rfl,hA,hL,hO,hN,_,_⟩
  ·exact .inl rfl
  ·obtain ⟨l0,kd,cn,hBt⟩ := buildA_st (by omega) (by omega) (by omega) (fun x hx => by
    rcases risR_mem _ _ x hx with h | h
    ·cases h
    ·exact hu x h) (risR_rise _ _ List.Pairwise.nil) h3
   obtain ⟨vs,ho,hr⟩ := hL.ex
   obtain ⟨g,cap,rfl,_,hg,_,_,_,hc,_⟩ := own_shape ho hBt.ne
   refine .inr ⟨d,slabs.toNat,per.toNat,lag.toNat,l0,kd,cn,ab,gb,cb,g,cap,rfl,by omega,by omega,by omega,hBt,⟨(hA.a.cell 0).trans hA.c,hA.b.lt,hN,fun i hi => ?_,(hA.a.cell 7).trans rfl,⟨hA.a.lt,hg⟩,fun i R hR => ?_⟩⟩
   ·rw [Nat.zero_add,hA.b.cell,bcA_get];simp [hi]
   ·obtain ⟨rb,cr,hv0,_,_,_,_,hrow⟩ := hr i R hR
    exact ⟨rb,cr,(hc i (List.getElem?_eq_some_iff.1 hR).1).trans hv0,hrow⟩
/-! . -/
set_option maxRecDepth 100000 in
set_option maxHeartbeats 4000000 in
theorem aof_v (w : World) (ab gb cb g cap : Nat) (d : AD) (h : ArR w ab gb cb g cap d) (L : Nat) (R : List (Nat × Nd)) (hR : d.lv[L]? = some R) (key : Int) (h16 : d.lv.length <= 16) (hrl : R.length <= 1000) :
  Calls Tryz.prog 13 #[.pointer (some ⟨ab,0,none⟩),.int .i64 (L : Int),.int .u64 key] w fun e w' => e = .returned (.int .i64 (ofA d key L : Nat)) /\ w = w' := by
 obtain ⟨rb,cr,hrc,hrow⟩ := h.row L R hR
 have hLl := (List.getElem?_eq_some_iff.1 hR).1
 have HOf := Lib.hid (show ofA d key L = ofK R key R.length from by unfold ofA;rw [rowK_get hR])
 obtain ⟨nl,hnl⟩ : ∃ nl,d.lv.length = nl := ⟨_,rfl⟩
 obtain ⟨rn,hrn⟩ : ∃ rn,R.length = rn := ⟨_,rfl⟩
 have c7 := h.c7
 rw [hnl] at c7 hLl h16
 rw [hrn] at hrc HOf hrl
 have HRow := Lib.hid hrow
 have HLt := Lib.hid (And.intro h.lt hrow.lt)
 have HGet := Lib.hid (show ∀ i,i < rn -> ∃ x,R[i]? = some x /\ loK R i = x.2.lo from fun i hi => ⟨_,List.getElem?_eq_getElem (by omega),loK_get (List.getElem?_eq_getElem (by omega))⟩)
 have q1 : (0 : Int) <= (L : Int) := by omega
 have q2 : (L : Int) < (nl : Int) := by omega
 have q3 : ((L : Int)).toNat = L := by omega
 have q4 : decide ((L : Int) < 0) = false := decide_eq_false (by omega)
 have q5 : decide ((nl : Int) <= (L : Int)) = false := decide_eq_false (by omega)
 have Hrl := Lib.hid hrl
 obtain ⟨ff,hff⟩ : ∃ ff : Nat -> Nat,(fun n => ofK R key n) = ff := ⟨_,rfl⟩
 have HF := Lib.hid (show ff 0 = 0 /\ (∀ n,ff (n + 1) = if loK R n <= key then n else ff n) /\ ∀ n,ff n <= n from by
  rw [<- hff]
  refine ⟨rfl,fun n => rfl,fun n => ?_⟩
  show ofK R key n <= n
  rcases Nat.eq_zero_or_pos n with e | e
  ·subst e;exact Nat.le_refl _
  ·have := (ofK_spec R key n e).1;omega)
 have HOe := Lib.hid (show ofA d key L = ff rn from by rw [HOf.out,<- hff])
 clear h hrow hnl hrn hrl HOf hff h16 hLl
 go_enter Tryz.func13,Tryz.ntmps13
 go_wp2_with (fail)
 go_loopw [8,9] (fun av iv wr => ∃ k : Nat,k <= rn /\ iv = .int .i64 k /\ av = .int .i64 (ff k : Nat) /\ wr = w) (fun _ iv _ => rn - (intOf iv).toNat)
 case atStart => exact ⟨0,Nat.zero_le _,rfl,by rw [HF.out.1];rfl,rfl⟩
 case round =>
  obtain ⟨k,hk,rfl,rfl,rfl⟩ := hrel
  by_cases hlt : k < rn
  ·obtain ⟨x,hx,hlo⟩ := HGet.out k hlt
   have d2 : wr.cell? ⟨rb,k * 22 + 2,none⟩ = some (.int .u64 x.2.lo) := ((HRow.out.cell hx (by decide)).trans ((atC_succ _ _ 1).trans rfl))
   have HN := Lib.hid (HF.out.2.1 k)
   have HFl := Lib.hid (HF.out.2.2 k)
   rw [hlo] at HN
   obtain ⟨lo,hlo2⟩ : ∃ lo,x.2.lo = lo := ⟨_,rfl⟩
   rw [hlo2] at d2 HN
   obtain ⟨fk,hfk⟩ : ∃ fk,ff k = fk := ⟨_,rfl⟩
   rw [hfk] at HN HFl
   have Hlt := Lib.hid hlt
   have b1 : (k : Int) < (rn : Int) := by omega
   have b2 : (0 : Int) <= (k : Int) := by omega
   have b3 : ((k : Int)).toNat = k := by omega
   have b4 : (k : Int) <= 1000 := by have := Hrl.out;omega
   rw [hfk]
   clear hx hlo hlo2 hfk
   have Hk := Lib.hid hk
   clear hk hlt
   by_cases hle : lo <= key
   ·have HN2 := Lib.hid (show ff (k + 1) = k from by rw [HN.out,if_pos hle])
    go_wp2_with (fail)
    go_roundw
    case rel => exact ⟨k + 1,Hlt.out,by go_num,by rw [HN2.out],trivial⟩
    case measure => have := Hlt.out;simp [intOf];omega
   ·have HN2 := Lib.hid (show ff (k + 1) = fk from by rw [HN.out,if_neg hle])
    go_wp2_with (fail)
    go_roundw
    case rel => exact ⟨k + 1,Hlt.out,by go_num,by rw [HN2.out],trivial⟩
    case measure => have := Hlt.out;simp [intOf];omega
  ·obtain rfl : k = rn := by omega
   go_wp2_with (fail)
   go_ret
   exact ⟨by rw [HOe.out];rfl,rfl⟩
/-! . -/
end Go.Proofs.YtodgfbjjjgohgaaGreat
