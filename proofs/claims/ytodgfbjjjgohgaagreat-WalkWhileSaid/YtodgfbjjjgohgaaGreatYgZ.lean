/-
 A WALK THROUGH ANY TREE,some of whose words may be stored to between: where it stands. (Plain,but for the words' places.)
-/
import Derived.Test.YtodgfbjjjgohgaaGreatKsZ
import Derived.Test.YtodgfbjjjgohgaaGreatYfZ
namespace Go.Proofs.YtodgfbjjjgohgaaGreat
open Go.RowKit
set_option linter.unusedVariables false

def memA (d : AD) : List Int := wordsB d.L (128 * (d.slabs + 1))
theorem memA_len (d : AD) : (memA d).length = 128 * (d.slabs + 1) := wordsM_len _ _
theorem memA_u64 (d : AD) : U64s (memA d) := wordsM_u64 _ _
theorem wordsY_getD (L : List UInt8) (N k : Nat) (h : k < N) : (wordsB L N).getD k 0 = chunk L k := by
 unfold wordsB
 rw [List.getD_eq_getElem?_getD,List.getElem?_eq_getElem (by simpa using h)]
 simp [wordAt]
theorem memA_at {d : AD} {k : Nat} (h : k < 128 * (d.slabs + 1)) : (memA d).getD k 0 = chunk d.L k := wordsY_getD _ _ _ h
/-! . -/
theorem all_lt_mono {l : List Int} {b : Int} (h : ∀ x ∈ l,x < b) : l.all (fun x => decide (x < b)) = true := by
 rw [List.all_eq_true];exact fun x hx => decide_eq_true (h x hx)
theorem bitsTo_lt {m j : Nat} (h : m < 2 ^ j) : ∀ k,∀ x ∈ bitsTo m k,x < (j : Int)
 | 0 => fun x hx => by simp [bitsTo] at hx
 | k + 1 => fun x hx => by
  by_cases hb : m.testBit k = true
  ·rw [bitsTo_yes hb] at hx
   rcases List.mem_append.1 hx with h1 | h1
   ·exact bitsTo_lt h k x h1
   ·rw [List.mem_singleton.1 h1]
    rcases Nat.lt_or_ge k j with h2 | h2
    ·omega
    ·have := Nat.testBit_lt_two_pow (Nat.lt_of_lt_of_le h (Nat.pow_le_pow_right (by decide) h2))
     rw [this] at hb;cases hb
  ·rw [bitsTo_no (by simpa using hb)] at hx
   exact bitsTo_lt h k x hx
theorem may_pow (j c : Nat) (h : j <= blkK c) : mayBt (2 ^ j - 1) (blkK c : Int) = true := by
 refine all_lt_mono (fun x hx => ?_)
 have hp : 0 < 2 ^ j := Nat.pow_pos (by decide)
 have := bitsTo_lt (show 2 ^ j - 1 < 2 ^ j by omega) 64 x hx
 omega
theorem ArI.img {d : AD} {kd cn : Nat -> Nat} (h : ArI d kd cn) (h1 : 1 <= d.slabs) : ImgOk d.L d.slabs := by
 refine ⟨h1,h.ok.sl,h.ok.len,fun i hi hs => ⟨kd i,2 ^ cn i - 1,?_,?_,?_,?_,?_⟩⟩
 ·have := h.h0 i hi hs
  unfold chunk at this
  rw [show 1024 * i = 8 * (128 * i) by omega]
  exact this
 ·have := h.h1 i hi hs
  unfold chunk at this
  rw [show 1024 * i + 8 = 8 * (128 * i + 1) by omega]
  exact this
 ·rcases h.kk i with h2 | h2 | h2 <;> omega
 ·have h15 : cn i <= 15 := by rcases h.kk i with h2 | h2 | h2 <;> omega
  have := Nat.pow_le_pow_right (show 0 < 2 by decide) h15
  omega
 ·refine may_pow _ _ ?_
  rcases h.kk i with ⟨h2,h3⟩ | ⟨h2,h3⟩ | ⟨h2,h3⟩ <;> rw [h2] <;> unfold blkK
  ·rw [h3];exact Nat.zero_le _
  ·exact h3
  ·exact h3
/-! . -/
theorem words_of {n : Nd} (h : 0 <= n.lv /\ n.lv <= 15) {q : Nat} (hq : q < 24) : wordsF n q = fullW n q := by
 unfold wordsF wTo
 rw [if_neg (by omega),if_pos (by omega)]
structure NdAt (vs : List Int) (a : Nat) (n : Nd) : Prop where
 wd : ∀ q,q < 24 -> vs.getD (a / 8 + q) 0 = fullW n q
 al : a % 64 = 0
 lt : a + 192 <= 8 * vs.length
 hi : a + 192 <= 1000000
theorem NdAt.wrd {vs : List Int} {a : Nat} {n : Nd} (h : NdAt vs a n) {q : Nat} (hq : q < 24) : wrdA (a : Int) q = ((a + 8 * q : Nat) : Int) := by
 have := h.hi
 unfold wrdA
 rw [IntKind.wrap_u64]
 omega
theorem NdAt.er {vs : List Int} {a : Nat} {n : Nd} (h : NdAt vs a n) {q : Nat} (hq : q < 24) : erM vs (a : Int) q = 0 := by
 have h1 := h.al
 have h2 := h.lt
 unfold erM atE
 rw [h.wrd hq,if_neg (by omega)]
theorem NdAt.rd {vs : List Int} {a : Nat} {n : Nd} (h : NdAt vs a n) {q : Nat} (hq : q < 24) : wdM vs (a : Int) q = fullW n q := by
 have h1 := h.al
 have he := h.er hq
 unfold erM at he
 unfold wdM ldW
 rw [if_pos he,h.wrd hq,<- h.wd q hq]
 congr 1
 omega
theorem Built.at {d : AD} {slabs per lag : Nat} {keys : List Int} {l0 : List (Int × Int)} {kd cn : Nat -> Nat} (h : Built d slabs per lag keys l0 kd cn) {L : Nat} {R : List (Nat × Nd)} (hR : d.lv[L]? = some R) {x : Nat × Nd} (hx : x ∈ R) : NdAt (memA d) x.1 x.2 := by
 obtain ⟨l,g⟩ := h.i.rw L R hR
 obtain ⟨w1,w2,w3,w4⟩ := g.w x hx
 obtain ⟨c1,c2⟩ := h.i.n.st R (List.mem_of_getElem? hR) x hx
 obtain ⟨s,j,e1,e2,e3,e4,_⟩ := h.i.n.i.slot c1
 have hus := h.i.n.i.ok.us
 obtain ⟨i,hi⟩ := List.mem_iff_getElem?.1 hx
 have hlv := (g.p.lvl hi).1
 have hL : L < d.lv.length := (List.getElem?_eq_some_iff.1 hR).1
 have h16 := h.le
 refine ⟨fun q hq => ?_,w4,by rw [memA_len];omega,w3⟩
 rw [memA_at (by omega),c2 q hq]
 exact words_of (by omega) hq
theorem Built.rootW {d : AD} {slabs per lag : Nat} {keys : List Int} {l0 : List (Int × Int)} {kd cn : Nat -> Nat} (h : Built d slabs per lag keys l0 kd cn) : atE (memA d).length 16 = 0 /\ ldW (memA d) 16 = (topA d : Int) := by
 have he : atE (memA d).length 16 = 0 := by unfold atE;rw [memA_len,if_neg (by omega)]
 refine ⟨he,?_⟩
 unfold ldW
 rw [if_pos he,show ((16 : Int) / 8).toNat = 2 by decide,memA_at (by omega)]
 exact h.root
def NdZ (n : Nd) : Prop := ∀ j,n.len <= j -> n.k j = 0 /\ n.p j = 0
theorem eK_beyond {l : List (Int × Int)} {j : Nat} (h : l.length <= j) : eK l j = 0 /\ eP l j = 0 := by
 unfold eK eP;rw [List.getD_eq_getElem?_getD,List.getElem?_eq_none h];exact ⟨rfl,rfl⟩
theorem RowP.own {lv per : Nat} {l : List (Int × Int)} {R : List (Nat × Nd)} (h : RowP lv per l R) (he : EntOk l) (hp8 : per <= 8) {i : Nat} {x : Nat × Nd} (hx : R[i]? = some x) :
  ∃ o : List (Int × Int),x.2.k = eK o /\ x.2.p = eP o /\ o.length <= 8 /\ ∀ j,j < o.length -> eP o j ≠ 0 := by
 have hn := h.nd i x hx
 have h8 : (ownG l per (i * per)).length <= 8 := by unfold ownG;rw [List.length_take];omega
 have hne : ∀ j,j < (ownG l per (i * per)).length -> eP (ownG l per (i * per)) j ≠ 0 := fun j hj => by
  have hj2 : j < per /\ i * per + j < l.length := by unfold ownG at hj;rw [List.length_take,List.length_drop] at hj;omega
  rw [ownG_p,if_pos hj2.1]
  exact he.ptr _ hj2.2
 by_cases hl : lv = 0
 ·refine ⟨ownG l per (i * per),?_,?_,h8,hne⟩
  ·rw [hn];unfold ndG;rw [if_pos hl,if_pos hl];rfl
  ·rw [hn];unfold ndG;rw [if_pos hl,if_pos hl];rfl
 ·refine ⟨(ownG l per (i * per)).drop 1,?_,?_,by rw [List.length_drop];omega,fun j hj => ?_⟩
  ·rw [hn];unfold ndG;rw [if_neg hl,if_neg hl];rfl
  ·rw [hn];unfold ndG;rw [if_neg hl,if_neg hl];rfl
  ·rw [List.length_drop] at hj
   rw [eP_drop]
   exact hne _ (by omega)
theorem RowP.z {lv per : Nat} {l : List (Int × Int)} {R : List (Nat × Nd)} (h : RowP lv per l R) (he : EntOk l) (hp8 : per <= 8) {i : Nat} {x : Nat × Nd} (hx : R[i]? = some x) : NdZ x.2 := by
 obtain ⟨o,hk,hp,h8,hne⟩ := h.own he hp8 hx
 have hlen : x.2.len = o.length := len_ofK h8 (fun j hj => by rw [hp];exact hne j hj) (fun _ => by rw [hp];exact (eK_beyond (Nat.le_refl _)).2)
 intro j hj
 rw [hk,hp]
 exact eK_beyond (by omega)
theorem rd_z {n : Nd} (h : NdZ n) {W : Nat -> Int} (hW : ∀ q,q < 24 -> W q = fullW n q) : ∀ q,q < 24 -> q < 5 ∨ 8 <= q -> rdW W 24 q = fullW n q := by
 intro q hq h58
 unfold rdW
 by_cases hp : q = 3 ∨ (pthB W q = true /\ q < 24)
 ·rw [if_pos hp,hW q hq]
 ·rw [if_neg hp]
  rcases h58 with h5 | h8
  ·exfalso
   apply hp
   by_cases e : q = 3
   ·exact .inl e
   ·exact .inr ⟨(pthB_iff W q).2 (by omega),hq⟩
  ·have hnp : ¬ (8 <= q /\ q < 24 /\ ∀ j,j < q -> 9 <= j -> j % 2 = 1 -> W j ≠ 0) := fun e => hp (.inr ⟨(pthB_iff W q).2 (.inr (.inr e)),hq⟩)
   have hz : ∃ j,j < q /\ 9 <= j /\ j % 2 = 1 /\ W j = 0 := by
    refine Classical.byContradiction (fun hn => hnp ⟨h8,hq,fun j h1 h2 h3 h4 => hn ⟨j,h1,h2,h3,h4⟩⟩)
   obtain ⟨j,j1,j2,j3,j4⟩ := hz
   rw [hW j (by omega)] at j4
   obtain ⟨u,rfl⟩ : ∃ u,j = 9 + 2 * u := ⟨(j - 9) / 2,by omega⟩
   have hu : n.len <= u := by
    rcases Nat.lt_or_ge u n.len with h1 | h1
    ·exact absurd ((show fullW n (9 + 2 * u) = n.p u from by
      unfold fullW
      rw [if_neg (by omega),if_neg (by omega),if_neg (by omega),if_neg (by omega),if_neg (by omega),if_neg (by omega),if_neg (by omega),show (9 + 2 * u - 9) / 2 = u by omega]).symm.trans j4) (Nd.p_lt n u h1)
    ·exact h1
   unfold fullW
   rw [if_neg (by omega),if_neg (by omega),if_neg (by omega),if_neg (by omega),if_neg (by omega),if_neg (by omega)]
   split
   ·exact ((h _ (by omega)).1).symm
   ·exact ((h _ (by omega)).2).symm
theorem found_z {n : Nd} (h : NdZ n) (hl : 0 <= n.lv /\ n.lv <= 15) {W : Nat -> Int} (hW : ∀ q,q < 24 -> W q = fullW n q) : (ofV (rdW W 24)).2 = 0 /\ ndCells (ofV (rdW W 24)).1 = ndCells n /\ (ofV (rdW W 24)).1 = nTo (rdW W 24) 8 := by
 have hr := rd_z h hW
 have e0 : rdW W 24 0 = tagM + n.lv := hr 0 (by decide) (by decide)
 have hb : ofBad (rdW W 24) = false := by
  unfold ofBad
  rw [e0,decide_eq_false (by omega),decide_eq_false (by omega)];rfl
 have ho : ofV (rdW W 24) = (nTo (rdW W 24) 8,0) := by unfold ofV;rw [hb];rfl
 rw [ho]
 refine ⟨rfl,?_,rfl⟩
 have hk : ∀ i,i < 8 -> (nTo (rdW W 24) 8).k i = n.k i := fun i hi => by
  show (if i < 8 then rdW W 24 (8 + 2 * i) else 0) = _
  rw [if_pos hi,hr _ (by omega) (by omega)]
  unfold fullW
  rw [if_neg (by omega),if_neg (by omega),if_neg (by omega),if_neg (by omega),if_neg (by omega),if_neg (by omega),if_pos (by omega),show (8 + 2 * i - 8) / 2 = i by omega]
 have hp : ∀ i,i < 8 -> (nTo (rdW W 24) 8).p i = n.p i := fun i hi => by
  show (if i < 8 then rdW W 24 (9 + 2 * i) else 0) = _
  rw [if_pos hi,hr _ (by omega) (by omega)]
  unfold fullW
  rw [if_neg (by omega),if_neg (by omega),if_neg (by omega),if_neg (by omega),if_neg (by omega),if_neg (by omega),if_neg (by omega),show (9 + 2 * i - 9) / 2 = i by omega]
 have h8 : ∀ (f g : Nat -> Int),(∀ i,i < 8 -> f i = g i) -> u8s f = u8s g := fun f g h => List.map_congr_left (fun i hi => by rw [h i (List.mem_range.1 hi)])
 unfold ndCells
 rw [h8 _ _ hk,h8 _ _ hp]
 show _ = _
 have f1 : (nTo (rdW W 24) 8).lv = n.lv := by show rdW W 24 0 - tagM = _;omega
 have f2 : (nTo (rdW W 24) 8).lo = n.lo := hr 1 (by decide) (by decide)
 have f3 : (nTo (rdW W 24) 8).nx = n.nx := hr 2 (by decide) (by decide)
 have f4 : (nTo (rdW W 24) 8).ct = n.ct := hr 3 (by decide) (by decide)
 have f5 : (nTo (rdW W 24) 8).fi = n.fi := hr 4 (by decide) (by decide)
 rw [f1,f2,f3,f4,f5]
end Go.Proofs.YtodgfbjjjgohgaaGreat
namespace Go.Proofs.YtodgfbjjjgohgaaGreat
open Go.RowKit
set_option linter.unusedVariables false

/-! . -/
structure Tr (rows : List (List (Nat × Nd))) (key : Int) (of st : Nat -> Nat) (Wt : Nat -> Nat -> Nat -> Int) (vsT : Nat -> List Int) : Prop where
 pth : PathP rows key of st
 ru : ∀ τ,atE (vsT τ).length 16 = 0
 rt : ∀ (τ : Nat) (R : List (Nat × Nd)) (x : Nat × Nd),rows[rows.length - 1]? = some R -> R[0]? = some x -> ldW (vsT τ) 16 = (x.1 : Int)
 crs : ∀ (L : Nat) (R : List (Nat × Nd)) (i : Nat) (x : Nat × Nd),rows[L]? = some R -> R[i]? = some x -> Crs (Wt x.1) x.2.nx
 hld : ∀ (τ : Nat) (L : Nat) (R : List (Nat × Nd)) (i : Nat) (x : Nat × Nd),rows[L]? = some R -> R[i]? = some x -> Holds (Wt x.1) (x.1 : Int) x.2.nx (loK R (i + 1)) τ (vsT τ)
 u64 : ∀ (L : Nat) (R : List (Nat × Nd)) (i : Nat) (x : Nat × Nd),rows[L]? = some R -> R[i]? = some x -> ∀ (t q : Nat),0 <= Wt x.1 t q /\ Wt x.1 t q <= 18446744073709551615
 fnd : ∀ (L : Nat) (R : List (Nat × Nd)) (i : Nat) (x : Nat × Nd) (t : Nat),rows[L]? = some R -> R[i]? = some x -> (ofV (rdW (Wt x.1 t) 24)).2 = 0 /\ (ofV (rdW (Wt x.1 t) 24)).1.lv = (L : Int) /\ (ofV (rdW (Wt x.1 t) 24)).1.nx = x.2.nx /\ (0 < L -> (ofV (rdW (Wt x.1 t) 24)).1.child key = x.2.child key)
 nx : ∀ (L : Nat) (R : List (Nat × Nd)) (i : Nat) (x : Nat × Nd),rows[L]? = some R -> R[i]? = some x -> x.2.nx = match R[i + 1]? with | some y => (y.1 : Int) | none => 0
 ad : ∀ (L : Nat) (R : List (Nat × Nd)) (i : Nat) (x : Nat × Nd),rows[L]? = some R -> R[i]? = some x -> 0 < x.1 /\ x.1 <= 1000000 /\ ∀ τ,atE (vsT τ).length (x.1 : Int) = 0
 lvl : rows.length <= 16
 len : ∀ τ,0 < (vsT τ).length
/-! . -/
def remS (of st : Nat -> Nat) : Nat -> Nat
 | 0 => 0
 | L + 1 => (of L - st L + 1) + remS of st L
def rem (of st : Nat -> Nat) (L i : Nat) : Nat := (of L - i) + remS of st L
theorem rem_next {of st : Nat -> Nat} {L i : Nat} (h : i < of L) : rem of st L (i + 1) + 1 = rem of st L i := by unfold rem;omega
theorem rem_down {of st : Nat -> Nat} {L : Nat} : rem of st L (st L) + 1 = rem of st (L + 1) (of (L + 1)) := by unfold rem;rw [remS];omega
/-! . -/
def kB (kb xb : Nat) (client key level lo tt : Int) : Wk := { wkNew kb (some ⟨xb,0,none⟩) client key level with low := lo,tto := tt }
def hopLT (st : Nat -> Nat) (level L i : Nat) (x : Nat × Nd) : Int × Int := if L = level /\ st L < i then (x.2.lo,(x.1 : Int)) else (0,0)
structure Bnd (j fl fe : Int) : Prop where
 fl0 : 0 <= fl
 fe0 : 0 <= fe
 fl : fl <= j
 fe : fe <= j
theorem Bnd.next {j fl fe : Int} (h : Bnd j fl fe) : Bnd (j + 1) fl fe := ⟨h.fl0,h.fe0,by have := h.fl;omega,by have := h.fe;omega⟩
theorem Bnd.flush {j fl fe : Int} (h : Bnd j fl fe) : Bnd (j + 1) (fl + 1) fe := ⟨by have := h.fl0;omega,h.fe0,by have := h.fl;omega,by have := h.fe;omega⟩
theorem Bnd.fence {j fl fe : Int} (h : Bnd j fl fe) : Bnd (j + 1) fl (fe + 1) := ⟨h.fl0,by have := h.fe0;omega,by have := h.fl;omega,by have := h.fe;omega⟩
structure MmG (w : World) (B U mb : Nat) (S0 : Nat -> Prop) (S : Nat -> Prop) (vs is : List Int) (mk : Int -> Nat -> Int) (F : Int -> List (Int × Int)) (lo st fl fe : Int) : Prop where
 m : MemP w mb S vs is mk F lo st fl fe
 s : ∀ i,S i -> S0 i ∨ (B <= i /\ i < U)
structure FxG (w : World) (B U kb xb mb : Nat) (S0 : Nat -> Prop) : Prop where
 x : ∃ C,Blk w xb C 88 /\ C[0]? = some (.pointer (some ⟨mb,0,none⟩))
 ne : kb < B /\ xb < B /\ xb ≠ kb /\ ¬ S0 kb /\ ¬ S0 xb /\ (∀ i,S0 i -> i < B)
 le : B <= U /\ U <= w.heap.size
section
variable (rows : List (List (Nat × Nd))) (of st : Nat -> Nat) (Wt : Nat -> Nat -> Nat -> Int) (vsT : Nat -> List Int) (key : Int) (level c : Nat) (N0 : Nat) (st0 : Int) (JJ : Nat -> Nat -> (Int -> List (Int × Int)) -> Int -> Prop) (Q0 : Prop)
def LookG (w : World) (B U kb xb mb : Nat) (S0 : Nat -> Prop) (j τ : Nat) : Prop :=
 ∃ L i R x lt tt sb s τ0 js S is mk F lo fl fe,rows[L]? = some R /\ R[i]? = some x /\ (st L <= i /\ i <= of L /\ level <= L) /\ (lt,tt) = hopLT st level L i x ∧
  Blk w kb (wkCells (wkCome (kB kb xb c key level lt tt) kb sb x.1)) 70 /\ Blk w sb (snCells s) 164 /\ WsI (Wt x.1) x.1 (loK R (i + 1)) τ0 τ sb (some ⟨mb,0,none⟩) js s /\ τ0 <= τ /\ (B <= sb /\ sb < U /\ ¬ S sb) ∧
  MmG w B U mb S0 S (vsT τ) is mk F lo st0 fl fe /\ Bnd j fl fe /\ JJ L i F fe /\ j + 45 * rem of st L i <= 1 + 45 * N0 + 43 * τ0 + js
def HopG (w : World) (B U kb xb mb : Nat) (S0 : Nat -> Prop) (j τ : Nat) : Prop :=
 ∃ L i R x y lt tt sb f lb S is mk F lo fl fe,rows[L]? = some R /\ R[i]? = some x /\ R[i + 1]? = some y /\ (st L <= i /\ i < of L /\ level <= L) /\ (lt,tt) = hopLT st level L i x /\ (f : Nd).lv = (L : Int) /\ f.nx = (y.1 : Int) ∧
  Blk w kb (wkCells (wkHop (wkSeen (wkCome (kB kb xb c key level lt tt) kb sb x.1) f y.2.lo true) kb lb)) 70 /\ (B <= lb /\ lb < U /\ ¬ S lb) ∧
  MmG w B U mb S0 S (vsT τ) is mk F lo st0 fl fe /\ Bnd j fl fe /\ JJ L i F fe ∧
  ((∃ g cap,LsW w lb g cap (some ⟨mb,0,none⟩) (c : Int) x.1 /\ (B <= g /\ g < U /\ ¬ S g) /\ j + 45 * rem of st L i <= 1 + 45 * N0 + 43 * τ + 43) ∨
   (∃ A cap,Blk w lb (lsCells ⟨some ⟨mb,0,none⟩,(c : Int),.slice A 0 cap,false,0⟩) 175 /\ (Q0 -> mk (lineOf (x.1 : Int)) c = (F (lineOf (x.1 : Int))).length) /\ j + 45 * rem of st L i <= 1 + 45 * N0 + 43 * τ + 44))
def NewG (w : World) (B U kb xb mb : Nat) (S0 : Nat -> Prop) (j τ : Nat) : Prop :=
 ∃ S is mk F lo fl fe,j = 0 /\ Blk w kb (wkCells (kB kb xb c key level 0 0)) 70 /\ MmG w B U mb S0 S (vsT τ) is mk F lo st0 fl fe /\ Bnd 0 fl fe /\ JJ (rows.length - 1) 0 F fe
def EndG (w : World) (B U kb xb mb : Nat) (S0 : Nat -> Prop) (j τ : Nat) : Prop :=
 ∃ R x lt tt sb hw hs T S is mk F lo fl fe,rows[level]? = some R /\ R[of level]? = some x /\ (lt,tt) = hopLT st level level (of level) x /\ T <= τ ∧
  Blk w kb (wkCells { wkSeen (wkCome (kB kb xb c key level lt tt) kb sb x.1) (ofV (rdW (Wt x.1 T) 24)).1 hw hs with over := true,e := 0 }) 70 ∧
  MmG w B U mb S0 S (vsT τ) is mk F lo st0 fl fe /\ Bnd j fl fe /\ JJ level (of level) F fe
structure StG2 (w : World) (B U kb xb mb : Nat) (S0 : Nat -> Prop) (j τ : Nat) : Prop where
 f : FxG w B U kb xb mb S0
 p : NewG rows vsT key level c st0 JJ w B U kb xb mb S0 j τ ∨ LookG rows of st Wt vsT key level c N0 st0 JJ w B U kb xb mb S0 j τ ∨ HopG rows of st vsT key level c N0 st0 JJ Q0 w B U kb xb mb S0 j τ
end
section
variable {rows : List (List (Nat × Nd))} {of st : Nat -> Nat} {Wt : Nat -> Nat -> Nat -> Int} {vsT : Nat -> List Int} {key : Int} {level c : Nat} {N0 : Nat} {st0 : Int} {JJ : Nat -> Nat -> (Int -> List (Int × Int)) -> Int -> Prop} {Q0 : Prop}
variable {w w' : World} {B U kb xb mb : Nat} {S0 Y : Nat -> Prop} {j τ : Nat}
structure YG (Y : Nat -> Prop) (B U kb xb : Nat) (S0 : Nat -> Prop) : Prop where
 k : ¬ Y kb
 x : ¬ Y xb
 s : ∀ i,S0 i -> ¬ Y i
 u : ∀ i,B <= i -> i < U -> ¬ Y i
theorem YG.ofS (h : YG Y B U kb xb S0) {S : Nat -> Prop} (hs : ∀ i,S i -> S0 i ∨ (B <= i /\ i < U)) : ∀ i,S i -> ¬ Y i := fun i hi => by
 rcases hs i hi with e | e
 ·exact h.s i e
 ·exact h.u i e.1 e.2
theorem FxG.keptY (h : FxG w B U kb xb mb S0) (hk : Keeps Y w w') (hy : YG Y B U kb xb S0) : FxG w' B U kb xb mb S0 := by
 obtain ⟨C,hx,hC⟩ := h.x
 exact ⟨⟨C,hx.kept hk hy.x,hC⟩,h.ne,h.le.1,Nat.le_trans h.le.2 hk.size⟩
theorem MmG.keptY {S : Nat -> Prop} {vs is : List Int} {mk : Int -> Nat -> Int} {F : Int -> List (Int × Int)} {lo fl fe : Int} (h : MmG w B U mb S0 S vs is mk F lo st0 fl fe) (hk : Keeps Y w w') (hy : YG Y B U kb xb S0) : MmG w' B U mb S0 S vs is mk F lo st0 fl fe :=
 ⟨h.m.kept hk (hy.ofS h.s),h.s⟩
theorem StG2.keptY (h : StG2 rows of st Wt vsT key level c N0 st0 JJ Q0 w B U kb xb mb S0 j τ) (hk : Keeps Y w w') (hy : YG Y B U kb xb S0) : StG2 rows of st Wt vsT key level c N0 st0 JJ Q0 w' B U kb xb mb S0 j τ := by
 refine ⟨h.f.keptY hk hy,?_⟩
 rcases h.p with ⟨S,is,mk,F,lo,fl,fe,rfl,hb,hM,hBn,hJ⟩ | ⟨L,i,R,x,lt,tt,sb,s,τ0,js,S,is,mk,F,lo,fl,fe,hR,hx,hl,hlt,hb,hs,hI,hτ,hsb,hM,hr⟩ | ⟨L,i,R,x,y,lt,tt,sb,f,lb,S,is,mk,F,lo,fl,fe,hR,hx,hyy,hl,hlt,f2,f3,hb,hlb,hM,hBn,hJ,hph⟩
 ·exact .inl ⟨S,is,mk,F,lo,fl,fe,rfl,hb.kept hk hy.k,hM.keptY hk hy,hBn,hJ⟩
 ·exact .inr (.inl ⟨L,i,R,x,lt,tt,sb,s,τ0,js,S,is,mk,F,lo,fl,fe,hR,hx,hl,hlt,hb.kept hk hy.k,hs.kept hk (hy.u sb hsb.1 hsb.2.1),hI,hτ,hsb,hM.keptY hk hy,hr⟩)
 ·refine .inr (.inr ⟨L,i,R,x,y,lt,tt,sb,f,lb,S,is,mk,F,lo,fl,fe,hR,hx,hyy,hl,hlt,f2,f3,hb.kept hk hy.k,hlb,hM.keptY hk hy,hBn,hJ,?_⟩)
  rcases hph with ⟨g,cap,hL,hg,hj⟩ | ⟨A,cap,hbl,hr⟩
  ·exact .inl ⟨g,cap,hL.kept hk (hy.u lb hlb.1 hlb.2.1) (hy.u g hg.1 hg.2.1),hg,hj⟩
  ·exact .inr ⟨A,cap,hbl.kept hk (hy.u lb hlb.1 hlb.2.1),hr⟩
theorem YG.none : YG NoB B U kb xb S0 := ⟨id,id,fun _ _ => id,fun _ _ _ => id⟩
theorem StG2.le (h : StG2 rows of st Wt vsT key level c N0 st0 JJ Q0 w B U kb xb mb S0 j τ) : j <= 45 + 45 * N0 + 43 * τ := by
 rcases h.p with ⟨S,is,mk,F,lo,fl,fe,rfl,_⟩ | ⟨L,i,_,_,_,_,_,_,τ0,js,_,_,_,_,_,_,_,_,_,_,_,_,_,hI,hτ,_,_,_,_,hj⟩ | ⟨L,i,_,_,_,_,_,_,_,_,_,_,_,_,_,_,_,_,_,_,_,_,_,_,_,_,_,_,_,hph⟩
 ·omega
 ·have := hI.le hτ;omega
 ·rcases hph with ⟨_,_,_,_,hj⟩ | ⟨_,_,_,_,hj⟩ <;> omega
theorem StG2.turn (h : StG2 rows of st Wt vsT key level c N0 st0 (fun _ _ _ _ => True) False w B U kb xb mb S0 j τ) : ∃ S is mk F lo fl fe,MmG w B U mb S0 S (vsT τ) is mk F lo st0 fl fe ∧
  ∀ w' S' is' mk' F' lo' st1,MemP w' mb S' (vsT (τ + 1)) is' mk' F' lo' st1 fl fe -> (∀ i,S' i -> S i ∨ w.heap.size <= i) -> Keeps S w w' -> StG2 rows of st Wt vsT key level c N0 st1 (fun _ _ _ _ => True) False w' B w'.heap.size kb xb mb S0 j (τ + 1) := by
 have hne := h.f.ne
 have hle := h.f.le
 have hMm : ∀ {S : Nat -> Prop} {w' : World} {S' : Nat -> Prop} {vs is' : List Int} {mk' : Int -> Nat -> Int} {F' : Int -> List (Int × Int)} {lo' st1 fl fe : Int},(∀ i,S i -> S0 i ∨ (B <= i /\ i < U)) -> MemP w' mb S' vs is' mk' F' lo' st1 fl fe -> (∀ i,S' i -> S i ∨ w.heap.size <= i) -> Keeps S w w' -> MmG w' B w'.heap.size mb S0 S' vs is' mk' F' lo' st1 fl fe := fun hs hm hs' hk => ⟨hm,fun i hi => by
  have h1 := hm.lt hi
  have h2 := hk.size
  rcases hs' i hi with e | e
  ·rcases hs i e with e | e
   ·exact .inl e
   ·exact .inr (by omega)
  ·exact .inr (by omega)⟩
 have hsk : ∀ {S : Nat -> Prop},(∀ i,S i -> S0 i ∨ (B <= i /\ i < U)) -> ¬ S kb /\ ¬ S xb := fun hs =>
  ⟨fun e => by rcases hs _ e with h1 | h1;exact hne.2.2.2.1 h1;omega,fun e => by rcases hs _ e with h1 | h1;exact hne.2.2.2.2.1 h1;omega⟩
 have hfx : ∀ {S : Nat -> Prop} {w' : World},(∀ i,S i -> S0 i ∨ (B <= i /\ i < U)) -> Keeps S w w' -> FxG w' B w'.heap.size kb xb mb S0 := fun hs hk => by
  obtain ⟨C,hx,hC⟩ := h.f.x
  exact ⟨⟨C,hx.kept hk (hsk hs).2,hC⟩,hne,by have := hk.size;omega,Nat.le_refl _⟩
 rcases h.p with ⟨S,is,mk,F,lo,fl,fe,rfl,hb,hM,hBn,hJ⟩ | ⟨L,i,R,x,lt,tt,sb,s,τ0,js,S,is,mk,F,lo,fl,fe,hR,hx,hl,hlt,hb,hs,hI,hτ,hsb,hM,hBn,hJ,hj⟩ | ⟨L,i,R,x,y,lt,tt,sb,f,lb,S,is,mk,F,lo,fl,fe,hR,hx,hyy,hl,hlt,f2,f3,hb,hlb,hM,hBn,hJ,hph⟩
 ·exact ⟨S,is,mk,F,lo,fl,fe,hM,fun w' S' is' mk' F' lo' st1 hm hs' hk => ⟨hfx hM.s hk,.inl ⟨S',is',mk',F',lo',fl,fe,rfl,hb.kept hk (hsk hM.s).1,hMm hM.s hm hs' hk,hBn,trivial⟩⟩⟩
 ·exact ⟨S,is,mk,F,lo,fl,fe,hM,fun w' S' is' mk' F' lo' st1 hm hs' hk => ⟨hfx hM.s hk,.inr (.inl ⟨L,i,R,x,lt,tt,sb,s,τ0,js,S',is',mk',F',lo',fl,fe,hR,hx,hl,hlt,hb.kept hk (hsk hM.s).1,hs.kept hk hsb.2.2,hI.turn (Nat.le_succ τ),by omega,⟨hsb.1,by have := hk.size;omega,fun e => by rcases hs' _ e with h1 | h1;exact hsb.2.2 h1;omega⟩,hMm hM.s hm hs' hk,hBn,trivial,hj⟩)⟩⟩
 ·refine ⟨S,is,mk,F,lo,fl,fe,hM,fun w' S' is' mk' F' lo' st1 hm hs' hk => ⟨hfx hM.s hk,.inr (.inr ⟨L,i,R,x,y,lt,tt,sb,f,lb,S',is',mk',F',lo',fl,fe,hR,hx,hyy,hl,hlt,f2,f3,hb.kept hk (hsk hM.s).1,⟨hlb.1,by have := hk.size;omega,fun e => by rcases hs' _ e with h1 | h1;exact hlb.2.2 h1;omega⟩,hMm hM.s hm hs' hk,hBn,trivial,?_⟩)⟩⟩
  rcases hph with ⟨g,cap,hL,hg,hj⟩ | ⟨A,cap,hbl,_,hj⟩
  ·exact .inl ⟨g,cap,hL.kept hk hlb.2.2 hg.2.2,⟨hg.1,by have := hk.size;omega,fun e => by rcases hs' _ e with h1 | h1;exact hg.2.2 h1;omega⟩,by omega⟩
  ·exact .inr ⟨A,cap,hbl.kept hk hlb.2.2,fun e => e.elim,by omega⟩
end
end Go.Proofs.YtodgfbjjjgohgaaGreat
