/-
 AN ARENA BUILT: the document's Build: a contract.
-/
import Derived.Test.YtodgfbjjjgohgaaGreatKhZ
namespace Go.Proofs.YtodgfbjjjgohgaaGreat
open Go.RowKit
attribute [local go_sem] Oper.semAt_some
set_option linter.unusedVariables false

/-! . -/
def bytesTo (L : List UInt8) (a : Nat) (s : List UInt8) : Nat -> List UInt8
 | 0 => L
 | k + 1 => (bytesTo L a s k).set (a + k) (s.getD k 0)
theorem bytesTo_len (L : List UInt8) (a : Nat) (s : List UInt8) : ∀ k,(bytesTo L a s k).length = L.length
 | 0 => rfl
 | k + 1 => by rw [bytesTo,List.length_set,bytesTo_len L a s k]
def valueL (d : AD) (a : Nat) (s : List UInt8) : AD := { d with L := bytesTo (putAt d.L a (s.length : Int)) (a + 8) s s.length }
def valsA : List Int -> AD -> Option (AD × List (Int × Int))
 | [],d => some (d,[])
 | x :: xs,d => if (newValueA d).1 = 0 then none else (valsA xs (valueL (newValueA d).2 (newValueA d).1 (dg x.toNat))).map (fun r => (r.1,(x,((newValueA d).1 : Int)) :: r.2))
/-! . -/
def parG (R : List (Nat × Nd)) (lag : Nat) : List (Int × Int) := (R.take (max 1 (R.length - lag))).map (fun x => (x.2.lo,(x.1 : Int)))
def levelsA (per lag : Nat) : Nat -> Nat -> List (Int × Int) -> AD -> Option AD
 | 0,_,_,_ => none
 | f + 1,lv,l,d =>
  match levelA d lv per l with
  | none => none
  | some d1 =>
   if (d1.lv.getD lv []).length = 1 ∨ lv = 15 then some d1
   else if (parG (d1.lv.getD lv []) lag).length = 1 then some d1
   else levelsA per lag f (lv + 1) (parG (d1.lv.getD lv []) lag) d1
def arena0 (slabs : Nat) : AD := { L := List.replicate (1024 * (slabs + 1)) 0,slabs := slabs,used := 0,value := 0,values := 0,node := 0,nodes := 0,lv := [] }
def arena1 (slabs : Nat) : AD :=
 { arena0 slabs with L := putAt (putAt (putAt (arena0 slabs).L 0 5929342154728227142) 8 (1024 * (slabs + 1) : Nat)) 24 (18446744073709551615 - (1024 * (slabs + 1) : Nat)) }
def topA (d : AD) : Nat := ((d.lv.getD (d.lv.length - 1) []).getD 0 (0,nd0)).1
def rootL (d : AD) : AD := { d with L := putAt d.L 16 (topA d) }
def buildA (slabs : Nat) (keys : List Int) (per lag : Nat) : Option AD :=
 match valsA keys (arena1 slabs) with
 | none => none
 | some r => (levelsA per lag 16 0 r.2 r.1).map rootL
/-! . -/
theorem bcA_rep (n : Nat) : bcA (List.replicate n 0) = Array.replicate n (.int .u8 0) := by
 unfold bcA bvals
 rw [List.map_replicate]
 rfl
theorem arena0_ok {slabs : Nat} (h : slabs <= 16) : ArOk (arena0 slabs) := ⟨by simp [arena0],h,Nat.zero_le _,Nat.le_refl _,Nat.le_refl _,Nat.zero_le _,Nat.zero_le _⟩
theorem putL_ok {d : AD} (h : ArOk d) {a : Nat} (ha : a + 8 <= d.L.length) (n : Int) : ArOk { d with L := putAt d.L a n } :=
 ⟨by dsimp only;rw [putAt_len n ha];exact h.len,h.sl,h.us,h.va,h.no,h.vs,h.ns⟩
theorem make_u8 (n : Nat) (hn : n <= 1000000) (W : World) : (Instr.makeSlice 28 (.int .i64 (n : Int)) (.int .i64 (n : Int))).run Tryz.prog W = .ok (.slice (some ⟨W.heap.size,0,none⟩) n n) (W.alloc (.cells (bcA (List.replicate n 0)) 5)) := by
 obtain ⟨i0,hi,hz0,hz1,hz2⟩ : ∃ i,Tryz.prog.info? 5 = some i /\ i.zero = some (.int .u8 0) /\ i.size = 1 /\ i.bytes = 1 := by
  have h1 : ((Tryz.prog.info? 5).map (·.size)) = some 1 := by kernel_rfl
  have h2 : ((Tryz.prog.info? 5).map (·.bytes)) = some 1 := by kernel_rfl
  have h3 : ((Tryz.prog.info? 5).bind (·.zero)) = some (.int .u8 0) := by kernel_rfl
  cases h : Tryz.prog.info? 5 with
  | none => rw [h] at h1;cases h1
  | some i =>
   rw [h] at h1 h2 h3
   exact ⟨i,rfl,by simpa using h3,by simpa using h1,by simpa using h2⟩
 have hM : madeCells (Value.int .u8 0).cells (((n : Nat) : Int).toNat * i0.size) = bcA (List.replicate n 0) := by
  apply Array.ext'
  rw [hz1,Nat.mul_one,Int.toNat_natCast,show (Value.int .u8 0).cells = #[Value.int .u8 0] from rfl,toList_madeCells_one,bcA_rep]
  simp
 have h := run_make (P := Tryz.prog) W 28 5 i0 (.int .u8 0) Tryz.underlying28 hi hz0 .i64 .i64 (n : Int) (n : Int) (by omega) (by omega) (by rw [hz2];omega) (by omega)
 rw [hM] at h
 simpa using h
theorem ArW.putL {w : World} {ab gb cb : Nat} {d : AD} {v : Value} {L' : List UInt8} (h : ArB w ab gb cb (arC gb cb d v) L') (hl : L'.length = d.L.length) : ArW w ab gb cb { d with L := L' } v := by
 unfold ArW arC
 simp only []
 rw [hl]
 exact h
theorem newValue1_ok {d : AD} (h : ArOk d) : ArOk (newValue1 d) /\ (newValue1 d).values <= 14 /\ (newValue1 d).slabs = d.slabs /\ (newValue1 d).lv = d.lv := by
 unfold newValue1
 have hs := slabA_ok h 1
 by_cases e : d.value = 0 ∨ d.values = 15
 ·rw [if_pos e]
  refine ⟨⟨hs.1.len,hs.1.sl,hs.1.us,hs.2.1,hs.1.no,Nat.zero_le _,hs.1.ns⟩,Nat.zero_le _,?_,?_⟩
  all_goals (show _ = _;unfold slabA;split <;> rfl)
 ·rw [if_neg e]
  exact ⟨h,by have := h.vs;omega,rfl,rfl⟩
theorem newValueA_ok {d : AD} (h : ArOk d) : ArOk (newValueA d).2 /\ (newValueA d).2.slabs = d.slabs /\ (newValueA d).2.lv = d.lv /\ ((newValueA d).1 ≠ 0 -> (newValueA d).1 + 64 <= (newValueA d).2.L.length) := by
 obtain ⟨h1,h2,h3,h4⟩ := newValue1_ok h
 unfold newValueA
 by_cases e : (newValue1 d).value = 0
 ·rw [if_pos e]
  exact ⟨h1,h3,h4,fun e => absurd rfl e⟩
 ·rw [if_neg e]
  have hn : (newValue1 d).value <= (newValue1 d).slabs := Nat.le_trans h1.va h1.us
  have ht := takenA_ok h1 hn (newValue1 d).values
  refine ⟨⟨ht.len,ht.sl,ht.us,ht.va,ht.no,(by show (newValue1 d).values + 1 <= 15;omega),ht.ns⟩,h3,h4,fun _ => ?_⟩
  have hl := ht.len
  have h9 : (takenA (newValue1 d) (newValue1 d).value (newValue1 d).values).slabs = (newValue1 d).slabs := rfl
  rw [h9] at hl
  dsimp only
  rw [hl]
  omega
theorem valueL_ok {d : AD} (h : ArOk d) {a : Nat} {s : List UInt8} (ha : a + 8 <= d.L.length) : ArOk (valueL d a s) := by
 unfold valueL
 refine ⟨?_,h.sl,h.us,h.va,h.no,h.vs,h.ns⟩
 dsimp only
 rw [bytesTo_len,putAt_len _ ha]
 exact h.len
theorem bytes_at {l : List UInt8} {j : Nat} (h : j < l.length) : (⟨l.toArray⟩ : ByteArray)[j]? = some (l.getD j 0) := by
 have h2 : j < (⟨l.toArray⟩ : ByteArray).size := by simpa [ByteArray.size] using h
 rw [ByteArray.getElem?_lt' _ _ h2,List.getD_eq_getElem?_getD,List.getElem?_eq_getElem h]
 rfl
theorem run_idx_str {bs : ByteArray} {j : Nat} {b : UInt8} (h : bs[j]? = some b) (w : World) : (Instr.index 9 (.string bs) (.int .i64 (j : Int))).run Tryz.prog w = .ok (.int .u8 (b.toNat : Int)) w := by
 simp [Instr.index,asIntOf,run_underlying Tryz.underlying9,h]
theorem wp_index_str {o : Oper} {a : Act} {w : World} {K : Act -> World -> Prop} {Q : Exit -> Act -> World -> Prop} (x y : Operand) (ho : o.op = .index 9 x y) {bs : ByteArray} {j : Nat} {b : UInt8} (hx : a.eval x = .string bs) (hy : a.eval y = .int .i64 (j : Int)) (hb : bs[j]? = some b)
  (h : K (a.put o.dst (.int .u8 (b.toNat : Int))) w) : Oper.wp Tryz.prog o a w K Q := by
 unfold Oper.wp execOp
 simp only [ho,hx,hy,Sem.run_bind,run_idx_str hb,Result.andThen_ok,Sem.run_pure]
 exact h
theorem two_new (w : World) (x y : Value) (t : TypeId) : ∀ j u,[x,y][j]? = some u -> (w.alloc (.cells #[x,y] t)).cell? ((⟨w.heap.size,0,none⟩ : Addr).add j) = some u := by
 intro j u hj
 have hb := Blk.new w #[x,y] t
 match j,hj with
 | 0,hj => exact (hb.cell 0).trans hj
 | 1,hj => exact (hb.cell 1).trans hj
 | j + 2,hj => simp at hj
structure VaR (w4 wr : World) (ab gb N : Nat) (d1 : AD) (keys : List Int) (k : Nat) (E : List (Int × Int)) (dk : AD) (lv : Value) : Prop where
 own : wr.ownsRow w4.heap.size 102 2 lv E.length (ecells E)
 len : E.length = k
 ar : ArW wr ab gb N dk (.slice none 0 0)
 ok : ArOk dk
 lv : dk.lv = [] /\ dk.L.length = N /\ (E = [] -> lv = .slice none 0 0) /\ U64E E
 kp : Keeps (fun i => i = ab ∨ i = gb) w4 wr
 eq : valsA keys d1 = (valsA (keys.drop k) dk).map (fun r => (r.1,E ++ r.2))
theorem infoEn : ∃ i,Tryz.prog.info? 102 = some i /\ i.zero = some (.agg #[.int .u64 0,.int .u64 0]) /\ i.size = 2 /\ i.bytes = 16 := by
 have h1 : ((Tryz.prog.info? 102).map (·.size)) = some 2 := by kernel_rfl
 have h2 : ((Tryz.prog.info? 102).map (·.bytes)) = some 16 := by kernel_rfl
 have h3 : ((Tryz.prog.info? 102).bind (·.zero)) = some (.agg #[.int .u64 0,.int .u64 0]) := by kernel_rfl
 cases h : Tryz.prog.info? 102 with
 | none => rw [h] at h1;cases h1
 | some i =>
  rw [h] at h1 h2 h3
  exact ⟨i,rfl,h3,Option.some.inj h1,Option.some.inj h2⟩
def pcG (R : List (Nat × Nd)) (lag : Nat) : Nat := max 1 (R.length - lag)
def parK (R : List (Nat × Nd)) (i : Nat) : List (Int × Int) := (R.take i).map (fun x => (x.2.lo,(x.1 : Int)))
theorem parG_eq (R : List (Nat × Nd)) (lag : Nat) : parG R lag = parK R (pcG R lag) := rfl
theorem parK_len (R : List (Nat × Nd)) (i : Nat) (h : i <= R.length) : (parK R i).length = i := by unfold parK;rw [List.length_map,List.length_take];omega
theorem parK_succ {R : List (Nat × Nd)} {i : Nat} {x : Nat × Nd} (h : R[i]? = some x) : parK R (i + 1) = parK R i ++ [(x.2.lo,(x.1 : Int))] := by
 unfold parK
 rw [List.take_add_one,h]
 simp
theorem parK_u {R : List (Nat × Nd)} {N : Nat} (hN : N <= 1000000) (h : ∀ x ∈ R,x.2.Wf /\ x.1 ≠ 0 /\ x.1 + 192 <= N) (i : Nat) : U64E (parK R i) := by
 refine U64E.of (fun j hj => ?_)
 unfold parK at hj
 rw [List.length_map] at hj
 have hx := h _ (List.mem_of_mem_take (List.getElem_mem hj))
 have e1 : (parK R i).getD j (0,0) = (((R.take i)[j]'hj).2.lo,(((R.take i)[j]'hj).1 : Int)) := by
  unfold parK
  rw [List.getD_eq_getElem?_getD,List.getElem?_map,List.getElem?_eq_getElem hj]
  rfl
 unfold eK eP
 rw [e1]
 have h1 := wf_u64K hx.1.lo
 exact ⟨h1,⟨by show (0 : Int) <= ((_ : Nat) : Int);omega,by show ((_ : Nat) : Int) <= _;omega⟩⟩
def RowEn (B : Nat) (l : List (Int × Int)) (v : Value) (W : World) : Prop := W.ownsRow B 102 2 v l.length (ecells l)
def OneEn (v0 : Value) (a1 x1 : Int) (v : Value) (W : World) : Prop := ∃ H,v = .slice (some ⟨H,0,none⟩) 1 1 /\ Blk W H #[.int .u64 a1,.int .u64 x1] 102 /\ v0.ownBlock ≠ some H
theorem reads_pairK {W : World} {H : Nat} {a b : Value} {t : TypeId} (h : Blk W H #[a,b] t) : Reads W W.heap.size 2 (some ⟨H,0,none⟩) 1 [a,b] := by
 refine ⟨by simp,fun _ => ⟨_,rfl,h.lt,fun j u hu => ?_⟩⟩
 have ha : (⟨H,0,none⟩ : Addr).add j = ⟨H,j,none⟩ := by unfold Addr.add;split <;> simp_all
 rw [ha,h.cell]
 simpa using hu
theorem rowEn_one {B : Nat} {l0 : List (Int × Int)} {v : Value} {W : World} {a1 x1 : Int} (h : W.ownsRow B 102 2 v (l0.length + 1) (ecells l0 ++ [.int .u64 a1,.int .u64 x1])) : RowEn B (l0 ++ [(a1,x1)]) v W := by
 unfold RowEn
 rw [ecells_snoc,List.length_append]
 exact h
structure LeR (w4 wr : World) (ab gb N : Nat) (per lag : Nat) (l0 : List (Int × Int)) (d0 : AD) (lv : Nat) (l : List (Int × Int)) (d : AD) (v lval : Value) : Prop where
 own : wr.ownsRow w4.heap.size 102 2 lval l.length (ecells l)
 nil : l = [] -> lval = .slice none 0 0 /\ lv = 0
 len : l.length <= 100
 u : U64E l
 ar : ArW wr ab gb N d v
 ok : ArOk d
 lw : LvW wr (fun i => i = ab ∨ i = gb) v d.lv
 vb : ∀ g,v.ownBlock = some g -> w4.heap.size <= g
 dl : d.lv.length = lv /\ lv <= 15 /\ d.L.length = N
 kp : Keeps (fun i => i = ab ∨ i = gb) w4 wr
 eq : levelsA per lag 16 0 l0 d0 = levelsA per lag (16 - lv) lv l d
theorem own_entsK {w : World} {B : Nat} {v : Value} {l : List (Int × Int)} (h : w.ownsRow B 102 2 v l.length (ecells l)) (hn : 0 < l.length) : ∃ g c,v = .slice (some ⟨g,0,none⟩) l.length c /\ B <= g /\ l.length <= c /\ c <= maxLen /\ EntsAt w g 0 l := by
 obtain ⟨g,c,h1,h2,h3,h4,h5,h6,h7,h8⟩ := own_shapeK h hn
 refine ⟨g,c,h1,h2,h4,h5,fun i hi => ?_⟩
 have e := ecells_get l i hi
 rw [Nat.zero_add,h7 (i * 2) (by omega),h7 (i * 2 + 1) (by omega)]
 exact e
theorem LeR.call {w4 wr : World} {ab gb N : Nat} {per lag : Nat} {l0 : List (Int × Int)} {d0 : AD} {lv : Nat} {l : List (Int × Int)} {d : AD} {v lval : Value} (h : LeR w4 wr ab gb N per lag l0 d0 lv l d v lval) (h8 : 2 <= per /\ per <= 8) (hab : ab < w4.heap.size /\ gb < w4.heap.size) :
  Calls Tryz.prog 33 #[.pointer (some ⟨ab,0,none⟩),.int .i64 lv,lval,.int .i64 per] wr fun e w' => LevelP wr w' e ab gb N d v lv per l := by
 have hdl : d.lv.length <= 1000 := by have := h.dl;omega
 by_cases hn : l = []
 ·obtain ⟨rfl,rfl⟩ := h.nil hn
  subst hn
  exact alevel_nil wr ab gb N d v per h.ar h.ok h.lw h8 hdl
 ·have hp : 0 < l.length := List.length_pos_iff.2 hn
  obtain ⟨g,c,rfl,hB,h1,h2,h3⟩ := own_entsK h.own hp
  exact alevel_v wr ab gb N d v g l c per lv h.ar h.ok h.lw h3 hp (by have := h.len;omega) h8 h.dl.2.1 ⟨by omega,by omega⟩ ⟨h1,h2⟩ (fun i hi => h.u i) hdl
theorem LevelP.b {w w' : World} {e : Ending} {ab gb cb : Nat} {d : AD} {v : Value} {lv per : Nat} {l : List (Int × Int)} (h : LevelP w w' e ab gb cb d v lv per l) : ∃ b,e = .returned (.bool b) ∧
  ((b = false /\ levelA d lv per l = none /\ Keeps (fun i => i = ab ∨ i = gb) w w') ∨ (b = true /\ ∃ d' v',levelA d lv per l = some d' /\ ArW w' ab gb cb d' v' /\ LvW w' (fun i => i = ab ∨ i = gb) v' d'.lv /\ (∀ g,v'.ownBlock = some g -> v.ownBlock = some g ∨ w.heap.size <= g) /\ Keeps (fun i => (i = ab ∨ i = gb) ∨ v.ownBlock = some i) w w')) := by
 rcases h with ⟨h1,h2,h3⟩ | ⟨d',v',h1,h2,h3,h4,h5,h6⟩
 ·exact ⟨false,h2,.inl ⟨rfl,h1,h3⟩⟩
 ·exact ⟨true,h2,.inr ⟨rfl,d',v',h1,h3,h4,h5,h6⟩⟩
theorem rowsG_len {lv per : Nat} {l : List (Int × Int)} (hp : 1 <= per) : ∀ (f fr : Nat) {d d' : AD} {R : List (Nat × Nd)},rowsG lv per l f fr d = some (d',R) -> R.length <= max 1 (l.length - fr)
 | 0,fr,d,d',R,h => by cases h
 | f + 1,fr,d,d',R,h => by
  unfold rowsG at h
  by_cases e : (newNodeA d).1 = 0
  ·rw [if_pos e] at h;cases h
  ·rw [if_neg e] at h
   by_cases e2 : l.length <= fr + per
   ·rw [if_pos e2] at h
    obtain ⟨rfl,rfl⟩ : (newNodeA d).2 = d' /\ _ = R := by simpa using h
    simp;omega
   ·rw [if_neg e2] at h
    obtain ⟨⟨d2,R2⟩,hr,h2⟩ := Option.map_eq_some_iff.1 h
    obtain ⟨rfl,rfl⟩ : d2 = d' /\ _ :: R2 = R := by simpa using h2
    have := rowsG_len hp f (fr + per) hr
    rw [List.length_cons]
    omega
theorem levelA_ok {lv per : Nat} {l : List (Int × Int)} {d d' : AD} (hlv : lv <= 15) (hu : U64E l) (hp : 1 <= per) (ho : ArOk d) (h : levelA d lv per l = some d') :
  ∃ R,d'.lv = d.lv ++ [R] /\ 0 < R.length /\ R.length <= max 1 l.length /\ ArOk d' /\ d'.L.length = d.L.length /\ ∀ x ∈ R,x.2.Wf /\ x.1 ≠ 0 /\ x.1 + 192 <= d.L.length := by
 unfold levelA at h
 obtain ⟨⟨d2,R⟩,hr,h2⟩ := Option.map_eq_some_iff.1 h
 obtain ⟨k1,k2,k3,k4,k5⟩ := rowsG_ok _ _ ho hr
 have kw := rowsG_wf hlv hu _ _ ho hr
 have kl := rowsG_len hp _ _ hr
 have hL : d.L.length <= 1000000 := by have := ho.len;have := ho.sl;omega
 have hL2 : d2.L.length = d.L.length := by rw [k1.len,k2,ho.len]
 have hm : ∀ x ∈ linkR R,x.2.Wf /\ x.1 ≠ 0 /\ x.1 + 192 <= d.L.length := by
  intro x hx
  obtain ⟨j,hj⟩ := List.mem_iff_getElem?.1 hx
  rw [linkR_get] at hj
  obtain ⟨y,hy,rfl⟩ := Option.map_eq_some_iff.1 hj
  exact ⟨lnk1_wf hL (fun x hx => (kw x hx).1) (fun x hx => (k4 x hx).2) hy,k4 y (List.mem_of_getElem? hy)⟩
 have hk := layR_ok (linkR R) k1 (fun x hx => by rw [hL2];exact (hm x hx).2.2)
 subst h2
 refine ⟨linkR R,by rw [<- k3],by rw [linkR_len];exact k5,by rw [linkR_len];simpa using kl,⟨hk.1.len,hk.1.sl,hk.1.us,hk.1.va,hk.1.no,hk.1.vs,hk.1.ns⟩,hk.2.trans hL2,hm⟩
def BuildP (w w' : World) (e : Ending) (slabs : Nat) (keys : List Int) (per lag : Nat) : Prop :=
 (buildA slabs keys per lag = none /\ e = .returned (.pointer none) /\ Below w.heap.size w w') ∨
 (∃ d ab gb N v,buildA slabs keys per lag = some d /\ e = .returned (.pointer (some ⟨ab,0,none⟩)) /\ ArW w' ab gb N d v /\ LvW w' (fun i => i = ab ∨ i = gb) v d.lv /\ ArOk d /\ d.L.length <= N /\ w.heap.size <= ab /\ w.heap.size <= gb /\ Below w.heap.size w w')
set_option maxRecDepth 1000000 in
set_option maxHeartbeats 40000000 in
theorem abuild_v (w : World) (A : Option Addr) (c slabs : Nat) (keys : List Int) (per lag : Nat) (hr : Reads w w.heap.size 1 A keys.length (keys.map (Value.int .u64))) (hk : keys.length <= 100) (hu : ∀ x ∈ keys,0 <= x /\ x <= 18446744073709551615)
  (hs : 1 <= slabs /\ slabs <= 16) (h8 : 2 <= per /\ per <= 8) (hl : lag <= 20) :
  Calls Tryz.prog 21 #[.int .i64 slabs,.slice A keys.length c,.int .i64 per,.int .i64 lag] w fun e w' => BuildP w w' e slabs keys per lag := by
 have HR := Lib.hid hr
 have HU := Lib.hid hu
 have HN := Lib.hid (And.intro hk (And.intro hs (And.intro h8 hl)))
 have hs16 : (slabs : Int) <= 16 := by omega
 obtain ⟨N,hN⟩ : ∃ N : Nat,1024 * (slabs + 1) = N := ⟨_,rfl⟩
 have hNi : 1024 * ((slabs : Int) + 1) = (N : Int) := by omega
 have hNl : (N : Int) <= 17408 := by omega
 have hN0 : (2048 : Int) <= (N : Int) := by omega
 have HNn := Lib.hid (And.intro hN (And.intro hNl hN0))
 have hmk := fun W => make_u8 N (by omega) W
 obtain ⟨gb,hgb⟩ : ∃ gb,w.heap.size = gb := ⟨_,rfl⟩
 have hb0 : Blk (w.alloc (.cells (bcA (List.replicate N 0)) 5)) w.heap.size (bcA (List.replicate N 0)) 5 := Blk.new w _ _
 obtain ⟨w1,hw1⟩ : ∃ w1,(w.alloc (.cells (bcA (List.replicate N 0)) 5)).alloc (.cells #[.slice (some ⟨gb,0,none⟩) N N,.int .i64 slabs,.int .i64 0,.int .i64 0,.int .i64 0,.int .i64 0,.int .i64 0,.slice none 0 0] 31) = w1 := ⟨_,rfl⟩
 have e1 : (w.alloc (.cells (bcA (List.replicate N 0)) 5)).heap.size = gb + 1 := by rw [<- hgb];simp only [World.alloc,Array.size_push]
 have har : ArW w1 (gb + 1) gb N (arena0 slabs) (.slice none 0 0) := by
  have hl : (arena0 slabs).L.length = N := by simp [arena0,hN]
  have h1 := Blk.new (w.alloc (.cells (bcA (List.replicate N 0)) 5)) #[.slice (some ⟨gb,0,none⟩) N N,.int .i64 slabs,.int .i64 0,.int .i64 0,.int .i64 0,.int .i64 0,.int .i64 0,.slice none 0 0] 31
  have h2 := hb0.alloc (.cells #[.slice (some ⟨gb,0,none⟩) N N,.int .i64 slabs,.int .i64 0,.int .i64 0,.int .i64 0,.int .i64 0,.int .i64 0,.slice none 0 0] 31)
  rw [e1,hw1] at h1
  rw [hgb,hw1] at h2
  refine ⟨?_,rfl,?_,by omega⟩
  ·show Blk _ _ #[.slice (some ⟨gb,0,none⟩) (arena0 slabs).L.length N,.int .i64 slabs,.int .i64 0,.int .i64 0,.int .i64 0,.int .i64 0,.int .i64 0,.slice none 0 0] _
   rw [hl]
   exact h1
  ·show Blk _ _ (bcA (List.replicate (1024 * (slabs + 1)) 0)) _
   rw [hN]
   exact h2
 have HAr0 := Lib.hid har
 have hB0 : Below w.heap.size w w1 := by
  rw [<- hw1]
  exact ((Below.refl _ w).alloc (Nat.le_refl _) _).alloc (by rw [e1,<- hgb];omega) _
 have HB0 := Lib.hid hB0
 have Hgb := Lib.hid hgb
 have HW1 := Lib.hid hw1
 clear hr hu hk hs h8 hl hN hb0 har hB0 hw1 e1
 go_enter Tryz.func21,Tryz.ntmps21
 go_upto_region 2 with (fail)
 rw [HW1.out]
 clear HW1 hNi hmk hgb
 have HL0 := Lib.hid (show (arena0 slabs).L.length = N from by simp [arena0];have := HNn.out.1;omega)
 have HOk0 := Lib.hid (arena0_ok HN.out.2.1.2)
 obtain ⟨ab,hab⟩ : ∃ ab,gb + 1 = ab := ⟨_,rfl⟩
 rw [hab] at HAr0 ⊢
 have Hab := Lib.hid hab
 clear hab
 have HP1 := Lib.hid (bput_v w1 ab gb N _ (arena0 slabs).L 0 5929342154728227142 HAr0.out (by have := HNn.out;rw [HL0.out];omega) (by have := HNn.out;rw [HL0.out];omega) (by decide) (by decide))
 go_upto_region 3 with (go_at_call 30;refine HP1.out.mono ?_;rintro e w2 ⟨rfl,hA2,hk2⟩)
 have HK2 := Lib.hid hk2
 have HL2 := Lib.hid (putAt_len (L := (arena0 slabs).L) (a := 0) 5929342154728227142 (by rw [HL0.out];have := HNn.out;omega))
 have c0 : w2.cell? ⟨ab,0,none⟩ = some (.slice (some ⟨gb,0,none⟩) N N) := (hA2.a.cell 0).trans (by rw [hA2.c,HL2.out,HL0.out])
 have HP2 := Lib.hid (bput_v w2 ab gb N _ _ 8 (N : Int) hA2 (by have := HNn.out;rw [HL2.out,HL0.out];omega) (by have := HNn.out;rw [HL2.out,HL0.out];omega) (by omega) (by omega))
 clear hA2 hk2 HP1
 have hNw : IntKind.u64.wrap (N : Int) = (N : Int) := IntWalk.u64_in _ (by omega)
 go_upto_region 4 with (go_at_call 30;refine HP2.out.mono ?_;rintro e w3 ⟨rfl,hA3,hk3⟩)
 have HK3 := Lib.hid hk3
 have HL3 := Lib.hid (putAt_len (L := putAt (arena0 slabs).L 0 5929342154728227142) (a := 8) (N : Int) (by rw [HL2.out,HL0.out];have := HNn.out;omega))
 have c1 : w3.cell? ⟨ab,0,none⟩ = some (.slice (some ⟨gb,0,none⟩) N N) := (hA3.a.cell 0).trans (by rw [hA3.c,HL3.out,HL2.out,HL0.out])
 have HP3 := Lib.hid (bput_v w3 ab gb N _ _ 24 (18446744073709551615 - (N : Int)) hA3 (by have := HNn.out;rw [HL3.out,HL2.out,HL0.out];omega) (by have := HNn.out;rw [HL3.out,HL2.out,HL0.out];omega) (by omega) (by omega))
 clear hA3 hk3 HP2 c0
 have hNw2 : IntKind.u64.wrap (18446744073709551615 - (N : Int)) = 18446744073709551615 - (N : Int) := IntWalk.u64_in _ (by omega)
 go_upto_region 5 with (go_at_call 30;refine HP3.out.mono ?_;rintro e w4 ⟨rfl,hA4,hk4⟩)
 have hl4 := putAt_len (L := putAt (putAt (arena0 slabs).L 0 5929342154728227142) 8 (N : Int)) (a := 24) (18446744073709551615 - (N : Int)) (by rw [HL3.out,HL2.out,HL0.out];have := HNn.out;omega)
 obtain ⟨d1,hd1⟩ : ∃ d1,arena1 slabs = d1 := ⟨_,rfl⟩
 have hA5 : ArW w4 ab gb N d1 (.slice none 0 0) := by
  have h1 := ArW.putL hA4 (by rw [hl4,HL3.out,HL2.out])
  rw [<- hd1]
  unfold arena1
  rw [HNn.out.1]
  exact h1
 have hok5 : ArOk d1 := by
  have h1 := putL_ok (putL_ok (putL_ok HOk0.out (a := 0) (by rw [HL0.out];have := HNn.out;omega) 5929342154728227142) (a := 8) (by dsimp only;rw [HL2.out,HL0.out];have := HNn.out;omega) (N : Int)) (a := 24) (by dsimp only;rw [HL3.out,HL2.out,HL0.out];have := HNn.out;omega) (18446744073709551615 - (N : Int))
  rw [<- hd1]
  unfold arena1
  rw [HNn.out.1]
  exact h1
 have hd1l : d1.lv = [] /\ d1.L.length = N := by
  rw [<- hd1]
  refine ⟨rfl,?_⟩
  unfold arena1
  rw [HNn.out.1]
  dsimp only
  rw [hl4,HL3.out,HL2.out,HL0.out]
 have hkk : Below w.heap.size w w4 := by
  have h1 : Keeps (fun i => i = gb) w1 w4 := (HK2.out.trans HK3.out).trans hk4
  exact Keeps.below ((Keeps.of_below HB0.out).trans' (h1.mono (fun i hi e => show w.heap.size <= i from by have := Hgb.out;omega)) (fun i hi e => e) |>.mono (fun i hi e => show False from by omega))
 have HD1 := Lib.hid (And.intro hd1 (And.intro hkk (show w.heap.size <= ab /\ w.heap.size <= gb /\ ab < w4.heap.size /\ gb < w4.heap.size from ⟨by have := Hgb.out;have := Hab.out;omega,by have := Hgb.out;omega,hA5.a.lt,hA5.b.lt⟩)))
 have HV0 := Lib.hid (show VaR w4 w4 ab gb N d1 keys 0 [] d1 (.slice none 0 0) from ⟨⟨rfl,.inl ⟨rfl,rfl⟩⟩,rfl,hA5,hok5,⟨hd1l.1,hd1l.2,fun _ => rfl,U64E.of (fun i hi => absurd hi (Nat.not_lt_zero _))⟩,Keeps.refl _ _,by
  rw [List.drop_zero]
  cases valsA keys d1 <;> rfl⟩)
 clear hA4 hk4 HP3 c1 hl4 hd1 hA5 hok5 hd1l hkk HK2 HK3 HL0 HL2 HL3 HAr0 HB0 HOk0 hNw hNw2
 have hkl : (keys.length : Int) <= 100 := by have := HN.out.1;omega
 go_upto_region 7 with (fail)
 go_loopw [10,11] (fun lv iv wr => ∃ (k : Nat) (E : List (Int × Int)) (dk : AD),k <= keys.length /\ iv = .int .i64 (k : Int) /\ Hid (VaR w4 wr ab gb N d1 keys k E dk lv)) (fun _ iv _ => 1000 - (intOf iv).toNat)
 case atStart => exact ⟨0,[],d1,Nat.zero_le _,rfl,HV0⟩
 case round =>
  obtain ⟨k,E,dk,hk,rfl,HV⟩ := hrel
  obtain ⟨wo,rfl⟩ : ∃ wo,wo = wr := ⟨_,rfl⟩
  by_cases hlt : k < keys.length
  ·have b1 : (k : Int) < (keys.length : Int) := by omega
   obtain ⟨a,ha⟩ : ∃ a,(newValueA dk).1 = a := ⟨_,rfl⟩
   obtain ⟨da,hda⟩ : ∃ da,(newValueA dk).2 = da := ⟨_,rfl⟩
   have hnv := anewValue_v wo ab gb N dk (.slice none 0 0) HV.out.ar HV.out.ok
   rw [ha,hda] at hnv
   have HNv := Lib.hid hnv
   have hok := newValueA_ok HV.out.ok
   rw [ha,hda] at hok
   have hai : (a : Int) < 1000000 := by
    by_cases e : a = 0
    ·omega
    ·have h1 := hok.2.2.2 e
     have h2 := hok.1.len
     have h3 := hok.1.sl
     omega
   have HAd := Lib.hid (And.intro ha (And.intro hda hok))
   have HLt := Lib.hid hlt
   clear hnv hok ha hda
   go_upto_region 10 with (go_at_call 31;refine HNv.out.mono ?_;rintro e w5 ⟨rfl,hA5,hk5⟩)
   have HA5 := Lib.hid hA5
   have HK5 := Lib.hid (HV.out.kp.trans hk5)
   have HOw := Lib.hid (show w5.ownsRow w4.heap.size 102 2 u10 E.length (ecells E) from own_keptK HV.out.own hk5 (fun i hi e => by have := own_base HV.out.own i hi;have := HD1.out.2.2;rcases e with e | e <;> omega))
   clear hA5 hk5 HNv
   by_cases ha0 : a = 0
   ·subst ha0
    have HNo := Lib.hid (show buildA slabs keys per lag = none from by
     have h1 := HV.out.eq
     obtain ⟨x,r,hx⟩ : ∃ x r,keys.drop k = x :: r := ⟨_,_,List.drop_eq_getElem_cons HLt.out⟩
     rw [hx,valsA,HAd.out.1,if_pos rfl] at h1
     unfold buildA
     rw [HD1.out.1,h1];rfl)
    have HBe := Lib.hid (show Below w.heap.size w w5 from Keeps.below ((Keeps.of_below' HD1.out.2.1).trans' HK5.out (fun i hi e => by have := HD1.out.2.2;rcases e with e | e <;> omega)))
    clear HA5 HK5 HOw HV HAd
    go_wp2_with (fail)
    go_ret
    exact .inl ⟨HNo.out,rfl,HBe.out⟩
   have haz : ((a : Int) == 0) = false := by simp;omega
   obtain ⟨ad,u,hAA,had,hu,hcu⟩ := HR.out.at_ HLt.out
   rw [get_u HLt.out] at hu
   obtain rfl := (Option.some.inj hu).symm
   obtain ⟨x,hx⟩ : ∃ x,keys.getD k 0 = x := ⟨_,rfl⟩
   have hxm : x ∈ keys := by rw [<- hx,List.getD_eq_getElem?_getD,List.getElem?_eq_getElem HLt.out];exact List.getElem_mem _
   have hxr := HU.out x hxm
   obtain ⟨un,rfl⟩ := Int.eq_ofNat_of_zero_le hxr.1
   rw [hx] at hcu
   subst hAA
   have hkW : Below w.heap.size w w5 := Keeps.below ((Keeps.of_below' HD1.out.2.1).trans' HK5.out (fun i hi e => by have := HD1.out.2.2;rcases e with e | e <;> omega))
   have hc5 : w5.cell? (ad.add k) = some (.int .u64 (un : Int)) := (hkW.cell (p := ad.add k) (by rw [block_of_add];exact had)).trans hcu
   have HVl := Lib.hid (rvalue_v un (by omega) w5)
   have HX := Lib.hid (And.intro hx hxr)
   clear hx hxm hxr hu hcu hkW had
   go_upto_region 13 with (go_at_call 32;refine HVl.out.mono ?_;rintro e w6 ⟨rfl,hB6⟩)
   have HB6 := Lib.hid hB6
   obtain ⟨sb,hsb⟩ : ∃ sb,dg un = sb := ⟨_,rfl⟩
   obtain ⟨bs,hbs⟩ : ∃ bs : ByteArray,(⟨(Lib.decDigits un).toArray⟩ : ByteArray) = bs := ⟨_,rfl⟩
   obtain ⟨sn,hsn⟩ : ∃ sn,sb.length = sn := ⟨_,rfl⟩
   have hsn20 : sn <= 20 := by rw [<- hsn,<- hsb];exact dg_len un (by have := HX.out.2.2;omega)
   have hsz : bs.size = sn := by rw [<- hbs,<- hsn,<- hsb];simp [ByteArray.size,dg]
   have HSb := Lib.hid (show (∀ j,j < sn -> bs[j]? = some (sb.getD j 0)) /\ dg un = sb /\ sb.length = sn /\ sn <= 20 from ⟨fun j hj => by rw [<- hbs,<- hsb];exact bytes_at (l := Lib.decDigits un) (by rw [<- hsn,<- hsb] at hj;exact hj),hsb,hsn,hsn20⟩)
   have hv13 : numS un = .string bs := by unfold numS;rw [hbs]
   rw [hv13]
   have hLa : da.L.length = N := by have h1 := HAd.out.2.2;have h2 := HV.out.ok.len;have h3 := HV.out.lv.2.1;rw [h1.1.len,h1.2.1,<- h2,h3]
   have hA6 := HA5.out.below hB6
   have haN : a + 64 <= N := by have h1 := HAd.out.2.2.2.2.2 ha0;rw [hLa] at h1;exact h1
   have HP6 := Lib.hid (bput_v w6 ab gb N _ da.L a (sn : Int) hA6 (by omega) (by have := HNn.out;omega) (by omega) (by omega))
   have hK6 := HK5.out.trans ((Keeps.of_below' hB6).mono (fun _ _ h => h.elim))
   have HK6 := Lib.hid hK6
   have HOw6 := Lib.hid (own_keptK HOw.out (Keeps.of_below' hB6) (fun i hi e => e))
   have hlp := putAt_len (L := da.L) (a := a) (sn : Int) (by omega)
   have HLa := Lib.hid (And.intro hLa (And.intro haN hlp))
   have hsn2 : (sn : Int) <= 20 := by omega
   have haN2 : (a : Int) + 64 <= (N : Int) := by omega
   have hsw : IntKind.u64.wrap (sn : Int) = (sn : Int) := IntWalk.u64_in _ (by omega)
   clear hB6 hsb hbs hsn hv13 hA6 hK6 HVl hc5 HA5 HK5 HOw hlp hsn20
   go_upto_region 14 with (go_at_call 30;refine HP6.out.mono ?_;rintro e w7 ⟨rfl,hA7,hk7⟩)
   obtain ⟨La,hLa⟩ : ∃ La,putAt da.L a (sn : Int) = La := ⟨_,rfl⟩
   have HL7 := Lib.hid hLa
   rw [hLa] at hA7
   have HA7 := Lib.hid (show ArW w7 ab gb N { da with L := bytesTo La (a + 8) sb 0 } (.slice none 0 0) from ArW.putL hA7 (by rw [<- hLa];exact HLa.out.2.2))
   have HK7 := Lib.hid hk7
   clear hA7 hk7 hLa HP6
   go_upto_region 15 with (fail)
   go_loopw [14] (fun jv wr => ∃ j : Nat,j <= sn /\ jv = .int .i64 (j : Int) /\ Hid (ArW wr ab gb N { da with L := bytesTo La (a + 8) sb j } (.slice none 0 0)) /\ Hid (Keeps (fun i => i = gb) w6 wr)) (fun jv _ => 100 - (intOf jv).toNat)
   case atStart => exact ⟨0,Nat.zero_le _,rfl,HA7,HK7⟩
   case round =>
    obtain ⟨j,hj,rfl,HAr,HKr⟩ := hrel
    by_cases hjl : j < sn
    ·have b3 : (j : Int) < (sn : Int) := by omega
     have HJl := Lib.hid hjl
     have hLl : (bytesTo La (a + 8) sb j).length = N := by rw [bytesTo_len,<- HL7.out,HLa.out.2.2,HLa.out.1]
     have HAx := Lib.hid (show ArW wr ab gb N { da with L := bytesTo La (a + 8) sb j } (.slice none 0 0) /\ wr.cell? ⟨ab,0,none⟩ = some (.slice (some ⟨gb,0,none⟩) N N) from ⟨HAr.out,(HAr.out.a.cell 0).trans (by rw [HAr.out.c,hLl])⟩)
     obtain ⟨by_,hby⟩ : ∃ y,sb.getD j 0 = y := ⟨_,rfl⟩
     have HBy := Lib.hid (show bs[j]? = some by_ from by rw [<- hby];exact HSb.out.1 j hjl)
     have hsz8 : a + 8 + j < (bcA (bytesTo La (a + 8) sb j)).size := by rw [bcA_size,hLl];omega
     obtain ⟨ov,hov⟩ : ∃ ov,(bcA (bytesTo La (a + 8) sb j))[a + 8 + j]'hsz8 = ov := ⟨_,rfl⟩
     have HOv := Lib.hid (show wr.cell? ⟨gb,a + 8 + j,none⟩ = some ov from (HAr.out.b.cell _).trans ((Array.getElem?_eq_getElem hsz8).trans (by rw [hov])))
     have HIx := Lib.hid (show IntKind.i64.wrap ((a : Int) + 8) = (a : Int) + 8 /\ IntKind.i64.wrap ((a : Int) + 8 + (j : Int)) = (a : Int) + 8 + (j : Int) /\ (a : Int) + 8 + (j : Int) < (N : Int) /\ ((a : Int) + 8 + (j : Int)).toNat = a + 8 + j from ⟨i64_id _ (by omega),i64_id _ (by omega),by omega,by omega⟩)
     have HSt := Lib.hid (show ∀ W,Below wr.heap.size wr W -> ArW (W.setCell ⟨gb,a + 8 + j,none⟩ (.int .u8 (by_.toNat : Int))) ab gb N { da with L := bytesTo La (a + 8) sb (j + 1) } (.slice none 0 0) from fun W hB => by
      have h1 := HAr.out.below hB
      have h2 := h1.b.set (a + 8 + j) (.int .u8 (by_.toNat : Int))
      rw [bcA_set] at h2
      refine ArW.putL (d := { da with L := bytesTo La (a + 8) sb j }) ⟨h1.a.other _ _ h1.ne,?_,?_,h1.ne⟩ (by rw [bytesTo_len,bytesTo_len])
      ·rw [bytesTo_len]
       have := h1.c
       rw [bytesTo_len] at this
       exact this
      ·rw [bytesTo,hby]
       exact h2)
     clear hLl hsz8 hov hby HAr
     go_upto_region 17 with (fail)
     refine wp_region_vals [Is (.pointer (some ⟨ab,0,none⟩)),Is (.pointer (some ⟨ab,0,none⟩)),Is (.pointer (some ⟨ab,0,none⟩)),Is (.slice (some ⟨gb,0,none⟩) N N),Is (.int .i64 (a : Nat)),Is (.int .i64 ((a : Int) + 8)),Is (.int .i64 (j : Nat)),Is (.int .i64 ((a : Int) + 8 + (j : Int))),Is (.string bs),Is (.int .i64 (j : Nat)),Is (.int .u8 (by_.toNat : Int)),Is (.pointer (some ⟨gb,a + 8 + j,none⟩)),Is (undef)]
      (fun _ _ _ => True) (fun L W => CallG 12 wr gb (fun W' => ArW W' ab gb N { da with L := bytesTo La (a + 8) sb (j + 1) } (.slice none 0 0)) L W) (by kernel_rfl) (by kernel_rfl) (by kernel_rfl) ?hst ?h0 ⟨?o0,?o1,?o2,?o3,?o4,?o5,?o6,?o7,?o8,?o9,?o10,?o11,?o12,trivial⟩ ?he
     any_goals (intro L vs A W H hf hd K hK)
     case hst => repeat' (first | exact trivial | refine ⟨fun _ _ _ _ _ _ h _ => h,?_⟩)
     case h0 =>
      exact CallG.start 12 wr gb _
     case o0 => have e9 : A.tmps[9]?.getD undef = .pointer (some ⟨ab,0,none⟩) := H.old 9 (by kernel_rfl);go_simp;exact hK _ _ (trivial) rfl (H.glob.keep rfl)
     case o1 => have e72 := H.iz hd 0 72 rfl rfl rfl (by kernel_rfl);go_simp;exact hK _ _ (trivial) rfl (H.glob.keep rfl)
     case o2 => have e73 := H.iz hd 1 73 rfl rfl rfl (by kernel_rfl);go_simp;exact hK _ _ (trivial) rfl (H.glob.keep rfl)
     case o3 => have e74 := H.iz hd 2 74 rfl rfl rfl (by kernel_rfl);have d0 : W.cell? ⟨ab,0,none⟩ = some (.slice (some ⟨gb,0,none⟩) N N) := (H.glob.kp.cell (p := ⟨ab,0,none⟩) HAx.out.1.a.lt HAx.out.1.ne).trans HAx.out.2;go_simp;exact hK _ _ (trivial) rfl (H.glob.keep rfl)
     case o4 => have e12 : A.tmps[12]?.getD undef = .int .i64 (a : Nat) := H.old 12 (by kernel_rfl);go_simp;exact hK _ _ (trivial) rfl (H.glob.keep rfl)
     case o5 => have e76 := H.iz hd 4 76 rfl rfl rfl (by kernel_rfl);have hw8 := HIx.out.1;go_simp;exact hK _ _ (trivial) rfl (H.glob.keep rfl)
     case o6 => have e14 : A.tmps[14]?.getD undef = .int .i64 (j : Nat) := H.old 14 (by kernel_rfl);go_simp;exact hK _ _ (trivial) rfl (H.glob.keep rfl)
     case o7 => have e77 := H.iz hd 5 77 rfl rfl rfl (by kernel_rfl);have e78 := H.iz hd 6 78 rfl rfl rfl (by kernel_rfl);have hw8 := HIx.out.2.1;go_simp;exact hK _ _ (trivial) rfl (H.glob.keep rfl)
     case o8 => have e13 : A.tmps[13]?.getD undef = .string bs := H.old 13 (by kernel_rfl);go_simp;exact hK _ _ (trivial) rfl (H.glob.keep rfl)
     case o9 => have e14 : A.tmps[14]?.getD undef = .int .i64 (j : Nat) := H.old 14 (by kernel_rfl);go_simp;exact hK _ _ (trivial) rfl (H.glob.keep rfl)
     case o10 => have e80 := H.iz hd 8 80 rfl rfl rfl (by kernel_rfl);have e81 := H.iz hd 9 81 rfl rfl rfl (by kernel_rfl);exact wp_index_str (.tmp 80) (.tmp 81) rfl (ev_tmp e80) (ev_tmp e81) HBy.out (hK _ _ trivial rfl (H.glob.keep rfl))
     case o11 => have e75 := H.iz hd 3 75 rfl rfl rfl (by kernel_rfl);have e79 := H.iz hd 7 79 rfl rfl rfl (by kernel_rfl);have hx1 := HIx.out.2.2.1;have hx2 := HIx.out.2.2.2;go_simp;exact hK _ _ (trivial) rfl (H.glob.keep rfl)
     case o12 => have e83 := H.iz hd 11 83 rfl rfl rfl (by kernel_rfl);have e82 := H.iz hd 10 82 rfl rfl rfl (by kernel_rfl);have hB := H.glob.n hf;have d0 : W.cell? ⟨gb,a + 8 + j,none⟩ = some ov := (hB.cell (p := ⟨gb,a + 8 + j,none⟩) HAx.out.1.b.lt).trans HOv.out;have f0 : W.frozen? ⟨gb,a + 8 + j,none⟩ = false := (hB.frozen (p := ⟨gb,a + 8 + j,none⟩) HAx.out.1.b.lt).trans (HAx.out.1.b.frozen _);go_simp;exact hK _ _ (trivial) rfl (CallG.call (HSt.out W (H.glob.n hf)) (Keeps.setCell (S := fun i => i = gb) ((Keeps.of_below' (H.glob.n hf)).mono (fun _ _ h => h.elim)) (p := ⟨gb,a + 8 + j,none⟩) (.inl rfl) _))
     case he =>
      intro vs W hlen hv
      match vs,hlen,hv with
      | [x0_,x1_,x2_,x3_,x4_,x5_,x6_,x7_,x8_,x9_,x10_,x11_,x12_],_,hv =>
      obtain rfl := isv hv 0 rfl rfl;obtain rfl := isv hv 1 rfl rfl;obtain rfl := isv hv 2 rfl rfl;obtain rfl := isv hv 3 rfl rfl;obtain rfl := isv hv 4 rfl rfl;obtain rfl := isv hv 5 rfl rfl;obtain rfl := isv hv 6 rfl rfl;obtain rfl := isv hv 7 rfl rfl;obtain rfl := isv hv 8 rfl rfl;obtain rfl := isv hv 9 rfl rfl;obtain rfl := isv hv 10 rfl rfl;obtain rfl := isv hv 11 rfl rfl;obtain rfl := isv hv 12 rfl rfl
      intro L hall hG
      clear hv hlen
      have HG1 := Lib.hid (hG.y (hall 12 (by decide)))
      have HKt := Lib.hid hG.kp
      clear hG hall
      simp only [fill,if_true]
      simp [Act.put]
      have HK8 := Lib.hid (HKr.out.trans HKt.out)
      clear HKt HKr HSt HOv HAx
      go_wp2_with (fail)
      go_roundw
      case rel => exact ⟨j + 1,HJl.out,by go_num,HG1,HK8⟩
      case measure => have := HJl.out;simp [intOf];omega
    ·have hjn : j = sn := by omega
     have hAe : ArW wr ab gb N (valueL da a sb) (.slice none 0 0) := by
      unfold valueL
      rw [HSb.out.2.2.1,HL7.out,<- hjn]
      exact HAr.out
     have HAe := Lib.hid hAe
     have hKe := HK6.out.trans (HKr.out.mono (fun i hi e => .inr e))
     have HKe := Lib.hid hKe
     have HOe := Lib.hid (own_keptK HOw6.out HKr.out (fun i hi e => by have := own_base HOw6.out i hi;have := HD1.out.2.2;omega))
     have hkW : Below w.heap.size w wr := Keeps.below ((Keeps.of_below' HD1.out.2.1).trans' hKe (fun i hi e => by have := HD1.out.2.2;rcases e with e | e <;> omega))
     obtain ⟨ad2,u2,hAA2,had2,hu2,hcu2⟩ := HR.out.at_ HLt.out
     obtain rfl : ad = ad2 := Option.some.inj hAA2
     rw [get_u HLt.out,HX.out.1] at hu2
     obtain rfl := (Option.some.inj hu2).symm
     have hc8 : wr.cell? (ad.add k) = some (.int .u64 (un : Int)) := (hkW.cell (p := ad.add k) (by rw [block_of_add];exact had2)).trans hcu2
     have haw : IntKind.u64.wrap (a : Int) = (a : Int) := IntWalk.u64_in _ (by omega)
     obtain ⟨i0,hi0,hz0,hz1,hz2⟩ := infoEn
     have HI0 := Lib.hid (And.intro hi0 (And.intro hz0 (And.intro hz1 hz2)))
     have b4 : ¬ (j : Int) < (sn : Int) := by omega
     clear hAA2 had2 hu2 hcu2 hkW hAe hKe hi0 hz0 hz1 hz2 HAr HKr HK6 HOw6
     go_upto_region 8 with (at_builtin;(with_reducible refine wpList_append_own_at _ ?g1 (.tmp 84) (.tmp 92) 98 ?g2 w4.heap.size 102 i0 (.agg #[.int .u64 0,.int .u64 0]) 2 16 ?g3 ?g4 ?g5 ?g6 ?g7 ?g8 ?g9 u10 E.length (ecells E) ?g10 ?g11 ⟨wr.heap.size,0,none⟩ 1 1 [.int .u64 (un : Int),.int .u64 (a : Int)] ?g12 ?g13 ?g14 ?g15 ?g16 ?g17 ?g18 ?g19);(case g1 => rfl);(case g2 => rfl);(case g3 => exact Tryz.underlying98);(case g4 => exact HI0.out.1);(case g5 => exact HI0.out.2.1);(case g6 => exact HI0.out.2.2.1);(case g7 => exact HI0.out.2.2.2);(case g8 => rfl);(case g9 => decide);(case g10 => exact ev_tmp (by simp));(case g11 => exact own_keptK HOe.out ((Keeps.refl NoB wr).alloc _) (fun _ _ e => e));(case g12 => exact ev_tmp (by simp));(case g13 => rfl);(case g14 => exact two_new _ _ _ _);(case g15 => simp [Value.oneCell']);(case g16 => have := HV.out.len;have := HN.out;unfold maxLen;omega);(case g17 => have := HV.out.len;have := HN.out;omega);(case g18 => exact ((HKe.out.alloc _).size));intro v9 w9 hown9 hg9 _ hat9;have HO9 := Lib.hid (And.intro hown9 hg9);clear hown9 hg9 hat9)
     have hk9 : Keeps (fun i => w4.heap.size <= i) wr w9 := ((Keeps.refl _ wr).alloc _).grown HO9.out.2 (fun i hi => .inl (own_base HOe.out i hi))
     have HVn := Lib.hid (show VaR w4 w9 ab gb N d1 keys (k + 1) (E ++ [((un : Int),(a : Int))]) (valueL da a sb) v9 from by
      refine ⟨?_,?_,?_,?_,?_,?_,?_⟩
      ·rw [List.length_append,ecells_snoc]
       exact HO9.out.1
      ·rw [List.length_append,HV.out.len];rfl
      ·exact HAe.out.kept hk9 (fun e => by have := HD1.out.2.2;omega) (fun e => by have := HD1.out.2.2;omega)
      ·exact valueL_ok HAd.out.2.2.1 (by have := HLa.out;omega)
      ·refine ⟨(by show da.lv = [];rw [HAd.out.2.2.2.2.1];exact HV.out.lv.1),?_,fun e => by simp at e,?_⟩
       ·unfold valueL
        dsimp only
        rw [bytesTo_len,HSb.out.2.2.1,HLa.out.2.2,HLa.out.1]
       ·intro i
        have h1 := HV.out.lv.2.2.2 i
        have h2 := HX.out.2
        unfold eK eP at h1 ⊢
        rw [List.getD_eq_getElem?_getD] at h1 ⊢
        by_cases hi : i < E.length
        ·rw [List.getElem?_append_left hi];exact h1
        ·rw [List.getElem?_append_right (by omega)]
         by_cases h0 : i - E.length = 0
         ·rw [h0];exact ⟨h2,⟨by show (0 : Int) <= (a : Int);omega,by show (a : Int) <= _;omega⟩⟩
         ·rw [List.getElem?_eq_none (by simp;omega)]
          exact ⟨⟨by decide,by decide⟩,⟨by decide,by decide⟩⟩
      ·exact HKe.out.trans' hk9 (fun i hi e => by omega)
      ·rw [HV.out.eq]
       have hd : keys.drop k = (un : Int) :: keys.drop (k + 1) := by
        rw [List.drop_eq_getElem_cons HLt.out,<- HX.out.1,List.getD_eq_getElem?_getD,List.getElem?_eq_getElem HLt.out];rfl
       rw [hd,valsA,HAd.out.1,if_neg ha0,HAd.out.2.1,Int.toNat_natCast,HSb.out.2.1]
       cases valsA (keys.drop (k + 1)) (valueL da a sb) with
       | none => rfl
       | some r => simp)
     clear hk9 HO9 HAe HKe HOe HV
     go_wp2_with (fail)
     go_roundw
     case rel => exact ⟨k + 1,_,_,HLt.out,by go_num,HVn⟩
     case measure => have := HLt.out;simp [intOf];omega
  ·have hkn : k = keys.length := by omega
   have b1 : ¬ (k : Int) < (keys.length : Int) := by omega
   have hve := HV.out.eq
   rw [hkn,List.drop_length,valsA,Option.map_some,List.append_nil] at hve
   have HVe := Lib.hid hve
   have HL0 := Lib.hid (show LeR w4 wo ab gb N per lag E dk 0 E dk (.slice none 0 0) u10 from ⟨HV.out.own,fun e => ⟨HV.out.lv.2.2.1 e,rfl⟩,by have := HV.out.len;have := HN.out;omega,HV.out.lv.2.2.2,HV.out.ar,HV.out.ok,⟨⟨[],by rw [HV.out.lv.1];exact ⟨rfl,.inl ⟨rfl,rfl⟩⟩,(fun i R hi => by rw [HV.out.lv.1] at hi;cases hi)⟩,(fun g hg => by cases hg)⟩,(fun g hg => by cases hg),⟨by rw [HV.out.lv.1];rfl,by omega,HV.out.lv.2.1⟩,HV.out.kp,rfl⟩)
   clear hve HV HV0
   go_upto_region 21 with (fail)
   go_loopw [10,15] (fun lval iv wr => ∃ (lv : Nat) (l : List (Int × Int)) (d : AD) (v : Value),lv <= 15 /\ iv = .int .i64 (lv : Int) /\ Hid (LeR w4 wr ab gb N per lag E dk lv l d v lval)) (fun _ iv _ => 1000 - (intOf iv).toNat)
   case atStart => exact ⟨0,E,dk,_,Nat.zero_le _,rfl,HL0⟩
   case round =>
    obtain ⟨lv,l,d,v,hlv,rfl,HL⟩ := hrel
    obtain ⟨wp,rfl⟩ : ∃ wp,wp = wr := ⟨_,rfl⟩
    have HCl := Lib.hid (HL.out.call HN.out.2.2.1 HD1.out.2.2.2.2)
    have hlvi : (lv : Int) <= 15 := by omega
    go_upto_if 101 with (go_at_call 33;refine (HCl.out.mono (fun _ _ h => h.b)).mono ?_;rintro e wL ⟨b,rfl,hP⟩)
    have hst : ∀ f,levelsA per lag (f + 1) lv l d = (match levelA d lv per l with | none => none | some d1 => if (d1.lv.getD lv []).length = 1 ∨ lv = 15 then some d1 else if (parG (d1.lv.getD lv []) lag).length = 1 then some d1 else levelsA per lag f (lv + 1) (parG (d1.lv.getD lv []) lag) d1) := fun f => rfl
    have HSt := Lib.hid (show levelsA per lag 16 0 E dk = _ from HL.out.eq.trans ((congrArg (fun x => levelsA per lag x lv l d) (show 16 - lv = (15 - lv) + 1 by omega)).trans (hst (15 - lv))))
    have HBu := Lib.hid (show buildA slabs keys per lag = (levelsA per lag 16 0 E dk).map rootL from by unfold buildA;rw [HD1.out.1,HVe.out])
    have Hlv := Lib.hid hlv
    clear HCl hst hlv
    rcases hP with ⟨rfl,hNo,hkL⟩ | ⟨rfl,d',v',hD,hA,hLw,hvb,hkL⟩
    ·have HE := Lib.hid (show BuildP w wL (.returned (.pointer none)) slabs keys per lag from by
      refine .inl ⟨?_,rfl,Keeps.below ((Keeps.of_below' HD1.out.2.1).trans' (HL.out.kp.trans hkL) (fun i hi e => by have := HD1.out.2.2;rcases e with e | e <;> omega))⟩
      rw [HBu.out,HSt.out,hNo]
      rfl)
     clear HL hkL hNo
     go_wp2_with (fail)
     go_ret
     exact HE.out
    ·obtain ⟨R,hlR,hR0,hRl,hok2,hLl2,hRm⟩ := levelA_ok Hlv.out HL.out.u (by have := HN.out.2.2.1;omega) HL.out.ok hD
     have hdl2 : d'.lv.length = lv + 1 := by rw [hlR,List.length_append,HL.out.dl.1];rfl
     have hgR : d'.lv[lv]? = some R := by rw [hlR,List.getElem?_append_right (by rw [HL.out.dl.1];exact Nat.le_refl _),HL.out.dl.1,Nat.sub_self];rfl
     have hgD : d'.lv.getD lv [] = R := by rw [List.getD_eq_getElem?_getD,hgR];rfl
     obtain ⟨⟨vs,hvo,hvr⟩,hvn⟩ := id hLw
     rw [hdl2] at hvo
     obtain ⟨vg,vc,rfl,_,hvg,hvc,hvm,hvsl,hvcell,_⟩ := own_shape hvo (Nat.succ_pos _)
     obtain ⟨rb,cr,hvs,hcr,hcm,hvrb,hNrb,hRow⟩ := hvr lv R hgR
     obtain ⟨rn,hrn⟩ : ∃ rn,R.length = rn := ⟨_,rfl⟩
     have hRb : rb < wL.heap.size := hRow.lt
     have hkL4 : Keeps (fun i => i = ab ∨ i = gb) w4 wL := HL.out.kp.trans' hkL (fun i hi e => by rcases e with e | e;exact e;have := HL.out.vb i e;omega)
     have hvb4 : ∀ g,(Value.slice (some ⟨vg,0,none⟩) (lv + 1) vc).ownBlock = some g -> w4.heap.size <= g := fun g hg => by
      rcases hvb g hg with e | e
      ·exact HL.out.vb g e
      ·have := HL.out.kp.size;omega
     have HLx := Lib.hid (And.intro hD (And.intro hA (And.intro hLw (And.intro hvb4 (And.intro hkL4 (And.intro hok2 (And.intro hdl2 hgD)))))))
     have hLN := HL.out.dl.2.2
     have HNl := Lib.hid (show d'.L.length = N /\ ∀ x ∈ R,x.2.Wf /\ x.1 ≠ 0 /\ x.1 + 192 <= N from ⟨hLl2.trans hLN,by rw [<- hLN];exact hRm⟩)
     have HRr := Lib.hid (And.intro hRow (And.intro hrn (And.intro hR0 hRl)))
     have c7 : wL.cell? ⟨ab,7,none⟩ = some (.slice (some ⟨vg,0,none⟩) (lv + 1) vc) := (hA.a.cell 7).trans rfl
     have cv : wL.cell? ⟨vg,lv,none⟩ = some (.slice (some ⟨rb,0,none⟩) rn cr) := by rw [hvcell lv (by omega),hvs,hrn]
     have HC7 := Lib.hid (And.intro c7 (And.intro cv hvg))
     have hrn100 : (rn : Int) <= 100 := by have := HL.out.len;omega
     have hlv1 : lv < lv + 1 := Nat.lt_succ_self _
     have HLl := Lib.hid HL.out.len
     have HKb := Lib.hid (HL.out.vb)
     clear hlR hR0 hRl hok2 hLl2 hRm hdl2 hgR hgD hvo hvr hvn hvg hvc hvm hvsl hvcell hvs hcm hvrb hNrb hRow hrn hkL4 hvb4 hkL hvb hLw hA hD HL hLN
     go_upto_region 24 with (fail)
     obtain ⟨q1,hq1⟩ : ∃ q : Bool,((rn : Int) == 1) = q := ⟨_,rfl⟩
     obtain ⟨q2,hq2⟩ : ∃ q : Bool,((lv : Int) == 15) = q := ⟨_,rfl⟩
     have HQ := Lib.hid (show (q1 = true ↔ rn = 1) /\ (q2 = true ↔ lv = 15) from ⟨by rw [<- hq1];simp;omega,by rw [<- hq2];simp;omega⟩)
     go_cut [115] (fun s115 wx => s115 = .bool (q1 || q2) /\ wL = wx)
     case first =>
      cases q1 <;> cases q2
      all_goals
       go_wp2_with (fail)
       go_meet
       exact ⟨rfl,rfl⟩
     case rest =>
      obtain ⟨rfl,rfl⟩ := hcut
      obtain ⟨q,hq⟩ : ∃ q : Bool,(q1 || q2) = q := ⟨_,rfl⟩
      have HQ2 := Lib.hid (show q = true ↔ (rn = 1 ∨ lv = 15) from by rw [<- hq,Bool.or_eq_true,HQ.out.1,HQ.out.2])
      rw [hq]
      clear hq hq1 hq2
      go_upto_if 115 with (fail)
      cases q with
      | true =>
       have HF := Lib.hid (show levelsA per lag 16 0 E dk = some d' from by
        rw [HSt.out,HLx.out.1]
        dsimp only
        rw [HLx.out.2.2.2.2.2.2.2,HRr.out.2.1,if_pos (HQ2.out.1 rfl)])
       obtain ⟨wX,hwX⟩ : ∃ wX,wL = wX := ⟨_,rfl⟩
       have HBx := Lib.hid (show Below wL.heap.size wL wX from by rw [<- hwX];exact Below.refl _ _)
       rw [hwX]
       clear HSt HQ HQ2 hwX
       have HTx := Lib.hid (show ab < wX.heap.size /\ wX.cell? ⟨ab,7,none⟩ = some (.slice (some ⟨vg,0,none⟩) (lv + 1) vc) /\ (lv : Int) <= 15 /\ vg < wX.heap.size /\ wX.cell? ⟨vg,lv,none⟩ = some (.slice (some ⟨rb,0,none⟩) rn cr) from
        ⟨by have := HD1.out.2.2;have := HLx.out.2.2.2.2.1.size;have := HBx.out.size;omega,(HBx.out.cell (p := ⟨ab,7,none⟩) (show ab < wL.heap.size by have := HD1.out.2.2;have := HLx.out.2.2.2.2.1.size;omega)).trans HC7.out.1,hlvi,Nat.lt_of_lt_of_le HC7.out.2.2 HBx.out.size,(HBx.out.cell (p := ⟨vg,lv,none⟩) HC7.out.2.2).trans HC7.out.2.1⟩)
       obtain ⟨x,hx⟩ : ∃ x,R[0]? = some x := ⟨_,List.getElem?_eq_getElem HRr.out.2.2.1⟩
       have hrn1 : 0 < rn := by have := HRr.out;omega
       have HX0 := Lib.hid hx
       clear c7 cv hx
       go_upto_region 31 with (fail)
       refine wp_region_vals [Is (.pointer (some ⟨ab,0,none⟩)),Is (.pointer (some ⟨ab,0,none⟩)),Is (.pointer (some ⟨ab,7,none⟩)),Is (.slice (some ⟨vg,0,none⟩) (lv + 1) vc),Is (.pointer (some ⟨ab,0,none⟩)),Is (.pointer (some ⟨ab,0,none⟩)),Is (.pointer (some ⟨ab,7,none⟩)),Is (.slice (some ⟨vg,0,none⟩) (lv + 1) vc),Is (.int .i64 ((lv : Int) + 1)),Is (.int .i64 (lv : Int)),Is (.pointer (some ⟨vg,lv,none⟩)),Is (.slice (some ⟨rb,0,none⟩) rn cr),Is (.slice (some ⟨rb,0,none⟩) rn cr)]
        (fun _ _ _ => True) (fun _ W => Below wX.heap.size wX W) (by kernel_rfl) (by kernel_rfl) (by kernel_rfl) ?hst ?h0 ⟨?o0,?o1,?o2,?o3,?o4,?o5,?o6,?o7,?o8,?o9,?o10,?o11,?o12,trivial⟩ ?he
       any_goals (intro L vs A W H hf hd K hK)
       case hst => repeat' (first | exact trivial | refine ⟨fun _ _ _ _ _ _ h _ => h,?_⟩)
       case h0 =>
        exact (Below.refl _ wX).drew
       case o0 => have e9 : A.tmps[9]?.getD undef = .pointer (some ⟨ab,0,none⟩) := H.old 9 (by kernel_rfl);go_simp;exact hK _ _ (trivial) rfl (H.glob)
       case o1 => have e152 := H.iz hd 0 152 rfl rfl rfl (by kernel_rfl);go_simp;exact hK _ _ (trivial) rfl (H.glob)
       case o2 => have e153 := H.iz hd 1 153 rfl rfl rfl (by kernel_rfl);go_simp;exact hK _ _ (trivial) rfl (H.glob)
       case o3 => have e154 := H.iz hd 2 154 rfl rfl rfl (by kernel_rfl);have d := (H.glob.cell (p := ⟨ab,7,none⟩) HTx.out.1).trans HTx.out.2.1;go_simp;exact hK _ _ (trivial) rfl (H.glob)
       case o4 => have e9 : A.tmps[9]?.getD undef = .pointer (some ⟨ab,0,none⟩) := H.old 9 (by kernel_rfl);go_simp;exact hK _ _ (trivial) rfl (H.glob)
       case o5 => have e156 := H.iz hd 4 156 rfl rfl rfl (by kernel_rfl);go_simp;exact hK _ _ (trivial) rfl (H.glob)
       case o6 => have e157 := H.iz hd 5 157 rfl rfl rfl (by kernel_rfl);go_simp;exact hK _ _ (trivial) rfl (H.glob)
       case o7 => have e158 := H.iz hd 6 158 rfl rfl rfl (by kernel_rfl);have d := (H.glob.cell (p := ⟨ab,7,none⟩) HTx.out.1).trans HTx.out.2.1;go_simp;exact hK _ _ (trivial) rfl (H.glob)
       case o8 => have e159 := H.iz hd 7 159 rfl rfl rfl (by kernel_rfl);have hx1 := HTx.out.2.2.1;go_simp;exact hK _ _ (trivial) rfl (H.glob)
       case o9 => have e160 := H.iz hd 8 160 rfl rfl rfl (by kernel_rfl);have hx1 := HTx.out.2.2.1;have hw := i64_id (lv : Int) (by omega);go_simp;exact hK _ _ (trivial) rfl (H.glob)
       case o10 =>
        have e155 := H.iz hd 3 155 rfl rfl rfl (by kernel_rfl)
        have e161 := H.iz hd 9 161 rfl rfl rfl (by kernel_rfl)
        have hx1 := HTx.out.2.2.1
        have hx2 : lv < lv + 1 := Nat.lt_succ_self _
        have hx3 : (lv : Int) < (lv : Int) + 1 := by omega
        go_simp
        exact hK _ _ (trivial) rfl (H.glob)
       case o11 => have e162 := H.iz hd 10 162 rfl rfl rfl (by kernel_rfl);have d := (H.glob.cell (p := ⟨vg,lv,none⟩) HTx.out.2.2.2.1).trans HTx.out.2.2.2.2;go_simp;exact hK _ _ (trivial) rfl (H.glob)
       case o12 => have e163 := H.iz hd 11 163 rfl rfl rfl (by kernel_rfl);go_simp;exact hK _ _ (trivial) rfl (H.glob)
       case he =>
        intro vs W hlen hv
        match vs,hlen,hv with
        | [x0_,x1_,x2_,x3_,x4_,x5_,x6_,x7_,x8_,x9_,x10_,x11_,x12_],_,hv =>
        obtain rfl := isv hv 0 rfl rfl;obtain rfl := isv hv 1 rfl rfl;obtain rfl := isv hv 2 rfl rfl;obtain rfl := isv hv 3 rfl rfl;obtain rfl := isv hv 4 rfl rfl;obtain rfl := isv hv 5 rfl rfl;obtain rfl := isv hv 6 rfl rfl;obtain rfl := isv hv 7 rfl rfl;obtain rfl := isv hv 8 rfl rfl;obtain rfl := isv hv 9 rfl rfl;obtain rfl := isv hv 10 rfl rfl;obtain rfl := isv hv 11 rfl rfl;obtain rfl := isv hv 12 rfl rfl
        intro L hall hG
        clear hv hlen
        have HB3 := Lib.hid hG
        clear hG hall
        simp only [fill,if_true]
        simp [Act.put]
        have hB4 := HBx.out.trans (HB3.out.mono HBx.out.size)
        have hA4 := HLx.out.2.1.kept ((Keeps.of_below hB4).mono (fun i hi (e : wL.heap.size <= i) => show False from by omega)) (fun e => e) (fun e => e)
        have hL4 := HLx.out.2.2.1.kept ((Keeps.of_below hB4).mono (fun i hi (e : wL.heap.size <= i) => show False from by omega)) (fun i e => e.elim)
        have hl4 := HLx.out.2.2.2.2.2.1
        have hNN : d'.L.length = N := HNl.out.1
        have hxa : x.1 + 192 <= N := (HNl.out.2 x (List.mem_of_getElem? HX0.out)).2.2
        have hc0 : W.cell? ⟨rb,0,none⟩ = some (.int .u64 (x.1 : Int)) := (hB4.cell (p := ⟨rb,0,none⟩) HRr.out.1.lt).trans ((HRr.out.1.cell (j := 0) (k := 0) HX0.out (by decide)).trans rfl)
        have HP := Lib.hid (bput_v W ab gb N _ d'.L 16 (x.1 : Int) hA4 (by have := HNn.out;omega) (by have := HNn.out;omega) (by omega) (by have := HNn.out;omega))
        have hpl := putAt_len (L := d'.L) (a := 16) (x.1 : Int) (by have := HNn.out;omega)
        have HA4 := Lib.hid (And.intro hA4 (And.intro hL4 (And.intro hB4 hpl)))
        clear hB4 hA4 hL4 hl4 hpl HB3 HTx
        go_upto_region 33 with (go_at_call 30;refine HP.out.mono ?_;rintro e wE ⟨rfl,hAE,hkE⟩)
        have HE := Lib.hid (show BuildP w wE (.returned (.pointer (some ⟨ab,0,none⟩))) slabs keys per lag from by
         have htop : topA d' = x.1 := by
          unfold topA
          rw [HLx.out.2.2.2.2.2.2.1,Nat.add_sub_cancel,HLx.out.2.2.2.2.2.2.2,List.getD_eq_getElem?_getD,HX0.out]
          rfl
         refine .inr ⟨rootL d',ab,gb,N,.slice (some ⟨vg,0,none⟩) (lv + 1) vc,by rw [HBu.out,HF.out];rfl,rfl,?_,?_,?_,?_,HD1.out.2.2.1,HD1.out.2.2.2.1,?_⟩
         ·unfold rootL
          rw [htop]
          exact ArW.putL hAE HA4.out.2.2.2
         ·exact HA4.out.2.1.kept hkE (fun i e => .inr e)
         ·have h1 := HLx.out.2.2.2.2.2.1
          unfold rootL
          rw [htop]
          exact ⟨by dsimp only;rw [HA4.out.2.2.2];exact h1.len,h1.sl,h1.us,h1.va,h1.no,h1.vs,h1.ns⟩
         ·unfold rootL
          rw [htop]
          exact Nat.le_of_eq (HA4.out.2.2.2.trans hNN)
         ·exact Keeps.below ((Keeps.of_below' HD1.out.2.1).trans' ((HLx.out.2.2.2.2.1.trans ((Keeps.of_below HA4.out.2.2.1).mono (fun i hi (e : wL.heap.size <= i) => show i = ab ∨ i = gb from by omega))).trans (hkE.mono (fun i hi e => .inr e))) (fun i hi e => by have := HD1.out.2.2;rcases e with e | e <;> omega)))
        clear hAE hkE HA4
        go_wp2_with (fail)
        go_ret
        exact HE.out
      | false =>
       have hns : ¬ (rn = 1 ∨ lv = 15) := fun h => by have := HQ2.out.2 h;cases this
       obtain ⟨pc,hpc⟩ : ∃ pc,pcG R lag = pc := ⟨_,rfl⟩
       have HPc := Lib.hid (show pc = max 1 (rn - lag) /\ parG R lag = parK R pc /\ pc <= rn /\ 1 <= pc from by
        have h1 := HRr.out.2.1
        have h2 : pc = max 1 (rn - lag) := by rw [<- hpc,<- h1];rfl
        refine ⟨h2,by rw [parG_eq,hpc],?_,by omega⟩
        have := HRr.out.2.2.1
        omega)
       have hSt2 := HSt.out
       rw [HLx.out.1] at hSt2
       dsimp only at hSt2
       rw [HLx.out.2.2.2.2.2.2.2,HRr.out.2.1,if_neg hns,HPc.out.2.1] at hSt2
       have HSt2 := Lib.hid hSt2
       have Hns := Lib.hid hns
       have hlgi : (lag : Int) <= 20 := by have := HN.out;omega
       clear hSt2 hns hpc HSt HQ HQ2 c7 cv
       go_upto_region 27 with (fail)
       go_loopw [10,17] (fun lval iv wr => ∃ i : Nat,i <= pc /\ iv = .int .i64 (i : Int) /\ Hid (RowEn wL.heap.size (parK R i) lval wr) /\ Hid (Below wL.heap.size wL wr)) (fun _ iv _ => 1000 - (intOf iv).toNat)
       case atStart => exact ⟨0,Nat.zero_le _,rfl,Lib.hid ⟨rfl,.inl ⟨rfl,rfl⟩⟩,Lib.hid (Below.refl _ _)⟩
       case round =>
        obtain ⟨i,hi,rfl,HO,HB⟩ := hrel
        obtain ⟨l1,hl1⟩ : ∃ l1,parK R i = l1 := ⟨_,rfl⟩
        rw [hl1] at HO
        have Hl1 := Lib.hid hl1
        have hi100 : (i : Int) <= 100 := by have := HPc.out;omega
        clear hl1
        obtain ⟨t,ht⟩ : ∃ t : Bool,decide (i < pc) = t := ⟨_,rfl⟩
        have HT := Lib.hid ht
        clear ht
        go_step
        go_step
        go_step
        go_cut [131] (fun s131 wx => s131 = .bool t /\ wr = wx)
        case first =>
         obtain ⟨c3,hc3⟩ : ∃ c3 : Bool,decide ((i : Int) < (rn : Int) - (lag : Int)) = c3 := ⟨_,rfl⟩
         have HC3 := Lib.hid (show c3 = true ↔ i + lag < rn from by rw [<- hc3,decide_eq_true_iff];omega)
         obtain ⟨c2,hc2⟩ : ∃ c2 : Bool,((i : Int) == 0) = c2 := ⟨_,rfl⟩
         have HC2 := Lib.hid (show c2 = true ↔ i = 0 from by rw [<- hc2,beq_iff_eq];omega)
         obtain ⟨c1,hc1⟩ : ∃ c1 : Bool,decide (i < rn) = c1 := ⟨_,rfl⟩
         have HC1 := Lib.hid (show c1 = true ↔ i < rn from by rw [<- hc1,decide_eq_true_iff])
         have HTe := Lib.hid (show t = (c1 && (c2 || c3)) from by
          have h1 := HC1.out
          have h2 := HC2.out
          have h3 := HC3.out
          have h4 := HPc.out
          have h5 := HT.out
          rw [Bool.eq_iff_iff,Bool.and_eq_true,Bool.or_eq_true,h1,h2,h3,<- h5,decide_eq_true_iff]
          omega)
         cases c1 <;> cases c2 <;> cases c3
         all_goals
          go_wp2_with (fail)
          go_meet
          exact ⟨by rw [HTe.out];rfl,rfl⟩
        case rest =>
         obtain ⟨rfl,rfl⟩ := hcut
         go_step
         cases t with
         | true =>
          have hip : i < pc := by have := HT.out;simpa using this
          obtain ⟨x,hx⟩ : ∃ x,R[i]? = some x := ⟨_,List.getElem?_eq_getElem (by have := HPc.out;have := HRr.out.2.1;omega)⟩
          have HIx := Lib.hid (show i < rn from by have := HPc.out;omega)
          have HRx := Lib.hid (show rb < wL.heap.size /\ wL.cell? ⟨rb,i * 22 + 2,none⟩ = some (.int .u64 x.2.lo) /\ wL.cell? ⟨rb,i * 22,none⟩ = some (.int .u64 (x.1 : Int)) from
           ⟨HRr.out.1.lt,(HRr.out.1.cell (j := i) (k := 2) hx (by decide)).trans rfl,(HRr.out.1.cell (j := i) (k := 0) hx (by decide)).trans rfl⟩)
          have HSu := Lib.hid (show parK R (i + 1) = l1 ++ [(x.2.lo,(x.1 : Int))] from by rw [parK_succ hx,Hl1.out])
          obtain ⟨i0,hi0,hz0,hz1,hz2⟩ := infoEn
          have HI0 := Lib.hid (And.intro hi0 (And.intro hz0 (And.intro hz1 hz2)))
          have HLl := Lib.hid (show l1.length <= 100 from by rw [<- Hl1.out,parK_len R i (by have := HPc.out;have := HRr.out.2.1;omega)];omega)
          have HIp := Lib.hid hip
          clear hip hx hi0 hz0 hz1 hz2
          go_upto_region 29 with (fail)
          refine wp_region_vals [Is u10,Is (.slice (some ⟨rb,0,none⟩) rn cr),Is (.int .i64 (i : Nat)),Is (.pointer (some ⟨rb,i * 22,none⟩)),Is (.pointer (some ⟨rb,i * 22 + 1,none⟩)),Is (.pointer (some ⟨rb,i * 22 + 2,none⟩)),Is (.int .u64 x.2.lo),Is (.slice (some ⟨rb,0,none⟩) rn cr),Is (.int .i64 (i : Nat)),Is (.pointer (some ⟨rb,i * 22,none⟩)),Is (.pointer (some ⟨rb,i * 22,none⟩)),Is (.int .u64 (x.1 : Int)),Is (.agg #[.int .u64 x.2.lo,.int .u64 (x.1 : Int)]),OneEn u10 x.2.lo (x.1 : Int),RowEn wL.heap.size (l1 ++ [(x.2.lo,(x.1 : Int))]),RowEn wL.heap.size (l1 ++ [(x.2.lo,(x.1 : Int))])]
           (fun i => Keeps (fun g => i = 14 /\ u10.ownBlock = some g)) (fun L W => (L 14 = true ∨ RowEn wL.heap.size l1 u10 W) /\ Below wL.heap.size wL W) (by kernel_rfl) (by kernel_rfl) (by kernel_rfl) ?hst ?h0 ⟨?o0,?o1,?o2,?o3,?o4,?o5,?o6,?o7,?o8,?o9,?o10,?o11,?o12,?o13,?o14,?o15,trivial⟩ ?he
          any_goals (intro L vs A W H hf hd K hK)
          case hst =>
           exact ⟨(fun _ _ _ _ _ _ h _ => h),(fun _ _ _ _ _ _ h _ => h),(fun _ _ _ _ _ _ h _ => h),(fun _ _ _ _ _ _ h _ => h),(fun _ _ _ _ _ _ h _ => h),(fun _ _ _ _ _ _ h _ => h),(fun _ _ _ _ _ _ h _ => h),(fun _ _ _ _ _ _ h _ => h),(fun _ _ _ _ _ _ h _ => h),(fun _ _ _ _ _ _ h _ => h),(fun _ _ _ _ _ _ h _ => h),(fun _ _ _ _ _ _ h _ => h),(fun _ _ _ _ _ _ h _ => h),(fun _ _ _ _ _ _ h hR => by obtain ⟨H,e,hb,hn⟩ := h;exact ⟨H,e,hb.kept hR (fun hx => hn hx.2),hn⟩),(fun _ hij _ _ _ _ h hR => own_keptK h hR (fun _ _ hx => hij hx.1)),(fun i hij hw _ _ _ h hR => (if h20 : i = 14 then by (subst h20;have h3 : false = true := hw.symm.trans (by kernel_rfl);cases h3) else own_keptK h hR (fun _ _ hx => h20 hx.1))),trivial⟩
          case h0 =>
           exact ⟨.inr (own_keptK HO.out ((Keeps.refl NoB _).drew) (fun _ _ h => h)),HB.out.drew⟩
          case o0 => have e10 : A.tmps[10]?.getD undef = u10 := H.later 10 0 hf (by kernel_rfl);go_simp;exact hK _ _ (Keeps.refl _ _) rfl (H.glob)
          case o1 => have e16 : A.tmps[16]?.getD undef = .slice (some ⟨rb,0,none⟩) rn cr := H.old 16 (by kernel_rfl);go_simp;exact hK _ _ (Keeps.refl _ _) rfl (H.glob)
          case o2 => have e17 : A.tmps[17]?.getD undef = .int .i64 (i : Nat) := H.old 17 (by kernel_rfl);go_simp;exact hK _ _ (Keeps.refl _ _) rfl (H.glob)
          case o3 => have e135 := H.iz hd 1 135 rfl rfl rfl (by kernel_rfl);have e136 := H.iz hd 2 136 rfl rfl rfl (by kernel_rfl);have hx1 := HIx.out;go_simp;exact hK _ _ (Keeps.refl _ _) rfl (H.glob)
          case o4 => have e137 := H.iz hd 3 137 rfl rfl rfl (by kernel_rfl);go_simp;exact hK _ _ (Keeps.refl _ _) rfl (H.glob)
          case o5 => have e138 := H.iz hd 4 138 rfl rfl rfl (by kernel_rfl);go_simp;exact hK _ _ (Keeps.refl _ _) rfl (H.glob)
          case o6 => have e139 := H.iz hd 5 139 rfl rfl rfl (by kernel_rfl);have d := (H.glob.2.cell (p := ⟨rb,i * 22 + 2,none⟩) HRx.out.1).trans HRx.out.2.1;go_simp;exact hK _ _ (Keeps.refl _ _) rfl (H.glob)
          case o7 => have e16 : A.tmps[16]?.getD undef = .slice (some ⟨rb,0,none⟩) rn cr := H.old 16 (by kernel_rfl);go_simp;exact hK _ _ (Keeps.refl _ _) rfl (H.glob)
          case o8 => have e17 : A.tmps[17]?.getD undef = .int .i64 (i : Nat) := H.old 17 (by kernel_rfl);go_simp;exact hK _ _ (Keeps.refl _ _) rfl (H.glob)
          case o9 => have e141 := H.iz hd 7 141 rfl rfl rfl (by kernel_rfl);have e142 := H.iz hd 8 142 rfl rfl rfl (by kernel_rfl);have hx1 := HIx.out;go_simp;exact hK _ _ (Keeps.refl _ _) rfl (H.glob)
          case o10 => have e143 := H.iz hd 9 143 rfl rfl rfl (by kernel_rfl);go_simp;exact hK _ _ (Keeps.refl _ _) rfl (H.glob)
          case o11 => have e144 := H.iz hd 10 144 rfl rfl rfl (by kernel_rfl);have d := (H.glob.2.cell (p := ⟨rb,i * 22,none⟩) HRx.out.1).trans HRx.out.2.2;go_simp;exact hK _ _ (Keeps.refl _ _) rfl (H.glob)
          case o12 => have e140 := H.iz hd 6 140 rfl rfl rfl (by kernel_rfl);have e145 := H.iz hd 11 145 rfl rfl rfl (by kernel_rfl);go_simp;exact hK _ _ (Keeps.refl _ _) rfl (H.glob)
          case o13 =>
           have e146 := H.iz hd 12 146 rfl rfl rfl (by kernel_rfl)
           have n14 := H.notYet 14 13 rfl hf (by kernel_rfl)
           have hrow : RowEn wL.heap.size l1 u10 W := by rcases H.glob.1 with h | h;(rw [n14] at h;cases h);exact h
           have hnb : u10.ownBlock ≠ some W.heap.size := fun e => by have := own_ltK hrow _ e;omega
           have hgb := H.glob.2
           go_simp
           exact hK _ _ ((Keeps.refl _ _).alloc _) ⟨_,rfl,Blk.new _ _ _,hnb⟩ ⟨.inr (own_keptK hrow ((Keeps.refl NoB _).alloc _) (fun _ _ h => h)),hgb.alloc hgb.size _⟩
          case o14 =>
           have e134 := H.iz hd 0 134 rfl rfl rfl (by kernel_rfl)
           obtain ⟨v147,e147,q147⟩ := H.val 13 147 rfl rfl rfl (deps_of' hd 13 (by kernel_rfl)) (by kernel_rfl)
           have hf14 : L 14 = false := hf
           have hrow : RowEn wL.heap.size l1 u10 W := by rcases H.glob.1 with h | h;(rw [hf14] at h;cases h);exact h
           have hgb := H.glob.2
           obtain ⟨H2,rfl,hb2,hn2⟩ := q147
           refine step_append_any (w := W) rfl (.tmp 134) (.tmp 147) 98 rfl wL.heap.size 102 i0 _ 2 16 Tryz.underlying98 HI0.out.1 HI0.out.2.1 HI0.out.2.2.1 HI0.out.2.2.2 rfl (by omega) u10 l1.length (ecells l1) (ev_tmp e134) hrow W.heap.size (some ⟨H2,0,none⟩) 1 1 [.int .u64 x.2.lo,.int .u64 (x.1 : Int)] (ev_tmp e147) (reads_pairK hb2) (by simp [Value.oneCell']) (by unfold maxLen;have := HLl.out;omega) (by have := HLl.out;omega) hgb.size ?_
           intro v' w' hown' hg' _
           exact hK _ _ ((Keeps.refl _ _).grown hg' (fun _ e => .inl ⟨rfl,e⟩)) (rowEn_one hown') ⟨.inl rfl,hgb.grown hg' hgb.size (fun r e => own_base hrow _ e)⟩
          case o15 => obtain ⟨v148,e148,q148⟩ := H.val 14 148 rfl rfl rfl (deps_of' hd 14 (by kernel_rfl)) (by kernel_rfl);rw [if_pos (show Region.wanted _ _ = true from rfl)];go_simp;exact hK _ _ (Keeps.refl _ _) q148 H.glob
          case he =>
           intro vs W hlen hv
           match vs,hlen,hv with
           | [x0_,x1_,x2_,x3_,x4_,x5_,x6_,x7_,x8_,x9_,x10_,x11_,x12_,x13_,x14_,x15_],_,hv =>
           obtain rfl := isv hv 0 rfl rfl;obtain rfl := isv hv 1 rfl rfl;obtain rfl := isv hv 2 rfl rfl;obtain rfl := isv hv 3 rfl rfl;obtain rfl := isv hv 4 rfl rfl;obtain rfl := isv hv 5 rfl rfl;obtain rfl := isv hv 6 rfl rfl;obtain rfl := isv hv 7 rfl rfl;obtain rfl := isv hv 8 rfl rfl;obtain rfl := isv hv 9 rfl rfl;obtain rfl := isv hv 10 rfl rfl;obtain rfl := isv hv 11 rfl rfl;obtain rfl := isv hv 12 rfl rfl
           have hx13 : (OneEn u10 x.2.lo (x.1 : Int)) x13_ W := by obtain ⟨z,h1,h2⟩ := hv 13 _ rfl;cases h1;exact h2
           have hx14 : (RowEn wL.heap.size (l1 ++ [(x.2.lo,(x.1 : Int))])) x14_ W := by obtain ⟨z,h1,h2⟩ := hv 14 _ rfl;cases h1;exact h2
           have hx15 : (RowEn wL.heap.size (l1 ++ [(x.2.lo,(x.1 : Int))])) x15_ W := by obtain ⟨z,h1,h2⟩ := hv 15 _ rfl;cases h1;exact h2
           intro L hall hG
           clear hv hlen
           have HO2 := Lib.hid hx15
           have HB2 := Lib.hid hG.2
           clear hG hall hx13 hx14 hx15
           simp only [fill,if_true]
           simp [Act.put]
           go_wp2_with (fail)
           go_roundw
           case rel => exact ⟨i + 1,HIp.out,by go_num,by rw [HSu.out];exact HO2,HB2⟩
           case measure => simp [intOf];omega
         | false =>
          have hip : i = pc := by have := HT.out;simp at this;omega
          have hpl : l1.length = pc := by rw [<- Hl1.out,parK_len R i (by have := HPc.out;have := HRr.out.2.1;omega),hip]
          have hl1e : l1 = parK R pc := by rw [<- Hl1.out,hip]
          obtain ⟨ua,ul,uc,rfl⟩ := own_slice HO.out
          have hul : ul = pc := by have := own_len HO.out;rw [hpl] at this;exact this
          subst hul
          have HO3 := Lib.hid (And.intro HO.out (And.intro hpl hl1e))
          have hpi : (ul : Int) <= 100 := by omega
          have HBx := Lib.hid HB.out
          clear hip hpl hl1e HO HB
          obtain ⟨q,hq⟩ : ∃ q : Bool,((ul : Int) == 1) = q := ⟨_,rfl⟩
          have HQ := Lib.hid (show q = true ↔ ul = 1 from by rw [<- hq];simp;omega)
          go_upto_if 151 with (fail)
          clear hq
          cases q with
          | true =>
           have HF := Lib.hid (show levelsA per lag 16 0 E dk = some d' from by
            rw [HSt2.out,<- HO3.out.2.2,HO3.out.2.1,if_pos (HQ.out.1 rfl)])
           obtain ⟨wX,hwX⟩ : ∃ wX,wr = wX := ⟨_,rfl⟩
           rw [hwX] at HBx ⊢
           have c7 := HC7.out.1
           have cv := HC7.out.2.1
           clear HSt2 HQ hwX
           have HTx := Lib.hid (show ab < wX.heap.size /\ wX.cell? ⟨ab,7,none⟩ = some (.slice (some ⟨vg,0,none⟩) (lv + 1) vc) /\ (lv : Int) <= 15 /\ vg < wX.heap.size /\ wX.cell? ⟨vg,lv,none⟩ = some (.slice (some ⟨rb,0,none⟩) rn cr) from
            ⟨by have := HD1.out.2.2;have := HLx.out.2.2.2.2.1.size;have := HBx.out.size;omega,(HBx.out.cell (p := ⟨ab,7,none⟩) (show ab < wL.heap.size by have := HD1.out.2.2;have := HLx.out.2.2.2.2.1.size;omega)).trans HC7.out.1,hlvi,Nat.lt_of_lt_of_le HC7.out.2.2 HBx.out.size,(HBx.out.cell (p := ⟨vg,lv,none⟩) HC7.out.2.2).trans HC7.out.2.1⟩)
           obtain ⟨x,hx⟩ : ∃ x,R[0]? = some x := ⟨_,List.getElem?_eq_getElem HRr.out.2.2.1⟩
           have hrn1 : 0 < rn := by have := HRr.out;omega
           have HX0 := Lib.hid hx
           clear c7 cv hx
           go_upto_region 31 with (fail)
           refine wp_region_vals [Is (.pointer (some ⟨ab,0,none⟩)),Is (.pointer (some ⟨ab,0,none⟩)),Is (.pointer (some ⟨ab,7,none⟩)),Is (.slice (some ⟨vg,0,none⟩) (lv + 1) vc),Is (.pointer (some ⟨ab,0,none⟩)),Is (.pointer (some ⟨ab,0,none⟩)),Is (.pointer (some ⟨ab,7,none⟩)),Is (.slice (some ⟨vg,0,none⟩) (lv + 1) vc),Is (.int .i64 ((lv : Int) + 1)),Is (.int .i64 (lv : Int)),Is (.pointer (some ⟨vg,lv,none⟩)),Is (.slice (some ⟨rb,0,none⟩) rn cr),Is (.slice (some ⟨rb,0,none⟩) rn cr)]
            (fun _ _ _ => True) (fun _ W => Below wX.heap.size wX W) (by kernel_rfl) (by kernel_rfl) (by kernel_rfl) ?hst ?h0 ⟨?o0,?o1,?o2,?o3,?o4,?o5,?o6,?o7,?o8,?o9,?o10,?o11,?o12,trivial⟩ ?he
           any_goals (intro L vs A W H hf hd K hK)
           case hst => repeat' (first | exact trivial | refine ⟨fun _ _ _ _ _ _ h _ => h,?_⟩)
           case h0 =>
            exact (Below.refl _ wX).drew
           case o0 => have e9 : A.tmps[9]?.getD undef = .pointer (some ⟨ab,0,none⟩) := H.old 9 (by kernel_rfl);go_simp;exact hK _ _ (trivial) rfl (H.glob)
           case o1 => have e152 := H.iz hd 0 152 rfl rfl rfl (by kernel_rfl);go_simp;exact hK _ _ (trivial) rfl (H.glob)
           case o2 => have e153 := H.iz hd 1 153 rfl rfl rfl (by kernel_rfl);go_simp;exact hK _ _ (trivial) rfl (H.glob)
           case o3 => have e154 := H.iz hd 2 154 rfl rfl rfl (by kernel_rfl);have d := (H.glob.cell (p := ⟨ab,7,none⟩) HTx.out.1).trans HTx.out.2.1;go_simp;exact hK _ _ (trivial) rfl (H.glob)
           case o4 => have e9 : A.tmps[9]?.getD undef = .pointer (some ⟨ab,0,none⟩) := H.old 9 (by kernel_rfl);go_simp;exact hK _ _ (trivial) rfl (H.glob)
           case o5 => have e156 := H.iz hd 4 156 rfl rfl rfl (by kernel_rfl);go_simp;exact hK _ _ (trivial) rfl (H.glob)
           case o6 => have e157 := H.iz hd 5 157 rfl rfl rfl (by kernel_rfl);go_simp;exact hK _ _ (trivial) rfl (H.glob)
           case o7 => have e158 := H.iz hd 6 158 rfl rfl rfl (by kernel_rfl);have d := (H.glob.cell (p := ⟨ab,7,none⟩) HTx.out.1).trans HTx.out.2.1;go_simp;exact hK _ _ (trivial) rfl (H.glob)
           case o8 => have e159 := H.iz hd 7 159 rfl rfl rfl (by kernel_rfl);have hx1 := HTx.out.2.2.1;go_simp;exact hK _ _ (trivial) rfl (H.glob)
           case o9 => have e160 := H.iz hd 8 160 rfl rfl rfl (by kernel_rfl);have hx1 := HTx.out.2.2.1;have hw := i64_id (lv : Int) (by omega);go_simp;exact hK _ _ (trivial) rfl (H.glob)
           case o10 =>
            have e155 := H.iz hd 3 155 rfl rfl rfl (by kernel_rfl)
            have e161 := H.iz hd 9 161 rfl rfl rfl (by kernel_rfl)
            have hx1 := HTx.out.2.2.1
            have hx2 : lv < lv + 1 := Nat.lt_succ_self _
            have hx3 : (lv : Int) < (lv : Int) + 1 := by omega
            go_simp
            exact hK _ _ (trivial) rfl (H.glob)
           case o11 => have e162 := H.iz hd 10 162 rfl rfl rfl (by kernel_rfl);have d := (H.glob.cell (p := ⟨vg,lv,none⟩) HTx.out.2.2.2.1).trans HTx.out.2.2.2.2;go_simp;exact hK _ _ (trivial) rfl (H.glob)
           case o12 => have e163 := H.iz hd 11 163 rfl rfl rfl (by kernel_rfl);go_simp;exact hK _ _ (trivial) rfl (H.glob)
           case he =>
            intro vs W hlen hv
            match vs,hlen,hv with
            | [x0_,x1_,x2_,x3_,x4_,x5_,x6_,x7_,x8_,x9_,x10_,x11_,x12_],_,hv =>
            obtain rfl := isv hv 0 rfl rfl;obtain rfl := isv hv 1 rfl rfl;obtain rfl := isv hv 2 rfl rfl;obtain rfl := isv hv 3 rfl rfl;obtain rfl := isv hv 4 rfl rfl;obtain rfl := isv hv 5 rfl rfl;obtain rfl := isv hv 6 rfl rfl;obtain rfl := isv hv 7 rfl rfl;obtain rfl := isv hv 8 rfl rfl;obtain rfl := isv hv 9 rfl rfl;obtain rfl := isv hv 10 rfl rfl;obtain rfl := isv hv 11 rfl rfl;obtain rfl := isv hv 12 rfl rfl
            intro L hall hG
            clear hv hlen
            have HB3 := Lib.hid hG
            clear hG hall
            simp only [fill,if_true]
            simp [Act.put]
            have hB4 := HBx.out.trans (HB3.out.mono HBx.out.size)
            have hA4 := HLx.out.2.1.kept ((Keeps.of_below hB4).mono (fun i hi (e : wL.heap.size <= i) => show False from by omega)) (fun e => e) (fun e => e)
            have hL4 := HLx.out.2.2.1.kept ((Keeps.of_below hB4).mono (fun i hi (e : wL.heap.size <= i) => show False from by omega)) (fun i e => e.elim)
            have hl4 := HLx.out.2.2.2.2.2.1
            have hNN : d'.L.length = N := HNl.out.1
            have hxa : x.1 + 192 <= N := (HNl.out.2 x (List.mem_of_getElem? HX0.out)).2.2
            have hc0 : W.cell? ⟨rb,0,none⟩ = some (.int .u64 (x.1 : Int)) := (hB4.cell (p := ⟨rb,0,none⟩) HRr.out.1.lt).trans ((HRr.out.1.cell (j := 0) (k := 0) HX0.out (by decide)).trans rfl)
            have HP := Lib.hid (bput_v W ab gb N _ d'.L 16 (x.1 : Int) hA4 (by have := HNn.out;omega) (by have := HNn.out;omega) (by omega) (by have := HNn.out;omega))
            have hpl := putAt_len (L := d'.L) (a := 16) (x.1 : Int) (by have := HNn.out;omega)
            have HA4 := Lib.hid (And.intro hA4 (And.intro hL4 (And.intro hB4 hpl)))
            clear hB4 hA4 hL4 hl4 hpl HB3 HTx
            go_upto_region 33 with (go_at_call 30;refine HP.out.mono ?_;rintro e wE ⟨rfl,hAE,hkE⟩)
            have HE := Lib.hid (show BuildP w wE (.returned (.pointer (some ⟨ab,0,none⟩))) slabs keys per lag from by
             have htop : topA d' = x.1 := by
              unfold topA
              rw [HLx.out.2.2.2.2.2.2.1,Nat.add_sub_cancel,HLx.out.2.2.2.2.2.2.2,List.getD_eq_getElem?_getD,HX0.out]
              rfl
             refine .inr ⟨rootL d',ab,gb,N,.slice (some ⟨vg,0,none⟩) (lv + 1) vc,by rw [HBu.out,HF.out];rfl,rfl,?_,?_,?_,?_,HD1.out.2.2.1,HD1.out.2.2.2.1,?_⟩
             ·unfold rootL
              rw [htop]
              exact ArW.putL hAE HA4.out.2.2.2
             ·exact HA4.out.2.1.kept hkE (fun i e => .inr e)
             ·have h1 := HLx.out.2.2.2.2.2.1
              unfold rootL
              rw [htop]
              exact ⟨by dsimp only;rw [HA4.out.2.2.2];exact h1.len,h1.sl,h1.us,h1.va,h1.no,h1.vs,h1.ns⟩
             ·unfold rootL
              rw [htop]
              exact Nat.le_of_eq (HA4.out.2.2.2.trans hNN)
             ·exact Keeps.below ((Keeps.of_below' HD1.out.2.1).trans' ((HLx.out.2.2.2.2.1.trans ((Keeps.of_below HA4.out.2.2.1).mono (fun i hi (e : wL.heap.size <= i) => show i = ab ∨ i = gb from by omega))).trans (hkE.mono (fun i hi e => .inr e))) (fun i hi e => by have := HD1.out.2.2;rcases e with e | e <;> omega)))
            clear hAE hkE HA4
            go_wp2_with (fail)
            go_ret
            exact HE.out
          | false =>
           have hq1 : ¬ ul = 1 := fun h => by have := HQ.out.2 h;cases this
           have hkS : Keeps (fun i => i = ab ∨ i = gb) wL wr := (Keeps.of_below HBx.out).mono (fun i hi (e : wL.heap.size <= i) => show i = ab ∨ i = gb from by omega)
           have hkN : Keeps NoB wL wr := (Keeps.of_below HBx.out).mono (fun i hi (e : wL.heap.size <= i) => show False from by omega)
           have HLn := Lib.hid (show LeR w4 wr ab gb N per lag E dk (lv + 1) (parK R ul) d' (.slice (some ⟨vg,0,none⟩) (lv + 1) vc) (.slice ua ul uc) from
            ⟨by rw [<- HO3.out.2.2];exact own_mono HO3.out.1 HLx.out.2.2.2.2.1.size,
             fun e => by have h1 := HO3.out.2.1;rw [HO3.out.2.2,e] at h1;have := HPc.out.2.2.2;simp at h1;omega,
             by rw [<- HO3.out.2.2,HO3.out.2.1];omega,
             parK_u (by have := HNn.out;omega) HNl.out.2 _,
             HLx.out.2.1.kept hkN (fun e => e) (fun e => e),HLx.out.2.2.2.2.2.1,
             HLx.out.2.2.1.kept hkN (fun i e => e.elim),HLx.out.2.2.2.1,
             ⟨HLx.out.2.2.2.2.2.2.1,by have := Hns.out;omega,HNl.out.1⟩,
             HLx.out.2.2.2.2.1.trans hkS,
             by rw [HSt2.out,<- HO3.out.2.2,HO3.out.2.1,if_neg hq1,show 16 - (lv + 1) = 15 - lv by omega]⟩)
           clear hkS hkN hq1
           go_wp2_with (fail)
           go_roundw
           case rel => exact ⟨lv + 1,_,_,_,by have := Hns.out;omega,by go_num,HLn⟩
           case measure => simp [intOf];omega
end Go.Proofs.YtodgfbjjjgohgaaGreat
