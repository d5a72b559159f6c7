/-
 A NODE AS A VALUE: its cells;loads of a whole block,and of a part of one.
-/
import Derived.Test.YtodgfbjjjgohgaaGreatFcZ
import Derived.Test.YtodgfbjjjgohgaaGreatChecked
import Derived.Laws.Rows
import Derived.Lib.Hide
import Derived.TacticsInMore
import Derived.OwnWalkIn
namespace Go.Proofs.YtodgfbjjjgohgaaGreat
open Go.RowKit Go.Maps Go.WideElems Go.WideShapes
set_option linter.unusedVariables false

/-! . -/
theorem php : ∀ (N : Nat) (l : List Nat),l.Nodup -> (∀ x ∈ l,x < N) -> l.length <= N
 | 0,[],_,_ => Nat.le_refl _
 | 0,x :: l,_,h => absurd (h x (List.mem_cons_self)) (by omega)
 | N + 1,l,hn,h => by
  have h1 := php N (l.erase N) (hn.erase N) (fun x hx => by
   have := h x (List.mem_of_mem_erase hx)
   have hne : x ≠ N := (hn.mem_erase_iff.1 hx).1
   omega)
  have := List.length_erase (a := N) (l := l)
  split at this <;> omega
theorem own_keys {w : World} {ml n : Nat} {D : DataW Value} (h : OwnL w ml n D) : ∃ es,D = .map es /\ es.Pairwise (fun p q => p.1 ≠ q.1) /\ ∀ p ∈ es,∃ x : Int,p.1 = .int .u64 x /\ 0 <= x /\ x <= 18446744073709551615 := by
 obtain ⟨es,clock,hb,F,hs,rfl⟩ := h
 refine ⟨_,rfl,((sorted_perm _).pairwise_iff (fun {_ _} hne => Ne.symm hne)).2 (Maps.fit_apart kA F),fun p hp => ?_⟩
 obtain ⟨x,hx,rfl⟩ := List.mem_map.1 (mem_sorted.1 hp)
 obtain ⟨y,hy⟩ := F.reads x hx
 rw [rg_of hy]
 obtain ⟨x',ex,he,hwx⟩ := Maps.keyOf_int_inv Tryz.underlying39 (rd_key hy)
 refine ⟨x',he,?_⟩
 simp [Lit.wf,IntKind.min,IntKind.max,IntKind.signed,IntKind.bits] at hwx;omega
theorem own_tight {w : World} {ml n : Nat} {D : DataW Value} (h : OwnL w ml n D) {F : Int -> List (Int × Int)} {N : Nat} (hok : LnOk F N) (hh : ∀ a,Maps.has D (.int .u64 a) = true -> F a ≠ []) : OwnL w ml N D := by
 obtain ⟨es,hD,hp,hk⟩ := own_keys h
 have hsz : Maps.size D <= N := by
  subst hD
  rw [size_eq]
  have hkey : ∀ p ∈ es,∃ x : Int,p.1 = .int .u64 x /\ 0 <= x /\ x % 64 = 0 /\ x / 8 < N := by
   intro p hpm
   obtain ⟨x,hx,h0,_⟩ := hk p hpm
   refine ⟨x,hx,h0,?_⟩
   have hhas : Maps.has (.map es) (.int .u64 x) = true := by
    rw [has_eq,List.any_eq_true]
    exact ⟨p,hpm,by rw [hx];simp [Lit.sameKey]⟩
   obtain ⟨q,hq⟩ := List.exists_mem_of_ne_nil _ (hh x hhas)
   obtain ⟨h1,h2,h3⟩ := hok x q hq
   unfold lineOf at h1
   omega
  let f : Lit × DataW Value -> Nat := fun p => match p.1 with | .int _ x => (x / 64).toNat | _ => 0
  have hnd : (es.map f).Nodup := by
   unfold List.Nodup
   rw [List.pairwise_map]
   refine List.Pairwise.imp_of_mem ?_ hp
   intro p q hpm hqm hne e
   obtain ⟨x,hx,hx0,hx1,_⟩ := hkey p hpm
   obtain ⟨y,hy,hy0,hy1,_⟩ := hkey q hqm
   simp only [f,hx,hy] at e
   exact hne (by rw [hx,hy,show x = y by omega])
  have := php N (es.map f) hnd (fun k hkm => by
   obtain ⟨p,hpm,rfl⟩ := List.mem_map.1 hkm
   obtain ⟨x,hx,hx0,hx1,hx2⟩ := hkey p hpm
   simp only [f,hx]
   omega)
  rwa [List.length_map] at this
 obtain ⟨es',clock,hb,F',hs,hD'⟩ := h
 refine ⟨es',clock,hb,F',?_,hD'⟩
 rw [hD',size_eq,length_sorted] at hsz
 simpa using hsz

def MemP (w : World) (mb : Nat) (S : Nat -> Prop) (vs is : List Int) (mk : Int -> Nat -> Int) (F : Int -> List (Int × Int)) (lo st fl fe : Int) : Prop :=
 ∃ N0 vv vi ml D sl,MemC w N0 mb vs is vv vi ml vs.length D sl mk F lo st fl fe /\ N0 <= w.heap.size /\ (∀ i,S i ↔ (i = mb ∨ i = ml ∨ vv.ownBlock = some i ∨ vi.ownBlock = some i ∨ ∃ a,(sl a).ownBlock = some i)) ∧
  0 < vs.length /\ vs.length <= 400000 /\ is.length = vs.length /\ LnOk F vs.length /\ (∀ a,((F a).length : Int) <= st) /\ (∀ a i,0 <= mk a i /\ mk a i <= st) /\ (∀ a,Maps.has D (.int .u64 a) = true -> F a ≠ []) /\ 0 <= st /\ 0 <= fl /\ 0 <= fe
section
variable {w w' : World} {mb : Nat} {S : Nat -> Prop} {vs is : List Int} {mk : Int -> Nat -> Int} {F : Int -> List (Int × Int)} {lo st fl fe : Int}
theorem MemP.lt (h : MemP w mb S vs is mk F lo st fl fe) {i : Nat} (hi : S i) : i < w.heap.size := by
 obtain ⟨N0,vv,vi,ml,D,sl,hm,hN,hS,_⟩ := h
 rcases (hS i).1 hi with h | h | h | h | ⟨a,h⟩
 ·have := hm.lt i (.inl h);omega
 ·have := hm.lt i (.inr (.inl h));omega
 ·have := hm.lt i (.inr (.inr (.inl h)));omega
 ·have := hm.lt i (.inr (.inr (.inr h)));omega
 ·exact (hm.r a).lt h
theorem MemP.pos (h : MemP w mb S vs is mk F lo st fl fe) : 0 < vs.length := by
 obtain ⟨N0,vv,vi,ml,D,sl,hm,hN,hS,h,_⟩ := h
 exact h
theorem MemP.kept (h : MemP w mb S vs is mk F lo st fl fe) {T : Nat -> Prop} (hk : Keeps T w w') (hT : ∀ i,S i -> ¬ T i) : MemP w' mb S vs is mk F lo st fl fe := by
 obtain ⟨N0,vv,vi,ml,D,sl,hm,hN,hS,r⟩ := h
 have hb := hm
 refine ⟨N0,vv,vi,ml,D,sl,?_,Nat.le_trans hN hk.size,hS,r⟩
 exact ⟨hm.m.kept hk (fun i hi => hT i ((hS i).2 (by rcases hi with h | h | h;exact .inl h;exact .inr (.inr (.inl h));exact .inr (.inr (.inr (.inl h)))))),
  ownL_keeps hm.o hk (hT ml ((hS ml).2 (.inr (.inl rfl)))),hm.e,fun a => (hm.r a).keeps hk (fun i hi => hT i ((hS i).2 (.inr (.inr (.inr (.inr ⟨a,hi⟩)))))),hm.d,hm.lt,hm.x,hm.xv⟩
theorem MemP.keptN (h : MemP w mb S vs is mk F lo st fl fe) (hk : Keeps NoB w w') : MemP w' mb S vs is mk F lo st fl fe := h.kept hk (fun _ _ h => h)
theorem MemP.below (h : MemP w mb S vs is mk F lo st fl fe) (hk : Below w.heap.size w w') : MemP w' mb S vs is mk F lo st fl fe := h.keptN (Keeps.of_below' hk)

def MemG (w : World) (mb : Nat) (S : Nat -> Prop) (vs is : List Int) (mk : Int -> Nat -> Int) (F : Int -> List (Int × Int)) (lo st fl fe : Int) (w' : World) : Prop :=
 ∃ S',MemP w' mb S' vs is mk F lo st fl fe /\ (∀ i,S' i -> S i ∨ w.heap.size <= i) /\ Keeps S w w'

theorem load_m (h : MemP w mb S vs is mk F lo st fl fe) (a : Int) (h0 : 0 <= a) (h1 : a <= 18446744073709551615) (he : atE vs.length a = 0) :
  Calls Tryz.prog 52 #[.pointer (some ⟨mb,0,none⟩),.int .u64 a] w fun e w' => e = .returned (.tuple #[.int .u64 (vs.getD (a / 8).toNat 0),.int .i64 0]) /\ MemP w' mb S vs is mk F (IntKind.u64.wrap (lo + 1)) st fl fe /\ Keeps S w w' := by
 obtain ⟨N0,vv,vi,ml,D,sl,hm,hN,hS,hp,hl,r⟩ := h
 refine (mload_yes w mb vs is vv vi ml lo st fl fe hm.m hp (by omega) a h0 h1 he).mono ?_
 rintro e w' ⟨rfl,hm',hk⟩
 refine ⟨rfl,⟨N0,vv,vi,ml,D,sl,?_,Nat.le_trans hN hk.size,hS,hp,hl,r⟩,hk.mono (fun i _ hi => (hS i).2 (.inl hi))⟩
 have hmb := hm.lt mb (.inl rfl)
 exact ⟨hm',ownL_keeps hm.o hk hm.x.1,hm.e,fun a => (hm.r a).keeps hk (fun i hi e => by have := (hm.r a).base i hi;omega),hm.d,hm.lt,hm.x,hm.xv⟩
theorem load_no (h : MemP w mb S vs is mk F lo st fl fe) (a : Int) (h0 : 0 <= a) (h1 : a <= 18446744073709551615) (he : atE vs.length a = 3) :
  Calls Tryz.prog 52 #[.pointer (some ⟨mb,0,none⟩),.int .u64 a] w fun e w' => e = .returned (.tuple #[.int .u64 0,.int .i64 3]) /\ w = w' := by
 obtain ⟨N0,vv,vi,ml,D,sl,hm,hN,hS,hp,hl,r⟩ := h
 exact mload_no w mb vs is vv vi ml lo st fl fe hm.m hp (by omega) a h0 h1 he
theorem size_m (h : MemP w mb S vs is mk F lo st fl fe) : Calls Tryz.prog 48 #[.pointer (some ⟨mb,0,none⟩)] w fun e w' => e = .returned (.int .i64 (8 * (vs.length : Int))) /\ w = w' := by
 obtain ⟨N0,vv,vi,ml,D,sl,hm,hN,hS,hp,hl,r⟩ := h
 exact msize_v w mb vs is vv vi ml lo st fl fe hm.m hp (by omega)
theorem stats_m (h : MemP w mb S vs is mk F lo st fl fe) : Calls Tryz.prog 20 #[.pointer (some ⟨mb,0,none⟩)] w fun e w' => e = .returned (.agg (statCells lo st fl fe)) /\ Below w.heap.size w w' := by
 obtain ⟨N0,vv,vi,ml,D,sl,hm,hN,hS,hp,hl,r⟩ := h
 exact mstats_v w mb vs is vv vi ml lo st fl fe hm.m hp
theorem store_m (h : MemP w mb S vs is mk F lo st fl fe) (a x : Int) (h0 : 0 <= a) (h1 : a <= 18446744073709551615) (he : atE vs.length a = 0) (hs : st <= 1000000) :
  Calls Tryz.prog 15 #[.pointer (some ⟨mb,0,none⟩),.int .u64 a,.int .u64 x] w fun e w' => e = .returned (.int .i64 0) ∧
   MemG w mb S (vs.set (a / 8).toNat x) is mk (updF F (lineOf a) (F (lineOf a) ++ [(a,x)])) lo (st + 1) fl fe w' := by
 obtain ⟨N0,vv,vi,ml,D,sl,hm,hN,hS,hp,hl,hi,hok,hF,hmk,hh,hs0,hf0,hfe⟩ := h
 refine (mstore_k w N0 mb vs is vv vi ml vs.length D sl mk F lo st fl fe hm hN hp (by omega) a x h0 h1 he hs0 hs (by omega) (by have := hF (lineOf a);omega)).mono ?_
 rintro e w' ⟨rfl,v',D',hm',rfl,ho,hk⟩
 obtain ⟨m1,m2⟩ := atE_zero he
 have hok' : LnOk (updF F (lineOf a) (F (lineOf a) ++ [(a,x)])) vs.length := by
  intro b p hpb
  unfold updF at hpb
  split at hpb
  ·rename_i hb
   rw [List.mem_append,List.mem_singleton] at hpb
   rcases hpb with h | rfl
   ·rw [hb];exact hok _ _ h
   ·exact ⟨hb.symm,h0,m2⟩
  ·exact hok _ _ hpb
 have hh' : ∀ b,Maps.has (D.put (.int .u64 (lineOf a)) (.held (.agg (lnCells v' (mk (lineOf a)))))) (.int .u64 b) = true -> updF F (lineOf a) (F (lineOf a) ++ [(a,x)]) b ≠ [] := by
  intro b hb
  unfold updF
  split
  ·simp
  ·rename_i hne
   rw [has_put_other (fun e => hne (by cases e;rfl))] at hb
   exact hh b hb
 refine ⟨rfl,fun i => i = mb ∨ i = ml ∨ vv.ownBlock = some i ∨ vi.ownBlock = some i ∨ ∃ b,(updV sl (lineOf a) v' b).ownBlock = some i,⟨N0,vv,vi,ml,_,_,⟨hm'.m,by rw [List.length_set];exact own_tight hm'.o hok' hh',hm'.e,hm'.r,hm'.d,hm'.lt,hm'.x,hm'.xv⟩,Nat.le_trans hN hk.size,fun i => Iff.rfl,by rw [List.length_set];exact hp,by rw [List.length_set];exact hl,by rw [List.length_set];exact hi,by rw [List.length_set];exact hok',fun b => ?_,fun b i => ?_,hh',by omega,hf0,hfe⟩,fun i hi => ?_,hk.mono (fun i _ hi => (hS i).2 ?_)⟩
 ·unfold updF
  split
  ·rw [List.length_append];have := hF (lineOf a);simp;omega
  ·have := hF b;omega
 ·have := hmk b i;omega
 ·rcases hi with h | h | h | h | ⟨b,h⟩
  ·exact .inl ((hS i).2 (.inl h))
  ·exact .inl ((hS i).2 (.inr (.inl h)))
  ·exact .inl ((hS i).2 (.inr (.inr (.inl h))))
  ·exact .inl ((hS i).2 (.inr (.inr (.inr (.inl h)))))
  ·unfold updV at h
   split at h
   ·rcases ho i h with h | h
    ·exact .inl ((hS i).2 (.inr (.inr (.inr (.inr ⟨_,h⟩)))))
    ·exact .inr h
   ·exact .inl ((hS i).2 (.inr (.inr (.inr (.inr ⟨_,h⟩)))))
 ·rcases hi with h | h | h | h
  ·exact .inl h
  ·exact .inr (.inl h)
  ·exact .inr (.inr (.inl h))
  ·exact .inr (.inr (.inr (.inr ⟨_,h⟩)))
theorem flush_m (h : MemP w mb S vs is mk F lo st fl fe) (c : Nat) (hc : c <= 64) (a : Int) (h0 : 0 <= a) (h1 : a <= 18446744073709551615) (he : atE vs.length a = 0) (hs : st <= 1000000) (hf : fl <= 1000000) :
  Calls Tryz.prog 126 #[.pointer (some ⟨mb,0,none⟩),.int .i64 c,.int .u64 a] w fun e w' => e = .returned (.int .i64 0) ∧
   MemG w mb S vs is (updM mk (lineOf a) (mkS (mk (lineOf a)) c (F (lineOf a)).length)) F lo st (fl + 1) fe w' := by
 obtain ⟨N0,vv,vi,ml,D,sl,hm,hN,hS,hp,hl,hi,hok,hF,hmk,hh,hs0,hf0,hfe⟩ := h
 refine (mflush_c w N0 mb vs is vv vi ml vs.length D sl mk F lo st fl fe hm hN hp (by omega) c hc a h0 h1 he hf0 hf (by omega) (by have := hF (lineOf a);omega)).mono ?_
 rintro e w' ⟨rfl,D',hm',hk,hhas⟩
 have hh' : ∀ b,Maps.has D' (.int .u64 b) = true -> F b ≠ [] := fun b hb => hh b (by rw [<- hhas];exact hb)
 refine ⟨rfl,S,⟨N0,vv,vi,ml,D',sl,⟨hm'.m,own_tight hm'.o hok hh',hm'.e,hm'.r,hm'.d,hm'.lt,hm'.x,hm'.xv⟩,Nat.le_trans hN hk.size,hS,hp,hl,hi,hok,hF,fun b i => ?_,hh',hs0,by omega,hfe⟩,fun i hi => .inl hi,hk.mono (fun i _ hi => (hS i).2 ?_)⟩
 ·unfold updM mkS
  split
  ·show 0 <= (if i = c then _ else _) /\ (if i = c then _ else _) <= st
   split
   ·have := hF (lineOf a);omega
   ·exact hmk _ _
  ·exact hmk _ _
 ·rcases hi with h | h
  ·exact .inl h
  ·exact .inr (.inl h)
theorem fence_m (h : MemP w mb S vs is mk F lo st fl fe) (c : Nat) (hc : c <= 64) (hs : st <= 1000000) (hf : fe <= 1000000) :
  Calls Tryz.prog 127 #[.pointer (some ⟨mb,0,none⟩),.int .i64 c] w fun e w' => e = .returned (.int .i64 0) ∧
   ∃ mk' is',(∀ a i,0 <= mk' a i /\ mk' a i <= mk a i) /\ (∀ a,F a ≠ [] -> ∀ i,mk' a i = mkX F mk c a i) /\ is'.length = is.length /\ (∀ k,is'.getD k 0 = imX is F mk c k) ∧
    MemG w mb S vs is' mk' (FF F mk c) lo st fl (fe + 1) w' := by
 obtain ⟨N0,vv,vi,ml,D,sl,hm,hN,hS,hp,hl,hi,hok,hF,hmk,hh,hs0,hf0,hfe⟩ := h
 refine (mfence_c w N0 mb vs is vv vi ml vs.length D sl mk F lo st fl fe hm hN hp (by omega) c hc hfe hf (by omega) (fun a => by have := hF a;omega) (fun a i => by have := hmk a i;omega) (by rw [hi];exact hok) hh).mono ?_
 rintro e w' ⟨rfl,n',D',sl',mk',is',_,hm',hb,hx,hil,hik,hso,hh',hk⟩
 have hok' : LnOk (FF F mk c) vs.length := fun a p hpa => hok a p (List.mem_of_mem_drop hpa)
 refine ⟨rfl,mk',is',hb,hx,hil,hik,fun i => i = mb ∨ i = ml ∨ vv.ownBlock = some i ∨ vi.ownBlock = some i ∨ ∃ b,(sl' b).ownBlock = some i,⟨N0,vv,vi,ml,D',sl',⟨hm'.m,own_tight hm'.o hok' hh',hm'.e,hm'.r,hm'.d,hm'.lt,hm'.x,hm'.xv⟩,Nat.le_trans hN hk.size,fun i => Iff.rfl,hp,hl,by omega,hok',fun a => ?_,fun a i => ?_,hh',hs0,hf0,by omega⟩,fun i hi => .inl ((hS i).2 ?_),hk.mono (fun i _ hi => (hS i).2 ?_)⟩
 ·have := hF a
  unfold FF
  rw [List.length_drop]
  omega
 ·have := hb a i
  have := hmk a i
  omega
 ·rcases hi with h | h | h | h | ⟨a,h⟩
  ·exact .inl h
  ·exact .inr (.inl h)
  ·exact .inr (.inr (.inl h))
  ·exact .inr (.inr (.inr (.inl h)))
  ·exact .inr (.inr (.inr (.inr ⟨a,hso a i h⟩)))
 ·rcases hi with h | h | h
  ·exact .inl h
  ·exact .inr (.inl h)
  ·exact .inr (.inr (.inr (.inl h)))
theorem MemS.whole {w : World} {N0 mb : Nat} {vs : List Int} {vv vi : Value} {ml : Nat} (h : MemS w N0 mb vs vs vv vi ml 0 (.map []) (fun _ => .slice none 0 0) (fun _ _ => 0) (fun _ => []) 0 0 0 0) (hN : N0 <= w.heap.size) (hp : 0 < vs.length) (hl : vs.length <= 400000) :
  MemP w mb (fun i => i = ml ∨ MS mb vv vi i) vs vs (fun _ _ => 0) (fun _ => []) 0 0 0 0 := by
 refine ⟨N0,vv,vi,ml,_,_,⟨h.m,h.o.mono (Nat.zero_le _),h.e,fun a => .inl (h.r a),h.d,h.lt,h.x,h.xv⟩,hN,fun i => ?_,hp,hl,rfl,(fun a p hq => (by cases hq)),(fun a => by simp),fun a i => ⟨Int.le_refl _,Int.le_refl _⟩,(fun a ha => by simp [Maps.has] at ha),Int.le_refl _,Int.le_refl _,Int.le_refl _⟩
 constructor
 ·rintro (h | h | h | h)
  ·exact .inr (.inl h)
  ·exact .inl h
  ·exact .inr (.inr (.inl h))
  ·exact .inr (.inr (.inr (.inl h)))
 ·rintro (h | h | h | h | ⟨a,h⟩)
  ·exact .inr (.inl h)
  ·exact .inl h
  ·exact .inr (.inr (.inl h))
  ·exact .inr (.inr (.inr h))
  ·cases h
end
end Go.Proofs.YtodgfbjjjgohgaaGreat
namespace Go.Proofs.YtodgfbjjjgohgaaGreat
open Go.RowKit Go.Shelf Go.Maps
attribute [local go_sem] Oper.semAt_some
set_option linter.unusedVariables false

def BAtM (w : World) (p : Option Addr) (L : List UInt8) : Prop := ∀ i,i < L.length -> ∃ g o,p = some ⟨g,o,none⟩ /\ g < w.heap.size /\ w.cell? ⟨g,o + i,none⟩ = some (.int .u8 ((L.getD i 0).toNat : Int))
theorem BAtM.bytes {w : World} {g o : Nat} {L : List UInt8} (h : BAtM w (some ⟨g,o,none⟩) L) : BytesAt w g o L := fun i hi => by
 obtain ⟨g',o',e,_,hc⟩ := h i hi
 cases e
 rw [hc];simp [hi]
theorem chunk_rngM (L : List UInt8) (i : Nat) : 0 <= chunk L i /\ chunk L i <= 18446744073709551615 := by
 have h0 := wd_nonneg ((L.drop (8 * i)).take 8)
 have h1 := wd_lt ((L.drop (8 * i)).take 8)
 have h2 : ((256 ^ ((L.drop (8 * i)).take 8).length : Nat) : Int) <= 18446744073709551616 := by
  have : (256 : Nat) ^ ((L.drop (8 * i)).take 8).length <= 256 ^ 8 := Nat.pow_le_pow_right (by decide) (by simp;omega)
  have e : (256 : Nat) ^ 8 = 18446744073709551616 := by decide
  omega
 unfold chunk
 omega
theorem wordsM_len (L : List UInt8) (N : Nat) : (wordsB L N).length = N := by simp [wordsB]
theorem wd_zero : ∀ n,wd (List.replicate n 0) = 0
 | 0 => rfl
 | n + 1 => by rw [List.replicate_succ,wd,wd_zero n];rfl
theorem wordsM_u64 (L : List UInt8) (N : Nat) : U64s (wordsB L N) := fun x hx => by
 obtain ⟨j,_,rfl⟩ := List.mem_map.1 hx
 exact chunk_rngM L _
structure OfS (w : World) (L : List UInt8) (N : Nat) (e : Ending) (W' : World) : Prop where
 e : e = .returned (.tuple #[.pointer (some ⟨w.heap.size + 1,0,none⟩),.int .i64 0])
 m : ∃ vv vi ml,(∀ N0,W'.heap.size <= N0 -> MemS W' N0 (w.heap.size + 1) (wordsB L N) (wordsB L N) vv vi ml 0 (.map []) (fun _ => .slice none 0 0) (fun _ _ => 0) (fun _ => []) 0 0 0 0) /\ w.heap.size <= ml /\ (∀ i,MS (w.heap.size + 1) vv vi i -> i < W'.heap.size /\ w.heap.size <= i) /\ ml < W'.heap.size
 b : Below w.heap.size w W'
theorem mofS_v (L : List UInt8) (N c : Nat) (p : Option Addr) (w : World) (hN : N <= 200000) (hl : L.length = 8 * N) (hc : L.length <= c) (hb : BAtM w p L) (hm : mayB L.length = true) :
  Calls Tryz.prog 23 #[.slice p L.length c] w (OfS w L N) := by
 have hpos : 0 < L.length := by unfold mayB at hm;have := of_decide_eq_true hm;omega
 obtain ⟨g,o,rfl,hg,_⟩ := hb 0 hpos
 rw [hl] at hm hc ⊢
 refine (callsIn_wide.1 (mof_in L N g o c _ w hN hl hc (fun _ => rfl) (fun _ => hg) hb.bytes hm)).mono ?_
 rintro e W' ⟨vv,vi,rfl,h1,h2,h3,h4,h5,h6⟩
 have hlt : ∀ i,MS (w.heap.size + 1) vv vi i -> i < W'.heap.size /\ w.heap.size <= i := fun i hi => by
  rcases hi with rfl | hi | hi
  ·exact ⟨h1.blk.lt,by omega⟩
  ·exact ⟨own_ltS h1.v hi,by have := h2 i hi;omega⟩
  ·exact ⟨own_ltS h1.i hi,by have := h3 i hi;omega⟩
 have hml : w.heap.size < W'.heap.size := (Array.getElem?_eq_some_iff.1 h5).1
 refine ⟨rfl,⟨vv,vi,w.heap.size,fun N0 hN0 => ⟨h1,⟨#[],0,h5,⟨by simp,Go.MapKept.stamped_empty 0,by simp⟩,Nat.le_refl _,rfl⟩,fun a => rfl,fun a => World.ownsRow_nil _ _ _ _,fun _ _ _ _ h => (by cases h),fun i hi => ?_,⟨by omega,fun h => by have := h2 _ h;omega,fun h => by have := h3 _ h;omega⟩,h4⟩,Nat.le_refl _,hlt,hml⟩,h6⟩
 rcases hi with h | h | h | h
 ·have := (hlt i (.inl h)).1;omega
 ·omega
 ·have := (hlt i (.inr (.inl h))).1;omega
 ·have := (hlt i (.inr (.inr h))).1;omega
end Go.Proofs.YtodgfbjjjgohgaaGreat
namespace Go.Proofs.YtodgfbjjjgohgaaGreat
open Go.RowKit

structure Nd where
 lv : Int
 lo : Int
 nx : Int
 ct : Int
 fi : Int
 k : Nat -> Int
 p : Nat -> Int

structure Nd.Wf (n : Nd) : Prop where
 lv : (Lit.int .i64 n.lv).wf = true
 lo : (Lit.int .u64 n.lo).wf = true
 nx : (Lit.int .u64 n.nx).wf = true
 ct : (Lit.int .u64 n.ct).wf = true
 fi : (Lit.int .u64 n.fi).wf = true
 k : ∀ i,i < 8 -> (Lit.int .u64 (n.k i)).wf = true
 p : ∀ i,i < 8 -> (Lit.int .u64 (n.p i)).wf = true

def u8s (f : Nat -> Int) : List Value := (List.range 8).map (fun i => Value.int .u64 (f i))
def ndCells (n : Nd) : Array Value := ([Value.int .i64 n.lv,.int .u64 n.lo,.int .u64 n.nx,.int .u64 n.ct,.int .u64 n.fi] ++ u8s n.k ++ u8s n.p).toArray
def ptrsA (n : Nd) : Array Value := (u8s n.p).toArray
theorem u8s_get (f : Nat -> Int) (i : Nat) : (u8s f)[i]? = if i < 8 then some (.int .u64 (f i)) else none := by
 unfold u8s
 by_cases h : i < 8 <;> simp [h]
theorem u8s_len (f : Nat -> Int) : (u8s f).length = 8 := by simp [u8s]
theorem ndCells_size (n : Nd) : (ndCells n).size = 21 := by simp [ndCells,u8s_len]
theorem ndCells_0 (n : Nd) : (ndCells n)[0]? = some (.int .i64 n.lv) := by simp [ndCells]
theorem ndCells_1 (n : Nd) : (ndCells n)[1]? = some (.int .u64 n.lo) := by simp [ndCells]
theorem ndCells_2 (n : Nd) : (ndCells n)[2]? = some (.int .u64 n.nx) := by simp [ndCells]
theorem ndCells_3 (n : Nd) : (ndCells n)[3]? = some (.int .u64 n.ct) := by simp [ndCells]
theorem ndCells_4 (n : Nd) : (ndCells n)[4]? = some (.int .u64 n.fi) := by simp [ndCells]
theorem ndCells_k (n : Nd) (i : Nat) (h : i < 8) : (ndCells n)[5 + i]? = some (.int .u64 (n.k i)) := by
 have e : (ndCells n)[5 + i]? = ([Value.int .i64 n.lv,.int .u64 n.lo,.int .u64 n.nx,.int .u64 n.ct,.int .u64 n.fi] ++ (u8s n.k ++ u8s n.p))[5 + i]? := by simp [ndCells]
 rw [e,List.getElem?_append_right (by simp),List.getElem?_append_left (by simp [u8s_len,h])]
 simp [u8s_get,h]
theorem ndCells_p (n : Nd) (i : Nat) (h : i < 8) : (ndCells n)[13 + i]? = some (.int .u64 (n.p i)) := by
 have e : (ndCells n)[13 + i]? = ([Value.int .i64 n.lv,.int .u64 n.lo,.int .u64 n.nx,.int .u64 n.ct,.int .u64 n.fi] ++ (u8s n.k ++ u8s n.p))[13 + i]? := by simp [ndCells]
 rw [e,List.getElem?_append_right (by simp;omega),List.getElem?_append_right (by simp [u8s_len];omega)]
 have e2 : 13 + i - ([Value.int .i64 n.lv,.int .u64 n.lo,.int .u64 n.nx,.int .u64 n.ct,.int .u64 n.fi] : List Value).length - (u8s n.k).length = i := by simp [u8s_len];omega
 rw [e2,u8s_get,if_pos h]
theorem ptrsA_get (n : Nd) (i : Nat) (h : i < 8) : (ptrsA n)[i]? = some (.int .u64 (n.p i)) := by simp [ptrsA,u8s_get,h]
theorem ptrsA_size (n : Nd) : (ptrsA n).size = 8 := by simp [ptrsA,u8s_len]
/-! . -/
section
variable {P : Program}
theorem wpList_load_part {ops : Array Oper} {rest : List Oper} {o : Oper} {a : Act} {w : World} {Q : Exit -> Act -> World -> Prop} (hgd : o.guard = none) (ty : TypeId) (x : Operand) (ho : o.op = .load ty x)
  (g off : Nat) (hx : a.eval x = .pointer (some ⟨g,off,none⟩)) (cs : Array Value) (d : TypeDesc) (hc : ∀ j v,cs[j]? = some v -> w.cell? ⟨g,off + j,none⟩ = some v)
  (hu : P.underlying ty = some d) (hd : (match d with | .struct _ | .array _ _ => true | _ => false) = true) (hi : (P.info? ty).map (·.size) = some cs.size)
  (h : wpList P ops Q rest (a.put o.dst (.agg cs)) w) : wpList P ops Q (o :: rest) a w :=
 wpList_plain hgd fun _ hK => by
  unfold Oper.wp execOp
  simp only [ho,hx,Instr.loadAt,Instr.sureAddr,Sem.run_bind,Sem.run_pure,Result.andThen_ok,run_loadVar_part w g off ty cs d hc hu hd hi]
  exact hK _ _ h
theorem wpListIn_load_part {F : Fence} {nF : Nat} {ops : Array Oper} {rest : List Oper} {o : Oper} {a : Act} {w : World} {Q : Exit -> Act -> World -> Prop} (hgd : o.guard = none) (ty : TypeId) (x : Operand) (ho : o.op = .load ty x)
  (g off : Nat) (hx : a.eval x = .pointer (some ⟨g,off,none⟩)) (cs : Array Value) (d : TypeDesc) (hc : ∀ j v,cs[j]? = some v -> w.cell? ⟨g,off + j,none⟩ = some v)
  (hu : P.underlying ty = some d) (hd : (match d with | .struct _ | .array _ _ => true | _ => false) = true) (hi : (P.info? ty).map (·.size) = some cs.size)
  (h : wpListIn F nF P ops Q rest (a.put o.dst (.agg cs)) w) : wpListIn F nF P ops Q (o :: rest) a w :=
 wpListIn_plain hgd fun _ hK => by
  unfold Oper.wpIn
  refine ⟨by simp [Oper.about,ho],?_⟩
  rw [Oper.semAt_plain F _ _ (by rw [ho];intro c hc';cases hc')]
  unfold execOp
  simp only [ho,hx,Instr.loadAt,Instr.sureAddr,Sem.run_bind,Sem.run_pure,Result.andThen_ok,run_loadVar_part w g off ty cs d hc hu hd hi]
  exact hK _ _ h
theorem run_index_arr (w : World) (t e n : Nat) (cs : Array Value) (kd : IntKind) (i : Nat) (v : Value) (h : P.underlying t = some (.array n e)) (hs : (sizeOf e).run P w = .ok 1 w) (ha : (isAgg e).run P w = .ok false w)
  (hi : i < n) (hv : cs[i]? = some v) : (Instr.index t (.agg cs) (.int kd i)).run P w = .ok v w := by
 simp [Instr.index,asIntOf,run_underlying h,Result.andThen,hi,hs,part,ha,hv]
theorem wpListIn_index_arr {F : Fence} {nF : Nat} {ops : Array Oper} {rest : List Oper} {o : Oper} {a : Act} {w : World} {Q : Exit -> Act -> World -> Prop} (hgd : o.guard = none) (t e n : Nat) (x y : Operand) (ho : o.op = .index t x y)
  (cs : Array Value) (kd : IntKind) (i : Nat) (v : Value) (hx : a.eval x = .agg cs) (hy : a.eval y = .int kd i) (h : P.underlying t = some (.array n e)) (hs : (sizeOf e).run P w = .ok 1 w) (ha : (isAgg e).run P w = .ok false w)
  (hi : i < n) (hv : cs[i]? = some v) (hK : wpListIn F nF P ops Q rest (a.put o.dst v) w) : wpListIn F nF P ops Q (o :: rest) a w :=
 wpListIn_plain hgd fun _ hK' => by
  unfold Oper.wpIn
  refine ⟨by simp [Oper.about,ho],?_⟩
  rw [Oper.semAt_plain F _ _ (by rw [ho];intro c hc';cases hc')]
  simp [execOp,ho,hx,hy,run_index_arr w t e n cs kd i v h hs ha hi hv,Result.andThen]
  exact hK' _ _ hK
end
end Go.Proofs.YtodgfbjjjgohgaaGreat
