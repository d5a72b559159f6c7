/-
 A SNAPSHOT OF A NODE WHEREVER IT STANDS,of a memory that somebody may change: where it stands;one step;what it is at the end. (Plain,but for the words' places.)
-/
import Derived.Test.YtodgfbjjjgohgaaGreatKrZ
import Derived.Test.YtodgfbjjjgohgaaGreatKuZ
namespace Go.Proofs.YtodgfbjjjgohgaaGreat
open Go.RowKit
set_option linter.unusedVariables false

/-! . -/
structure Crs (Wt : Nat -> Nat -> Int) (nx : Int) : Prop where
 back : ∀ i k j,i <= k -> k <= j -> Wt i 3 = Wt j 3 -> ∀ q,q < 24 -> Wt i q = Wt j q -> Wt k q = Wt i q
 nx : ∀ t,Wt t 2 = nx
structure Holds (Wt : Nat -> Nat -> Int) (a nx low : Int) (τ : Nat) (vw : List Int) : Prop where
 wd : ∀ {i},i < 24 -> wdM vw a i = Wt τ i /\ erM vw a i = 0
 bd : nx ≠ 0 -> atE vw.length (wrdA nx 1) = 0 /\ ldW vw (wrdA nx 1) = low
theorem pthB_below {W V : Nat -> Int} {i : Nat} (h : ∀ j,j < i -> W j = V j) : pthB W i = pthB V i := by
 rw [Bool.eq_iff_iff,pthB_iff,pthB_iff]
 constructor
 ·rintro (h1 | h1 | ⟨h1,h2,h3⟩)
  ·exact .inl h1
  ·exact .inr (.inl h1)
  ·exact .inr (.inr ⟨h1,h2,fun j hj h9 ho => by rw [<- h j hj];exact h3 j hj h9 ho⟩)
 ·rintro (h1 | h1 | ⟨h1,h2,h3⟩)
  ·exact .inl h1
  ·exact .inr (.inl h1)
  ·exact .inr (.inr ⟨h1,h2,fun j hj h9 ho => by rw [h j hj];exact h3 j hj h9 ho⟩)
theorem rdW_below {W V : Nat -> Int} {k : Nat} (h3 : W 3 = V 3) (h : ∀ j,j < k -> W j = V j) : rdW W k = rdW V k := by
 funext i
 unfold rdW
 by_cases e : i = 3
 ·subst e;rw [if_pos (.inl rfl),if_pos (.inl rfl),h3]
 ·by_cases hi : i < k
  ·rw [pthB_below (fun j hj => h j (by omega)),h i hi]
  ·rw [if_neg (by rintro (h1 | ⟨_,h1⟩);exact e h1;exact hi h1),if_neg (by rintro (h1 | ⟨_,h1⟩);exact e h1;exact hi h1)]
theorem rdW_path {W V : Nat -> Int} (h3 : W 3 = V 3) (h : ∀ j,j < 24 -> pthB W j = true -> W j = V j) : rdW W 24 = rdW V 24 := by
 have hp : ∀ i,i <= 24 -> pthB W i = pthB V i := by
  intro i hi
  rw [Bool.eq_iff_iff,pthB_iff,pthB_iff]
  constructor
  ·rintro (h1 | h1 | ⟨h1,h2,h4⟩)
   ·exact .inl h1
   ·exact .inr (.inl h1)
   ·refine .inr (.inr ⟨h1,h2,fun j hj h9 ho => ?_⟩)
    rw [<- h j (by omega) ((pthB_iff W j).2 (.inr (.inr ⟨by omega,by omega,fun u hu => h4 u (by omega)⟩)))]
    exact h4 j hj h9 ho
  ·rintro (h1 | h1 | ⟨h1,h2,h4⟩)
   ·exact .inl h1
   ·exact .inr (.inl h1)
   ·refine .inr (.inr ⟨h1,h2,?_⟩)
    intro j
    induction j using Nat.strongRecOn with
    | ind j ih =>
     intro hj h9 ho
     rw [h j (by omega) ((pthB_iff W j).2 (.inr (.inr ⟨by omega,by omega,fun u hu h9u hou => ih u hu (by omega) h9u hou⟩)))]
     exact h4 j hj h9 ho
 funext i
 unfold rdW
 by_cases e : i = 3
 ·subst e;rw [if_pos (.inl rfl),if_pos (.inl rfl),h3]
 by_cases hi : i < 24
 ·rw [hp i (by omega)]
  by_cases hv : pthB V i = true
  ·rw [if_pos (.inr ⟨hv,hi⟩),if_pos (.inr ⟨hv,hi⟩)]
   exact h i hi (by rw [hp i (by omega)];exact hv)
  ·rw [if_neg (by rintro (h1 | ⟨h1,_⟩);exact e h1;exact hv h1),if_neg (by rintro (h1 | ⟨h1,_⟩);exact e h1;exact hv h1)]
 ·rw [if_neg (by rintro (h1 | ⟨_,h1⟩);exact e h1;exact hi h1),if_neg (by rintro (h1 | ⟨_,h1⟩);exact e h1;exact hi h1)]

/-! . -/
def Got (Wt : Nat -> Nat -> Int) (A : Nat -> Int) (kn c T : Nat) : Prop := ∀ j,j < kn -> pthB A j = true -> ∃ t,c <= t /\ t <= T /\ A j = Wt t j
theorem Got.le {Wt : Nat -> Nat -> Int} {A : Nat -> Int} {kn c T T' : Nat} (h : Got Wt A kn c T) (hT : T <= T') : Got Wt A kn c T' := fun j hj hp => by
 obtain ⟨t,a,b,e⟩ := h j hj hp
 exact ⟨t,a,by omega,e⟩
structure WsR (A : Nat -> Int) (s : Sn) (sb kn : Nat) : Prop where
 step : s.step = phV sb 92
 k : s.k = (kn : Int)
 lt : kn < 24
 p : pthB A kn = true
 has : s.has = false
structure WsC (Wt : Nat -> Nat -> Int) (τ0 τ c : Nat) (A : Nat -> Int) : Prop where
 le0 : τ0 <= c
 le : c <= τ
 ct : A 3 = Wt c 3
def WsI (Wt : Nat -> Nat -> Int) (ad low : Int) (τ0 τ : Nat) (sb : Nat) (mv : Option Addr) (i : Nat) (s : Sn) : Prop :=
 SnB mv ad s /\ (
  (s.step = phV sb 88 /\ s.a = (fun _ => 0) /\ s.b = (fun _ => 0) /\ s.k = 0 /\ s.last = false /\ s.has = false /\ i <= 43 * (τ - τ0)) ∨
  (∃ kn c A,WsR A s sb kn /\ WsC Wt τ0 τ c A /\ s.last = false /\ s.a = rdW A kn /\ s.b = rdW A 0 /\ Got Wt A kn c τ /\ i <= 1 + idxK kn + 43 * (c - τ0)) ∨
  (∃ kn c T A,WsR A s sb kn /\ WsC Wt τ0 T c A /\ T <= τ /\ s.last = true /\ s.a = rdW A 24 /\ s.b = rdW A kn /\ Got Wt A 24 c T /\ Got Wt A kn T τ /\ i <= 21 + idxK kn + 43 * (c - τ0)) ∨
  (∃ c T A,s.step = phV sb 95 /\ WsC Wt τ0 T c A /\ T <= τ /\ s.a = rdW A 24 /\ s.b = rdW A 24 /\ Got Wt A 24 c T /\ Got Wt A 24 T τ /\ s.has = false /\ A 2 ≠ 0 /\ i <= 41 + 43 * (c - τ0)) ∨
  (∃ c T A,s.step = phV sb 96 /\ WsC Wt τ0 T c A /\ T <= τ /\ s.a = rdW A 24 /\ s.b = rdW A 24 /\ Got Wt A 24 c T /\ Got Wt A 24 T τ /\ s.has = decide (A 2 ≠ 0) /\ (A 2 ≠ 0 -> s.high = low) /\ i <= 42 + 43 * (c - τ0)))
structure WsD (Wt : Nat -> Nat -> Int) (low : Int) (τ0 τ : Nat) (sb : Nat) (er : Int) (s : Sn) : Prop where
 over : s.over = true
 e : s.e = er
 step : ∃ f,s.step = phV sb f
 res : ∃ T,τ0 <= T /\ T <= τ /\ er = (ofV (rdW (Wt T) 24)).2 /\ s.found = (ofV (rdW (Wt T) 24)).1 /\ s.has = decide (Wt T 2 ≠ 0) /\ (Wt T 2 ≠ 0 -> s.high = low)
def StepWs (Wt : Nat -> Nat -> Int) (ad low : Int) (τ0 τ : Nat) (sb : Nat) (mv : Option Addr) (i : Nat) (d : Bool) (er : Int) (s : Sn) : Prop := (d = false /\ er = 0 /\ WsI Wt ad low τ0 τ sb mv (i + 1) s) ∨ (d = true /\ WsD Wt low τ0 τ sb er s)
section
variable {Wt : Nat -> Nat -> Int} {ad nx low : Int} {τ0 τ : Nat} {sb : Nat} {mv : Option Addr} {i : Nat} {s : Sn} {vw : List Int}
theorem WsI.new (hτ : τ0 <= τ) : WsI Wt ad low τ0 τ sb mv 0 (snNew sb mv ad) := ⟨⟨rfl,rfl,rfl⟩,.inl ⟨rfl,rfl,rfl,rfl,rfl,rfl,by omega⟩⟩
theorem WsI.turn (h : WsI Wt ad low τ0 τ sb mv i s) {τ' : Nat} (hτ : τ <= τ') : WsI Wt ad low τ0 τ' sb mv i s := by
 obtain ⟨hB,h | ⟨kn,c,A,hR,hC,h1,h2,h3,h4,h5⟩ | ⟨kn,c,T,A,hR,hC,hT,h1,h2,h3,h4,h5,h6⟩ | ⟨c,T,A,h0,hC,hT,h1,h2,h3,h4,h5,h6,h7⟩ | ⟨c,T,A,h0,hC,hT,h1,h2,h3,h4,h5,h6,h7⟩⟩ := h
 ·obtain ⟨a1,a2,a3,a4,a5,a6,a7⟩ := h
  exact ⟨hB,.inl ⟨a1,a2,a3,a4,a5,a6,by omega⟩⟩
 ·exact ⟨hB,.inr (.inl ⟨kn,c,A,hR,⟨hC.le0,by have := hC.le;omega,hC.ct⟩,h1,h2,h3,h4.le hτ,h5⟩)⟩
 ·exact ⟨hB,.inr (.inr (.inl ⟨kn,c,T,A,hR,hC,by omega,h1,h2,h3,h4,h5.le hτ,h6⟩))⟩
 ·exact ⟨hB,.inr (.inr (.inr (.inl ⟨c,T,A,h0,hC,by omega,h1,h2,h3,h4.le hτ,h5,h6,h7⟩)))⟩
 ·exact ⟨hB,.inr (.inr (.inr (.inr ⟨c,T,A,h0,hC,by omega,h1,h2,h3,h4.le hτ,h5,h6,h7⟩)))⟩
theorem stepw_ct (hH : Holds Wt ad nx low τ vw) (hτ : τ0 <= τ) (hB : SnB mv ad s) (ha : s.a = (fun _ => 0)) (hb : s.b = (fun _ => 0)) (hk : s.k = 0) (hl : s.last = false) (hh : s.has = false) (hi : i <= 43 * (τ - τ0)) :
  StepWs Wt ad low τ0 τ sb mv i (false || erM vw ad 3 != 0) (erM vw ad 3) (snOver (snCounts sb vw s) false (erM vw ad 3)) := by
 obtain ⟨e1,e0⟩ := hH.wd (show 3 < 24 by decide)
 refine .inl ⟨by rw [e0];decide,e0,⟨hB.mv,hB.at_,by rw [e0];rfl⟩,.inr (.inl ⟨0,τ,Wt τ,⟨rfl,hk,by decide,(pthB_iff _ 0).2 (.inl (by decide)),hh⟩,⟨hτ,Nat.le_refl _,rfl⟩,hl,?_,?_,fun j h => absurd h (by omega),by have := hi;show i + 1 <= 1 + 0 + 43 * (τ - τ0);omega⟩)⟩
 ·show wset s.a 3 (ldW vw (wrdA s.at_ 3)) = _
  rw [ha,hB.at_,show ldW vw (wrdA ad 3) = Wt τ 3 from e1];exact rdW_zero (Wt τ)
 ·show wset s.b 3 (ldW vw (wrdA s.at_ 3)) = _
  rw [hb,hB.at_,show ldW vw (wrdA ad 3) = Wt τ 3 from e1];exact rdW_zero (Wt τ)
theorem stepw_rd1 {kn c : Nat} {A : Nat -> Int} (hH : Holds Wt ad nx low τ vw) (hB : SnB mv ad s) (hR : WsR A s sb kn) (hC : WsC Wt τ0 τ c A) (hl : s.last = false) (ha : s.a = rdW A kn) (hb : s.b = rdW A 0) (hG : Got Wt A kn c τ) (hi : i <= 1 + idxK kn + 43 * (c - τ0)) :
  StepWs Wt ad low τ0 τ sb mv i (false || erM vw ad kn != 0) (erM vw ad kn) (snOver (snReads sb vw s kn) false (erM vw ad kn)) := by
 have hx := idx_le hR.lt
 obtain ⟨ev,e0⟩ := hH.wd hR.lt
 have hk3 : kn ≠ 3 := fun e => by have := hR.p;rw [e,pth_not3] at this;cases this
 obtain ⟨B,hBd⟩ : ∃ B,B = wset A kn (Wt τ kn) := ⟨_,rfl⟩
 have hBn : ∀ j,j ≠ kn -> B j = A j := fun j hj => by rw [hBd];unfold wset;rw [if_neg hj]
 have hBk : B kn = Wt τ kn := by rw [hBd];unfold wset;rw [if_pos rfl]
 have hB3 : B 3 = A 3 := hBn 3 (fun h => hk3 h.symm)
 have hBp : pthB B kn = true := by rw [pthB_below (fun j hj => hBn j (by omega))];exact hR.p
 have ha' : s.a = rdW B kn := by rw [ha];exact (rdW_below hB3 (fun j hj => hBn j (by omega))).symm
 have hb' : s.b = rdW B 0 := by rw [hb];exact (rdW_below hB3 (fun j hj => by omega)).symm
 have hCB : WsC Wt τ0 τ c B := ⟨hC.le0,hC.le,hB3.trans hC.ct⟩
 have hG' : ∀ k',(∀ j,(pthB B j = true /\ j < k') -> ((pthB B j = true /\ j < kn) ∨ j = kn)) -> Got Wt B k' c τ := fun k' hs j hj hp => by
  rcases hs j ⟨hp,hj⟩ with ⟨h1,h2⟩ | h
  ·rw [hBn j (by omega)]
   exact hG j h2 (by rw [<- pthB_below (fun u hu => hBn u (by omega))];exact h1)
  ·subst h
   exact ⟨τ,hC.le,Nat.le_refl _,hBk⟩
 have hsr : snReads sb vw s kn = snGo sb { s with a := wset s.a kn (B kn) } kn (B kn) := by
  unfold snReads
  rw [hB.at_,if_pos (show atE vw.length (wrdA ad kn) = 0 from e0),hl,if_neg (by decide),show ldW vw (wrdA ad kn) = B kn from ev.trans hBk.symm]
 rw [hsr]
 unfold snGo
 by_cases hq : 0 <= aftP kn (B kn)
 ·obtain ⟨k',hqe,hq24,hkq,hqp,hqs⟩ := pth_next hBp hq
  rw [if_pos hq,hqe]
  refine .inl ⟨by rw [e0];decide,e0,⟨hB.mv,hB.at_,by rw [e0];rfl⟩,.inr (.inl ⟨k',c,B,⟨hR.step,rfl,hq24,hqp,hR.has⟩,hCB,hl,?_,hb',hG' k' (fun j h => (hqs j).1 h),by have := hi;rw [idx_next hBp hqe];omega⟩)⟩
  show wset s.a kn (B kn) = _
  rw [ha'];exact rdW_set hqs
 ·obtain ⟨h8,hqs⟩ := pth_last hBp hR.lt hq
  rw [if_neg hq,if_pos hl]
  refine .inl ⟨by rw [e0];decide,e0,⟨hB.mv,hB.at_,by rw [e0];rfl⟩,.inr (.inr (.inl ⟨0,c,τ,B,⟨hR.step,rfl,by decide,(pthB_iff _ 0).2 (.inl (by decide)),hR.has⟩,hCB,Nat.le_refl _,rfl,?_,hb',hG' 24 (fun j h => (hqs j).1 h),fun j hj => absurd hj (by omega),by have := hi;show i + 1 <= 21 + 0 + 43 * (c - τ0);omega⟩))⟩
  show wset s.a kn (B kn) = _
  rw [ha'];exact rdW_set hqs
theorem stepw_rd2 {kn c T : Nat} {A : Nat -> Int} (hH : Holds Wt ad nx low τ vw) (hB : SnB mv ad s) (hR : WsR A s sb kn) (hC : WsC Wt τ0 T c A) (hT : T <= τ) (hl : s.last = true) (ha : s.a = rdW A 24) (hb : s.b = rdW A kn) (hG : Got Wt A 24 c T) (hG2 : Got Wt A kn T τ) (hi : i <= 21 + idxK kn + 43 * (c - τ0)) :
  StepWs Wt ad low τ0 τ sb mv i (false || erM vw ad kn != 0) (erM vw ad kn) (snOver (snReads sb vw s kn) false (erM vw ad kn)) := by
 have hx := idx_le hR.lt
 obtain ⟨ev,e0⟩ := hH.wd hR.lt
 have hak : s.a kn = A kn := by rw [ha];exact rdW_at hR.p hR.lt
 have ha2 : s.a 2 = A 2 := by rw [ha];exact rdW_at ((pthB_iff _ 2).2 (.inl (by decide))) (by decide)
 by_cases hne : Wt τ kn ≠ A kn
 ·have hlt : c < τ := by
   obtain ⟨t,h1,h2,h3⟩ := hG kn hR.lt hR.p
   rcases Nat.lt_or_ge t τ with h | h
   ·omega
   ·obtain rfl : t = τ := by omega
    exact absurd h3.symm hne
  have hsr : snReads sb vw s kn = snAnew sb { s with b := wset s.b kn (Wt τ kn) } := by
   unfold snReads
   rw [hB.at_,if_pos (show atE vw.length (wrdA ad kn) = 0 from e0),hl,if_pos rfl,show ldW vw (wrdA ad kn) = Wt τ kn from ev,hak,if_pos hne]
  rw [hsr,e0]
  exact .inl ⟨by decide,rfl,⟨hB.mv,hB.at_,rfl⟩,.inl ⟨rfl,rfl,rfl,rfl,rfl,rfl,by have := hi;have := hC.le0;omega⟩⟩
 ·have he : Wt τ kn = A kn := Classical.not_not.1 hne
  have hsr : snReads sb vw s kn = snGo sb { s with b := wset s.b kn (A kn) } kn (A kn) := by
   unfold snReads
   rw [hB.at_,if_pos (show atE vw.length (wrdA ad kn) = 0 from e0),hl,if_pos rfl,show ldW vw (wrdA ad kn) = Wt τ kn from ev,hak,if_neg hne,he]
  have hG' : ∀ k',(∀ j,(pthB A j = true /\ j < k') -> ((pthB A j = true /\ j < kn) ∨ j = kn)) -> Got Wt A k' T τ := fun k' hs j hj hp => by
   rcases hs j ⟨hp,hj⟩ with ⟨h1,h2⟩ | h
   ·exact hG2 j h2 h1
   ·subst h
    exact ⟨τ,hT,Nat.le_refl _,he.symm⟩
  rw [hsr]
  unfold snGo
  by_cases hq : 0 <= aftP kn (A kn)
  ·obtain ⟨k',hqe,hq24,hkq,hqp,hqs⟩ := pth_next hR.p hq
   rw [if_pos hq,hqe]
   refine .inl ⟨by rw [e0];decide,e0,⟨hB.mv,hB.at_,by rw [e0];rfl⟩,.inr (.inr (.inl ⟨k',c,T,A,⟨hR.step,rfl,hq24,hqp,hR.has⟩,hC,hT,hl,ha,?_,hG,hG' k' (fun j h => (hqs j).1 h),by have := hi;rw [idx_next hR.p hqe];omega⟩))⟩
   show wset s.b kn (A kn) = _
   rw [hb];exact rdW_set hqs
  ·obtain ⟨h8,hqs⟩ := pth_last hR.p hR.lt hq
   rw [if_neg hq,if_neg (by rw [hl];decide)]
   have hbn : wset s.b kn (A kn) = rdW A 24 := by rw [hb];exact rdW_set hqs
   have hG24 := hG' 24 (fun j h => (hqs j).1 h)
   by_cases hz : A 2 = 0
   ·rw [if_neg (by show ¬ s.a 2 ≠ 0;rw [ha2];exact fun h => h hz)]
    refine .inl ⟨by rw [e0];decide,e0,⟨hB.mv,hB.at_,by rw [e0];rfl⟩,.inr (.inr (.inr (.inr ⟨c,T,A,rfl,hC,hT,ha,hbn,hG,hG24,?_,fun h => absurd hz h,by have := hi;omega⟩)))⟩
    show s.has = _
    rw [hR.has,decide_eq_false (fun h => h hz)]
   ·rw [if_pos (by show s.a 2 ≠ 0;rw [ha2];exact hz)]
    exact .inl ⟨by rw [e0];decide,e0,⟨hB.mv,hB.at_,by rw [e0];rfl⟩,.inr (.inr (.inr (.inl ⟨c,T,A,rfl,hC,hT,ha,hbn,hG,hG24,hR.has,hz,by have := hi;omega⟩)))⟩
theorem stepw_bd {c T : Nat} {A : Nat -> Int} (hH : Holds Wt ad nx low τ vw) (hX : Crs Wt nx) (hB : SnB mv ad s) (hC : WsC Wt τ0 T c A) (hT : T <= τ) (ha : s.a = rdW A 24) (hb : s.b = rdW A 24) (hG : Got Wt A 24 c T) (hG2 : Got Wt A 24 T τ) (hz : A 2 ≠ 0) (hi : i <= 41 + 43 * (c - τ0)) :
  StepWs Wt ad low τ0 τ sb mv i (false || atE vw.length (wrdA (s.a 2) 1) != 0) (atE vw.length (wrdA (s.a 2) 1)) (snOver (snBound sb vw s) false (atE vw.length (wrdA (s.a 2) 1))) := by
 have h2p : pthB A 2 = true := (pthB_iff _ 2).2 (.inl (by decide))
 have hsA : s.a 2 = A 2 := by rw [ha];exact rdW_at h2p (by decide)
 have ha2 : s.a 2 = nx := by
  obtain ⟨t,_,_,h3⟩ := hG 2 (by decide) h2p
  rw [hsA,h3]
  exact hX.nx t
 obtain ⟨e0,e1⟩ := hH.bd (by rw [<- ha2,hsA];exact hz)
 have hbh : (snBound sb vw s).high = low := by
  show ldW vw (wrdA (s.a 2) 1) = low
  rw [ha2];exact e1
 rw [ha2,e0]
 exact .inl ⟨by decide,rfl,⟨hB.mv,hB.at_,rfl⟩,.inr (.inr (.inr (.inr ⟨c,T,A,rfl,hC,hT,ha,hb,hG,hG2,by rw [decide_eq_true hz];rfl,fun _ => hbh,by have := hi;omega⟩)))⟩
theorem stepw_ag {c T : Nat} {A : Nat -> Int} (hH : Holds Wt ad nx low τ vw) (hX : Crs Wt nx) (hB : SnB mv ad s) (hst : s.step = phV sb 96) (hC : WsC Wt τ0 T c A) (hT : T <= τ) (ha : s.a = rdW A 24) (hb : s.b = rdW A 24) (hG : Got Wt A 24 c T) (hG2 : Got Wt A 24 T τ) (hh : s.has = decide (A 2 ≠ 0)) (hhi : A 2 ≠ 0 -> s.high = low) (hi : i <= 42 + 43 * (c - τ0)) :
  StepWs Wt ad low τ0 τ sb mv i ((snAgain sb vw s).1 || (snAgain sb vw s).2.1 != 0) (snAgain sb vw s).2.1 (snOver (snAgain sb vw s).2.2 (snAgain sb vw s).1 (snAgain sb vw s).2.1) := by
 obtain ⟨ev,e0⟩ := hH.wd (show 3 < 24 by decide)
 have hag : agBad vw s = (Wt τ 3 != A 3) := by
  unfold agBad
  rw [hB.at_,ha,hb,rdW_3,eqWd_self,show ldW vw (wrdA ad 3) = Wt τ 3 from ev]
  simp
 by_cases hne : Wt τ 3 = A 3
 ·have hag0 : agBad vw s = false := by rw [hag,hne];simp
  have hsa : snAgain sb vw s = (true,(ofV (rdW A 24)).2,{ s with found := (ofV (rdW A 24)).1 }) := by
   unfold snAgain
   rw [hB.at_,if_pos (show atE vw.length (wrdA ad 3) = 0 from e0),hag0,if_neg (by decide),ha]
  have hcT := hC.le
  have h3 : ∀ t,c <= t -> t <= τ -> Wt t 3 = Wt c 3 := fun t h1 h2 => hX.back c t τ h1 h2 (by rw [hne];exact hC.ct.symm) 3 (by decide) (by rw [hne];exact hC.ct.symm)
  have hA : ∀ j,j < 24 -> pthB A j = true -> A j = Wt T j := fun j hj hp => by
   obtain ⟨t,t1,t2,t3⟩ := hG j hj hp
   obtain ⟨u,u1,u2,u3⟩ := hG2 j hj hp
   have := hX.back t T u t2 u1 (by rw [h3 t t1 (by omega),h3 u (by omega) u2]) j hj (by rw [<- t3,<- u3])
   rw [t3,this]
  have hr : rdW A 24 = rdW (Wt T) 24 := rdW_path (by rw [hC.ct,h3 T hC.le hT]) hA
  have h2 : A 2 = Wt T 2 := hA 2 (by decide) ((pthB_iff _ 2).2 (.inl (by decide)))
  rw [hsa]
  refine .inr ⟨by simp,⟨by simp [snOver],rfl,⟨_,hst⟩,T,by have := hC.le0;omega,hT,?_⟩⟩
  rw [<- hr,<- h2]
  exact ⟨rfl,rfl,hh,hhi⟩
 ·have hlt : c < τ := by
   have h1 := hC.le
   rcases Nat.lt_or_ge c τ with h | h
   ·exact h
   ·exact absurd (by rw [hC.ct,show c = τ by omega]) hne
  have hag1 : agBad vw s = true := by rw [hag];simpa using hne
  have hsa : snAgain sb vw s = (false,0,snAnew sb s) := by
   unfold snAgain
   rw [hB.at_,if_pos (show atE vw.length (wrdA ad 3) = 0 from e0),hag1,if_pos rfl]
  rw [hsa]
  exact .inl ⟨by simp,rfl,⟨hB.mv,hB.at_,rfl⟩,.inl ⟨rfl,rfl,rfl,rfl,rfl,rfl,by have := hC.le0;omega⟩⟩
end
theorem WsI.le {Wt : Nat -> Nat -> Int} {ad low : Int} {τ0 τ : Nat} {sb : Nat} {mv : Option Addr} {i : Nat} {s : Sn} (h : WsI Wt ad low τ0 τ sb mv i s) (hτ : τ0 <= τ) : i <= 42 + 43 * (τ - τ0) := by
 obtain ⟨_,h | ⟨kn,_,_,hR,hC,_,_,_,_,h⟩ | ⟨kn,_,_,_,hR,hC,hT,_,_,_,_,_,h⟩ | ⟨_,_,_,_,hC,hT,_,_,_,_,_,_,h⟩ | ⟨_,_,_,_,hC,hT,_,_,_,_,_,_,h⟩⟩ := h
 ·have := h.2.2.2.2.2.2;omega
 ·have := idx_le hR.lt;have := hC.le;omega
 ·have := idx_le hR.lt;have := hC.le;omega
 ·have := hC.le;omega
 ·have := hC.le;omega
theorem rdW_u64W {A : Nat -> Int} {k : Nat} (h3 : 0 <= A 3 /\ A 3 <= 18446744073709551615) (h : ∀ j,j < k -> pthB A j = true -> 0 <= A j /\ A j <= 18446744073709551615) (j : Nat) : 0 <= rdW A k j /\ rdW A k j <= 18446744073709551615 := by
 unfold rdW
 split
 ·rename_i hc
  rcases hc with rfl | ⟨h1,h2⟩
  ·exact h3
  ·exact h j h2 h1
 ·omega
theorem Got.u64 {Wt : Nat -> Nat -> Int} (hU : ∀ t q,0 <= Wt t q /\ Wt t q <= 18446744073709551615) {A : Nat -> Int} {kn c T : Nat} (h : Got Wt A kn c T) (h3 : A 3 = Wt c 3) (j : Nat) : 0 <= rdW A kn j /\ rdW A kn j <= 18446744073709551615 :=
 rdW_u64W (by rw [h3];exact hU c 3) (fun j hj hp => by obtain ⟨t,_,_,e⟩ := h j hj hp;rw [e];exact hU t j) j
set_option maxRecDepth 100000 in
theorem step_ws {Wt : Nat -> Nat -> Int} {ad nx low : Int} {τ0 τ : Nat} (w : World) (s : Sn) (sb mb : Nat) (S : Nat -> Prop) (vw is : List Int) (mk : Int -> Nat -> Int) (F : Int -> List (Int × Int)) (lo st fl fe : Int) (i : Nat)
  (hX : Crs Wt nx) (hτ : τ0 <= τ) (hH : Holds Wt ad nx low τ vw)
  (hb : Blk w sb (snCells s) 164) (hm : MemP w mb S vw is mk F lo st fl fe) (hS : ¬ S sb) (hI : WsI Wt ad low τ0 τ sb (some ⟨mb,0,none⟩) i s) (hU : ∀ t q,0 <= Wt t q /\ Wt t q <= 18446744073709551615) :
  ∃ d er s' lo',StepWs Wt ad low τ0 τ sb (some ⟨mb,0,none⟩) i d er s' /\ Calls Tryz.prog 124 #[.pointer (some ⟨sb,0,none⟩)] w (SnP w sb mb S vw is mk F st fl fe d er s' lo') := by
 obtain ⟨hB,h | ⟨kn,c,A,hR,hC,h1,h2,h3,h4,h5⟩ | ⟨kn,c,T,A,hR,hC,hT,h1,h2,h3,h4,h5,h6⟩ | ⟨c,T,A,h0,hC,hT,h1,h2,h3,h4,h5,h6,h7⟩ | ⟨c,T,A,h0,hC,hT,h1,h2,h3,h4,h5,h6,h7⟩⟩ := hI
 ·obtain ⟨hst,ha,hb',hk,hl,hh,hi⟩ := h
  refine ⟨_,_,_,_,?_,step_counts w s sb mb S vw is mk F lo st fl fe _ _ _ _ hb hm hS hB.mv hst hB.over (counts_v w s sb mb S vw is mk F lo st fl fe hb hm hS hB.mv)⟩
  rw [hB.at_]
  exact stepw_ct hH hτ hB ha hb' hk hl hh hi
 ·refine ⟨_,_,_,_,?_,step_reads w s sb mb S vw is mk F lo st fl fe _ _ _ _ hb hm hS hB.mv hR.step hB.over (reads_v w s kn sb mb S vw is mk F lo st fl fe hb hm hS hB.mv hR.k hR.lt)⟩
  rw [hB.at_]
  exact stepw_rd1 hH hB hR hC h1 h2 h3 h4 h5
 ·refine ⟨_,_,_,_,?_,step_reads w s sb mb S vw is mk F lo st fl fe _ _ _ _ hb hm hS hB.mv hR.step hB.over (reads_v w s kn sb mb S vw is mk F lo st fl fe hb hm hS hB.mv hR.k hR.lt)⟩
  rw [hB.at_]
  exact stepw_rd2 hH hB hR hC hT h1 h2 h3 h4 h5 h6
 ·exact ⟨_,_,_,_,stepw_bd hH hX hB hC hT h1 h2 h3 h4 h6 h7,step_bound w s sb mb S vw is mk F lo st fl fe _ _ _ _ hb hm hS hB.mv h0 hB.over (bound_v w s sb mb S vw is mk F lo st fl fe hb hm hS hB.mv)⟩
 ·exact ⟨_,_,_,_,stepw_ag hH hX hB h0 hC hT h1 h2 h3 h4 h5 h6 h7,step_again w s sb mb S vw is mk F lo st fl fe _ _ _ _ hb hm hS hB.mv h0 hB.over (again_v w s sb mb S vw is mk F lo st fl fe hb hm hS hB.mv (by rw [h1];exact h3.u64 hU hC.ct 0))⟩
end Go.Proofs.YtodgfbjjjgohgaaGreat
