/-
 WHAT STANDS IN AN ARENA THAT IS BUILT: headers,nodes,each where it is laid. (Plain.)
-/
import Derived.Test.YtodgfbjjjgohgaaGreatKmZ
namespace Go.Proofs.YtodgfbjjjgohgaaGreat
open Go.RowKit Go.Maps
attribute [local go_sem] Oper.semAt_some
set_option linter.unusedVariables false

set_option maxRecDepth 100000 in
theorem locknew_v (c : Nat) (h : 1 <= c /\ c <= 64) (w : World) : Calls Tryz.prog 50 #[.int .i64 (c : Int)] w fun e w' => ∃ lb,e = .returned (.tuple #[.pointer (some ⟨lb,0,none⟩),.int .i64 0]) /\ Below w.heap.size w w' := by
 have b1 : ¬ (c : Int) < 1 := by omega
 have b2 : ¬ (64 : Int) < (c : Int) := by omega
 have b3 : ¬ c < 1 := by omega
 have b4 : ¬ 64 < c := by omega
 have hmm := @run_makeMap Tryz.prog
 clear h
 go_enter Tryz.func50,Tryz.ntmps50
 go_wp2_with (fail)
 go_ret2
 exact ⟨⟨_,rfl⟩,((Below.refl _ w).alloc (Nat.le_refl _) _).alloc (by rw [World.size_alloc];omega) _⟩
theorem sthere_v (w : World) (sb hb N sl : Nat) (f : Nat -> Nat) (mb : Nat) (h : Blk w sb (slC N hb sl f mb) 115) (hs : sl <= 64) : Calls Tryz.prog 69 #[.pointer (some ⟨sb,0,none⟩)] w fun e w' => e = .returned (.bool true) /\ w = w' := by
 obtain ⟨n1,hn1⟩ : ∃ n1,1 + sl = n1 := ⟨_,rfl⟩
 have c1 : w.cell? ⟨sb,1,none⟩ = some (.slice (some ⟨hb,0,none⟩) n1 n1) := by rw [<- hn1];exact (h.cell 1).trans rfl
 have b1 : 0 < n1 := by omega
 have b2 : (n1 : Int) <= 65 := by omega
 clear h hn1
 go_enter Tryz.func69,Tryz.ntmps69
 go_wp2_with (fail)
 go_ret
 exact ⟨rfl,rfl⟩
theorem sslabs_v (w : World) (sb hb N sl : Nat) (f : Nat -> Nat) (mb : Nat) (h : Blk w sb (slC N hb sl f mb) 115) (hs : sl <= 64) : Calls Tryz.prog 49 #[.pointer (some ⟨sb,0,none⟩)] w fun e w' => e = .returned (.int .i64 (sl : Int)) /\ w = w' := by
 have HT := Lib.hid (sthere_v w sb hb N sl f mb h hs)
 obtain ⟨n1,hn1⟩ : ∃ n1,1 + sl = n1 := ⟨_,rfl⟩
 have c1 : w.cell? ⟨sb,1,none⟩ = some (.slice (some ⟨hb,0,none⟩) n1 n1) := by rw [<- hn1];exact (h.cell 1).trans rfl
 have b2 : (n1 : Int) <= 65 := by omega
 have b3 : (n1 : Int) - 1 = (sl : Int) := by omega
 have hw : IntKind.i64.wrap (sl : Int) = (sl : Int) := i64_id _ (by omega)
 clear h hn1 hs
 go_enter Tryz.func49,Tryz.ntmps49
 go_wp2_with (go_at_call 69;refine HT.out.mono ?_;rintro e w1 ⟨rfl,rfl⟩)
 go_ret
 exact ⟨rfl,rfl⟩
def MemZ (w : World) (mb : Nat) (S : Nat -> Prop) (vs : List Int) : Prop := MemP w mb S vs vs (fun _ _ => 0) (fun _ => []) 0 0 0 0
set_option maxRecDepth 100000 in
set_option maxHeartbeats 4000000 in
theorem sitenew_v (w : World) (mb : Nat) (S : Nat -> Prop) (vs : List Int) (sb hb N sl c : Nat) (f : Nat -> Nat) (pb : Nat) (hm : MemZ w mb S vs) (hs : Blk w sb (slC N hb sl f pb) 115) (hsl : 1 <= sl /\ sl <= 16) (hv : vs.length = 128 * (sl + 1)) (hc : 1 <= c /\ c <= 64) :
  Calls Tryz.prog 25 #[.pointer (some ⟨mb,0,none⟩),.pointer (some ⟨sb,0,none⟩),.int .i64 (c : Int)] w fun e w' => ∃ xb C,e = .returned (.tuple #[.pointer (some ⟨xb,0,none⟩),.int .i64 0]) /\ Blk w' xb C 88 /\ C[0]? = some (.pointer (some ⟨mb,0,none⟩)) /\ w.heap.size <= xb /\ Below w.heap.size w w' := by
 have HM := Lib.hid (show ∀ W,Below w.heap.size w W -> Calls Tryz.prog 48 #[.pointer (some ⟨mb,0,none⟩)] W fun e w' => e = .returned (.int .i64 ((1024 * (sl + 1) : Nat) : Int)) /\ W = w' from fun W hB => by
  have h1 := size_m (hm.kept (Keeps.of_below' hB) (fun _ _ e => e))
  rw [hv,show 8 * ((128 * (sl + 1) : Nat) : Int) = ((1024 * (sl + 1) : Nat) : Int) by omega] at h1
  exact h1)
 have HS := Lib.hid (fun W (hB : Below w.heap.size w W) => sslabs_v W sb hb N sl f pb (hs.kept (Keeps.of_below' hB) (fun e => e)) (by omega))
 have HL := Lib.hid (fun W => locknew_v c hc W)
 have HG := Lib.hid (fun W => gsize_v sl ⟨hsl.1,by omega⟩ W)
 obtain ⟨M,hM⟩ : ∃ M,1024 * (sl + 1) = M := ⟨_,rfl⟩
 rw [hM] at HM HG
 have h0 : ((M : Int) == 0) = false := by simp;omega
 have h1 : ((sl : Int) == 0) = false := by simp;omega
 have hB0 := Lib.hid (Below.refl w.heap.size w)
 clear hm hs hsl hv hc hM
 go_enter Tryz.func25,Tryz.ntmps25
 go_upto_region 3 with (first
  | (go_at_call 48;refine (HM.out w hB0.out).mono ?_;rintro e w1 ⟨rfl,rfl⟩)
  | (go_at_call 49;refine (HS.out w hB0.out).mono ?_;rintro e w1 ⟨rfl,rfl⟩))
 go_upto_region 4 with (go_at_call 50;refine (HL.out w).mono ?_;rintro e w1 ⟨lb,rfl,hB1⟩;have HB1 := Lib.hid hB1;clear hB1)
 go_upto_region 6 with (first
  | (go_at_call 48;refine (HM.out w1 HB1.out).mono ?_;rintro e w2 ⟨rfl,rfl⟩)
  | (go_at_call 49;refine (HS.out w1 HB1.out).mono ?_;rintro e w2 ⟨rfl,rfl⟩)
  | (go_at_call 51;refine (HG.out w1).mono ?_;rintro e w2 ⟨rfl,rfl⟩))
 go_wp2_with (fail)
 go_ret2
 exact ⟨_,_,rfl,Blk.new w1 _ _,rfl,HB1.out.size,HB1.out.alloc HB1.out.size _⟩
end Go.Proofs.YtodgfbjjjgohgaaGreat
namespace Go.Proofs.YtodgfbjjjgohgaaGreat
open Go.RowKit Go.Maps
attribute [local go_sem] Oper.semAt_some
set_option linter.unusedVariables false

structure OnS (w w' : World) (xb mb : Nat) (S : Nat -> Prop) (L : List UInt8) (sl : Nat) : Prop where
 x : ∃ C,Blk w' xb C 88 /\ C[0]? = some (.pointer (some ⟨mb,0,none⟩))
 m : MemZ w' mb S (wordsB L (128 * (sl + 1)))
 lo : ∀ i,S i -> w.heap.size <= i
 xl : w.heap.size <= xb
 ne : ¬ S xb
 b : Below w.heap.size w w'
def OnP (w w' : World) (e : Ending) (L : List UInt8) (sl : Nat) : Prop := ∃ xb mb S,e = .returned (.pointer (some ⟨xb,0,none⟩)) /\ OnS w w' xb mb S L sl
def OfZ (w w' : World) (e : Ending) (L : List UInt8) (sl : Nat) : Prop := ∃ mb S,e = .returned (.tuple #[.pointer (some ⟨mb,0,none⟩),.int .i64 0]) /\ MemZ w' mb S (wordsB L (128 * (sl + 1))) /\ (∀ i,S i -> w.heap.size <= i) /\ Below w.heap.size w w'
theorem memOf_v (w : World) (gb cb : Nat) (L : List UInt8) (sl : Nat) (hI : ImgOk L sl) (hc : L.length <= cb) (hg : gb < w.heap.size) (hb : BytesAt w gb 0 L) :
  Calls Tryz.prog 23 #[.slice (some ⟨gb,0,none⟩) L.length cb] w fun e w' => OfZ w w' e L sl := by
 obtain ⟨h1,h2,h3,h4⟩ := hI
 refine (mofS_v L (128 * (sl + 1)) cb _ w (by omega) (by omega) hc (fun i hi => ⟨gb,0,rfl,hg,?_⟩) ?_).mono ?_
 ·rw [hb i hi];simp [hi]
 ·exact decide_eq_true ⟨by omega,by omega,by omega⟩
 ·rintro e w' ⟨rfl,⟨vv,vi,ml,hm,hl,hMS,hml⟩,hB⟩
  refine ⟨_,_,rfl,(hm _ (Nat.le_refl _)).whole (Nat.le_refl _) (by rw [wordsM_len];omega) (by rw [wordsM_len];omega),fun i hi => ?_,hB⟩
  rcases hi with rfl | hi
  ·exact hl
  ·exact (hMS i hi).2
set_option maxRecDepth 100000 in
set_option maxHeartbeats 4000000 in
theorem on_v (w : World) (gb cb : Nat) (L : List UInt8) (sl c : Nat) (hI : ImgOk L sl) (hcb : L.length <= cb) (hg : gb < w.heap.size) (hb : BytesAt w gb 0 L) (hc : 1 <= c /\ c <= 64) :
  Calls Tryz.prog 9 #[.slice (some ⟨gb,0,none⟩) L.length cb,.int .i64 (c : Int)] w fun e w' => OnP w w' e L sl := by
 have HM := Lib.hid (memOf_v w gb cb L sl hI hcb hg hb)
 have HS := Lib.hid (fun W (hB : Below w.heap.size w W) => slabOf_v W gb cb L sl hI (fun i hi => (hB.cell (p := ⟨gb,0 + i,none⟩) hg).trans (hb i hi)))
 have HN := Lib.hid (fun W mb S sb hb f pb (hm : MemZ W mb S (wordsB L (128 * (sl + 1)))) (hs : Blk W sb (slC L.length hb sl f pb) 115) => sitenew_v W mb S _ sb hb L.length sl c f pb hm hs ⟨hI.1,hI.2.1⟩ (wordsM_len _ _) hc)
 clear hI hcb hb hc
 obtain ⟨n,hn⟩ : ∃ n,L.length = n := ⟨_,rfl⟩
 rw [hn] at HM HS HN ⊢
 clear hn
 go_enter Tryz.func9,Tryz.ntmps9
 go_wp2_with (fail)
 refine HM.out.mono ?_
 rintro e w1 ⟨mb,S,rfl,hm1,hS1,hB1⟩
 have H1 := Lib.hid (And.intro hm1 (And.intro hS1 hB1))
 have HSz := Lib.hid hB1.size
 clear hm1 hS1 hB1
 go_wp2_with (fail)
 refine (HS.out w1 H1.out.2.2).mono ?_
 rintro e w2 ⟨sb,hb,pb,f,rfl,hs2,hl2,hB2⟩
 have H2 := Lib.hid (And.intro hs2 (And.intro hl2 hB2))
 clear hs2 hl2 hB2
 go_wp2_with (fail)
 refine (HN.out w2 mb S sb hb f pb (H1.out.1.kept (Keeps.of_below' H2.out.2.2) (fun _ _ e => e)) H2.out.1).mono ?_
 rintro e w3 ⟨xb,C,rfl,hx,hC,hl3,hB3⟩
 have H3 := Lib.hid (And.intro hx (And.intro hC (And.intro hl3 hB3)))
 clear hx hC hl3 hB3
 go_wp2_with (fail)
 go_ret
 have h1 := H1.out.2.2
 have h2 := H2.out.2.2
 have h3 := H3.out.2.2.2
 refine ⟨xb,mb,S,rfl,⟨C,H3.out.1,H3.out.2.1⟩,(H1.out.1.kept (Keeps.of_below' h2) (fun _ _ e => e)).kept (Keeps.of_below' h3) (fun _ _ e => e),H1.out.2.1,?_,fun hS => ?_,?_⟩
 ·have := h1.size;have := h2.size;have := H3.out.2.2.1;omega
 ·have := MemP.lt H1.out.1 hS;have := h2.size;have := H3.out.2.2.1;omega
 ·exact (h1.trans (h2.mono h1.size)).trans (h3.mono (Nat.le_trans h1.size h2.size))
end Go.Proofs.YtodgfbjjjgohgaaGreat
namespace Go.Proofs.YtodgfbjjjgohgaaGreat
open Go.RowKit
set_option linter.unusedVariables false

/-! . -/
structure ArI (d : AD) (kd cn : Nat -> Nat) : Prop where
 ok : ArOk d
 h0 : ∀ s,1 <= s -> s <= d.slabs -> chunk d.L (128 * s) = (kd s : Int)
 h1 : ∀ s,1 <= s -> s <= d.slabs -> chunk d.L (128 * s + 1) = ((2 ^ cn s - 1 : Nat) : Int)
 kz : ∀ s,d.used < s -> kd s = 0 /\ cn s = 0
 k0 : kd 0 = 0
 kk : ∀ s,(kd s = 0 /\ cn s = 0) ∨ (kd s = 1 /\ cn s <= 15) ∨ (kd s = 3 /\ cn s <= 5)
 va : d.value ≠ 0 -> kd d.value = 1 /\ cn d.value = d.values
 no : d.node ≠ 0 -> kd d.node = 3 /\ cn d.node = d.nodes
def Bod (i : Nat) : Prop := i < 128 ∨ 8 <= i % 128
def NSlot (kd cn : Nat -> Nat) (a : Nat) : Prop := ∃ s j,kd s = 3 /\ j < cn s /\ a = 1024 * s + 64 + 192 * j
theorem ArI.slot {d : AD} {kd cn : Nat -> Nat} (h : ArI d kd cn) {a : Nat} (ha : NSlot kd cn a) : ∃ s j,a = 1024 * s + 64 + 192 * j /\ 1 <= s /\ s <= d.used /\ j <= 4 /\ kd s = 3 /\ j < cn s := by
 obtain ⟨s,j,h1,h2,h3⟩ := ha
 refine ⟨s,j,h3,?_,?_,?_,h1,h2⟩
 ·rcases Nat.eq_zero_or_pos s with e | e
  ·subst e;rw [h.k0] at h1;cases h1
  ·exact e
 ·rcases Nat.lt_or_ge d.used s with e | e
  ·rw [(h.kz s e).1] at h1;cases h1
  ·exact e
 ·rcases h.kk s with ⟨e,_⟩ | ⟨e,_⟩ | ⟨_,e⟩
  ·rw [e] at h1;cases h1
  ·rw [e] at h1;cases h1
  ·omega
theorem slabA_st {d : AD} {kd cn : Nat -> Nat} (h : ArI d kd cn) (c : Nat) (hu : d.used ≠ d.slabs) (hc : c = 1 ∨ c = 3) :
  (slabA d c).1 = d.used + 1 /\ ∃ d1,d1 = (slabA d c).2 /\ d1.slabs = d.slabs /\ d1.used = d.used + 1 /\ d1.value = d.value /\ d1.values = d.values /\ d1.node = d.node /\ d1.nodes = d.nodes /\ d1.lv = d.lv ∧
   ArI d1 (fun s => if s = d.used + 1 then c else kd s) cn /\ kd (d.used + 1) = 0 /\ cn (d.used + 1) = 0 /\ (∀ i,Bod i -> chunk d1.L i = chunk d.L i) := by
 have hok := (slabA_ok h.ok (c : Int)).1
 have e : slabA d c = (d.used + 1,{ d with used := d.used + 1,L := putAt d.L (1024 * (d.used + 1)) c }) := by unfold slabA;rw [if_neg hu]
 rw [e] at hok ⊢
 have hus := h.ok.us
 have hln := h.ok.len
 have hz := h.kz (d.used + 1) (by omega)
 have hch : ∀ i,chunk (putAt d.L (1024 * (d.used + 1)) (c : Int)) i = if i = 128 * (d.used + 1) then (c : Int) else chunk d.L i := by
  intro i
  rw [show 1024 * (d.used + 1) = 8 * (128 * (d.used + 1)) by omega]
  exact chunk_put (by omega) (by omega) (by rcases hc with rfl | rfl <;> decide) i
 refine ⟨rfl,_,rfl,rfl,rfl,rfl,rfl,rfl,rfl,rfl,⟨hok,?_,?_,?_,?_,?_,?_,?_⟩,hz.1,hz.2,?_⟩
 ·intro s h1 h2
  show chunk (putAt d.L _ _) _ = _
  rw [hch]
  by_cases hs : s = d.used + 1
  ·subst hs;rw [if_pos rfl,if_pos rfl]
  ·rw [if_neg (by omega),if_neg hs];exact h.h0 s h1 h2
 ·intro s h1 h2
  show chunk (putAt d.L _ _) _ = _
  rw [hch,if_neg (by omega)]
  exact h.h1 s h1 h2
 ·intro s hs
  have hs2 : d.used + 1 < s := hs
  rw [if_neg (by omega)]
  exact h.kz s (by omega)
 ·rw [if_neg (by omega)];exact h.k0
 ·intro s
  by_cases hs : s = d.used + 1
  ·subst hs
   rw [if_pos rfl,hz.2]
   rcases hc with rfl | rfl
   ·exact .inr (.inl ⟨rfl,by decide⟩)
   ·exact .inr (.inr ⟨rfl,by decide⟩)
  ·rw [if_neg hs];exact h.kk s
 ·intro hv
  have h3 : d.value <= d.used := h.ok.va
  show (if d.value = d.used + 1 then c else kd d.value) = 1 /\ _
  rw [if_neg (by omega)]
  exact h.va hv
 ·intro hv
  have h3 : d.node <= d.used := h.ok.no
  show (if d.node = d.used + 1 then c else kd d.node) = 3 /\ _
  rw [if_neg (by omega)]
  exact h.no hv
 ·intro i hi
  show chunk (putAt d.L _ _) _ = _
  rw [hch,if_neg (by unfold Bod at hi;omega)]
theorem takenA_st {d : AD} {kd cn : Nat -> Nat} (h : ArI d kd cn) {s : Nat} (h1 : 1 <= s) (h2 : s <= d.slabs) (h15 : cn s <= 14) :
  (∀ u,1 <= u -> u <= d.slabs -> chunk (takenA d s (cn s)).L (128 * u) = (kd u : Int)) ∧
  (∀ u,1 <= u -> u <= d.slabs -> chunk (takenA d s (cn s)).L (128 * u + 1) = ((2 ^ (if u = s then cn s + 1 else cn u) - 1 : Nat) : Int)) ∧
  (∀ i,Bod i -> chunk (takenA d s (cn s)).L i = chunk d.L i) := by
 have hln := h.ok.len
 have hp : (2 : Nat) ^ cn s <= 2 ^ 14 := Nat.pow_le_pow_right (by decide) h15
 have hp0 : 0 < (2 : Nat) ^ cn s := Nat.pow_pos (by decide)
 have e14 : (2 : Nat) ^ 14 = 16384 := by decide
 have hx : IntKind.u64.wrap (chunk d.L (128 * s + 1) + ((2 ^ cn s : Nat) : Int)) = ((2 ^ (cn s + 1) - 1 : Nat) : Int) := by
  rw [h.h1 s h1 h2,Nat.pow_succ]
  obtain ⟨p,hpe⟩ : ∃ p,2 ^ cn s = p := ⟨_,rfl⟩
  rw [hpe] at hp hp0 ⊢
  rw [IntKind.wrap_u64]
  omega
 have hch : ∀ i,chunk (takenA d s (cn s)).L i = if i = 128 * s + 1 then ((2 ^ (cn s + 1) - 1 : Nat) : Int) else chunk d.L i := by
  intro i
  have e1 : (takenA d s (cn s)).L = putAt d.L (8 * (128 * s + 1)) ((2 ^ (cn s + 1) - 1 : Nat) : Int) := by
   rw [<- hx,show 8 * (128 * s + 1) = 1024 * s + 8 by omega]
   unfold takenA
   simp
  rw [e1]
  refine chunk_put (by omega) (by omega) ?_ i
  rw [Nat.pow_succ]
  omega
 refine ⟨fun u h3 h4 => ?_,fun u h3 h4 => ?_,fun i hi => ?_⟩
 ·rw [hch,if_neg (by omega)];exact h.h0 u h3 h4
 ·rw [hch]
  by_cases hu : u = s
  ·subst hu;rw [if_pos rfl,if_pos rfl]
  ·rw [if_neg (by omega),if_neg hu];exact h.h1 u h3 h4
 ·rw [hch,if_neg (by unfold Bod at hi;omega)]
/-! . -/
structure Grow (d d' : AD) (kd cn kd' cn' : Nat -> Nat) : Prop where
 i : ArI d' kd' cn'
 sl : d'.slabs = d.slabs
 mono : ∀ a,NSlot kd cn a -> NSlot kd' cn' a
 fr : ∀ i,Bod i -> chunk d'.L i = chunk d.L i
 lv : d'.lv = d.lv
theorem newNode1_st {d : AD} {kd cn : Nat -> Nat} (h : ArI d kd cn) : ∃ kd',Grow d (newNode1 d) kd cn kd' cn /\ ((newNode1 d).node ≠ 0 -> (newNode1 d).nodes <= 4) /\ (∀ s,kd' s = 3 -> cn s ≠ 0 -> kd s = 3) := by
 unfold newNode1
 by_cases e : d.node = 0 ∨ d.nodes = 5
 ·rw [if_pos e]
  by_cases hu : d.used = d.slabs
  ·have es : slabA d 3 = (0,d) := by unfold slabA;rw [if_pos hu]
   rw [es]
   exact ⟨kd,⟨⟨⟨h.ok.len,h.ok.sl,h.ok.us,h.ok.va,Nat.zero_le _,h.ok.vs,Nat.zero_le _⟩,h.h0,h.h1,h.kz,h.k0,h.kk,h.va,fun e => absurd rfl e⟩,rfl,fun _ h => h,fun _ _ => rfl,rfl⟩,fun e => absurd rfl e,fun _ h _ => h⟩
  ·obtain ⟨e1,d1,ed,q1,q2,q3,q4,q5,q6,q7,q8,q9,q10,q11⟩ := slabA_st h 3 hu (.inr rfl)
   rw [show ((3 : Nat) : Int) = 3 from rfl] at e1 ed
   rw [e1,<- ed]
   refine ⟨_,⟨⟨⟨q8.ok.len,q8.ok.sl,q8.ok.us,q8.ok.va,?_,q8.ok.vs,Nat.zero_le _⟩,q8.h0,q8.h1,q8.kz,q8.k0,q8.kk,q8.va,fun _ => ⟨if_pos rfl,q10⟩⟩,q1,?_,q11,q7⟩,fun _ => Nat.zero_le _,?_⟩
   ·show d.used + 1 <= d1.used;omega
   ·rintro a ⟨s,j,h1,h2,h3⟩
    refine ⟨s,j,?_,h2,h3⟩
    show (if s = d.used + 1 then 3 else kd s) = 3
    rw [if_neg (fun e => by subst e;rw [q9] at h1;cases h1)];exact h1
   ·intro s h1 h2
    by_cases es : s = d.used + 1
    ·subst es;exact absurd q10 h2
    ·rwa [if_neg es] at h1
 ·rw [if_neg e]
  exact ⟨kd,⟨h,rfl,fun _ h => h,fun _ _ => rfl,rfl⟩,fun _ => by have := h.ok.ns;omega,fun _ h _ => h⟩
theorem newNodeA_st {d : AD} {kd cn : Nat -> Nat} (h : ArI d kd cn) (h0 : (newNodeA d).1 ≠ 0) : ∃ kd' cn',Grow d (newNodeA d).2 kd cn kd' cn' /\ NSlot kd' cn' (newNodeA d).1 /\ ¬ NSlot kd cn (newNodeA d).1 := by
 obtain ⟨kd',hG,hj,hback⟩ := newNode1_st h
 have hok := (newNodeA_ok h.ok).1
 unfold newNodeA at h0 hok ⊢
 by_cases e : (newNode1 d).node = 0
 ·rw [if_pos e] at h0;exact absurd rfl h0
 ·rw [if_neg e] at hok ⊢
  obtain ⟨d1,hd1⟩ : ∃ d1,newNode1 d = d1 := ⟨_,rfl⟩
  rw [hd1] at hG hj e hok ⊢
  have h1 := hG.i
  have hno := h1.no e
  have hjj := hj e
  have hus := h1.ok.us
  have hnn := h1.ok.no
  obtain ⟨t0,t1,t2⟩ := takenA_st h1 (s := d1.node) (by omega) (by omega) (by omega)
  rw [hno.2] at t0 t1 t2
  refine ⟨kd',fun s => if s = d1.node then d1.nodes + 1 else cn s,⟨⟨hok,t0,t1,?_,h1.k0,?_,?_,?_⟩,hG.sl,?_,fun i hi => (t2 i hi).trans (hG.fr i hi),hG.lv⟩,⟨d1.node,d1.nodes,hno.1,by simp,rfl⟩,?_⟩
  ·intro s hs
   have hs2 : d1.used < s := hs
   rw [if_neg (by omega)]
   exact h1.kz s hs
  ·intro s
   by_cases es : s = d1.node
   ·subst es
    rw [if_pos rfl]
    exact .inr (.inr ⟨hno.1,by omega⟩)
   ·rw [if_neg es];exact h1.kk s
  ·intro hv
   have h2 := h1.va hv
   have hne : d1.value ≠ d1.node := fun e2 => by rw [e2,hno.1] at h2;exact absurd h2.1 (by decide)
   show kd' d1.value = 1 /\ (if d1.value = d1.node then _ else _) = _
   rw [if_neg hne]
   exact h2
  ·intro _
   show kd' d1.node = 3 /\ (if d1.node = d1.node then _ else _) = _
   rw [if_pos rfl]
   exact ⟨hno.1,rfl⟩
  ·intro a ha
   obtain ⟨s,j,h3,h4,h5⟩ := hG.mono a ha
   refine ⟨s,j,h3,?_,h5⟩
   show j < (if s = d1.node then d1.nodes + 1 else cn s)
   by_cases es : s = d1.node
   ·subst es;rw [if_pos rfl];omega
   ·rw [if_neg es];exact h4
  ·intro ha
   obtain ⟨s,j,h3,h4,h5,h6,h7,h8⟩ := h.slot ha
   have es : s = d1.node := by omega
   subst es
   omega
/-! . -/
theorem newValue1_st {d : AD} {kd cn : Nat -> Nat} (h : ArI d kd cn) : ∃ kd',Grow d (newValue1 d) kd cn kd' cn /\ ((newValue1 d).value ≠ 0 -> (newValue1 d).values <= 14) := by
 unfold newValue1
 by_cases e : d.value = 0 ∨ d.values = 15
 ·rw [if_pos e]
  by_cases hu : d.used = d.slabs
  ·have es : slabA d 1 = (0,d) := by unfold slabA;rw [if_pos hu]
   rw [es]
   exact ⟨kd,⟨⟨⟨h.ok.len,h.ok.sl,h.ok.us,Nat.zero_le _,h.ok.no,Nat.zero_le _,h.ok.ns⟩,h.h0,h.h1,h.kz,h.k0,h.kk,(fun e => absurd rfl e),h.no⟩,rfl,fun _ h => h,fun _ _ => rfl,rfl⟩,fun e => absurd rfl e⟩
  ·obtain ⟨e1,d1,ed,q1,q2,q3,q4,q5,q6,q7,q8,q9,q10,q11⟩ := slabA_st h 1 hu (.inl rfl)
   rw [show ((1 : Nat) : Int) = 1 from rfl] at e1 ed
   rw [e1,<- ed]
   refine ⟨_,⟨⟨⟨q8.ok.len,q8.ok.sl,q8.ok.us,?_,q8.ok.no,Nat.zero_le _,q8.ok.ns⟩,q8.h0,q8.h1,q8.kz,q8.k0,q8.kk,fun _ => ⟨if_pos rfl,q10⟩,q8.no⟩,q1,?_,q11,q7⟩,fun _ => Nat.zero_le _⟩
   ·show d.used + 1 <= d1.used;omega
   ·rintro a ⟨s,j,h1,h2,h3⟩
    refine ⟨s,j,?_,h2,h3⟩
    show (if s = d.used + 1 then 1 else kd s) = 3
    rw [if_neg (fun e => by subst e;rw [q9] at h1;cases h1)];exact h1
 ·rw [if_neg e]
  exact ⟨kd,⟨h,rfl,fun _ h => h,fun _ _ => rfl,rfl⟩,fun _ => by have := h.ok.vs;omega⟩
theorem newValueA_st {d : AD} {kd cn : Nat -> Nat} (h : ArI d kd cn) (h0 : (newValueA d).1 ≠ 0) : ∃ kd' cn',Grow d (newValueA d).2 kd cn kd' cn' /\ ∃ s j,(newValueA d).1 = 1024 * s + 64 * (j + 1) /\ 1 <= s /\ s <= d.slabs /\ j <= 14 := by
 obtain ⟨kd',hG,hj⟩ := newValue1_st h
 have hok := (newValueA_ok h.ok).1
 unfold newValueA at h0 hok ⊢
 by_cases e : (newValue1 d).value = 0
 ·rw [if_pos e] at h0;exact absurd rfl h0
 ·rw [if_neg e] at hok ⊢
  obtain ⟨d1,hd1⟩ : ∃ d1,newValue1 d = d1 := ⟨_,rfl⟩
  rw [hd1] at hG hj e hok ⊢
  have h1 := hG.i
  have hno := h1.va e
  have hjj := hj e
  have hus := h1.ok.us
  have hnn := h1.ok.va
  obtain ⟨t0,t1,t2⟩ := takenA_st h1 (s := d1.value) (by omega) (by omega) (by omega)
  rw [hno.2] at t0 t1 t2
  refine ⟨kd',fun s => if s = d1.value then d1.values + 1 else cn s,⟨⟨hok,t0,t1,?_,h1.k0,?_,?_,?_⟩,hG.sl,?_,fun i hi => (t2 i hi).trans (hG.fr i hi),hG.lv⟩,d1.value,d1.values,rfl,by omega,by rw [<- hG.sl];omega,hjj⟩
  ·intro s hs
   have hs2 : d1.used < s := hs
   rw [if_neg (by omega)]
   exact h1.kz s hs
  ·intro s
   by_cases es : s = d1.value
   ·subst es
    rw [if_pos rfl]
    exact .inr (.inl ⟨hno.1,by omega⟩)
   ·rw [if_neg es];exact h1.kk s
  ·intro _
   show kd' d1.value = 1 /\ (if d1.value = d1.value then _ else _) = _
   rw [if_pos rfl]
   exact ⟨hno.1,rfl⟩
  ·intro hv
   have h2 := h1.no hv
   have hne : d1.node ≠ d1.value := fun e2 => by rw [e2,hno.1] at h2;exact absurd h2.1 (by decide)
   show kd' d1.node = 3 /\ (if d1.node = d1.value then _ else _) = _
   rw [if_neg hne]
   exact h2
  ·intro a ha
   obtain ⟨s,j,h3,h4,h5⟩ := hG.mono a ha
   refine ⟨s,j,h3,?_,h5⟩
   show j < (if s = d1.value then d1.values + 1 else cn s)
   rw [if_neg (fun e2 => by rw [e2,hno.1] at h3;cases h3)];exact h4
/-! . -/
theorem ArI.body {d : AD} {kd cn : Nat -> Nat} (h : ArI d kd cn) {M : List UInt8} (hl : M.length = d.L.length) (hc : ∀ i,128 <= i -> i % 128 < 2 -> chunk M i = chunk d.L i) : ArI { d with L := M } kd cn := by
 refine ⟨⟨hl.trans h.ok.len,h.ok.sl,h.ok.us,h.ok.va,h.ok.no,h.ok.vs,h.ok.ns⟩,fun s h1 h2 => ?_,fun s h1 h2 => ?_,h.kz,h.k0,h.kk,h.va,h.no⟩
 ·exact (hc _ (by omega) (by omega)).trans (h.h0 s h1 h2)
 ·exact (hc _ (by omega) (by omega)).trans (h.h1 s h1 h2)
theorem bytesTo_chunk (L : List UInt8) (a : Nat) (s : List UInt8) (i : Nat) : ∀ k,(i < a / 8 ∨ (a + k) / 8 + 1 <= i) -> chunk (bytesTo L a s k) i = chunk L i
 | 0,_ => rfl
 | k + 1,h => by
  rw [bytesTo,chunk_set _ (by omega),bytesTo_chunk L a s i k (by omega)]
theorem valueL_st {d : AD} {kd cn : Nat -> Nat} (h : ArI d kd cn) {a : Nat} {t : List UInt8} (ha : ∃ s j,a = 1024 * s + 64 * (j + 1) /\ 1 <= s /\ s <= d.slabs /\ j <= 14) (ht : t.length <= 20) : ArI (valueL d a t) kd cn := by
 obtain ⟨s,j,rfl,h1,h2,h3⟩ := ha
 have hln := h.ok.len
 have e8 : 1024 * s + 64 * (j + 1) = 8 * (128 * s + 8 * (j + 1)) := by omega
 unfold valueL
 refine h.body ?_ (fun i h4 h5 => ?_)
 ·rw [bytesTo_len,putAt_len _ (by omega)]
 ·rw [bytesTo_chunk _ _ _ _ _ (by omega),e8,chunk_put (by omega) (by omega) (by omega),if_neg (by omega)]
theorem valsA_st : ∀ (keys : List Int) {d d' : AD} {kd cn : Nat -> Nat} {E : List (Int × Int)},(∀ x ∈ keys,0 <= x /\ x <= 18446744073709551615) -> ArI d kd cn -> valsA keys d = some (d',E) →
  ∃ kd' cn',ArI d' kd' cn' /\ d'.slabs = d.slabs /\ d'.lv = d.lv /\ E.map (·.1) = keys /\ ∀ x ∈ E,0 < x.2 /\ x.2 <= 1000000
 | [],d,d',kd,cn,E,_,h,he => by
  obtain ⟨rfl,rfl⟩ : d = d' /\ [] = E := by simpa [valsA] using he
  exact ⟨kd,cn,h,rfl,rfl,rfl,fun x hx => by cases hx⟩
 | x :: xs,d,d',kd,cn,E,hu,h,he => by
  unfold valsA at he
  by_cases e : (newValueA d).1 = 0
  ·rw [if_pos e] at he;cases he
  ·rw [if_neg e] at he
   obtain ⟨⟨d2,E2⟩,hr,h2⟩ := Option.map_eq_some_iff.1 he
   obtain ⟨rfl,rfl⟩ : d2 = d' /\ _ :: E2 = E := by simpa using h2
   obtain ⟨kd1,cn1,hG,s,j,ha,b1,b2,b3⟩ := newValueA_st h e
   have hx := hu x (List.mem_cons_self)
   have hv := valueL_st (a := (newValueA d).1) (t := dg x.toNat) hG.i ⟨s,j,ha,b1,by rw [hG.sl];exact b2,b3⟩ (dg_len _ (by omega))
   obtain ⟨kd2,cn2,q1,q2,q3,q4,q5⟩ := valsA_st xs (fun y hy => hu y (List.mem_cons_of_mem _ hy)) hv hr
   have hs16 := h.ok.sl
   refine ⟨kd2,cn2,q1,q2.trans hG.sl,q3.trans hG.lv,by rw [List.map_cons,q4],fun y hy => ?_⟩
   rcases List.mem_cons.1 hy with rfl | hy
   ·show (0 : Int) < ((newValueA d).1 : Int) /\ ((newValueA d).1 : Int) <= 1000000
    omega
   ·exact q5 y hy
/-! . -/
def StN (L : List UInt8) (x : Nat × Nd) : Prop := ∀ q,q < 24 -> chunk L (x.1 / 8 + q) = wordsF x.2 q
theorem layA_st {d : AD} {kd cn : Nat -> Nat} (h : ArI d kd cn) {x : Nat × Nd} (hx : NSlot kd cn x.1) (hw : x.2.Wf) :
  ArI (layA d x.1 x.2) kd cn /\ StN (layA d x.1 x.2).L x /\ ∀ i,(i < x.1 / 8 ∨ x.1 / 8 + 24 <= i) -> chunk (layA d x.1 x.2).L i = chunk d.L i := by
 obtain ⟨s,j,ha,h1,h2,h3,h4,h5⟩ := h.slot hx
 have hln := h.ok.len
 have hus := h.ok.us
 have e8 : x.1 = 8 * (x.1 / 8) := by omega
 have hch : ∀ i,chunk (layA d x.1 x.2).L i = if x.1 / 8 <= i /\ i < x.1 / 8 + 24 then wordsF x.2 (i - x.1 / 8) else chunk d.L i := by
  intro i
  show chunk (layTo d.L x.1 x.2 24) i = _
  have := layTo_chunk (L := d.L) (j := x.1 / 8) (words_rng hw) 24 (by omega) i
  rwa [<- e8] at this
 refine ⟨?_,fun q hq => ?_,fun i hi => ?_⟩
 ·unfold layA
  refine h.body (layTo_len x.2 24 (by omega)) (fun i h6 h7 => ?_)
  have e2 : x.1 / 8 = 128 * s + 8 + 24 * j := by omega
  exact (hch i).trans (if_neg (by rw [e2];have hj : j = 0 ∨ j = 1 ∨ j = 2 ∨ j = 3 ∨ j = 4 := by omega
                                  rcases hj with rfl | rfl | rfl | rfl | rfl <;> omega))
 ·rw [hch,if_pos (by omega),Nat.add_sub_cancel_left]
 ·rw [hch,if_neg (by omega)]
theorem slots_apart {d : AD} {kd cn : Nat -> Nat} (h : ArI d kd cn) {a b : Nat} (ha : NSlot kd cn a) (hb : NSlot kd cn b) (hne : a ≠ b) {q : Nat} (hq : q < 24) : a / 8 + q < b / 8 ∨ b / 8 + 24 <= a / 8 + q := by
 obtain ⟨s,j,h1,h2,h3,h4,h5,h6⟩ := h.slot ha
 obtain ⟨s',j',g1,g2,g3,g4,g5,g6⟩ := h.slot hb
 have e1 : a / 8 = 128 * s + 8 + 24 * j := by omega
 have e2 : b / 8 = 128 * s' + 8 + 24 * j' := by omega
 rw [e1,e2]
 rcases Nat.lt_trichotomy s s' with h7 | h7 | h7
 ·omega
 ·subst h7
  rcases Nat.lt_trichotomy j j' with h8 | h8 | h8
  ·omega
  ·subst h8;exact absurd (h1.trans g1.symm) hne
  ·omega
 ·omega
theorem layR_st : ∀ (R : List (Nat × Nd)) {d : AD} {kd cn : Nat -> Nat},ArI d kd cn -> (∀ x ∈ R,NSlot kd cn x.1 /\ x.2.Wf) -> (R.map (·.1)).Nodup →
  ArI (layR d R) kd cn /\ (∀ x ∈ R,StN (layR d R).L x) /\ (∀ y,NSlot kd cn y.1 -> (∀ x ∈ R,x.1 ≠ y.1) -> StN d.L y -> StN (layR d R).L y) /\ ∀ i,i < 128 -> chunk (layR d R).L i = chunk d.L i
 | [],d,kd,cn,h,_,_ => ⟨h,fun x hx => (by cases hx),fun y _ _ hs => hs,fun i _ => rfl⟩
 | x :: R,d,kd,cn,h,hx,hn => by
  rw [layR_cons]
  obtain ⟨h1,h2⟩ := hx x (List.mem_cons_self)
  obtain ⟨a1,a2,a3⟩ := layA_st h h1 h2
  rw [List.map_cons,List.nodup_cons] at hn
  obtain ⟨b1,b2,b3,b4⟩ := layR_st R a1 (fun y hy => hx y (List.mem_cons_of_mem _ hy)) hn.2
  obtain ⟨s,j,c1,c2,c3,c4,_⟩ := h.slot h1
  refine ⟨b1,fun y hy => ?_,fun y hy hne hs => ?_,fun i hi => ?_⟩
  ·rcases List.mem_cons.1 hy with rfl | hy
   ·exact b3 y h1 (fun z hz e => hn.1 (List.mem_map.2 ⟨z,hz,e⟩)) a2
   ·exact b2 y hy
  ·refine b3 y hy (fun z hz => hne z (List.mem_cons_of_mem _ hz)) (fun q hq => ?_)
   rw [a3 _ (slots_apart h hy h1 (fun e => hne x (List.mem_cons_self) e.symm) hq)]
   exact hs q hq
  ·rw [b4 i hi,a3 i (by omega)]
/-! . -/
structure RowsR (d d' : AD) (kd cn kd' cn' : Nat -> Nat) (R : List (Nat × Nd)) : Prop where
 g : Grow d d' kd cn kd' cn'
 sl : ∀ x ∈ R,NSlot kd' cn' x.1 /\ ¬ NSlot kd cn x.1
 nd : (R.map (·.1)).Nodup
theorem rowsG_st {lv per : Nat} {l : List (Int × Int)} : ∀ (f fr : Nat) {d d' : AD} {kd cn : Nat -> Nat} {R : List (Nat × Nd)},ArI d kd cn -> rowsG lv per l f fr d = some (d',R) -> ∃ kd' cn',RowsR d d' kd cn kd' cn' R
 | 0,fr,d,d',kd,cn,R,_,h => by cases h
 | f + 1,fr,d,d',kd,cn,R,ho,h => by
  unfold rowsG at h
  by_cases e : (newNodeA d).1 = 0
  ·rw [if_pos e] at h;cases h
  ·rw [if_neg e] at h
   obtain ⟨kd1,cn1,hG,hs,hns⟩ := newNodeA_st ho e
   by_cases e2 : l.length <= fr + per
   ·rw [if_pos e2] at h
    obtain ⟨rfl,rfl⟩ : (newNodeA d).2 = d' /\ _ = R := by simpa using h
    refine ⟨kd1,cn1,hG,fun x hx => ?_,by simp⟩
    obtain rfl := List.mem_singleton.1 hx
    exact ⟨hs,hns⟩
   ·rw [if_neg e2] at h
    obtain ⟨⟨d2,R2⟩,hr,h2⟩ := Option.map_eq_some_iff.1 h
    obtain ⟨rfl,rfl⟩ : d2 = d' /\ _ :: R2 = R := by simpa using h2
    obtain ⟨kd2,cn2,q⟩ := rowsG_st f (fr + per) hG.i hr
    refine ⟨kd2,cn2,⟨q.g.i,q.g.sl.trans hG.sl,fun a ha => q.g.mono a (hG.mono a ha),fun i hi => (q.g.fr i hi).trans (hG.fr i hi),q.g.lv.trans hG.lv⟩,fun x hx => ?_,?_⟩
    ·rcases List.mem_cons.1 hx with rfl | hx
     ·exact ⟨q.g.mono _ hs,hns⟩
     ·exact ⟨(q.sl x hx).1,fun h3 => (q.sl x hx).2 (hG.mono _ h3)⟩
    ·rw [List.map_cons,List.nodup_cons]
     refine ⟨fun hm => ?_,q.nd⟩
     obtain ⟨y,hy,e3⟩ := List.mem_map.1 hm
     have e3' : y.1 = (newNodeA d).1 := e3
     exact (q.sl y hy).2 (e3' ▸ hs)
theorem linkR_fst (R : List (Nat × Nd)) : (linkR R).map (·.1) = R.map (·.1) := by
 apply List.ext_getElem?
 intro i
 rw [List.getElem?_map,List.getElem?_map,linkR_get]
 cases R[i]? <;> rfl
theorem linkR_mem {R : List (Nat × Nd)} {x : Nat × Nd} (h : x ∈ linkR R) : ∃ i y,R[i]? = some y /\ x = lnk1 R i y := by
 obtain ⟨i,hi⟩ := List.mem_iff_getElem?.1 h
 rw [linkR_get] at hi
 obtain ⟨y,h1,h2⟩ := Option.map_eq_some_iff.1 hi
 exact ⟨i,y,h1,h2.symm⟩
structure ArN (d : AD) (kd cn : Nat -> Nat) : Prop where
 i : ArI d kd cn
 st : ∀ R ∈ d.lv,∀ x ∈ R,NSlot kd cn x.1 /\ StN d.L x
theorem levelA_st {lv per : Nat} {l : List (Int × Int)} (hlv : lv <= 15) (hu : U64E l) {d d' : AD} {kd cn : Nat -> Nat} (h : ArN d kd cn) (he : levelA d lv per l = some d') :
  ∃ kd' cn' R,ArN d' kd' cn' /\ d'.lv = d.lv ++ [R] /\ d'.slabs = d.slabs /\ (∃ d1 R0,rowsG lv per l (l.length + 1) 0 d = some (d1,R0) /\ R = linkR R0) /\ (R.map (·.1)).Nodup /\ (∀ x ∈ R,x.2.Wf /\ x.1 ≠ 0 /\ x.1 + 192 <= 1000000 /\ x.1 % 64 = 0) /\ (∀ i,i < 128 -> chunk d'.L i = chunk d.L i) := by
 unfold levelA at he
 obtain ⟨⟨d1,R0⟩,hr,h2⟩ := Option.map_eq_some_iff.1 he
 obtain ⟨kd1,cn1,q⟩ := rowsG_st (l.length + 1) 0 h.i hr
 have hwf := rowsG_wf hlv hu (l.length + 1) 0 h.i.ok hr
 have hok := rowsG_ok (l.length + 1) 0 h.i.ok hr
 have hs16 := h.i.ok.sl
 have hlen := h.i.ok.len
 have hsl : ∀ x ∈ linkR R0,NSlot kd1 cn1 x.1 /\ ¬ NSlot kd cn x.1 /\ x.2.Wf := fun x hx => by
  obtain ⟨i,y,h3,rfl⟩ := linkR_mem hx
  have hy := List.mem_of_getElem? h3
  refine ⟨(q.sl y hy).1,(q.sl y hy).2,lnk1_wf (L := d.L.length) (by omega) (fun z hz => (hwf z hz).1) (fun z hz => (hok.2.2.2.1 z hz).2) h3⟩
 have hnd : ((linkR R0).map (·.1)).Nodup := by rw [linkR_fst];exact q.nd
 obtain ⟨b1,b2,b3,b4⟩ := layR_st (linkR R0) q.g.i (fun x hx => ⟨(hsl x hx).1,(hsl x hx).2.2⟩) hnd
 have hlvl := layR_lv (linkR R0) d1
 subst h2
 refine ⟨kd1,cn1,linkR R0,⟨⟨⟨b1.ok.len,b1.ok.sl,b1.ok.us,b1.ok.va,b1.ok.no,b1.ok.vs,b1.ok.ns⟩,b1.h0,b1.h1,b1.kz,b1.k0,b1.kk,b1.va,b1.no⟩,fun R hR x hx => ?_⟩,by show d1.lv ++ _ = _;rw [q.g.lv],hlvl.2.trans q.g.sl,⟨d1,R0,hr,rfl⟩,hnd,fun x hx => ?_,fun i hi => (b4 i hi).trans (q.g.fr i (.inl hi))⟩
 ·have hR2 : R ∈ d.lv ++ [linkR R0] := by rw [<- q.g.lv];exact hR
  rcases List.mem_append.1 hR2 with hR3 | hR3
  ·obtain ⟨c1,c2⟩ := h.st R hR3 x hx
   refine ⟨q.g.mono _ c1,b3 x (q.g.mono _ c1) (fun y hy e => (hsl y hy).2.1 (by rw [e];exact c1)) (fun p hp => ?_)⟩
   obtain ⟨s,j,g1,g2,g3,g4,_⟩ := h.i.slot c1
   have e2 : x.1 / 8 = 128 * s + 8 + 24 * j := by omega
   have hj : j = 0 ∨ j = 1 ∨ j = 2 ∨ j = 3 ∨ j = 4 := by omega
   rw [q.g.fr _ (by rw [e2];unfold Bod;rcases hj with rfl | rfl | rfl | rfl | rfl <;> omega)]
   exact c2 p hp
  ·obtain rfl := List.mem_singleton.1 hR3
   exact ⟨(hsl x hx).1,b2 x hx⟩
 ·obtain ⟨s,j,g1,g2,g3,g4,_⟩ := q.g.i.slot (hsl x hx).1
  have hu1 := q.g.i.ok.us
  have hu2 := q.g.i.ok.sl
  exact ⟨(hsl x hx).2.2,by omega,by omega,by omega⟩
/-! . -/
structure RowP (lv per : Nat) (l : List (Int × Int)) (R : List (Nat × Nd)) : Prop where
 ne : 0 < R.length
 ln : ∀ i,0 < i -> (i < R.length ↔ i * per < l.length)
 nd : ∀ i x,R[i]? = some x -> x.2 = { ndG lv (i == 0) x.1 (ownG l per (i * per)) with nx := match R[i + 1]? with | some y => (y.1 : Int) | none => 0 }
theorem rowsG_row {lv per : Nat} {l : List (Int × Int)} (hp : 1 <= per) : ∀ (f fr : Nat) {d d' : AD} {R : List (Nat × Nd)},rowsG lv per l f fr d = some (d',R) →
  0 < R.length /\ (∀ i,0 < i -> (i < R.length ↔ fr + i * per < l.length)) /\ ∀ i x,R[i]? = some x -> x.2 = ndG lv (fr + i * per == 0) x.1 (ownG l per (fr + i * per))
 | 0,fr,d,d',R,h => by cases h
 | f + 1,fr,d,d',R,h => by
  unfold rowsG at h
  by_cases e : (newNodeA d).1 = 0
  ·rw [if_pos e] at h;cases h
  ·rw [if_neg e] at h
   by_cases e2 : l.length <= fr + per
   ·rw [if_pos e2] at h
    obtain ⟨rfl,rfl⟩ : (newNodeA d).2 = d' /\ _ = R := by simpa using h
    refine ⟨by simp,fun i hi => ?_,fun i x hx => ?_⟩
    ·have : per <= i * per := Nat.le_mul_of_pos_left per hi
     simp only [List.length_cons,List.length_nil]
     omega
    ·cases i with
     | zero =>
      obtain rfl : _ = x := Option.some.inj hx
      rw [Nat.zero_mul,Nat.add_zero]
     | succ i => simp at hx
   ·rw [if_neg e2] at h
    obtain ⟨⟨d2,R2⟩,hr,h2⟩ := Option.map_eq_some_iff.1 h
    obtain ⟨rfl,rfl⟩ : d2 = d' /\ _ :: R2 = R := by simpa using h2
    obtain ⟨q1,q2,q3⟩ := rowsG_row hp f (fr + per) hr
    refine ⟨by simp,fun i hi => ?_,fun i x hx => ?_⟩
    ·cases i with
     | zero => cases hi
     | succ i =>
      rw [List.length_cons,Nat.succ_mul]
      rcases Nat.eq_zero_or_pos i with e3 | e3
      ·subst e3
       rw [Nat.zero_mul]
       omega
      ·have := q2 i e3
       omega
    ·cases i with
     | zero =>
      obtain rfl : _ = x := Option.some.inj hx
      rw [Nat.zero_mul,Nat.add_zero]
     | succ i =>
      have h3 : R2[i]? = some x := by simpa using hx
      rw [q3 i x h3,Nat.succ_mul,show fr + per + i * per = fr + (i * per + per) by omega]
theorem rowP_of {lv per : Nat} {l : List (Int × Int)} (hp : 1 <= per) {d d' : AD} {R : List (Nat × Nd)} {f : Nat} (h : rowsG lv per l f 0 d = some (d',R)) : RowP lv per l (linkR R) := by
 obtain ⟨q1,q2,q3⟩ := rowsG_row hp f 0 h
 refine ⟨by rw [linkR_len];exact q1,fun i hi => by rw [linkR_len,q2 i hi,Nat.zero_add],fun i x hx => ?_⟩
 rw [linkR_get] at hx
 obtain ⟨y,h1,rfl⟩ := Option.map_eq_some_iff.1 hx
 have h2 := q3 i y h1
 rw [Nat.zero_add] at h2
 have hb : (i * per == 0) = (i == 0) := by
  cases i with
  | zero => rw [Nat.zero_mul]
  | succ i =>
   have h4 : (i + 1) * per ≠ 0 := Nat.mul_ne_zero (by omega) (by omega)
   rw [beq_eq_false_iff_ne.2 h4];rfl
 rw [hb] at h2
 rw [linkR_get]
 unfold lnk1
 simp only []
 rw [h2]
 cases R[i + 1]? <;> rfl
end Go.Proofs.YtodgfbjjjgohgaaGreat
