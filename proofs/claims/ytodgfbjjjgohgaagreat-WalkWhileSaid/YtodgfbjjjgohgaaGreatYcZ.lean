/-
 LINES THAT ARE TO LAST: snap.NewLast,snap.Last.Step: contracts.
-/
import Derived.Test.YtodgfbjjjgohgaaGreatKyZ
namespace Go.Proofs.YtodgfbjjjgohgaaGreat
open Go.RowKit
attribute [local go_sem] Oper.semAt_some
set_option linter.unusedVariables false

structure Ls where
 mv : Option Addr
 c : Int
 sl : Value
 over : Bool
 e : Int
def lsCells (l : Ls) : Array Value := #[.pointer l.mv,.int .i64 l.c,l.sl,.bool true,.bool l.over,.int .i64 l.e]
set_option maxRecDepth 100000 in
theorem cloneA_v (g : Nat) (a : Int) (w : World) (h : Blk w g #[.int .u64 a] 39) :
  Calls Tryz.prog 89 #[.slice (some ⟨g,0,none⟩) 1 1] w fun e w' => ∃ g' cap,e = .returned (.slice (some ⟨g',0,none⟩) 1 cap) /\ w'.cell? ⟨g',0,none⟩ = some (.int .u64 a) /\ w.heap.size <= g' /\ g' < w'.heap.size /\ 1 <= cap /\ Below w.heap.size w w' := by
 obtain ⟨i0,hi,hz0,hz1,hz2⟩ := info_parts (show (Tryz.prog.info? 39).map (fun i => (i.zero,i.size,i.bytes)) = some (some (.int .u64 0),1,8) by kernel_rfl)
 have hq : ∀ (w : World) (a : Option Addr) (n c n' c' : Nat),(binOp .eql 139 (.slice a n c) (.slice none n' c')).run Tryz.prog w = .ok (.bool a.isNone) w := fun w a n c n' c' => Lib.run_eql_slice_nil w _ _ a n c n' c' Tryz.underlying139
 have HB := Lib.hid h
 clear h
 go_enter Tryz.func89,Tryz.ntmps89
 go_wp2_with (at_builtin;refine wpList_append_own _ rfl _ _ 139 rfl w.heap.size 39 i0 (.int .u64 0) 1 8 Tryz.underlying139 hi hz0 hz1 hz2 rfl (by decide) _ _ _ rfl (World.ownsRow_made w #[] 0 (Nat.le_refl _) (Nat.zero_le _) (by simp)) ⟨g,0,none⟩ 1 1 [.int .u64 a] rfl ?qc1 ?qc2 ?qc3 ?qc4 ?qc5 ?qc6 ?_)
 case qc1 => rfl
 case qc2 =>
  intro j u hj
  have hb := (HB.out.alloc (.cells #[] 39)).cell (0 + j)
  rw [show (⟨g,0,none⟩ : Addr).add j = ⟨g,0 + j,none⟩ by rw [Addr.add_lit],hb,Nat.zero_add,<- hj]
  simp
 case qc3 => intro u hu;rw [List.mem_singleton.1 hu];rfl
 case qc4 => unfold maxLen;omega
 case qc5 => omega
 case qc6 => simp
 intro v' w1 hown hgrow hnil
 obtain ⟨g',cap,rfl,hb1,hg1,hc1,_,_,hcell,_⟩ := own_shape hown (by decide)
 have HO := Lib.hid (show w1.cell? ⟨g',0,none⟩ = some (.int .u64 a) /\ w.heap.size <= g' /\ g' < w1.heap.size /\ 1 <= cap from ⟨(hcell 0 (by decide)).trans rfl,hb1,hg1,hc1⟩)
 have HBw := Lib.hid ((((Below.refl _ w).alloc (Nat.le_refl _) _).grown hgrow (by simp) (by intro k hk;simp [Value.ownBlock] at hk;omega)) : Below w.heap.size w w1)
 clear hown hgrow hnil hcell hb1 hg1 hc1
 go_wp2_with (fail)
 go_ret
 exact ⟨g',cap,rfl,HO.out.1,HO.out.2.1,HO.out.2.2.1,HO.out.2.2.2,HBw.out⟩
structure LsW (w : World) (lb g cap : Nat) (mv : Option Addr) (c a : Int) : Prop where
 b : Blk w lb (lsCells ⟨mv,c,.slice (some ⟨g,0,none⟩) 1 cap,false,0⟩) 175
 gc : w.cell? ⟨g,0,none⟩ = some (.int .u64 a)
 gl : g < w.heap.size
 ne : g ≠ lb
 cap : 1 <= cap
set_option maxRecDepth 100000 in
theorem newLast_v (mv : Option Addr) (c a : Int) (g : Nat) (w : World) (h : Blk w g #[.int .u64 a] 39) :
  Calls Tryz.prog 85 #[.pointer mv,.int .i64 c,.slice (some ⟨g,0,none⟩) 1 1] w fun e w' => ∃ lb g' cap,e = .returned (.pointer (some ⟨lb,0,none⟩)) /\ LsW w' lb g' cap mv c a /\ w.heap.size <= lb /\ w.heap.size <= g' /\ Below w.heap.size w w' := by
 have HC := Lib.hid (cloneA_v g a w h)
 clear h
 go_enter Tryz.func85,Tryz.ntmps85
 go_wp2_with (fail)
 refine HC.out.mono ?_
 rintro e w1 ⟨g',cap,rfl,hc,hg1,hg2,hcap,hB⟩
 have HE := Lib.hid (show LsW (w1.alloc (.cells (lsCells ⟨mv,c,.slice (some ⟨g',0,none⟩) 1 cap,false,0⟩) 175)) w1.heap.size g' cap mv c a from
  ⟨Blk.new w1 _ _,Lib.cell?_alloc_some _ hc,by simp;omega,by omega,hcap⟩)
 have HSz := Lib.hid (And.intro hB.size (And.intro hg1 (hB.alloc hB.size (.cells (lsCells ⟨mv,c,.slice (some ⟨g',0,none⟩) 1 cap,false,0⟩) 175))))
 clear hc hg1 hg2 hcap hB
 go_wp2_with (fail)
 go_ret
 exact ⟨w1.heap.size,g',cap,rfl,HE.out,HSz.out.1,HSz.out.2.1,HSz.out.2.2⟩
/-! . -/
structure LsG (W0 : World) (S : Nat -> Prop) (lb jc ja : Nat) (C : Bool -> Array Value) (Q : World -> Prop) (L : Nat -> Bool) (W : World) : Prop where
 k : Keeps (fun i => i = lb ∨ S i) W0 W
 n : L jc = false -> Keeps (fun i => i = lb) W0 W
 y : L jc = true -> Q W
 b : Blk W lb (C (L ja)) 175
section
variable {W0 W : World} {S : Nat -> Prop} {lb jc ja : Nat} {C : Bool -> Array Value} {Q : World -> Prop} {L : Nat -> Bool}
theorem LsG.start (h : Blk W0 lb (C false) 175) : LsG W0 S lb jc ja C Q (fun _ => false) W0.drew := ⟨(Keeps.refl _ _).drew,fun _ => (Keeps.refl _ _).drew,fun e => (by cases e),h.drew⟩
theorem LsG.keep {L' : Nat -> Bool} (h : LsG W0 S lb jc ja C Q L W) (e : L' jc = L jc) (e2 : L' ja = L ja) : LsG W0 S lb jc ja C Q L' W := ⟨h.k,by rw [e];exact h.n,by rw [e];exact h.y,by rw [e2];exact h.b⟩
theorem LsG.call {W' : World} (h : LsG W0 S lb jc ja C Q L W) (hQ : Q W') (hk : Keeps S W W') (hn : ¬ S lb) (hne : ja ≠ jc) : LsG W0 S lb jc ja C Q (lset L jc) W' :=
 ⟨h.k.trans (hk.mono (fun _ _ e => .inr e)),fun e => (by simp [lset] at e),fun _ => hQ,by rw [show lset L jc ja = L ja by unfold lset;rw [if_neg hne]];exact h.b.kept hk hn⟩
theorem LsG.store (h : LsG W0 S lb jc ja C Q L W) (hQc : ∀ W W',Q W -> Keeps (fun i => i = lb) W W' -> Q W') {j : Nat} (o : Nat) (u : Value) (hC : ∀ q,(C q).setIfInBounds o u = C q) (hne : ja ≠ j /\ jc ≠ j) : LsG W0 S lb jc ja C Q (lset L j) (W.setCell ⟨lb,o,none⟩ u) := by
 have hk : Keeps (fun i => i = lb) W (W.setCell ⟨lb,o,none⟩ u) := (Keeps.refl (fun i => i = lb) W).setCell (p := ⟨lb,o,none⟩) (.inl rfl) _
 have e1 : lset L j jc = L jc := by unfold lset;rw [if_neg hne.2]
 have e2 : lset L j ja = L ja := by unfold lset;rw [if_neg hne.1]
 have hb := h.b.set o u
 rw [hC] at hb
 exact ⟨h.k.trans (hk.mono (fun _ _ e => .inl e)),fun e => (h.n (e1 ▸ e)).trans hk,fun e => hQc _ _ (h.y (e1 ▸ e)) hk,by rw [e2];exact hb⟩
theorem LsG.over (h : LsG W0 S lb jc ja C Q L W) (hQc : ∀ W W',Q W -> Keeps (fun i => i = lb) W W' -> Q W') (o : Nat) (u : Value) (hC : ∀ q,(C q).setIfInBounds o u = C true) (hne : jc ≠ ja) : LsG W0 S lb jc ja C Q (lset L ja) (W.setCell ⟨lb,o,none⟩ u) := by
 have hk : Keeps (fun i => i = lb) W (W.setCell ⟨lb,o,none⟩ u) := (Keeps.refl (fun i => i = lb) W).setCell (p := ⟨lb,o,none⟩) (.inl rfl) _
 have e1 : lset L ja jc = L jc := by unfold lset;rw [if_neg hne]
 have e2 : lset L ja ja = true := by unfold lset;rw [if_pos rfl]
 have hb := h.b.set o u
 rw [hC] at hb
 exact ⟨h.k.trans (hk.mono (fun _ _ e => .inl e)),fun e => (h.n (e1 ▸ e)).trans hk,fun e => hQc _ _ (h.y (e1 ▸ e)) hk,by rw [e2];exact hb⟩
end
def FlQ (w0 : World) (mb : Nat) (S : Nat -> Prop) (vs is : List Int) (mk : Int -> Nat -> Int) (F : Int -> List (Int × Int)) (lo st fl fe : Int) (c : Nat) (a : Int) (W : World) : Prop :=
 ∃ S',MemP W mb S' vs is (updM mk (lineOf a) (mkS (mk (lineOf a)) c (F (lineOf a)).length)) F lo st (fl + 1) fe /\ ∀ i,S' i -> S i ∨ w0.heap.size <= i
def FeQ (w0 : World) (mb : Nat) (S : Nat -> Prop) (vs : List Int) (mk : Int -> Nat -> Int) (F : Int -> List (Int × Int)) (lo st fl fe : Int) (c : Nat) (W : World) : Prop :=
 ∃ S' mk' is',MemP W mb S' vs is' mk' (FF F mk c) lo st fl (fe + 1) /\ ∀ i,S' i -> S i ∨ w0.heap.size <= i
section
variable {w0 W W' : World} {mb lb : Nat} {S : Nat -> Prop} {vs is : List Int} {mk : Int -> Nat -> Int} {F : Int -> List (Int × Int)} {lo st fl fe : Int} {c : Nat} {a : Int}
theorem FlQ.kept (hl : lb < w0.heap.size) (hn : ¬ S lb) (h : FlQ w0 mb S vs is mk F lo st fl fe c a W) (hk : Keeps (fun i => i = lb) W W') : FlQ w0 mb S vs is mk F lo st fl fe c a W' := by
 obtain ⟨S',hm,hS⟩ := h
 exact ⟨S',hm.kept hk (fun i hi e => by subst e;rcases hS i hi with h | h;exact hn h;omega),hS⟩
theorem FeQ.kept (hl : lb < w0.heap.size) (hn : ¬ S lb) (h : FeQ w0 mb S vs mk F lo st fl fe c W) (hk : Keeps (fun i => i = lb) W W') : FeQ w0 mb S vs mk F lo st fl fe c W' := by
 obtain ⟨S',mk',is',hm,hS⟩ := h
 exact ⟨S',mk',is',hm.kept hk (fun i hi e => by subst e;rcases hS i hi with h | h;exact hn h;omega),hS⟩
end
set_option maxRecDepth 100000 in
set_option maxHeartbeats 8000000 in
theorem lflush_v (w : World) (lb g cap mb : Nat) (S : Nat -> Prop) (vs0 is : List Int) (mk : Int -> Nat -> Int) (F : Int -> List (Int × Int)) (lo st fl fe : Int) (c : Nat) (a : Int)
  (h : LsW w lb g cap (some ⟨mb,0,none⟩) (c : Int) a) (hm : MemP w mb S vs0 is mk F lo st fl fe) (hS : ¬ S lb /\ ¬ S g) (hp : 0 < vs0.length) (hc : c <= 64) (ha0 : 0 <= a) (ha1 : a <= 18446744073709551615) (he : atE vs0.length a = 0) (hst : st <= 1000000) (hfl : fl <= 1000000) :
  Calls Tryz.prog 125 #[.pointer (some ⟨lb,0,none⟩)] w fun e w' => e = .returned (.tuple #[.bool false,.int .i64 0]) /\ (∃ A cap',Blk w' lb (lsCells ⟨some ⟨mb,0,none⟩,c,.slice A 0 cap',false,0⟩) 175) /\ FlQ w mb S vs0 is mk F lo st fl fe c a w' /\ Keeps (fun i => i = lb ∨ S i) w w' := by
 have HB := Lib.hid h.b
 have HSz := Lib.hid (size_m hm)
 have hsz : ¬ (8 * (vs0.length : Int) = 0) := by omega
 obtain ⟨sz,hsze⟩ : ∃ sz,8 * (vs0.length : Int) = sz := ⟨_,rfl⟩
 rw [hsze] at HSz hsz
 obtain ⟨C,hC⟩ : ∃ C,lsCells ⟨some ⟨mb,0,none⟩,(c : Int),.slice (some ⟨g,0,none⟩) 1 cap,false,0⟩ = C := ⟨_,rfl⟩
 have HC := Lib.hid (show C[0]? = some (.pointer (some ⟨mb,0,none⟩)) /\ C[1]? = some (.int .i64 (c : Int)) /\ C[2]? = some (.slice (some ⟨g,0,none⟩) 1 cap) /\ C[5]? = some (.int .i64 0) /\ C[4]? = some (.bool false) from by rw [<- hC];exact ⟨rfl,rfl,rfl,rfl,rfl⟩)
 have HCe := Lib.hid hC
 have HSt := Lib.hid (show ∀ q : Bool,((fun _ : Bool => C) q).setIfInBounds 5 (.int .i64 0) = (fun _ : Bool => C) q from fun q => by rw [<- hC];rfl)
 have hB0 := h.b
 rw [hC] at hB0
 have HB0 := Lib.hid hB0
 have HGr := Lib.hid (show g < w.heap.size /\ ¬ (g = lb ∨ S g) from ⟨h.gl,fun e => by rcases e with e | e;exact h.ne e;exact hS.2 e⟩)
 have HCg := Lib.hid h.gc
 have HSn := Lib.hid hS.1
 obtain ⟨Q,hQ⟩ : ∃ Q,FlQ w mb S vs0 is mk F lo st fl fe c a = Q := ⟨_,rfl⟩
 have HQ := Lib.hid hQ
 have HQc := Lib.hid (show ∀ W W',Q W -> Keeps (fun i => i = lb) W W' -> Q W' from fun W W' h1 hk => by rw [<- hQ] at h1 ⊢;exact FlQ.kept h.b.lt hS.1 h1 hk)
 have HCl := Lib.hid (show ∀ W,Keeps (fun i => i = lb) w W -> Calls Tryz.prog 126 #[.pointer (some ⟨mb,0,none⟩),.int .i64 (c : Int),.int .u64 a] W fun e w' => e = .returned (.int .i64 0) /\ Q w' /\ Keeps S W w' from fun W hk => by
  refine (flush_m (hm.kept hk (fun i hi e => hS.1 (e ▸ hi))) c hc a ha0 ha1 he hst hfl).mono ?_
  rintro e w' ⟨rfl,S',hm',hS',hk'⟩
  rw [<- hQ]
  exact ⟨rfl,⟨S',hm',fun i hi => by rcases hS' i hi with h | h;exact .inl h;exact .inr (Nat.le_trans hk.size h)⟩,hk'⟩)
 have c0 : w.cell? ⟨lb,0,none⟩ = some (.pointer (some ⟨mb,0,none⟩)) := (h.b.cell 0).trans rfl
 have c2 : w.cell? ⟨lb,2,none⟩ = some (.slice (some ⟨g,0,none⟩) 1 cap) := (h.b.cell 2).trans rfl
 have c3 : w.cell? ⟨lb,3,none⟩ = some (.bool true) := (h.b.cell 3).trans rfl
 have c4 : w.cell? ⟨lb,4,none⟩ = some (.bool false) := (h.b.cell 4).trans rfl
 have HCap := Lib.hid h.cap
 clear h hm hS hp hc ha0 ha1 he hst hfl hB0 hQ hsze
 go_enter Tryz.func125,Tryz.ntmps125
 go_wp2_with (fail)
 refine HSz.out.mono ?_
 rintro e w1 ⟨rfl,rfl⟩
 go_wp2_with (fail)
 refine wp_region_vals [Is (.pointer (some ⟨lb,0,none⟩)),Is (.pointer (some ⟨lb,0,none⟩)),Is (.pointer (some ⟨lb,0,none⟩)),Is (.pointer (some ⟨lb,0,none⟩)),Is (.pointer (some ⟨mb,0,none⟩)),Is (.pointer (some ⟨lb,0,none⟩)),Is (.pointer (some ⟨lb,0,none⟩)),Is (.pointer (some ⟨lb,1,none⟩)),Is (.int .i64 (c : Int)),Is (.pointer (some ⟨lb,0,none⟩)),Is (.pointer (some ⟨lb,0,none⟩)),Is (.pointer (some ⟨lb,2,none⟩)),Is (.slice (some ⟨g,0,none⟩) 1 cap),Is (.pointer (some ⟨g,0,none⟩)),Is (.int .u64 a),Is (.int .i64 0),Is (.pointer (some ⟨lb,0,none⟩)),Is (.pointer (some ⟨lb,5,none⟩)),Any]
  (fun _ _ _ => True) (fun L W => LsG w S lb 15 99 (fun _ => C) Q L W) (by kernel_rfl) (by kernel_rfl) (by kernel_rfl) ?hst ?h0 ⟨?o0,?o1,?o2,?o3,?o4,?o5,?o6,?o7,?o8,?o9,?o10,?o11,?o12,?o13,?o14,?o15,?o16,?o17,?o18,trivial⟩ ?he
 any_goals (intro L vs A W H hf hd K hK)
 case hst => repeat' (first | exact trivial | refine ⟨fun _ _ _ _ _ _ h _ => h,?_⟩)
 case h0 =>
  exact LsG.start (C := fun _ => C) HB0.out
 case o0 => have e0 : A.tmps[0]?.getD undef = .pointer (some ⟨lb,0,none⟩) := H.old 0 (by kernel_rfl);go_simp;exact hK _ _ (trivial) rfl (H.glob.keep rfl rfl)
 case o1 => have e0 : A.tmps[0]?.getD undef = .pointer (some ⟨lb,0,none⟩) := H.old 0 (by kernel_rfl);go_simp;exact hK _ _ (trivial) rfl (H.glob.keep rfl rfl)
 case o2 => have e55 := H.iz hd 1 55 rfl rfl rfl (by kernel_rfl);go_simp;exact hK _ _ (trivial) rfl (H.glob.keep rfl rfl)
 case o3 => have e56 := H.iz hd 2 56 rfl rfl rfl (by kernel_rfl);go_simp;exact hK _ _ (trivial) rfl (H.glob.keep rfl rfl)
 case o4 => have e57 := H.iz hd 3 57 rfl rfl rfl (by kernel_rfl);have d : W.cell? ⟨lb,0,none⟩ = some (.pointer (some ⟨mb,0,none⟩)) := ((H.glob.b.cell 0).trans (HC.out.1));go_simp;exact hK _ _ (trivial) rfl (H.glob.keep rfl rfl)
 case o5 => have e0 : A.tmps[0]?.getD undef = .pointer (some ⟨lb,0,none⟩) := H.old 0 (by kernel_rfl);go_simp;exact hK _ _ (trivial) rfl (H.glob.keep rfl rfl)
 case o6 => have e59 := H.iz hd 5 59 rfl rfl rfl (by kernel_rfl);go_simp;exact hK _ _ (trivial) rfl (H.glob.keep rfl rfl)
 case o7 => have e60 := H.iz hd 6 60 rfl rfl rfl (by kernel_rfl);go_simp;exact hK _ _ (trivial) rfl (H.glob.keep rfl rfl)
 case o8 => have e61 := H.iz hd 7 61 rfl rfl rfl (by kernel_rfl);have d : W.cell? ⟨lb,1,none⟩ = some (.int .i64 (c : Int)) := ((H.glob.b.cell 1).trans (HC.out.2.1));go_simp;exact hK _ _ (trivial) rfl (H.glob.keep rfl rfl)
 case o9 => have e0 : A.tmps[0]?.getD undef = .pointer (some ⟨lb,0,none⟩) := H.old 0 (by kernel_rfl);go_simp;exact hK _ _ (trivial) rfl (H.glob.keep rfl rfl)
 case o10 => have e63 := H.iz hd 9 63 rfl rfl rfl (by kernel_rfl);go_simp;exact hK _ _ (trivial) rfl (H.glob.keep rfl rfl)
 case o11 => have e64 := H.iz hd 10 64 rfl rfl rfl (by kernel_rfl);go_simp;exact hK _ _ (trivial) rfl (H.glob.keep rfl rfl)
 case o12 => have e65 := H.iz hd 11 65 rfl rfl rfl (by kernel_rfl);have d : W.cell? ⟨lb,2,none⟩ = some (.slice (some ⟨g,0,none⟩) 1 cap) := ((H.glob.b.cell 2).trans (HC.out.2.2.1));go_simp;exact hK _ _ (trivial) rfl (H.glob.keep rfl rfl)
 case o13 => have e66 := H.iz hd 12 66 rfl rfl rfl (by kernel_rfl);go_simp;exact hK _ _ (trivial) rfl (H.glob.keep rfl rfl)
 case o14 => have e67 := H.iz hd 13 67 rfl rfl rfl (by kernel_rfl);have d : W.cell? ⟨g,0,none⟩ = some (.int .u64 a) := (H.glob.k.cell (p := ⟨g,0,none⟩) HGr.out.1 HGr.out.2).trans HCg.out;go_simp;exact hK _ _ (trivial) rfl (H.glob.keep rfl rfl)
 case o15 => have e58 := H.iz hd 4 58 rfl rfl rfl (by kernel_rfl);have e62 := H.iz hd 8 62 rfl rfl rfl (by kernel_rfl);have e68 := H.iz hd 14 68 rfl rfl rfl (by kernel_rfl);have hn := H.glob.n hf;go_simp;refine (HCl.out W hn).mono ?_;rintro e w' ⟨rfl,hQ,hk⟩;go_simp;exact hK _ _ trivial rfl (H.glob.call hQ hk HSn.out (by decide))
 case o16 => have e54 := H.iz hd 0 54 rfl rfl rfl (by kernel_rfl);go_simp;exact hK _ _ (trivial) rfl (H.glob.keep rfl rfl)
 case o17 => have e70 := H.iz hd 16 70 rfl rfl rfl (by kernel_rfl);go_simp;exact hK _ _ (trivial) rfl (H.glob.keep rfl rfl)
 case o18 => have e71 := H.iz hd 17 71 rfl rfl rfl (by kernel_rfl);have e69 := H.iz hd 15 69 rfl rfl rfl (by kernel_rfl);have d := (H.glob.b.cell 5).trans HC.out.2.2.2.1;have f := H.glob.b.frozen 5;go_simp;exact hK undef _ trivial trivial (H.glob.store HQc.out 5 _ HSt.out (by decide))
 case he =>
  intro vs W hlen hv
  match vs,hlen,hv with
  | [x0_,x1_,x2_,x3_,x4_,x5_,x6_,x7_,x8_,x9_,x10_,x11_,x12_,x13_,x14_,x15_,x16_,x17_,x18_],_,hv =>
  obtain rfl := isv hv 0 rfl rfl;obtain rfl := isv hv 1 rfl rfl;obtain rfl := isv hv 2 rfl rfl;obtain rfl := isv hv 3 rfl rfl;obtain rfl := isv hv 4 rfl rfl;obtain rfl := isv hv 5 rfl rfl;obtain rfl := isv hv 6 rfl rfl;obtain rfl := isv hv 7 rfl rfl;obtain rfl := isv hv 8 rfl rfl;obtain rfl := isv hv 9 rfl rfl;obtain rfl := isv hv 10 rfl rfl;obtain rfl := isv hv 11 rfl rfl;obtain rfl := isv hv 12 rfl rfl;obtain rfl := isv hv 13 rfl rfl;obtain rfl := isv hv 14 rfl rfl;obtain rfl := isv hv 15 rfl rfl;obtain rfl := isv hv 16 rfl rfl;obtain rfl := isv hv 17 rfl rfl
  intro L hall hG
  clear hv hlen
  have HG := Lib.hid (hG.y (hall 15 (by decide)))
  have HGb := Lib.hid hG.b
  have HGk := Lib.hid hG.k
  clear hG hall
  simp only [fill,if_true]
  simp [Act.put]
  have c2 : W.cell? ⟨lb,2,none⟩ = some (.slice (some ⟨g,0,none⟩) 1 cap) := (HGb.out.cell 2).trans HC.out.2.2.1
  have f2 : W.frozen? ⟨lb,2,none⟩ = false := HGb.out.frozen 2
  have c4 : W.cell? ⟨lb,4,none⟩ = some (.bool false) := (HGb.out.cell 4).trans HC.out.2.2.2.2
  have f4 : W.frozen? ⟨lb,4,none⟩ = false := HGb.out.frozen 4
  have c5 : W.cell? ⟨lb,5,none⟩ = some (.int .i64 0) := (HGb.out.cell 5).trans HC.out.2.2.2.1
  have HE := Lib.hid (show ∀ A cap',(Blk ((W.setCell ⟨lb,2,none⟩ (.slice A 0 cap')).setCell ⟨lb,4,none⟩ (.bool false)) lb (lsCells ⟨some ⟨mb,0,none⟩,c,.slice A 0 cap',false,0⟩) 175) /\ Q ((W.setCell ⟨lb,2,none⟩ (.slice A 0 cap')).setCell ⟨lb,4,none⟩ (.bool false)) /\ Keeps (fun i => i = lb ∨ S i) w ((W.setCell ⟨lb,2,none⟩ (.slice A 0 cap')).setCell ⟨lb,4,none⟩ (.bool false)) from fun A cap' => by
   have hk : Keeps (fun i => i = lb) W ((W.setCell ⟨lb,2,none⟩ (.slice A 0 cap')).setCell ⟨lb,4,none⟩ (.bool false)) := ((Keeps.refl (fun i => i = lb) W).setCell (p := ⟨lb,2,none⟩) (.inl rfl) _).setCell (p := ⟨lb,4,none⟩) (.inl rfl) _
   refine ⟨?_,HQc.out _ _ HG.out hk,HGk.out.trans (hk.mono (fun _ _ e => .inl e))⟩
   have h := (HGb.out.set 2 (.slice A 0 cap')).set 4 (.bool false)
   rw [<- HCe.out] at h
   exact h)
  have HRet := Lib.hid (show ∀ W W' A cap',(Blk W lb (lsCells ⟨some ⟨mb,0,none⟩,c,.slice A 0 cap',false,0⟩) 175) /\ Q W /\ Keeps (fun i => i = lb ∨ S i) w W -> Below W.heap.size W W' -> (∃ A cap',Blk W' lb (lsCells ⟨some ⟨mb,0,none⟩,c,.slice A 0 cap',false,0⟩) 175) /\ FlQ w mb S vs0 is mk F lo st fl fe c a W' /\ Keeps (fun i => i = lb ∨ S i) w W' from fun W W' A cap' h hB => ⟨⟨A,cap',h.1.kept (Keeps.of_below' hB) (fun e => e)⟩,by rw [HQ.out];exact HQc.out _ _ h.2.1 ((Keeps.of_below' hB).mono (fun _ _ e => e.elim)),h.2.2.trans ((Keeps.of_below' hB).mono (fun _ _ e => e.elim))⟩)
  have hcap := HCap.out
  clear HQc HQ HCl HGb HGk HG HC
  by_cases h1 : cap = 1
  ·subst h1
   clear hcap
   have HE2 := Lib.hid (HE.out (some ⟨g,0,none⟩) 0)
   go_upto_region 11 with (fail)
   obtain ⟨W2,hW2⟩ : ∃ W2,((W.setCell ⟨lb,2,none⟩ (.slice (some ⟨g,0,none⟩) 0 0)).setCell ⟨lb,4,none⟩ (.bool false)) = W2 := ⟨_,rfl⟩
   rw [hW2] at HE2 ⊢
   have HW2 := Lib.hid (show lb < W2.heap.size /\ W2.cell? ⟨lb,4,none⟩ = some (.bool false) /\ W2.cell? ⟨lb,5,none⟩ = some (.int .i64 0) from ⟨HE2.out.1.lt,(HE2.out.1.cell 4).trans rfl,(HE2.out.1.cell 5).trans rfl⟩)
   clear hW2 c2 f2 c4 f4 c5 HE
   refine wp_region_vals [Is (.pointer (some ⟨lb,0,none⟩)),Is (.pointer (some ⟨lb,0,none⟩)),Is (.pointer (some ⟨lb,4,none⟩)),Is (.bool false),Is (.pointer (some ⟨lb,0,none⟩)),Is (.pointer (some ⟨lb,0,none⟩)),Is (.pointer (some ⟨lb,5,none⟩)),Is (.int .i64 0),Is (.bool false),Is (.int .i64 0)]
    (fun _ _ _ => True) (fun _ W => Below W2.heap.size W2 W) (by kernel_rfl) (by kernel_rfl) (by kernel_rfl) ?hst ?h0 ⟨?o0,?o1,?o2,?o3,?o4,?o5,?o6,?o7,?o8,?o9,trivial⟩ ?he
   any_goals (intro L vs A W H hf hd K hK)
   case hst => repeat' (first | exact trivial | refine ⟨fun _ _ _ _ _ _ h _ => h,?_⟩)
   case h0 =>
    exact (Below.refl _ W2).drew
   case o0 => have e0 : A.tmps[0]?.getD undef = .pointer (some ⟨lb,0,none⟩) := H.old 0 (by kernel_rfl);go_simp;exact hK _ _ (trivial) rfl (H.glob)
   case o1 => have e88 := H.iz hd 0 88 rfl rfl rfl (by kernel_rfl);go_simp;exact hK _ _ (trivial) rfl (H.glob)
   case o2 => have e89 := H.iz hd 1 89 rfl rfl rfl (by kernel_rfl);go_simp;exact hK _ _ (trivial) rfl (H.glob)
   case o3 => have e90 := H.iz hd 2 90 rfl rfl rfl (by kernel_rfl);have d : W.cell? ⟨lb,4,none⟩ = some (.bool false) := (H.glob.cell (p := ⟨lb,4,none⟩) HW2.out.1).trans HW2.out.2.1;go_simp;exact hK _ _ (trivial) rfl (H.glob)
   case o4 => have e0 : A.tmps[0]?.getD undef = .pointer (some ⟨lb,0,none⟩) := H.old 0 (by kernel_rfl);go_simp;exact hK _ _ (trivial) rfl (H.glob)
   case o5 => have e92 := H.iz hd 4 92 rfl rfl rfl (by kernel_rfl);go_simp;exact hK _ _ (trivial) rfl (H.glob)
   case o6 => have e93 := H.iz hd 5 93 rfl rfl rfl (by kernel_rfl);go_simp;exact hK _ _ (trivial) rfl (H.glob)
   case o7 => have e94 := H.iz hd 6 94 rfl rfl rfl (by kernel_rfl);have d : W.cell? ⟨lb,5,none⟩ = some (.int .i64 0) := (H.glob.cell (p := ⟨lb,5,none⟩) HW2.out.1).trans HW2.out.2.2;go_simp;exact hK _ _ (trivial) rfl (H.glob)
   case o8 => have e91 := H.iz hd 3 91 rfl rfl rfl (by kernel_rfl);go_simp;exact hK _ _ (trivial) rfl (H.glob)
   case o9 => have e95 := H.iz hd 7 95 rfl rfl rfl (by kernel_rfl);go_simp;exact hK _ _ (trivial) rfl (H.glob)
   case he =>
    intro vs W hlen hv
    match vs,hlen,hv with
    | [x0_,x1_,x2_,x3_,x4_,x5_,x6_,x7_,x8_,x9_],_,hv =>
    obtain rfl := isv hv 0 rfl rfl;obtain rfl := isv hv 1 rfl rfl;obtain rfl := isv hv 2 rfl rfl;obtain rfl := isv hv 3 rfl rfl;obtain rfl := isv hv 4 rfl rfl;obtain rfl := isv hv 5 rfl rfl;obtain rfl := isv hv 6 rfl rfl;obtain rfl := isv hv 7 rfl rfl;obtain rfl := isv hv 8 rfl rfl;obtain rfl := isv hv 9 rfl rfl
    intro L hall hG
    clear hv hlen
    have HB3 := Lib.hid hG
    clear hG hall
    simp only [fill,if_true]
    simp [Act.put]
    go_wp2_with (fail)
    go_ret2
    exact ⟨rfl,HRet.out _ _ _ _ HE2.out HB3.out⟩
  ·obtain ⟨q,rfl⟩ : ∃ q,cap = q + 2 := ⟨cap - 2,by omega⟩
   clear h1 hcap
   have HE2 := Lib.hid (HE.out (some ⟨g,1,none⟩) (q + 1))
   go_upto_region 11 with (fail)
   obtain ⟨W2,hW2⟩ : ∃ W2,((W.setCell ⟨lb,2,none⟩ (.slice (some ⟨g,1,none⟩) 0 (q + 1))).setCell ⟨lb,4,none⟩ (.bool false)) = W2 := ⟨_,rfl⟩
   rw [hW2] at HE2 ⊢
   have HW2 := Lib.hid (show lb < W2.heap.size /\ W2.cell? ⟨lb,4,none⟩ = some (.bool false) /\ W2.cell? ⟨lb,5,none⟩ = some (.int .i64 0) from ⟨HE2.out.1.lt,(HE2.out.1.cell 4).trans rfl,(HE2.out.1.cell 5).trans rfl⟩)
   clear hW2 c2 f2 c4 f4 c5 HE
   refine wp_region_vals [Is (.pointer (some ⟨lb,0,none⟩)),Is (.pointer (some ⟨lb,0,none⟩)),Is (.pointer (some ⟨lb,4,none⟩)),Is (.bool false),Is (.pointer (some ⟨lb,0,none⟩)),Is (.pointer (some ⟨lb,0,none⟩)),Is (.pointer (some ⟨lb,5,none⟩)),Is (.int .i64 0),Is (.bool false),Is (.int .i64 0)]
    (fun _ _ _ => True) (fun _ W => Below W2.heap.size W2 W) (by kernel_rfl) (by kernel_rfl) (by kernel_rfl) ?hst ?h0 ⟨?o0,?o1,?o2,?o3,?o4,?o5,?o6,?o7,?o8,?o9,trivial⟩ ?he
   any_goals (intro L vs A W H hf hd K hK)
   case hst => repeat' (first | exact trivial | refine ⟨fun _ _ _ _ _ _ h _ => h,?_⟩)
   case h0 =>
    exact (Below.refl _ W2).drew
   case o0 => have e0 : A.tmps[0]?.getD undef = .pointer (some ⟨lb,0,none⟩) := H.old 0 (by kernel_rfl);go_simp;exact hK _ _ (trivial) rfl (H.glob)
   case o1 => have e88 := H.iz hd 0 88 rfl rfl rfl (by kernel_rfl);go_simp;exact hK _ _ (trivial) rfl (H.glob)
   case o2 => have e89 := H.iz hd 1 89 rfl rfl rfl (by kernel_rfl);go_simp;exact hK _ _ (trivial) rfl (H.glob)
   case o3 => have e90 := H.iz hd 2 90 rfl rfl rfl (by kernel_rfl);have d : W.cell? ⟨lb,4,none⟩ = some (.bool false) := (H.glob.cell (p := ⟨lb,4,none⟩) HW2.out.1).trans HW2.out.2.1;go_simp;exact hK _ _ (trivial) rfl (H.glob)
   case o4 => have e0 : A.tmps[0]?.getD undef = .pointer (some ⟨lb,0,none⟩) := H.old 0 (by kernel_rfl);go_simp;exact hK _ _ (trivial) rfl (H.glob)
   case o5 => have e92 := H.iz hd 4 92 rfl rfl rfl (by kernel_rfl);go_simp;exact hK _ _ (trivial) rfl (H.glob)
   case o6 => have e93 := H.iz hd 5 93 rfl rfl rfl (by kernel_rfl);go_simp;exact hK _ _ (trivial) rfl (H.glob)
   case o7 => have e94 := H.iz hd 6 94 rfl rfl rfl (by kernel_rfl);have d : W.cell? ⟨lb,5,none⟩ = some (.int .i64 0) := (H.glob.cell (p := ⟨lb,5,none⟩) HW2.out.1).trans HW2.out.2.2;go_simp;exact hK _ _ (trivial) rfl (H.glob)
   case o8 => have e91 := H.iz hd 3 91 rfl rfl rfl (by kernel_rfl);go_simp;exact hK _ _ (trivial) rfl (H.glob)
   case o9 => have e95 := H.iz hd 7 95 rfl rfl rfl (by kernel_rfl);go_simp;exact hK _ _ (trivial) rfl (H.glob)
   case he =>
    intro vs W hlen hv
    match vs,hlen,hv with
    | [x0_,x1_,x2_,x3_,x4_,x5_,x6_,x7_,x8_,x9_],_,hv =>
    obtain rfl := isv hv 0 rfl rfl;obtain rfl := isv hv 1 rfl rfl;obtain rfl := isv hv 2 rfl rfl;obtain rfl := isv hv 3 rfl rfl;obtain rfl := isv hv 4 rfl rfl;obtain rfl := isv hv 5 rfl rfl;obtain rfl := isv hv 6 rfl rfl;obtain rfl := isv hv 7 rfl rfl;obtain rfl := isv hv 8 rfl rfl;obtain rfl := isv hv 9 rfl rfl
    intro L hall hG
    clear hv hlen
    have HB3 := Lib.hid hG
    clear hG hall
    simp only [fill,if_true]
    simp [Act.put]
    go_wp2_with (fail)
    go_ret2
    exact ⟨rfl,HRet.out _ _ _ _ HE2.out HB3.out⟩
set_option maxRecDepth 100000 in
set_option maxHeartbeats 8000000 in
theorem lfence_v (w : World) (lb mb : Nat) (S : Nat -> Prop) (vs0 is : List Int) (mk : Int -> Nat -> Int) (F : Int -> List (Int × Int)) (lo st fl fe : Int) (c cap : Nat) (A : Option Addr)
  (h : Blk w lb (lsCells ⟨some ⟨mb,0,none⟩,(c : Int),.slice A 0 cap,false,0⟩) 175) (hm : MemP w mb S vs0 is mk F lo st fl fe) (hS : ¬ S lb) (hp : 0 < vs0.length) (hc : c <= 64) (hst : st <= 1000000) (hfe : fe <= 1000000) :
  Calls Tryz.prog 125 #[.pointer (some ⟨lb,0,none⟩)] w fun e w' => e = .returned (.tuple #[.bool true,.int .i64 0]) /\ FeQ w mb S vs0 mk F lo st fl fe c w' /\ Keeps (fun i => i = lb ∨ S i) w w' := by
 have HSz := Lib.hid (size_m hm)
 have hsz : ¬ (8 * (vs0.length : Int) = 0) := by omega
 obtain ⟨sz,hsze⟩ : ∃ sz,8 * (vs0.length : Int) = sz := ⟨_,rfl⟩
 rw [hsze] at HSz hsz
 have c0 : w.cell? ⟨lb,0,none⟩ = some (.pointer (some ⟨mb,0,none⟩)) := (h.cell 0).trans rfl
 have c2 : w.cell? ⟨lb,2,none⟩ = some (.slice A 0 cap) := (h.cell 2).trans rfl
 have c3 : w.cell? ⟨lb,3,none⟩ = some (.bool true) := (h.cell 3).trans rfl
 have c4 : w.cell? ⟨lb,4,none⟩ = some (.bool false) := (h.cell 4).trans rfl
 obtain ⟨C,hC⟩ : ∃ C : Bool -> Array Value,(fun q => lsCells ⟨some ⟨mb,0,none⟩,(c : Int),.slice A 0 cap,q,0⟩) = C := ⟨_,rfl⟩
 have HC := Lib.hid (show (∀ q,(C q)[0]? = some (.pointer (some ⟨mb,0,none⟩))) /\ (∀ q,(C q)[1]? = some (.int .i64 (c : Int))) /\ (∀ q,∃ u,(C q)[4]? = some u) /\ (∀ q,∃ u,(C q)[5]? = some u) from by rw [<- hC];exact ⟨fun _ => rfl,fun _ => rfl,fun _ => ⟨_,rfl⟩,fun _ => ⟨_,rfl⟩⟩)
 have HSt := Lib.hid (show (∀ q,(C q).setIfInBounds 4 (.bool true) = C true) /\ (∀ q,(C q).setIfInBounds 5 (.int .i64 0) = C q) from by rw [<- hC];exact ⟨fun _ => rfl,fun _ => rfl⟩)
 have HC2 := Lib.hid (show (C true)[4]? = some (.bool true) /\ (C true)[5]? = some (.int .i64 0) from by rw [<- hC];exact ⟨rfl,rfl⟩)
 have HB0 := Lib.hid (show Blk w lb (C false) 175 from by rw [<- hC];exact h)
 have HSn := Lib.hid hS
 obtain ⟨Q,hQ⟩ : ∃ Q,FeQ w mb S vs0 mk F lo st fl fe c = Q := ⟨_,rfl⟩
 have HQ := Lib.hid hQ
 have HQc := Lib.hid (show ∀ W W',Q W -> Keeps (fun i => i = lb) W W' -> Q W' from fun W W' h1 hk => by rw [<- hQ] at h1 ⊢;exact FeQ.kept h.lt hS h1 hk)
 have HCl := Lib.hid (show ∀ W,Keeps (fun i => i = lb) w W -> Calls Tryz.prog 127 #[.pointer (some ⟨mb,0,none⟩),.int .i64 (c : Int)] W fun e w' => e = .returned (.int .i64 0) /\ Q w' /\ Keeps S W w' from fun W hk => by
  refine (fence_m (hm.kept hk (fun i hi e => hS (e ▸ hi))) c hc hst hfe).mono ?_
  rintro e w' ⟨rfl,mk',is',_,_,_,_,S',hm',hS',hk'⟩
  rw [<- hQ]
  exact ⟨rfl,⟨S',mk',is',hm',fun i hi => by rcases hS' i hi with h | h;exact .inl h;exact .inr (Nat.le_trans hk.size h)⟩,hk'⟩)
 clear h hm hS hp hc hst hfe hQ hsze hC
 go_enter Tryz.func125,Tryz.ntmps125
 go_wp2_with (fail)
 refine HSz.out.mono ?_
 rintro e w1 ⟨rfl,rfl⟩
 go_upto_region 1 with (fail)
 refine wp_region_vals [Is (.pointer (some ⟨lb,0,none⟩)),Is (.pointer (some ⟨lb,0,none⟩)),Is (.pointer (some ⟨lb,0,none⟩)),Is (.pointer (some ⟨lb,0,none⟩)),Is (.pointer (some ⟨lb,0,none⟩)),Is (.pointer (some ⟨mb,0,none⟩)),Is (.pointer (some ⟨lb,0,none⟩)),Is (.pointer (some ⟨lb,0,none⟩)),Is (.pointer (some ⟨lb,1,none⟩)),Is (.int .i64 (c : Int)),Is (.int .i64 0),Is (.pointer (some ⟨lb,0,none⟩)),Is (.pointer (some ⟨lb,4,none⟩)),Any,Is (.pointer (some ⟨lb,0,none⟩)),Is (.pointer (some ⟨lb,5,none⟩)),Any]
  (fun _ _ _ => True) (fun L W => LsG w S lb 10 13 C Q L W) (by kernel_rfl) (by kernel_rfl) (by kernel_rfl) ?hst ?h0 ⟨?o0,?o1,?o2,?o3,?o4,?o5,?o6,?o7,?o8,?o9,?o10,?o11,?o12,?o13,?o14,?o15,?o16,trivial⟩ ?he
 any_goals (intro L vs A W H hf hd K hK)
 case hst => repeat' (first | exact trivial | refine ⟨fun _ _ _ _ _ _ h _ => h,?_⟩)
 case h0 =>
  exact LsG.start HB0.out
 case o0 => have e0 : A.tmps[0]?.getD undef = .pointer (some ⟨lb,0,none⟩) := H.old 0 (by kernel_rfl);go_simp;exact hK _ _ (trivial) rfl (H.glob.keep rfl rfl)
 case o1 => have e0 : A.tmps[0]?.getD undef = .pointer (some ⟨lb,0,none⟩) := H.old 0 (by kernel_rfl);go_simp;exact hK _ _ (trivial) rfl (H.glob.keep rfl rfl)
 case o2 => have e0 : A.tmps[0]?.getD undef = .pointer (some ⟨lb,0,none⟩) := H.old 0 (by kernel_rfl);go_simp;exact hK _ _ (trivial) rfl (H.glob.keep rfl rfl)
 case o3 => have e6 := H.iz hd 2 6 rfl rfl rfl (by kernel_rfl);go_simp;exact hK _ _ (trivial) rfl (H.glob.keep rfl rfl)
 case o4 => have e7 := H.iz hd 3 7 rfl rfl rfl (by kernel_rfl);go_simp;exact hK _ _ (trivial) rfl (H.glob.keep rfl rfl)
 case o5 => have e8 := H.iz hd 4 8 rfl rfl rfl (by kernel_rfl);have d : W.cell? ⟨lb,0,none⟩ = some (.pointer (some ⟨mb,0,none⟩)) := ((H.glob.b.cell 0).trans (HC.out.1 _));go_simp;exact hK _ _ (trivial) rfl (H.glob.keep rfl rfl)
 case o6 => have e0 : A.tmps[0]?.getD undef = .pointer (some ⟨lb,0,none⟩) := H.old 0 (by kernel_rfl);go_simp;exact hK _ _ (trivial) rfl (H.glob.keep rfl rfl)
 case o7 => have e10 := H.iz hd 6 10 rfl rfl rfl (by kernel_rfl);go_simp;exact hK _ _ (trivial) rfl (H.glob.keep rfl rfl)
 case o8 => have e11 := H.iz hd 7 11 rfl rfl rfl (by kernel_rfl);go_simp;exact hK _ _ (trivial) rfl (H.glob.keep rfl rfl)
 case o9 => have e12 := H.iz hd 8 12 rfl rfl rfl (by kernel_rfl);have d : W.cell? ⟨lb,1,none⟩ = some (.int .i64 (c : Int)) := ((H.glob.b.cell 1).trans (HC.out.2.1 _));go_simp;exact hK _ _ (trivial) rfl (H.glob.keep rfl rfl)
 case o10 => have e9 := H.iz hd 5 9 rfl rfl rfl (by kernel_rfl);have e13 := H.iz hd 9 13 rfl rfl rfl (by kernel_rfl);have hn := H.glob.n hf;go_simp;refine (HCl.out W hn).mono ?_;rintro e w' ⟨rfl,hQ,hk⟩;go_simp;exact hK _ _ trivial rfl (H.glob.call hQ hk HSn.out (by decide))
 case o11 => have e4 := H.iz hd 0 4 rfl rfl rfl (by kernel_rfl);go_simp;exact hK _ _ (trivial) rfl (H.glob.keep rfl rfl)
 case o12 => have e15 := H.iz hd 11 15 rfl rfl rfl (by kernel_rfl);go_simp;exact hK _ _ (trivial) rfl (H.glob.keep rfl rfl)
 case o13 => have e16 := H.iz hd 12 16 rfl rfl rfl (by kernel_rfl);obtain ⟨u,d0⟩ := HC.out.2.2.1 (L 13);have d := (H.glob.b.cell 4).trans d0;have f := H.glob.b.frozen 4;go_simp;exact hK undef _ trivial trivial (H.glob.over HQc.out 4 _ HSt.out.1 (by decide))
 case o14 => have e5 := H.iz hd 1 5 rfl rfl rfl (by kernel_rfl);go_simp;exact hK _ _ (trivial) rfl (H.glob.keep rfl rfl)
 case o15 => have e17 := H.iz hd 14 17 rfl rfl rfl (by kernel_rfl);go_simp;exact hK _ _ (trivial) rfl (H.glob.keep rfl rfl)
 case o16 => have e18 := H.iz hd 15 18 rfl rfl rfl (by kernel_rfl);have e14 := H.iz hd 10 14 rfl rfl rfl (by kernel_rfl);obtain ⟨u,d0⟩ := HC.out.2.2.2 (L 13);have d := (H.glob.b.cell 5).trans d0;have f := H.glob.b.frozen 5;go_simp;exact hK undef _ trivial trivial (H.glob.store HQc.out 5 _ HSt.out.2 (by decide))
 case he =>
  intro vs W hlen hv
  match vs,hlen,hv with
  | [x0_,x1_,x2_,x3_,x4_,x5_,x6_,x7_,x8_,x9_,x10_,x11_,x12_,x13_,x14_,x15_,x16_],_,hv =>
  obtain rfl := isv hv 0 rfl rfl;obtain rfl := isv hv 1 rfl rfl;obtain rfl := isv hv 2 rfl rfl;obtain rfl := isv hv 3 rfl rfl;obtain rfl := isv hv 4 rfl rfl;obtain rfl := isv hv 5 rfl rfl;obtain rfl := isv hv 6 rfl rfl;obtain rfl := isv hv 7 rfl rfl;obtain rfl := isv hv 8 rfl rfl;obtain rfl := isv hv 9 rfl rfl;obtain rfl := isv hv 10 rfl rfl;obtain rfl := isv hv 11 rfl rfl;obtain rfl := isv hv 12 rfl rfl;obtain rfl := isv hv 14 rfl rfl;obtain rfl := isv hv 15 rfl rfl
  intro L hall hG
  clear hv hlen
  have HG := Lib.hid (hG.y (hall 10 (by decide)))
  have hGb := hG.b
  rw [hall 13 (by decide)] at hGb
  have HGb := Lib.hid hGb
  have HGk := Lib.hid hG.k
  clear hG hall hGb
  simp only [fill,if_true]
  simp [Act.put]
  obtain ⟨W2,rfl⟩ : ∃ W2,W2 = W := ⟨_,rfl⟩
  have HW2 := Lib.hid (show lb < W2.heap.size /\ W2.cell? ⟨lb,4,none⟩ = some (.bool true) /\ W2.cell? ⟨lb,5,none⟩ = some (.int .i64 0) from ⟨HGb.out.lt,(HGb.out.cell 4).trans HC2.out.1,(HGb.out.cell 5).trans HC2.out.2⟩)
  have HRet := Lib.hid (show ∀ W',Below W2.heap.size W2 W' -> FeQ w mb S vs0 mk F lo st fl fe c W' /\ Keeps (fun i => i = lb ∨ S i) w W' from fun W' hB => ⟨by rw [HQ.out];exact HQc.out _ _ HG.out ((Keeps.of_below' hB).mono (fun _ _ e => e.elim)),HGk.out.trans ((Keeps.of_below' hB).mono (fun _ _ e => e.elim))⟩)
  clear c0 c2 c3 c4 HGb HGk HG HQ HQc HCl
  go_upto_region 11 with (fail)
  refine wp_region_vals [Is (.pointer (some ⟨lb,0,none⟩)),Is (.pointer (some ⟨lb,0,none⟩)),Is (.pointer (some ⟨lb,4,none⟩)),Is (.bool true),Is (.pointer (some ⟨lb,0,none⟩)),Is (.pointer (some ⟨lb,0,none⟩)),Is (.pointer (some ⟨lb,5,none⟩)),Is (.int .i64 0),Is (.bool true),Is (.int .i64 0)]
   (fun _ _ _ => True) (fun _ W => Below W2.heap.size W2 W) (by kernel_rfl) (by kernel_rfl) (by kernel_rfl) ?hst ?h0 ⟨?o0,?o1,?o2,?o3,?o4,?o5,?o6,?o7,?o8,?o9,trivial⟩ ?he
  any_goals (intro L vs A W H hf hd K hK)
  case hst => repeat' (first | exact trivial | refine ⟨fun _ _ _ _ _ _ h _ => h,?_⟩)
  case h0 =>
   exact (Below.refl _ W2).drew
  case o0 => have e0 : A.tmps[0]?.getD undef = .pointer (some ⟨lb,0,none⟩) := H.old 0 (by kernel_rfl);go_simp;exact hK _ _ (trivial) rfl (H.glob)
  case o1 => have e88 := H.iz hd 0 88 rfl rfl rfl (by kernel_rfl);go_simp;exact hK _ _ (trivial) rfl (H.glob)
  case o2 => have e89 := H.iz hd 1 89 rfl rfl rfl (by kernel_rfl);go_simp;exact hK _ _ (trivial) rfl (H.glob)
  case o3 => have e90 := H.iz hd 2 90 rfl rfl rfl (by kernel_rfl);have d : W.cell? ⟨lb,4,none⟩ = some (.bool true) := (H.glob.cell (p := ⟨lb,4,none⟩) HW2.out.1).trans HW2.out.2.1;go_simp;exact hK _ _ (trivial) rfl (H.glob)
  case o4 => have e0 : A.tmps[0]?.getD undef = .pointer (some ⟨lb,0,none⟩) := H.old 0 (by kernel_rfl);go_simp;exact hK _ _ (trivial) rfl (H.glob)
  case o5 => have e92 := H.iz hd 4 92 rfl rfl rfl (by kernel_rfl);go_simp;exact hK _ _ (trivial) rfl (H.glob)
  case o6 => have e93 := H.iz hd 5 93 rfl rfl rfl (by kernel_rfl);go_simp;exact hK _ _ (trivial) rfl (H.glob)
  case o7 => have e94 := H.iz hd 6 94 rfl rfl rfl (by kernel_rfl);have d : W.cell? ⟨lb,5,none⟩ = some (.int .i64 0) := (H.glob.cell (p := ⟨lb,5,none⟩) HW2.out.1).trans HW2.out.2.2;go_simp;exact hK _ _ (trivial) rfl (H.glob)
  case o8 => have e91 := H.iz hd 3 91 rfl rfl rfl (by kernel_rfl);go_simp;exact hK _ _ (trivial) rfl (H.glob)
  case o9 => have e95 := H.iz hd 7 95 rfl rfl rfl (by kernel_rfl);go_simp;exact hK _ _ (trivial) rfl (H.glob)
  case he =>
   intro vs W hlen hv
   match vs,hlen,hv with
   | [x0_,x1_,x2_,x3_,x4_,x5_,x6_,x7_,x8_,x9_],_,hv =>
   obtain rfl := isv hv 0 rfl rfl;obtain rfl := isv hv 1 rfl rfl;obtain rfl := isv hv 2 rfl rfl;obtain rfl := isv hv 3 rfl rfl;obtain rfl := isv hv 4 rfl rfl;obtain rfl := isv hv 5 rfl rfl;obtain rfl := isv hv 6 rfl rfl;obtain rfl := isv hv 7 rfl rfl;obtain rfl := isv hv 8 rfl rfl;obtain rfl := isv hv 9 rfl rfl
   intro L hall hG
   clear hv hlen
   have HB3 := Lib.hid hG
   clear hG hall
   simp only [fill,if_true]
   simp [Act.put]
   go_wp2_with (fail)
   go_ret2
   exact ⟨rfl,HRet.out _ HB3.out⟩
end Go.Proofs.YtodgfbjjjgohgaaGreat
