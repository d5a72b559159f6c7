/-
  linear.Keys: contract.
-/
import Derived.Test.YtdmcakoaakinnaaQp
import Derived.Test.YtdmcakoaakinnaaSr
namespace Go.Proofs.Ytdmcakoaakinnaa
open Go.RowKit Go.Maps
attribute [local go_sem] Oper.semAt_some
set_option linter.unusedVariables false
set_option linter.unusedSimpArgs false

def U64P (a : Int) : Prop := 0 ≤ a ∧ a ≤ 18446744073709551615
/-- a map of numbers, as a set -/
def SetK (w : World) (b n : Nat) (K : Int → Prop) : Prop := ∃ D : DataW Value, OwnL w b n D ∧ ∀ a, Maps.has D (.int .u64 a) = true ↔ K a
theorem SetK.new (w : World) : SetK (w.alloc (.map #[] 0)) w.heap.size 0 (fun _ => False) := ⟨.map [], World.ownsMap_made w _ _ _, fun a => by simp [Maps.has]⟩
theorem SetK.keeps {S : Nat → Prop} {w w' : World} {b n : Nat} {K : Int → Prop} (h : SetK w b n K) (hk : Keeps S w w') (hn : ¬ S b) : SetK w' b n K := by
  obtain ⟨D, h1, h2⟩ := h
  exact ⟨D, ownL_keeps h1 hk hn, h2⟩
theorem SetK.notBlk {w : World} {b g n : Nat} {K : Int → Prop} {C : Array Value} {t : TypeId} (h : SetK w b n K) (hb : Blk w g C t) : b ≠ g := fun e => by
  obtain ⟨D, ⟨es, clock, hm, _⟩, _⟩ := h
  unfold Blk at hb
  rw [e, hb] at hm
  cases hm
theorem SetK.lt {w : World} {b n : Nat} {K : Int → Prop} (h : SetK w b n K) : b < w.heap.size := by
  obtain ⟨D, h1, _⟩ := h
  exact h1.lt
theorem SetK.mono {w : World} {b n n' : Nat} {K : Int → Prop} (h : SetK w b n K) (hn : n ≤ n') : SetK w b n' K := by
  obtain ⟨D, h1, h2⟩ := h
  exact ⟨D, h1.mono hn, h2⟩
theorem SetK.congr {w : World} {b n : Nat} {K K' : Int → Prop} (h : SetK w b n K) (hK : ∀ a, K a ↔ K' a) : SetK w b n K' := by
  obtain ⟨D, h1, h2⟩ := h
  exact ⟨D, h1, fun a => (h2 a).trans (hK a)⟩
theorem wpList_put_k {ops : Array Oper} {rest : List Oper} {o : Oper} {a : Act} {w : World} {Q : Exit → Act → World → Prop} (hg : o.guard = none) (m x v : Operand) (ho : o.op = .mapUpdate 98 m x v) (b n : Nat) (K : Int → Prop) (k : Int)
    (hm : a.eval m = .map (some b)) (hx : a.eval x = .int .u64 k) (hv : a.eval v = .bool true) (h : SetK w b n K) (hk : U64P k) (hn : n < maxLen)
    (hK : ∀ w', SetK w' b (n + 1) (fun z => z = k ∨ K z) → w.grownBy w' (some b) → wpList Try.prog ops Q rest (a.put o.dst undef) w') : wpList Try.prog ops Q (o :: rest) a w := by
  obtain ⟨D, h1, h2⟩ := h
  have hkey : keyOf Try.prog 24 (.int .u64 k) = some (.int .u64 k) := keyOf_int_mk Try.underlying24 (addr_wf hk.1 hk.2)
  have hM := h1.isMap
  refine wpList_plain hg fun K' hK' => ?_
  obtain ⟨w', hrun, ho', hg'⟩ := h1.update kA Try.underlying98 hn hkey (show RV (.bool true) = some (.held (.bool true), []) from rfl)
  unfold Oper.wp
  simp [execOp, ho, hm, hx, hv, hrun, Result.andThen]
  refine hK' _ _ (hK w' ⟨_, ho', fun z => ?_⟩ hg')
  by_cases e : z = k
  · subst e
    exact ⟨fun _ => .inl rfl, fun _ => has_put_same hM (kA.key hkey) _⟩
  · rw [has_put_other (fun h => e (by cases h; rfl)), h2 z]
    exact ⟨fun h => .inr h, fun h => by rcases h with h | h; exact absurd h e; exact h⟩
def inKeys (l : List Pr) (a : Int) : Prop := ∃ p ∈ l, p.key = a
def inCall (d : Dn) (a : Int) : Prop := ((d.op = 1 ∨ d.op = 2 ∨ d.op = 3) ∧ d.key = a) ∨ (d.op = 4 ∧ wholeP d = true ∧ inKeys d.ps a)
def inEra (e : Er) (a : Int) : Prop := inKeys e.af a ∨ ∃ d ∈ e.cs, inCall d a
def named (first : List Pr) (l : List Er) (a : Int) : Prop := inKeys first a ∨ ∃ e ∈ l, inEra e a
def DnR (d : Dn) : Prop := U64P d.key ∧ ∀ p ∈ d.ps, U64P p.key
def ErR (e : Er) : Prop := (∀ p ∈ e.af, U64P p.key) ∧ ∀ d ∈ e.cs, DnR d
theorem PrsAt.at_ {w : World} {a : Option Addr} {l : List Pr} (h : PrsAt w a l) {k : Nat} (hk : k < l.length) : ∃ g o, a = some ⟨g, o, none⟩ ∧ g < w.heap.size ∧ cellsAt w g (o + k * 2) (prCells (l.getD k prZ)) := by
  obtain ⟨g, o, e, hg, hc⟩ := h (by omega)
  refine ⟨g, o, e, hg, fun j v hj => ?_⟩
  have hjn : j < 2 := by have := (Array.getElem?_eq_some_iff.1 hj).1; exact this
  rw [hc k hk j hjn]; exact hj
theorem mem_takeS {α : Type} (l : List α) (z x : α) (k : Nat) (h : k < l.length) : x ∈ l.take (k + 1) ↔ x ∈ l.take k ∨ x = l.getD k z := by
  rw [List.take_add_one, List.getElem?_eq_getElem h, List.mem_append, getD_eq l k z h]
  simp
/-- what a call of 'name' leaves -/
def NameQ (ml n : Nat) (K : Int → Prop) (l : List Pr) (w : World) (e : Ending) (w' : World) : Prop :=
  e = .returned (.tuple #[]) ∧ SetK w' ml (n + l.length) (fun a => inKeys l a ∨ K a) ∧ Keeps (fun k => k = ml) w w'
set_option maxRecDepth 100000 in
set_option maxHeartbeats 4000000 in
theorem name_v (l : List Pr) (a : Option Addr) (cap bc ml n : Nat) (K : Int → Prop) (w : World) (hm : n + l.length ≤ 1000000) (hR : ∀ p ∈ l, U64P p.key) (hc : Blk w bc #[.map (some ml)] 98) (hs : SetK w ml n K) (hE : PrsAt w a l) (hml : ∀ g o, 0 < l.length → a = some ⟨g, o, none⟩ → g ≠ ml) :
    Calls Try.prog 52 #[.slice a l.length cap, .pointer (some ⟨bc, 0, none⟩)] w (NameQ ml n K l w) := by
  have HE := Lib.hid hE
  have HR := Lib.hid (And.intro hR hml)
  have HC := Lib.hid hc
  have HS := Lib.hid hs
  clear hE hR hc hs hml
  go_enter Try.func52, Try.ntmps52
  go_wp2_with (fail)
  go_loopw [7] (fun iv wr => ∃ k : Nat, k ≤ l.length ∧ iv = .int .i64 k ∧ SetK wr ml (n + k) (fun a => inKeys (l.take k) a ∨ K a) ∧ Keeps (fun i => i = ml) w wr) (fun iv _ => l.length - (intOf iv).toNat)
  case atStart => exact ⟨0, Nat.zero_le _, rfl, HS.out.congr (fun a => ⟨fun h => .inr h, fun h => by rcases h with ⟨p, h1, _⟩ | h; exact absurd h1 List.not_mem_nil; exact h⟩), Keeps.refl _ _⟩
  case round =>
    obtain ⟨k, hk, rfl, hset, hkp⟩ := hrel
    have HSr := Lib.hid hset
    have HKp := Lib.hid hkp
    by_cases hlt : k < l.length
    · obtain ⟨g, o, rfl, hg, hc⟩ := (PrsAt.at_ (show PrsAt wr a l from RowAt.kept HE.out hkp (fun g o e => HR.out.2 g o (by omega) e)) hlt)
      obtain ⟨d, hd⟩ : ∃ x, l.getD k prZ = x := ⟨_, rfl⟩
      rw [hd] at hc
      have HCl := Lib.hid hc
      have HLt := Lib.hid hlt
      have HD := Lib.hid hd
      have HMem := Lib.hid (show d ∈ l by rw [← hd]; exact getD_memL l k prZ hlt)
      have hkb : (k : Int) < (l.length : Int) := by omega
      have hk6 : (k : Int) ≤ 1000000 := by omega
      clear hc hd hset hkp hlt hk
      go_upto_region 2 with (fail)
      go_step
      refine wpList_idx_pr rfl rfl (.tmp 5) (.tmp 7) 9 rfl rfl rfl g o l.length cap k d (ev_tmp (by simp)) (ev_tmp (by simp)) HLt.out (by simp) HCl.out ?_
      refine wpList_anew_pr rfl rfl 4 (.tmp 10) rfl rfl rfl d (ev_tmp (by simp [Act.put])) (by simp [Act.put]) ?_
      go_upto_region 3 with (fail)
      have hb := Blk.new wr (prCells d) 59
      have hk1 : Keeps (fun i => i = ml) wr (wr.alloc (.cells (prCells d) 59)) := (Keeps.refl _ wr).alloc _
      have hs1 := HSr.out.keeps ((Keeps.refl (fun _ => False) wr).alloc (.cells (prCells d) 59)) (fun h => h)
      generalize wr.alloc (.cells (prCells d) 59) = W1 at hb hk1 hs1 ⊢
      generalize wr.heap.size = nb at hb ⊢
      have HK1 := Lib.hid (HKp.out.trans hk1)
      have HS1 := Lib.hid hs1
      have c1 : W1.cell? ⟨bc, 0, none⟩ = some (.map (some ml)) := by rw [(HC.out.kept HK1.out (fun e => HS.out.notBlk HC.out e.symm)).cell]; rfl
      have c2 : W1.cell? ⟨nb, 0, none⟩ = some (.int .u64 d.key) := by rw [hb.cell]; rfl
      clear hb hk1 hs1
      go_step
      refine wpList_plain rfl (fun K hK => ?_)
      go_simp
      refine hK _ _ ?_
      clear hK K
      refine wpList_plain rfl (fun K hK => ?_)
      go_simp
      refine hK _ _ ?_
      clear hK K
      refine wpList_plain rfl (fun K hK => ?_)
      go_simp
      refine hK _ _ ?_
      clear hK K
      refine wpList_put_k rfl (.tmp 11) (.tmp 13) (.const (.bool true)) rfl ml (n + k) _ d.key (ev_tmp (by simp)) (ev_tmp (by simp)) rfl HS1.out (HR.out.1 d HMem.out) (by have := HLt.out; unfold maxLen; omega) ?_
      intro w2 hs2 hg2
      have HS2 := Lib.hid hs2
      have HK2 := Lib.hid (HK1.out.trans ((Keeps.refl _ W1).grown hg2 (fun k e => by cases e; exact .inl rfl)))
      clear hs2 hg2 c1 c2
      simp only [Act.put]
      go_wp2_with (fail)
      go_roundw
      case rel => exact ⟨k + 1, HLt.out, by go_num, by
        refine HS2.out.congr (fun a => ?_)
        unfold inKeys
        constructor
        · rintro (h | ⟨p, h1, h2⟩ | h)
          · exact .inl ⟨d, (mem_takeS l prZ d k HLt.out).2 (.inr HD.out.symm), h.symm⟩
          · exact .inl ⟨p, (mem_takeS l prZ p k HLt.out).2 (.inl h1), h2⟩
          · exact .inr h
        · rintro (⟨p, h1, h2⟩ | h)
          · rcases (mem_takeS l prZ p k HLt.out).1 h1 with h3 | h3
            · exact Or.inr (Or.inl ⟨p, h3, h2⟩)
            · exact Or.inl (by rw [← h2, h3, HD.out])
          · exact Or.inr (Or.inr h), HK2.out⟩
      case measure => have := HLt.out; simp [intOf]; omega
    · obtain rfl : k = l.length := by omega
      have HSf := Lib.hid (show SetK wr ml (n + l.length) (fun a => inKeys l a ∨ K a) from by have := HSr.out; rwa [List.take_length] at this)
      have hkb : ¬ ((l.length : Int) < (l.length : Int)) := by omega
      clear hset hkp hlt hk
      go_wp2_with (fail)
      refine bodyPost_end (results_none rfl _ _ _) rfl ?_
      exact ⟨rfl, HSf.out, HKp.out⟩
def nmE (e : Er) : Nat := e.af.length + (e.cs.map (fun d => d.ps.length + 1)).sum
def nmC (cs : List Dn) : Nat := (cs.map (fun d => d.ps.length + 1)).sum
def KeysQ (first : List Pr) (l : List Er) (w : World) (e : Ending) (w' : World) : Prop :=
  ∃ u xs, e = .returned u ∧ xs.Nodup ∧ (∀ a, a ∈ xs ↔ named first l a) ∧ w'.ownsRow w.heap.size 24 1 u (srt xs).length ((srt xs).map (Value.int .u64)) ∧ Below w.heap.size w w'
theorem sum_takeS {α : Type} (l : List α) (z : α) (f : α → Nat) (k : Nat) (h : k < l.length) : ((l.take (k + 1)).map f).sum = ((l.take k).map f).sum + f (l.getD k z) := by
  rw [List.take_add_one, List.getElem?_eq_getElem h, List.map_append, getD_eq l k z h]
  simp
theorem sum_take_le {α : Type} (f : α → Nat) : ∀ (l : List α) (k : Nat), ((l.take k).map f).sum ≤ (l.map f).sum
  | [], k => by simp
  | x :: r, 0 => by simp
  | x :: r, k + 1 => by
    have := sum_take_le f r k
    rw [List.take_succ_cons, List.map_cons, List.map_cons, List.sum_cons, List.sum_cons]
    omega
theorem prs_ne {w : World} {a : Option Addr} {l : List Pr} (h : PrsAt w a l) {ml : Nat} (hm : w.heap.size ≤ ml) : ∀ g o, 0 < l.length → a = some ⟨g, o, none⟩ → g ≠ ml := fun g o hl e => by
  obtain ⟨g', o', e', hg, _⟩ := h hl
  rw [e] at e'
  cases e'
  omega
set_option maxRecDepth 100000 in
set_option maxHeartbeats 8000000 in
theorem keysL_v (first : List Pr) (l : List Er) (a1 a2 : Option Addr) (cap1 cap2 : Nat) (w : World) (hn : first.length + (l.map nmE).sum ≤ 1000000) (hlen : l.length ≤ 1000000) (hRf : ∀ p ∈ first, U64P p.key) (hR : ∀ e ∈ l, ErR e) (hL : ∀ e ∈ l, ErL e) (hF : PrsAt w a1 first) (hE : ErsAt w a2 l) :
    Calls Try.prog 32 #[.slice a1 first.length cap1, .slice a2 l.length cap2] w (KeysQ first l w) := by
  have HE := Lib.hid hE
  have HF := Lib.hid hF
  have HR := Lib.hid (And.intro hRf (And.intro hR hL))
  have HNm := Lib.hid hn
  have HB0 := Lib.hid (Below.refl w.heap.size w)
  have hmk : ∀ W : World, (Instr.makeMap 98 none).run Try.prog W = .ok (.map (some W.heap.size)) (W.alloc (.map #[] 0)) := fun W => run_makeMap _ W
  clear hE hF hRf hR hL hn
  go_enter Try.func32, Try.ntmps32
  go_upto_region 3 with (fail)
  have hs1 : SetK ((w.alloc (.map #[] 0)).alloc (.cells #[.map (some w.heap.size)] 98)) w.heap.size 0 (fun _ => False) := (SetK.new w).keeps ((Keeps.refl (fun _ => False) _).alloc _) (fun h => h)
  have hc1 : Blk ((w.alloc (.map #[] 0)).alloc (.cells #[.map (some w.heap.size)] 98)) (w.heap.size + 1) #[.map (some w.heap.size)] 98 := Blk.newAt (by simp) _ _
  have hB1 : Below w.heap.size w ((w.alloc (.map #[] 0)).alloc (.cells #[.map (some w.heap.size)] 98)) := (HB0.out.alloc (Nat.le_refl _) _).alloc (by simp) _
  generalize (w.alloc (.map #[] 0)).alloc (.cells #[.map (some w.heap.size)] 98) = W1 at hs1 hc1 hB1 ⊢
  obtain ⟨ml, hml⟩ : ∃ ml, w.heap.size = ml := ⟨_, rfl⟩
  rw [hml] at hs1 hc1
  simp only [hml]
  obtain ⟨bc, hbc⟩ : ∃ bc, ml + 1 = bc := ⟨_, rfl⟩
  rw [hbc] at hc1
  simp only [hbc]
  have HMl := Lib.hid (show w.heap.size ≤ ml from by omega)
  have HC1 := Lib.hid hc1
  have HB1 := Lib.hid hB1
  have HS1 := Lib.hid hs1
  have HNb := Lib.hid (show bc ≠ ml from fun e => hs1.notBlk hc1 e.symm)
  clear hs1 hc1 hB1 hml hbc
  go_wp2_with (fail)
  refine (name_v first a1 cap1 bc ml 0 _ W1 (by have := HNm.out; omega) HR.out.1 HC1.out HS1.out (HF.out.below HB1.out) (prs_ne HF.out HMl.out)).mono ?_
  rintro e W2 ⟨rfl, hs2, hk2⟩
  have HS2 := Lib.hid hs2
  have HK2 := Lib.hid hk2
  clear hs2 hk2
  go_wp2_with (fail)
  go_loopw [18] (fun iv wr => ∃ k n : Nat, k ≤ l.length ∧ iv = .int .i64 k ∧ SetK wr ml n (fun a => inKeys first a ∨ ∃ e ∈ l.take k, inEra e a) ∧ Keeps (fun i => i = ml) W1 wr ∧ n ≤ first.length + ((l.take k).map nmE).sum) (fun iv _ => l.length - (intOf iv).toNat)
  case atStart => exact ⟨0, 0 + first.length, Nat.zero_le _, rfl, HS2.out.congr (fun a => ⟨fun h => .inl (by rcases h with h | h; exact h; exact h.elim), fun h => .inl (by rcases h with h | ⟨e, h, _⟩; exact h; exact absurd h List.not_mem_nil)⟩), HK2.out, by simp⟩
  case round =>
    obtain ⟨k, n, hk, rfl, hset, hkp, hnn⟩ := hrel
    have HSr := Lib.hid hset
    have HKp := Lib.hid hkp
    have HNn := Lib.hid hnn
    have HBr := Lib.hid (below_keeps HB1.out (Nat.le_refl _) hkp (fun i hi => by rw [hi]; exact HMl.out))
    clear hset hkp hnn
    by_cases hlt : k < l.length
    · obtain ⟨g, o, hca, hg, hc⟩ := (HE.out.below HBr.out).at_ hlt
      obtain ⟨d, hd⟩ : ∃ x, l.getD k erZ = x := ⟨_, rfl⟩
      subst hca
      rw [hd] at hc
      have HCl := Lib.hid hc
      have HLt := Lib.hid hlt
      have HD := Lib.hid hd
      have HMem := Lib.hid (show d ∈ l by rw [← hd]; exact getD_memL l k erZ hlt)
      have HDn := Lib.hid (show n + nmE d ≤ first.length + ((l.take (k + 1)).map nmE).sum ∧ first.length + ((l.take (k + 1)).map nmE).sum ≤ 1000000 from by
        have h1 := sum_takeS l erZ nmE k hlt
        have h2 := sum_take_le nmE l (k + 1)
        have h3 := HNm.out
        have h4 := HNn.out
        rw [hd] at h1
        omega)
      have hkb : (k : Int) < (l.length : Int) := by omega
      have hk6 : (k : Int) ≤ 1000000 := by omega
      clear hc hd hlt hk
      go_upto_region 6 with (fail)
      go_step
      refine wpList_idx_er rfl rfl (.tmp 16) (.tmp 18) 20 rfl rfl rfl g o l.length cap2 k d (ev_tmp (by simp)) (ev_tmp (by simp)) HLt.out (by simp) HCl.out ?_
      refine wpList_anew_er rfl rfl 8 (.tmp 21) rfl rfl rfl d (ev_tmp (by simp [Act.put])) (by simp [Act.put]) ?_
      go_upto_region 7 with (fail)
      have hb := Blk.new wr (erCells d) 46
      have hk1 : Keeps (fun i => i = ml) wr (wr.alloc (.cells (erCells d) 46)) := (Keeps.refl _ wr).alloc _
      have hs1 := HSr.out.keeps ((Keeps.refl (fun _ => False) wr).alloc (.cells (erCells d) 46)) (fun h => h)
      generalize wr.alloc (.cells (erCells d) 46) = W3 at hb hk1 hs1 ⊢
      generalize wr.heap.size = nd at hb ⊢
      have HK3 := Lib.hid (HKp.out.trans hk1)
      have HS3 := Lib.hid hs1
      have HBd := Lib.hid hb
      have HB3 := Lib.hid (below_keeps HB1.out (Nat.le_refl _) HK3.out (fun i hi => by rw [hi]; exact HMl.out))
      have c1 : W3.cell? ⟨nd, 1, none⟩ = some (.slice d.aa d.af.length d.ac) := by rw [hb.cell]; rfl
      clear hb hk1 hs1
      go_wp2_with (fail)
      refine (name_v d.af d.aa d.ac bc ml n _ W3 (by have := HDn.out; unfold nmE at this; omega) (HR.out.2.1 d HMem.out).1 (HC1.out.kept HK3.out HNb.out) HS3.out ((HE.out.2 d HMem.out).2.below HB3.out) (prs_ne (HE.out.2 d HMem.out).2 HMl.out)).mono ?_
      rintro e W4 ⟨rfl, hs4, hk4⟩
      have HS4 := Lib.hid hs4
      have HK4 := Lib.hid (HK3.out.trans hk4)
      have hnd : nd ≠ ml := fun e => HS3.out.notBlk HBd.out e.symm
      have HBd4 := Lib.hid (HBd.out.kept hk4 hnd)
      have c0 : W4.cell? ⟨nd, 0, none⟩ = some (.slice d.ca d.cs.length d.cc) := by rw [HBd4.out.cell]; rfl
      clear hs4 hk4 c1 hnd
      go_wp2_with (fail)
      clear c0
      go_loopw [29] (fun jv wr2 => ∃ j n2 : Nat, j ≤ d.cs.length ∧ jv = .int .i64 j ∧ SetK wr2 ml n2 (fun a => (inKeys d.af a ∨ inKeys first a ∨ ∃ e ∈ l.take k, inEra e a) ∨ ∃ c ∈ d.cs.take j, inCall c a) ∧ Keeps (fun i => i = ml) W4 wr2 ∧ n2 ≤ n + d.af.length + nmC (d.cs.take j)) (fun jv _ => d.cs.length - (intOf jv).toNat)
      case atStart => exact ⟨0, n + d.af.length, Nat.zero_le _, rfl, HS4.out.congr (fun a => ⟨fun h => .inl h, fun h => by rcases h with h | ⟨c, h, _⟩; exact h; exact absurd h List.not_mem_nil⟩), Keeps.refl _ _, by simp [nmC]⟩
      case round =>
        obtain ⟨j, n2, hj, rfl, hset2, hkp2, hn2⟩ := hrel
        have HJn := Lib.hid hn2
        have HKj := Lib.hid (HK4.out.trans hkp2)
        have HSj := Lib.hid hset2
        have HKj' := Lib.hid hkp2
        have HBj := Lib.hid (below_keeps HB1.out (Nat.le_refl _) HKj.out (fun i hi => by rw [hi]; exact HMl.out))
        have HJm := Lib.hid (show n2 ≤ 1000000 from by
          have h1 := sum_take_le (fun d : Dn => d.ps.length + 1) d.cs j
          have h2 := HDn.out
          unfold nmE at h2
          unfold nmC at hn2
          omega)
        clear hset2 hkp2 hn2
        by_cases hjl : j < d.cs.length
        · obtain ⟨g2, o2, hca2, hg2, hc2⟩ := ((HE.out.2 d HMem.out).1.below HBj.out).at_ hjl
          obtain ⟨c, hd2⟩ : ∃ x, d.cs.getD j dnZ = x := ⟨_, rfl⟩
          rw [hca2]
          rw [hd2] at hc2
          have HCl2 := Lib.hid hc2
          have HLt2 := Lib.hid hjl
          have HD2 := Lib.hid hd2
          have HM2 := Lib.hid (show c ∈ d.cs by rw [← hd2]; exact getD_memL d.cs j dnZ hjl)
          have HRc := Lib.hid ((HR.out.2.1 d HMem.out).2 c HM2.out)
          have hjb : (j : Int) < (d.cs.length : Int) := by omega
          have hj6 : (j : Int) ≤ 1000000 := by
            have h1 := sum_take_le (fun d : Dn => d.ps.length + 1) d.cs j
            have h2 := HDn.out
            have h3 : d.cs.length ≤ (d.cs.map (fun d => d.ps.length + 1)).sum := by
              generalize d.cs = cs
              induction cs with
              | nil => simp
              | cons x r ih => rw [List.map_cons, List.sum_cons, List.length_cons]; omega
            unfold nmE at h2
            omega
          clear hc2 hd2 hjl hj
          go_upto_region 10 with (fail)
          go_step
          refine wpList_idx_dn rfl rfl (.tmp 27) (.tmp 29) 31 rfl rfl rfl g2 o2 d.cs.length d.cc j c (ev_tmp (by simp)) (ev_tmp (by simp)) HLt2.out (by simp) HCl2.out ?_
          refine wpList_anew_dn rfl rfl 10 (.tmp 32) rfl rfl rfl c (ev_tmp (by simp [Act.put])) (by simp [Act.put]) ?_
          go_upto_region 11 with (fail)
          have hb := Blk.new wr (dnCells c) 53
          have hk1 : Keeps (fun i => i = ml) wr (wr.alloc (.cells (dnCells c) 53)) := (Keeps.refl _ wr).alloc _
          have hs1 := HSj.out.keeps ((Keeps.refl (fun _ => False) wr).alloc (.cells (dnCells c) 53)) (fun h => h)
          generalize wr.alloc (.cells (dnCells c) 53) = W5 at hb hk1 hs1 ⊢
          generalize wr.heap.size = np at hb ⊢
          have HK5 := Lib.hid (HKj.out.trans hk1)
          have HK5' := Lib.hid (HKj'.out.trans hk1)
          have HS5 := Lib.hid hs1
          have HBp := Lib.hid hb
          have HB5 := Lib.hid (below_keeps HB1.out (Nat.le_refl _) HK5.out (fun i hi => by rw [hi]; exact HMl.out))
          have c1 : W5.cell? ⟨np, 1, none⟩ = some (.int .i64 c.op) := by rw [hb.cell]; rfl
          clear hb hk1 hs1
          by_cases h1 : c.op = 1
          · have e1 : (c.op == 1) = true := beq_iff_eq.2 h1
            have HOp := Lib.hid (show c.op = 1 ∨ c.op = 2 ∨ c.op = 3 from .inl h1)
            clear h1
            have c2 : W5.cell? ⟨np, 2, none⟩ = some (.int .u64 c.key) := by rw [HBp.out.cell]; rfl
            have c3 : W5.cell? ⟨bc, 0, none⟩ = some (.map (some ml)) := by rw [(HC1.out.kept HK5.out HNb.out).cell]; rfl
            go_upto_region 15 with (fail)
            go_step
            refine wpList_plain rfl (fun K hK => ?_)
            go_simp
            refine hK _ _ ?_
            clear hK K
            refine wpList_plain rfl (fun K hK => ?_)
            go_simp
            refine hK _ _ ?_
            clear hK K
            refine wpList_plain rfl (fun K hK => ?_)
            go_simp
            refine hK _ _ ?_
            clear hK K
            refine wpList_plain rfl (fun K hK => ?_)
            go_simp
            refine hK _ _ ?_
            clear hK K
            refine wpList_put_k rfl (.tmp 40) (.tmp 43) (.const (.bool true)) rfl ml n2 _ c.key (ev_tmp (by simp)) (ev_tmp (by simp)) rfl HS5.out (HRc.out.1) (by have := HJm.out; unfold maxLen; omega) ?_
            intro w6 hs6 hg6
            have HKf := Lib.hid (HK5'.out.trans ((Keeps.refl _ W5).grown hg6 (fun k e => by cases e; exact .inl rfl)))
            have HSf := Lib.hid (show SetK w6 ml (n2 + 1) (fun a => (inKeys d.af a ∨ inKeys first a ∨ ∃ e ∈ l.take k, inEra e a) ∨ ∃ c ∈ d.cs.take (j + 1), inCall c a) from by
              refine hs6.congr (fun a => ?_)
              constructor
              · rintro (h | h | ⟨c', h1, h2⟩)
                · exact Or.inr ⟨c, (mem_takeS d.cs dnZ c j HLt2.out).2 (.inr HD2.out.symm), .inl ⟨HOp.out, h.symm⟩⟩
                · exact Or.inl h
                · exact Or.inr ⟨c', (mem_takeS d.cs dnZ c' j HLt2.out).2 (.inl h1), h2⟩
              · rintro (h | ⟨c', h1, h2⟩)
                · exact Or.inr (Or.inl h)
                · rcases (mem_takeS d.cs dnZ c' j HLt2.out).1 h1 with h3 | h3
                  · exact Or.inr (Or.inr ⟨c', h3, h2⟩)
                  · rw [HD2.out] at h3
                    rw [h3] at h2
                    rcases h2 with ⟨_, h2⟩ | ⟨h2, _⟩
                    · exact Or.inl h2.symm
                    · exact absurd h2 (by have := HOp.out; omega))
            clear hs6 hg6 c2 c3 c1
            simp only [Act.put]
            go_wp2_with (fail)
            go_roundw
            case rel => exact ⟨j + 1, n2 + 1, HLt2.out, by go_num, HSf.out, HKf.out, by
              have h1 := sum_takeS d.cs dnZ (fun d => d.ps.length + 1) j HLt2.out
              rw [HD2.out] at h1
              have := HJn.out
              unfold nmC
              rw [h1]
              unfold nmC at this
              omega⟩
            case measure => have := HLt2.out; simp [intOf]; omega
          have e1 : (c.op == 1) = false := beq_eq_false_iff_ne.2 h1
          by_cases h2 : c.op = 2
          · have e2 : (c.op == 2) = true := beq_iff_eq.2 h2
            have HOp := Lib.hid (show c.op = 1 ∨ c.op = 2 ∨ c.op = 3 from .inr (.inl h2))
            clear h1 h2
            have c2 : W5.cell? ⟨np, 2, none⟩ = some (.int .u64 c.key) := by rw [HBp.out.cell]; rfl
            have c3 : W5.cell? ⟨bc, 0, none⟩ = some (.map (some ml)) := by rw [(HC1.out.kept HK5.out HNb.out).cell]; rfl
            go_upto_region 15 with (fail)
            go_step
            refine wpList_plain rfl (fun K hK => ?_)
            go_simp
            refine hK _ _ ?_
            clear hK K
            refine wpList_plain rfl (fun K hK => ?_)
            go_simp
            refine hK _ _ ?_
            clear hK K
            refine wpList_plain rfl (fun K hK => ?_)
            go_simp
            refine hK _ _ ?_
            clear hK K
            refine wpList_plain rfl (fun K hK => ?_)
            go_simp
            refine hK _ _ ?_
            clear hK K
            refine wpList_put_k rfl (.tmp 40) (.tmp 43) (.const (.bool true)) rfl ml n2 _ c.key (ev_tmp (by simp)) (ev_tmp (by simp)) rfl HS5.out (HRc.out.1) (by have := HJm.out; unfold maxLen; omega) ?_
            intro w6 hs6 hg6
            have HKf := Lib.hid (HK5'.out.trans ((Keeps.refl _ W5).grown hg6 (fun k e => by cases e; exact .inl rfl)))
            have HSf := Lib.hid (show SetK w6 ml (n2 + 1) (fun a => (inKeys d.af a ∨ inKeys first a ∨ ∃ e ∈ l.take k, inEra e a) ∨ ∃ c ∈ d.cs.take (j + 1), inCall c a) from by
              refine hs6.congr (fun a => ?_)
              constructor
              · rintro (h | h | ⟨c', h1, h2⟩)
                · exact Or.inr ⟨c, (mem_takeS d.cs dnZ c j HLt2.out).2 (.inr HD2.out.symm), .inl ⟨HOp.out, h.symm⟩⟩
                · exact Or.inl h
                · exact Or.inr ⟨c', (mem_takeS d.cs dnZ c' j HLt2.out).2 (.inl h1), h2⟩
              · rintro (h | ⟨c', h1, h2⟩)
                · exact Or.inr (Or.inl h)
                · rcases (mem_takeS d.cs dnZ c' j HLt2.out).1 h1 with h3 | h3
                  · exact Or.inr (Or.inr ⟨c', h3, h2⟩)
                  · rw [HD2.out] at h3
                    rw [h3] at h2
                    rcases h2 with ⟨_, h2⟩ | ⟨h2, _⟩
                    · exact Or.inl h2.symm
                    · exact absurd h2 (by have := HOp.out; omega))
            clear hs6 hg6 c2 c3 c1
            simp only [Act.put]
            go_wp2_with (fail)
            go_roundw
            case rel => exact ⟨j + 1, n2 + 1, HLt2.out, by go_num, HSf.out, HKf.out, by
              have h1 := sum_takeS d.cs dnZ (fun d => d.ps.length + 1) j HLt2.out
              rw [HD2.out] at h1
              have := HJn.out
              unfold nmC
              rw [h1]
              unfold nmC at this
              omega⟩
            case measure => have := HLt2.out; simp [intOf]; omega
          have e2 : (c.op == 2) = false := beq_eq_false_iff_ne.2 h2
          by_cases h3 : c.op = 3
          · have e3 : (c.op == 3) = true := beq_iff_eq.2 h3
            have HOp := Lib.hid (show c.op = 1 ∨ c.op = 2 ∨ c.op = 3 from .inr (.inr h3))
            clear h1 h2 h3
            have c2 : W5.cell? ⟨np, 2, none⟩ = some (.int .u64 c.key) := by rw [HBp.out.cell]; rfl
            have c3 : W5.cell? ⟨bc, 0, none⟩ = some (.map (some ml)) := by rw [(HC1.out.kept HK5.out HNb.out).cell]; rfl
            go_upto_region 15 with (fail)
            go_step
            refine wpList_plain rfl (fun K hK => ?_)
            go_simp
            refine hK _ _ ?_
            clear hK K
            refine wpList_plain rfl (fun K hK => ?_)
            go_simp
            refine hK _ _ ?_
            clear hK K
            refine wpList_plain rfl (fun K hK => ?_)
            go_simp
            refine hK _ _ ?_
            clear hK K
            refine wpList_plain rfl (fun K hK => ?_)
            go_simp
            refine hK _ _ ?_
            clear hK K
            refine wpList_put_k rfl (.tmp 40) (.tmp 43) (.const (.bool true)) rfl ml n2 _ c.key (ev_tmp (by simp)) (ev_tmp (by simp)) rfl HS5.out (HRc.out.1) (by have := HJm.out; unfold maxLen; omega) ?_
            intro w6 hs6 hg6
            have HKf := Lib.hid (HK5'.out.trans ((Keeps.refl _ W5).grown hg6 (fun k e => by cases e; exact .inl rfl)))
            have HSf := Lib.hid (show SetK w6 ml (n2 + 1) (fun a => (inKeys d.af a ∨ inKeys first a ∨ ∃ e ∈ l.take k, inEra e a) ∨ ∃ c ∈ d.cs.take (j + 1), inCall c a) from by
              refine hs6.congr (fun a => ?_)
              constructor
              · rintro (h | h | ⟨c', h1, h2⟩)
                · exact Or.inr ⟨c, (mem_takeS d.cs dnZ c j HLt2.out).2 (.inr HD2.out.symm), .inl ⟨HOp.out, h.symm⟩⟩
                · exact Or.inl h
                · exact Or.inr ⟨c', (mem_takeS d.cs dnZ c' j HLt2.out).2 (.inl h1), h2⟩
              · rintro (h | ⟨c', h1, h2⟩)
                · exact Or.inr (Or.inl h)
                · rcases (mem_takeS d.cs dnZ c' j HLt2.out).1 h1 with h3 | h3
                  · exact Or.inr (Or.inr ⟨c', h3, h2⟩)
                  · rw [HD2.out] at h3
                    rw [h3] at h2
                    rcases h2 with ⟨_, h2⟩ | ⟨h2, _⟩
                    · exact Or.inl h2.symm
                    · exact absurd h2 (by have := HOp.out; omega))
            clear hs6 hg6 c2 c3 c1
            simp only [Act.put]
            go_wp2_with (fail)
            go_roundw
            case rel => exact ⟨j + 1, n2 + 1, HLt2.out, by go_num, HSf.out, HKf.out, by
              have h1 := sum_takeS d.cs dnZ (fun d => d.ps.length + 1) j HLt2.out
              rw [HD2.out] at h1
              have := HJn.out
              unfold nmC
              rw [h1]
              unfold nmC at this
              omega⟩
            case measure => have := HLt2.out; simp [intOf]; omega
          have e3 : (c.op == 3) = false := beq_eq_false_iff_ne.2 h3
          by_cases h4 : c.op = 4
          · have e4 : (c.op == 4) = true := beq_iff_eq.2 h4
            have HOp := Lib.hid h4
            clear h1 h2 h3 h4
            go_upto_region 17 with (fail)
            clear c1
            go_step
            refine wpList_load_dn rfl (.tmp 10) rfl np 0 c (ev_tmp (by simp)) HBp.out.cellsAt ?_
            go_wp2_with (fail)
            refine (whole_v c W5 ((HR.out.2.2 d HMem.out).2.2 c HM2.out) (((HE.out.2 d HMem.out).1.2 c HM2.out).below HB5.out)).mono ?_
            rintro e W6 ⟨rfl, hB6⟩
            have hk6' := Keeps.of_below' hB6
            have HK6 := Lib.hid (HK5.out.trans (hk6'.mono (fun _ _ h => h.elim)))
            have HK6' := Lib.hid (HK5'.out.trans (hk6'.mono (fun _ _ h => h.elim)))
            have HS6 := Lib.hid (HS5.out.keeps hk6' (fun h => h))
            have HBp6 := Lib.hid (HBp.out.kept hk6' (fun h => h))
            have HB6 := Lib.hid (below_keeps HB1.out (Nat.le_refl _) HK6.out (fun i hi => by rw [hi]; exact HMl.out))
            clear hB6 hk6'
            cases hw : wholeP c with
            | false =>
              have HNo := Lib.hid (show ∀ a, ¬ inCall c a from fun a h => by
                rcases h with ⟨h, _⟩ | ⟨_, h, _⟩
                · have := HOp.out; omega
                · rw [hw] at h; cases h)
              clear hw
              have HKf := Lib.hid HK6'.out
              have HSf := Lib.hid (show SetK W6 ml n2 (fun a => (inKeys d.af a ∨ inKeys first a ∨ ∃ e ∈ l.take k, inEra e a) ∨ ∃ c ∈ d.cs.take (j + 1), inCall c a) from by
                refine HS6.out.congr (fun a => ?_)
                constructor
                · rintro (h | ⟨c', h1, h2⟩)
                  · exact Or.inl h
                  · exact Or.inr ⟨c', (mem_takeS d.cs dnZ c' j HLt2.out).2 (.inl h1), h2⟩
                · rintro (h | ⟨c', h1, h2⟩)
                  · exact Or.inl h
                  · rcases (mem_takeS d.cs dnZ c' j HLt2.out).1 h1 with h3 | h3
                    · exact Or.inr ⟨c', h3, h2⟩
                    · rw [HD2.out] at h3
                      rw [h3] at h2
                      exact absurd h2 (HNo.out _))
              go_wp2_with (fail)
              go_roundw
              case rel => exact ⟨j + 1, n2, HLt2.out, by go_num, HSf.out, HKf.out, by
                have h1 := sum_takeS d.cs dnZ (fun d => d.ps.length + 1) j HLt2.out
                rw [HD2.out] at h1
                have := HJn.out
                unfold nmC
                rw [h1]
                unfold nmC at this
                omega⟩
              case measure => have := HLt2.out; simp [intOf]; omega
            | true =>
              have HWh := Lib.hid hw
              have c1 : W6.cell? ⟨np, 10, none⟩ = some (.slice c.pa c.ps.length c.pc) := by rw [HBp6.out.cell]; rfl
              clear hw
              go_wp2_with (fail)
              refine (name_v c.ps c.pa c.pc bc ml n2 _ W6 (by
                have h1 := sum_takeS d.cs dnZ (fun d => d.ps.length + 1) j HLt2.out
                have h5 := sum_take_le (fun d : Dn => d.ps.length + 1) d.cs (j + 1)
                rw [HD2.out] at h1
                have h2 := HDn.out
                have h3 := HJn.out
                unfold nmE at h2
                unfold nmC at h3
                omega) HRc.out.2 (HC1.out.kept HK6.out HNb.out) HS6.out (((HE.out.2 d HMem.out).1.2 c HM2.out).below HB6.out) (prs_ne ((HE.out.2 d HMem.out).1.2 c HM2.out) HMl.out)).mono ?_
              rintro e W7 ⟨rfl, hs7, hk7⟩
              have HKf := Lib.hid (HK6'.out.trans hk7)
              have HSf := Lib.hid (show SetK W7 ml (n2 + c.ps.length) (fun a => (inKeys d.af a ∨ inKeys first a ∨ ∃ e ∈ l.take k, inEra e a) ∨ ∃ c ∈ d.cs.take (j + 1), inCall c a) from by
                refine hs7.congr (fun a => ?_)
                constructor
                · rintro (h | h | ⟨c', h1, h2⟩)
                  · exact Or.inr ⟨c, (mem_takeS d.cs dnZ c j HLt2.out).2 (.inr HD2.out.symm), .inr ⟨HOp.out, HWh.out, h⟩⟩
                  · exact Or.inl h
                  · exact Or.inr ⟨c', (mem_takeS d.cs dnZ c' j HLt2.out).2 (.inl h1), h2⟩
                · rintro (h | ⟨c', h1, h2⟩)
                  · exact Or.inr (Or.inl h)
                  · rcases (mem_takeS d.cs dnZ c' j HLt2.out).1 h1 with h3 | h3
                    · exact Or.inr (Or.inr ⟨c', h3, h2⟩)
                    · rw [HD2.out] at h3
                      rw [h3] at h2
                      rcases h2 with ⟨h2, _⟩ | ⟨_, _, h2⟩
                      · exact absurd h2 (by have := HOp.out; omega)
                      · exact Or.inl h2)
              clear hs7 hk7 c1
              go_wp2_with (fail)
              go_roundw
              case rel => exact ⟨j + 1, n2 + c.ps.length, HLt2.out, by go_num, HSf.out, HKf.out, by
                have h1 := sum_takeS d.cs dnZ (fun d => d.ps.length + 1) j HLt2.out
                rw [HD2.out] at h1
                have := HJn.out
                unfold nmC
                rw [h1]
                unfold nmC at this
                omega⟩
              case measure => have := HLt2.out; simp [intOf]; omega
          · have e4 : (c.op == 4) = false := beq_eq_false_iff_ne.2 h4
            have HNo := Lib.hid (show ∀ a, ¬ inCall c a from fun a h => by
              rcases h with ⟨h, _⟩ | ⟨h, _⟩
              · omega
              · exact h4 h)
            clear h1 h2 h3 h4
            have HKf := Lib.hid HK5'.out
            have HSf := Lib.hid (show SetK W5 ml n2 (fun a => (inKeys d.af a ∨ inKeys first a ∨ ∃ e ∈ l.take k, inEra e a) ∨ ∃ c ∈ d.cs.take (j + 1), inCall c a) from by
              refine HS5.out.congr (fun a => ?_)
              constructor
              · rintro (h | ⟨c', h1, h2⟩)
                · exact Or.inl h
                · exact Or.inr ⟨c', (mem_takeS d.cs dnZ c' j HLt2.out).2 (.inl h1), h2⟩
              · rintro (h | ⟨c', h1, h2⟩)
                · exact Or.inl h
                · rcases (mem_takeS d.cs dnZ c' j HLt2.out).1 h1 with h3 | h3
                  · exact Or.inr ⟨c', h3, h2⟩
                  · rw [HD2.out] at h3
                    rw [h3] at h2
                    exact absurd h2 (HNo.out _))
            go_wp2_with (fail)
            go_roundw
            case rel => exact ⟨j + 1, n2, HLt2.out, by go_num, HSf.out, HKf.out, by
              have h1 := sum_takeS d.cs dnZ (fun d => d.ps.length + 1) j HLt2.out
              rw [HD2.out] at h1
              have := HJn.out
              unfold nmC
              rw [h1]
              unfold nmC at this
              omega⟩
            case measure => have := HLt2.out; simp [intOf]; omega
        · obtain rfl : j = d.cs.length := by omega
          have HSf := Lib.hid (show SetK wr ml n2 (fun a => inKeys first a ∨ ∃ e ∈ l.take (k + 1), inEra e a) from by
            have h := HSj.out
            rw [List.take_length] at h
            refine h.congr (fun a => ?_)
            constructor
            · rintro ((h | h | ⟨e, h1, h2⟩) | h)
              · exact Or.inr ⟨d, (mem_takeS l erZ d k HLt.out).2 (.inr HD.out.symm), .inl h⟩
              · exact Or.inl h
              · exact Or.inr ⟨e, (mem_takeS l erZ e k HLt.out).2 (.inl h1), h2⟩
              · exact Or.inr ⟨d, (mem_takeS l erZ d k HLt.out).2 (.inr HD.out.symm), .inr h⟩
            · rintro (h | ⟨e, h1, h2⟩)
              · exact Or.inl (Or.inr (Or.inl h))
              · rcases (mem_takeS l erZ e k HLt.out).1 h1 with h3 | h3
                · exact Or.inl (Or.inr (Or.inr ⟨e, h3, h2⟩))
                · rw [HD.out] at h3
                  rw [h3] at h2
                  rcases h2 with h2 | h2
                  · exact Or.inl (Or.inl h2)
                  · exact Or.inr h2)
          have hjb : ¬ ((d.cs.length : Int) < (d.cs.length : Int)) := by omega
          clear hjl hj
          go_wp2_with (fail)
          go_roundw
          case rel => exact ⟨k + 1, n2, HLt.out, by go_num, HSf.out, HKj.out, by
            have h1 := HJn.out
            have h2 := HDn.out
            rw [List.take_length] at h1
            unfold nmE at h2
            unfold nmC at h1
            have h3 := sum_takeS l erZ nmE k HLt.out
            have h4 := HNn.out
            rw [HD.out] at h3
            unfold nmE at h3 h4
            unfold nmE
            omega⟩
          case measure => have := HLt.out; simp [intOf]; omega
    · obtain rfl : k = l.length := by omega
      have hkb : ¬ ((l.length : Int) < (l.length : Int)) := by omega
      have c1 : wr.cell? ⟨bc, 0, none⟩ = some (.map (some ml)) := by rw [(HC1.out.kept HKp.out HNb.out).cell]; rfl
      have HNt := Lib.hid (show n ≤ 1000000 from by have h1 := HNn.out; have h2 := HNm.out; rw [List.take_length] at h1; omega)
      clear hlt hk
      go_wp2_with (fail)
      clear c1
      refine (callsIn_wide.1 (keys_calls 1 ml wr)).mono ?_
      rintro e W2 ⟨rfl, rfl⟩
      obtain ⟨D, hD, hDm⟩ := HSr.out
      have hk1 : Keeps (fun _ => False) wr (wr.alloc (.cells #[.map (some ml)] 98)) := (Keeps.refl _ wr).alloc _
      have HSd := Lib.hid (sorted_v wr.heap.size ml n D _ HNt.out (Blk.new wr #[.map (some ml)] 98) (ownL_keeps hD hk1 (fun h => h)))
      have HBa := Lib.hid (show Below w.heap.size w (wr.alloc (.cells #[.map (some ml)] 98)) from HBr.out.alloc HBr.out.size _)
      have HDm := Lib.hid (show ∀ a, Maps.has D (.int .u64 a) = true ↔ named first l a from fun a => by
        rw [hDm a, List.take_length]; exact Iff.rfl)
      clear hk1 hD hDm
      go_wp2_with (fail)
      refine HSd.out.mono ?_
      rintro e W3 ⟨u, xs, rfl, hks, hxl, hown, hB3⟩
      have HO := Lib.hid (own_mono hown (HBa.out.size))
      have HB3 := Lib.hid (HBa.out.trans (hB3.mono HBa.out.size))
      have HKs := Lib.hid hks
      obtain ⟨au, nu, cu, rfl⟩ := own_slice hown
      clear hown hB3 hks
      go_wp2_with (fail)
      go_ret
      exact ⟨_, xs, rfl, HKs.out.1, fun a => (HKs.out.2.1 a).trans (HDm.out a), HO.out, HB3.out⟩
end Go.Proofs.Ytdmcakoaakinnaa
