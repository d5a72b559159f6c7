/-
  A SITE OVER AN IMAGE'S BYTES: leveelaw14.On, a contract.
-/
import Derived.Test.YtodgfbjjjgohgaaGreatKmQ
namespace Go.Proofs.YtodgfbjjjgohgaaGreat
open Go.RowKit Go.Maps
attribute [local go_sem] Oper.semAt_some
set_option linter.unusedVariables false

set_option maxRecDepth 100000 in
theorem locknew_v (c : Nat) (h : 1 ≤ c ∧ c ≤ 64) (w : World) : Calls Tryz.prog 50 #[.int .i64 (c : Int)] w fun e w' => ∃ lb, e = .returned (.tuple #[.pointer (some ⟨lb, 0, none⟩), .int .i64 0]) ∧ Below w.heap.size w w' := by
  have b1 : ¬ (c : Int) < 1 := by omega
  have b2 : ¬ (64 : Int) < (c : Int) := by omega
  have b3 : ¬ c < 1 := by omega
  have b4 : ¬ 64 < c := by omega
  have hmm := @run_makeMap Tryz.prog
  clear h
  go_enter Tryz.func50, Tryz.ntmps50
  go_wp2_with (fail)
  go_ret2
  exact ⟨⟨_, rfl⟩, ((Below.refl _ w).alloc (Nat.le_refl _) _).alloc (by rw [World.size_alloc]; omega) _⟩
theorem sthere_v (w : World) (sb hb N sl : Nat) (f : Nat → Nat) (mb : Nat) (h : Blk w sb (slC N hb sl f mb) 115) (hs : sl ≤ 64) : Calls Tryz.prog 69 #[.pointer (some ⟨sb, 0, none⟩)] w fun e w' => e = .returned (.bool true) ∧ w = w' := by
  obtain ⟨n1, hn1⟩ : ∃ n1, 1 + sl = n1 := ⟨_, rfl⟩
  have c1 : w.cell? ⟨sb, 1, none⟩ = some (.slice (some ⟨hb, 0, none⟩) n1 n1) := by rw [← hn1]; exact (h.cell 1).trans rfl
  have b1 : 0 < n1 := by omega
  have b2 : (n1 : Int) ≤ 65 := by omega
  clear h hn1
  go_enter Tryz.func69, Tryz.ntmps69
  go_wp2_with (fail)
  go_ret
  exact ⟨rfl, rfl⟩
theorem sslabs_v (w : World) (sb hb N sl : Nat) (f : Nat → Nat) (mb : Nat) (h : Blk w sb (slC N hb sl f mb) 115) (hs : sl ≤ 64) : Calls Tryz.prog 49 #[.pointer (some ⟨sb, 0, none⟩)] w fun e w' => e = .returned (.int .i64 (sl : Int)) ∧ w = w' := by
  have HT := Lib.hid (sthere_v w sb hb N sl f mb h hs)
  obtain ⟨n1, hn1⟩ : ∃ n1, 1 + sl = n1 := ⟨_, rfl⟩
  have c1 : w.cell? ⟨sb, 1, none⟩ = some (.slice (some ⟨hb, 0, none⟩) n1 n1) := by rw [← hn1]; exact (h.cell 1).trans rfl
  have b2 : (n1 : Int) ≤ 65 := by omega
  have b3 : (n1 : Int) - 1 = (sl : Int) := by omega
  have hw : IntKind.i64.wrap (sl : Int) = (sl : Int) := i64_id _ (by omega)
  clear h hn1 hs
  go_enter Tryz.func49, Tryz.ntmps49
  go_wp2_with (go_at_call 69; refine HT.out.mono ?_; rintro e w1 ⟨rfl, rfl⟩)
  go_ret
  exact ⟨rfl, rfl⟩
/-- a memory at rest -/
def MemZ (w : World) (mb : Nat) (S : Nat → Prop) (vs : List Int) : Prop := MemP w mb S vs vs (fun _ _ => 0) (fun _ => []) 0 0 0 0
set_option maxRecDepth 100000 in
set_option maxHeartbeats 4000000 in
theorem sitenew_v (w : World) (mb : Nat) (S : Nat → Prop) (vs : List Int) (sb hb N sl c : Nat) (f : Nat → Nat) (pb : Nat) (hm : MemZ w mb S vs) (hs : Blk w sb (slC N hb sl f pb) 115) (hsl : 1 ≤ sl ∧ sl ≤ 16) (hv : vs.length = 128 * (sl + 1)) (hc : 1 ≤ c ∧ c ≤ 64) :
    Calls Tryz.prog 25 #[.pointer (some ⟨mb, 0, none⟩), .pointer (some ⟨sb, 0, none⟩), .int .i64 (c : Int)] w fun e w' => ∃ xb C, e = .returned (.tuple #[.pointer (some ⟨xb, 0, none⟩), .int .i64 0]) ∧ Blk w' xb C 88 ∧ C[0]? = some (.pointer (some ⟨mb, 0, none⟩)) ∧ w.heap.size ≤ xb ∧ Below w.heap.size w w' := by
  have HM := Lib.hid (show ∀ W, Below w.heap.size w W → Calls Tryz.prog 48 #[.pointer (some ⟨mb, 0, none⟩)] W fun e w' => e = .returned (.int .i64 ((1024 * (sl + 1) : Nat) : Int)) ∧ W = w' from fun W hB => by
    have h1 := size_m (hm.kept (Keeps.of_below' hB) (fun _ _ e => e))
    rw [hv, show 8 * ((128 * (sl + 1) : Nat) : Int) = ((1024 * (sl + 1) : Nat) : Int) by omega] at h1
    exact h1)
  have HS := Lib.hid (fun W (hB : Below w.heap.size w W) => sslabs_v W sb hb N sl f pb (hs.kept (Keeps.of_below' hB) (fun e => e)) (by omega))
  have HL := Lib.hid (fun W => locknew_v c hc W)
  have HG := Lib.hid (fun W => gsize_v sl ⟨hsl.1, by omega⟩ W)
  obtain ⟨M, hM⟩ : ∃ M, 1024 * (sl + 1) = M := ⟨_, rfl⟩
  rw [hM] at HM HG
  have h0 : ((M : Int) == 0) = false := by simp; omega
  have h1 : ((sl : Int) == 0) = false := by simp; omega
  have hB0 := Lib.hid (Below.refl w.heap.size w)
  clear hm hs hsl hv hc hM
  go_enter Tryz.func25, Tryz.ntmps25
  go_upto_region 3 with (first
    | (go_at_call 48; refine (HM.out w hB0.out).mono ?_; rintro e w1 ⟨rfl, rfl⟩)
    | (go_at_call 49; refine (HS.out w hB0.out).mono ?_; rintro e w1 ⟨rfl, rfl⟩))
  go_upto_region 4 with (go_at_call 50; refine (HL.out w).mono ?_; rintro e w1 ⟨lb, rfl, hB1⟩; have HB1 := Lib.hid hB1; clear hB1)
  go_upto_region 6 with (first
    | (go_at_call 48; refine (HM.out w1 HB1.out).mono ?_; rintro e w2 ⟨rfl, rfl⟩)
    | (go_at_call 49; refine (HS.out w1 HB1.out).mono ?_; rintro e w2 ⟨rfl, rfl⟩)
    | (go_at_call 51; refine (HG.out w1).mono ?_; rintro e w2 ⟨rfl, rfl⟩))
  go_wp2_with (fail)
  go_ret2
  exact ⟨_, _, rfl, Blk.new w1 _ _, rfl, HB1.out.size, HB1.out.alloc HB1.out.size _⟩
end Go.Proofs.YtodgfbjjjgohgaaGreat
namespace Go.Proofs.YtodgfbjjjgohgaaGreat
open Go.RowKit Go.Maps
attribute [local go_sem] Oper.semAt_some
set_option linter.unusedVariables false

/-- what On answers -/
structure OnS (w w' : World) (xb mb : Nat) (S : Nat → Prop) (L : List UInt8) (sl : Nat) : Prop where
  x : ∃ C, Blk w' xb C 88 ∧ C[0]? = some (.pointer (some ⟨mb, 0, none⟩))
  m : MemZ w' mb S (wordsB L (128 * (sl + 1)))
  lo : ∀ i, S i → w.heap.size ≤ i
  xl : w.heap.size ≤ xb
  ne : ¬ S xb
  b : Below w.heap.size w w'
def OnP (w w' : World) (e : Ending) (L : List UInt8) (sl : Nat) : Prop := ∃ xb mb S, e = .returned (.pointer (some ⟨xb, 0, none⟩)) ∧ OnS w w' xb mb S L sl
/-- what pmem.Of answers, whole -/
def OfZ (w w' : World) (e : Ending) (L : List UInt8) (sl : Nat) : Prop := ∃ mb S, e = .returned (.tuple #[.pointer (some ⟨mb, 0, none⟩), .int .i64 0]) ∧ MemZ w' mb S (wordsB L (128 * (sl + 1))) ∧ (∀ i, S i → w.heap.size ≤ i) ∧ Below w.heap.size w w'
theorem memOf_v (w : World) (gb cb : Nat) (L : List UInt8) (sl : Nat) (hI : ImgOk L sl) (hc : L.length ≤ cb) (hg : gb < w.heap.size) (hb : BytesAt w gb 0 L) :
    Calls Tryz.prog 23 #[.slice (some ⟨gb, 0, none⟩) L.length cb] w fun e w' => OfZ w w' e L sl := by
  obtain ⟨h1, h2, h3, h4⟩ := hI
  refine (mofS_v L (128 * (sl + 1)) cb _ w (by omega) (by omega) hc (fun i hi => ⟨gb, 0, rfl, hg, ?_⟩) ?_).mono ?_
  · rw [hb i hi]; simp [hi]
  · exact decide_eq_true ⟨by omega, by omega, by omega⟩
  · rintro e w' ⟨rfl, ⟨vv, vi, ml, hm, hl, hMS, hml⟩, hB⟩
    refine ⟨_, _, rfl, (hm _ (Nat.le_refl _)).whole (Nat.le_refl _) (by rw [wordsM_len]; omega) (by rw [wordsM_len]; omega), fun i hi => ?_, hB⟩
    rcases hi with rfl | hi
    · exact hl
    · exact (hMS i hi).2
set_option maxRecDepth 100000 in
set_option maxHeartbeats 4000000 in
theorem on_v (w : World) (gb cb : Nat) (L : List UInt8) (sl c : Nat) (hI : ImgOk L sl) (hcb : L.length ≤ cb) (hg : gb < w.heap.size) (hb : BytesAt w gb 0 L) (hc : 1 ≤ c ∧ c ≤ 64) :
    Calls Tryz.prog 9 #[.slice (some ⟨gb, 0, none⟩) L.length cb, .int .i64 (c : Int)] w fun e w' => OnP w w' e L sl := by
  have HM := Lib.hid (memOf_v w gb cb L sl hI hcb hg hb)
  have HS := Lib.hid (fun W (hB : Below w.heap.size w W) => slabOf_v W gb cb L sl hI (fun i hi => (hB.cell (p := ⟨gb, 0 + i, none⟩) hg).trans (hb i hi)))
  have HN := Lib.hid (fun W mb S sb hb f pb (hm : MemZ W mb S (wordsB L (128 * (sl + 1)))) (hs : Blk W sb (slC L.length hb sl f pb) 115) => sitenew_v W mb S _ sb hb L.length sl c f pb hm hs ⟨hI.1, hI.2.1⟩ (wordsM_len _ _) hc)
  clear hI hcb hb hc
  obtain ⟨n, hn⟩ : ∃ n, L.length = n := ⟨_, rfl⟩
  rw [hn] at HM HS HN ⊢
  clear hn
  go_enter Tryz.func9, Tryz.ntmps9
  go_wp2_with (fail)
  refine HM.out.mono ?_
  rintro e w1 ⟨mb, S, rfl, hm1, hS1, hB1⟩
  have H1 := Lib.hid (And.intro hm1 (And.intro hS1 hB1))
  have HSz := Lib.hid hB1.size
  clear hm1 hS1 hB1
  go_wp2_with (fail)
  refine (HS.out w1 H1.out.2.2).mono ?_
  rintro e w2 ⟨sb, hb, pb, f, rfl, hs2, hl2, hB2⟩
  have H2 := Lib.hid (And.intro hs2 (And.intro hl2 hB2))
  clear hs2 hl2 hB2
  go_wp2_with (fail)
  refine (HN.out w2 mb S sb hb f pb (H1.out.1.kept (Keeps.of_below' H2.out.2.2) (fun _ _ e => e)) H2.out.1).mono ?_
  rintro e w3 ⟨xb, C, rfl, hx, hC, hl3, hB3⟩
  have H3 := Lib.hid (And.intro hx (And.intro hC (And.intro hl3 hB3)))
  clear hx hC hl3 hB3
  go_wp2_with (fail)
  go_ret
  have h1 := H1.out.2.2
  have h2 := H2.out.2.2
  have h3 := H3.out.2.2.2
  refine ⟨xb, mb, S, rfl, ⟨C, H3.out.1, H3.out.2.1⟩, (H1.out.1.kept (Keeps.of_below' h2) (fun _ _ e => e)).kept (Keeps.of_below' h3) (fun _ _ e => e), H1.out.2.1, ?_, fun hS => ?_, ?_⟩
  · have := h1.size; have := h2.size; have := H3.out.2.2.1; omega
  · have := MemP.lt H1.out.1 hS; have := h2.size; have := H3.out.2.2.1; omega
  · exact (h1.trans (h2.mono h1.size)).trans (h3.mono (Nat.le_trans h1.size h2.size))
end Go.Proofs.YtodgfbjjjgohgaaGreat
