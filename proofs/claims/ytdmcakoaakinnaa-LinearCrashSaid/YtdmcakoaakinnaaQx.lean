/-
  leveelaw28.LinearCrash: the walk.
-/
import Derived.Test.YtdmcakoaakinnaaQv
namespace Go.Proofs.Ytdmcakoaakinnaa
open Go.RowKit
attribute [local go_sem] Oper.semAt_some
set_option linter.unusedVariables false
set_option linter.unusedSimpArgs false

def pC (k : Int) (b : ByteArray) : Dn := ⟨0, 1, k, 0, 0, b, 3, -1, 0, ⟨#[]⟩, none, 0, []⟩
def gC (k : Int) (a : ByteArray) (f t : Int) : Dn := ⟨0, 2, k, 0, 0, ⟨#[]⟩, f, t, 0, a, none, 0, []⟩
def eLost (k : Int) (b : ByteArray) (n : Nat) : Er := ⟨some ⟨n, 0, none⟩, 1, [pC k b], none, 0, [], false⟩
def eX (k : Int) (b c : ByteArray) (n m : Nat) : Er := ⟨some ⟨n, 0, none⟩, 1, [pC k b], some ⟨m, 0, none⟩, 1, [⟨k, c⟩], true⟩
def eGH (k : Int) (a b : ByteArray) (n : Nat) : Er := ⟨some ⟨n, 0, none⟩, 2, [gC k a 1 2, gC k b 3 4], none, 0, [], false⟩
theorem of_p (k : Int) (b : ByteArray) : ofP k [pC k b] = [pC k b] := by simp [ofP, pC, tellsP, wholeP, ownP]
theorem of_gh (k : Int) (a b : ByteArray) : ofP k [gC k a 1 2, gC k b 3 4] = [gC k a 1 2, gC k b 3 4] := by simp [ofP, gC, tellsP, wholeP, ownP]
theorem ends_p (k : Int) (a b : ByteArray) : endsF 2 [pC k b] ⟨0, true, a⟩ = [⟨0, true, a⟩, ⟨0, true, b⟩] := by
  simp [endsF, pC, wholeB, nextB, List.range_succ, aheadP, rightS, afterS, ensS]
theorem ends_gh (k : Int) (a b v : ByteArray) : endsF 3 [gC k a 1 2, gC k b 3 4] ⟨0, true, v⟩ = if v = a ∧ v = b then [⟨0, true, v⟩] else [] := by
  by_cases h1 : v = a
  · by_cases h2 : v = b
    · simp [endsF, gC, wholeB, nextB, List.range_succ, aheadP, rightS, afterS, ensS, codeS, valS, h1, h2, Nat.testBit]
    · simp [endsF, gC, wholeB, nextB, List.range_succ, aheadP, rightS, afterS, ensS, codeS, valS, h1, h2, Nat.testBit]
  · simp [endsF, gC, wholeB, nextB, List.range_succ, aheadP, rightS, afterS, ensS, codeS, valS, h1, Nat.testBit]
theorem val1 (k : Int) (c : ByteArray) : valueP [⟨k, c⟩] k = (c, true) := by simp [valueP]
theorem val0 (k : Int) : valueP [] k = (⟨#[]⟩, false) := by simp [valueP]
theorem keyE_x (k : Int) (a b c : ByteArray) (n m : Nat) : keyE k [⟨k, a⟩] [eX k b c n m] = 0 := by
  simp [keyE, mayP, eX, pC, oddP, riseP, longP, ofP, tellsP, wholeP, ownP, crowdP, aheadP]
theorem keyE_gh (k : Int) (a b : ByteArray) (n m : Nat) : keyE k [⟨k, a⟩] [eLost k b n, eGH k a b m] = 0 := by
  have h1 : longP k (eLost k b n) = false := by
    unfold longP crowdP
    simp only [eLost, of_p]
    simp [pC, aheadP]
  have h2 : longP k (eGH k a b m) = false := by
    unfold longP crowdP
    simp only [eGH, of_gh]
    simp [gC, aheadP]
  unfold keyE
  rw [if_neg (by simp [mayP, eLost, eGH, pC, gC, oddP, riseP]), if_neg (by simp [h1, h2])]
theorem keyT_x (k : Int) (a b c : ByteArray) (n m : Nat) : KeyT k [⟨k, a⟩] [eX k b c n m] ↔ (c = a ∨ c = b) := by
  rw [keyT_iff]
  simp only [nowL, List.foldl_cons, List.foldl_nil, stepL, eX, of_p, val1, startS, List.flatMap_cons, List.flatMap_nil, List.length_cons, List.length_nil, ends_p, List.append_nil]
  by_cases h1 : c = a
  · subst h1; simp [ends_p]
  · by_cases h2 : c = b
    · subst h2; simp [ends_p]
    · have h3 : ¬ a = c := fun e => h1 e.symm
      have h4 : ¬ b = c := fun e => h2 e.symm
      simp [ends_p, h1, h2, h3, h4]
theorem keyT_gh (k : Int) (a b : ByteArray) (n m : Nat) : KeyT k [⟨k, a⟩] [eLost k b n, eGH k a b m] ↔ a = b := by
  rw [keyT_iff]
  simp only [nowL, List.foldl_cons, List.foldl_nil, stepL, eLost, eGH, of_p, of_gh, val1, startS, List.flatMap_cons, List.flatMap_nil, List.length_cons, List.length_nil, ends_p, List.append_nil]
  have e1 : (0 + 1 + 1 : Nat) = 2 := rfl
  have e2 : (0 + 1 + 1 + 1 : Nat) = 3 := rfl
  by_cases h : a = b
  · subst h; simp [ends_p, ends_gh]
  · have h4 : ¬ b = a := fun e => h e.symm
    simp [ends_p, ends_gh, h, h4]
/-- what the law asks of the searches -/
theorem keyB_x (k : Int) (a b c : ByteArray) (n m : Nat) (ha : a.size ≤ maxLen) (hb : b.size ≤ maxLen) : KeyB k [⟨k, a⟩] [eX k b c n m] (stsV (valsK k [⟨k, a⟩] [eX k b c n m]) 0) := by
  refine KeyB.small (fun e he => ?_) (by simp) (fun p hp => ?_) (fun e he d hd => ?_)
  · obtain rfl := List.mem_singleton.1 he; simp [eX]
  · obtain rfl := List.mem_singleton.1 hp; exact ha
  · obtain rfl := List.mem_singleton.1 he
    obtain rfl := List.mem_singleton.1 hd
    exact hb
theorem keyB_gh (k : Int) (a b : ByteArray) (n m : Nat) (ha : a.size ≤ maxLen) (hb : b.size ≤ maxLen) : KeyB k [⟨k, a⟩] [eLost k b n, eGH k a b m] (stsV (valsK k [⟨k, a⟩] [eLost k b n, eGH k a b m]) 0) := by
  refine KeyB.small (fun e he => ?_) (by simp) (fun p hp => ?_) (fun e he d hd => ?_)
  · simp only [List.mem_cons, List.not_mem_nil, or_false] at he
    rcases he with rfl | rfl <;> simp [eLost, eGH]
  · obtain rfl := List.mem_singleton.1 hp; exact ha
  · simp only [List.mem_cons, List.not_mem_nil, or_false] at he
    rcases he with rfl | rfl
    · obtain rfl := List.mem_singleton.1 hd
      exact hb
    · simp only [eGH, List.mem_cons, List.not_mem_nil, or_false] at hd
      rcases hd with rfl | rfl <;> (show (0 : Nat) ≤ _; omega)
theorem erL_x (k : Int) (b c : ByteArray) (n m : Nat) : ∀ e ∈ [eX k b c n m], ErL e ∧ e.cs.length ≤ 1000000 := fun e he => by
  obtain rfl := List.mem_singleton.1 he
  exact ⟨⟨by simp [eX], by simp [eX], fun d hd => by obtain rfl := List.mem_singleton.1 hd; simp [DnL, pC]⟩, by simp [eX]⟩
theorem erL_gh (k : Int) (a b : ByteArray) (n m : Nat) : ∀ e ∈ [eLost k b n, eGH k a b m], ErL e ∧ e.cs.length ≤ 1000000 := fun e he => by
  simp only [List.mem_cons, List.not_mem_nil, or_false] at he
  rcases he with rfl | rfl
  · exact ⟨⟨by simp [eLost], by simp [eLost], fun d hd => by obtain rfl := List.mem_singleton.1 hd; simp [DnL, pC]⟩, by simp [eLost]⟩
  · refine ⟨⟨by simp [eGH], by simp [eGH], fun d hd => ?_⟩, by simp [eGH]⟩
    simp only [eGH, List.mem_cons, List.not_mem_nil, or_false] at hd
    rcases hd with rfl | rfl <;> simp [DnL, gC]
end Go.Proofs.Ytdmcakoaakinnaa
namespace Go.Proofs.Ytdmcakoaakinnaa
open Go.RowKit
attribute [local go_sem] Oper.semAt_some
set_option linter.unusedVariables false
set_option linter.unusedSimpArgs false

/-- the law's histories as they are laid -/
def chainW (w : World) (k : Int) (a b c : ByteArray) : World :=
  ((((((((w.alloc (.cells (dnCells (pC k b)) 53)).alloc (.cells (pcells [⟨k, a⟩]).toArray 59)).alloc (.cells (dcells [pC k b]).toArray 53)).alloc (.cells (erCells (eLost k b (w.heap.size + 1 + 1))) 46)).alloc
    (.cells (dcells [pC k b]).toArray 53)).alloc (.cells (pcells [⟨k, c⟩]).toArray 59)).alloc (.cells (erCells (eX k b c (w.heap.size + 1 + 1 + 1 + 1) (w.heap.size + 1 + 1 + 1 + 1 + 1))) 46)).alloc (.cells (dnCells (gC k a 1 2)) 53)).alloc (.cells (dnCells (gC k b 3 4)) 53)
structure CrW (W : World) (n : Nat) (k : Int) (a b c : ByteArray) : Prop where
  f : PrsAt W (some ⟨n + 1, 0, none⟩) [⟨k, a⟩]
  l : EraAt W (n + 1 + 1 + 1) (eLost k b (n + 1 + 1))
  x : EraAt W (n + 1 + 1 + 1 + 1 + 1 + 1) (eX k b c (n + 1 + 1 + 1 + 1) (n + 1 + 1 + 1 + 1 + 1))
  g : Blk W (n + 1 + 1 + 1 + 1 + 1 + 1 + 1) (dnCells (gC k a 1 2)) 53
  h : Blk W (n + 1 + 1 + 1 + 1 + 1 + 1 + 1 + 1) (dnCells (gC k b 3 4)) 53
theorem CrW.below {W W' : World} {n : Nat} {k : Int} {a b c : ByteArray} (h : CrW W n k a b c) (hB : Below W.heap.size W W') : CrW W' n k a b c :=
  ⟨h.f.below hB, h.l.below hB, h.x.below hB, h.g.kept (Keeps.of_below' hB) (fun h => h), h.h.kept (Keeps.of_below' hB) (fun h => h)⟩
theorem crW (w : World) (k : Int) (a b c : ByteArray) : CrW (chainW w k a b c) w.heap.size k a b c := by
  unfold chainW
  have hs : ∀ (v : World) o, (v.alloc o).heap.size = v.heap.size + 1 := fun v o => by simp
  have bl := fun (v : World) o => alloc_below v o
  have h0 : PrsAt ((w.alloc (.cells (dnCells (pC k b)) 53)).alloc (.cells (pcells [⟨k, a⟩]).toArray 59)) (some ⟨w.heap.size + 1, 0, none⟩) [⟨k, a⟩] := blk_prs (Blk.newAt (by simp) _ _)
  generalize hw0 : w.alloc (.cells (dnCells (pC k b)) 53) = w0 at h0 ⊢
  have e0 : w0.heap.size = w.heap.size + 1 := by rw [← hw0]; exact hs _ _
  generalize hw1 : w0.alloc (.cells (pcells [⟨k, a⟩]).toArray 59) = w1 at h0 ⊢
  have e1 : w1.heap.size = w.heap.size + 1 + 1 := by rw [← hw1, hs, e0]
  have nops : ∀ d ∈ [pC k b], d.ps = [] := fun d hd => by obtain rfl := List.mem_singleton.1 hd; rfl
  have h2 := era_new (w := w1) (l := [pC k b]) (e := eLost k b (w.heap.size + 1 + 1)) nops (by rw [e1]; rfl) rfl rfl
  have hb2 := two_below (Below.refl w1.heap.size w1) (.cells (dcells [pC k b]).toArray 53) (.cells (erCells (eLost k b (w.heap.size + 1 + 1))) 46)
  have e3 : ((w1.alloc (.cells (dcells [pC k b]).toArray 53)).alloc (.cells (erCells (eLost k b (w.heap.size + 1 + 1))) 46)).heap.size = w.heap.size + 1 + 1 + 1 + 1 := by rw [hs, hs, e1]
  have f3 := h0.below hb2
  generalize (w1.alloc (.cells (dcells [pC k b]).toArray 53)).alloc (.cells (erCells (eLost k b (w.heap.size + 1 + 1))) 46) = w3 at h2 hb2 e3 f3 ⊢
  rw [e1] at h2
  have h4 := era_new2 (w := w3) (l := [pC k b]) (ps := [⟨k, c⟩]) (e := eX k b c (w.heap.size + 1 + 1 + 1 + 1) (w.heap.size + 1 + 1 + 1 + 1 + 1)) nops (by rw [e3]; rfl) rfl rfl (by rw [e3]; rfl)
  have hb4 := fun o p q => (two_below (Below.refl w3.heap.size w3) o p).alloc (two_below (Below.refl w3.heap.size w3) o p).size q
  have hb4 := hb4 (.cells (dcells [pC k b]).toArray 53) (.cells (pcells [⟨k, c⟩]).toArray 59) (.cells (erCells (eX k b c (w.heap.size + 1 + 1 + 1 + 1) (w.heap.size + 1 + 1 + 1 + 1 + 1))) 46)
  have e6 : (((w3.alloc (.cells (dcells [pC k b]).toArray 53)).alloc (.cells (pcells [⟨k, c⟩]).toArray 59)).alloc (.cells (erCells (eX k b c (w.heap.size + 1 + 1 + 1 + 1) (w.heap.size + 1 + 1 + 1 + 1 + 1))) 46)).heap.size = w.heap.size + 1 + 1 + 1 + 1 + 1 + 1 + 1 := by rw [hs, hs, hs, e3]
  have f6 := f3.below hb4
  have l6 := h2.below hb4
  generalize ((w3.alloc (.cells (dcells [pC k b]).toArray 53)).alloc (.cells (pcells [⟨k, c⟩]).toArray 59)).alloc (.cells (erCells (eX k b c (w.heap.size + 1 + 1 + 1 + 1) (w.heap.size + 1 + 1 + 1 + 1 + 1))) 46) = w6 at h4 hb4 e6 f6 l6 ⊢
  rw [e3] at h4
  have g7 : Blk (w6.alloc (.cells (dnCells (gC k a 1 2)) 53)) (w.heap.size + 1 + 1 + 1 + 1 + 1 + 1 + 1) (dnCells (gC k a 1 2)) 53 := Blk.newAt e6 _ _
  exact ⟨(f6.below (bl _ _)).below (bl _ _), (l6.below (bl _ _)).below (bl _ _), (h4.below (bl _ _)).below (bl _ _), g7.alloc _, Blk.newAt (by rw [hs, e6]) _ _⟩
theorem chain_below (w : World) (k : Int) (a b c : ByteArray) : Below w.heap.size w (chainW w k a b c) := by
  unfold chainW
  have st : ∀ {v : World}, Below w.heap.size w v → ∀ o, Below w.heap.size w (v.alloc o) := fun h o => h.alloc h.size o
  exact st (st (st (st (st (st (st (st (st (Below.refl _ _) _) _) _) _) _) _) _) _) _
def chainX (w : World) (k : Int) (a b c : ByteArray) : World := (chainW w k a b c).alloc (.cells (ecellsE [eX k b c (w.heap.size + 1 + 1 + 1 + 1) (w.heap.size + 1 + 1 + 1 + 1 + 1)]).toArray 46)
theorem lit_chain (w : World) (k : Int) (a b c : ByteArray) : (World.alloc (World.alloc (World.alloc (World.alloc (World.alloc (World.alloc (World.alloc (World.alloc (World.alloc (World.alloc w (.cells #[.int .i64 0, .int .i64 1, .int .u64 k, .int .u64 0, .int .i64 0, .string b, .int .i64 3, .int .i64 (-1), .int .i64 0, .string ⟨#[]⟩, .slice none 0 0] 53)) (.cells #[.int .u64 k, .string a] 59)) (.cells #[.int .i64 0, .int .i64 1, .int .u64 k, .int .u64 0, .int .i64 0, .string b, .int .i64 3, .int .i64 (-1), .int .i64 0, .string ⟨#[]⟩, .slice none 0 0] 53)) (.cells #[.slice (some ⟨w.heap.size + 1 + 1, 0, none⟩) 1 1, .slice none 0 0, .bool false] 46)) (.cells #[.int .i64 0, .int .i64 1, .int .u64 k, .int .u64 0, .int .i64 0, .string b, .int .i64 3, .int .i64 (-1), .int .i64 0, .string ⟨#[]⟩, .slice none 0 0] 53)) (.cells #[.int .u64 k, .string c] 59)) (.cells #[.slice (some ⟨w.heap.size + 1 + 1 + 1 + 1, 0, none⟩) 1 1, .slice (some ⟨w.heap.size + 1 + 1 + 1 + 1 + 1, 0, none⟩) 1 1, .bool true] 46)) (.cells #[.int .i64 0, .int .i64 2, .int .u64 k, .int .u64 0, .int .i64 0, .string ⟨#[]⟩, .int .i64 1, .int .i64 2, .int .i64 0, .string a, .slice none 0 0] 53)) (.cells #[.int .i64 0, .int .i64 2, .int .u64 k, .int .u64 0, .int .i64 0, .string ⟨#[]⟩, .int .i64 3, .int .i64 4, .int .i64 0, .string b, .slice none 0 0] 53)) (.cells #[.slice (some ⟨w.heap.size + 1 + 1 + 1 + 1, 0, none⟩) 1 1, .slice (some ⟨w.heap.size + 1 + 1 + 1 + 1 + 1, 0, none⟩) 1 1, .bool true] 46)) = chainX w k a b c := by
  simp only [chainX, chainW, dcells, pcells, ecellsE, dnCells, prCells, erCells, eLost, eX, pC, gC, List.flatMap_cons, List.flatMap_nil, List.append_nil, Array.toArray_toList, List.length_cons, List.length_nil, Nat.zero_add]
end Go.Proofs.Ytdmcakoaakinnaa
