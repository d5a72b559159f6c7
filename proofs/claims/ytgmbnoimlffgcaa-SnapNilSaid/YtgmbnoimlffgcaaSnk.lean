/-
  A memory that goes on from a world; leveelaw11.laid: a contract.
-/
import Derived.Test.YtgmbnoimlffgcaaSni
namespace Go.Proofs.Ytgmbnoimlffgcaa
open Go.RowKit
attribute [local go_sem] Oper.semAt_some
set_option linter.unusedVariables false

def putW (a : Int) (f : Nat → Int) (k : Nat) : List (Int × Int) := (List.range k).map (fun (i : Nat) => (a + 8 * (i : Int), f i))
theorem putW_len (a : Int) (f : Nat → Int) (k : Nat) : (putW a f k).length = k := by simp [putW]
theorem putW_succ (a : Int) (f : Nat → Int) (k : Nat) : putW a f (k + 1) = putW a f k ++ [(a + 8 * (k : Int), f k)] := by simp [putW, List.range_succ]
set_option maxRecDepth 100000 in
set_option maxHeartbeats 6400000 in
theorem rput_v (a : Int) (h0 : 0 ≤ a) (h1 : a ≤ 1000000) (n : Nd) (hw : (Lit.int .i64 n.lv).wf = true) (w : World) :
    Calls Try.prog 39 #[.int .u64 a, .agg (ndCells n)] w fun e w' => ∃ v, e = .returned v ∧ w'.ownsRow w.heap.size 32 2 v 24 (ecells (putW a (wordsF n) 24)) ∧ Below w.heap.size w w' := by
  obtain ⟨i0, hi, hz0, hz1, hz2⟩ := info_parts Try.infoPut
  have HW0 := Lib.hid (show Blk (w.alloc (.cells (ndCells n) 40)) w.heap.size (ndCells n) 40 ∧ Below w.heap.size w (w.alloc (.cells (ndCells n) 40)) from ⟨Blk.new w _ _, (Below.refl _ w).alloc (Nat.le_refl _) _⟩)
  have HRw := Lib.hid (fun W => rwords_lv n hw W)
  obtain ⟨f, hf⟩ : ∃ f, wordsF n = f := ⟨_, rfl⟩
  rw [hf] at HRw ⊢
  clear hf hw
  have HL := Lib.hid (show ∀ j v, (ndCells n)[j]? = some v → (w.alloc (.cells (ndCells n) 40)).cell? ⟨w.heap.size, 0 + j, none⟩ = some v from ndLoad HW0.out.1)
  go_enter Try.func39, Try.ntmps39
  go_wp2_with ((with_reducible refine wpList_load_part (o := ⟨some 8, .load 40 (.tmp 3), _, _, _, _⟩) ?hg 40 (.tmp 3) ?ho w.heap.size 0 ?hx (ndCells n) ?dd ?hc ?hu ?hd ?hi ?_); (case hg => rfl); (case ho => rfl); (case hx => rfl); (case hc => exact HL.out); (case hu => exact Try.underlying40); (case hd => rfl); (case hi => exact info27 n))
  generalize w.alloc (.cells (ndCells n) 40) = w0 at *
  refine (HRw.out w0).mono ?_
  rintro e w1 ⟨rfl, hB1⟩
  have HB1 := Lib.hid (HW0.out.2.trans (hB1.mono HW0.out.2.size))
  clear hB1 HL HW0 HRw
  have HF2 := Lib.hid (show Blk ((w1.alloc (.cells (wdCells (fun _ => 0)) 45)).setRow w1.heap.size (wdCells f)) w1.heap.size (wdCells f) 45 ∧ Below w.heap.size w ((w1.alloc (.cells (wdCells (fun _ => 0)) 45)).setRow w1.heap.size (wdCells f)) from
    ⟨(Blk.new w1 _ _).row _, below_setRow (HB1.out.alloc HB1.out.size _) HB1.out.size _⟩)
  obtain ⟨W2, hW2⟩ : ∃ W2, (w1.alloc (.cells (wdCells (fun _ => 0)) 45)).setRow w1.heap.size (wdCells f) = W2 := ⟨_, rfl⟩
  obtain ⟨wb, hwb⟩ : ∃ wb, w1.heap.size = wb := ⟨_, rfl⟩
  have HW2 := Lib.hid hW2
  have HWb := Lib.hid hwb
  rw [hW2, hwb] at HF2
  rw [hwb] at HW2
  clear hW2 hwb
  go_upto_region 3 with (first
    | ((with_reducible refine wpList_alloc_wdAt (o := ⟨some 6, _, _, _, _, _⟩) rfl rfl wb ?hz ?_); (case hz => exact HWb.out))
    | ((with_reducible refine wpList_store_wd (o := ⟨none, .store 45 (.tmp 6) (.tmp 9), _, _, _, _⟩) ?hg (.tmp 6) (.tmp 9) ?ho wb f (fun _ => 0) ?hx ?hy ?hb ?_); (case hg => rfl); (case ho => rfl); (case hx => exact ev_tmp (by simp [Act.put])); (case hy => exact ev_tmp (by simp [Act.put])); (case hb => rw [← HWb.out]; exact Blk.new w1 _ _); rw [HW2.out]; simp [Act.put]))
  go_wp2_with (fail)
  have hwlt := HF2.out.1.lt
  have Hcell := Lib.hid (show ∀ k, k < 24 → W2.cell? ⟨wb, k, none⟩ = some (.int .u64 (f k)) from fun k hk => (HF2.out.1.cell k).trans (wdCells_get f k hk))
  go_loopw [5, 7] (fun ov iv wr => ∃ k : Nat, k ≤ 24 ∧ iv = .int .i64 k ∧ wr.ownsRow W2.heap.size 32 2 ov (putW a f k).length (ecells (putW a f k)) ∧ Below W2.heap.size W2 wr) (fun _ iv _ => 24 - (intOf iv).toNat)
  case atStart => exact ⟨0, by omega, rfl, World.ownsRow_nil _ _ _ _, Below.refl _ _⟩
  case round =>
    obtain ⟨k, hk, rfl, hown, hBr⟩ := hrel
    by_cases hlt : k < 24
    · have hck := (hBr.cell (p := ⟨wb, k, none⟩) hwlt).trans (Hcell.out k hlt)
      have hlt2 : (k : Int) < 24 := by omega
      have hw1 : IntKind.i64.wrap (8 * (k : Int)) = 8 * (k : Int) := IntWalk.i64_in _ (by omega)
      have hw2 : IntKind.u64.wrap (8 * (k : Int)) = 8 * (k : Int) := IntWalk.u64_in _ (by omega)
      have hw3 : IntKind.u64.wrap (a + 8 * (k : Int)) = a + 8 * (k : Int) := IntWalk.u64_in _ (by omega)
      have HS := Lib.hid (putW_succ a f k)
      have hpl := putW_len a f k
      have HP := Lib.hid hpl
      obtain ⟨x, hx⟩ : ∃ x, f k = x := ⟨_, rfl⟩
      rw [hx] at hck HS
      have hsz := hBr.size
      clear hpl hx
      go_wp2_with (at_builtin; refine wpList_append_own _ rfl _ _ 22 rfl W2.heap.size 32 i0 (.agg #[.int .u64 0, .int .u64 0]) 2 16 Try.underlying22 hi hz0 hz1 hz2 rfl (by decide) _ _ _ rfl (hown.alloc _) ⟨wr.heap.size, 0, none⟩ 1 1 [.int .u64 (a + 8 * (k : Int)), .int .u64 x] rfl rfl (cells_two_new _ _ _ _) (by simp [Value.oneCell']) (by rw [HP.out]; unfold maxLen; omega) (by rw [HP.out]; omega) (by simp; omega) ?_)
      intro v' w6 hown' hgrow hnil
      have HO6 := Lib.hid hown'
      have HB6 := Lib.hid ((hBr.alloc hsz (.cells #[.int .u64 (a + 8 * (k : Int)), .int .u64 x] 32)).grown hgrow (by simp; omega) (fun r e => own_base hown _ e))
      clear hown' hgrow hnil hown hBr
      go_wp2_with (fail)
      go_roundw
      case rel => exact ⟨k + 1, by omega, by go_num, by rw [HS.out, List.length_append, ecells_snoc]; exact HO6.out, HB6.out⟩
      case measure => simp [intOf]; omega
    · have hk2 : k = 24 := by omega
      subst hk2
      rw [putW_len] at hown
      have HO := Lib.hid hown
      have HBr := Lib.hid hBr
      clear hown hBr hlt
      go_wp2_with (fail)
      go_ret
      exact ⟨_, rfl, own_mono HO.out HF2.out.2.size, HF2.out.2.trans (HBr.out.mono HF2.out.2.size)⟩
end Go.Proofs.Ytgmbnoimlffgcaa
namespace Go.Proofs.Ytgmbnoimlffgcaa
open Go.RowKit
attribute [local go_sem] Oper.semAt_some
set_option linter.unusedVariables false

/-- a memory, as it is seen -/
def MemV (w : World) (mb : Nat) (S : Nat → Prop) (vs : List Int) (lo st fl fe : Int) : Prop := ∃ is mk F, MemP w mb S vs is mk F lo st fl fe
/-- .. as it goes on from a world -/
structure MemE (w3 : World) (S0 : Nat → Prop) (mb : Nat) (vs : List Int) (lo st fl fe : Int) (wr : World) : Prop where
  m : ∃ S, MemV wr mb S vs lo st fl fe ∧ ∀ i, S i → S0 i ∨ w3.heap.size ≤ i
  k : Keeps S0 w3 wr
def SE (w3 : World) (S0 : Nat → Prop) : Nat → Prop := fun i => S0 i ∨ w3.heap.size ≤ i
section
variable {w w3 wr wr' : World} {S0 S : Nat → Prop} {mb : Nat} {vs : List Int} {lo st fl fe : Int}
theorem MemE.start (h : MemV w mb S vs lo st fl fe) : MemE w S mb vs lo st fl fe w := ⟨⟨S, h, fun i hi => .inl hi⟩, Keeps.refl _ _⟩
theorem MemE.below (h : MemE w3 S0 mb vs lo st fl fe wr) (hB : Below wr.heap.size wr wr') : MemE w3 S0 mb vs lo st fl fe wr' := by
  obtain ⟨⟨S, ⟨is, mk, F, hm⟩, hs⟩, hk⟩ := h
  exact ⟨⟨S, ⟨is, mk, F, hm.below hB⟩, hs⟩, hk.trans ((Keeps.of_below' hB).mono (fun _ _ h => h.elim))⟩
theorem MemE.kept {T : Nat → Prop} (h : MemE w3 S0 mb vs lo st fl fe wr) (hk : Keeps T wr wr') (hT : ∀ i, T i → ¬ S0 i ∧ w3.heap.size ≤ i ∧ ∀ S, MemV wr mb S vs lo st fl fe → ¬ S i) : MemE w3 S0 mb vs lo st fl fe wr' := by
  obtain ⟨⟨S, hm, hs⟩, hk0⟩ := h
  have hm' := hm
  obtain ⟨is, mk, F, hm⟩ := hm
  exact ⟨⟨S, ⟨is, mk, F, hm.kept hk (fun i hi ht => (hT i ht).2.2 S hm' hi)⟩, hs⟩, hk0.trans' hk (fun i hi ht => by have := (hT i ht).2.1; omega)⟩
theorem MemE.step {st' fl' fe' lo' : Int} {vs' : List Int} (h : MemE w3 S0 mb vs lo st fl fe wr) (S : Nat → Prop) (hs : ∀ i, S i → S0 i ∨ w3.heap.size ≤ i) {is : List Int} {mk : Int → Nat → Int} {F : Int → List (Int × Int)}
    (hG : MemG wr mb S vs' is mk F lo' st' fl' fe' wr') : MemE w3 S0 mb vs' lo' st' fl' fe' wr' ∧ Keeps (SE w3 S0) wr wr' := by
  obtain ⟨S', hm, hs', hk⟩ := hG
  have h3 := h.k.size
  refine ⟨⟨⟨S', ⟨is, mk, F, hm⟩, fun i hi => ?_⟩, h.k.trans' hk (fun i hi ht => ?_)⟩, hk.mono (fun i _ hi => hs i hi)⟩
  · rcases hs' i hi with h | h
    · exact hs i h
    · exact .inr (by omega)
  · rcases hs i ht with h | h
    · exact h
    · omega
theorem MemE.store (h : MemE w3 S0 mb vs lo st fl fe wr) (a x : Int) (h0 : 0 ≤ a) (h1 : a ≤ 18446744073709551615) (he : atE vs.length a = 0) (hs : st ≤ 1000000) :
    Calls Try.prog 9 #[.pointer (some ⟨mb, 0, none⟩), .int .u64 a, .int .u64 x] wr fun e w' => e = .returned (.int .i64 0) ∧ MemE w3 S0 mb (vs.set (a / 8).toNat x) lo (st + 1) fl fe w' ∧ Keeps (SE w3 S0) wr w' := by
  have h' := h
  obtain ⟨⟨S, ⟨is, mk, F, hm⟩, hS⟩, hk⟩ := h
  refine (store_m hm a x h0 h1 he hs).mono ?_
  rintro e w' ⟨rfl, hG⟩
  exact ⟨rfl, h'.step S hS hG⟩
theorem MemE.flush (h : MemE w3 S0 mb vs lo st fl fe wr) (c : Nat) (hc : c ≤ 64) (a : Int) (h0 : 0 ≤ a) (h1 : a ≤ 18446744073709551615) (he : atE vs.length a = 0) (hs : st ≤ 1000000) (hf : fl ≤ 1000000) :
    Calls Try.prog 40 #[.pointer (some ⟨mb, 0, none⟩), .int .i64 c, .int .u64 a] wr fun e w' => e = .returned (.int .i64 0) ∧ MemE w3 S0 mb vs lo st (fl + 1) fe w' ∧ Keeps (SE w3 S0) wr w' := by
  have h' := h
  obtain ⟨⟨S, ⟨is, mk, F, hm⟩, hS⟩, hk⟩ := h
  refine (flush_m hm c hc a h0 h1 he hs hf).mono ?_
  rintro e w' ⟨rfl, hG⟩
  exact ⟨rfl, h'.step S hS hG⟩
theorem MemE.fence (h : MemE w3 S0 mb vs lo st fl fe wr) (c : Nat) (hc : c ≤ 64) (hs : st ≤ 1000000) (hf : fe ≤ 1000000) :
    Calls Try.prog 41 #[.pointer (some ⟨mb, 0, none⟩), .int .i64 c] wr fun e w' => e = .returned (.int .i64 0) ∧ MemE w3 S0 mb vs lo st fl (fe + 1) w' ∧ Keeps (SE w3 S0) wr w' := by
  have h' := h
  obtain ⟨⟨S, ⟨is, mk, F, hm⟩, hS⟩, hk⟩ := h
  refine (fence_m hm c hc hs hf).mono ?_
  rintro e w' ⟨rfl, mk', is', _, _, _, _, hG⟩
  exact ⟨rfl, h'.step S hS hG⟩
theorem MemE.load (h : MemE w3 S0 mb vs lo st fl fe wr) (a : Int) (h0 : 0 ≤ a) (h1 : a ≤ 18446744073709551615) :
    Calls Try.prog 14 #[.pointer (some ⟨mb, 0, none⟩), .int .u64 a] wr fun e w' => e = .returned (.tuple #[.int .u64 (ldW vs a), .int .i64 (atE vs.length a)]) ∧ MemE w3 S0 mb vs (ldN vs.length a lo) st fl fe w' ∧ Keeps (SE w3 S0) wr w' := by
  have h' := h
  obtain ⟨⟨S, ⟨is, mk, F, hm⟩, hS⟩, hk⟩ := h
  refine (load_w hm a h0 h1).mono ?_
  rintro e w' ⟨rfl, hm', hk'⟩
  exact ⟨rfl, h'.step S hS ⟨S, hm', fun i hi => .inl hi, hk'⟩⟩
end
/-- the worlds of a drawn region with one store -/
structure Ld8 (w3 : World) (S0 : Nat → Prop) (mb : Nat) (wr : World) (vs : List Int) (st : Int) (L : Nat → Bool) (W : World) : Prop where
  n : L 11 = false → W = wr.drew
  y : L 11 = true → MemE w3 S0 mb vs 0 st 0 0 W
  k : Keeps (SE w3 S0) wr W
/-- what a row of stores makes of a view -/
theorem lastIm_u64 : ∀ (l : List (Int × Int)) {vs : List Int}, U64s vs → (∀ p ∈ l, 0 ≤ p.2 ∧ p.2 ≤ 18446744073709551615) → U64s (lastIm vs l)
  | [], _, h, _ => h
  | p :: l, vs, h, hp => by
    rw [lastIm_cons]
    refine lastIm_u64 l (fun x hx => ?_) (fun q hq => hp q (List.mem_cons_of_mem _ hq))
    rcases List.mem_or_eq_of_mem_set hx with hx | hx
    · exact h x hx
    · rw [hx]; exact hp p List.mem_cons_self
theorem lastIm_putW (f : Nat → Int) (b : Nat) (vs : List Int) : ∀ (n : Nat), b + n ≤ vs.length → ∀ i, (lastIm vs (putW (8 * (b : Int)) f n)).getD i 0 = if b ≤ i ∧ i < b + n then f (i - b) else vs.getD i 0
  | 0, _, i => by rw [if_neg (by omega)]; rfl
  | n + 1, h, i => by
    rw [putW_succ]
    have hcat : ∀ (l1 l2 : List (Int × Int)) (is : List Int), lastIm is (l1 ++ l2) = lastIm (lastIm is l1) l2 := fun l1 l2 is => by unfold lastIm; rw [List.foldl_append]
    rw [hcat, lastIm_cons]
    show ((lastIm vs (putW (8 * (b : Int)) f n)).set ((8 * (b : Int) + 8 * (n : Int)) / 8).toNat (f n)).getD i 0 = _
    rw [show ((8 * (b : Int) + 8 * (n : Int)) / 8).toNat = b + n by omega, getD_set_eq, lastIm_len, lastIm_putW f b vs n (by omega) i]
    by_cases e : b + n = i
    · subst e
      rw [if_pos ⟨rfl, by omega⟩, if_pos (by omega), show b + n - b = n by omega]
    · rw [if_neg (by omega)]
      by_cases c : b ≤ i ∧ i < b + n
      · rw [if_pos c, if_pos (by omega)]
      · rw [if_neg c, if_neg (by omega)]
end Go.Proofs.Ytgmbnoimlffgcaa
