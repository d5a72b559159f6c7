/-
  leveelaw11.known: a contract.
-/
import Derived.Test.YtodgfbjjjgohgaaGreatSniQ
namespace Go.Proofs.YtodgfbjjjgohgaaGreat
open Go.RowKit
attribute [local go_sem] Oper.semAt_some
set_option linter.unusedVariables false

end Go.Proofs.YtodgfbjjjgohgaaGreat
namespace Go.Proofs.YtodgfbjjjgohgaaGreat
open Go.RowKit
attribute [local go_sem] Oper.semAt_some
set_option linter.unusedVariables false

/-- a memory, as it is seen -/
def MemV (w : World) (mb : Nat) (S : Nat → Prop) (vs : List Int) (lo st fl fe : Int) : Prop := ∃ is mk F, MemP w mb S vs is mk F lo st fl fe
/-- .. as it goes on from a world -/
structure MemE (w3 : World) (S0 : Nat → Prop) (mb : Nat) (vs : List Int) (lo st fl fe : Int) (wr : World) : Prop where
  m : ∃ S, MemV wr mb S vs lo st fl fe ∧ ∀ i, S i → S0 i ∨ w3.heap.size ≤ i
  k : Keeps S0 w3 wr
def SE (w3 : World) (S0 : Nat → Prop) : Nat → Prop := fun i => S0 i ∨ w3.heap.size ≤ i
section
variable {w w3 wr wr' : World} {S0 S : Nat → Prop} {mb : Nat} {vs : List Int} {lo st fl fe : Int}
theorem MemE.start (h : MemV w mb S vs lo st fl fe) : MemE w S mb vs lo st fl fe w := ⟨⟨S, h, fun i hi => .inl hi⟩, Keeps.refl _ _⟩
theorem MemE.below (h : MemE w3 S0 mb vs lo st fl fe wr) (hB : Below wr.heap.size wr wr') : MemE w3 S0 mb vs lo st fl fe wr' := by
  obtain ⟨⟨S, ⟨is, mk, F, hm⟩, hs⟩, hk⟩ := h
  exact ⟨⟨S, ⟨is, mk, F, hm.below hB⟩, hs⟩, hk.trans ((Keeps.of_below' hB).mono (fun _ _ h => h.elim))⟩
theorem MemE.kept {T : Nat → Prop} (h : MemE w3 S0 mb vs lo st fl fe wr) (hk : Keeps T wr wr') (hT : ∀ i, T i → ¬ S0 i ∧ w3.heap.size ≤ i ∧ ∀ S, MemV wr mb S vs lo st fl fe → ¬ S i) : MemE w3 S0 mb vs lo st fl fe wr' := by
  obtain ⟨⟨S, hm, hs⟩, hk0⟩ := h
  have hm' := hm
  obtain ⟨is, mk, F, hm⟩ := hm
  exact ⟨⟨S, ⟨is, mk, F, hm.kept hk (fun i hi ht => (hT i ht).2.2 S hm' hi)⟩, hs⟩, hk0.trans' hk (fun i hi ht => by have := (hT i ht).2.1; omega)⟩
theorem MemE.step {st' fl' fe' lo' : Int} {vs' : List Int} (h : MemE w3 S0 mb vs lo st fl fe wr) (S : Nat → Prop) (hs : ∀ i, S i → S0 i ∨ w3.heap.size ≤ i) {is : List Int} {mk : Int → Nat → Int} {F : Int → List (Int × Int)}
    (hG : MemG wr mb S vs' is mk F lo' st' fl' fe' wr') : MemE w3 S0 mb vs' lo' st' fl' fe' wr' ∧ Keeps (SE w3 S0) wr wr' := by
  obtain ⟨S', hm, hs', hk⟩ := hG
  have h3 := h.k.size
  refine ⟨⟨⟨S', ⟨is, mk, F, hm⟩, fun i hi => ?_⟩, h.k.trans' hk (fun i hi ht => ?_)⟩, hk.mono (fun i _ hi => hs i hi)⟩
  · rcases hs' i hi with h | h
    · exact hs i h
    · exact .inr (by omega)
  · rcases hs i ht with h | h
    · exact h
    · omega
theorem MemE.store (h : MemE w3 S0 mb vs lo st fl fe wr) (a x : Int) (h0 : 0 ≤ a) (h1 : a ≤ 18446744073709551615) (he : atE vs.length a = 0) (hs : st ≤ 1000000) :
    Calls Tryz.prog 15 #[.pointer (some ⟨mb, 0, none⟩), .int .u64 a, .int .u64 x] wr fun e w' => e = .returned (.int .i64 0) ∧ MemE w3 S0 mb (vs.set (a / 8).toNat x) lo (st + 1) fl fe w' ∧ Keeps (SE w3 S0) wr w' := by
  have h' := h
  obtain ⟨⟨S, ⟨is, mk, F, hm⟩, hS⟩, hk⟩ := h
  refine (store_m hm a x h0 h1 he hs).mono ?_
  rintro e w' ⟨rfl, hG⟩
  exact ⟨rfl, h'.step S hS hG⟩
theorem MemE.load (h : MemE w3 S0 mb vs lo st fl fe wr) (a : Int) (h0 : 0 ≤ a) (h1 : a ≤ 18446744073709551615) :
    Calls Tryz.prog 52 #[.pointer (some ⟨mb, 0, none⟩), .int .u64 a] wr fun e w' => e = .returned (.tuple #[.int .u64 (ldW vs a), .int .i64 (atE vs.length a)]) ∧ MemE w3 S0 mb vs (ldN vs.length a lo) st fl fe w' ∧ Keeps (SE w3 S0) wr w' := by
  have h' := h
  obtain ⟨⟨S, ⟨is, mk, F, hm⟩, hS⟩, hk⟩ := h
  refine (load_w hm a h0 h1).mono ?_
  rintro e w' ⟨rfl, hm', hk'⟩
  exact ⟨rfl, h'.step S hS ⟨S, hm', fun i hi => .inl hi, hk'⟩⟩
end
/-- the worlds of a drawn region with one store -/
structure Ld8 (w3 : World) (S0 : Nat → Prop) (mb : Nat) (wr : World) (vs : List Int) (st : Int) (L : Nat → Bool) (W : World) : Prop where
  n : L 11 = false → W = wr.drew
  y : L 11 = true → MemE w3 S0 mb vs 0 st 0 0 W
  k : Keeps (SE w3 S0) wr W
end Go.Proofs.YtodgfbjjjgohgaaGreat
namespace Go.Proofs.YtodgfbjjjgohgaaGreat
open Go.RowKit
attribute [local go_sem] Oper.semAt_some
set_option linter.unusedVariables false

theorem Ld8.keep {w3 : World} {S0 : Nat → Prop} {mb : Nat} {wr : World} {vs : List Int} {st : Int} {L L' : Nat → Bool} {W : World} (h : Ld8 w3 S0 mb wr vs st L W) (e : L' 11 = L 11) : Ld8 w3 S0 mb wr vs st L' W := ⟨by rw [e]; exact h.n, by rw [e]; exact h.y, h.k⟩
end Go.Proofs.YtodgfbjjjgohgaaGreat
namespace Go.Proofs.YtodgfbjjjgohgaaGreat
open Go.RowKit
attribute [local go_sem] Oper.semAt_some
set_option linter.unusedVariables false

set_option maxRecDepth 20000 in
theorem wp_eq_nd {a : Act} {w : World} {K : Act → World → Prop} {Q : Exit → Act → World → Prop} (d : Option Tmp) (i j : Nat) (ty : TypeId) (pos : String) (aft : Array Edge) (g : Option (Nat × Bool)) (n : Nd)
    (hx : a.tmps[i]?.getD undef = .agg (ndCells n)) (hy : a.tmps[j]?.getD undef = .agg (ndCells n))
    (h : K (a.put d (.bool true)) w) : Oper.wp Tryz.prog ⟨d, .binOp .eql 46 (.tmp i) (.tmp j) 46, ty, pos, aft, g⟩ a w K Q := by
  have q := fun w => eq_nd n w
  go_simp
  exact h
theorem SnI.le {sb : Nat} {mv : Option Addr} {vw : List Int} {a : Int} {i : Nat} {s : Sn} (h : SnI sb mv vw a i s) : i ≤ 42 := by
  obtain ⟨_, h | ⟨kn, hR, h⟩ | ⟨kn, hR, h⟩ | h | h⟩ := h
  · omega
  · have := idx_le hR.lt; have := h.2.2.2.2; omega
  · have := idx_le hR.lt; have := h.2.2.2.2; omega
  · have := h.2.2.2.2.2.2.2; omega
  · have := h.2.2.2.2.2.2.2; omega
theorem SnI.new (sb : Nat) (mv : Option Addr) (vw : List Int) (a : Int) : SnI sb mv vw a 0 (snNew sb mv a) := ⟨⟨rfl, rfl, rfl⟩, .inl ⟨rfl, rfl, rfl, rfl, rfl, rfl, rfl⟩⟩
/-- a snapshot under way -/
structure SnW (w5 : World) (sb mb : Nat) (S : Nat → Prop) (vs : List Int) (a st fl fe : Int) (k : Nat) (wr : World) : Prop where
  s : ∃ s, Blk wr sb (snCells s) 164 ∧ SnI sb (some ⟨mb, 0, none⟩) vs a k s
  m : ∃ lo, MemV wr mb S vs lo st fl fe
  k : Keeps (fun i => i = sb ∨ S i) w5 wr
/-- a snapshot that is over -/
structure SnZ (w5 : World) (sb mb : Nat) (S : Nat → Prop) (vs : List Int) (a st fl fe er : Int) (wr : World) : Prop where
  s : ∃ s, Blk wr sb (snCells s) 164 ∧ SnD sb vs a er s
  m : ∃ lo, MemV wr mb S vs lo st fl fe
  k : Keeps (fun i => i = sb ∨ S i) w5 wr
/-! ### what the chapter's row reads -/
theorem pthB_congr {W V : Nat → Int} (h : ∀ i, i < 24 → W i = V i) (i : Nat) : pthB W i = pthB V i := by
  rw [Bool.eq_iff_iff, pthB_iff, pthB_iff]
  constructor
  · rintro (h1 | h1 | ⟨h1, h2, h3⟩)
    · exact .inl h1
    · exact .inr (.inl h1)
    · exact .inr (.inr ⟨h1, h2, fun j hj h9 ho => by rw [← h j (by omega)]; exact h3 j hj h9 ho⟩)
  · rintro (h1 | h1 | ⟨h1, h2, h3⟩)
    · exact .inl h1
    · exact .inr (.inl h1)
    · exact .inr (.inr ⟨h1, h2, fun j hj h9 ho => by rw [h j (by omega)]; exact h3 j hj h9 ho⟩)
theorem rdW_congr {W V : Nat → Int} (h : ∀ i, i < 24 → W i = V i) (i : Nat) : rdW W 24 i = rdW V 24 i := by
  unfold rdW
  rw [pthB_congr h]
  split
  · rename_i c
    exact h i (by rcases c with c | c; omega; exact c.2)
  · rfl
theorem nTo_congr {f g : Nat → Int} (h : ∀ i, i < 24 → f i = g i) : ndCells (nTo f 8) = ndCells (nTo g 8) := by
  have hk : ∀ i, i < 8 → (nTo f 8).k i = (nTo g 8).k i := fun i hi => by
    show (if i < 8 then f (8 + 2 * i) else 0) = (if i < 8 then g (8 + 2 * i) else 0)
    rw [h _ (by omega)]
  have hp : ∀ i, i < 8 → (nTo f 8).p i = (nTo g 8).p i := fun i hi => by
    show (if i < 8 then f (9 + 2 * i) else 0) = (if i < 8 then g (9 + 2 * i) else 0)
    rw [h _ (by omega)]
  have h8 : ∀ (f g : Nat → Int), (∀ i, i < 8 → f i = g i) → u8s f = u8s g := fun f g h => List.map_congr_left (fun i hi => by rw [h i (List.mem_range.1 hi)])
  unfold ndCells
  rw [h8 _ _ hk, h8 _ _ hp, show (nTo f 8).lv = (nTo g 8).lv from (by show f 0 - tagM = g 0 - tagM; rw [h 0 (by omega)]), show (nTo f 8).lo = (nTo g 8).lo from h 1 (by omega), show (nTo f 8).nx = (nTo g 8).nx from h 2 (by omega), show (nTo f 8).ct = (nTo g 8).ct from h 3 (by omega), show (nTo f 8).fi = (nTo g 8).fi from h 4 (by omega)]
def ndF : Nd := { nd0 with fi := 1088 }
def n0 : Nd := (((ndF.withK 0 5).withP 0 2112).withK 1 9).withP 1 2176
end Go.Proofs.YtodgfbjjjgohgaaGreat
