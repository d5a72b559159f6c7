/-
  CONTRACTS OF THE LOCK TABLE: Try.
-/
import Derived.Test.YtajccnmeijgagaaC
namespace Go.Proofs.Ytajccnmeijgagaa
open Go.RowKit Go.Maps Go.ChangeMaps

def TryPost (w : World) (b m : Nat) (n : Int) (h : Int → Option Int) (W : Nat → Int) (k : Nat) (c id : Int) (e : Ending) (w' : World) : Prop :=
  (h id = none ∨ h id = some c) ∧ e = .returned (.bool true) ∧ Tab w' b m n (updI h id (some c)) (updN W c.toNat 0) (k + 1) ∧ Keeps (Two b m) w w' ∨
  (∃ x, h id = some x ∧ x ≠ c) ∧ e = .returned (.bool false) ∧ Tab w' b m n h (updN W c.toNat id) k ∧ Keeps (Two b m) w w'

/-- WHAT 'm[k], x = v, y' DOES TO THE TABLE's MAP: two steps. -/
theorem Tab.entry {w : World} {b m : Nat} {n : Int} {h : Int → Option Int} {W : Nat → Int} {k : Nat} (t : Tab w b m n h W k) (hk : k < maxLen) (id c : Int) (hid : (Lit.int .u64 id).wf = true) (hc : (Lit.int .i64 c).wf = true) :
    ∃ v0 st W1 W2, (Instr.mapEntry 56 (.map (some m)) (.int .u64 id)).run Try.prog w.drew = .ok (.tuple #[v0, .int .i64 st]) W1 ∧
      (Instr.entryStore 56 (.map (some m)) (.int .i64 st) (.int .i64 c)).run Try.prog W1 = .ok () W2 ∧
      (∀ i, W1.cell? ⟨b, i, none⟩ = w.cell? ⟨b, i, none⟩) ∧ (∀ i, W2.cell? ⟨b, i, none⟩ = w.cell? ⟨b, i, none⟩) ∧ (∀ i, W2.frozen? ⟨b, i, none⟩ = false) ∧
      Tab W2 b m n (updI h id (some c)) W (k + 1) ∧ Keeps (Two b m) w W2 := by
  have hne := t.ne
  obtain ⟨D, hown, hh⟩ := t.map
  have hkey := keyOf_int_mk Try.underlying29 hid
  obtain ⟨v0, st, es1, c1, es2, c2, f1, f2, f3⟩ := own_entry hown law29 Try.underlying56 zero3 hk hkey (plainElem_int Try.underlying3 hc)
  have hlt := hown.lt
  have hmap := hown.isMap
  obtain ⟨es, cl, hb, r⟩ := hown
  have hbd : w.drew.heap[m]? = some (.map es cl) := hb
  have g1 := f1 w.drew rfl
  have hb1 := heap_setBlock_same hbd (.map es1 c1)
  have g2 := f2 _ hb1
  have hb2 := heap_setBlock_same hb1 (.map es2 c2)
  have ho : (setBlock (setBlock w.drew m (.map es1 c1)) m (.map es2 c2)).heap[b]? = w.heap[b]? := by
    rw [heap_setBlock_other hb1 _ hne, heap_setBlock_other hbd _ hne]; rfl
  have ho1 : (setBlock w.drew m (.map es1 c1)).heap[b]? = w.heap[b]? := by
    rw [heap_setBlock_other hbd _ hne]; rfl
  have bl2 : Blk (setBlock (setBlock w.drew m (.map es1 c1)) m (.map es2 c2)) b (tabCells n m W) 59 := ho.trans t.blk
  refine ⟨v0, st, _, _, g1, g2, fun i => World.cell?_of_block (a := ⟨b, i, none⟩) ho1, fun i => World.cell?_of_block (a := ⟨b, i, none⟩) ho, fun i => bl2.frozen i, ⟨bl2, ⟨_, f3 _ hb2, fun a => ?_⟩, t.wf⟩, ⟨rfl, rfl, rfl, by simp [setBlock], fun j _ hj => ?_⟩⟩
  · rw [hold_put hmap]; unfold updI; split; rfl; exact hh a
  · have hjm : j ≠ m := fun e => hj (.inr e)
    rw [heap_setBlock_other hb1 _ hjm, heap_setBlock_other hbd _ hjm]; rfl

set_option maxRecDepth 100000 in
theorem try_any (w : World) (b m : Nat) (n : Int) (h : Int → Option Int) (W : Nat → Int) (k : Nat) (t : Tab w b m n h W k) (hk : k < maxLen) (c id : Int) (h0 : 0 ≤ c) (h1 : c < n) (h2 : n ≤ 64) (hid : (Lit.int .u64 id).wf = true) (hid0 : id ≠ 0) :
    Calls Try.prog 9 #[.pointer (some ⟨b, 0, none⟩), .int .i64 c, .int .u64 id] w (TryPost w b m n h W k c id) := by
  obtain ⟨j, rfl⟩ := Int.eq_ofNat_of_zero_le h0
  have hj : j < 64 := by omega
  have c0 := t.c0
  have c1 := t.c1
  have cw := t.cw j hj
  have b1 : (j : Int) < 64 := by omega
  have ff : w.frozen? ⟨b, 2 + j, none⟩ = false := t.blk.frozen _
  have hz : (id == 0) = false := by simpa using hid0
  have hkey := keyOf_int_mk Try.underlying29 hid
  obtain ⟨v0, st, W1, W2, r1, r2, q1, q2, q3, T2, K2⟩ := t.entry hk id j hid (WalkArith.wf_i64 (by omega))
  have d1 := (q1 (2 + j)).trans cw
  have d2 := (q2 (2 + j)).trans cw
  have d3 := q3 (2 + j)
  have finY := Lib.hid (fun (hx : h id = none ∨ h id = some (j : Int)) =>
    show TryPost w b m n h W k j id (.returned (.bool true)) (W2.setCell ⟨b, 2 + j, none⟩ (.int .u64 0)) from .inl ⟨hx, rfl, T2.setW j hj 0 wf0, K2.setCell (.inl (.inl rfl)) _⟩)
  have finN := Lib.hid (fun (x : Int) (hx : h id = some x) (hxe : x ≠ j) =>
    show TryPost w b m n h W k j id (.returned (.bool false)) (w.setCell ⟨b, 2 + j, none⟩ (.int .u64 id)) from .inr ⟨⟨x, hx, hxe⟩, rfl, t.setW j hj id hid, (Keeps.refl _ w).setCell (.inl (.inl rfl)) _⟩)
  obtain ⟨D, hown, hh⟩ := t.map
  have HH := Lib.hid hh
  clear t hh T2 K2 q1 q2 q3 hid0
  cases hx : h id with
  | none =>
    have hs : Maps.has D (.int .u64 id) = false := by rw [has_hold, HH.out id, hx]; rfl
    have hno := Lib.hid hx
    clear HH hx
    go_enter Try.func9, Try.ntmps9
    go_wp2_with (first
      | (go_at_call 22; refine (client_yes b n _ h0 h1 _ c0).mono ?_; rintro e w' ⟨rfl, rfl⟩)
      | (at_lookup; refine wpList_lookup_own_ok_int _ rfl _ _ 56 rfl 29 3 .i64 law29 Try.underlying56 Try.underlying3 (zero3 _) m k D rfl hown _ _ rfl hkey ?_; intro c hat hwc; rw [hs]))
    go_region
    all_goals go_wp2
    all_goals go_ret
    all_goals exact finY.out (.inl hno.out)
  | some x =>
    have hs : Maps.has D (.int .u64 id) = true := by rw [has_hold, HH.out id, hx]; rfl
    have hC := Lib.hid (fun c (hat : D.atKey (.int .u64 id) (.lit (.int .i64 0)) = .lit (.int .i64 c)) => show c = x by
      have e1 := hold_some hat hs
      rw [HH.out id, hx] at e1
      exact (Option.some.inj e1).symm)
    have hno := Lib.hid hx
    clear HH hx
    by_cases hxe : x = (j : Int)
    · subst hxe
      go_enter Try.func9, Try.ntmps9
      go_wp2_with (first
        | (go_at_call 22; refine (client_yes b n _ h0 h1 _ c0).mono ?_; rintro e w' ⟨rfl, rfl⟩)
        | (at_lookup; refine wpList_lookup_own_ok_int _ rfl _ _ 56 rfl 29 3 .i64 law29 Try.underlying56 Try.underlying3 (zero3 _) m k D rfl hown _ _ rfl hkey ?_; intro c hat hwc; obtain rfl := hC.out c hat; rw [hs]; clear hat))
      go_region
      all_goals go_wp2
      all_goals go_ret
      all_goals exact finY.out (.inr hno.out)
    · have hne := Lib.hid hxe
      have hxe' : (x != (j : Int)) = true := by simpa using hxe
      clear hxe
      go_enter Try.func9, Try.ntmps9
      go_wp2_with (first
        | (go_at_call 22; refine (client_yes b n _ h0 h1 _ c0).mono ?_; rintro e w' ⟨rfl, rfl⟩)
        | (at_lookup; refine wpList_lookup_own_ok_int _ rfl _ _ 56 rfl 29 3 .i64 law29 Try.underlying56 Try.underlying3 (zero3 _) m k D rfl hown _ _ rfl hkey ?_; intro c hat hwc; obtain rfl := hC.out c hat; rw [hs]; clear hat))
      go_ret
      exact finN.out _ hno.out hne.out

theorem try_zero (w : World) (b : Nat) (n c : Int) (hn : 0 < n) (c0 : w.cell? ⟨b, 0, none⟩ = some (.int .i64 n)) :
    Calls Try.prog 9 #[.pointer (some ⟨b, 0, none⟩), .int .i64 c, .int .u64 0] w fun e w' => e = .returned (.bool false) ∧ w = w' := by
  by_cases hc : 0 ≤ c ∧ c < n
  · obtain ⟨h0, h1⟩ := hc
    go_enter Try.func9, Try.ntmps9
    go_wp2_with (go_at_call 22; refine (client_yes b n _ h0 h1 _ c0).mono ?_; rintro e w' ⟨rfl, rfl⟩)
    go_ret
    exact ⟨rfl, rfl⟩
  · have H := Lib.hid (client_no b n c hn (by omega) w c0)
    clear hc
    go_enter Try.func9, Try.ntmps9
    go_wp2_with (go_at_call 22; refine H.out.mono ?_; rintro e w' ⟨rfl, rfl⟩)
    go_ret
    exact ⟨rfl, rfl⟩

theorem try_out (w : World) (b : Nat) (n c id : Int) (hn : 0 < n) (hc : c < 0 ∨ n ≤ c) (c0 : w.cell? ⟨b, 0, none⟩ = some (.int .i64 n)) :
    Calls Try.prog 9 #[.pointer (some ⟨b, 0, none⟩), .int .i64 c, .int .u64 id] w fun e w' => e = .returned (.bool false) ∧ w = w' := by
  have H := Lib.hid (client_no b n c hn hc w c0)
  clear hc
  go_enter Try.func9, Try.ntmps9
  go_wp2_with (go_at_call 22; refine H.out.mono ?_; rintro e w' ⟨rfl, rfl⟩)
  go_ret
  exact ⟨rfl, rfl⟩
end Go.Proofs.Ytajccnmeijgagaa
