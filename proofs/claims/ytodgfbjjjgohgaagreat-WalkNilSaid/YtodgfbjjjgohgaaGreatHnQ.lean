/-
  NewFree: a contract.
-/
import Derived.Test.YtodgfbjjjgohgaaGreatHfQ
namespace Go.Proofs.YtodgfbjjjgohgaaGreat
open Go.RowKit

theorem HeapV.keep {w w' : World} {b : Nat} {v : Value} {l : List Int} (h : HeapV w b v l) (hB : Below w.heap.size w w') : HeapV w' b v l :=
  ⟨h.blk.kept (Keeps.of_below' hB) id, by
    refine ⟨h.row.1, ?_⟩
    rcases h.row.2 with h1 | ⟨g, cap, cur, h1, h2, h3, h4⟩
    · exact .inl h1
    · exact .inr ⟨g, cap, cur, h1, h2, by rw [hB.block g (Array.getElem?_eq_some_iff.1 h3).1]; exact h3, h4⟩, h.ne⟩
theorem belowN {B : Nat} {a w : World} (h : Below B a w) (n : Nat) : Below B a (w.drewN n) := ⟨h.os, h.tape, h.output, h.size, h.block⟩
theorem HStep.of_below {b : Nat} {v : Value} {w w' : World} (hB : Below w.heap.size w w') : HStep b v v w w' := ⟨(Keeps.of_below' hB).mono (fun _ _ h => h.elim), .inl rfl⟩

set_option maxRecDepth 100000 in
set_option maxHeartbeats 1000000 in
theorem place_v (b : Nat) (v : Value) (l : List Int) (a : Int) (w : World) (h : HeapV w b v l) (hn : l.length ≤ 1000000) :
    Calls Tryz.prog 67 #[.pointer (some ⟨b, 0, none⟩), .int .u64 a] w fun e w' => PlaceP l a e ∧ Below w.heap.size w w' := by
  have HI := Lib.hid (index_v b w.heap.size v l a (w.alloc (.cells #[.int .u64 a] 39)) (h.keep ((Below.refl _ w).alloc (Nat.le_refl _) _)) hn (by simp))
  have hc := h.cell
  have hc2 : (w.alloc (.cells #[.int .u64 a] 39)).cell? ⟨b, 0, none⟩ = some v := (h.keep ((Below.refl _ w).alloc (Nat.le_refl _) _)).cell
  clear h
  go_enter Tryz.func67, Tryz.ntmps67
  go_wp2_with (go_at_call 78; refine HI.out.mono ?_; rintro e w2 ⟨⟨r, rfl, hr⟩, q, rfl⟩; have HR := Lib.hid hr; clear hr)
  go_ret
  exact ⟨⟨_, rfl, HR.out⟩, belowN ((Below.refl _ w).alloc (Nat.le_refl _) _) q⟩

set_option maxHeartbeats 1000000 in
theorem has_v (b : Nat) (v : Value) (l : List Int) (a : Int) (w : World) (h : HeapV w b v l) (hn : l.length ≤ 1000000) :
    Calls Tryz.prog 75 #[.pointer (some ⟨b, 0, none⟩), .int .u64 a] w fun e w' => e = .returned (.bool (decide (a ∈ l))) ∧ Below w.heap.size w w' := by
  have HP := Lib.hid (place_v b v l a w h hn)
  clear h
  go_enter Tryz.func75, Tryz.ntmps75
  go_wp2_with (go_at_call 67; refine HP.out.mono ?_; rintro e w2 ⟨⟨r, rfl, hr⟩, hB⟩; have HR := Lib.hid hr; have HB := Lib.hid hB; clear hr hB)
  go_ret
  refine ⟨?_, HB.out⟩
  rcases HR.out with ⟨rfl, hm⟩ | ⟨i, rfl, hi, e⟩
  · simp [hm]
  · have : a ∈ l := by rw [← e]; simp [hi]
    simp [this]

/-- a set of addresses behind b -/
structure SetV (w : World) (b : Nat) (v : Value) (l : List Int) : Prop where
  hv : HeapV w b v l
  hp : Hp l.length l
  nd : l.Nodup
def AddP (b : Nat) (v : Value) (l : List Int) (x : Int) (w w' : World) : Prop := ∃ v' l', SetV w' b v' l' ∧ l'.Perm (if x ∈ l then l else x :: l) ∧ HStep b v v' w w'

set_option maxRecDepth 100000 in
set_option maxHeartbeats 1000000 in
theorem put_v (b : Nat) (v : Value) (l : List Int) (a : Int) (w : World) (h : SetV w b v l) (hn : l.length ≤ 900000) (ha : a ≠ 0) :
    Calls Tryz.prog 62 #[.pointer (some ⟨b, 0, none⟩), .int .u64 a] w fun e w' => e = .returned (.int .i64 0) ∧ AddP b v l a w w' := by
  have HP := Lib.hid (has_v b v l a w h.hv (by omega))
  have H := Lib.hid h
  clear h
  by_cases hm : a ∈ l
  · rw [decide_eq_true hm] at HP
    have HM := Lib.hid hm
    clear hm
    go_enter Tryz.func62, Tryz.ntmps62
    go_wp2_with (go_at_call 75; refine HP.out.mono ?_; rintro e w2 ⟨rfl, hB⟩; have HB := Lib.hid hB; clear hB)
    go_ret
    refine ⟨rfl, v, l, ⟨H.out.hv.keep HB.out, H.out.hp, H.out.nd⟩, by rw [if_pos HM.out], .of_below HB.out⟩
  · rw [decide_eq_false hm] at HP
    have HM := Lib.hid hm
    clear hm
    go_enter Tryz.func62, Tryz.ntmps62
    go_wp2_with (go_at_call 75; refine HP.out.mono ?_; rintro e w2 ⟨rfl, hB⟩; have HB := Lib.hid hB; clear hB)
    refine (hpush_v b v l a w2 (H.out.hv.keep HB.out) H.out.hp hn).mono ?_
    rintro e w3 ⟨rfl, h3⟩
    have HR := Lib.hid h3
    clear h3
    go_wp2_with (fail)
    go_ret
    obtain ⟨v', l', hv, hp, hpm, hst⟩ := HR.out
    exact ⟨rfl, v', l', ⟨hv, hp, hpm.nodup_iff.2 (List.nodup_cons.2 ⟨HM.out, H.out.nd⟩)⟩, by rw [if_neg HM.out]; exact hpm, (HStep.of_below HB.out).trans hst⟩

def GetP (b : Nat) (v : Value) (l : List Int) (x : Int) (w w' : World) : Prop := ∃ v' l', SetV w' b v' l' ∧ l.Perm (x :: l') ∧ HStep b v v' w w'
theorem GetP.of {b : Nat} {v : Value} {l : List Int} {x : Int} {w w' : World} (hn : l.Nodup) (h : PopP b v l x w w') : GetP b v l x w w' := by
  obtain ⟨v', l', hv, hp, hpm, hst⟩ := h
  exact ⟨v', l', ⟨hv, hp, (List.nodup_cons.1 (hpm.nodup_iff.1 hn)).2⟩, hpm, hst⟩

theorem place_in (b : Nat) (v : Value) (l : List Int) (a : Int) (w : World) (h : HeapV w b v l) (hn : l.length ≤ 1000000) (hm : a ∈ l) :
    Calls Tryz.prog 67 #[.pointer (some ⟨b, 0, none⟩), .int .u64 a] w fun e w' => (∃ i : Nat, e = .returned (.int .i64 i) ∧ i < l.length ∧ l.getD i 0 = a) ∧ Below w.heap.size w w' :=
  (place_v b v l a w h hn).mono fun _ _ ⟨⟨r, he, hr⟩, hB⟩ => ⟨by
    rcases hr with ⟨_, hr⟩ | ⟨i, rfl, hi, e⟩
    · exact absurd hm hr
    · exact ⟨i, he, hi, e⟩, hB⟩
theorem place_out (b : Nat) (v : Value) (l : List Int) (a : Int) (w : World) (h : HeapV w b v l) (hn : l.length ≤ 1000000) (hm : a ∉ l) :
    Calls Tryz.prog 67 #[.pointer (some ⟨b, 0, none⟩), .int .u64 a] w fun e w' => e = .returned (.int .i64 (-1)) ∧ Below w.heap.size w w' :=
  (place_v b v l a w h hn).mono fun _ _ ⟨⟨r, he, hr⟩, hB⟩ => ⟨by
    rcases hr with ⟨rfl, _⟩ | ⟨i, rfl, hi, e⟩
    · exact he
    · exact absurd (by rw [← e]; simp [hi]) hm, hB⟩

set_option maxRecDepth 100000 in
set_option maxHeartbeats 1000000 in
theorem drop_v (b : Nat) (v : Value) (l : List Int) (a : Int) (w : World) (h : SetV w b v l) (hn : l.length ≤ 900000) :
    Calls Tryz.prog 47 #[.pointer (some ⟨b, 0, none⟩), .int .u64 a] w fun e w' => e = .returned (.bool (decide (a ∈ l))) ∧ ∃ v' l', SetV w' b v' l' ∧ l'.Perm (l.erase a) ∧ HStep b v v' w w' := by
  have H := Lib.hid h
  by_cases hm : a ∈ l
  · have HP := Lib.hid (place_in b v l a w h.hv (by omega) hm)
    have HM := Lib.hid hm
    rw [decide_eq_true hm]
    clear h hm
    go_enter Tryz.func47, Tryz.ntmps47
    go_wp2_with (fail)
    refine HP.out.mono ?_
    rintro e w2 ⟨⟨i, rfl, hi, hx⟩, hB⟩
    have HX := Lib.hid hx
    have HI := Lib.hid hi
    have HB := Lib.hid hB
    have hi0 : ¬ (i : Int) < 0 := by omega
    clear hi hx hB
    go_wp2_with (fail)
    refine (hremove_v b v l (l.length - 1) i w2 (H.out.hv.keep HB.out) H.out.hp (by have := HI.out; omega) (by omega) (by have := HI.out; omega)).mono ?_
    rintro e w3 ⟨rfl, h3⟩
    rw [HX.out] at h3
    have HR := Lib.hid (GetP.of H.out.nd h3)
    clear h3
    go_wp2_with (fail)
    go_ret
    obtain ⟨v', l', hv, hpm, hst⟩ := HR.out
    exact ⟨rfl, v', l', hv, ((List.perm_cons_erase HM.out).symm.trans hpm).cons_inv.symm, (HStep.of_below HB.out).trans hst⟩
  · have HP := Lib.hid (place_out b v l a w h.hv (by omega) hm)
    have HM := Lib.hid hm
    rw [decide_eq_false hm]
    clear h hm
    go_enter Tryz.func47, Tryz.ntmps47
    go_wp2_with (go_at_call 67; refine HP.out.mono ?_; rintro e w2 ⟨rfl, hB⟩; have HB := Lib.hid hB; clear hB)
    go_ret
    exact ⟨rfl, v, l, ⟨H.out.hv.keep HB.out, H.out.hp, H.out.nd⟩, by rw [List.erase_of_not_mem HM.out], .of_below HB.out⟩
end Go.Proofs.YtodgfbjjjgohgaaGreat
namespace Go.Proofs.YtodgfbjjjgohgaaGreat
open Go.RowKit

theorem put_zero (b : Nat) (w : World) :
    Calls Tryz.prog 62 #[.pointer (some ⟨b, 0, none⟩), .int .u64 0] w fun e w' => e = .returned (.int .i64 2) ∧ w = w' := by
  go_enter Tryz.func62, Tryz.ntmps62
  go_wp2_with (fail)
  go_ret
  exact ⟨rfl, rfl⟩

/-- a list that lies somewhere to be read -/
def ReadL (w : World) (a : Option Addr) (xs : List Int) : Prop := xs = [] ∨ ∃ g o, a = some ⟨g, o, none⟩ ∧ g < w.heap.size ∧ ∀ j, j < xs.length → w.cell? ⟨g, o + j, none⟩ = some (.int .u64 (xs.getD j 0))
def NewPb (xs : List Int) (e : Ending) (w w' : World) : Prop := ∃ v l, e = .returned (.pointer (some ⟨w.heap.size, 0, none⟩)) ∧ SetV w' w.heap.size v l ∧ (∀ x, x ∈ l ↔ x ∈ xs ∧ x ≠ 0) ∧ l.length ≤ xs.length ∧ (∀ g, v.ownBlock = some g → w.heap.size ≤ g) ∧ Below w.heap.size w w'

theorem HStep.own {b : Nat} {v v' : Value} {w w' : World} {B : Nat} (h : HStep b v v' w w') (hv : ∀ g, v.ownBlock = some g → B ≤ g) (hB : B ≤ w.heap.size) : ∀ g, v'.ownBlock = some g → B ≤ g := by
  rcases h.2 with e | e
  · rw [e]; exact hv
  · exact fun g hg => by have := e g hg; omega
theorem HStep.below {b : Nat} {v v' : Value} {w0 w w' : World} {B : Nat} (h : HStep b v v' w w') (hv : ∀ g, v.ownBlock = some g → B ≤ g) (hb : B ≤ b) (hB : B ≤ w.heap.size) (k : Below B w0 w) : Below B w0 w' := by
  refine k.trans ⟨h.1.os, h.1.tape, h.1.output, h.1.size, fun i hi => h.1.block i (by omega) ?_⟩
  rintro (e | e)
  · omega
  · have := hv i e; omega

set_option maxRecDepth 100000 in
set_option maxHeartbeats 2000000 in
theorem newfree_v (a : Option Addr) (c : Nat) (xs : List Int) (w : World) (h : ReadL w a xs) (hn : xs.length ≤ 100000) :
    Calls Tryz.prog 38 #[.slice a xs.length c] w fun e w' => NewPb xs e w w' := by
  have H := Lib.hid h
  clear h
  go_enter Tryz.func38, Tryz.ntmps38
  go_wp2_with (fail)
  go_loopw [10] (fun jv wr => ∃ (k : Nat) (v : Value) (l : List Int), jv = .int .i64 k ∧ k ≤ xs.length ∧ SetV wr w.heap.size v l ∧ (∀ x, x ∈ l ↔ x ∈ xs.take k ∧ x ≠ 0) ∧ l.length ≤ k ∧ (∀ g, v.ownBlock = some g → w.heap.size ≤ g) ∧ Below w.heap.size w wr) (fun jv _ => xs.length - (intOf jv).toNat)
  case atStart =>
    refine ⟨0, .slice none 0 0, [], rfl, Nat.zero_le _, ⟨⟨?_, ?_, fun e => by simp [Value.ownBlock] at e⟩, fun k hk => absurd hk (Nat.not_lt_zero _), List.nodup_nil⟩, by simp, Nat.le_refl _, fun g e => by simp [Value.ownBlock] at e, (Below.refl _ w).alloc (Nat.le_refl _) _⟩
    · exact Blk.new w #[.slice none 0 0] 142
    · exact World.ownsRow_nil _ _ _ _
  case round =>
    obtain ⟨k, v, l, rfl, hk, hs, hm, hlk, hown, hB⟩ := hrel
    have HS := Lib.hid hs
    have HM := Lib.hid hm
    have HO := Lib.hid hown
    have HB := Lib.hid hB
    have hsz := hB.size
    clear hs hm hown
    by_cases hlt : k < xs.length
    · rcases H.out with e | ⟨g, o, rfl, hg, hc⟩
      · subst e; simp at hlt
      obtain ⟨x, hx⟩ : ∃ x, xs.getD k 0 = x := ⟨_, rfl⟩
      have c1 := (HB.out.cell (p := ⟨g, o + k, none⟩) hg).trans (hc k hlt)
      rw [hx] at c1
      have HT := Lib.hid (show xs.take (k + 1) = xs.take k ++ [x] from by rw [← hx, List.take_succ_eq_append_getElem hlt]; simp [hlt])
      have b1 : (k : Int) < (xs.length : Int) := by omega
      have b3 : ((k : Int)).toNat = k := by omega
      clear hc hx hB
      by_cases hx0 : x = 0
      · subst hx0
        go_wp2_with (fail)
        refine (put_zero _ _).mono ?_
        rintro e w2 ⟨rfl, rfl⟩
        go_wp2_with (fail)
        go_roundw
        case rel => exact ⟨k + 1, v, l, by go_num, by omega, HS.out, fun y => by rw [HM.out, HT.out, List.mem_append]; simp; intro h1 h2; exact absurd h2 h1, by omega, HO.out, HB.out⟩
        case measure => simp [intOf]; omega
      · have HP := Lib.hid (put_v w.heap.size v l x wr HS.out (by omega) hx0)
        have HX := Lib.hid hx0
        clear hx0
        go_wp2_with (fail)
        refine HP.out.mono ?_
        rintro e w2 ⟨rfl, v2, l2, hs2, hp2, hst2⟩
        have HR := Lib.hid (show (∀ y, y ∈ l2 ↔ y ∈ xs.take (k + 1) ∧ y ≠ 0) ∧ l2.length ≤ k + 1 from by
          constructor
          · intro y
            rw [hp2.mem_iff, HT.out, List.mem_append]
            by_cases hxl : x ∈ l
            · rw [if_pos hxl, HM.out]
              have := (HM.out x).1 hxl
              constructor
              · rintro ⟨h1, h2⟩; exact ⟨.inl h1, h2⟩
              · rintro ⟨h1 | h1, h2⟩
                · exact ⟨h1, h2⟩
                · rw [List.mem_singleton] at h1; subst h1; exact this
            · rw [if_neg hxl, List.mem_cons, HM.out]
              constructor
              · rintro (rfl | ⟨h1, h2⟩)
                · exact ⟨.inr (by simp), HX.out⟩
                · exact ⟨.inl h1, h2⟩
              · rintro ⟨h1 | h1, h2⟩
                · exact .inr ⟨h1, h2⟩
                · exact .inl (by simpa using h1)
          · rw [hp2.length_eq]; split <;> (try simp only [List.length_cons]) <;> omega)
        have HS2 := Lib.hid hs2
        have HO2 := Lib.hid (hst2.own HO.out hsz)
        have HB2 := Lib.hid (hst2.below HO.out (Nat.le_refl _) hsz HB.out)
        clear hs2 hp2 hst2
        go_wp2_with (fail)
        go_roundw
        case rel => exact ⟨k + 1, v2, l2, by go_num, by omega, HS2.out, HR.out.1, HR.out.2, HO2.out, HB2.out⟩
        case measure => simp [intOf]; omega
    · have hk2 : k = xs.length := by omega
      subst hk2
      clear hB
      go_wp2_with (fail)
      go_ret
      exact ⟨v, l, rfl, HS.out, fun x => by rw [HM.out, List.take_length], hlk, HO.out, HB.out⟩
end Go.Proofs.YtodgfbjjjgohgaaGreat
