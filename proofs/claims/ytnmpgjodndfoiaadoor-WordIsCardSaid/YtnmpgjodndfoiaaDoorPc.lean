/-
  The law WordPacks, walked.
-/
import Derived.Test.YtnmpgjodndfoiaaDoorPl
import Derived.Test.YtnmpgjodndfoiaaDoorKw
import Derived.Test.YtnmpgjodndfoiaaDoorRd
namespace Go.Proofs.YtnmpgjodndfoiaaDoor
open Go.RowKit

theorem RowAt.sl {w : World} {v : Value} {l : List Int} (h : RowAt w v l) : ∃ p c, v = .slice p l.length c := by
  rcases h with ⟨rfl, p, c, rfl⟩ | ⟨_, g, o, c, rfl, _⟩
  · exact ⟨_, _, rfl⟩
  · exact ⟨_, _, rfl⟩
theorem Reads.none_' {w : World} {B : Nat} (p : Option Addr) : Reads w B 1 p 0 [] := ⟨rfl, fun h => absurd h (by omega)⟩
theorem reads_one' (w : World) (v : Value) (t : TypeId) : Reads (w.alloc (.cells #[v] t)) (w.heap.size + 1) 1 (some ⟨w.heap.size, 0, none⟩) 1 [v] :=
  ⟨rfl, fun _ => ⟨_, rfl, Nat.lt_succ_self _, fun j u hu => by
    cases j with
    | zero =>
      simp at hu; subst hu
      have := (Blk.new w #[v] t).cell 0
      simp [Addr.add]
    | succ j => simp at hu⟩⟩
theorem RowAt.reads {w : World} {p : Option Addr} {n c : Nat} {l : List Int} (h : RowAt w (.slice p n c) l) : n = l.length ∧ Reads w w.heap.size 1 p l.length (l.map (Value.int .u64)) := by
  rcases h with ⟨rfl, p', c', e⟩ | ⟨h0, g, o, c', e, _, hg, hw⟩
  · cases e; exact ⟨rfl, Reads.none_' _⟩
  · cases e
    refine ⟨rfl, by simp, fun _ => ⟨_, rfl, hg, fun j u hu => ?_⟩⟩
    have hj : j < l.length := by have := (List.getElem?_eq_some_iff.1 hu).1; simpa using this
    have e1 : (⟨g, o, none⟩ : Addr).add j = ⟨g, o + j, none⟩ := by unfold Addr.add; split; (rename_i h; subst h; rfl); rfl
    rw [e1, hw j hj]
    simp [hj] at hu ⊢
    exact hu
theorem rpack_row (l : List UInt8) (hl : l.length ≤ 1000000) (w : World) : Calls Tryd.prog 19 #[.string ⟨l.toArray⟩] w fun e w' => ∃ p n c, e = .returned (.slice p n c) ∧ RowAt w' (.slice p n c) (packW l) ∧ Below w.heap.size w w' :=
  (rpack_s l hl w).mono fun _ _ ⟨v, he, ho, hB⟩ => by
    obtain ⟨p, n, c, rfl⟩ := own_slice ho
    exact ⟨p, n, c, he, RowAt.of_own ho, hB⟩
theorem unpack_yes (l : List Int) (v : Value) (w : World) (hl : l.length ≤ 100000) (hu : U64s l) (hr : RowAt w v l) (T : List UInt8) (h : unpackOk l = true) (hT : unpackT l = T) :
    Calls Tryd.prog 17 #[v] w fun e w' => e = .returned (.tuple #[.string ⟨T.toArray⟩, .int .i64 0]) ∧ Below w.heap.size w w' :=
  (unpack_r l v w hl hu hr).mono fun _ _ ⟨he, hB⟩ => ⟨by rw [he, if_pos h, hT], hB⟩
theorem unpack_no (l : List Int) (v : Value) (w : World) (hl : l.length ≤ 100000) (hu : U64s l) (hr : RowAt w v l) (h : unpackOk l = false) :
    Calls Tryd.prog 17 #[v] w fun e w' => e = .returned (.tuple #[.string ⟨#[]⟩, .int .i64 11]) ∧ Below w.heap.size w w' :=
  (unpack_r l v w hl hu hr).mono fun _ _ ⟨he, hB⟩ => ⟨by rw [he, h, if_neg (by decide)], hB⟩

theorem packs_big (s : ByteArray) (w : World) (hs : s.size ≤ 9223372036854775807) (h : 2000 < s.size) (hT : Tab16 w) :
    Calls Tryd.prog 5 #[.string s] w fun e w' => e = .returned (.bool true) ∧ Below w.heap.size w w' := by
  have h1 : (2000 : Int) < (s.size : Int) := by omega
  have HT := Lib.hid hT
  clear hT
  go_enter Tryd.func5, Tryd.ntmps5
  go_wp2_with (go_at_call 11; refine (known_any _ HT.out).mono ?_; rintro e w7 ⟨rfl, hk⟩; have HK := Lib.hid hk; clear hk)
  go_ret
  exact ⟨rfl, HK.out⟩

set_option maxRecDepth 100000 in
set_option maxHeartbeats 4000000 in
theorem packs_in (L : List UInt8) (w : World) (hl : L.length ≤ 2000) (hT : Tab16 w) :
    Calls Tryd.prog 5 #[.string ⟨L.toArray⟩] w fun e w' => e = .returned (.bool true) ∧ Below w.heap.size w w' := by
  obtain ⟨i0, hi, hz0, hz1, hz2⟩ := info_parts Tryd.info22
  have h1 : ¬ (2000 : Int) < (L.length : Int) := by omega
  have HT := Lib.hid hT
  have hpl := packW_len L
  obtain ⟨P, hP⟩ : ∃ P, packW L = P := ⟨_, rfl⟩
  have HPk := Lib.hid (fun w => pack_row L (by omega) w)
  have HPr := Lib.hid (fun w => rpack_row L (by omega) w)
  have hu := packW_u64 L (by omega)
  have HY := Lib.hid (fun v w hr => unpack_yes (packW L) v w (by omega) hu hr L (unpackOk_pack L) (by have := unpackT_pack L []; rwa [List.append_nil] at this))
  have HN := Lib.hid (fun v w hr => unpack_no (packW L ++ [0]) v w (by rw [List.length_append, hpl]; simp; omega) (fun x hx => by
    rcases List.mem_append.1 hx with h | h
    · exact hu x h
    · rw [List.mem_singleton] at h; subst h; omega) hr (unpackOk_more L 0))
  rw [hP] at HPk HPr HY HN hpl
  have hpl2 : P.length ≤ 1000 := by omega
  have HL := Lib.hid hpl
  clear hT hpl hP hu
  go_enter Tryd.func5, Tryd.ntmps5
  go_wp2_with (fail)
  refine (HPk.out _).mono ?_
  rintro e w1 ⟨p1, n1, c1, rfl, hr1, hB1⟩
  obtain ⟨hn, hrd⟩ := hr1.reads
  subst hn
  have HR1 := Lib.hid hr1
  have HB1 := Lib.hid hB1
  have HD1 := Lib.hid hrd
  clear hr1 hB1 hrd
  go_wp2_with (at_builtin; refine wpList_append_any _ rfl (.const (.slice none 0 0)) (.tmp 15) _ rfl w1.heap.size 22 i0 _ 1 8 Tryd.underlying36 hi hz0 hz1 hz2 rfl (by omega) (.slice none 0 0) 0 [] rfl (World.ownsRow_nil _ _ _ _) w1.heap.size _ P.length c1 _ rfl HD1.out (ints_oneCell .u64 P) (by unfold maxLen; omega) (by omega) (Nat.le_refl _) ?_; intro v2 w2 hown2 hg2 hat2; have hB2 := (Below.refl w1.heap.size w1).grown hg2 (Nat.le_refl _) (fun r e => by simp [Value.ownBlock] at e); have HB2 := Lib.hid hB2; have HO2 := Lib.hid (RowAt.of_own (l := P) (by simpa using hown2)); obtain ⟨a2, n2, c2, rfl⟩ := own_slice hown2; clear hown2 hg2 hat2 hB2)
  refine (HY.out _ _ HO2.out).mono ?_
  rintro e w3 ⟨rfl, hB3⟩
  have HB3 := Lib.hid (HB2.out.trans (hB3.mono HB2.out.size))
  clear hB3 HB2
  go_wp2_with (fail)
  refine (HPr.out _).mono ?_
  rintro e w4 ⟨p4, n4, c4, rfl, hr4, hB4⟩
  have HR4 := Lib.hid hr4
  have HB4 := Lib.hid (HB3.out.trans (hB4.mono HB3.out.size))
  clear hr4 hB4 HB3
  go_wp2_with (fail)
  refine (same_true P P _ _ _ (by omega) (HR1.out.below HB4.out) HR4.out rfl).mono ?_
  rintro e w5 ⟨rfl, q5, rfl⟩
  have HB5 := Lib.hid (below_drewN HB4.out q5)
  have HD5 := Lib.hid (HD1.out.below HB5.out)
  have hs5 := HB5.out.size
  clear HB4
  obtain ⟨w5, hw5⟩ : ∃ w5, w5 = w4.drewN q5 := ⟨_, rfl⟩
  rw [← hw5] at HB5 HD5 hs5 ⊢
  clear hw5
  go_wp2_with (first
    | (at_builtin
       refine wpList_append_any (o := ⟨some 36, _, _, _, _, _⟩) _ rfl (.const (.slice none 0 0)) (.tmp 35) _ rfl w1.heap.size 22 i0 _ 1 8 Tryd.underlying36 hi hz0 hz1 hz2 rfl (by omega) (.slice none 0 0) 0 [] rfl (World.ownsRow_nil _ _ _ _) w1.heap.size _ P.length c1 _ rfl HD5.out (ints_oneCell .u64 P) (by unfold maxLen; omega) (by omega) hs5 ?_
       intro v6 w6 hown6 hg6 hat6
       have HB6 := Lib.hid (HB5.out.grown hg6 HB5.out.size (fun r e => by simp [Value.ownBlock] at e))
       obtain ⟨a6, n6, c6, rfl⟩ := own_slice hown6
       have HO6 := Lib.hid hown6
       have hs6 := HB6.out.size
       clear hown6 hg6 hat6)
    | (at_builtin
       refine wpList_append_any (o := ⟨some 38, _, _, _, _, _⟩) _ rfl (.tmp 36) (.tmp 37) _ rfl w1.heap.size 22 i0 _ 1 8 Tryd.underlying36 hi hz0 hz1 hz2 rfl (by omega) (.slice a6 n6 c6) (0 + P.length) _ rfl (HO6.out.alloc _) (w6.heap.size + 1) _ 1 1 [.int .u64 0] rfl (reads_one' w6 (.int .u64 0) 22) (ints_oneCell .u64 [0]) (by unfold maxLen; omega) (by omega) (by simp; omega) ?_
       intro v7 w7 hown7 hg7 hat7
       have HB7 := Lib.hid ((HB6.out.alloc hs6 (.cells #[.int .u64 0] 22)).grown hg7 (by simp; omega) (fun r e => own_base HO6.out r e))
       have HO7 := Lib.hid (RowAt.of_own (l := P ++ [0]) (by simpa using hown7))
       obtain ⟨a7, n7, c7, rfl⟩ := own_slice hown7
       clear hown7 hg7 hat7))
  refine (HN.out _ _ HO7.out).mono ?_
  rintro e w8 ⟨rfl, hB8⟩
  have HB8 := Lib.hid (HB1.out.trans ((HB7.out.trans (hB8.mono HB7.out.size)).mono HB1.out.size))
  clear hB8
  go_wp2_with (fail)
  refine (known_any _ (HT.out.below HB8.out)).mono ?_
  rintro e w9 ⟨rfl, hB9⟩
  have HB9 := Lib.hid (HB8.out.trans (hB9.mono HB8.out.size))
  clear hB9
  go_wp2_with (fail)
  go_ret
  exact ⟨rfl, HB9.out⟩
end Go.Proofs.YtnmpgjodndfoiaaDoor
