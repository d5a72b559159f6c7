/-
  The document's Bytes: a contract.
-/
import Derived.Test.YtegamhjfloebgaaSl
import Derived.Test.YtegamhjfloebgaaPc
namespace Go.Proofs.Ytegamhjfloebgaa
open Go.RowKit

theorem own_ne_blk {w : World} {base : Nat} {e : TypeId} {size n : Nat} {v : Value} {xs : List Value} {b : Nat} {C : Array Value} {t : TypeId} (h : w.ownsRow base e size v n xs) (hb : Blk w b C t) (hne : e ≠ t) : some b ≠ v.ownBlock := by
  obtain ⟨_, ⟨rfl, _⟩ | ⟨g, cap, cur, rfl, _, hh, _⟩⟩ := h
  · intro e; cases e
  · intro e
    cases e
    unfold Blk at hb
    rw [hh] at hb
    cases hb
    exact hne rfl
theorem take_snocB (l : List UInt8) (k : Nat) (h : k < l.length) : l.take (k + 1) = l.take k ++ [l.getD k 0] := by
  rw [List.take_succ_eq_append_getElem h]; simp [h]
theorem bvals_app (a b : List UInt8) : bvals (a ++ b) = bvals a ++ bvals b := by simp [bvals]

set_option maxRecDepth 100000 in
set_option maxHeartbeats 2000000 in
theorem rbytes_r (l : List Int) (p : Option Addr) (c : Nat) (hl : l.length ≤ 100000) (hu : U64s l) (w : World) (hr : RowAt w (.slice p l.length c) l) :
    Calls Try.prog 62 #[.slice p l.length c] w fun e w' => ∃ v, e = .returned v ∧ w'.ownsRow w.heap.size 5 1 v (bytesW l).length (bvals (bytesW l)) ∧ Below w.heap.size w w' := by
  obtain ⟨i0, hi, hz0, hz1, hz2⟩ := info_parts Try.infoB
  have HR := Lib.hid hr
  have HU := Lib.hid hu
  clear hr hu
  go_enter Try.func62, Try.ntmps62
  go_wp2_with (fail)
  go_loopw [3, 4] (fun ov iv wr => ∃ k : Nat, k ≤ l.length ∧ iv = .int .i64 k ∧ Hid (wr.ownsRow w.heap.size 5 1 ov (bytesW (l.take k)).length (bvals (bytesW (l.take k)))) ∧ Hid (Below w.heap.size w wr)) (fun _ iv _ => l.length - (intOf iv).toNat)
  case atStart => exact ⟨0, by omega, rfl, Lib.hid (World.ownsRow_nil _ _ _ _), Lib.hid (Below.refl _ _)⟩
  case round =>
    obtain ⟨k, hk, rfl, HO, HB⟩ := hrel
    by_cases hlt : k < l.length
    · rcases HR.out with ⟨h, _⟩ | ⟨_, g, o, c', e, _, hg, hw⟩
      · rw [h] at hlt; cases hlt
      cases e
      have hc := hw.below HB.out hg k hlt
      obtain ⟨x, hx⟩ : ∃ x, l[k] = x := ⟨_, rfl⟩
      rw [hx] at hc
      have hxu := HU.out x (by rw [← hx]; exact List.getElem_mem _)
      have HS := Lib.hid (show bytesW (l.take (k + 1)) = bytesW (l.take k) ++ putB x by rw [List.take_succ_eq_append_getElem hlt, bytesW_snoc, hx])
      obtain ⟨Y, hY⟩ : ∃ Y, bytesW (l.take k) = Y := ⟨_, rfl⟩
      have hYl : Y.length = 8 * k := by rw [← hY, bytesW_len, List.length_take]; omega
      rw [hY] at HO HS
      have HL := Lib.hid hYl
      obtain ⟨a0, a1, a2, a3, a4, a5, a6, a7, ha⟩ := putB_lit x
      have HP := Lib.hid (show ∀ w, Calls Try.prog 72 #[.int .u64 x] w fun e w' => e = .returned (.agg #[.int .u8 (a0.toNat : Int), .int .u8 (a1.toNat : Int), .int .u8 (a2.toNat : Int), .int .u8 (a3.toNat : Int), .int .u8 (a4.toNat : Int), .int .u8 (a5.toNat : Int), .int .u8 (a6.toNat : Int), .int .u8 (a7.toNat : Int)]) ∧ Below w.heap.size w w' from fun w => by
        have := rput_n x hxu.1 hxu.2 w
        rw [ha] at this
        exact this)
      have HA := Lib.hid ha
      have hsz := HB.out.size
      have b1 : (k : Int) < (l.length : Int) := by omega
      have b3 : ((k : Int)).toNat = k := by omega
      have HLT := Lib.hid hlt
      clear hx hxu ha hYl hY hw hlt
      obtain ⟨wo, rfl⟩ : ∃ wo : World, wo = wr := ⟨_, rfl⟩
      go_wp2_with (fail)
      refine (HP.out _).mono ?_
      rintro e w2 ⟨rfl, hB2⟩
      have HO2 := Lib.hid ((own_below HO.out hB2).alloc (.cells (bcells (putB x)) 113))
      have HB2 := Lib.hid ((HB.out.trans (hB2.mono hsz)).alloc (by have := hB2.size; omega) (.cells (bcells (putB x)) 113))
      have HK2 := Lib.hid (Blk.new w2 (bcells (putB x)) 113)
      clear hB2
      go_wp2_with (fail)
      obtain ⟨w3, hw3⟩ : ∃ w3, w3 = w2.alloc (.cells (bcells (putB x)) 113) := ⟨_, rfl⟩
      rw [← hw3] at HO2 HB2 HK2
      rw [show w2.alloc (.cells #[.int .u8 (a0.toNat : Int), .int .u8 (a1.toNat : Int), .int .u8 (a2.toNat : Int), .int .u8 (a3.toNat : Int), .int .u8 (a4.toNat : Int), .int .u8 (a5.toNat : Int), .int .u8 (a6.toNat : Int), .int .u8 (a7.toNat : Int)] 113) = w3 from by rw [hw3, HA.out]; rfl]
      obtain ⟨B5, hB5⟩ : ∃ B5, w2.heap.size = B5 := ⟨_, rfl⟩
      rw [hB5] at HK2 ⊢
      clear hw3 hB5
      go_loopw [3, 6] (fun ov jv wr => ∃ j : Nat, j ≤ 8 ∧ jv = .int .i64 j ∧ Hid (wr.ownsRow w.heap.size 5 1 ov (Y ++ (putB x).take j).length (bvals (Y ++ (putB x).take j))) ∧ Hid (Below w.heap.size w wr) ∧ Hid (Blk wr B5 (bcells (putB x)) 113)) (fun _ jv _ => 8 - (intOf jv).toNat)
      case atStart => exact ⟨0, by omega, rfl, Lib.hid (by simpa using HO2.out), HB2, HK2⟩
      case round =>
        obtain ⟨j, hj, rfl, HOj, HBj, HKj⟩ := hrel
        have hpl := putB_len x
        by_cases hlt : j < 8
        · have hc3 := HKj.out.cell j
          rw [show (bcells (putB x))[j]? = some (.int .u8 (((putB x).getD j 0).toNat : Int)) by simp [bcells, hpl, hlt]] at hc3
          have HT := Lib.hid (take_snocB (putB x) j (by omega))
          obtain ⟨z, hz⟩ : ∃ z, (putB x).getD j 0 = z := ⟨_, rfl⟩
          rw [hz] at hc3 HT
          have hlen : (Y ++ (putB x).take j).length ≤ 8 * k + 8 := by rw [List.length_append, HL.out, List.length_take]; omega
          have hown := HOj.out
          have hsj := HBj.out.size
          have b5 : (j : Int) < 8 := by omega
          have b6 : ((j : Int)).toNat = j := by omega
          have HLJ := Lib.hid hlt
          clear hz hpl hlt
          go_wp2_with (at_builtin; refine wpList_append_own _ rfl _ _ 48 rfl w.heap.size 5 i0 (.int .u8 0) 1 1 Try.underlying48 hi hz0 hz1 hz2 rfl (by decide) _ _ _ rfl (hown.alloc _) ⟨wr.heap.size, 0, none⟩ 1 1 [.int .u8 (z.toNat : Int)] rfl rfl (cell_one_new _ _ _) (by simp [Value.oneCell']) (by unfold maxLen; omega) (by omega) (by simp; omega) ?_; intro v' w6 hown' hgrow hnil)
          have HO6 := Lib.hid hown'
          have HB6 := Lib.hid ((HBj.out.alloc hsj (.cells #[.int .u8 (z.toNat : Int)] 5)).grown hgrow (by simp; omega) (fun r e => own_base hown _ e))
          have HK6 := Lib.hid ((HKj.out.alloc (.cells #[.int .u8 (z.toNat : Int)] 5)).grown hgrow (own_ne_blk (hown.alloc (.cells #[.int .u8 (z.toNat : Int)] 5)) (HKj.out.alloc (.cells #[.int .u8 (z.toNat : Int)] 5)) (by decide)))
          clear hown' hgrow hnil hown
          go_roundw
          case rel => exact ⟨j + 1, HLJ.out, by go_num, Lib.hid (by
            have := HO6.out
            rw [HT.out, ← List.append_assoc, bvals_app _ [z], List.length_append]
            exact this), HB6, HK6⟩
          case measure => have := HLJ.out; simp [intOf]; omega
        · have hj8 : j = 8 := by omega
          subst hj8
          rw [List.take_of_length_le (by omega)] at HOj
          clear hpl
          go_wp2_with (fail)
          go_roundw
          case rel => exact ⟨k + 1, HLT.out, by go_num, by rw [HS.out]; exact HOj, HBj⟩
          case measure => have := HLT.out; simp [intOf]; omega
    · have hk2 : l.take k = l := List.take_of_length_le (by omega)
      rw [hk2] at HO
      clear hk2
      obtain ⟨a2, n2, c2, rfl⟩ := own_slice HO.out
      go_wp2_with (fail)
      go_ret
      exact ⟨_, rfl, HO.out, HB.out⟩
end Go.Proofs.Ytegamhjfloebgaa
