/-
  The document's Bytes: a contract.
-/
import Derived.Test.YtegamhjfloebgaaUn
import Derived.Test.YtegamhjfloebgaaSl
import Derived.Test.YtegamhjfloebgaaRd
namespace Go.Proofs.Ytegamhjfloebgaa

theorem wd_digit : ∀ (m : List UInt8) (i : Nat), (wd m).toNat / 256 ^ i % 256 = (m.getD i 0).toNat
  | [], i => by simp [wd]
  | b :: r, i => by
    have h0 := wd_nonneg r
    have hb := b.toNat_lt
    have e0 : wd (b :: r) = wd r * 256 + (b.toNat : Int) := rfl
    have e : (wd (b :: r)).toNat = (wd r).toNat * 256 + b.toNat := by rw [e0]; omega
    rw [e]
    cases i with
    | zero => simp; try omega
    | succ i =>
      rw [Nat.pow_succ, Nat.mul_comm (256 ^ i) 256, ← Nat.div_div_eq_div_mul, show ((wd r).toNat * 256 + b.toNat) / 256 = (wd r).toNat by omega, wd_digit r i]
      simp
theorem putB_wd (m : List UInt8) (h : m.length ≤ 8) : putB (wd m) = m ++ List.replicate (8 - m.length) 0 := by
  apply List.ext_getElem
  · simp [putB_len]; omega
  · intro i h1 h2
    have hi : i < 8 := by rw [putB_len] at h1; exact h1
    have e : (putB (wd m))[i] = byteN (wd m) i := by simp [putB]
    refine e.trans ?_
    unfold byteN
    rw [wd_digit]
    have e2 : UInt8.ofNat (m.getD i 0).toNat = m.getD i 0 := by simp
    rw [e2]
    rcases Nat.lt_or_ge i m.length with h3 | h3
    · rw [List.getElem_append_left h3]; simp [h3]
    · rw [List.getElem_append_right h3]; simp [h3]
theorem bytes_chunks (L : List UInt8) : ∀ k, bytesW ((List.range k).map (chunk L)) = L.take (8 * k) ++ List.replicate (8 * k - L.length) 0
  | 0 => by simp [bytesW]
  | k + 1 => by
    rw [List.range_succ, List.map_append, List.map_cons, List.map_nil, bytesW_snoc, bytes_chunks L k]
    unfold chunk
    have hl : ((L.drop (8 * k)).take 8).length ≤ 8 := List.length_take_le _ _
    rw [putB_wd _ hl]
    rcases Nat.lt_or_ge (8 * k) L.length with h | h
    · rw [show 8 * k - L.length = 0 by omega, List.replicate_zero, List.append_nil, ← List.append_assoc, show 8 * (k + 1) = 8 * k + 8 by omega, List.take_add]
      congr 2
      simp; omega
    · rw [List.drop_of_length_le h, List.take_of_length_le h, List.take_of_length_le (show L.length ≤ 8 * (k + 1) by omega)]
      simp only [List.take_nil, List.length_nil, List.nil_append, List.append_assoc]
      rw [List.replicate_append_replicate]
      congr 2
      omega
theorem packW_tail (L : List UInt8) : bytesW (packW L).tail = L ++ List.replicate (8 * ((L.length + 7) / 8) - L.length) 0 := by
  unfold packW packTo
  rw [List.tail_cons, bytes_chunks, List.take_of_length_le (by omega)]
theorem unpackT_pack (L : List UInt8) (more : List Int) : unpackT (packW L ++ more) = L := by
  unfold unpackT
  have e1 : (packW L ++ more).tail = (packW L).tail ++ more := by unfold packW packTo; rfl
  have e2 : (packW L ++ more).headD 0 = (L.length : Int) := by unfold packW packTo; rfl
  rw [e1, e2]
  have e3 : bytesW ((packW L).tail ++ more) = bytesW (packW L).tail ++ bytesW more := by unfold bytesW; rw [List.flatMap_append]
  rw [e3, packW_tail, List.append_assoc, Int.toNat_natCast]
  simp
theorem unpackOk_pack (L : List UInt8) : unpackOk (packW L) = true := by
  unfold unpackOk
  have h := unpackT_pack L []
  rw [List.append_nil] at h
  rw [h]
  have e2 : (packW L).headD 0 = (L.length : Int) := by unfold packW packTo; rfl
  have e3 : (packW L).length = (L.length + 7) / 8 + 1 := packW_len L
  have e4 : (packW L).isEmpty = false := by unfold packW packTo; rfl
  rw [e2, e3, e4]
  simp
  omega
theorem unpackOk_more (L : List UInt8) (x : Int) : unpackOk (packW L ++ [x]) = false := by
  unfold unpackOk
  rw [unpackT_pack]
  have : ¬ packW L = packW L ++ [x] := fun h => by
    have := congrArg List.length h
    simp at this
  simp [this]
theorem packW_u64 (L : List UInt8) (hl : L.length ≤ 1000000) : U64s (packW L) := by
  intro x hx
  unfold packW packTo at hx
  rcases List.mem_cons.1 hx with rfl | h
  · omega
  · obtain ⟨i, _, rfl⟩ := List.mem_map.1 h
    unfold chunk
    refine ⟨wd_nonneg _, ?_⟩
    have h1 := wd_lt ((L.drop (8 * i)).take 8)
    have h2 : 256 ^ ((L.drop (8 * i)).take 8).length ≤ 256 ^ 8 := Nat.pow_le_pow_right (by decide) (List.length_take_le _ _)
    have h3 : (256 : Nat) ^ 8 = 18446744073709551616 := by decide
    omega
end Go.Proofs.Ytegamhjfloebgaa
namespace Go.Proofs.Ytegamhjfloebgaa
open Go.RowKit
set_option linter.unusedVariables false

theorem RowAt.sl {w : World} {v : Value} {l : List Int} (h : RowAt w v l) : ∃ p c, v = .slice p l.length c := by
  rcases h with ⟨rfl, p, c, rfl⟩ | ⟨_, g, o, c, rfl, _⟩
  · exact ⟨_, _, rfl⟩
  · exact ⟨_, _, rfl⟩
theorem Reads.none_' {w : World} {B : Nat} (p : Option Addr) : Reads w B 1 p 0 [] := ⟨rfl, fun h => absurd h (by omega)⟩
theorem reads_one' (w : World) (v : Value) (t : TypeId) : Reads (w.alloc (.cells #[v] t)) (w.heap.size + 1) 1 (some ⟨w.heap.size, 0, none⟩) 1 [v] :=
  ⟨rfl, fun _ => ⟨_, rfl, Nat.lt_succ_self _, fun j u hu => by
    cases j with
    | zero =>
      simp at hu; subst hu
      have := (Blk.new w #[v] t).cell 0
      simp [Addr.add]
    | succ j => simp at hu⟩⟩
theorem RowAt.reads {w : World} {p : Option Addr} {n c : Nat} {l : List Int} (h : RowAt w (.slice p n c) l) : n = l.length ∧ Reads w w.heap.size 1 p l.length (l.map (Value.int .u64)) := by
  rcases h with ⟨rfl, p', c', e⟩ | ⟨h0, g, o, c', e, _, hg, hw⟩
  · cases e; exact ⟨rfl, Reads.none_' _⟩
  · cases e
    refine ⟨rfl, by simp, fun _ => ⟨_, rfl, hg, fun j u hu => ?_⟩⟩
    have hj : j < l.length := by have := (List.getElem?_eq_some_iff.1 hu).1; simpa using this
    have e1 : (⟨g, o, none⟩ : Addr).add j = ⟨g, o + j, none⟩ := by unfold Addr.add; split; (rename_i h; subst h; rfl); rfl
    rw [e1, hw j hj]
    simp [hj] at hu ⊢
    exact hu
theorem rpack_row (l : List UInt8) (hl : l.length ≤ 1000000) (w : World) : Calls Try.prog 35 #[.string ⟨l.toArray⟩] w fun e w' => ∃ p n c, e = .returned (.slice p n c) ∧ RowAt w' (.slice p n c) (packW l) ∧ Below w.heap.size w w' :=
  (rpack_s l hl w).mono fun _ _ ⟨v, he, ho, hB⟩ => by
    obtain ⟨p, n, c, rfl⟩ := own_slice ho
    exact ⟨p, n, c, he, RowAt.of_own ho, hB⟩
theorem unpack_yes (l : List Int) (v : Value) (w : World) (hl : l.length ≤ 100000) (hu : U64s l) (hr : RowAt w v l) (T : List UInt8) (h : unpackOk l = true) (hT : unpackT l = T) :
    Calls Try.prog 59 #[v] w fun e w' => e = .returned (.tuple #[.string ⟨T.toArray⟩, .int .i64 0]) ∧ Below w.heap.size w w' :=
  (unpack_r l v w hl hu hr).mono fun _ _ ⟨he, hB⟩ => ⟨by rw [he, if_pos h, hT], hB⟩
theorem unpack_no (l : List Int) (v : Value) (w : World) (hl : l.length ≤ 100000) (hu : U64s l) (hr : RowAt w v l) (h : unpackOk l = false) :
    Calls Try.prog 59 #[v] w fun e w' => e = .returned (.tuple #[.string ⟨#[]⟩, .int .i64 11]) ∧ Below w.heap.size w w' :=
  (unpack_r l v w hl hu hr).mono fun _ _ ⟨he, hB⟩ => ⟨by rw [he, h, if_neg (by decide)], hB⟩

end Go.Proofs.Ytegamhjfloebgaa
namespace Go.Proofs.Ytegamhjfloebgaa
open Go.RowKit

theorem own_ne_blk {w : World} {base : Nat} {e : TypeId} {size n : Nat} {v : Value} {xs : List Value} {b : Nat} {C : Array Value} {t : TypeId} (h : w.ownsRow base e size v n xs) (hb : Blk w b C t) (hne : e ≠ t) : some b ≠ v.ownBlock := by
  obtain ⟨_, ⟨rfl, _⟩ | ⟨g, cap, cur, rfl, _, hh, _⟩⟩ := h
  · intro e; cases e
  · intro e
    cases e
    unfold Blk at hb
    rw [hh] at hb
    cases hb
    exact hne rfl
theorem take_snocB (l : List UInt8) (k : Nat) (h : k < l.length) : l.take (k + 1) = l.take k ++ [l.getD k 0] := by
  rw [List.take_succ_eq_append_getElem h]; simp [h]
theorem bvals_app (a b : List UInt8) : bvals (a ++ b) = bvals a ++ bvals b := by simp [bvals]

set_option maxRecDepth 100000 in
set_option maxHeartbeats 2000000 in
theorem rbytes_r (l : List Int) (p : Option Addr) (c : Nat) (hl : l.length ≤ 100000) (hu : U64s l) (w : World) (hr : RowAt w (.slice p l.length c) l) :
    Calls Try.prog 62 #[.slice p l.length c] w fun e w' => ∃ v, e = .returned v ∧ w'.ownsRow w.heap.size 5 1 v (bytesW l).length (bvals (bytesW l)) ∧ Below w.heap.size w w' := by
  obtain ⟨i0, hi, hz0, hz1, hz2⟩ := info_parts Try.infoB
  have HR := Lib.hid hr
  have HU := Lib.hid hu
  clear hr hu
  go_enter Try.func62, Try.ntmps62
  go_wp2_with (fail)
  go_loopw [3, 4] (fun ov iv wr => ∃ k : Nat, k ≤ l.length ∧ iv = .int .i64 k ∧ Hid (wr.ownsRow w.heap.size 5 1 ov (bytesW (l.take k)).length (bvals (bytesW (l.take k)))) ∧ Hid (Below w.heap.size w wr)) (fun _ iv _ => l.length - (intOf iv).toNat)
  case atStart => exact ⟨0, by omega, rfl, Lib.hid (World.ownsRow_nil _ _ _ _), Lib.hid (Below.refl _ _)⟩
  case round =>
    obtain ⟨k, hk, rfl, HO, HB⟩ := hrel
    by_cases hlt : k < l.length
    · rcases HR.out with ⟨h, _⟩ | ⟨_, g, o, c', e, _, hg, hw⟩
      · rw [h] at hlt; cases hlt
      cases e
      have hc := hw.below HB.out hg k hlt
      obtain ⟨x, hx⟩ : ∃ x, l[k] = x := ⟨_, rfl⟩
      rw [hx] at hc
      have hxu := HU.out x (by rw [← hx]; exact List.getElem_mem _)
      have HS := Lib.hid (show bytesW (l.take (k + 1)) = bytesW (l.take k) ++ putB x by rw [List.take_succ_eq_append_getElem hlt, bytesW_snoc, hx])
      obtain ⟨Y, hY⟩ : ∃ Y, bytesW (l.take k) = Y := ⟨_, rfl⟩
      have hYl : Y.length = 8 * k := by rw [← hY, bytesW_len, List.length_take]; omega
      rw [hY] at HO HS
      have HL := Lib.hid hYl
      obtain ⟨a0, a1, a2, a3, a4, a5, a6, a7, ha⟩ := putB_lit x
      have HP := Lib.hid (show ∀ w, Calls Try.prog 72 #[.int .u64 x] w fun e w' => e = .returned (.agg #[.int .u8 (a0.toNat : Int), .int .u8 (a1.toNat : Int), .int .u8 (a2.toNat : Int), .int .u8 (a3.toNat : Int), .int .u8 (a4.toNat : Int), .int .u8 (a5.toNat : Int), .int .u8 (a6.toNat : Int), .int .u8 (a7.toNat : Int)]) ∧ Below w.heap.size w w' from fun w => by
        have := rput_n x hxu.1 hxu.2 w
        rw [ha] at this
        exact this)
      have HA := Lib.hid ha
      have hsz := HB.out.size
      have b1 : (k : Int) < (l.length : Int) := by omega
      have b3 : ((k : Int)).toNat = k := by omega
      have HLT := Lib.hid hlt
      clear hx hxu ha hYl hY hw hlt
      obtain ⟨wo, rfl⟩ : ∃ wo : World, wo = wr := ⟨_, rfl⟩
      go_wp2_with (fail)
      refine (HP.out _).mono ?_
      rintro e w2 ⟨rfl, hB2⟩
      have HO2 := Lib.hid ((own_below HO.out hB2).alloc (.cells (bcells (putB x)) 113))
      have HB2 := Lib.hid ((HB.out.trans (hB2.mono hsz)).alloc (by have := hB2.size; omega) (.cells (bcells (putB x)) 113))
      have HK2 := Lib.hid (Blk.new w2 (bcells (putB x)) 113)
      clear hB2
      go_wp2_with (fail)
      obtain ⟨w3, hw3⟩ : ∃ w3, w3 = w2.alloc (.cells (bcells (putB x)) 113) := ⟨_, rfl⟩
      rw [← hw3] at HO2 HB2 HK2
      rw [show w2.alloc (.cells #[.int .u8 (a0.toNat : Int), .int .u8 (a1.toNat : Int), .int .u8 (a2.toNat : Int), .int .u8 (a3.toNat : Int), .int .u8 (a4.toNat : Int), .int .u8 (a5.toNat : Int), .int .u8 (a6.toNat : Int), .int .u8 (a7.toNat : Int)] 113) = w3 from by rw [hw3, HA.out]; rfl]
      obtain ⟨B5, hB5⟩ : ∃ B5, w2.heap.size = B5 := ⟨_, rfl⟩
      rw [hB5] at HK2 ⊢
      clear hw3 hB5
      go_loopw [3, 6] (fun ov jv wr => ∃ j : Nat, j ≤ 8 ∧ jv = .int .i64 j ∧ Hid (wr.ownsRow w.heap.size 5 1 ov (Y ++ (putB x).take j).length (bvals (Y ++ (putB x).take j))) ∧ Hid (Below w.heap.size w wr) ∧ Hid (Blk wr B5 (bcells (putB x)) 113)) (fun _ jv _ => 8 - (intOf jv).toNat)
      case atStart => exact ⟨0, by omega, rfl, Lib.hid (by simpa using HO2.out), HB2, HK2⟩
      case round =>
        obtain ⟨j, hj, rfl, HOj, HBj, HKj⟩ := hrel
        have hpl := putB_len x
        by_cases hlt : j < 8
        · have hc3 := HKj.out.cell j
          rw [show (bcells (putB x))[j]? = some (.int .u8 (((putB x).getD j 0).toNat : Int)) by simp [bcells, hpl, hlt]] at hc3
          have HT := Lib.hid (take_snocB (putB x) j (by omega))
          obtain ⟨z, hz⟩ : ∃ z, (putB x).getD j 0 = z := ⟨_, rfl⟩
          rw [hz] at hc3 HT
          have hlen : (Y ++ (putB x).take j).length ≤ 8 * k + 8 := by rw [List.length_append, HL.out, List.length_take]; omega
          have hown := HOj.out
          have hsj := HBj.out.size
          have b5 : (j : Int) < 8 := by omega
          have b6 : ((j : Int)).toNat = j := by omega
          have HLJ := Lib.hid hlt
          clear hz hpl hlt
          go_wp2_with (at_builtin; refine wpList_append_own _ rfl _ _ 48 rfl w.heap.size 5 i0 (.int .u8 0) 1 1 Try.underlying48 hi hz0 hz1 hz2 rfl (by decide) _ _ _ rfl (hown.alloc _) ⟨wr.heap.size, 0, none⟩ 1 1 [.int .u8 (z.toNat : Int)] rfl rfl (cell_one_new _ _ _) (by simp [Value.oneCell']) (by unfold maxLen; omega) (by omega) (by simp; omega) ?_; intro v' w6 hown' hgrow hnil)
          have HO6 := Lib.hid hown'
          have HB6 := Lib.hid ((HBj.out.alloc hsj (.cells #[.int .u8 (z.toNat : Int)] 5)).grown hgrow (by simp; omega) (fun r e => own_base hown _ e))
          have HK6 := Lib.hid ((HKj.out.alloc (.cells #[.int .u8 (z.toNat : Int)] 5)).grown hgrow (own_ne_blk (hown.alloc (.cells #[.int .u8 (z.toNat : Int)] 5)) (HKj.out.alloc (.cells #[.int .u8 (z.toNat : Int)] 5)) (by decide)))
          clear hown' hgrow hnil hown
          go_roundw
          case rel => exact ⟨j + 1, HLJ.out, by go_num, Lib.hid (by
            have := HO6.out
            rw [HT.out, ← List.append_assoc, bvals_app _ [z], List.length_append]
            exact this), HB6, HK6⟩
          case measure => have := HLJ.out; simp [intOf]; omega
        · have hj8 : j = 8 := by omega
          subst hj8
          rw [List.take_of_length_le (by omega)] at HOj
          clear hpl
          go_wp2_with (fail)
          go_roundw
          case rel => exact ⟨k + 1, HLT.out, by go_num, by rw [HS.out]; exact HOj, HBj⟩
          case measure => have := HLT.out; simp [intOf]; omega
    · have hk2 : l.take k = l := List.take_of_length_le (by omega)
      rw [hk2] at HO
      clear hk2
      obtain ⟨a2, n2, c2, rfl⟩ := own_slice HO.out
      go_wp2_with (fail)
      go_ret
      exact ⟨_, rfl, HO.out, HB.out⟩
end Go.Proofs.Ytegamhjfloebgaa
