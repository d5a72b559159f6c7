/-
  value.Puts, the reference's Puts; Words: contracts.
-/
import Derived.Test.YtegamhjfloebgaaPr
namespace Go.Proofs.Ytegamhjfloebgaa
open Go.RowKit

/-- stores as cells -/
def ecells (l : List (Int × Int)) : List Value := l.flatMap (fun e => [Value.int .u64 e.1, Value.int .u64 e.2])
theorem ecells_snoc (l : List (Int × Int)) (e : Int × Int) : ecells (l ++ [e]) = ecells l ++ [.int .u64 e.1, .int .u64 e.2] := by simp [ecells]
theorem ecells_len (l : List (Int × Int)) : (ecells l).length = l.length * 2 := by
  induction l with
  | nil => rfl
  | cons x r ih => simp [ecells] at ih ⊢; omega
theorem cells_two_new (w : World) (x y : Value) (t : TypeId) : ∀ j u, [x, y][j]? = some u → (w.alloc (.cells #[x, y] t)).cell? ((⟨w.heap.size, 0, none⟩ : Addr).add j) = some u := by
  intro j u hj
  match j, hj with
  | 0, hj => simp at hj; subst hj; simp [Addr.add]
  | 1, hj => simp at hj; subst hj; simp [Addr.add]
theorem Try.infoPut : (Try.prog.info? 35).map (fun i => (i.zero, i.size, i.bytes)) = some (some (.agg #[.int .u64 0, .int .u64 0]), 2, 16) := by kernel_rfl

theorem vclass_s (l : List UInt8) (w : World) (hl : l.length ≤ 1000000) : Calls Try.prog 9 #[.string ⟨l.toArray⟩] w fun e w' => e = .returned (.tuple #[.int .i64 (clsN l.length), .int .i64 (if 0 < clsN l.length then 0 else 10)]) ∧ Below w.heap.size w w' := by
  have HCl := Lib.hid (class_n l.length w)
  obtain ⟨c, hc⟩ : ∃ c, c = clsN l.length := ⟨_, rfl⟩
  have hc0 : 0 ≤ c := by rw [hc]; unfold clsN; split; omega; split; omega; split <;> omega
  rw [← hc] at HCl ⊢
  clear hc
  by_cases h : 0 < c
  · rw [if_pos h]
    go_enter Try.func9, Try.ntmps9
    go_wp2_with (go_at_call 31; refine HCl.out.mono ?_; rintro e w1 ⟨rfl, hB⟩)
    go_ret2
    exact ⟨rfl, hB⟩
  · have HH := Lib.hid (show c = 0 by omega)
    rw [if_neg h]
    go_enter Try.func9, Try.ntmps9
    go_wp2_with (go_at_call 31; refine HCl.out.mono ?_; rintro e w1 ⟨rfl, hB⟩)
    go_ret2
    exact ⟨by rw [HH.out]; rfl, hB⟩

def putTo (base : Int) (l : List Int) (k : Nat) : List (Int × Int) := (List.range k).map (fun (i : Nat) => (base + 8 * (i : Int), l.getD i 0))
theorem putTo_succ (base : Int) (l : List Int) (k : Nat) : putTo base l (k + 1) = putTo base l k ++ [(base + 8 * (k : Int), l.getD k 0)] := by
  unfold putTo; rw [List.range_succ, List.map_append]; rfl
theorem putTo_len (base : Int) (l : List Int) (k : Nat) : (putTo base l k).length = k := by simp [putTo]
def putsL (base : Int) (l : List UInt8) : List (Int × Int) := putTo base (packW l) (packW l).length

def PutsPost (w : World) (base : Int) (l : List UInt8) (e : Ending) (w' : World) : Prop :=
  (if 120 < l.length then e = .returned (.tuple #[.slice none 0 0, .int .i64 10])
   else (¬ HasBlk base (clsN l.length) ∧ e = .returned (.tuple #[.slice none 0 0, .int .i64 2])) ∨
     (HasBlk base (clsN l.length) ∧ ∃ v, e = .returned (.tuple #[v, .int .i64 0]) ∧ w'.ownsRow w.heap.size 35 2 v (putsL base l).length (ecells (putsL base l)))) ∧ Below w.heap.size w w'

theorem cls_12 (n : Nat) (h : n ≤ 120) : clsN n = 1 ∨ clsN n = 2 := by
  unfold clsN
  rw [if_neg (by omega)]
  by_cases h1 : (n : Int) ≤ 56
  · rw [if_pos h1]; exact .inl rfl
  · rw [if_neg h1, if_pos (by omega)]; exact .inr rfl
theorem cls_0 (n : Nat) (h : 120 < n) : clsN n = 0 := by
  unfold clsN
  rw [if_neg (by omega), if_neg (by omega), if_neg (by omega)]
theorem hasBlk_le {a c : Int} (hc : c = 1 ∨ c = 2) (h : HasBlk a c) : 64 ≤ a ∧ a ≤ 70000 := by
  obtain ⟨i, j, h1, h2, h3, h4⟩ := h
  have := blk_bd c hc j h3
  omega
theorem packW_len (l : List UInt8) : (packW l).length = (l.length + 7) / 8 + 1 := by simp [packW, packTo]

set_option maxRecDepth 100000 in
set_option maxHeartbeats 1000000 in
theorem puts_s (base : Int) (l : List UInt8) (hl : l.length ≤ 1000000) (h0 : 0 ≤ base) (hm : base ≤ 18446744073709551615) (w : World) : Calls Try.prog 10 #[.int .u64 base, .string ⟨l.toArray⟩] w (PutsPost w base l) := by
  obtain ⟨i0, hi, hz0, hz1, hz2⟩ := info_parts Try.infoPut
  have HV := Lib.hid (vclass_s l w hl)
  by_cases h120 : 120 < l.length
  · have hcl := cls_0 l.length h120
    rw [hcl, if_neg (by omega)] at HV
    have FIN := Lib.hid (fun (e : Ending) (w' : World) (h1 : e = .returned (.tuple #[.slice none 0 0, .int .i64 10])) (h2 : Below w.heap.size w w') => show PutsPost w base l e w' by unfold PutsPost; rw [if_pos h120]; exact ⟨h1, h2⟩)
    clear hcl
    go_enter Try.func10, Try.ntmps10
    go_wp2_with (go_at_call 9; refine HV.out.mono ?_; rintro e w1 ⟨rfl, hB⟩)
    go_ret2
    exact FIN.out _ _ rfl hB
  · have hcl := cls_12 l.length (by omega)
    obtain ⟨c, hc⟩ : ∃ c, c = clsN l.length := ⟨_, rfl⟩
    rw [← hc] at hcl HV
    rw [if_pos (by omega)] at HV
    have FINN := Lib.hid (fun (e : Ending) (w' : World) (hn : ¬ HasBlk base c) (h1 : e = .returned (.tuple #[.slice none 0 0, .int .i64 2])) (h2 : Below w.heap.size w w') => show PutsPost w base l e w' by unfold PutsPost; rw [if_neg h120, ← hc]; exact ⟨.inl ⟨hn, h1⟩, h2⟩)
    have FINY := Lib.hid (fun (v : Value) (w' : World) (hn : HasBlk base c) (h1 : w'.ownsRow w.heap.size 35 2 v (putsL base l).length (ecells (putsL base l))) (h2 : Below w.heap.size w w') => show PutsPost w base l (.returned (.tuple #[v, .int .i64 0])) w' by unfold PutsPost; rw [if_neg h120, ← hc]; exact ⟨.inr ⟨hn, v, rfl, h1⟩, h2⟩)
    have HCL := Lib.hid hcl
    have hpl := packW_len l
    have hpl2 : (packW l).length ≤ 20 := by omega
    clear hc hcl hpl
    go_enter Try.func10, Try.ntmps10
    go_wp2_with (go_at_call 9; refine HV.out.mono ?_; rintro e w1 ⟨rfl, hB⟩)
    refine (index_a base c HCL.out h0 hm w1).mono ?_
    rintro e w2 ⟨⟨hn, j, rfl⟩ | ⟨hn, rfl⟩, hB2⟩
    · have hbl := hasBlk_le HCL.out hn
      have HY := Lib.hid hn
      have HB2 := Lib.hid (hB.trans (hB2.mono hB.size))
      obtain ⟨b1, b2⟩ := hbl
      clear hn hB hB2
      go_wp2_with (fail)
      refine (pack_s l hl w2).mono ?_
      rintro e w3 ⟨v, rfl, hown, hB3⟩
      have HB3 := Lib.hid (HB2.out.trans (hB3.mono HB2.out.size))
      obtain ⟨g, cap, rfl, hg1, hg2, hg3, hg4, _, hcell, _⟩ := own_shape hown (by rw [packW_len]; omega)
      have HC := Lib.hid hcell
      have hs3 := HB3.out.size
      clear hown hB3 hcell
      go_wp2_with (fail)
      go_loopw [10, 32] (fun ov iv wr => ∃ k : Nat, k ≤ (packW l).length ∧ iv = .int .i64 k ∧ wr.ownsRow w3.heap.size 35 2 ov (putTo base (packW l) k).length (ecells (putTo base (packW l) k)) ∧ Below w3.heap.size w3 wr) (fun _ iv _ => (packW l).length - (intOf iv).toNat)
      case atStart => exact ⟨0, by omega, rfl, World.ownsRow_nil _ _ _ _, Below.refl _ _⟩
      case round =>
        obtain ⟨k, hk, rfl, hown, hBr⟩ := hrel
        by_cases hlt : k < (packW l).length
        · have hck := (hBr.cell (p := ⟨g, k, none⟩) hg2).trans (HC.out k hlt)
          obtain ⟨x, hx⟩ : ∃ x, (packW l).getD k 0 = x := ⟨_, rfl⟩
          rw [show ((packW l).map (Value.int .u64))[k]? = some (.int .u64 ((packW l).getD k 0)) by simp [hlt], hx] at hck
          have hpl := putTo_len base (packW l) k
          have HP := Lib.hid hpl
          have HS := Lib.hid (putTo_succ base (packW l) k)
          have HX := Lib.hid hx
          have hsz := hBr.size
          clear hpl hx
          go_wp2_with (at_builtin; refine wpList_append_own _ rfl _ _ 28 rfl w3.heap.size 35 i0 (.agg #[.int .u64 0, .int .u64 0]) 2 16 Try.underlying28 hi hz0 hz1 hz2 rfl (by decide) _ _ _ rfl (hown.alloc _) ⟨wr.heap.size, 0, none⟩ 1 1 [.int .u64 (base + 8 * (k : Int)), .int .u64 x] rfl rfl (cells_two_new _ _ _ _) (by simp [Value.oneCell']) (by rw [HP.out]; unfold maxLen; omega) (by rw [HP.out]; omega) (by simp; omega) ?_)
          intro v' w6 hown' hgrow hnil
          have HO6 := Lib.hid hown'
          have HB6 := Lib.hid ((hBr.alloc hsz (.cells #[.int .u64 (base + 8 * (k : Int)), .int .u64 x] 35)).grown hgrow (by simp; omega) (fun r e => own_base hown _ e))
          clear hown' hgrow hnil hown hBr
          go_wp2_with (fail)
          go_roundw
          case rel => exact ⟨k + 1, by omega, by go_num, by rw [HS.out, HX.out, List.length_append, ecells_snoc]; exact HO6.out, HB6.out⟩
          case measure => simp [intOf]; omega
        · have hk2 : k = (packW l).length := by omega
          have HO := Lib.hid (show wr.ownsRow w.heap.size 35 2 u10 (putsL base l).length (ecells (putsL base l)) by
            unfold putsL; rw [← hk2]; exact own_mono hown hs3)
          have HBr := Lib.hid (HB3.out.trans (hBr.mono hs3))
          clear hown hBr hk2
          go_wp2_with (fail)
          go_ret2
          exact FINY.out _ _ HY.out HO.out HBr.out
    · have HY := Lib.hid hn
      have HB2 := Lib.hid (hB.trans (hB2.mono hB.size))
      clear hn hB hB2
      go_wp2_with (fail)
      go_ret2
      exact FINN.out _ _ HY.out rfl HB2.out
set_option maxRecDepth 100000 in
set_option maxHeartbeats 1000000 in
theorem rputs_s (base : Int) (l : List UInt8) (hl : l.length ≤ 1000000) (w : World) : Calls Try.prog 11 #[.int .u64 base, .string ⟨l.toArray⟩] w (PutsPost w base l) := by
  obtain ⟨i0, hi, hz0, hz1, hz2⟩ := info_parts Try.infoPut
  by_cases h120 : 120 < l.length
  · have FIN := Lib.hid (fun (e : Ending) (w' : World) (h1 : e = .returned (.tuple #[.slice none 0 0, .int .i64 10])) (h2 : Below w.heap.size w w') => show PutsPost w base l e w' by unfold PutsPost; rw [if_pos h120]; exact ⟨h1, h2⟩)
    go_enter Try.func11, Try.ntmps11
    go_wp2_with (fail)
    go_ret2
    exact FIN.out _ _ rfl (Below.refl _ _)
  · have hcl := cls_12 l.length (by omega)
    have HV := Lib.hid (rclass_n l.length w)
    obtain ⟨c, hc⟩ : ∃ c, c = clsN l.length := ⟨_, rfl⟩
    rw [← hc] at hcl HV
    have FINN := Lib.hid (fun (e : Ending) (w' : World) (hn : ¬ HasBlk base c) (h1 : e = .returned (.tuple #[.slice none 0 0, .int .i64 2])) (h2 : Below w.heap.size w w') => show PutsPost w base l e w' by unfold PutsPost; rw [if_neg h120, ← hc]; exact ⟨.inl ⟨hn, h1⟩, h2⟩)
    have FINY := Lib.hid (fun (v : Value) (w' : World) (hn : HasBlk base c) (h1 : w'.ownsRow w.heap.size 35 2 v (putsL base l).length (ecells (putsL base l))) (h2 : Below w.heap.size w w') => show PutsPost w base l (.returned (.tuple #[v, .int .i64 0])) w' by unfold PutsPost; rw [if_neg h120, ← hc]; exact ⟨.inr ⟨hn, v, rfl, h1⟩, h2⟩)
    have HCL := Lib.hid hcl
    have hpl := packW_len l
    have hpl2 : (packW l).length ≤ 20 := by omega
    clear hc hcl hpl
    go_enter Try.func11, Try.ntmps11
    go_wp2_with (go_at_call 12; refine HV.out.mono ?_; rintro e w1 ⟨rfl, rfl⟩)
    refine (rindex_a base c HCL.out w).mono ?_
    rintro e w2 ⟨⟨hn, j, rfl⟩ | ⟨hn, rfl⟩, rfl⟩
    · have hbl := hasBlk_le HCL.out hn
      have HY := Lib.hid hn
      obtain ⟨b1, b2⟩ := hbl
      clear hn
      go_wp2_with (fail)
      refine (rpack_s l hl w).mono ?_
      rintro e w3 ⟨v, rfl, hown, hB3⟩
      have HB3 := Lib.hid hB3
      obtain ⟨g, cap, rfl, hg1, hg2, hg3, hg4, _, hcell, _⟩ := own_shape hown (by rw [packW_len]; omega)
      have HC := Lib.hid hcell
      have hs3 := HB3.out.size
      clear hown hB3 hcell
      go_wp2_with (fail)
      go_loopw [7, 8] (fun ov iv wr => ∃ k : Nat, k ≤ (packW l).length ∧ iv = .int .i64 k ∧ wr.ownsRow w3.heap.size 35 2 ov (putTo base (packW l) k).length (ecells (putTo base (packW l) k)) ∧ Below w3.heap.size w3 wr) (fun _ iv _ => (packW l).length - (intOf iv).toNat)
      case atStart => exact ⟨0, by omega, rfl, World.ownsRow_nil _ _ _ _, Below.refl _ _⟩
      case round =>
        obtain ⟨k, hk, rfl, hown, hBr⟩ := hrel
        by_cases hlt : k < (packW l).length
        · have hck := (hBr.cell (p := ⟨g, k, none⟩) hg2).trans (HC.out k hlt)
          obtain ⟨x, hx⟩ : ∃ x, (packW l).getD k 0 = x := ⟨_, rfl⟩
          rw [show ((packW l).map (Value.int .u64))[k]? = some (.int .u64 ((packW l).getD k 0)) by simp [hlt], hx] at hck
          have hpl := putTo_len base (packW l) k
          have HP := Lib.hid hpl
          have HS := Lib.hid (putTo_succ base (packW l) k)
          have HX := Lib.hid hx
          have hsz := hBr.size
          clear hpl hx
          go_wp2_with (at_builtin; refine wpList_append_own _ rfl _ _ 28 rfl w3.heap.size 35 i0 (.agg #[.int .u64 0, .int .u64 0]) 2 16 Try.underlying28 hi hz0 hz1 hz2 rfl (by decide) _ _ _ rfl (hown.alloc _) ⟨wr.heap.size, 0, none⟩ 1 1 [.int .u64 (base + 8 * (k : Int)), .int .u64 x] rfl rfl (cells_two_new _ _ _ _) (by simp [Value.oneCell']) (by rw [HP.out]; unfold maxLen; omega) (by rw [HP.out]; omega) (by simp; omega) ?_)
          intro v' w6 hown' hgrow hnil
          have HO6 := Lib.hid hown'
          have HB6 := Lib.hid ((hBr.alloc hsz (.cells #[.int .u64 (base + 8 * (k : Int)), .int .u64 x] 35)).grown hgrow (by simp; omega) (fun r e => own_base hown _ e))
          clear hown' hgrow hnil hown hBr
          go_wp2_with (fail)
          go_roundw
          case rel => exact ⟨k + 1, by omega, by go_num, by rw [HS.out, HX.out, List.length_append, ecells_snoc]; exact HO6.out, HB6.out⟩
          case measure => simp [intOf]; omega
        · have hk2 : k = (packW l).length := by omega
          have HO := Lib.hid (show wr.ownsRow w.heap.size 35 2 u7 (putsL base l).length (ecells (putsL base l)) by
            unfold putsL; rw [← hk2]; exact own_mono hown hs3)
          have HBr := Lib.hid (HB3.out.trans (hBr.mono hs3))
          clear hown hBr hk2
          go_wp2_with (fail)
          go_ret2
          exact FINY.out _ _ HY.out HO.out HBr.out
    · have HY := Lib.hid hn
      clear hn
      go_wp2_with (fail)
      go_ret2
      exact FINN.out _ _ HY.out rfl (Below.refl _ _)

/-- how many words a value has -/
def wordsN (n : Int) : Int := if n < 0 ∨ 120 < n then 0 else 1 + (n + 7) / 8
theorem words_n (n : Int) (w : World) : Calls Try.prog 13 #[.int .i64 n] w fun e w' => e = .returned (.int .i64 (wordsN n)) ∧ w = w' := by
  by_cases h0 : n < 0
  · have HI := Lib.hid (show wordsN n = 0 by unfold wordsN; rw [if_pos (.inl h0)])
    go_enter Try.func13, Try.ntmps13
    go_wp2
    go_ret
    exact ⟨ret_int HI.out.symm, rfl⟩
  · by_cases h1 : 120 < n
    · have HI := Lib.hid (show wordsN n = 0 by unfold wordsN; rw [if_pos (.inr h1)])
      go_enter Try.func13, Try.ntmps13
      go_wp2
      go_ret
      exact ⟨ret_int HI.out.symm, rfl⟩
    · have HI := Lib.hid (show wordsN n = 1 + (n + 8 - 1) / 8 by unfold wordsN; rw [if_neg (by omega)]; omega)
      have h2 : decide (120 < n) = false := decide_eq_false h1
      go_enter Try.func13, Try.ntmps13
      go_wp2
      go_ret
      exact ⟨ret_int HI.out.symm, rfl⟩
theorem rwords_n (n : Int) (w : World) : Calls Try.prog 14 #[.int .i64 n] w fun e w' => e = .returned (.int .i64 (wordsN n)) ∧ w = w' := by
  by_cases h0 : n < 0
  · have HI := Lib.hid (show wordsN n = 0 by unfold wordsN; rw [if_pos (.inl h0)])
    go_enter Try.func14, Try.ntmps14
    go_wp2
    go_ret
    exact ⟨ret_int HI.out.symm, rfl⟩
  · by_cases h1 : 120 < n
    · have HI := Lib.hid (show wordsN n = 0 by unfold wordsN; rw [if_pos (.inr h1)])
      go_enter Try.func14, Try.ntmps14
      go_wp2
      go_ret
      exact ⟨ret_int HI.out.symm, rfl⟩
    · have HI := Lib.hid (show wordsN n = 1 + (n + 7) / 8 by unfold wordsN; rw [if_neg (by omega)])
      have h2 : decide (120 < n) = false := decide_eq_false h1
      go_enter Try.func14, Try.ntmps14
      go_wp2_with (fail)
      go_loop [3] (fun kv => ∃ k : Nat, 1 ≤ k ∧ 8 * ((k : Int) - 1) < n + 8 ∧ k ≤ 17 ∧ kv = .int .i64 k) (fun kv => 17 - (intOf kv).toNat)
      case atStart => exact ⟨1, by omega, by omega, by omega, rfl⟩
      case round =>
        obtain ⟨k, hk1, hk2, hk3, rfl⟩ := hrel
        by_cases hlt : 8 * ((k : Int) - 1) < n
        · go_wp2_with (fail)
          go_round
          case rel => exact ⟨k + 1, by omega, by omega, by omega, by go_num⟩
          case measure => simp [intOf]; omega
        · have HK := Lib.hid (show (k : Int) = 1 + (n + 7) / 8 by omega)
          go_wp2_with (fail)
          go_ret
          exact ⟨ret_int (HK.out.trans HI.out.symm), rfl⟩

end Go.Proofs.Ytegamhjfloebgaa
