/-
  DIGITS OF SIXTEEN: formatBits: a contract.
-/
import Derived.Test.YtnmpgjodndfoiaaDoorHx
import Derived.Laws.IdiomStrings
namespace Go.Proofs.YtnmpgjodndfoiaaDoor
open Go.RowKit

def hexD (k : Nat) : UInt8 := UInt8.ofNat (if k < 10 then 48 + k else 87 + k)
def digS : ByteArray := ⟨#[48, 49, 50, 51, 52, 53, 54, 55, 56, 57, 97, 98, 99, 100, 101, 102, 103, 104, 105, 106, 107, 108, 109, 110, 111, 112, 113, 114, 115, 116, 117, 118, 119, 120, 121, 122]⟩
theorem digS_at (m : Nat) (h : m < 16) (hp : m < digS.size) : digS[m]'hp = hexD m := by
  have : ∀ m : Fin 16, digS[m.val]'(Nat.lt_of_lt_of_le m.2 (by decide)) = hexD m.val := by decide
  exact this ⟨m, h⟩
def hexTo (n : Nat) : Nat → List UInt8
  | 0 => []
  | j + 1 => hexD (n / 16 ^ j % 16) :: hexTo n j
theorem hexTo_len (n : Nat) : ∀ j, (hexTo n j).length = j
  | 0 => rfl
  | j + 1 => by simp [hexTo, hexTo_len n j]
theorem and15 (a : Nat) (h : a ≤ 18446744073709551615) : bits BinOp.and IntKind.u64 (a : Int) 15 = ((a % 16 : Nat) : Int) := by
  have := u64_and_nat a 15 (by omega) (by decide)
  rw [show ((15 : Nat) : Int) = 15 from rfl] at this
  rw [this]
  have := Nat.and_two_pow_sub_one_eq_mod a 4
  simp at this
  rw [this]
theorem div16 (m k : Nat) : m / 16 ^ k / 16 = m / 16 ^ (k + 1) := by rw [Nat.div_div_eq_div_mul, Nat.pow_succ]
def bufTo (n j : Nat) : List UInt8 := List.replicate (65 - j) 0 ++ hexTo n j
theorem bufTo_len (n j : Nat) (h : j ≤ 65) : (bufTo n j).length = 65 := by simp [bufTo, hexTo_len]; omega
theorem bufTo_set (n j : Nat) (h : j < 65) : (bufTo n j).set (64 - j) (hexD (n / 16 ^ j % 16)) = bufTo n (j + 1) := by
  unfold bufTo
  rw [show 65 - j = (64 - j) + 1 by omega, List.replicate_succ', List.append_assoc, List.set_append_right _ _ (by simp)]
  simp [hexTo]
theorem zero65 : Tryd.zeroCells102 = bcells (bufTo 0 0) := by kernel_rfl

def HexPost (n : Nat) (w : World) (e : Ending) (w' : World) : Prop := ∃ d, 1 ≤ d ∧ d ≤ 16 ∧ n < 16 ^ d ∧ e = .returned (.tuple #[.slice none 0 0, .string ⟨(hexTo n d).toArray⟩]) ∧ Below w.heap.size w w'

set_option maxRecDepth 100000 in
set_option maxHeartbeats 1000000 in
theorem fbits (n : Nat) (hn : n ≤ 18446744073709551615) (w : World) (h : Tab16 w) :
    Calls Tryd.prog 51 #[.slice none 0 0, .int .u64 n, .int .i64 16, .bool false, .bool false] w (HexPost n w) := by
  have HT := Lib.hid h
  clear h
  go_enter Tryd.func51, Tryd.ntmps51
  go_wp2_with (first
    | (go_at_call 66; refine (pow2_16 _).mono ?_; rintro e w2 ⟨rfl, rfl⟩)
    | (go_at_call 67; refine (tz_16 _ (HT.out.below ((Below.refl _ _).alloc (Nat.le_refl _) _))).mono ?_; rintro e w2 ⟨rfl, rfl⟩))
  go_loopw [1, 13] (fun nv iv wr => ∃ j : Nat, j ≤ 15 ∧ iv = .int .i64 ((65 - j : Nat) : Int) ∧ nv = .int .u64 ((n / 16 ^ j : Nat) : Int) ∧ (j = 0 ∨ 1 ≤ n / 16 ^ j) ∧ Hid (Blk wr w.heap.size (bcells (bufTo n j)) 102) ∧ Hid (Below w.heap.size w wr)) (fun _ iv _ => (intOf iv).toNat)
  case atStart => exact ⟨0, by omega, rfl, by simp, .inl rfl, Lib.hid (by rw [zero65]; exact Blk.new w _ _), Lib.hid ((Below.refl _ _).alloc (Nat.le_refl _) _)⟩
  case round =>
    obtain ⟨j, hj, rfl, rfl, h1, HK, HB⟩ := hrel
    obtain ⟨k, hk⟩ : ∃ k, 65 - j = k + 1 := ⟨64 - j, by omega⟩
    have hk64 : 64 - j = k := by omega
    have hl := bufTo_len n j (by omega)
    have hkl : k < (bufTo n j).length := by omega
    have hc := HK.out.cell k
    have hf := HK.out.frozen k
    rw [show (bcells (bufTo n j))[k]? = some (.int .u8 (((bufTo n j)[k]'hkl).toNat : Int)) by simp [bcells, hkl]] at hc
    obtain ⟨ob, hob⟩ : ∃ ob : UInt8, (bufTo n j)[k]'hkl = ob := ⟨_, rfl⟩
    rw [hob] at hc
    clear hob
    rw [hk]
    have hu := Nat.div_le_self n (16 ^ j)
    have HD := Lib.hid (div16 n j)
    have hS := bufTo_set n j (by omega)
    rw [hk64] at hS
    have HS := Lib.hid hS
    clear hS
    obtain ⟨u, hn2⟩ : ∃ u, n / 16 ^ j = u := ⟨_, rfl⟩
    rw [hn2] at hu h1 HD HS
    rw [hn2]
    have HN := Lib.hid hn2
    have ha := and15 u (by omega)
    have hm := Nat.mod_lt u (show 0 < 16 by decide)
    have b1 : ((u % 16 : Nat) : Int) < 36 := by omega
    have b2 : (u : Int) ≤ 18446744073709551615 := by omega
    have b5 : (0 : Int) ≤ (u : Int) % 16 := by omega
    have b6 : (u : Int) % 16 < 36 := by omega
    have HDG := Lib.hid (digS_at (u % 16) hm)
    have b3 : (k : Int) < 65 := by omega
    have b4 : ((k : Int)).toNat = k := by omega
    have HKK := Lib.hid hk
    clear hn2 hl hk hk64 hkl
    by_cases hge : 16 ≤ u
    · have hge' : (16 : Int) ≤ (u : Int) := by omega
      go_wp2_with (fail)
      have HK2 := Lib.hid (HK.out.set k (.int .u8 ((hexD (u % 16)).toNat : Int)))
      have HB2 := Lib.hid (HB.out.setCell (p := ⟨w.heap.size, k, none⟩) (Nat.le_refl _) (.int .u8 ((hexD (u % 16)).toNat : Int)))
      go_roundw
      case rel =>
        have hj15 : j + 1 ≤ 15 := by
          rcases Nat.lt_or_ge j 15 with h | h
          · exact h
          · exfalso
            obtain rfl : j = 15 := by omega
            have h2 := HN.out
            have h3 : n / 16 ^ 15 < 16 := by
              rw [Nat.div_lt_iff_lt_mul (by decide)]
              have : (16 : Nat) * 16 ^ 15 = 18446744073709551616 := by decide
              omega
            omega
        refine ⟨j + 1, hj15, ?_, ?_, .inr ?_, Lib.hid ?_, Lib.hid ?_⟩
        · rw [show 65 - (j + 1) = k by have := HKK.out; omega]
        · rw [← HD.out]; rfl
        · rw [← HD.out]; omega
        · have := HK2.out
          rw [bcells_set, HS.out] at this
          rw [← HDG.out (by show u % 16 < 36; omega)] at this
          exact this
        · have := HB2.out
          rw [← HDG.out (by show u % 16 < 36; omega)] at this
          exact this
      case measure => simp [intOf]
    · have hge' : ¬ (16 : Int) ≤ (u : Int) := by omega
      have hu16 : u < 16 := by omega
      have hdg := digS_at u hu16 (Nat.lt_of_lt_of_le hu16 (by decide))
      unfold digS at hdg
      have hum : u % 16 = u := Nat.mod_eq_of_lt hu16
      have hS2 := HS.out
      rw [hum] at hS2
      have hK2 := HK.out.set k (.int .u8 ((hexD u).toNat : Int))
      rw [bcells_set, hS2] at hK2
      have HB2 := Lib.hid (HB.out.setCell (p := ⟨w.heap.size, k, none⟩) (Nat.le_refl _) (.int .u8 ((hexD u).toNat : Int)))
      have hl2 : (hexTo n (j + 1)).length = 65 - k := by rw [hexTo_len]; have := HKK.out; omega
      have hcv := run_convert_bytes_back (P := Tryd.prog) (wr.setCell ⟨w.heap.size, k, none⟩ (.int .u8 ((hexD u).toNat : Int))) 26 9 5 ⟨w.heap.size, k, none⟩ (65 - k) (hexTo n (j + 1)) Tryd.underlying26 Tryd.underlying5 Tryd.underlying9 (fun i hi => by
        have e1 : (⟨w.heap.size, k, none⟩ : Addr).add i = ⟨w.heap.size, k + i, none⟩ := by unfold Addr.add; split; (rename_i h; subst h; rfl); rfl
        rw [e1, hK2.cell]
        have hlt : k + i < (bufTo n (j + 1)).length := by rw [bufTo_len _ _ (by omega)]; have := HKK.out; rw [hexTo_len] at hi; omega
        have hg : (bufTo n (j + 1))[k + i]'hlt = (hexTo n (j + 1))[i] := by
          have hk65 : k = 65 - (j + 1) := by have := HKK.out; omega
          simp only [bufTo]
          rw [List.getElem_append_right (by simp; omega)]
          congr 1
          simp; omega
        simp [bcells, hlt, hg])
      rw [hl2] at hcv
      have HF := Lib.hid (show n < 16 ^ (j + 1) from by
        have h2 := HN.out
        have h3 : n / 16 ^ j < 16 := by omega
        rw [Nat.div_lt_iff_lt_mul (Nat.pow_pos (by decide))] at h3
        rw [Nat.pow_succ]; omega)
      have b7 : (k : Int) ≤ 65 := by omega
      have b9 : ¬ 65 = k := by omega
      clear hK2 hS2 hum hl2 ha hm b1 b5 b6 HDG
      go_wp2_with (fail)
      go_ret2
      exact ⟨j + 1, by omega, by omega, HF.out, rfl, HB2.out⟩
end Go.Proofs.YtnmpgjodndfoiaaDoor
