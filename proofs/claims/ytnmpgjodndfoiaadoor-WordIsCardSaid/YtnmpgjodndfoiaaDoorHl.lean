/-
  The laws WordHexes and WordIs, walked.
-/
import Derived.Test.YtnmpgjodndfoiaaDoorOh
import Derived.Test.YtnmpgjodndfoiaaDoorSe
import Derived.Test.YtnmpgjodndfoiaaDoorUl
import Derived.Laws.StructEq
import Derived.Laws.Cover2
import Derived.Test.YtnmpgjodndfoiaaDoorKw
import Derived.Test.YtnmpgjodndfoiaaDoorCls
import Derived.BigQuiet
import Derived.Deep.QuietTactic
namespace Go.Proofs.YtnmpgjodndfoiaaDoor
open Go.RowKit

theorem hexes_big (s : ByteArray) (w : World) (hs : s.size ≤ 9223372036854775807) (h : 100 < s.size) (hT : Tab16 w) :
    Calls Tryd.prog 9 #[.string s] w fun e w' => e = .returned (.bool true) ∧ Below w.heap.size w w' := by
  have h1 : (100 : Int) < (s.size : Int) := by omega
  have HT := Lib.hid hT
  clear hT
  go_enter Tryd.func9, Tryd.ntmps9
  go_wp2_with (go_at_call 11; refine (known_any _ HT.out).mono ?_; rintro e w7 ⟨rfl, hk⟩; have HK := Lib.hid hk; clear hk)
  go_ret
  exact ⟨rfl, HK.out⟩

set_option maxRecDepth 100000 in
set_option maxHeartbeats 4000000 in
theorem hexes_in (l : List UInt8) (w : World) (hl : l.length ≤ 100) (hT : Tab16 w) (hE : ErrVars w) :
    Calls Tryd.prog 9 #[.string ⟨l.toArray⟩] w fun e w' => e = .returned (.bool true) ∧ Below w.heap.size w w' := by
  have h1 : ¬ (100 : Int) < (l.length : Int) := by omega
  have HO := Lib.hid (ofhex_v l (by omega) w hT hE)
  have HR := Lib.hid (fun w => rofhex_v l (by omega) w)
  have HT := Lib.hid hT
  rcases ofH_cases l with ⟨m, hm, e1, e2, e3⟩ | ⟨e1, e2⟩
  · have hp : OfP l = .tuple #[.int .u64 (m : Int), .int .i64 0] := by unfold OfP; rw [e2]
    rw [hp] at HO HR
    have HX := Lib.hid (fun w h => hex_n m (by omega) w h)
    rw [show hexW m = l from e1.symm] at HX
    clear hp e1 e2 e3 hT hE
    go_enter Tryd.func9, Tryd.ntmps9
    go_wp2_with (fail)
    refine HO.out.mono ?_
    rintro e w1 ⟨rfl, hB1⟩
    have HB1 := Lib.hid hB1
    clear hB1
    go_wp2_with (fail)
    refine (HR.out _).mono ?_
    rintro e w1' ⟨rfl, rfl⟩
    go_wp2_with (fail)
    refine (HX.out _ (HT.out.below HB1.out)).mono ?_
    rintro e w2 ⟨rfl, hB2⟩
    have HB2 := Lib.hid (HB1.out.trans (hB2.mono HB1.out.size))
    clear hB2
    go_wp2_with (fail)
    refine (known_any _ (HT.out.below HB2.out)).mono ?_
    rintro e w3 ⟨rfl, hB3⟩
    have HB3 := Lib.hid (HB2.out.trans (hB3.mono HB2.out.size))
    clear hB3
    go_wp2_with (fail)
    go_ret
    exact ⟨rfl, HB3.out⟩
  · have hp : OfP l = .tuple #[.int .u64 0, .int .i64 11] := by unfold OfP; rw [e2]; rfl
    rw [hp] at HO HR
    clear hp e1 e2 hT hE
    go_enter Tryd.func9, Tryd.ntmps9
    go_wp2_with (fail)
    refine HO.out.mono ?_
    rintro e w1 ⟨rfl, hB1⟩
    have HB1 := Lib.hid hB1
    clear hB1
    go_wp2_with (fail)
    refine (HR.out _).mono ?_
    rintro e w1' ⟨rfl, rfl⟩
    go_wp2_with (fail)
    refine (known_any _ (HT.out.below HB1.out)).mono ?_
    rintro e w3 ⟨rfl, hB3⟩
    have HB3 := Lib.hid (HB1.out.trans (hB3.mono HB1.out.size))
    clear hB3
    go_wp2_with (fail)
    go_ret
    exact ⟨rfl, HB3.out⟩

theorem eq8_s (a0 a1 a2 a3 a4 a5 a6 a7 : Int) (w : World) : (Op.equalIn 10000 33 (.agg #[.int .u8 a0, .int .u8 a1, .int .u8 a2, .int .u8 a3, .int .u8 a4, .int .u8 a5, .int .u8 a6, .int .u8 a7]) (.agg #[.int .u8 a0, .int .u8 a1, .int .u8 a2, .int .u8 a3, .int .u8 a4, .int .u8 a5, .int .u8 a6, .int .u8 a7])).run Tryd.prog w = .ok true w := by
  have u3 := Tryd.underlying5
  have a3' := Tryd.isAgg5
  have z3 := Tryd.sizeOf5
  rw [show (10000 : Nat) = 9999 + 1 from rfl, Op.equalIn]
  simp only [Sem.run_bind, run_underlying Tryd.underlying33, Result.andThen_ok]
  simp only [Std.Legacy.Range.forIn_eq_forIn_range', Std.Legacy.Range.size, Nat.sub_zero, Nat.add_sub_cancel, Nat.div_one, List.range'_succ, List.range'_zero, List.forIn_cons, List.forIn_nil]
  go_simp

set_option maxRecDepth 100000 in
set_option maxHeartbeats 4000000 in
theorem is_law (n : Nat) (hn : n ≤ 18446744073709551615) (w : World) (hT : Tab16 w) (hE : ErrVars w) :
    Calls Tryd.prog 8 #[.int .u64 n] w fun e w' => e = .returned (.bool true) ∧ Below w.heap.size w w' := by
  have HT := Lib.hid hT
  have HE := Lib.hid hE
  obtain ⟨a0, a1, a2, a3, a4, a5, a6, a7, ha⟩ := putB_lit (n : Int)
  have HP := Lib.hid (show ∀ w, Calls Tryd.prog 25 #[.int .u64 n] w fun e w' => e = .returned (.agg #[.int .u8 (a0.toNat : Int), .int .u8 (a1.toNat : Int), .int .u8 (a2.toNat : Int), .int .u8 (a3.toNat : Int), .int .u8 (a4.toNat : Int), .int .u8 (a5.toNat : Int), .int .u8 (a6.toNat : Int), .int .u8 (a7.toNat : Int)]) ∧ Below w.heap.size w w' from fun w => by
    have := put_n (n : Int) (by omega) (by omega) w
    rw [ha] at this
    exact this)
  have HRP := Lib.hid (show ∀ w, Calls Tryd.prog 15 #[.int .u64 n] w fun e w' => e = .returned (.agg #[.int .u8 (a0.toNat : Int), .int .u8 (a1.toNat : Int), .int .u8 (a2.toNat : Int), .int .u8 (a3.toNat : Int), .int .u8 (a4.toNat : Int), .int .u8 (a5.toNat : Int), .int .u8 (a6.toNat : Int), .int .u8 (a7.toNat : Int)]) ∧ Below w.heap.size w w' from fun w => by
    have := rput_n (n : Int) (by omega) (by omega) w
    rw [ha] at this
    exact this)
  have HW := Lib.hid (show wd [a0, a1, a2, a3, a4, a5, a6, a7] = (n : Int) from by rw [← ha]; exact wd_putB _ (by omega) (by omega))
  clear ha hT hE
  go_enter Tryd.func8, Tryd.ntmps8
  go_wp2_with (fail)
  refine (HP.out _).mono ?_
  rintro e w1 ⟨rfl, hB1⟩
  have HB1 := Lib.hid hB1
  clear hB1
  go_wp2_with (fail)
  have HG := Lib.hid (show Calls Tryd.prog 12 #[.slice (some ⟨w1.heap.size, 0, none⟩) 8 8, .int .i64 0] (w1.alloc (.cells #[.int .u8 (a0.toNat : Int), .int .u8 (a1.toNat : Int), .int .u8 (a2.toNat : Int), .int .u8 (a3.toNat : Int), .int .u8 (a4.toNat : Int), .int .u8 (a5.toNat : Int), .int .u8 (a6.toNat : Int), .int .u8 (a7.toNat : Int)] 33)) fun e w' => e = .returned (.tuple #[.int .u64 n, .int .i64 0]) ∧ w1.alloc (.cells #[.int .u8 (a0.toNat : Int), .int .u8 (a1.toNat : Int), .int .u8 (a2.toNat : Int), .int .u8 (a3.toNat : Int), .int .u8 (a4.toNat : Int), .int .u8 (a5.toNat : Int), .int .u8 (a6.toNat : Int), .int .u8 (a7.toNat : Int)] 33) = w' from by
    have := get_yes [a0, a1, a2, a3, a4, a5, a6, a7] w1.heap.size 0 8 0 (by simp) (by simp) (by simp) _ (bytesAt_blk (m := [a0, a1, a2, a3, a4, a5, a6, a7]) (Blk.new w1 _ 33))
    rw [show ((([a0, a1, a2, a3, a4, a5, a6, a7] : List UInt8).drop 0).take 8) = [a0, a1, a2, a3, a4, a5, a6, a7] from rfl, HW.out] at this
    exact this)
  refine HG.out.mono ?_
  rintro e w2 ⟨rfl, rfl⟩
  have HK := Lib.hid (Blk.new w1 #[.int .u8 (a0.toNat : Int), .int .u8 (a1.toNat : Int), .int .u8 (a2.toNat : Int), .int .u8 (a3.toNat : Int), .int .u8 (a4.toNat : Int), .int .u8 (a5.toNat : Int), .int .u8 (a6.toNat : Int), .int .u8 (a7.toNat : Int)] 33)
  have HB2 := Lib.hid (HB1.out.alloc HB1.out.size (.cells #[.int .u8 (a0.toNat : Int), .int .u8 (a1.toNat : Int), .int .u8 (a2.toNat : Int), .int .u8 (a3.toNat : Int), .int .u8 (a4.toNat : Int), .int .u8 (a5.toNat : Int), .int .u8 (a6.toNat : Int), .int .u8 (a7.toNat : Int)] 33))
  clear HG HP HW
  generalize hw2 : (w1.alloc (.cells #[.int .u8 (a0.toNat : Int), .int .u8 (a1.toNat : Int), .int .u8 (a2.toNat : Int), .int .u8 (a3.toNat : Int), .int .u8 (a4.toNat : Int), .int .u8 (a5.toNat : Int), .int .u8 (a6.toNat : Int), .int .u8 (a7.toNat : Int)] 33)) = w2 at *
  clear hw2
  generalize w1.heap.size = bk at *
  have HX := Lib.hid (fun w h => hex_n n hn w h)
  have HRX := Lib.hid (fun w => rhex_n n hn w)
  have HOF := Lib.hid (show ∀ w, Tab16 w → ErrVars w → Calls Tryd.prog 26 #[.string ⟨(hexW n).toArray⟩] w fun e w' => e = .returned (.tuple #[.int .u64 n, .int .i64 0]) ∧ Below w.heap.size w w' from fun w h1 h2 => by
    have := ofhex_v (hexW n) (by rw [show (hexW n).length = 16 from hexTo_len n 16]; omega) w h1 h2
    rw [show OfP (hexW n) = .tuple #[.int .u64 (n : Int), .int .i64 0] from by unfold OfP; rw [show hexW n = hexTo n 16 from rfl, ofH_hex n (by omega)]] at this
    exact this)
  have hxl : (hexW n).length = 16 := hexTo_len n 16
  obtain ⟨x, hx⟩ : ∃ x, hexW n = x := ⟨_, rfl⟩
  rw [hx] at HX HRX HOF hxl
  have hxl2 : x.length ≤ 16 := by omega
  clear hx hxl
  go_wp2_with (fail)
  refine (HX.out _ (HT.out.below HB2.out)).mono ?_
  rintro e w3 ⟨rfl, hB3⟩
  have HB3 := Lib.hid (HB2.out.trans (hB3.mono HB2.out.size))
  have HK3 := Lib.hid (HK.out.kept (Keeps.of_below' hB3) id)
  clear hB3 HB2 HK
  go_wp2_with (fail)
  refine (HOF.out _ (HT.out.below HB3.out) (HE.out.below HB3.out)).mono ?_
  rintro e w4 ⟨rfl, hB4⟩
  have HB4 := Lib.hid (HB3.out.trans (hB4.mono HB3.out.size))
  have HK4 := HK3.out.kept (Keeps.of_below' hB4) id
  clear hB4 HB3 HK3
  have hbk : bk < w4.heap.size := HK4.lt
  have e0 : w4.cell? ⟨bk, 0, none⟩ = some (.int .u8 (a0.toNat : Int)) := by rw [HK4.cell]; rfl
  have e1 : w4.cell? ⟨bk, 1, none⟩ = some (.int .u8 (a1.toNat : Int)) := by rw [HK4.cell]; rfl
  have e2 : w4.cell? ⟨bk, 2, none⟩ = some (.int .u8 (a2.toNat : Int)) := by rw [HK4.cell]; rfl
  have e3 : w4.cell? ⟨bk, 3, none⟩ = some (.int .u8 (a3.toNat : Int)) := by rw [HK4.cell]; rfl
  have e4 : w4.cell? ⟨bk, 4, none⟩ = some (.int .u8 (a4.toNat : Int)) := by rw [HK4.cell]; rfl
  have e5 : w4.cell? ⟨bk, 5, none⟩ = some (.int .u8 (a5.toNat : Int)) := by rw [HK4.cell]; rfl
  have e6 : w4.cell? ⟨bk, 6, none⟩ = some (.int .u8 (a6.toNat : Int)) := by rw [HK4.cell]; rfl
  have e7 : w4.cell? ⟨bk, 7, none⟩ = some (.int .u8 (a7.toNat : Int)) := by rw [HK4.cell]; rfl
  obtain ⟨S, f, fne, f0, fB, fI⟩ := cls_of w4
  have y0 : ∀ x, (f x).cell? ⟨bk, 0, none⟩ = some (.int .u8 (a0.toNat : Int)) := fun x => ((fB x).cell (p := ⟨bk, 0, none⟩) hbk).trans e0
  have y1 : ∀ x, (f x).cell? ⟨bk, 1, none⟩ = some (.int .u8 (a1.toNat : Int)) := fun x => ((fB x).cell (p := ⟨bk, 1, none⟩) hbk).trans e1
  have y2 : ∀ x, (f x).cell? ⟨bk, 2, none⟩ = some (.int .u8 (a2.toNat : Int)) := fun x => ((fB x).cell (p := ⟨bk, 2, none⟩) hbk).trans e2
  have y3 : ∀ x, (f x).cell? ⟨bk, 3, none⟩ = some (.int .u8 (a3.toNat : Int)) := fun x => ((fB x).cell (p := ⟨bk, 3, none⟩) hbk).trans e3
  have y4 : ∀ x, (f x).cell? ⟨bk, 4, none⟩ = some (.int .u8 (a4.toNat : Int)) := fun x => ((fB x).cell (p := ⟨bk, 4, none⟩) hbk).trans e4
  have y5 : ∀ x, (f x).cell? ⟨bk, 5, none⟩ = some (.int .u8 (a5.toNat : Int)) := fun x => ((fB x).cell (p := ⟨bk, 5, none⟩) hbk).trans e5
  have y6 : ∀ x, (f x).cell? ⟨bk, 6, none⟩ = some (.int .u8 (a6.toNat : Int)) := fun x => ((fB x).cell (p := ⟨bk, 6, none⟩) hbk).trans e6
  have y7 : ∀ x, (f x).cell? ⟨bk, 7, none⟩ = some (.int .u8 (a7.toNat : Int)) := fun x => ((fB x).cell (p := ⟨bk, 7, none⟩) hbk).trans e7
  have heq := fun w => eq8_s (a0.toNat : Int) a1.toNat a2.toNat a3.toNat a4.toNat a5.toNat a6.toNat a7.toNat w
  have KN := Lib.hid (fun x => known_any (f x) (HT.out.below (HB4.out.trans ((fB x).mono HB4.out.size))))
  have FB := Lib.hid fB
  have FI := Lib.hid fI
  have F0 := Lib.hid f0
  clear fB fI f0 e0 e1 e2 e3 e4 e5 e6 e7 HK4 hbk HX HOF
  go_wp2_with (fail)
  (refine wp_region_cls f (by kernel_rfl) (by kernel_rfl) F0.out ?_; (repeat (go_big_quiet_step ((first | (go_at_call 15; exact calls_cls FI.out FB.out (HRP.out _)) | (go_at_call 27; exact calls_cls FI.out FB.out ((HRX.out _).mono fun _ _ ⟨h1, h2⟩ => ⟨h1, h2 ▸ Below.refl _ _⟩)) | (go_at_call 11; exact calls_cls FI.out FB.out (KN.out _)))))); refine wpQuiet_nil ?_; intro _ hw'; obtain ⟨xq, hw''⟩ := hw'; subst hw'')
  have HB5 := Lib.hid (HB4.out.trans ((FB.out xq).mono HB4.out.size))
  clear y0 y1 y2 y3 y4 y5 y6 y7
  generalize f xq = w5 at *
  go_wp2_with (fail)
  go_ret
  exact ⟨rfl, HB5.out⟩
end Go.Proofs.YtnmpgjodndfoiaaDoor
