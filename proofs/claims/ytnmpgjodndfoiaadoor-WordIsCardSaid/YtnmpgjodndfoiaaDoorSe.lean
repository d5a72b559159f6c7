/-
  word.Set; the document's Get, Put: contracts.
-/
import Derived.Test.YtnmpgjodndfoiaaDoorKw
import Derived.Laws.CopyOwn
namespace Go.Proofs.YtnmpgjodndfoiaaDoor
open Go.RowKit

set_option maxRecDepth 100000 in
theorem set_no (p : Option Addr) (n cap : Nat) (at_ x : Int) (hn : n ≤ 1000000) (ha : at_ ≤ 9223372036854775807) (h : ¬ fits n at_) (w : World) :
    Calls Tryd.prog 14 #[.slice p n cap, .int .i64 at_, .int .u64 x] w fun e w' => e = .returned (.int .i64 3) ∧ w = w' := by
  have HP := Lib.hid (fun w => piece_no p n cap at_ hn ha h w)
  have hq1 := nil_b
  clear h ha
  go_enter Tryd.func14, Tryd.ntmps14
  go_wp2_with (go_at_call 31; refine (HP.out _).mono ?_; rintro e w1 ⟨rfl, rfl⟩)
  go_ret
  exact ⟨rfl, rfl⟩

set_option maxRecDepth 100000 in
set_option maxHeartbeats 1000000 in
theorem set_yes (cur : List Value) (g a n cap B : Nat) (x : Int) (w0 w : World) (h0 : 0 ≤ x) (hx : x ≤ 18446744073709551615) (hn : n ≤ 1000000) (hc : n ≤ cap) (h : a + 8 ≤ n) (hcur : n ≤ cur.length) (hg : w.heap[g]? = some (.cells cur.toArray 5 (0, 0)))
    (hB : Below B w0 w) (hBg : B ≤ g) (hBw : B ≤ w.heap.size) :
    Calls Tryd.prog 14 #[.slice (some ⟨g, 0, none⟩) n cap, .int .i64 a, .int .u64 x] w fun e w' => e = .returned (.int .i64 0) ∧ w'.heap[g]? = some (.cells (splice cur a (bvals (putB x))).toArray 5 (0, 0)) ∧ Below B w0 w' := by
  have HP := Lib.hid (fun w => piece_yes g 0 n cap a hn hc h w)
  have hq2 := some_b
  obtain ⟨a0, a1, a2, a3, a4, a5, a6, a7, ha⟩ := putB_lit x
  have HPU := Lib.hid (show ∀ w, Calls Tryd.prog 25 #[.int .u64 x] w fun e w' => e = .returned (.agg #[.int .u8 (a0.toNat : Int), .int .u8 (a1.toNat : Int), .int .u8 (a2.toNat : Int), .int .u8 (a3.toNat : Int), .int .u8 (a4.toNat : Int), .int .u8 (a5.toNat : Int), .int .u8 (a6.toNat : Int), .int .u8 (a7.toNat : Int)]) ∧ Below w.heap.size w w' from fun w => by
    have := put_n x h0 hx w
    rw [ha] at this
    exact this)
  have hgl : g < w.heap.size := (Array.getElem?_eq_some_iff.1 hg).1
  have HG := Lib.hid hg
  have HB := Lib.hid hB
  rw [ha]
  clear hg hB ha
  go_enter Tryd.func14, Tryd.ntmps14
  go_wp2_with (go_at_call 31; refine (HP.out _).mono ?_; rintro e w1 ⟨rfl, rfl⟩)
  refine (HPU.out _).mono ?_
  rintro e w2 ⟨rfl, hB2⟩
  have HB2 := Lib.hid (HB.out.trans (hB2.mono hBw))
  have HG2 := Lib.hid ((hB2.block g hgl).trans HG.out)
  have hs2 := hB2.size
  clear hB2
  go_wp2_with (refine wpList_copy_splice (o := ⟨some 18, _, _, _, _, _⟩) rfl (.tmp 16) (.tmp 17) 26 26 rfl 5 Tryd.underlying26 (by kernel_rfl) _ _ 8 8 8 8 rfl rfl g a cur 5 ((Below.heap_alloc w2 _ g (by omega)).trans HG2.out) (bvals [a0, a1, a2, a3, a4, a5, a6, a7]) rfl (fun _ => ⟨by simp, _, rfl, bvals_new w2 [a0, a1, a2, a3, a4, a5, a6, a7] 33⟩) (by simp [bvals]; omega) (bvals_one _) B w0 (HB2.out.alloc (by omega) _) hBg ?_; intro w3 HG3 hB3; have HB3 := Lib.hid hB3; clear hB3)
  go_ret
  exact ⟨rfl, HG3.out, HB3.out⟩

set_option maxRecDepth 100000 in
theorem rget_no (p : Option Addr) (n cap : Nat) (at_ : Int) (h : ¬ fits n at_) (w : World) :
    Calls Tryd.prog 13 #[.slice p n cap, .int .i64 at_] w fun e w' => e = .returned (.tuple #[.int .u64 0, .int .i64 3]) ∧ w = w' := by
  unfold fits at h
  by_cases h0 : at_ < 0
  · go_enter Tryd.func13, Tryd.ntmps13
    go_wp2_with (fail)
    go_ret2
    exact ⟨rfl, rfl⟩
  · by_cases h1 : (n : Int) ≤ at_
    · go_enter Tryd.func13, Tryd.ntmps13
      go_wp2_with (fail)
      go_ret2
      exact ⟨rfl, rfl⟩
    · have h2 : (n : Int) - at_ < 8 := by omega
      go_enter Tryd.func13, Tryd.ntmps13
      go_wp2_with (fail)
      go_ret2
      exact ⟨rfl, rfl⟩
set_option maxRecDepth 100000 in
theorem rget_yes (l : List UInt8) (g o cap a : Nat) (hn : l.length ≤ 1000000) (h : a + 8 ≤ l.length) (w : World) (hb : BytesAt w g o l) :
    Calls Tryd.prog 13 #[.slice (some ⟨g, o, none⟩) l.length cap, .int .i64 a] w fun e w' => e = .returned (.tuple #[.int .u64 (wd ((l.drop a).take 8)), .int .i64 0]) ∧ w = w' := by
  have HT := Lib.hid (rtake_s l g o l.length cap a h (Nat.le_refl _) (by unfold maxLen; omega) w hb)
  have h0 : ¬ (a : Int) < 0 := by omega
  have h1 : ¬ (l.length : Int) ≤ (a : Int) := by omega
  have h2 : ¬ (l.length : Int) - (a : Int) < 8 := by omega
  clear h hb
  obtain ⟨r, hr⟩ : ∃ r, wd ((l.drop a).take 8) = r := ⟨_, rfl⟩
  rw [hr] at HT ⊢
  clear hr
  go_enter Tryd.func13, Tryd.ntmps13
  go_wp2_with (go_at_call 33; refine HT.out.mono ?_; rintro e w1 ⟨rfl, rfl⟩)
  go_ret2
  exact ⟨rfl, rfl⟩

theorem set8x {wr : World} {b : Nat} {t : TypeId} {B : Nat} {w : World} {v0 v1 v2 v3 v4 v5 v6 v7 z0 z1 z2 z3 z4 z5 z6 z7 : Value} (h : Blk wr b #[z0, z1, z2, z3, z4, z5, z6, z7] t) (hB : Below B w wr) (hb : B ≤ b) :
    Blk ((((((((wr.setCell ⟨b, 0, none⟩ v0).setCell ⟨b, 1, none⟩ v1).setCell ⟨b, 2, none⟩ v2).setCell ⟨b, 3, none⟩ v3).setCell ⟨b, 4, none⟩ v4).setCell ⟨b, 5, none⟩ v5).setCell ⟨b, 6, none⟩ v6).setCell ⟨b, 7, none⟩ v7) b #[v0, v1, v2, v3, v4, v5, v6, v7] t ∧ Below B w ((((((((wr.setCell ⟨b, 0, none⟩ v0).setCell ⟨b, 1, none⟩ v1).setCell ⟨b, 2, none⟩ v2).setCell ⟨b, 3, none⟩ v3).setCell ⟨b, 4, none⟩ v4).setCell ⟨b, 5, none⟩ v5).setCell ⟨b, 6, none⟩ v6).setCell ⟨b, 7, none⟩ v7) := by
  refine ⟨?_, ?_⟩
  · have a0 := h.set 0 v0
    rw [show (#[z0, z1, z2, z3, z4, z5, z6, z7] : Array Value).setIfInBounds 0 v0 = (#[v0, z1, z2, z3, z4, z5, z6, z7] : Array Value) from rfl] at a0
    have a1 := a0.set 1 v1
    rw [show (#[v0, z1, z2, z3, z4, z5, z6, z7] : Array Value).setIfInBounds 1 v1 = (#[v0, v1, z2, z3, z4, z5, z6, z7] : Array Value) from rfl] at a1
    have a2 := a1.set 2 v2
    rw [show (#[v0, v1, z2, z3, z4, z5, z6, z7] : Array Value).setIfInBounds 2 v2 = (#[v0, v1, v2, z3, z4, z5, z6, z7] : Array Value) from rfl] at a2
    have a3 := a2.set 3 v3
    rw [show (#[v0, v1, v2, z3, z4, z5, z6, z7] : Array Value).setIfInBounds 3 v3 = (#[v0, v1, v2, v3, z4, z5, z6, z7] : Array Value) from rfl] at a3
    have a4 := a3.set 4 v4
    rw [show (#[v0, v1, v2, v3, z4, z5, z6, z7] : Array Value).setIfInBounds 4 v4 = (#[v0, v1, v2, v3, v4, z5, z6, z7] : Array Value) from rfl] at a4
    have a5 := a4.set 5 v5
    rw [show (#[v0, v1, v2, v3, v4, z5, z6, z7] : Array Value).setIfInBounds 5 v5 = (#[v0, v1, v2, v3, v4, v5, z6, z7] : Array Value) from rfl] at a5
    have a6 := a5.set 6 v6
    rw [show (#[v0, v1, v2, v3, v4, v5, z6, z7] : Array Value).setIfInBounds 6 v6 = (#[v0, v1, v2, v3, v4, v5, v6, z7] : Array Value) from rfl] at a6
    have a7 := a6.set 7 v7
    rw [show (#[v0, v1, v2, v3, v4, v5, v6, z7] : Array Value).setIfInBounds 7 v7 = (#[v0, v1, v2, v3, v4, v5, v6, v7] : Array Value) from rfl] at a7
    exact a7
  · have b0 := hB.setCell (p := ⟨b, 0, none⟩) hb v0
    have b1 := b0.setCell (p := ⟨b, 1, none⟩) hb v1
    have b2 := b1.setCell (p := ⟨b, 2, none⟩) hb v2
    have b3 := b2.setCell (p := ⟨b, 3, none⟩) hb v3
    have b4 := b3.setCell (p := ⟨b, 4, none⟩) hb v4
    have b5 := b4.setCell (p := ⟨b, 5, none⟩) hb v5
    have b6 := b5.setCell (p := ⟨b, 6, none⟩) hb v6
    have b7 := b6.setCell (p := ⟨b, 7, none⟩) hb v7
    exact b7

set_option maxRecDepth 100000 in
theorem rput_n (n : Int) (h0 : 0 ≤ n) (hm : n ≤ 18446744073709551615) (w : World) : Calls Tryd.prog 15 #[.int .u64 n] w fun e w' => e = .returned (.agg (bcells (putB n))) ∧ Below w.heap.size w w' := by
  obtain ⟨m, rfl⟩ := Int.eq_ofNat_of_zero_le h0
  have hm2 : m ≤ 18446744073709551615 := by omega
  go_enter Tryd.func15, Tryd.ntmps15
  go_wp2_with (fail)
  go_loopw [0, 4] (fun nv iv wr => ∃ k : Nat, k ≤ 8 ∧ iv = .int .i64 k ∧ nv = .int .u64 ((m / 256 ^ k : Nat) : Int) ∧ Hid (Blk wr (w.heap.size + 1) (bcells (putTo8 m k)) 33) ∧ Hid (Blk wr w.heap.size (bcells (putTo8 0 0)) 33) ∧ Below w.heap.size w wr) (fun _ iv _ => 8 - (intOf iv).toNat)
  case atStart => exact ⟨0, by omega, rfl, by simp, Lib.hid (by have h := Blk.new (w.alloc (.cells (bcells (putTo8 0 0)) 33)) (bcells (putTo8 m 0)) 33; rw [show (w.alloc (.cells (bcells (putTo8 0 0)) 33)).heap.size = w.heap.size + 1 by simp] at h; exact h), Lib.hid ((Blk.new w (bcells (putTo8 0 0)) 33).alloc _), ((Below.refl _ _).alloc (Nat.le_refl _) _).alloc (by simp) _⟩
  case round =>
    obtain ⟨k, hk, rfl, rfl, hk2, hz2, hB⟩ := hrel
    by_cases hlt : k < 8
    · have hc := hk2.out.cell k
      have hf := hk2.out.frozen k
      have hl8 := putTo8_len m k hk
      rw [show (bcells (putTo8 m k))[k]? = some (.int .u8 (((putTo8 m k)[k]'(by omega)).toNat : Int)) by simp [bcells, hl8, hlt]] at hc
      have hq : ((m / 256 ^ k : Nat) : Int) ≤ 18446744073709551615 := by
        have := Nat.div_le_self m (256 ^ k); omega
      obtain ⟨x, hx⟩ : ∃ x : Nat, m / 256 ^ k = x := ⟨_, rfl⟩
      rw [hx] at hq ⊢
      have HX := Lib.hid hx
      clear hx
      have HS := Lib.hid (putTo8_set m k hlt)
      have HM := Lib.hid (byteN_mod m k)
      have HD := Lib.hid (div_step m k)
      have HK3 := Lib.hid (hk2.out.set k (.int .u8 ((byteN m k).toNat : Int)))
      have HZ3 := Lib.hid (hz2.out.other k (.int .u8 ((byteN m k).toNat : Int)) (b' := w.heap.size + 1) (by omega))
      have HB3 := Lib.hid (hB.setCell (p := ⟨w.heap.size + 1, k, none⟩) (by simp) (.int .u8 ((byteN m k).toNat : Int)))
      go_wp2_with (fail)
      go_roundw
      case rel => exact ⟨k + 1, by omega, by go_num, by rw [← HD.out, HX.out]; rfl, Lib.hid (by
        have := HK3.out
        rw [bcells_set, HS.out, ← HM.out, HX.out] at this
        exact this), Lib.hid (by
        have := HZ3.out
        rw [← HM.out, HX.out] at this
        exact this), by
        have := HB3.out
        rw [← HM.out, HX.out] at this
        exact this⟩
      case measure => simp [intOf]; omega
    · have hk8 : k = 8 := by omega
      have hp : putTo8 m k = putB m := by rw [hk8]; unfold putTo8 putB; simp
      rw [hp] at hk2
      have hl8 : (putB (m : Int)).length = 8 := by simp [putB]
      have e8 : bcells (putB m) = #[.int .u8 ((byteN m 0).toNat : Int), .int .u8 ((byteN m 1).toNat : Int), .int .u8 ((byteN m 2).toNat : Int), .int .u8 ((byteN m 3).toNat : Int), .int .u8 ((byteN m 4).toNat : Int), .int .u8 ((byteN m 5).toNat : Int), .int .u8 ((byteN m 6).toNat : Int), .int .u8 ((byteN m 7).toNat : Int)] := rfl
      have E8 := Lib.hid e8
      rw [e8] at hk2
      have c0 := hk2.out.cell 0
      have c1 := hk2.out.cell 1
      have c2 := hk2.out.cell 2
      have c3 := hk2.out.cell 3
      have c4 := hk2.out.cell 4
      have c5 := hk2.out.cell 5
      have c6 := hk2.out.cell 6
      have c7 := hk2.out.cell 7
      simp only [List.getElem?_toArray, List.getElem?_cons_zero, List.getElem?_cons_succ] at c0 c1 c2 c3 c4 c5 c6 c7
      rw [show bcells (putTo8 0 0) = #[.int .u8 0, .int .u8 0, .int .u8 0, .int .u8 0, .int .u8 0, .int .u8 0, .int .u8 0, .int .u8 0] from rfl] at hz2
      have y0 := hz2.out.cell 0
      have y1 := hz2.out.cell 1
      have y2 := hz2.out.cell 2
      have y3 := hz2.out.cell 3
      have y4 := hz2.out.cell 4
      have y5 := hz2.out.cell 5
      have y6 := hz2.out.cell 6
      have y7 := hz2.out.cell 7
      simp only [List.getElem?_toArray, List.getElem?_cons_zero, List.getElem?_cons_succ] at y0 y1 y2 y3 y4 y5 y6 y7
      have hf : ∀ i, wr.frozen? ⟨w.heap.size, i, none⟩ = false := fun i => hz2.out.frozen i
      have HZ := Lib.hid (set8x (v0 := .int .u8 ((byteN m 0).toNat : Int)) (v1 := .int .u8 ((byteN m 1).toNat : Int)) (v2 := .int .u8 ((byteN m 2).toNat : Int)) (v3 := .int .u8 ((byteN m 3).toNat : Int)) (v4 := .int .u8 ((byteN m 4).toNat : Int)) (v5 := .int .u8 ((byteN m 5).toNat : Int)) (v6 := .int .u8 ((byteN m 6).toNat : Int)) (v7 := .int .u8 ((byteN m 7).toNat : Int)) hz2.out hB (Nat.le_refl _))
      clear e8 hp hB hk8
      go_wp2_with (fail)
      obtain ⟨hz, hbz⟩ := HZ.out
      have z0 := hz.cell 0
      have z1 := hz.cell 1
      have z2 := hz.cell 2
      have z3 := hz.cell 3
      have z4 := hz.cell 4
      have z5 := hz.cell 5
      have z6 := hz.cell 6
      have z7 := hz.cell 7
      simp only [List.getElem?_toArray, List.getElem?_cons_zero, List.getElem?_cons_succ] at z0 z1 z2 z3 z4 z5 z6 z7
      rw [E8.out]
      exact bodyPost_ret (v := .agg #[.int .u8 ((byteN m 0).toNat : Int), .int .u8 ((byteN m 1).toNat : Int), .int .u8 ((byteN m 2).toNat : Int), .int .u8 ((byteN m 3).toNat : Int), .int .u8 ((byteN m 4).toNat : Int), .int .u8 ((byteN m 5).toNat : Int), .int .u8 ((byteN m 6).toNat : Int), .int .u8 ((byteN m 7).toNat : Int)])
        (by simp [results, Tryd.results15, go_sem, z0, z1, z2, z3, z4, z5, z6, z7]) rfl ⟨rfl, hbz⟩
end Go.Proofs.YtnmpgjodndfoiaaDoor
