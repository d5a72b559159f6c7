/-
  linear.crowded: contract.
-/
import Derived.Test.YtdmcakoaakinnaaQg
namespace Go.Proofs.Ytdmcakoaakinnaa
open Go.RowKit
attribute [local go_sem] Oper.semAt_some
set_option linter.unusedVariables false
set_option linter.unusedSimpArgs false

def withP (at_ d : Dn) : Bool := decide (d.bg ≤ at_.bg) && !aheadP d at_
def crowd1 (l : List Dn) (at_ : Dn) : Bool := decide (12 < (l.filter (withP at_)).length)
theorem crowdP_eq (l : List Dn) : crowdP l = l.any (crowd1 l) := rfl
theorem cnt_step (at_ : Dn) (l : List Dn) (k : Nat) (h : k < l.length) : ((l.take (k + 1)).filter (withP at_)).length = ((l.take k).filter (withP at_)).length + (if withP at_ (l.getD k dnZ) = true then 1 else 0) := by
  rw [List.take_add_one, List.getElem?_eq_getElem h, getD_eq l k dnZ h, List.filter_append, List.length_append]
  congr 1
  show (List.filter (withP at_) [l[k]]).length = _
  cases hw : withP at_ l[k] <;> simp [hw]
set_option maxRecDepth 100000 in
set_option maxHeartbeats 4000000 in
theorem crowd1_v (l : List Dn) (at_ : Dn) (a : Option Addr) (cap bl : Nat) (w : World) (hm : l.length ≤ 1000000) (hb : Blk w bl #[.slice a l.length cap] 44) (hE : DnsAt w a l) :
    Calls Try.prog 41 #[.agg (dnCells at_), .pointer (some ⟨bl, 0, none⟩)] w fun e w' => e = .returned (.bool (crowd1 l at_)) ∧ Below w.heap.size w w' := by
  have HE := Lib.hid hE
  have HBl := Lib.hid hb
  have hB0 := (Below.refl w.heap.size w).alloc (Nat.le_refl _) (.cells (dnCells at_) 53)
  have hba := Blk.new w (dnCells at_) 53
  have hc0 : (w.alloc (.cells (dnCells at_) 53)).cell? ⟨bl, 0, none⟩ = some (.slice a l.length cap) := by rw [(hb.alloc _).cell]; rfl
  have HN := Lib.hid (show w.heap.size < (w.alloc (.cells (dnCells at_) 53)).heap.size by simp)
  clear hE hb
  go_enter Try.func41, Try.ntmps41
  go_upto_region 1 with (fail)
  generalize w.alloc (.cells (dnCells at_) 53) = w1 at hB0 hba hc0 HN ⊢
  obtain ⟨na, hna⟩ : ∃ na, w.heap.size = na := ⟨_, rfl⟩
  rw [hna] at hba HN
  simp only [hna]
  have HNa := Lib.hid hna
  have HB0 := Lib.hid hB0
  have HBa := Lib.hid hba
  clear hB0 hba hna
  go_wp2_with (fail)
  clear hc0
  go_loopw [4, 9] (fun co iv wr => ∃ k c : Nat, k ≤ l.length ∧ iv = .int .i64 k ∧ co = .int .i64 c ∧ Hid (((l.take k).filter (withP at_)).length = c) ∧ Below w1.heap.size w1 wr) (fun _ iv _ => l.length - (intOf iv).toNat)
  case atStart => exact ⟨0, 0, Nat.zero_le _, rfl, rfl, Lib.hid rfl, Below.refl _ _⟩
  case round =>
    obtain ⟨k, c, hk, rfl, rfl, hC, hB⟩ := hrel
    have HBw := Lib.hid (HB0.out.trans (hB.mono HB0.out.size))
    have HBx := Lib.hid hB
    have HCb := Lib.hid (show c ≤ k from by rw [← hC.out]; exact Nat.le_trans (List.length_filter_le _ _) (by rw [List.length_take]; omega))
    have hc6 : (c : Int) ≤ 1000000 := by have := HCb.out; omega
    by_cases hlt : k < l.length
    · obtain ⟨g, o, rfl, hg, hc⟩ := (HE.out.below HBw.out).at_ hlt
      obtain ⟨d, hd⟩ : ∃ x, l.getD k dnZ = x := ⟨_, rfl⟩
      rw [hd] at hc
      have HCl := Lib.hid hc
      have HLt := Lib.hid hlt
      have HD := Lib.hid hd
      have hB1 := hB.alloc hB.size (.cells (dnCells d) 53)
      have HB1 := Lib.hid hB1
      have hkb : (k : Int) < (l.length : Int) := by omega
      have hk6 : (k : Int) ≤ 1000000 := by omega
      clear hc hd hB hB1 hlt hk
      go_upto_region 5 with (first
        | (with_reducible refine wpList_idx_dn ?h1 ?h2 (.tmp 7) (.tmp 9) 11 ?hd ?ho1 ?ho2 g o l.length cap k d ?hx ?hy ?hk ?hs ?hc ?_; (case h1 => rfl); (case h2 => rfl); (case hd => rfl); (case ho1 => rfl); (case ho2 => rfl); (case hx => exact ev_tmp (by simp)); (case hy => exact ev_tmp (by simp)); (case hk => exact HLt.out); (case hs => simp); (case hc => exact HCl.out))
        | (with_reducible refine wpList_anew_dn ?a1 ?a2 6 (.tmp 12) ?ad ?ao1 ?ao2 d ?ay ?az ?_; (case a1 => rfl); (case a2 => rfl); (case ad => rfl); (case ao1 => rfl); (case ao2 => rfl); (case ay => exact ev_tmp (by simp [Act.put])); (case az => simp [Act.put])))
      have hb := Blk.new wr (dnCells d) 53
      generalize wr.alloc (.cells (dnCells d) 53) = W1 at HB1 hb ⊢
      generalize wr.heap.size = nb at hb ⊢
      have HBk := Lib.hid hb
      have hba := HBa.out.kept (Keeps.of_below' HB1.out) (fun h => h)
      have HBa1 := Lib.hid hba
      have c1 : W1.cell? ⟨nb, 6, none⟩ = some (.int .i64 d.bg) := by rw [hb.cell]; rfl
      have c2 : W1.cell? ⟨na, 6, none⟩ = some (.int .i64 at_.bg) := by rw [hba.cell]; rfl
      clear hb hba
      by_cases hle : d.bg ≤ at_.bg
      · have HLe := Lib.hid hle
        have hleb : decide (d.bg ≤ at_.bg) = true := decide_eq_true hle
        clear hle
        go_step
        refine wpList_plain rfl (fun K hK => ?_)
        go_simp
        refine hK _ _ ?_
        clear hK K
        refine wpList_plain rfl (fun K hK => ?_)
        go_simp
        refine hK _ _ ?_
        clear hK K
        refine wpList_plain rfl (fun K hK => ?_)
        go_simp
        refine hK _ _ ?_
        clear hK K
        refine wpList_plain rfl (fun K hK => ?_)
        go_simp
        refine hK _ _ ?_
        clear hK K
        refine wpList_plain rfl (fun K hK => ?_)
        go_simp
        refine hK _ _ ?_
        clear hK K
        refine wpList_plain rfl (fun K hK => ?_)
        go_simp
        refine hK _ _ ?_
        clear hK K
        refine wpList_load_dn rfl (.tmp 6) rfl nb 0 d (ev_tmp (by simp)) HBk.out.cellsAt ?_
        refine wpList_load_dn rfl (.tmp 2) rfl na 0 at_ (ev_tmp (by simp [Act.put])) HBa1.out.cellsAt ?_
        go_wp2_with (fail)
        refine (ahead_v d at_ W1).mono ?_
        rintro e W2 ⟨rfl, hB2⟩
        have HB2 := Lib.hid (HB1.out.trans (hB2.mono HB1.out.size))
        clear hB2 c1 c2
        cases ha : aheadP d at_ with
        | true =>
          have HW := Lib.hid (show withP at_ d = false by unfold withP; rw [ha]; simp)
          clear ha
          go_wp2_with (fail)
          go_roundw
          case rel => exact ⟨k + 1, c + 0, HLt.out, by go_num, by go_num, Lib.hid (by rw [cnt_step at_ l k HLt.out, HD.out, HW.out, hC.out]; simp), HB2.out⟩
          case measure => have := HLt.out; simp [intOf]; omega
        | false =>
          have HW := Lib.hid (show withP at_ d = true by unfold withP; rw [ha, hleb]; rfl)
          clear ha
          go_wp2_with (fail)
          go_roundw
          case rel => exact ⟨k + 1, c + 1, HLt.out, by go_num, by go_num, Lib.hid (by rw [cnt_step at_ l k HLt.out, HD.out, HW.out, hC.out]; simp), HB2.out⟩
          case measure => have := HLt.out; simp [intOf]; omega
      · have HW := Lib.hid (show withP at_ d = false by unfold withP; simp [hle])
        have hleb : decide (d.bg ≤ at_.bg) = false := decide_eq_false hle
        have HB2 := Lib.hid HB1.out
        clear hle
        go_wp2_with (fail)
        go_roundw
        case rel => exact ⟨k + 1, c + 0, HLt.out, by go_num, by go_num, Lib.hid (by rw [cnt_step at_ l k HLt.out, HD.out, HW.out, hC.out]; simp), HB2.out⟩
        case measure => have := HLt.out; simp [intOf]; omega
    · obtain rfl : k = l.length := by omega
      have hE := hC.out
      rw [List.take_length] at hE
      have hr : crowd1 l at_ = decide (12 < (c : Int)) := by unfold crowd1; rw [hE]; congr 1; simp; omega
      have HR := Lib.hid hr
      clear hE hr hB hlt hk
      go_wp2_with (fail)
      go_ret
      exact ⟨by rw [HR.out]; rfl, HBw.out⟩
set_option maxRecDepth 100000 in
theorem crowded_v (l : List Dn) (a : Option Addr) (cap : Nat) (w : World) (hm : l.length ≤ 1000000) (hE : DnsAt w a l) :
    Calls Try.prog 19 #[.slice a l.length cap] w fun e w' => e = .returned (.bool (crowdP l)) ∧ Below w.heap.size w w' := by
  have hB0 := (Below.refl w.heap.size w).alloc (Nat.le_refl _) (.cells #[.slice a l.length cap] 44)
  have hb := Blk.new w #[.slice a l.length cap] 44
  have HC := Lib.hid (idxCC w.heap.size l a cap (w.alloc (.cells #[.slice a l.length cap] 44)) (by omega) (hE.below hB0) (crowd1 l) (fun d W _ hW => crowd1_v l d a cap w.heap.size W hm (hb.kept (Keeps.of_below' hW) (fun h => h)) ((hE.below hB0).below hW)))
  have HB0 := Lib.hid hB0
  clear hE hB0 hb
  go_enter Try.func19, Try.ntmps19
  go_wp2_with (fail)
  refine HC.out.mono ?_
  rintro e w2 ⟨rfl, hB2⟩
  have HB2 := Lib.hid (HB0.out.trans (hB2.mono HB0.out.size))
  clear hB2
  go_wp2_with (fail)
  go_ret
  exact ⟨rfl, HB2.out⟩
end Go.Proofs.Ytdmcakoaakinnaa
