/-
  container/heap up, on the row: a contract.
-/
import Derived.Test.YtdekjfbaoaobeaaHq
import Derived.Test.YtdekjfbaoaobeaaHp
namespace Go.Proofs.Ytdekjfbaoaobeaa
open Go.RowKit

def ShP (n b : Nat) (v : Value) (l : List Int) (w w' : World) : Prop := ∃ l', HeapV w' b v l' ∧ SameL n l l' ∧ Hp n l' ∧ HStep b v v w w'

set_option maxRecDepth 100000 in
set_option maxHeartbeats 2000000 in
theorem up_v (b : Nat) (v : Value) (l : List Int) (n j : Nat) (w : World) (h : HeapV w b v l) (hn : l.length ≤ 1000000) (hu : UpOk n l j) :
    Calls Try.prog 50 #[.iface 62 (.pointer (some ⟨b, 0, none⟩)), .int .i64 j] w fun e w' => e = .returned (.tuple #[]) ∧ ShP n b v l w w' := by
  go_enter Try.func50, Try.ntmps50
  go_wp2_with (fail)
  go_loopw [1] (fun jv wr => ∃ (j' : Nat) (l' : List Int), jv = .int .i64 j' ∧ HeapV wr b v l' ∧ SameL n l l' ∧ UpOk n l' j' ∧ HStep b v v w wr) (fun jv _ => (intOf jv).toNat)
  case atStart => exact ⟨j, l, rfl, h, .refl _ _, hu, .refl _ _ _⟩
  case round =>
    obtain ⟨j', l', rfl, hv, hs, hu', hst⟩ := hrel
    have hlen := hs.len
    have hjn := hu'.jn
    have hnl := hu'.nl
    have hc := hv.cell
    by_cases h0 : j' = 0
    · subst h0
      have HV := Lib.hid hv
      clear hv
      go_wp2_with (fail)
      go_end0
      exact ⟨rfl, l', HV.out, hs, hu'.stop (.inl rfl), hst⟩
    · have hne : ¬ (((par j' : Nat) : Int) = (j' : Int)) := by unfold par; omega
      have hne2 : ¬ ((j' : Int) - 1) / 2 = (j' : Int) := by omega
      have hpj : par j' < j' := by unfold par; omega
      have HV := Lib.hid hv
      by_cases hless : l'.getD j' 0 < l'.getD (par j') 0
      · have HL := Lib.hid (show Calls Try.prog 91 #[v, .int .i64 j', .int .i64 (par j')] wr fun e w' => e = .returned (.bool true) ∧ ∃ q, w' = wr.drewN q by
          have := less_v b v l' j' (par j') wr hv (by omega) (by omega) (by omega); rwa [decide_eq_true hless] at this)
        have HS := Lib.hid (fun q => swap_v b v l' (par j') j' (wr.drewN q) (hv.drewN q) (by omega) (by omega) (by omega))
        have HU := Lib.hid (hu'.next (by omega) hless)
        have HW := Lib.hid (SameL.swp n l' (par j') j' (by omega) (by omega) (by omega))
        clear hv hless
        go_wp2_with (fail)
        rw [meth_less _ (by decide) wr b v hc, show ((j' : Int) - 1) / 2 = ((par j' : Nat) : Int) by unfold par; omega]
        go_wp2_with (go_at_call 91; refine HL.out.mono ?_; rintro e w2 ⟨rfl, q, rfl⟩)
        rw [meth_swap _ (by decide) (wr.drewN q) b v hc]
        go_wp2_with (go_at_call 92; refine (HS.out q).mono ?_; rintro e w3 ⟨rfl, hv3, hst3⟩; have HV3 := Lib.hid hv3; have HT3 := Lib.hid hst3; clear hv3 hst3)
        go_roundw
        case rel => exact ⟨par j', _, rfl, HV3.out, hs.trans HW.out, HU.out, (hst.drewN q).trans HT3.out⟩
        case measure => simp [intOf]; omega
      · have HL := Lib.hid (show Calls Try.prog 91 #[v, .int .i64 j', .int .i64 (par j')] wr fun e w' => e = .returned (.bool false) ∧ ∃ q, w' = wr.drewN q by
          have := less_v b v l' j' (par j') wr hv (by omega) (by omega) (by omega); rwa [decide_eq_false hless] at this)
        have HU := Lib.hid (hu'.stop (.inr hless))
        clear hv hless
        go_wp2_with (fail)
        rw [meth_less _ (by decide) wr b v hc, show ((j' : Int) - 1) / 2 = ((par j' : Nat) : Int) by unfold par; omega]
        go_wp2_with (go_at_call 91; refine HL.out.mono ?_; rintro e w2 ⟨rfl, q, rfl⟩)
        go_end0
        exact ⟨rfl, l', HV.out.drewN q, hs, HU.out, hst.drewN q⟩
end Go.Proofs.Ytdekjfbaoaobeaa
