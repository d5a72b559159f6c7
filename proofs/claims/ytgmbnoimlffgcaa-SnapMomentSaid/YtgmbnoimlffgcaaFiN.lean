/-
  fast.Insert: the last refusals.
-/
import Derived.Test.YtgmbnoimlffgcaaFe
import Derived.Test.YtgmbnoimlffgcaaInvG
namespace Go.Proofs.Ytgmbnoimlffgcaa
open Go.RowKit

def cOne (n : Nd) : Int := IntKind.u64.wrap (n.ct + 1)
def cTwo (n : Nd) : Int := IntKind.u64.wrap (n.ct + 2)
/-- stores and an error, as they come back -/
def MadeP (l : List (Int × Int)) (code : Int) (w : World) (e : Ending) (w' : World) : Prop :=
  ∃ a m c, e = .returned (.tuple #[.slice a m c, .int .i64 code]) ∧ m = l.length ∧ w'.ownsRow w.heap.size 32 2 (.slice a m c) l.length (ecells l) ∧ Below w.heap.size w w'
theorem MadeP.err {code : Int} {w w' : World} (hB : Below w.heap.size w w') : MadeP [] code w (.returned (.tuple #[.slice none 0 0, .int .i64 code])) w' := ⟨none, 0, 0, rfl, rfl, World.ownsRow_nil _ _ _ _, hB⟩
theorem MadeP.done {B : Nat} {l l' : List (Int × Int)} {w w1 w' : World} {e : Ending} (h : Done B l w1 e w') (hB : Below w.heap.size w w1) (hle : w.heap.size ≤ B) (hl : l = l') : MadeP l' 0 w e w' := by
  subst hl
  obtain ⟨a, m, c, h1, h2, h3, h4⟩ := h
  exact ⟨a, m, c, h1, h2, own_mono h3 hle, hB.trans (h4.mono hle)⟩
theorem find_lt (n : Nd) (key : Int) (h : 0 ≤ n.find key) : ∃ at_ : Nat, n.find key = at_ ∧ at_ < n.len := by
  rcases firstF_spec (fun i => n.ok i && (n.k i == key)) n.len 0 with ⟨e, _⟩ | ⟨j, e, _, h2, _⟩
  · unfold Nd.find at h; omega
  · exact ⟨j, e, by omega⟩
def delL (base : Int) (n : Nd) (at_ : Nat) : List (Int × Int) :=
  [(base + 24, cOne n)] ++ [(base + 64 + 16 * (at_ : Int) + 8, n.ahead at_)] ++ gapL base n at_ (n.len - 1 - at_) ++ [(base + 64 + 16 * ((n.len - 1 : Nat) : Int) + 8, 0)] ++ [(base + 24, cTwo n)]
def delE (base : Int) (n : Nd) (key : Int) : Int := if mayE base n ≠ 0 then mayE base n else if n.find key < 0 then 5 else 0
def delP (base : Int) (n : Nd) (key : Int) : List (Int × Int) := if delE base n key = 0 then delL base n (n.find key).toNat else []
theorem mayE_stands {base : Int} {n : Nd} (h : mayE base n = 0) : Stands base ∧ n.mayB 0 false = true ∧ n.invalid < 0 := by
  unfold mayE at h
  split at h
  · rename_i h1
    split at h
    · omega
    · exact ⟨h1.1, h1.2, by omega⟩
  · omega

set_option maxRecDepth 100000 in
set_option maxHeartbeats 3200000 in
theorem delete_v (base : Int) (n : Nd) (key : Int) (w : World) :
    Calls Try.prog 60 #[.int .u64 base, .agg (ndCells n), .int .u64 key] w fun e w' => MadeP (delP base n key) (delE base n key) w e w' := by
  have HI := Lib.hid (info27 n)
  have hk0 : Blk (w.alloc (.cells (ndCells n) 40)) w.heap.size (ndCells n) 40 := Blk.new w _ _
  have HK0 := Lib.hid hk0
  have HL0 := Lib.hid (ndLoad hk0)
  have HB0 := Lib.hid ((Below.refl w.heap.size w).alloc (Nat.le_refl _) (.cells (ndCells n) 40))
  have HM := Lib.hid (fun w => may_v base n w)
  have HFd := Lib.hid (fun w => nfind_calls n key w)
  clear hk0
  by_cases hm : mayE base n = 0
  · obtain ⟨⟨s1, s2, s3⟩, _, _⟩ := mayE_stands hm
    rw [hm] at HM
    by_cases hf : n.find key < 0
    · have HE := Lib.hid (show delE base n key = 5 ∧ delP base n key = [] by
        have : delE base n key = 5 := by unfold delE; rw [if_neg (by omega), if_pos hf]
        exact ⟨this, by unfold delP; rw [this]; rfl⟩)
      rw [show FindV n key = .tuple #[.int .i64 0, .bool false] by unfold FindV; rw [if_pos hf]] at HFd
      clear hm hf s3
      go_enter Try.func60, Try.ntmps60
      go_wp2_with (first | (with_reducible refine wpList_load_part (o := ⟨some 13, _, _, _, _, _⟩) rfl 40 _ rfl w.heap.size 0 rfl (ndCells n) _ HL0.out Try.underlying40 rfl HI.out ?_) | (go_at_call 70; refine (HM.out _).mono ?_; rintro e w1 ⟨rfl, hB⟩; have HB1 := Lib.hid (HB0.out.trans (hB.mono HB0.out.size)); have HL1 := Lib.hid (ndLoad (HK0.out.below hB HK0.out.lt)); clear hB) | (with_reducible refine wpList_load_part (o := ⟨some 19, _, _, _, _, _⟩) rfl 40 _ rfl w.heap.size 0 rfl (ndCells n) _ HL1.out Try.underlying40 rfl HI.out ?_) | (go_at_call 71; refine (HFd.out _).mono ?_; rintro e w2 ⟨rfl, hB2⟩; have HB2 := Lib.hid (HB1.out.trans (hB2.mono HB1.out.size)); clear hB2))
      go_ret2
      rw [HE.out.1, HE.out.2]
      exact MadeP.err HB2.out
    · obtain ⟨at_, hat, hlt⟩ := find_lt n key (by omega)
      have h8 := n.len_le
      obtain ⟨q, hq⟩ : ∃ q, n.len = q + 1 := ⟨n.len - 1, by omega⟩
      have HE := Lib.hid (show delE base n key = 0 ∧ delP base n key = [(base + 24, cOne n)] ++ [(base + 64 + 16 * (at_ : Int) + 8, n.ahead at_)] ++ gapL base n at_ (q - at_) ++ [(base + 64 + 16 * (q : Int) + 8, 0)] ++ [(base + 24, cTwo n)] by
        have : delE base n key = 0 := by unfold delE; rw [if_neg (by omega), if_neg hf]
        refine ⟨this, ?_⟩
        unfold delP delL
        rw [if_pos this, hat, hq]
        simp)
      rw [show FindV n key = .tuple #[.int .i64 (at_ : Int), .bool true] by unfold FindV; rw [if_neg hf, hat]] at HFd
      have HLn := Lib.hid (fun w => len_calls n w)
      rw [hq, Int.natCast_add, Int.natCast_one] at HLn
      have hatq : at_ ≤ q := by omega
      have hq8 : q + 1 ≤ 8 := by omega
      have q0 : (0 : Int) ≤ (at_ : Int) := by omega
      clear hm hf s3 hat hlt h8 hq
      go_enter Try.func60, Try.ntmps60
      go_wp2_with (first | (with_reducible refine wpList_load_part (o := ⟨some 13, _, _, _, _, _⟩) rfl 40 _ rfl w.heap.size 0 rfl (ndCells n) _ HL0.out Try.underlying40 rfl HI.out ?_) | (go_at_call 70; refine (HM.out _).mono ?_; rintro e w1 ⟨rfl, hB⟩; have HB1 := Lib.hid (HB0.out.trans (hB.mono HB0.out.size)); have HK1 := Lib.hid (HK0.out.below hB HK0.out.lt); have HL1 := Lib.hid (ndLoad HK1.out); clear hB) | (with_reducible refine wpList_load_part (o := ⟨some 19, _, _, _, _, _⟩) rfl 40 _ rfl w.heap.size 0 rfl (ndCells n) _ HL1.out Try.underlying40 rfl HI.out ?_) | (go_at_call 71; refine (HFd.out _).mono ?_; rintro e w2 ⟨rfl, hB2⟩; have HB2 := Lib.hid (HB1.out.trans (hB2.mono HB1.out.size)); have HK2 := Lib.hid (HK1.out.below hB2 HK1.out.lt); have HL2 := Lib.hid (ndLoad HK2.out); clear hB2) | (with_reducible refine wpList_load_part (o := ⟨some 27, _, _, _, _, _⟩) rfl 40 _ rfl w.heap.size 0 rfl (ndCells n) _ HL2.out Try.underlying40 rfl HI.out ?_))
      refine (cbegin base n (by omega) (by omega) (cOne n) rfl _).mono ?_
      rintro e w3 ⟨b, rfl, hc, hB3⟩
      have HC3 := Lib.hid hc
      have HB3 := Lib.hid hB3
      have HS2 := Lib.hid HK2.out.lt
      have HA := Lib.hid (cahead hc at_ (by omega))
      have HP := Lib.hid (cptr hc (by simp) (by omega) (by omega) at_ (by omega) (n.ahead at_))
      obtain ⟨ax, hax⟩ : ∃ ax, n.ahead at_ = ax := ⟨_, rfl⟩
      rw [hax] at HA HP HE
      clear hc hB3 hax
      go_wp2_with (first | (go_at_call 78; (with_reducible refine HA.out.mono ?_); rintro e w' ⟨rfl, rfl⟩) | (go_at_call 76; (with_reducible refine HP.out.mono ?_); rintro e w4 ⟨rfl, hc4, hB4⟩; have HC4 := Lib.hid hc4; have HB4 := Lib.hid (HB3.out.trans hB4); have HK4 := Lib.hid (HK2.out.below HB4.out HS2.out); have HL4 := Lib.hid (ndLoad HK4.out); clear hc4 hB4) | (with_reducible refine wpList_load_part (o := ⟨some 37, _, _, _, _, _⟩) rfl 40 _ rfl w.heap.size 0 rfl (ndCells n) _ HL4.out Try.underlying40 rfl HI.out ?_))
      refine (HLn.out _).mono ?_
      rintro e w5 ⟨rfl, hB5⟩
      have HC5 := Lib.hid (HC4.out.keep hB5)
      have HB5 := Lib.hid (HB4.out.trans (hB5.mono HC4.out.size))
      have HCl := Lib.hid (cclose (n := n) HC5.out at_ q ⟨rfl, fun j hj => ⟨rfl, by simp only [Nd.setP, if_neg (show j ≠ at_ by omega)]⟩⟩ hatq hq8 (by simp) (by omega) (by omega))
      clear hB5
      go_wp2_with (fail)
      refine HCl.out.mono ?_
      rintro e w6 ⟨rfl, ⟨m6, hc6, hct⟩, hB6⟩
      have HEn := Lib.hid (cend hc6 (by simp [gapL_len]; omega) (by omega) (by omega) (cTwo n) (by rw [hct]; rfl))
      have HB6 := Lib.hid (HB5.out.trans hB6)
      clear hc6 hct hB6
      go_wp2_with (fail)
      refine HEn.out.mono ?_
      rintro e w7 ⟨a, m, c, rfl, hml, ho, hB7⟩
      have HD := Lib.hid (show MadeP (delP base n key) 0 w (.returned (.tuple #[.slice a m c, .int .i64 0])) w7 from MadeP.done ⟨a, m, c, rfl, hml, ho, hB7⟩ (HB2.out.trans (HB6.out.mono HB2.out.size)) HB2.out.size HE.out.2.symm)
      clear hml ho hB7
      go_wp2_with (fail)
      go_ret2
      rw [HE.out.1]
      exact HD.out
  · have HE := Lib.hid (show delE base n key = mayE base n ∧ delP base n key = [] by
      have : delE base n key = mayE base n := by unfold delE; rw [if_pos hm]
      exact ⟨this, by unfold delP; rw [this, if_neg hm]⟩)
    obtain ⟨M, hM⟩ : ∃ M, mayE base n = M := ⟨_, rfl⟩
    rw [hM] at HM HE
    have q1 : (M != 0) = true := by rw [bne_iff_ne]; rw [← hM]; exact hm
    clear hm hM
    go_enter Try.func60, Try.ntmps60
    go_wp2_with (first | (with_reducible refine wpList_load_part (o := ⟨some 13, _, _, _, _, _⟩) rfl 40 _ rfl w.heap.size 0 rfl (ndCells n) _ HL0.out Try.underlying40 rfl HI.out ?_) | (go_at_call 70; refine (HM.out _).mono ?_; rintro e w1 ⟨rfl, hB⟩; have HB1 := Lib.hid (HB0.out.trans (hB.mono HB0.out.size)); clear hB))
    go_ret2
    rw [HE.out.1, HE.out.2]
    exact MadeP.err HB1.out
end Go.Proofs.Ytgmbnoimlffgcaa
namespace Go.Proofs.Ytgmbnoimlffgcaa
open Go.RowKit

/-- the stores that make room, from the last entry down -/
def shiftL (base : Int) (n : Nd) (many : Nat) : Nat → List (Int × Int)
  | 0 => []
  | j + 1 => shiftL base n many j ++ [(base + 64 + 16 * ((many - j : Nat) : Int) + 8, n.p (many - j - 1)), (base + 64 + 16 * ((many - j : Nat) : Int), n.k (many - j - 1))]
theorem shiftL_len (base : Int) (n : Nd) (many : Nat) : ∀ j, (shiftL base n many j).length = 2 * j
  | 0 => rfl
  | j + 1 => by rw [shiftL, List.length_append, shiftL_len base n many j]; simp; omega
def insL (base : Int) (n : Nd) (key ptr : Int) (at_ : Nat) : List (Int × Int) :=
  [(base + 24, cOne n)] ++ (if n.len + 1 < 8 then [(base + 64 + 16 * ((n.len + 1 : Nat) : Int) + 8, 0)] else []) ++ shiftL base n n.len (n.len - at_) ++
    [(base + 64 + 16 * (at_ : Int) + 8, n.ahead at_), (base + 64 + 16 * (at_ : Int), key), (base + 64 + 16 * (at_ : Int) + 8, ptr)] ++ [(base + 24, cTwo n)]
def badKey (n : Nd) (key : Int) : Bool := decide (0 ≤ n.find key) || decide (key < n.lo) || (decide (0 < n.lv) && (key == n.lo))
def insE (base : Int) (n : Nd) (key ptr : Int) : Int :=
  if mayE base n = 2 ∨ freshB n ptr = false then 2 else if mayE base n ≠ 0 then mayE base n else if badKey n key = true then 2 else if n.len = 8 then 4 else 0
def insP (base : Int) (n : Nd) (key ptr : Int) : List (Int × Int) := if insE base n key ptr = 0 then insL base n key ptr (n.last key + 1).toNat else []


/-- whatever Find says, in two values -/
theorem findV_parts (n : Nd) (key : Int) : ∃ (i : Int) (b : Bool), FindV n key = .tuple #[.int .i64 i, .bool b] ∧ b = decide (0 ≤ n.find key) := by
  unfold FindV
  by_cases h : n.find key < 0
  · rw [if_pos h]; exact ⟨0, false, rfl, (decide_eq_false (by omega)).symm⟩
  · rw [if_neg h]; exact ⟨_, true, rfl, (decide_eq_true (by omega)).symm⟩

set_option maxRecDepth 100000 in
set_option maxHeartbeats 3200000 in
theorem insert_arg (base : Int) (n : Nd) (key ptr : Int) (w : World) (hm : mayE base n = 2) :
    Calls Try.prog 59 #[.int .u64 base, .agg (ndCells n), .int .u64 key, .int .u64 ptr] w fun e w' => MadeP [] 2 w e w' := by
  have HI := Lib.hid (info27 n)
  have hk0 : Blk (w.alloc (.cells (ndCells n) 40)) w.heap.size (ndCells n) 40 := Blk.new w _ _
  have HK0 := Lib.hid hk0
  have HL0 := Lib.hid (ndLoad hk0)
  have HB0 := Lib.hid ((Below.refl w.heap.size w).alloc (Nat.le_refl _) (.cells (ndCells n) 40))
  have HM := Lib.hid (fun w => may_v base n w)
  have HFd := Lib.hid (fun w => nfind_calls n key w)
  have HLn := Lib.hid (fun w => len_calls n w)
  have HFr := Lib.hid (fun w => fresh_v n ptr w)
  clear hk0
  obtain ⟨fi, fb, hfv, _⟩ := findV_parts n key
  rw [hm] at HM
  rw [hfv] at HFd
  clear hm hfv
  go_enter Try.func59, Try.ntmps59
  go_wp2_with (fail)
  go_step3
  go_wp2_with (first | (with_reducible refine wpList_load_part (o := ⟨some 18, _, _, _, _, _⟩) rfl 40 _ rfl w.heap.size 0 rfl (ndCells n) _ HL0.out Try.underlying40 rfl HI.out ?_) | (go_at_call 70; refine (HM.out _).mono ?_; rintro e w1 ⟨rfl, hB⟩; have HB1 := Lib.hid (HB0.out.trans (hB.mono HB0.out.size)); have HK1 := Lib.hid (HK0.out.below hB HK0.out.lt); have HL1 := Lib.hid (ndLoad HK1.out); clear hB) | (with_reducible refine wpList_load_part (o := ⟨some 21, _, _, _, _, _⟩) rfl 40 _ rfl w.heap.size 0 rfl (ndCells n) _ HL1.out Try.underlying40 rfl HI.out ?_) | (go_at_call 71; refine (HFd.out _).mono ?_; rintro e w2 ⟨rfl, hB2⟩; have HB2 := Lib.hid (HB1.out.trans (hB2.mono HB1.out.size)); have HK2 := Lib.hid (HK1.out.below hB2 HK1.out.lt); have HL2 := Lib.hid (ndLoad HK2.out); clear hB2) | (with_reducible refine wpList_load_part (o := ⟨some 26, _, _, _, _, _⟩) rfl 40 _ rfl w.heap.size 0 rfl (ndCells n) _ HL2.out Try.underlying40 rfl HI.out ?_))
  refine (HLn.out _).mono ?_
  rintro e w3 ⟨rfl, hB3⟩
  have HB3 := Lib.hid (HB2.out.trans (hB3.mono HB2.out.size))
  have HK3 := Lib.hid (HK2.out.below hB3 HK2.out.lt)
  have HL3 := Lib.hid (ndLoad HK3.out)
  clear hB3
  go_wp2_with (fail)
  rw [Exit.noGoto_ret]
  go_ret2
  exact MadeP.err HB3.out
set_option maxRecDepth 100000 in
set_option maxHeartbeats 3200000 in
theorem insert_old (base : Int) (n : Nd) (key ptr : Int) (w : World) (hm : mayE base n ≠ 2) (hf : freshB n ptr = false) :
    Calls Try.prog 59 #[.int .u64 base, .agg (ndCells n), .int .u64 key, .int .u64 ptr] w fun e w' => MadeP [] 2 w e w' := by
  have HI := Lib.hid (info27 n)
  have hk0 : Blk (w.alloc (.cells (ndCells n) 40)) w.heap.size (ndCells n) 40 := Blk.new w _ _
  have HK0 := Lib.hid hk0
  have HL0 := Lib.hid (ndLoad hk0)
  have HB0 := Lib.hid ((Below.refl w.heap.size w).alloc (Nat.le_refl _) (.cells (ndCells n) 40))
  have HM := Lib.hid (fun w => may_v base n w)
  have HFd := Lib.hid (fun w => nfind_calls n key w)
  have HLn := Lib.hid (fun w => len_calls n w)
  have HFr := Lib.hid (fun w => fresh_v n ptr w)
  clear hk0
  obtain ⟨fi, fb, hfv, _⟩ := findV_parts n key
  obtain ⟨M, hM⟩ : ∃ M, mayE base n = M := ⟨_, rfl⟩
  rw [hM] at HM hm
  rw [hfv] at HFd
  rw [hf] at HFr
  have q1 : (M == 2) = false := by simpa using hm
  clear hm hM hfv hf
  go_enter Try.func59, Try.ntmps59
  go_wp2_with (fail)
  go_step3
  go_wp2_with (first | (with_reducible refine wpList_load_part (o := ⟨some 18, _, _, _, _, _⟩) rfl 40 _ rfl w.heap.size 0 rfl (ndCells n) _ HL0.out Try.underlying40 rfl HI.out ?_) | (go_at_call 70; refine (HM.out _).mono ?_; rintro e w1 ⟨rfl, hB⟩; have HB1 := Lib.hid (HB0.out.trans (hB.mono HB0.out.size)); have HK1 := Lib.hid (HK0.out.below hB HK0.out.lt); have HL1 := Lib.hid (ndLoad HK1.out); clear hB) | (with_reducible refine wpList_load_part (o := ⟨some 21, _, _, _, _, _⟩) rfl 40 _ rfl w.heap.size 0 rfl (ndCells n) _ HL1.out Try.underlying40 rfl HI.out ?_) | (go_at_call 71; refine (HFd.out _).mono ?_; rintro e w2 ⟨rfl, hB2⟩; have HB2 := Lib.hid (HB1.out.trans (hB2.mono HB1.out.size)); have HK2 := Lib.hid (HK1.out.below hB2 HK1.out.lt); have HL2 := Lib.hid (ndLoad HK2.out); clear hB2) | (with_reducible refine wpList_load_part (o := ⟨some 26, _, _, _, _, _⟩) rfl 40 _ rfl w.heap.size 0 rfl (ndCells n) _ HL2.out Try.underlying40 rfl HI.out ?_))
  refine (HLn.out _).mono ?_
  rintro e w3 ⟨rfl, hB3⟩
  have HB3 := Lib.hid (HB2.out.trans (hB3.mono HB2.out.size))
  have HK3 := Lib.hid (HK2.out.below hB3 HK2.out.lt)
  have HL3 := Lib.hid (ndLoad HK3.out)
  clear hB3
  go_wp2_with (refine wpList_load_gd (o := ⟨some 32, .load 40 (.tmp 5), _, _, _, _⟩) 40 (.tmp 5) ?ho w.heap.size 0 ?hx (ndCells n) _ HL3.out Try.underlying40 rfl HI.out ?hw ?_; (case ho => rfl); (case hx => rfl); (case hw => rfl))
  refine (HFr.out _).mono ?_
  rintro e w4 ⟨rfl, hB4⟩
  have HB4 := Lib.hid (HB3.out.trans (hB4.mono HB3.out.size))
  have HK4 := Lib.hid (HK3.out.below hB4 HK3.out.lt)
  have c0 : w4.cell? ⟨w.heap.size, 0, none⟩ = some (.int .i64 n.lv) := by rw [HK4.out.cell, ndCells_0]
  have c1 : w4.cell? ⟨w.heap.size, 1, none⟩ = some (.int .u64 n.lo) := by rw [HK4.out.cell, ndCells_1]
  clear hB4
  go_wp2_with (fail)
  rw [Exit.noGoto_ret]
  go_ret2
  exact MadeP.err HB4.out
set_option maxRecDepth 100000 in
set_option maxHeartbeats 3200000 in
theorem insert_state (base : Int) (n : Nd) (key ptr : Int) (w : World) (hm : mayE base n ≠ 2) (hm0 : mayE base n ≠ 0) (hf : freshB n ptr = true) :
    Calls Try.prog 59 #[.int .u64 base, .agg (ndCells n), .int .u64 key, .int .u64 ptr] w fun e w' => MadeP [] (mayE base n) w e w' := by
  have HI := Lib.hid (info27 n)
  have hk0 : Blk (w.alloc (.cells (ndCells n) 40)) w.heap.size (ndCells n) 40 := Blk.new w _ _
  have HK0 := Lib.hid hk0
  have HL0 := Lib.hid (ndLoad hk0)
  have HB0 := Lib.hid ((Below.refl w.heap.size w).alloc (Nat.le_refl _) (.cells (ndCells n) 40))
  have HM := Lib.hid (fun w => may_v base n w)
  have HFd := Lib.hid (fun w => nfind_calls n key w)
  have HLn := Lib.hid (fun w => len_calls n w)
  have HFr := Lib.hid (fun w => fresh_v n ptr w)
  clear hk0
  obtain ⟨fi, fb, hfv, _⟩ := findV_parts n key
  obtain ⟨M, hM⟩ : ∃ M, mayE base n = M := ⟨_, rfl⟩
  rw [hM] at HM hm hm0 ⊢
  rw [hfv] at HFd
  rw [hf] at HFr
  have q1 : (M == 2) = false := by simpa using hm
  have q2 : (M != 0) = true := by simpa using hm0
  clear hm hM hfv hf hm0
  go_enter Try.func59, Try.ntmps59
  go_wp2_with (fail)
  go_step3
  go_wp2_with (first | (with_reducible refine wpList_load_part (o := ⟨some 18, _, _, _, _, _⟩) rfl 40 _ rfl w.heap.size 0 rfl (ndCells n) _ HL0.out Try.underlying40 rfl HI.out ?_) | (go_at_call 70; refine (HM.out _).mono ?_; rintro e w1 ⟨rfl, hB⟩; have HB1 := Lib.hid (HB0.out.trans (hB.mono HB0.out.size)); have HK1 := Lib.hid (HK0.out.below hB HK0.out.lt); have HL1 := Lib.hid (ndLoad HK1.out); clear hB) | (with_reducible refine wpList_load_part (o := ⟨some 21, _, _, _, _, _⟩) rfl 40 _ rfl w.heap.size 0 rfl (ndCells n) _ HL1.out Try.underlying40 rfl HI.out ?_) | (go_at_call 71; refine (HFd.out _).mono ?_; rintro e w2 ⟨rfl, hB2⟩; have HB2 := Lib.hid (HB1.out.trans (hB2.mono HB1.out.size)); have HK2 := Lib.hid (HK1.out.below hB2 HK1.out.lt); have HL2 := Lib.hid (ndLoad HK2.out); clear hB2) | (with_reducible refine wpList_load_part (o := ⟨some 26, _, _, _, _, _⟩) rfl 40 _ rfl w.heap.size 0 rfl (ndCells n) _ HL2.out Try.underlying40 rfl HI.out ?_))
  refine (HLn.out _).mono ?_
  rintro e w3 ⟨rfl, hB3⟩
  have HB3 := Lib.hid (HB2.out.trans (hB3.mono HB2.out.size))
  have HK3 := Lib.hid (HK2.out.below hB3 HK2.out.lt)
  have HL3 := Lib.hid (ndLoad HK3.out)
  clear hB3
  go_wp2_with (refine wpList_load_gd (o := ⟨some 32, .load 40 (.tmp 5), _, _, _, _⟩) 40 (.tmp 5) ?ho w.heap.size 0 ?hx (ndCells n) _ HL3.out Try.underlying40 rfl HI.out ?hw ?_; (case ho => rfl); (case hx => rfl); (case hw => rfl))
  refine (HFr.out _).mono ?_
  rintro e w4 ⟨rfl, hB4⟩
  have HB4 := Lib.hid (HB3.out.trans (hB4.mono HB3.out.size))
  have HK4 := Lib.hid (HK3.out.below hB4 HK3.out.lt)
  have c0 : w4.cell? ⟨w.heap.size, 0, none⟩ = some (.int .i64 n.lv) := by rw [HK4.out.cell, ndCells_0]
  have c1 : w4.cell? ⟨w.heap.size, 1, none⟩ = some (.int .u64 n.lo) := by rw [HK4.out.cell, ndCells_1]
  clear hB4
  go_wp2_with (fail)
  rw [Exit.noGoto_ret]
  go_ret2
  exact MadeP.err HB4.out
end Go.Proofs.Ytgmbnoimlffgcaa
namespace Go.Proofs.Ytgmbnoimlffgcaa
open Go.RowKit


theorem findV_bool (n : Nd) (key : Int) : ∃ i : Int, FindV n key = .tuple #[.int .i64 i, .bool (decide (0 ≤ n.find key))] := by
  obtain ⟨i, b, h, hb⟩ := findV_parts n key
  exact ⟨i, by rw [h, hb]⟩
theorem badKey_no {n : Nd} {key : Int} (h : badKey n key = false) : decide (0 ≤ n.find key) = false ∧ ¬ key < n.lo ∧ (0 < n.lv → (key == n.lo) = false) := by
  unfold badKey at h
  simp only [Bool.or_eq_false_iff] at h
  obtain ⟨⟨h1, h2⟩, h3⟩ := h
  refine ⟨h1, by simpa using h2, fun hl => ?_⟩
  rw [decide_eq_true hl, Bool.true_and] at h3
  exact h3
set_option maxRecDepth 100000 in
set_option maxHeartbeats 400000 in
theorem insert_bad1 (base : Int) (n : Nd) (key ptr : Int) (w : World) (hm : mayE base n = 0) (hf : freshB n ptr = true) (h1 : decide (0 ≤ n.find key) = true) :
    Calls Try.prog 59 #[.int .u64 base, .agg (ndCells n), .int .u64 key, .int .u64 ptr] w fun e w' => MadeP [] 2 w e w' := by
  have HI := Lib.hid (info27 n)
  have hk0 : Blk (w.alloc (.cells (ndCells n) 40)) w.heap.size (ndCells n) 40 := Blk.new w _ _
  have HK0 := Lib.hid hk0
  have HL0 := Lib.hid (ndLoad hk0)
  have HB0 := Lib.hid ((Below.refl w.heap.size w).alloc (Nat.le_refl _) (.cells (ndCells n) 40))
  have HM := Lib.hid (fun w => may_v base n w)
  have HFd := Lib.hid (fun w => nfind_calls n key w)
  have HLn := Lib.hid (fun w => len_calls n w)
  have HFr := Lib.hid (fun w => fresh_v n ptr w)
  clear hk0
  obtain ⟨fi, hfv⟩ := findV_bool n key
  rw [hm] at HM
  rw [hfv] at HFd
  rw [hf] at HFr
  rw [h1] at HFd
  clear hm hf hfv h1
  go_enter Try.func59, Try.ntmps59
  go_wp2_with (fail)
  go_step3
  go_wp2_with (first | (with_reducible refine wpList_load_part (o := ⟨some 18, _, _, _, _, _⟩) rfl 40 _ rfl w.heap.size 0 rfl (ndCells n) _ HL0.out Try.underlying40 rfl HI.out ?_) | (go_at_call 70; refine (HM.out _).mono ?_; rintro e w1 ⟨rfl, hB⟩; have HB1 := Lib.hid (HB0.out.trans (hB.mono HB0.out.size)); have HK1 := Lib.hid (HK0.out.below hB HK0.out.lt); have HL1 := Lib.hid (ndLoad HK1.out); clear hB) | (with_reducible refine wpList_load_part (o := ⟨some 21, _, _, _, _, _⟩) rfl 40 _ rfl w.heap.size 0 rfl (ndCells n) _ HL1.out Try.underlying40 rfl HI.out ?_) | (go_at_call 71; refine (HFd.out _).mono ?_; rintro e w2 ⟨rfl, hB2⟩; have HB2 := Lib.hid (HB1.out.trans (hB2.mono HB1.out.size)); have HK2 := Lib.hid (HK1.out.below hB2 HK1.out.lt); have HL2 := Lib.hid (ndLoad HK2.out); clear hB2) | (with_reducible refine wpList_load_part (o := ⟨some 26, _, _, _, _, _⟩) rfl 40 _ rfl w.heap.size 0 rfl (ndCells n) _ HL2.out Try.underlying40 rfl HI.out ?_))
  refine (HLn.out _).mono ?_
  rintro e w3 ⟨rfl, hB3⟩
  have HB3 := Lib.hid (HB2.out.trans (hB3.mono HB2.out.size))
  have HK3 := Lib.hid (HK2.out.below hB3 HK2.out.lt)
  have HL3 := Lib.hid (ndLoad HK3.out)
  clear hB3
  go_wp2_with (refine wpList_load_gd (o := ⟨some 32, .load 40 (.tmp 5), _, _, _, _⟩) 40 (.tmp 5) ?ho w.heap.size 0 ?hx (ndCells n) _ HL3.out Try.underlying40 rfl HI.out ?hw ?_; (case ho => rfl); (case hx => rfl); (case hw => rfl))
  refine (HFr.out _).mono ?_
  rintro e w4 ⟨rfl, hB4⟩
  have HB4 := Lib.hid (HB3.out.trans (hB4.mono HB3.out.size))
  have HK4 := Lib.hid (HK3.out.below hB4 HK3.out.lt)
  have c0 : w4.cell? ⟨w.heap.size, 0, none⟩ = some (.int .i64 n.lv) := by rw [HK4.out.cell, ndCells_0]
  have c1 : w4.cell? ⟨w.heap.size, 1, none⟩ = some (.int .u64 n.lo) := by rw [HK4.out.cell, ndCells_1]
  clear hB4
  go_wp2_with (fail)
  rw [Exit.noGoto_ret]
  go_ret2
  exact MadeP.err HB4.out
set_option maxRecDepth 100000 in
set_option maxHeartbeats 400000 in
theorem insert_bad2 (base : Int) (n : Nd) (key ptr : Int) (w : World) (hm : mayE base n = 0) (hf : freshB n ptr = true) (h1 : decide (0 ≤ n.find key) = false) (h2 : decide (key < n.lo) = true) :
    Calls Try.prog 59 #[.int .u64 base, .agg (ndCells n), .int .u64 key, .int .u64 ptr] w fun e w' => MadeP [] 2 w e w' := by
  have HI := Lib.hid (info27 n)
  have hk0 : Blk (w.alloc (.cells (ndCells n) 40)) w.heap.size (ndCells n) 40 := Blk.new w _ _
  have HK0 := Lib.hid hk0
  have HL0 := Lib.hid (ndLoad hk0)
  have HB0 := Lib.hid ((Below.refl w.heap.size w).alloc (Nat.le_refl _) (.cells (ndCells n) 40))
  have HM := Lib.hid (fun w => may_v base n w)
  have HFd := Lib.hid (fun w => nfind_calls n key w)
  have HLn := Lib.hid (fun w => len_calls n w)
  have HFr := Lib.hid (fun w => fresh_v n ptr w)
  clear hk0
  obtain ⟨fi, hfv⟩ := findV_bool n key
  rw [hm] at HM
  rw [hfv] at HFd
  rw [hf] at HFr
  rw [h1] at HFd
  clear hm hf hfv h1
  go_enter Try.func59, Try.ntmps59
  go_wp2_with (fail)
  go_step3
  go_wp2_with (first | (with_reducible refine wpList_load_part (o := ⟨some 18, _, _, _, _, _⟩) rfl 40 _ rfl w.heap.size 0 rfl (ndCells n) _ HL0.out Try.underlying40 rfl HI.out ?_) | (go_at_call 70; refine (HM.out _).mono ?_; rintro e w1 ⟨rfl, hB⟩; have HB1 := Lib.hid (HB0.out.trans (hB.mono HB0.out.size)); have HK1 := Lib.hid (HK0.out.below hB HK0.out.lt); have HL1 := Lib.hid (ndLoad HK1.out); clear hB) | (with_reducible refine wpList_load_part (o := ⟨some 21, _, _, _, _, _⟩) rfl 40 _ rfl w.heap.size 0 rfl (ndCells n) _ HL1.out Try.underlying40 rfl HI.out ?_) | (go_at_call 71; refine (HFd.out _).mono ?_; rintro e w2 ⟨rfl, hB2⟩; have HB2 := Lib.hid (HB1.out.trans (hB2.mono HB1.out.size)); have HK2 := Lib.hid (HK1.out.below hB2 HK1.out.lt); have HL2 := Lib.hid (ndLoad HK2.out); clear hB2) | (with_reducible refine wpList_load_part (o := ⟨some 26, _, _, _, _, _⟩) rfl 40 _ rfl w.heap.size 0 rfl (ndCells n) _ HL2.out Try.underlying40 rfl HI.out ?_))
  refine (HLn.out _).mono ?_
  rintro e w3 ⟨rfl, hB3⟩
  have HB3 := Lib.hid (HB2.out.trans (hB3.mono HB2.out.size))
  have HK3 := Lib.hid (HK2.out.below hB3 HK2.out.lt)
  have HL3 := Lib.hid (ndLoad HK3.out)
  clear hB3
  go_wp2_with (refine wpList_load_gd (o := ⟨some 32, .load 40 (.tmp 5), _, _, _, _⟩) 40 (.tmp 5) ?ho w.heap.size 0 ?hx (ndCells n) _ HL3.out Try.underlying40 rfl HI.out ?hw ?_; (case ho => rfl); (case hx => rfl); (case hw => rfl))
  refine (HFr.out _).mono ?_
  rintro e w4 ⟨rfl, hB4⟩
  have HB4 := Lib.hid (HB3.out.trans (hB4.mono HB3.out.size))
  have HK4 := Lib.hid (HK3.out.below hB4 HK3.out.lt)
  have c0 : w4.cell? ⟨w.heap.size, 0, none⟩ = some (.int .i64 n.lv) := by rw [HK4.out.cell, ndCells_0]
  have c1 : w4.cell? ⟨w.heap.size, 1, none⟩ = some (.int .u64 n.lo) := by rw [HK4.out.cell, ndCells_1]
  clear hB4
  go_wp2_with (fail)
  rw [Exit.noGoto_ret]
  go_ret2
  exact MadeP.err HB4.out
set_option maxRecDepth 100000 in
set_option maxHeartbeats 400000 in
theorem insert_bad3 (base : Int) (n : Nd) (key ptr : Int) (w : World) (hm : mayE base n = 0) (hf : freshB n ptr = true) (h1 : decide (0 ≤ n.find key) = false) (h2 : decide (key < n.lo) = false) (h3 : decide (0 < n.lv) = true) (h4 : (key == n.lo) = true) :
    Calls Try.prog 59 #[.int .u64 base, .agg (ndCells n), .int .u64 key, .int .u64 ptr] w fun e w' => MadeP [] 2 w e w' := by
  have HI := Lib.hid (info27 n)
  have hk0 : Blk (w.alloc (.cells (ndCells n) 40)) w.heap.size (ndCells n) 40 := Blk.new w _ _
  have HK0 := Lib.hid hk0
  have HL0 := Lib.hid (ndLoad hk0)
  have HB0 := Lib.hid ((Below.refl w.heap.size w).alloc (Nat.le_refl _) (.cells (ndCells n) 40))
  have HM := Lib.hid (fun w => may_v base n w)
  have HFd := Lib.hid (fun w => nfind_calls n key w)
  have HLn := Lib.hid (fun w => len_calls n w)
  have HFr := Lib.hid (fun w => fresh_v n ptr w)
  clear hk0
  obtain ⟨fi, hfv⟩ := findV_bool n key
  rw [hm] at HM
  rw [hfv] at HFd
  rw [hf] at HFr
  rw [h1] at HFd
  clear hm hf hfv h1
  go_enter Try.func59, Try.ntmps59
  go_wp2_with (fail)
  go_step3
  go_wp2_with (first | (with_reducible refine wpList_load_part (o := ⟨some 18, _, _, _, _, _⟩) rfl 40 _ rfl w.heap.size 0 rfl (ndCells n) _ HL0.out Try.underlying40 rfl HI.out ?_) | (go_at_call 70; refine (HM.out _).mono ?_; rintro e w1 ⟨rfl, hB⟩; have HB1 := Lib.hid (HB0.out.trans (hB.mono HB0.out.size)); have HK1 := Lib.hid (HK0.out.below hB HK0.out.lt); have HL1 := Lib.hid (ndLoad HK1.out); clear hB) | (with_reducible refine wpList_load_part (o := ⟨some 21, _, _, _, _, _⟩) rfl 40 _ rfl w.heap.size 0 rfl (ndCells n) _ HL1.out Try.underlying40 rfl HI.out ?_) | (go_at_call 71; refine (HFd.out _).mono ?_; rintro e w2 ⟨rfl, hB2⟩; have HB2 := Lib.hid (HB1.out.trans (hB2.mono HB1.out.size)); have HK2 := Lib.hid (HK1.out.below hB2 HK1.out.lt); have HL2 := Lib.hid (ndLoad HK2.out); clear hB2) | (with_reducible refine wpList_load_part (o := ⟨some 26, _, _, _, _, _⟩) rfl 40 _ rfl w.heap.size 0 rfl (ndCells n) _ HL2.out Try.underlying40 rfl HI.out ?_))
  refine (HLn.out _).mono ?_
  rintro e w3 ⟨rfl, hB3⟩
  have HB3 := Lib.hid (HB2.out.trans (hB3.mono HB2.out.size))
  have HK3 := Lib.hid (HK2.out.below hB3 HK2.out.lt)
  have HL3 := Lib.hid (ndLoad HK3.out)
  clear hB3
  go_wp2_with (refine wpList_load_gd (o := ⟨some 32, .load 40 (.tmp 5), _, _, _, _⟩) 40 (.tmp 5) ?ho w.heap.size 0 ?hx (ndCells n) _ HL3.out Try.underlying40 rfl HI.out ?hw ?_; (case ho => rfl); (case hx => rfl); (case hw => rfl))
  refine (HFr.out _).mono ?_
  rintro e w4 ⟨rfl, hB4⟩
  have HB4 := Lib.hid (HB3.out.trans (hB4.mono HB3.out.size))
  have HK4 := Lib.hid (HK3.out.below hB4 HK3.out.lt)
  have c0 : w4.cell? ⟨w.heap.size, 0, none⟩ = some (.int .i64 n.lv) := by rw [HK4.out.cell, ndCells_0]
  have c1 : w4.cell? ⟨w.heap.size, 1, none⟩ = some (.int .u64 n.lo) := by rw [HK4.out.cell, ndCells_1]
  clear hB4
  go_wp2_with (fail)
  rw [Exit.noGoto_ret]
  go_ret2
  exact MadeP.err HB4.out
set_option maxRecDepth 100000 in
set_option maxHeartbeats 800000 in
theorem insert_full (base : Int) (n : Nd) (key ptr : Int) (w : World) (hm : mayE base n = 0) (hf : freshB n ptr = true) (hb : badKey n key = false) (h8 : n.len = 8) :
    Calls Try.prog 59 #[.int .u64 base, .agg (ndCells n), .int .u64 key, .int .u64 ptr] w fun e w' => MadeP [] 4 w e w' := by
  have HI := Lib.hid (info27 n)
  have hk0 : Blk (w.alloc (.cells (ndCells n) 40)) w.heap.size (ndCells n) 40 := Blk.new w _ _
  have HK0 := Lib.hid hk0
  have HL0 := Lib.hid (ndLoad hk0)
  have HB0 := Lib.hid ((Below.refl w.heap.size w).alloc (Nat.le_refl _) (.cells (ndCells n) 40))
  have HM := Lib.hid (fun w => may_v base n w)
  have HFd := Lib.hid (fun w => nfind_calls n key w)
  have HLn := Lib.hid (fun w => len_calls n w)
  have HFr := Lib.hid (fun w => fresh_v n ptr w)
  clear hk0
  obtain ⟨fi, hfv⟩ := findV_bool n key
  rw [hm] at HM
  rw [hfv] at HFd
  rw [hf] at HFr
  obtain ⟨h1, h2, h3⟩ := badKey_no hb
  rw [h1] at HFd
  rw [h8] at HLn
  have h2b : decide (key < n.lo) = false := decide_eq_false h2
  by_cases hl : 0 < n.lv
  · have h4 := h3 hl
    have h3b : decide (0 < n.lv) = true := decide_eq_true hl
    clear hm hf hfv hb h1 h8 h3 h2 hl
    go_enter Try.func59, Try.ntmps59
    go_wp2_with (fail)
    go_step3
    go_wp2_with (first | (with_reducible refine wpList_load_part (o := ⟨some 18, _, _, _, _, _⟩) rfl 40 _ rfl w.heap.size 0 rfl (ndCells n) _ HL0.out Try.underlying40 rfl HI.out ?_) | (go_at_call 70; refine (HM.out _).mono ?_; rintro e w1 ⟨rfl, hB⟩; have HB1 := Lib.hid (HB0.out.trans (hB.mono HB0.out.size)); have HK1 := Lib.hid (HK0.out.below hB HK0.out.lt); have HL1 := Lib.hid (ndLoad HK1.out); clear hB) | (with_reducible refine wpList_load_part (o := ⟨some 21, _, _, _, _, _⟩) rfl 40 _ rfl w.heap.size 0 rfl (ndCells n) _ HL1.out Try.underlying40 rfl HI.out ?_) | (go_at_call 71; refine (HFd.out _).mono ?_; rintro e w2 ⟨rfl, hB2⟩; have HB2 := Lib.hid (HB1.out.trans (hB2.mono HB1.out.size)); have HK2 := Lib.hid (HK1.out.below hB2 HK1.out.lt); have HL2 := Lib.hid (ndLoad HK2.out); clear hB2) | (with_reducible refine wpList_load_part (o := ⟨some 26, _, _, _, _, _⟩) rfl 40 _ rfl w.heap.size 0 rfl (ndCells n) _ HL2.out Try.underlying40 rfl HI.out ?_))
    refine (HLn.out _).mono ?_
    rintro e w3 ⟨rfl, hB3⟩
    have HB3 := Lib.hid (HB2.out.trans (hB3.mono HB2.out.size))
    have HK3 := Lib.hid (HK2.out.below hB3 HK2.out.lt)
    have HL3 := Lib.hid (ndLoad HK3.out)
    clear hB3
    go_wp2_with (refine wpList_load_gd (o := ⟨some 32, .load 40 (.tmp 5), _, _, _, _⟩) 40 (.tmp 5) ?ho w.heap.size 0 ?hx (ndCells n) _ HL3.out Try.underlying40 rfl HI.out ?hw ?_; (case ho => rfl); (case hx => rfl); (case hw => rfl))
    refine (HFr.out _).mono ?_
    rintro e w4 ⟨rfl, hB4⟩
    have HB4 := Lib.hid (HB3.out.trans (hB4.mono HB3.out.size))
    have HK4 := Lib.hid (HK3.out.below hB4 HK3.out.lt)
    have c0 : w4.cell? ⟨w.heap.size, 0, none⟩ = some (.int .i64 n.lv) := by rw [HK4.out.cell, ndCells_0]
    have c1 : w4.cell? ⟨w.heap.size, 1, none⟩ = some (.int .u64 n.lo) := by rw [HK4.out.cell, ndCells_1]
    clear hB4
    go_wp2_with (fail)
    rw [Exit.noGoto_ret]
    go_ret2
    exact MadeP.err HB4.out
  · have h3b : decide (0 < n.lv) = false := decide_eq_false hl
    clear hm hf hfv hb h1 h8 h3 h2 hl
    go_enter Try.func59, Try.ntmps59
    go_wp2_with (fail)
    go_step3
    go_wp2_with (first | (with_reducible refine wpList_load_part (o := ⟨some 18, _, _, _, _, _⟩) rfl 40 _ rfl w.heap.size 0 rfl (ndCells n) _ HL0.out Try.underlying40 rfl HI.out ?_) | (go_at_call 70; refine (HM.out _).mono ?_; rintro e w1 ⟨rfl, hB⟩; have HB1 := Lib.hid (HB0.out.trans (hB.mono HB0.out.size)); have HK1 := Lib.hid (HK0.out.below hB HK0.out.lt); have HL1 := Lib.hid (ndLoad HK1.out); clear hB) | (with_reducible refine wpList_load_part (o := ⟨some 21, _, _, _, _, _⟩) rfl 40 _ rfl w.heap.size 0 rfl (ndCells n) _ HL1.out Try.underlying40 rfl HI.out ?_) | (go_at_call 71; refine (HFd.out _).mono ?_; rintro e w2 ⟨rfl, hB2⟩; have HB2 := Lib.hid (HB1.out.trans (hB2.mono HB1.out.size)); have HK2 := Lib.hid (HK1.out.below hB2 HK1.out.lt); have HL2 := Lib.hid (ndLoad HK2.out); clear hB2) | (with_reducible refine wpList_load_part (o := ⟨some 26, _, _, _, _, _⟩) rfl 40 _ rfl w.heap.size 0 rfl (ndCells n) _ HL2.out Try.underlying40 rfl HI.out ?_))
    refine (HLn.out _).mono ?_
    rintro e w3 ⟨rfl, hB3⟩
    have HB3 := Lib.hid (HB2.out.trans (hB3.mono HB2.out.size))
    have HK3 := Lib.hid (HK2.out.below hB3 HK2.out.lt)
    have HL3 := Lib.hid (ndLoad HK3.out)
    clear hB3
    go_wp2_with (refine wpList_load_gd (o := ⟨some 32, .load 40 (.tmp 5), _, _, _, _⟩) 40 (.tmp 5) ?ho w.heap.size 0 ?hx (ndCells n) _ HL3.out Try.underlying40 rfl HI.out ?hw ?_; (case ho => rfl); (case hx => rfl); (case hw => rfl))
    refine (HFr.out _).mono ?_
    rintro e w4 ⟨rfl, hB4⟩
    have HB4 := Lib.hid (HB3.out.trans (hB4.mono HB3.out.size))
    have HK4 := Lib.hid (HK3.out.below hB4 HK3.out.lt)
    have c0 : w4.cell? ⟨w.heap.size, 0, none⟩ = some (.int .i64 n.lv) := by rw [HK4.out.cell, ndCells_0]
    have c1 : w4.cell? ⟨w.heap.size, 1, none⟩ = some (.int .u64 n.lo) := by rw [HK4.out.cell, ndCells_1]
    clear hB4
    go_wp2_with (fail)
    rw [Exit.noGoto_ret]
    go_ret2
    exact MadeP.err HB4.out
end Go.Proofs.Ytgmbnoimlffgcaa
