/-
  A RUN'S STEP, whatever it does next. (The memory with its counts and marks left open.)
-/
import Derived.Test.YtgmbnoimlffgcaaSno
import Derived.Test.YtgmbnoimlffgcaaMob
import Derived.Test.YtgmbnoimlffgcaaPcN
import Derived.Test.YtgmbnoimlffgcaaCu
import Derived.Test.YtgmbnoimlffgcaaRnc
namespace Go.Proofs.Ytgmbnoimlffgcaa
open Go.RowKit
attribute [local go_sem] Oper.semAt_some
set_option linter.unusedVariables false

set_option maxRecDepth 100000 in
set_option maxHeartbeats 16000000 in
theorem trim_v (n : Nd) (w : World) : Calls Try.prog 16 #[.agg (ndCells n)] w fun e w' => e = .returned (.agg (ndCells (trimN n))) ∧ Below w.heap.size w w' := by
  have HT0 := Lib.hid (TrW.start w n)
  have HLn := Lib.hid (fun (W : World) => rlen_calls n W)
  have hs1 : (w.alloc (.cells (ndCells n) 40)).heap.size = w.heap.size + 1 := by simp
  obtain ⟨b1, hb1⟩ : ∃ b1, w.heap.size = b1 := ⟨_, rfl⟩
  obtain ⟨b2, hb2⟩ : ∃ b2, b1 + 1 = b2 := ⟨_, rfl⟩
  rw [hb1, hb2] at HT0 hs1
  have HZ := Lib.hid hs1
  clear hs1
  go_enter Try.func16, Try.ntmps16
  go_upto_region 1 with ((with_reducible refine wpList_alloc_ndAt (o := ⟨some 2, _, _, _, _, _⟩) rfl rfl b2 ?hz ?_); (case hz => exact HZ.out))
  simp [Act.put]
  generalize (w.alloc (.cells (ndCells n) 40)).alloc (.cells (ndCells nd0) 40) = w0 at *
  go_wp2_with (
    ((with_reducible refine wpList_load_part (o := ⟨some 4, .load 40 (.tmp 1), _, _, _, _⟩) ?hg 40 (.tmp 1) ?ho b1 0 ?hx (ndCells n) ?dd ?hc ?hu ?hd ?hi ?_); (case hg => rfl); (case ho => rfl); (case hx => exact ev_tmp (by simp)); (case hc => exact ndLoad HT0.out.f); (case hu => exact Try.underlying40); (case hd => rfl); (case hi => exact info27 _))
  )
  refine (HLn.out w0).mono ?_
  rintro e w1 ⟨rfl, hB1⟩
  have HT1 := Lib.hid (HT0.out.below hB1)
  have hl8 := n.len_le
  clear hB1 HT0
  obtain ⟨ln, hln⟩ : ∃ ln, n.len = ln := ⟨_, rfl⟩
  have HLE := Lib.hid hln
  rw [hln] at hl8 ⊢
  clear hln
  go_wp2_with (fail)
  go_loopw [3] (fun iv wr => ∃ k : Nat, ln ≤ k ∧ k ≤ 8 ∧ iv = .int .i64 k ∧ TrW w b1 b2 (clrK n ln k) wr) (fun iv _ => 8 - (intOf iv).toNat)
  case atStart => exact ⟨ln, Nat.le_refl _, hl8, rfl, by rw [clrK_0]; exact HT1.out⟩
  case round =>
    obtain ⟨k, hk0, hk8, rfl, hT⟩ := hrel
    have HT := Lib.hid hT
    have HSc := Lib.hid (clrK_s n ln k hk0)
    obtain ⟨m, hm⟩ : ∃ m, clrK n ln k = m := ⟨_, rfl⟩
    rw [hm] at HT HSc
    by_cases hlt : k < 8
    · have hkb : (k : Int) < 8 := by omega
      have HLT := Lib.hid hlt
      have HK0 := Lib.hid hk0
      have hkn : (0 : Int) ≤ (k : Int) := by omega
      have dk := (HT.out.f.cell (5 + k)).trans (ndCells_k m k hlt)
      have fk := HT.out.f.frozen (5 + k)
      clear hT hm hk0 hk8 hlt
      go_wp2_with (fail)
      go_roundw
      case rel => exact ⟨k + 1, by have := HK0.out; omega, by have := HLT.out; omega, by go_num, by rw [← HSc.out]; exact HT.out.setK k HLT.out 0⟩
      case measure => have := HLT.out; simp [intOf]; omega
    · have hk : k = 8 := by omega
      subst hk
      have HR := Lib.hid (show trimN n = rtrim m by unfold trimN; rw [HLE.out, hm])
      have HTr := Lib.hid (fun (W : World) => rtrim_v m W)
      obtain ⟨q, hq⟩ : ∃ q, rtrim m = q := ⟨_, rfl⟩
      rw [hq] at HTr HR
      clear hT hm hk0 hk8 hlt HSc hq
      go_wp2_with (
        ((with_reducible refine wpList_load_part (o := ⟨some 13, .load 40 (.tmp 1), _, _, _, _⟩) ?hg 40 (.tmp 1) ?ho b1 0 ?hx (ndCells m) ?dd ?hc ?hu ?hd ?hi ?_); (case hg => rfl); (case ho => rfl); (case hx => exact ev_tmp (by simp)); (case hc => exact ndLoad HT.out.f); (case hu => exact Try.underlying40); (case hd => rfl); (case hi => exact info27 _))
      )
      refine (HTr.out wr).mono ?_
      rintro e w5 ⟨rfl, hB5⟩
      have HT5 := Lib.hid (HT.out.below hB5)
      clear hB5
      go_wp2_with ((with_reducible refine wpList_store_ndc (o := ⟨none, .store 40 (.tmp 2) (.tmp 14), _, _, _, _⟩) ?hgc (.tmp 2) (.tmp 14) ?hoc b2 (ndCells q) q nd0 ?hxc ?hyc ?hbc ?hmc ?_); (case hgc => rfl); (case hoc => rfl); (case hxc => exact ev_tmp (by simp)); (case hyc => exact ev_tmp (by simp)); (case hmc => rfl); (case hbc => exact HT5.out.r))
      (try simp only [Exit.inBlock, Exit.then])
      refine bodyPost_ret (results_nd1 (fn := Try.f16) rfl _ b2 q rfl (HT5.out.r.row _)) rfl ?_
      rw [HR.out]
      exact ⟨rfl, below_setRow HT5.out.b (by have := HT5.out.lt; omega) _⟩

/-! ### plain: which nodes trim to the same -/
theorem ndCells_congr {n m : Nd} (h0 : n.lv = m.lv) (h1 : n.lo = m.lo) (h2 : n.nx = m.nx) (h3 : n.ct = m.ct) (h4 : n.fi = m.fi) (hk : ∀ i, i < 8 → n.k i = m.k i) (hp : ∀ i, i < 8 → n.p i = m.p i) : ndCells n = ndCells m := by
  have h8 : ∀ (f g : Nat → Int), (∀ i, i < 8 → f i = g i) → u8s f = u8s g := fun f g h => List.map_congr_left (fun i hi => by rw [h i (List.mem_range.1 hi)])
  unfold ndCells
  rw [h0, h1, h2, h3, h4, h8 _ _ hk, h8 _ _ hp]
theorem trimN_k (n : Nd) (i : Nat) (hi : i < 8) : (trimN n).k i = if i < n.len then n.k i else 0 := by
  unfold trimN rtrim
  rw [len_clrK]
  show (if n.len + 1 ≤ i ∧ i < 8 then 0 else (if n.len ≤ i ∧ i < 8 then 0 else n.k i)) = _
  by_cases h : i < n.len
  · rw [if_neg (by omega), if_neg (by omega), if_pos h]
  · rw [if_neg h]
    split
    · rfl
    · rw [if_pos (by omega)]
theorem trimN_p (n : Nd) (i : Nat) (hi : i < 8) : (trimN n).p i = if i < n.len then n.p i else 0 := by
  unfold trimN rtrim
  rw [len_clrK]
  show (if n.len ≤ i ∧ i < 8 then 0 else n.p i) = _
  by_cases h : i < n.len
  · rw [if_neg (by omega), if_pos h]
  · rw [if_pos (by omega), if_neg h]
theorem trim_same {n m : Nd} (h0 : n.lv = m.lv) (h1 : n.lo = m.lo) (h2 : n.nx = m.nx) (h3 : n.ct = m.ct) (h4 : n.fi = m.fi) (hl : n.len = m.len) (hk : ∀ i, i < n.len → n.k i = m.k i) (hp : ∀ i, i < n.len → n.p i = m.p i) : ndCells (trimN n) = ndCells (trimN m) := by
  refine ndCells_congr h0 h1 h2 h3 h4 (fun i hi => ?_) (fun i hi => ?_)
  · rw [trimN_k _ _ hi, trimN_k _ _ hi, ← hl]
    split
    · rename_i h; exact hk i h
    · rfl
  · rw [trimN_p _ _ hi, trimN_p _ _ hi, ← hl]
    split
    · rename_i h; exact hp i h
    · rfl
end Go.Proofs.Ytgmbnoimlffgcaa
namespace Go.Proofs.Ytgmbnoimlffgcaa
open Go.RowKit
set_option linter.unusedVariables false

theorem firstF_congr {t u : Nat → Bool} : ∀ (d i : Nat), (∀ j, i ≤ j → j < i + d → t j = u j) → firstF t d i = firstF u d i
  | 0, i, h => rfl
  | d + 1, i, h => by
    unfold firstF
    rw [h i (Nat.le_refl _) (by omega), firstF_congr d (i + 1) (fun j h1 h2 => h j (by omega) (by omega))]
theorem ok_congr {n m : Nd} (hf : n.fi = m.fi) {i : Nat} (h : ∀ j, j ≤ i → n.p j = m.p j) : n.ok i = m.ok i := by
  have ha : n.ahead i = m.ahead i := by
    cases i with
    | zero => exact hf
    | succ j => exact h j (by omega)
  unfold Nd.ok
  rw [h i (Nat.le_refl _), ha]
theorem same_entries {n m : Nd} (hf : n.fi = m.fi) (hl : n.len = m.len) (hp : ∀ i, i < m.len → n.p i = m.p i) : n.inval = m.inval ∧ n.valid.length = m.valid.length := by
  have hok : ∀ i, i < m.len → n.ok i = m.ok i := fun i hi => ok_congr hf (fun j hj => hp j (by omega))
  refine ⟨?_, ?_⟩
  · unfold Nd.inval
    rw [hl]
    exact firstF_congr _ _ (fun j _ h2 => by rw [hok j (by omega)])
  · unfold Nd.valid plN
    rw [List.length_map, List.length_map, hl]
    congr 1
    exact List.filter_congr (fun i hi => hok i (List.mem_range.1 hi))
theorem inval_one {m : Nd} (hm : m.mayB 0 false = true) (hi : 0 ≤ m.inval) : m.len = m.valid.length + 1 := by
  have h1 := (may_parts hm).2.2.2.1
  have h2 : m.valid.length < m.len := by
    unfold Nd.valid plN
    rw [List.length_map]
    rcases firstF_spec (fun i => !m.ok i) m.len 0 with ⟨e, _⟩ | ⟨j, e, _, hj, ht, _⟩
    · unfold Nd.inval at hi; omega
    · have hlt : ((List.range m.len).filter (fun i => m.p i != m.ahead i)).length < (List.range m.len).length := by
        rw [List.length_filter_lt_length_iff_exists]
        refine ⟨j, List.mem_range.2 (by omega), ?_⟩
        have h0 : m.ok j = false := by simpa using ht
        unfold Nd.ok at h0
        rw [h0]; decide
      rw [List.length_range] at hlt
      exact hlt
  omega
/-- what was found is that node, but for what stands behind its entries -/
theorem found_ok {x : Int} {m : Nd} (hm : NdOk x m) {W : Nat → Int} (hW : ∀ i, i < 24 → W i = wordsF m i) :
    (ofV (rdW W 24)).2 = 0 ∧ ndCells (trimN (ofV (rdW W 24)).1) = ndCells (trimN m) ∧ (ofV (rdW W 24)).1.nx = m.nx ∧ (ofV (rdW W 24)).1.len = m.len ∧ (ofV (rdW W 24)).1.inval = m.inval ∧ (ofV (rdW W 24)).1.valid.length = m.valid.length ∧ W 2 = m.nx := by
  have hlv : ¬ (m.lv < 0 ∨ 15 < m.lv) := by have := hm.lv; omega
  have hF : ∀ i, i < 24 → W i = fullW m i := fun i hi => by
    rw [hW i hi]
    unfold wordsF
    rw [if_neg hlv]
    exact if_pos (by omega)
  have hb : ofBad (rdW W 24) = false := by
    have e0 : rdW W 24 0 = tagM + m.lv := (rdW_at ((pthB_iff _ 0).2 (.inl (by decide))) (by decide)).trans (hF 0 (by decide))
    unfold ofBad
    rw [e0, decide_eq_false (by omega), decide_eq_false (by omega)]; rfl
  have ho : ofV (rdW W 24) = (nTo (rdW W 24) 8, 0) := by unfold ofV; rw [hb]; rfl
  have hkm : ∀ i, i < 8 → W (8 + 2 * i) = m.k i := fun i hi => (hF _ (by omega)).trans (fullW_key m i)
  have hpm : ∀ i, i < 8 → W (9 + 2 * i) = m.p i := fun i hi => (hF _ (by omega)).trans (fullW_ptr m i)
  have hl8 := m.len_le
  have hne : ∀ j, 9 ≤ j → j % 2 = 1 → j < 9 + 2 * m.len → j < 24 → W j ≠ 0 := fun j h9 ho hj h24 => by
    have h := m.p_lt ((j - 9) / 2) (by omega)
    rw [← hpm _ (by omega), show 9 + 2 * ((j - 9) / 2) = j by omega] at h
    exact h
  have hpth : ∀ i, 8 ≤ i → i < 24 → i ≤ 9 + 2 * m.len → pthB W i = true := fun i h8 h24 hi => (pthB_iff W i).2 (.inr (.inr ⟨h8, h24, fun j hj h9 ho => hne j h9 ho (by omega) (by omega)⟩))
  have h5 : ∀ i, i ≤ 4 → rdW W 24 i = W i := fun i hi => by
    unfold rdW
    by_cases h3 : i = 3
    · rw [if_pos (.inl h3)]
    · rw [if_pos (.inr ⟨(pthB_iff W i).2 (by omega), by omega⟩)]
  have hr : ∀ i, 8 ≤ i → i < 24 → i ≤ 9 + 2 * m.len → rdW W 24 i = W i := fun i h8 h24 hi => if_pos (.inr ⟨hpth i h8 h24 hi, h24⟩)
  have hpr : ∀ i, i < 8 → (nTo (rdW W 24) 8).p i = rdW W 24 (9 + 2 * i) := fun i hi => if_pos hi
  have hkr : ∀ i, i < 8 → (nTo (rdW W 24) 8).k i = rdW W 24 (8 + 2 * i) := fun i hi => if_pos hi
  have hp : ∀ i, i < m.len → (nTo (rdW W 24) 8).p i = m.p i := fun i hi => by rw [hpr i (by omega), hr _ (by omega) (by omega) (by omega), hpm i (by omega)]
  have hk : ∀ i, i < m.len → (nTo (rdW W 24) 8).k i = m.k i := fun i hi => by rw [hkr i (by omega), hr _ (by omega) (by omega) (by omega), hkm i (by omega)]
  have hlen : (nTo (rdW W 24) 8).len = m.len := len_unique hp (fun h => by
    rw [hpr _ h, hr _ (by omega) (by omega) (by omega), hpm _ h]; exact m.p_len h)
  have e0 : (nTo (rdW W 24) 8).lv = m.lv := by
    show rdW W 24 0 - tagM = m.lv
    rw [h5 0 (by omega), hF 0 (by decide)]
    show tagM + m.lv - tagM = m.lv
    omega
  have e4 : (nTo (rdW W 24) 8).fi = m.fi := (h5 4 (by omega)).trans (hF 4 (by decide))
  have e2 : (nTo (rdW W 24) 8).nx = m.nx := (h5 2 (by omega)).trans (hF 2 (by decide))
  obtain ⟨q1, q2⟩ := same_entries e4 hlen hp
  rw [ho]
  refine ⟨rfl, trim_same e0 ((h5 1 (by omega)).trans (hF 1 (by decide))) e2 ((h5 3 (by omega)).trans (hF 3 (by decide))) e4 hlen (fun i hi => hk i (by rw [hlen] at hi; exact hi)) (fun i hi => hp i (by rw [hlen] at hi; exact hi)), e2, hlen, q1, q2, hF 2 (by decide)⟩
/-- a course's words at each time -/
def wAt (base : Int) (n : Nd) (S : List (Int × Int)) (t : Nat) : Nat → Int := wordsF (ndAt base n S t)
theorem Course.crs {base : Int} {n : Nd} {S : List (Int × Int)} {d : Nat} (h : Course base 1280 n S d) : Crs (wAt base n S) S.length where
  back i k j hik hkj hj he q hq hw := by
    have hf : ∀ t, wAt base n S t 3 = (ndAt base n S t).ct := fun t => (words_full (h.at_ t).lv (show 3 < 24 by decide))
    exact h.back i k j hik hkj hj (by rw [← hf, ← hf]; exact he) q hq hw
  nx t := by
    have e : wAt base n S t 2 = (ndAt base n S t).nx := words_full (h.at_ t).lv (show 2 < 24 by decide)
    rw [e]; exact (h.at_ t).nx
/-- all that the law asks of the end -/
theorem msd_ok {base low : Int} {n : Nd} {S : List (Int × Int)} {d : Nat} (h : Course base 1280 n S d) {τ0 τ sb : Nat} {er : Int} {s : Sn} (hD : MsD (wAt base n S) low τ0 τ sb er s) :
    er = 0 ∧ s.has = decide (s.found.nx ≠ 0) ∧ (s.found.nx ≠ 0 → s.high = low) ∧ (0 ≤ s.found.inval → s.found.len = s.found.valid.length + 1) ∧ ∃ T, τ0 ≤ T ∧ T ≤ τ ∧ ndCells (trimN s.found) = ndCells (trimN (ndAt base n S T)) := by
  obtain ⟨T, h0, h1, he, hf, hh, hhi⟩ := hD.res
  obtain ⟨q0, q1, q2, q3, q4, q5, q6⟩ := found_ok (h.at_ T) (W := wAt base n S T) (fun i _ => rfl)
  rw [hf, q2, ← q6, q3, q4, q5]
  exact ⟨he.trans q0, hh, hhi, inval_one (h.at_ T).may, T, h0, h1, q1⟩
end Go.Proofs.Ytgmbnoimlffgcaa
namespace Go.Proofs.Ytgmbnoimlffgcaa
open Go.RowKit
attribute [local go_sem] Oper.semAt_some
set_option linter.unusedVariables false

/-- what is asked for, as the words that came in -/
def ask11 (kind key ptr : Int) : Ak :=
  if IntKind.u64.wrap kind % 5 = 0 then ⟨0, key, ptr⟩ else if IntKind.u64.wrap kind % 5 = 1 then ⟨1, key, ptr⟩ else if IntKind.u64.wrap kind % 5 = 2 then ⟨3, key, ptr⟩ else if IntKind.u64.wrap kind % 5 = 3 then ⟨4, key, ptr⟩ else ⟨5, key, 1280⟩
theorem ask11_ok {kind key ptr : Int} (h1 : U64 key) (h2 : U64 ptr) : AkOk 1280 (ask11 kind key ptr) := by
  unfold ask11
  repeat' split
  · exact ⟨.inl rfl, h1, h2, fun h => by cases h⟩
  · exact ⟨.inr (.inl rfl), h1, h2, fun h => by cases h⟩
  · exact ⟨.inr (.inr (.inr (.inl rfl))), h1, h2, fun h => by cases h⟩
  · exact ⟨.inr (.inr (.inr (.inr (.inl rfl)))), h1, h2, fun h => by cases h⟩
  · exact ⟨.inr (.inr (.inr (.inr (.inr rfl)))), h1, (show (0 : Int) ≤ 1280 ∧ (1280 : Int) ≤ 18446744073709551615 by decide), fun _ => rfl⟩
def ask11C (kind key ptr : Int) : Array Value := #[.int .i64 kind, .int .u64 key, .int .u64 ptr]

set_option maxRecDepth 100000 in
set_option maxHeartbeats 6400000 in
theorem puts_v (n : Nd) (kind key ptr : Int) (w : World) :
    Calls Try.prog 45 #[.agg (ndCells n), .agg (ask11C kind key ptr)] w fun e w' => MadeP (aL 1088 n (ask11 kind key ptr)) (aC 1088 n (ask11 kind key ptr)) w e w' := by
  have HI := Lib.hid (info27 n)
  have hk0 : Blk ((w.alloc (.cells (ndCells n) 40)).alloc (.cells (ask11C kind key ptr) 104)) w.heap.size (ndCells n) 40 := (Blk.new w _ _).alloc _
  have HL0 := Lib.hid (ndLoad hk0)
  have HB0 := Lib.hid (((Below.refl w.heap.size w).alloc (Nat.le_refl _) (.cells (ndCells n) 40)).alloc (by simp) (.cells (ask11C kind key ptr) 104))
  obtain ⟨u, hu⟩ : ∃ u, IntKind.u64.wrap kind = u := ⟨_, rfl⟩
  have hu0 : 0 ≤ u := by rw [← hu, IntKind.wrap_u64]; omega
  clear hk0
  unfold ask11C at *
  have h5 : u % 5 = 0 ∨ u % 5 = 1 ∨ u % 5 = 2 ∨ u % 5 = 3 ∨ u % 5 = 4 := by omega
  rcases h5 with h | h | h | h | h
  · have HP := Lib.hid (show aL 1088 n (ask11 kind key ptr) = insP 1088 n key ptr ∧ aC 1088 n (ask11 kind key ptr) = insE 1088 n key ptr by unfold ask11; rw [hu]; simp only [h]; exact ⟨rfl, rfl⟩)
    have hd : u % 5 = 0 := h
    have HC := Lib.hid (fun w => insert_v 1088 n key ptr w)
    clear h
    go_enter Try.func45, Try.ntmps45
    go_wp2_with (with_reducible refine wpList_load_part (o := ⟨some 12, _, _, _, _, _⟩) rfl 40 _ rfl w.heap.size 0 rfl (ndCells n) _ HL0.out Try.underlying40 rfl HI.out ?_)
    refine (HC.out _).mono ?_
    rintro e w1 ⟨a, m, c, rfl, hml, ho, hB⟩
    have HD := Lib.hid (show MadeP (aL 1088 n (ask11 kind key ptr)) (aC 1088 n (ask11 kind key ptr)) w (.returned (.tuple #[.slice a m c, .int .i64 (insE 1088 n key ptr)])) w1 from by rw [HP.out.1, HP.out.2]; exact MadeP.keep ⟨a, m, c, rfl, hml, ho, hB⟩ HB0.out)
    clear hml ho hB
    go_wp2_with (fail)
    go_ret2
    exact HD.out
  · have HP := Lib.hid (show aL 1088 n (ask11 kind key ptr) = delP 1088 n key ∧ aC 1088 n (ask11 kind key ptr) = delE 1088 n key by unfold ask11; rw [hu]; simp only [h]; exact ⟨rfl, rfl⟩)
    have hd : u % 5 = 1 := h
    have HC := Lib.hid (fun w => delete_v 1088 n key w)
    clear h
    go_enter Try.func45, Try.ntmps45
    go_wp2_with (with_reducible refine wpList_load_part (o := ⟨some 22, _, _, _, _, _⟩) rfl 40 _ rfl w.heap.size 0 rfl (ndCells n) _ HL0.out Try.underlying40 rfl HI.out ?_)
    refine (HC.out _).mono ?_
    rintro e w1 ⟨a, m, c, rfl, hml, ho, hB⟩
    have HD := Lib.hid (show MadeP (aL 1088 n (ask11 kind key ptr)) (aC 1088 n (ask11 kind key ptr)) w (.returned (.tuple #[.slice a m c, .int .i64 (delE 1088 n key)])) w1 from by rw [HP.out.1, HP.out.2]; exact MadeP.keep ⟨a, m, c, rfl, hml, ho, hB⟩ HB0.out)
    clear hml ho hB
    go_wp2_with (fail)
    go_ret2
    exact HD.out
  · have HP := Lib.hid (show aL 1088 n (ask11 kind key ptr) = swapP 1088 n key ptr ∧ aC 1088 n (ask11 kind key ptr) = swapE 1088 n key ptr by unfold ask11; rw [hu]; simp only [h]; exact ⟨rfl, rfl⟩)
    have hd : u % 5 = 2 := h
    have HC := Lib.hid (fun w => swap_v 1088 n key ptr w)
    clear h
    go_enter Try.func45, Try.ntmps45
    go_wp2_with (with_reducible refine wpList_load_part (o := ⟨some 30, _, _, _, _, _⟩) rfl 40 _ rfl w.heap.size 0 rfl (ndCells n) _ HL0.out Try.underlying40 rfl HI.out ?_)
    refine (HC.out _).mono ?_
    rintro e w1 ⟨a, m, c, rfl, hml, ho, hB⟩
    have HD := Lib.hid (show MadeP (aL 1088 n (ask11 kind key ptr)) (aC 1088 n (ask11 kind key ptr)) w (.returned (.tuple #[.slice a m c, .int .i64 (swapE 1088 n key ptr)])) w1 from by rw [HP.out.1, HP.out.2]; exact MadeP.keep ⟨a, m, c, rfl, hml, ho, hB⟩ HB0.out)
    clear hml ho hB
    go_wp2_with (fail)
    go_ret2
    exact HD.out
  · have HP := Lib.hid (show aL 1088 n (ask11 kind key ptr) = cutP 1088 n key ∧ aC 1088 n (ask11 kind key ptr) = cutE 1088 n key by unfold ask11; rw [hu]; simp only [h]; exact ⟨rfl, rfl⟩)
    have hd : u % 5 = 3 := h
    have HC := Lib.hid (fun w => cut_v 1088 n key w)
    clear h
    go_enter Try.func45, Try.ntmps45
    go_wp2_with (with_reducible refine wpList_load_part (o := ⟨some 40, _, _, _, _, _⟩) rfl 40 _ rfl w.heap.size 0 rfl (ndCells n) _ HL0.out Try.underlying40 rfl HI.out ?_)
    refine (HC.out _).mono ?_
    rintro e w1 ⟨a, m, c, rfl, hml, ho, hB⟩
    have HD := Lib.hid (show MadeP (aL 1088 n (ask11 kind key ptr)) (aC 1088 n (ask11 kind key ptr)) w (.returned (.tuple #[.slice a m c, .int .i64 (cutE 1088 n key)])) w1 from by rw [HP.out.1, HP.out.2]; exact MadeP.keep ⟨a, m, c, rfl, hml, ho, hB⟩ HB0.out)
    clear hml ho hB
    go_wp2_with (fail)
    go_ret2
    exact HD.out
  · have HP := Lib.hid (show aL 1088 n (ask11 kind key ptr) = linkP 1088 n 1280 ∧ aC 1088 n (ask11 kind key ptr) = mayE 1088 n by unfold ask11; rw [hu]; simp only [h]; exact ⟨rfl, rfl⟩)
    have hd : u % 5 = 4 := h
    have HC := Lib.hid (fun w => link_v 1088 n 1280 w)
    clear h
    go_enter Try.func45, Try.ntmps45
    go_wp2_with (with_reducible refine wpList_load_part (o := ⟨some 46, _, _, _, _, _⟩) rfl 40 _ rfl w.heap.size 0 rfl (ndCells n) _ HL0.out Try.underlying40 rfl HI.out ?_)
    refine (HC.out _).mono ?_
    rintro e w1 ⟨a, m, c, rfl, hml, ho, hB⟩
    have HD := Lib.hid (show MadeP (aL 1088 n (ask11 kind key ptr)) (aC 1088 n (ask11 kind key ptr)) w (.returned (.tuple #[.slice a m c, .int .i64 (mayE 1088 n)])) w1 from by rw [HP.out.1, HP.out.2]; exact MadeP.keep ⟨a, m, c, rfl, hml, ho, hB⟩ HB0.out)
    clear hml ho hB
    go_wp2_with (fail)
    go_ret2
    exact HD.out
end Go.Proofs.Ytgmbnoimlffgcaa
namespace Go.Proofs.Ytgmbnoimlffgcaa
open Go.RowKit
attribute [local go_sem] Oper.semAt_some
set_option linter.unusedVariables false

set_option maxRecDepth 100000 in
set_option maxHeartbeats 40000000 in
theorem rstep_store (w : World) (rb mb : Nat) (S : Nat → Prop) (r r' : Rn) (c : Nat) (vw is : List Int) (mk : Int → Nat → Int) (F : Int → List (Int × Int)) (lo st fl fe : Int) (dd : Bool) (er : Int) (R : World → Prop)
    (hb : Blk w rb (rnCells r) 129) (hmv : r.mv = some ⟨mb, 0, none⟩) (hcl : r.c = (c : Int)) (hm : MemP w mb S vw is mk F lo st fl fe) (hc : c ≤ 64) (hst : r.next = rphV rb 66) (hov : r.over = false)
    (hcall : Calls Try.prog 66 #[.pointer (some ⟨rb, 0, none⟩)] w fun e w' => e = .returned (.tuple #[.bool dd, .int .i64 er]) ∧ Blk w' rb (rnCells r') 129 ∧ R w') :
    Calls Try.prog 48 #[.pointer (some ⟨rb, 0, none⟩)] w fun e w' => e = .returned (.tuple #[.bool dd, .int .i64 er]) ∧ ∃ W2, R W2 ∧ Keeps (fun i => i = rb) W2 w' ∧ Blk w' rb (rnCells { r' with over := dd, e := er }) 129 := by
  have hq1 := nil_eq
  have hq2 := fn_eq 66
  have HSz := Lib.hid (size_m hm)
  have HLd := Lib.hid hcall
  have c0 : w.cell? ⟨rb, 0, none⟩ = some (.pointer (some ⟨mb, 0, none⟩)) := (hb.cell 0).trans (by rw [← hmv]; rfl)
  have c1 : w.cell? ⟨rb, 1, none⟩ = some (.int .i64 (c : Int)) := (hb.cell 1).trans (by rw [← hcl]; rfl)
  have c4 : w.cell? ⟨rb, 4, none⟩ = some (.func (.func 66) #[.pointer (some ⟨rb, 0, none⟩)] #[]) := (hb.cell 4).trans (by show some r.next = _; rw [hst]; rfl)
  have c5 : w.cell? ⟨rb, 5, none⟩ = some (.bool false) := (hb.cell 5).trans (by rw [← hov]; rfl)
  have hz : ((8 * (vw.length : Int)) == 0) = false := beq_eq_false_iff_ne.2 (by have := hm.pos; omega)
  have hc0 : ¬ (c : Int) < 0 := by omega
  have hc1 : ¬ (64 : Int) < (c : Int) := by omega
  clear hb hmv hcl hm hst hov hcall hc
  go_enter Try.func48, Try.ntmps48
  go_wp2_with (go_at_call 36; refine HSz.out.mono ?_; rintro e w1 ⟨rfl, rfl⟩)
  refine HLd.out.mono ?_
  rintro e w1 ⟨rfl, hb1, hR1⟩
  have hb5 := (hb1.set 5 (.bool dd)).set 6 (.int .i64 er)
  rw [rn_set5, rn_set6] at hb5
  have f5 : w1.frozen? ⟨rb, 5, none⟩ = false := hb1.frozen 5
  have f6 : (w1.setCell ⟨rb, 5, none⟩ (.bool dd)).frozen? ⟨rb, 6, none⟩ = false := (hb1.set 5 _).frozen 6
  have g5 : w1.cell? ⟨rb, 5, none⟩ = some (.bool r'.over) := hb1.cell 5
  have g6 : (w1.setCell ⟨rb, 5, none⟩ (.bool dd)).cell? ⟨rb, 6, none⟩ = some (.int .i64 r'.e) := (hb1.set 5 _).cell 6
  have k5 : Keeps (fun k => k = rb) w1 ((w1.setCell ⟨rb, 5, none⟩ (.bool dd)).setCell ⟨rb, 6, none⟩ (.int .i64 er)) := ((Keeps.refl (fun k => k = rb) w1).setCell (p := ⟨rb, 5, none⟩) (.inl rfl) _).setCell (p := ⟨rb, 6, none⟩) (.inl rfl) _
  have HB5 := Lib.hid hb5
  have HK5 := Lib.hid k5
  have HR1 := Lib.hid hR1
  clear hb5 k5 hb1 hR1
  go_wp2_with (fail)
  obtain ⟨W5, hW5⟩ : ∃ W5, W5 = ((w1.setCell ⟨rb, 5, none⟩ (.bool dd)).setCell ⟨rb, 6, none⟩ (.int .i64 er)) := ⟨_, rfl⟩
  rw [← hW5] at HB5 HK5 ⊢
  have HC5 := Lib.hid (show W5.cell? ⟨rb, 5, none⟩ = some (.bool dd) ∧ W5.cell? ⟨rb, 6, none⟩ = some (.int .i64 er) from ⟨HB5.out.cell 5, HB5.out.cell 6⟩)
  clear hW5 f5 f6 g5 g6
  --GEN r_rn9
  refine wp_region_vals [Is (.pointer (some ⟨rb, 0, none⟩)), Is (.pointer (some ⟨rb, 0, none⟩)), Is (.pointer (some ⟨rb, 5, none⟩)), Is (.bool dd), Is (.pointer (some ⟨rb, 0, none⟩)), Is (.pointer (some ⟨rb, 0, none⟩)), Is (.pointer (some ⟨rb, 6, none⟩)), Is (.int .i64 er), Is (.bool dd), Is (.int .i64 er)]
    (fun _ _ _ => True) (fun _ W => W = W5.drew) (by kernel_rfl) (by kernel_rfl) (by kernel_rfl) ?hst ?h0 ⟨?o0, ?o1, ?o2, ?o3, ?o4, ?o5, ?o6, ?o7, ?o8, ?o9, trivial⟩ ?he
  case hst =>
    exact ⟨(fun _ _ _ _ _ _ h _ => h), (fun _ _ _ _ _ _ h _ => h), (fun _ _ _ _ _ _ h _ => h), (fun _ _ _ _ _ _ h _ => h), (fun _ _ _ _ _ _ h _ => h), (fun _ _ _ _ _ _ h _ => h), (fun _ _ _ _ _ _ h _ => h), (fun _ _ _ _ _ _ h _ => h), (fun _ _ _ _ _ _ h _ => h), (fun _ _ _ _ _ _ h _ => h), trivial⟩
  case h0 =>
    exact rfl
  case o0 =>
    intro L vs A W H hf hd K hK
    have e0 : A.tmps[0]?.getD undef = .pointer (some ⟨rb, 0, none⟩) := H.old 0 (by kernel_rfl)
    go_simp
    exact hK _ _ (trivial) rfl (H.glob)
  case o1 =>
    intro L vs A W H hf hd K hK
    have e65 := H.is 0 65 rfl rfl rfl (deps_of' hd 0 (by kernel_rfl)) (by kernel_rfl)
    go_simp
    exact hK _ _ (trivial) rfl (H.glob)
  case o2 =>
    intro L vs A W H hf hd K hK
    have e66 := H.is 1 66 rfl rfl rfl (deps_of' hd 1 (by kernel_rfl)) (by kernel_rfl)
    go_simp
    exact hK _ _ (trivial) rfl (H.glob)
  case o3 =>
    intro L vs A W H hf hd K hK
    have e67 := H.is 2 67 rfl rfl rfl (deps_of' hd 2 (by kernel_rfl)) (by kernel_rfl)
    have d : W.cell? ⟨rb, 5, none⟩ = some (.bool dd) := (by rw [H.glob]; exact HC5.out.1)
    go_simp
    exact hK _ _ (trivial) rfl (H.glob)
  case o4 =>
    intro L vs A W H hf hd K hK
    have e0 : A.tmps[0]?.getD undef = .pointer (some ⟨rb, 0, none⟩) := H.old 0 (by kernel_rfl)
    go_simp
    exact hK _ _ (trivial) rfl (H.glob)
  case o5 =>
    intro L vs A W H hf hd K hK
    have e69 := H.is 4 69 rfl rfl rfl (deps_of' hd 4 (by kernel_rfl)) (by kernel_rfl)
    go_simp
    exact hK _ _ (trivial) rfl (H.glob)
  case o6 =>
    intro L vs A W H hf hd K hK
    have e70 := H.is 5 70 rfl rfl rfl (deps_of' hd 5 (by kernel_rfl)) (by kernel_rfl)
    go_simp
    exact hK _ _ (trivial) rfl (H.glob)
  case o7 =>
    intro L vs A W H hf hd K hK
    have e71 := H.is 6 71 rfl rfl rfl (deps_of' hd 6 (by kernel_rfl)) (by kernel_rfl)
    have d : W.cell? ⟨rb, 6, none⟩ = some (.int .i64 er) := (by rw [H.glob]; exact HC5.out.2)
    go_simp
    exact hK _ _ (trivial) rfl (H.glob)
  case o8 =>
    intro L vs A W H hf hd K hK
    have e68 := H.is 3 68 rfl rfl rfl (deps_of' hd 3 (by kernel_rfl)) (by kernel_rfl)
    go_simp
    exact hK _ _ (trivial) rfl (H.glob)
  case o9 =>
    intro L vs A W H hf hd K hK
    have e72 := H.is 7 72 rfl rfl rfl (deps_of' hd 7 (by kernel_rfl)) (by kernel_rfl)
    go_simp
    exact hK _ _ (trivial) rfl (H.glob)
  case he =>
    intro vs W hlen hv
    match vs, hlen, hv with
    | [x0_, x1_, x2_, x3_, x4_, x5_, x6_, x7_, x8_, x9_], _, hv =>
    obtain rfl : (.pointer (some ⟨rb, 0, none⟩)) = x0_ := by obtain ⟨z, h1, h2⟩ := hv 0 _ rfl; cases h1; exact h2.symm
    obtain rfl : (.pointer (some ⟨rb, 0, none⟩)) = x1_ := by obtain ⟨z, h1, h2⟩ := hv 1 _ rfl; cases h1; exact h2.symm
    obtain rfl : (.pointer (some ⟨rb, 5, none⟩)) = x2_ := by obtain ⟨z, h1, h2⟩ := hv 2 _ rfl; cases h1; exact h2.symm
    obtain rfl : (.bool dd) = x3_ := by obtain ⟨z, h1, h2⟩ := hv 3 _ rfl; cases h1; exact h2.symm
    obtain rfl : (.pointer (some ⟨rb, 0, none⟩)) = x4_ := by obtain ⟨z, h1, h2⟩ := hv 4 _ rfl; cases h1; exact h2.symm
    obtain rfl : (.pointer (some ⟨rb, 0, none⟩)) = x5_ := by obtain ⟨z, h1, h2⟩ := hv 5 _ rfl; cases h1; exact h2.symm
    obtain rfl : (.pointer (some ⟨rb, 6, none⟩)) = x6_ := by obtain ⟨z, h1, h2⟩ := hv 6 _ rfl; cases h1; exact h2.symm
    obtain rfl : (.int .i64 er) = x7_ := by obtain ⟨z, h1, h2⟩ := hv 7 _ rfl; cases h1; exact h2.symm
    obtain rfl : (.bool dd) = x8_ := by obtain ⟨z, h1, h2⟩ := hv 8 _ rfl; cases h1; exact h2.symm
    obtain rfl : (.int .i64 er) = x9_ := by obtain ⟨z, h1, h2⟩ := hv 9 _ rfl; cases h1; exact h2.symm
    intro L hall hG
    clear hv hlen
    have HW := hG
    clear hG hall
    subst HW
    simp only [fill, if_true]
  --END
    simp [Act.put]
    go_wp2_with (fail)
    go_ret2
    exact ⟨rfl, w1, HR1.out, HK5.out.drew, HB5.out.drew⟩
set_option maxRecDepth 100000 in
set_option maxHeartbeats 40000000 in
theorem rstep_flush (w : World) (rb mb : Nat) (S : Nat → Prop) (r r' : Rn) (c : Nat) (vw is : List Int) (mk : Int → Nat → Int) (F : Int → List (Int × Int)) (lo st fl fe : Int) (dd : Bool) (er : Int) (R : World → Prop)
    (hb : Blk w rb (rnCells r) 129) (hmv : r.mv = some ⟨mb, 0, none⟩) (hcl : r.c = (c : Int)) (hm : MemP w mb S vw is mk F lo st fl fe) (hc : c ≤ 64) (hst : r.next = rphV rb 85) (hov : r.over = false)
    (hcall : Calls Try.prog 85 #[.pointer (some ⟨rb, 0, none⟩)] w fun e w' => e = .returned (.tuple #[.bool dd, .int .i64 er]) ∧ Blk w' rb (rnCells r') 129 ∧ R w') :
    Calls Try.prog 48 #[.pointer (some ⟨rb, 0, none⟩)] w fun e w' => e = .returned (.tuple #[.bool dd, .int .i64 er]) ∧ ∃ W2, R W2 ∧ Keeps (fun i => i = rb) W2 w' ∧ Blk w' rb (rnCells { r' with over := dd, e := er }) 129 := by
  have hq1 := nil_eq
  have hq2 := fn_eq 85
  have HSz := Lib.hid (size_m hm)
  have HLd := Lib.hid hcall
  have c0 : w.cell? ⟨rb, 0, none⟩ = some (.pointer (some ⟨mb, 0, none⟩)) := (hb.cell 0).trans (by rw [← hmv]; rfl)
  have c1 : w.cell? ⟨rb, 1, none⟩ = some (.int .i64 (c : Int)) := (hb.cell 1).trans (by rw [← hcl]; rfl)
  have c4 : w.cell? ⟨rb, 4, none⟩ = some (.func (.func 85) #[.pointer (some ⟨rb, 0, none⟩)] #[]) := (hb.cell 4).trans (by show some r.next = _; rw [hst]; rfl)
  have c5 : w.cell? ⟨rb, 5, none⟩ = some (.bool false) := (hb.cell 5).trans (by rw [← hov]; rfl)
  have hz : ((8 * (vw.length : Int)) == 0) = false := beq_eq_false_iff_ne.2 (by have := hm.pos; omega)
  have hc0 : ¬ (c : Int) < 0 := by omega
  have hc1 : ¬ (64 : Int) < (c : Int) := by omega
  clear hb hmv hcl hm hst hov hcall hc
  go_enter Try.func48, Try.ntmps48
  go_wp2_with (go_at_call 36; refine HSz.out.mono ?_; rintro e w1 ⟨rfl, rfl⟩)
  refine HLd.out.mono ?_
  rintro e w1 ⟨rfl, hb1, hR1⟩
  have hb5 := (hb1.set 5 (.bool dd)).set 6 (.int .i64 er)
  rw [rn_set5, rn_set6] at hb5
  have f5 : w1.frozen? ⟨rb, 5, none⟩ = false := hb1.frozen 5
  have f6 : (w1.setCell ⟨rb, 5, none⟩ (.bool dd)).frozen? ⟨rb, 6, none⟩ = false := (hb1.set 5 _).frozen 6
  have g5 : w1.cell? ⟨rb, 5, none⟩ = some (.bool r'.over) := hb1.cell 5
  have g6 : (w1.setCell ⟨rb, 5, none⟩ (.bool dd)).cell? ⟨rb, 6, none⟩ = some (.int .i64 r'.e) := (hb1.set 5 _).cell 6
  have k5 : Keeps (fun k => k = rb) w1 ((w1.setCell ⟨rb, 5, none⟩ (.bool dd)).setCell ⟨rb, 6, none⟩ (.int .i64 er)) := ((Keeps.refl (fun k => k = rb) w1).setCell (p := ⟨rb, 5, none⟩) (.inl rfl) _).setCell (p := ⟨rb, 6, none⟩) (.inl rfl) _
  have HB5 := Lib.hid hb5
  have HK5 := Lib.hid k5
  have HR1 := Lib.hid hR1
  clear hb5 k5 hb1 hR1
  go_wp2_with (fail)
  obtain ⟨W5, hW5⟩ : ∃ W5, W5 = ((w1.setCell ⟨rb, 5, none⟩ (.bool dd)).setCell ⟨rb, 6, none⟩ (.int .i64 er)) := ⟨_, rfl⟩
  rw [← hW5] at HB5 HK5 ⊢
  have HC5 := Lib.hid (show W5.cell? ⟨rb, 5, none⟩ = some (.bool dd) ∧ W5.cell? ⟨rb, 6, none⟩ = some (.int .i64 er) from ⟨HB5.out.cell 5, HB5.out.cell 6⟩)
  clear hW5 f5 f6 g5 g6
  --GEN r_rn9
  refine wp_region_vals [Is (.pointer (some ⟨rb, 0, none⟩)), Is (.pointer (some ⟨rb, 0, none⟩)), Is (.pointer (some ⟨rb, 5, none⟩)), Is (.bool dd), Is (.pointer (some ⟨rb, 0, none⟩)), Is (.pointer (some ⟨rb, 0, none⟩)), Is (.pointer (some ⟨rb, 6, none⟩)), Is (.int .i64 er), Is (.bool dd), Is (.int .i64 er)]
    (fun _ _ _ => True) (fun _ W => W = W5.drew) (by kernel_rfl) (by kernel_rfl) (by kernel_rfl) ?hst ?h0 ⟨?o0, ?o1, ?o2, ?o3, ?o4, ?o5, ?o6, ?o7, ?o8, ?o9, trivial⟩ ?he
  case hst =>
    exact ⟨(fun _ _ _ _ _ _ h _ => h), (fun _ _ _ _ _ _ h _ => h), (fun _ _ _ _ _ _ h _ => h), (fun _ _ _ _ _ _ h _ => h), (fun _ _ _ _ _ _ h _ => h), (fun _ _ _ _ _ _ h _ => h), (fun _ _ _ _ _ _ h _ => h), (fun _ _ _ _ _ _ h _ => h), (fun _ _ _ _ _ _ h _ => h), (fun _ _ _ _ _ _ h _ => h), trivial⟩
  case h0 =>
    exact rfl
  case o0 =>
    intro L vs A W H hf hd K hK
    have e0 : A.tmps[0]?.getD undef = .pointer (some ⟨rb, 0, none⟩) := H.old 0 (by kernel_rfl)
    go_simp
    exact hK _ _ (trivial) rfl (H.glob)
  case o1 =>
    intro L vs A W H hf hd K hK
    have e65 := H.is 0 65 rfl rfl rfl (deps_of' hd 0 (by kernel_rfl)) (by kernel_rfl)
    go_simp
    exact hK _ _ (trivial) rfl (H.glob)
  case o2 =>
    intro L vs A W H hf hd K hK
    have e66 := H.is 1 66 rfl rfl rfl (deps_of' hd 1 (by kernel_rfl)) (by kernel_rfl)
    go_simp
    exact hK _ _ (trivial) rfl (H.glob)
  case o3 =>
    intro L vs A W H hf hd K hK
    have e67 := H.is 2 67 rfl rfl rfl (deps_of' hd 2 (by kernel_rfl)) (by kernel_rfl)
    have d : W.cell? ⟨rb, 5, none⟩ = some (.bool dd) := (by rw [H.glob]; exact HC5.out.1)
    go_simp
    exact hK _ _ (trivial) rfl (H.glob)
  case o4 =>
    intro L vs A W H hf hd K hK
    have e0 : A.tmps[0]?.getD undef = .pointer (some ⟨rb, 0, none⟩) := H.old 0 (by kernel_rfl)
    go_simp
    exact hK _ _ (trivial) rfl (H.glob)
  case o5 =>
    intro L vs A W H hf hd K hK
    have e69 := H.is 4 69 rfl rfl rfl (deps_of' hd 4 (by kernel_rfl)) (by kernel_rfl)
    go_simp
    exact hK _ _ (trivial) rfl (H.glob)
  case o6 =>
    intro L vs A W H hf hd K hK
    have e70 := H.is 5 70 rfl rfl rfl (deps_of' hd 5 (by kernel_rfl)) (by kernel_rfl)
    go_simp
    exact hK _ _ (trivial) rfl (H.glob)
  case o7 =>
    intro L vs A W H hf hd K hK
    have e71 := H.is 6 71 rfl rfl rfl (deps_of' hd 6 (by kernel_rfl)) (by kernel_rfl)
    have d : W.cell? ⟨rb, 6, none⟩ = some (.int .i64 er) := (by rw [H.glob]; exact HC5.out.2)
    go_simp
    exact hK _ _ (trivial) rfl (H.glob)
  case o8 =>
    intro L vs A W H hf hd K hK
    have e68 := H.is 3 68 rfl rfl rfl (deps_of' hd 3 (by kernel_rfl)) (by kernel_rfl)
    go_simp
    exact hK _ _ (trivial) rfl (H.glob)
  case o9 =>
    intro L vs A W H hf hd K hK
    have e72 := H.is 7 72 rfl rfl rfl (deps_of' hd 7 (by kernel_rfl)) (by kernel_rfl)
    go_simp
    exact hK _ _ (trivial) rfl (H.glob)
  case he =>
    intro vs W hlen hv
    match vs, hlen, hv with
    | [x0_, x1_, x2_, x3_, x4_, x5_, x6_, x7_, x8_, x9_], _, hv =>
    obtain rfl : (.pointer (some ⟨rb, 0, none⟩)) = x0_ := by obtain ⟨z, h1, h2⟩ := hv 0 _ rfl; cases h1; exact h2.symm
    obtain rfl : (.pointer (some ⟨rb, 0, none⟩)) = x1_ := by obtain ⟨z, h1, h2⟩ := hv 1 _ rfl; cases h1; exact h2.symm
    obtain rfl : (.pointer (some ⟨rb, 5, none⟩)) = x2_ := by obtain ⟨z, h1, h2⟩ := hv 2 _ rfl; cases h1; exact h2.symm
    obtain rfl : (.bool dd) = x3_ := by obtain ⟨z, h1, h2⟩ := hv 3 _ rfl; cases h1; exact h2.symm
    obtain rfl : (.pointer (some ⟨rb, 0, none⟩)) = x4_ := by obtain ⟨z, h1, h2⟩ := hv 4 _ rfl; cases h1; exact h2.symm
    obtain rfl : (.pointer (some ⟨rb, 0, none⟩)) = x5_ := by obtain ⟨z, h1, h2⟩ := hv 5 _ rfl; cases h1; exact h2.symm
    obtain rfl : (.pointer (some ⟨rb, 6, none⟩)) = x6_ := by obtain ⟨z, h1, h2⟩ := hv 6 _ rfl; cases h1; exact h2.symm
    obtain rfl : (.int .i64 er) = x7_ := by obtain ⟨z, h1, h2⟩ := hv 7 _ rfl; cases h1; exact h2.symm
    obtain rfl : (.bool dd) = x8_ := by obtain ⟨z, h1, h2⟩ := hv 8 _ rfl; cases h1; exact h2.symm
    obtain rfl : (.int .i64 er) = x9_ := by obtain ⟨z, h1, h2⟩ := hv 9 _ rfl; cases h1; exact h2.symm
    intro L hall hG
    clear hv hlen
    have HW := hG
    clear hG hall
    subst HW
    simp only [fill, if_true]
  --END
    simp [Act.put]
    go_wp2_with (fail)
    go_ret2
    exact ⟨rfl, w1, HR1.out, HK5.out.drew, HB5.out.drew⟩
set_option maxRecDepth 100000 in
set_option maxHeartbeats 40000000 in
theorem rstep_fence (w : World) (rb mb : Nat) (S : Nat → Prop) (r r' : Rn) (c : Nat) (vw is : List Int) (mk : Int → Nat → Int) (F : Int → List (Int × Int)) (lo st fl fe : Int) (dd : Bool) (er : Int) (R : World → Prop)
    (hb : Blk w rb (rnCells r) 129) (hmv : r.mv = some ⟨mb, 0, none⟩) (hcl : r.c = (c : Int)) (hm : MemP w mb S vw is mk F lo st fl fe) (hc : c ≤ 64) (hst : r.next = rphV rb 99) (hov : r.over = false)
    (hcall : Calls Try.prog 99 #[.pointer (some ⟨rb, 0, none⟩)] w fun e w' => e = .returned (.tuple #[.bool dd, .int .i64 er]) ∧ Blk w' rb (rnCells r') 129 ∧ R w') :
    Calls Try.prog 48 #[.pointer (some ⟨rb, 0, none⟩)] w fun e w' => e = .returned (.tuple #[.bool dd, .int .i64 er]) ∧ ∃ W2, R W2 ∧ Keeps (fun i => i = rb) W2 w' ∧ Blk w' rb (rnCells { r' with over := dd, e := er }) 129 := by
  have hq1 := nil_eq
  have hq2 := fn_eq 99
  have HSz := Lib.hid (size_m hm)
  have HLd := Lib.hid hcall
  have c0 : w.cell? ⟨rb, 0, none⟩ = some (.pointer (some ⟨mb, 0, none⟩)) := (hb.cell 0).trans (by rw [← hmv]; rfl)
  have c1 : w.cell? ⟨rb, 1, none⟩ = some (.int .i64 (c : Int)) := (hb.cell 1).trans (by rw [← hcl]; rfl)
  have c4 : w.cell? ⟨rb, 4, none⟩ = some (.func (.func 99) #[.pointer (some ⟨rb, 0, none⟩)] #[]) := (hb.cell 4).trans (by show some r.next = _; rw [hst]; rfl)
  have c5 : w.cell? ⟨rb, 5, none⟩ = some (.bool false) := (hb.cell 5).trans (by rw [← hov]; rfl)
  have hz : ((8 * (vw.length : Int)) == 0) = false := beq_eq_false_iff_ne.2 (by have := hm.pos; omega)
  have hc0 : ¬ (c : Int) < 0 := by omega
  have hc1 : ¬ (64 : Int) < (c : Int) := by omega
  clear hb hmv hcl hm hst hov hcall hc
  go_enter Try.func48, Try.ntmps48
  go_wp2_with (go_at_call 36; refine HSz.out.mono ?_; rintro e w1 ⟨rfl, rfl⟩)
  refine HLd.out.mono ?_
  rintro e w1 ⟨rfl, hb1, hR1⟩
  have hb5 := (hb1.set 5 (.bool dd)).set 6 (.int .i64 er)
  rw [rn_set5, rn_set6] at hb5
  have f5 : w1.frozen? ⟨rb, 5, none⟩ = false := hb1.frozen 5
  have f6 : (w1.setCell ⟨rb, 5, none⟩ (.bool dd)).frozen? ⟨rb, 6, none⟩ = false := (hb1.set 5 _).frozen 6
  have g5 : w1.cell? ⟨rb, 5, none⟩ = some (.bool r'.over) := hb1.cell 5
  have g6 : (w1.setCell ⟨rb, 5, none⟩ (.bool dd)).cell? ⟨rb, 6, none⟩ = some (.int .i64 r'.e) := (hb1.set 5 _).cell 6
  have k5 : Keeps (fun k => k = rb) w1 ((w1.setCell ⟨rb, 5, none⟩ (.bool dd)).setCell ⟨rb, 6, none⟩ (.int .i64 er)) := ((Keeps.refl (fun k => k = rb) w1).setCell (p := ⟨rb, 5, none⟩) (.inl rfl) _).setCell (p := ⟨rb, 6, none⟩) (.inl rfl) _
  have HB5 := Lib.hid hb5
  have HK5 := Lib.hid k5
  have HR1 := Lib.hid hR1
  clear hb5 k5 hb1 hR1
  go_wp2_with (fail)
  obtain ⟨W5, hW5⟩ : ∃ W5, W5 = ((w1.setCell ⟨rb, 5, none⟩ (.bool dd)).setCell ⟨rb, 6, none⟩ (.int .i64 er)) := ⟨_, rfl⟩
  rw [← hW5] at HB5 HK5 ⊢
  have HC5 := Lib.hid (show W5.cell? ⟨rb, 5, none⟩ = some (.bool dd) ∧ W5.cell? ⟨rb, 6, none⟩ = some (.int .i64 er) from ⟨HB5.out.cell 5, HB5.out.cell 6⟩)
  clear hW5 f5 f6 g5 g6
  --GEN r_rn9
  refine wp_region_vals [Is (.pointer (some ⟨rb, 0, none⟩)), Is (.pointer (some ⟨rb, 0, none⟩)), Is (.pointer (some ⟨rb, 5, none⟩)), Is (.bool dd), Is (.pointer (some ⟨rb, 0, none⟩)), Is (.pointer (some ⟨rb, 0, none⟩)), Is (.pointer (some ⟨rb, 6, none⟩)), Is (.int .i64 er), Is (.bool dd), Is (.int .i64 er)]
    (fun _ _ _ => True) (fun _ W => W = W5.drew) (by kernel_rfl) (by kernel_rfl) (by kernel_rfl) ?hst ?h0 ⟨?o0, ?o1, ?o2, ?o3, ?o4, ?o5, ?o6, ?o7, ?o8, ?o9, trivial⟩ ?he
  case hst =>
    exact ⟨(fun _ _ _ _ _ _ h _ => h), (fun _ _ _ _ _ _ h _ => h), (fun _ _ _ _ _ _ h _ => h), (fun _ _ _ _ _ _ h _ => h), (fun _ _ _ _ _ _ h _ => h), (fun _ _ _ _ _ _ h _ => h), (fun _ _ _ _ _ _ h _ => h), (fun _ _ _ _ _ _ h _ => h), (fun _ _ _ _ _ _ h _ => h), (fun _ _ _ _ _ _ h _ => h), trivial⟩
  case h0 =>
    exact rfl
  case o0 =>
    intro L vs A W H hf hd K hK
    have e0 : A.tmps[0]?.getD undef = .pointer (some ⟨rb, 0, none⟩) := H.old 0 (by kernel_rfl)
    go_simp
    exact hK _ _ (trivial) rfl (H.glob)
  case o1 =>
    intro L vs A W H hf hd K hK
    have e65 := H.is 0 65 rfl rfl rfl (deps_of' hd 0 (by kernel_rfl)) (by kernel_rfl)
    go_simp
    exact hK _ _ (trivial) rfl (H.glob)
  case o2 =>
    intro L vs A W H hf hd K hK
    have e66 := H.is 1 66 rfl rfl rfl (deps_of' hd 1 (by kernel_rfl)) (by kernel_rfl)
    go_simp
    exact hK _ _ (trivial) rfl (H.glob)
  case o3 =>
    intro L vs A W H hf hd K hK
    have e67 := H.is 2 67 rfl rfl rfl (deps_of' hd 2 (by kernel_rfl)) (by kernel_rfl)
    have d : W.cell? ⟨rb, 5, none⟩ = some (.bool dd) := (by rw [H.glob]; exact HC5.out.1)
    go_simp
    exact hK _ _ (trivial) rfl (H.glob)
  case o4 =>
    intro L vs A W H hf hd K hK
    have e0 : A.tmps[0]?.getD undef = .pointer (some ⟨rb, 0, none⟩) := H.old 0 (by kernel_rfl)
    go_simp
    exact hK _ _ (trivial) rfl (H.glob)
  case o5 =>
    intro L vs A W H hf hd K hK
    have e69 := H.is 4 69 rfl rfl rfl (deps_of' hd 4 (by kernel_rfl)) (by kernel_rfl)
    go_simp
    exact hK _ _ (trivial) rfl (H.glob)
  case o6 =>
    intro L vs A W H hf hd K hK
    have e70 := H.is 5 70 rfl rfl rfl (deps_of' hd 5 (by kernel_rfl)) (by kernel_rfl)
    go_simp
    exact hK _ _ (trivial) rfl (H.glob)
  case o7 =>
    intro L vs A W H hf hd K hK
    have e71 := H.is 6 71 rfl rfl rfl (deps_of' hd 6 (by kernel_rfl)) (by kernel_rfl)
    have d : W.cell? ⟨rb, 6, none⟩ = some (.int .i64 er) := (by rw [H.glob]; exact HC5.out.2)
    go_simp
    exact hK _ _ (trivial) rfl (H.glob)
  case o8 =>
    intro L vs A W H hf hd K hK
    have e68 := H.is 3 68 rfl rfl rfl (deps_of' hd 3 (by kernel_rfl)) (by kernel_rfl)
    go_simp
    exact hK _ _ (trivial) rfl (H.glob)
  case o9 =>
    intro L vs A W H hf hd K hK
    have e72 := H.is 7 72 rfl rfl rfl (deps_of' hd 7 (by kernel_rfl)) (by kernel_rfl)
    go_simp
    exact hK _ _ (trivial) rfl (H.glob)
  case he =>
    intro vs W hlen hv
    match vs, hlen, hv with
    | [x0_, x1_, x2_, x3_, x4_, x5_, x6_, x7_, x8_, x9_], _, hv =>
    obtain rfl : (.pointer (some ⟨rb, 0, none⟩)) = x0_ := by obtain ⟨z, h1, h2⟩ := hv 0 _ rfl; cases h1; exact h2.symm
    obtain rfl : (.pointer (some ⟨rb, 0, none⟩)) = x1_ := by obtain ⟨z, h1, h2⟩ := hv 1 _ rfl; cases h1; exact h2.symm
    obtain rfl : (.pointer (some ⟨rb, 5, none⟩)) = x2_ := by obtain ⟨z, h1, h2⟩ := hv 2 _ rfl; cases h1; exact h2.symm
    obtain rfl : (.bool dd) = x3_ := by obtain ⟨z, h1, h2⟩ := hv 3 _ rfl; cases h1; exact h2.symm
    obtain rfl : (.pointer (some ⟨rb, 0, none⟩)) = x4_ := by obtain ⟨z, h1, h2⟩ := hv 4 _ rfl; cases h1; exact h2.symm
    obtain rfl : (.pointer (some ⟨rb, 0, none⟩)) = x5_ := by obtain ⟨z, h1, h2⟩ := hv 5 _ rfl; cases h1; exact h2.symm
    obtain rfl : (.pointer (some ⟨rb, 6, none⟩)) = x6_ := by obtain ⟨z, h1, h2⟩ := hv 6 _ rfl; cases h1; exact h2.symm
    obtain rfl : (.int .i64 er) = x7_ := by obtain ⟨z, h1, h2⟩ := hv 7 _ rfl; cases h1; exact h2.symm
    obtain rfl : (.bool dd) = x8_ := by obtain ⟨z, h1, h2⟩ := hv 8 _ rfl; cases h1; exact h2.symm
    obtain rfl : (.int .i64 er) = x9_ := by obtain ⟨z, h1, h2⟩ := hv 9 _ rfl; cases h1; exact h2.symm
    intro L hall hG
    clear hv hlen
    have HW := hG
    clear hG hall
    subst HW
    simp only [fill, if_true]
  --END
    simp [Act.put]
    go_wp2_with (fail)
    go_ret2
    exact ⟨rfl, w1, HR1.out, HK5.out.drew, HB5.out.drew⟩
end Go.Proofs.Ytgmbnoimlffgcaa
namespace Go.Proofs.Ytgmbnoimlffgcaa
open Go.RowKit
set_option linter.unusedVariables false

def MemN (w : World) (mb : Nat) (S : Nat → Prop) (vs : List Int) (N : Int) : Prop := ∃ is mk F lo st fl fe, MemP w mb S vs is mk F lo st fl fe ∧ st ≤ N ∧ fl ≤ N ∧ fe ≤ N
/-- a run that is not over, at a store -/
structure RunW (w : World) (rb mb g cap : Nat) (S : Nat → Prop) (l : List (Int × Int)) (k : Nat) : Prop where
  h : ∃ r, RnS w rb mb g cap S r l 1 ∧ r.at_ = (k : Int) ∧ r.over = false ∧ ((r.next = rphV rb 66 ∧ k < l.length) ∨ (r.next = rphV rb 85 ∧ 0 < k ∧ k ≤ l.length) ∨ (r.next = rphV rb 99 ∧ 0 < k ∧ k ≤ l.length))
/-- what a step of a run leaves -/
def RunP (w : World) (rb mb g cap : Nat) (S : Nat → Prop) (vs : List Int) (N : Int) (l : List (Int × Int)) (k : Nat) (e : Ending) (w' : World) : Prop :=
  ∃ dn k' vs' S', e = .returned (.tuple #[.bool dn, .int .i64 0]) ∧ ((k' = k ∧ vs' = vs) ∨ (k < l.length ∧ k' = k + 1 ∧ vs' = vs.set (eK l k / 8).toNat (eP l k))) ∧
    MemN w' mb S' vs' (N + 1) ∧ (∀ i, S' i → S i ∨ w.heap.size ≤ i) ∧ Keeps (fun i => i = rb ∨ S i) w w' ∧ (dn = true → k' = l.length) ∧ (dn = false → RunW w' rb mb g cap S' l k')
theorem EntsAt.kep {w w' : World} {S : Nat → Prop} {g o : Nat} {l : List (Int × Int)} (h : EntsAt w g o l) (hk : Keeps S w w') (hg : g < w.heap.size) (hs : ¬ S g) : EntsAt w' g o l := fun j hj => by
  obtain ⟨a, b⟩ := h j hj
  exact ⟨by rw [hk.cell hg hs]; exact a, by rw [hk.cell hg hs]; exact b⟩
section
variable {w : World} {rb mb g cap : Nat} {S : Nat → Prop} {vs : List Int} {N : Int} {l : List (Int × Int)} {k : Nat}
theorem rgo_v (h : RunW w rb mb g cap S l k) (hm : MemN w mb S vs N) (hN : N ≤ 1000000) (hl : l.length ≤ 1000000) (ha : ∀ i, i < l.length → 0 ≤ eK l i ∧ eK l i ≤ 18446744073709551615 ∧ atE vs.length (eK l i) = 0) :
    Calls Try.prog 48 #[.pointer (some ⟨rb, 0, none⟩)] w (RunP w rb mb g cap S vs N l k) := by
  obtain ⟨r, hr, hat, hov, hn | hn | hn⟩ := h.h
  all_goals obtain ⟨is, mk, F, lo, st, fl, fe, hm, h1, h2, h3⟩ := hm
  · have hc := rstore_v w rb mb g cap S r l 1 k vs is mk F lo st fl fe hr hm hat hn.2 hl (fun i hi => ⟨(ha i hi).1, (ha i hi).2.1⟩) (ha k hn.2).2.2 (by omega)
    refine (rstep_store w rb mb S r { r with at_ := ((k : Int) + 1), next := rNext rb l k r.next } 1 vs is mk F lo st fl fe false 0 (fun w' => ∃ S', MemP w' mb S' (vs.set (eK l k / 8).toNat (eP l k)) is mk (updF F (lineOf (eK l k)) (F (lineOf (eK l k)) ++ [(eK l k, eP l k)])) lo (st + 1) fl fe ∧ (∀ i, S' i → S i ∨ w.heap.size ≤ i) ∧ Keeps (fun i => i = rb ∨ S i) w w') hr.b hr.mv hr.cl hm (by decide) hn.1 hov (hc.mono (by
      rintro e w' ⟨rfl, S', h1, h2, h3, h4⟩
      exact ⟨rfl, h4, S', h1, h2, h3⟩))).mono ?_
    rintro e w' ⟨rfl, W2, ⟨S', hm', hs', hk'⟩, hk2, hb2⟩
    have hrl := hr.b.lt
    have hgl := hr.glt
    have hS'rb : ¬ S' rb := fun h => (hs' rb h).elim hr.s.1 (fun h => by omega)
    have hS'g : ¬ S' g := fun h => (hs' g h).elim hr.s.2.1 (fun h => by omega)
    have hkk : Keeps (fun i => i = rb ∨ S i) w w' := hk'.trans (hk2.mono (fun _ _ h => .inl h))
    refine ⟨false, k + 1, _, S', rfl, .inr ⟨hn.2, rfl, rfl⟩, ⟨is, mk, _, lo, st + 1, fl, fe, hm'.kept hk2 (fun i hi e => hS'rb (e ▸ hi)), by omega, by omega, by omega⟩, hs', hkk, fun h => (by cases h), fun _ => ⟨_, ⟨hb2, hr.mv, hr.cl, hr.sl, Nat.lt_of_lt_of_le hgl hkk.size, ?_, hS'rb, hS'g, hr.s.2.2⟩, by show (k : Int) + 1 = _; omega, rfl, ?_⟩⟩
    · exact hr.e.kep hkk hgl (fun h => h.elim (fun e => hr.s.2.2 e.symm) hr.s.2.1)
    · show (rNext rb l k r.next = _ ∧ _) ∨ (rNext rb l k r.next = _ ∧ _) ∨ _
      unfold rNext
      split
      · exact .inr (.inl ⟨rfl, by omega, by omega⟩)
      · rename_i hh
        exact .inl ⟨hn.1, by omega⟩
  · obtain ⟨kp, rfl⟩ : ∃ kp, k = kp + 1 := ⟨k - 1, by omega⟩
    have hc := rflush_v w rb mb g cap S r l 1 kp vs is mk F lo st fl fe hr hm hat (by omega) hl (by decide) (ha kp (by omega)).1 (ha kp (by omega)).2.1 (ha kp (by omega)).2.2 (by omega) (by omega)
    refine (rstep_flush w rb mb S r { r with next := rphV rb 99 } 1 vs is mk F lo st fl fe false 0
      (fun w' => ∃ W2, Keeps (fun i => i = rb) w W2 ∧ FlP W2 mb S vs is mk F lo st fl fe 1 (eK l kp) w') hr.b hr.mv hr.cl hm (by decide) hn.1 hov (hc.mono (by
      rintro e w' ⟨rfl, W2, hk2, hfp, hb'⟩
      exact ⟨rfl, hb', W2, hk2, hfp⟩))).mono ?_
    rintro e w' ⟨rfl, W2, ⟨W1, hk1, S', hm', hsub, hkS⟩, hk2, hb2⟩
    have hrl := hr.b.lt
    have hgl := hr.glt
    have hs' : ∀ i, S' i → S i ∨ w.heap.size ≤ i := fun i hi => (hsub i hi).imp id (Nat.le_trans hk1.size)
    have hS'rb : ¬ S' rb := fun h => (hs' rb h).elim hr.s.1 (fun h => by omega)
    have hS'g : ¬ S' g := fun h => (hs' g h).elim hr.s.2.1 (fun h => by omega)
    have hkk : Keeps (fun i => i = rb ∨ S i) w w' := ((hk1.mono (fun i _ e => .inl e)).trans (hkS.mono (fun i _ e => .inr e))).trans (hk2.mono (fun i _ e => .inl e))
    exact ⟨false, kp + 1, vs, S', rfl, .inl ⟨rfl, rfl⟩, ⟨is, _, F, lo, st, fl + 1, fe, hm'.kept hk2 (fun i hi e => hS'rb (e ▸ hi)), by omega, by omega, by omega⟩, hs', hkk, fun h => (by cases h), fun _ => ⟨_, ⟨hb2, hr.mv, hr.cl, hr.sl, Nat.lt_of_lt_of_le hgl hkk.size, hr.e.kep hkk hgl (fun h => h.elim (fun e => hr.s.2.2 e.symm) hr.s.2.1), hS'rb, hS'g, hr.s.2.2⟩, hat, rfl, .inr (.inr ⟨rfl, by omega, by omega⟩)⟩⟩
  · have hc := rfence_v w rb mb g cap S r l 1 k vs is mk F lo st fl fe hr hm hat (by decide) (by omega) (by omega)
    refine (rstep_fence w rb mb S r { r with next := rphV rb 66 } 1 vs is mk F lo st fl fe (decide (k = l.length)) 0
      (fun w' => ∃ W2, Keeps (fun i => i = rb) w W2 ∧ FeP W2 mb S vs is mk F lo st fl fe 1 w') hr.b hr.mv hr.cl hm (by decide) hn.1 hov (hc.mono (by
      rintro e w' ⟨rfl, W2, hk2, hfp, hb'⟩
      exact ⟨rfl, hb', W2, hk2, hfp⟩))).mono ?_
    rintro e w' ⟨rfl, W2, ⟨W1, hk1, mk', is', q1, q2, q3, q4, S', hm', hsub, hkS⟩, hk2, hb2⟩
    have hrl := hr.b.lt
    have hgl := hr.glt
    have hs' : ∀ i, S' i → S i ∨ w.heap.size ≤ i := fun i hi => (hsub i hi).imp id (Nat.le_trans hk1.size)
    have hS'rb : ¬ S' rb := fun h => (hs' rb h).elim hr.s.1 (fun h => by omega)
    have hS'g : ¬ S' g := fun h => (hs' g h).elim hr.s.2.1 (fun h => by omega)
    have hkk : Keeps (fun i => i = rb ∨ S i) w w' := ((hk1.mono (fun i _ e => .inl e)).trans (hkS.mono (fun i _ e => .inr e))).trans (hk2.mono (fun i _ e => .inl e))
    exact ⟨_, k, vs, S', rfl, .inl ⟨rfl, rfl⟩, ⟨is', mk', _, lo, st, fl, fe + 1, hm'.kept hk2 (fun i hi e => hS'rb (e ▸ hi)), by omega, by omega, by omega⟩, hs', hkk, fun h => of_decide_eq_true h, fun h => ⟨_, ⟨hb2, hr.mv, hr.cl, hr.sl, Nat.lt_of_lt_of_le hgl hkk.size, hr.e.kep hkk hgl (fun h => h.elim (fun e => hr.s.2.2 e.symm) hr.s.2.1), hS'rb, hS'g, hr.s.2.2⟩, hat, h, .inl ⟨rfl, by have := of_decide_eq_false h; omega⟩⟩⟩
end
end Go.Proofs.Ytgmbnoimlffgcaa
