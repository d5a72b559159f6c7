/-
  leveelaw28.known: the walk.
-/
import Derived.Test.YtdmcakoaakinnaaQt
namespace Go.Proofs.Ytdmcakoaakinnaa
open Go.RowKit
attribute [local go_sem] Oper.semAt_some
set_option linter.unusedVariables false
set_option linter.unusedSimpArgs false

theorem KeyB.small {key : Int} {first : List Pr} {l : List Er} (hc : ∀ e ∈ l, e.cs.length ≤ 30) (hl : l.length ≤ 10) (hf : ∀ p ∈ first, p.val.size ≤ maxLen) (hv : ∀ e ∈ l, ∀ d ∈ e.cs, DnV d) : KeyB key first l (stsV (valsK key first l) 0) := by
  refine KeyB.of (fun e he => Nat.le_trans (ofP_len _ _) (hc e he)) ?_ hf hv
  have gen : ∀ r : List Er, (∀ e ∈ r, e.cs.length ≤ 30) → (r.flatMap fun e => (ofP key e.cs).map (·.val)).length ≤ r.length * 30 := by
    intro r
    induction r with
    | nil => intro _; simp
    | cons x r ih =>
      intro h
      rw [List.flatMap_cons, List.length_append, List.length_map, List.length_cons]
      have h1 := ofP_len key x.cs
      have h2 := h x List.mem_cons_self
      have h3 := ih (fun e he => h e (List.mem_cons_of_mem _ he))
      omega
  have := gen l hc
  show (_ :: _ :: _).length ≤ _
  rw [List.length_cons, List.length_cons]
  omega
def sa : ByteArray := ⟨#[97]⟩
def lA : List Dn := [putD sa 0 9, getD5 sa 3 5 0, getD5 ⟨#[]⟩ 1 2 5]
def lB : List Dn := [putD sa 0 4, getD5 ⟨#[]⟩ 5 6 5]
def lC : List Dn := [putD sa 0 (-1)]
def eA (b : Nat) : Er := ⟨some ⟨b, 0, none⟩, 3, lA, none, 0, [], false⟩
def eB (b : Nat) : Er := ⟨some ⟨b, 0, none⟩, 2, lB, none, 0, [], false⟩
def eC (b : Nat) : Er := ⟨some ⟨b, 0, none⟩, 1, lC, none, 0, [], true⟩
def eD (b c : Nat) : Er := ⟨some ⟨b, 0, none⟩, 1, lC, some ⟨c, 0, none⟩, 1, [⟨5, sa⟩], true⟩
theorem hist_of {l : List Er} (h1 : l.length ≤ 10) (h2 : ∀ e ∈ l, e.cs.length ≤ 30 ∧ e.af.length ≤ 30 ∧ (∀ d ∈ e.cs, d.ps = [] ∧ U64P d.key ∧ d.val.size ≤ 1000) ∧ ∀ p ∈ e.af, U64P p.key) : HistB [] l := by
  have hsum : (l.map nmE).sum ≤ l.length * 60 := by
    have gen : ∀ r : List Er, (∀ e ∈ r, e ∈ l) → (r.map nmE).sum ≤ r.length * 60 := by
      intro r
      induction r with
      | nil => intro _; simp
      | cons x r ih =>
        intro h
        have h3 := ih (fun e he => h e (List.mem_cons_of_mem _ he))
        obtain ⟨k1, k2, k3, _⟩ := h2 x (h x List.mem_cons_self)
        have k4 : (x.cs.map (fun d => d.ps.length + 1)).sum ≤ x.cs.length := by
          have gen2 : ∀ cs : List Dn, (∀ d ∈ cs, d.ps = []) → (cs.map (fun d => d.ps.length + 1)).sum ≤ cs.length := by
            intro cs
            induction cs with
            | nil => intro _; simp
            | cons y q ih2 =>
              intro hq
              have := ih2 (fun d hd => hq d (List.mem_cons_of_mem _ hd))
              rw [List.map_cons, List.sum_cons, hq y List.mem_cons_self, List.length_cons]
              simp only [List.length_nil]
              omega
          exact gen2 x.cs (fun d hd => (k3 d hd).1)
        rw [List.map_cons, List.sum_cons, List.length_cons]
        unfold nmE at h3 ⊢
        omega
    exact gen l (fun e he => he)
  refine ⟨by simp, by omega, by simp; omega, fun p hp => absurd hp List.not_mem_nil, fun e he => ⟨(h2 e he).2.2.2, fun d hd => ⟨((h2 e he).2.2.1 d hd).2.1, fun p hp => ?_⟩⟩, fun e he => ⟨?_, ?_, fun d hd => ?_⟩, fun e he => ?_, fun e he d hd => ?_⟩
  · rw [((h2 e he).2.2.1 d hd).1] at hp; cases hp
  · have := (h2 e he).1; omega
  · have := (h2 e he).2.1; omega
  · unfold DnL; rw [((h2 e he).2.2.1 d hd).1]; simp
  · have := (h2 e he).1; omega
  · have := ((h2 e he).2.2.1 d hd).2.2
    unfold DnV maxLen
    omega
theorem yes_of {l : List Er} (h1 : l.length ≤ 10) (h2 : ∀ e ∈ l, e.cs.length ≤ 30 ∧ e.af.length ≤ 30 ∧ (∀ d ∈ e.cs, d.ps = [] ∧ U64P d.key ∧ d.val.size ≤ 1000) ∧ ∀ p ∈ e.af, U64P p.key)
    (hm : mayP [] l = true) (hn : (namesL [] l).all (fun a => decide (a = 5)) = true) (he : keyE 5 [] l = 0) (ht : (nowL 5 l [startS (valueP [] 5)]).isEmpty = false) (hq : (l.any fun e => e.cs.any tornP) = false) : YesH l := by
  have hH := hist_of h1 h2
  refine ⟨hH, fun a _ => ⟨_, KeyB.small (fun e he => (h2 e he).1) h1 (fun p hp => absurd hp List.not_mem_nil) hH.v⟩, fun b k er hp => exp_yes hm (fun a ha => ?_) hq hp⟩
  rw [named_iff] at ha
  have := of_decide_eq_true (List.all_eq_true.1 hn a ha)
  subst this
  exact ⟨he, (keyT_iff _ _ _).2 (fun e => by rw [e] at ht; simp at ht)⟩
theorem u5 : U64P 5 := ⟨by decide, by decide⟩
theorem yesA (b : Nat) : YesH [eA b] := by
  refine yes_of (by simp) (fun e he => ?_) (by kernel_rfl) (by kernel_rfl) (by kernel_rfl) (by kernel_rfl) (by kernel_rfl)
  obtain rfl := List.mem_singleton.1 he
  refine ⟨by simp [eA, lA], by simp [eA], fun d hd => ?_, fun p hp => by cases hp⟩
  simp only [eA, lA, List.mem_cons, List.not_mem_nil, or_false] at hd
  rcases hd with rfl | rfl | rfl <;> exact ⟨rfl, u5, by decide⟩
theorem yesC (b : Nat) : YesH [eC b] := by
  refine yes_of (by simp) (fun e he => ?_) (by kernel_rfl) (by kernel_rfl) (by kernel_rfl) (by kernel_rfl) (by kernel_rfl)
  obtain rfl := List.mem_singleton.1 he
  refine ⟨by simp [eC, lC], by simp [eC], fun d hd => ?_, fun p hp => by cases hp⟩
  simp only [eC, lC, List.mem_cons, List.not_mem_nil, or_false] at hd
  rcases hd with rfl
  exact ⟨rfl, u5, by decide⟩
theorem yesD (b c : Nat) : YesH [eD b c] := by
  refine yes_of (by simp) (fun e he => ?_) (by kernel_rfl) (by kernel_rfl) (by kernel_rfl) (by kernel_rfl) (by kernel_rfl)
  obtain rfl := List.mem_singleton.1 he
  refine ⟨by simp [eD, lC], by simp [eD], fun d hd => ?_, fun p hp => ?_⟩
  · simp only [eD, lC, List.mem_cons, List.not_mem_nil, or_false] at hd
    rcases hd with rfl
    exact ⟨rfl, u5, by decide⟩
  · simp only [eD, List.mem_cons, List.not_mem_nil, or_false] at hp
    rcases hp with rfl
    exact u5
theorem histB (b : Nat) : HistB [] [eB b] := by
  refine hist_of (by simp) (fun e he => ?_)
  obtain rfl := List.mem_singleton.1 he
  refine ⟨by simp [eB, lB], by simp [eB], fun d hd => ?_, fun p hp => by cases hp⟩
  simp only [eB, lB, List.mem_cons, List.not_mem_nil, or_false] at hd
  rcases hd with rfl | rfl <;> exact ⟨rfl, u5, by decide⟩
theorem noB (b : Nat) {x : Bool} {k er : Int} (h : ExP [] [eB b] x k er) : x = false ∧ k = 5 ∧ er = 0 := by
  have hn : (namesL [] [eB b]).all (fun a => decide (a = 5)) = true := by kernel_rfl
  have h5 : ∀ a, named [] [eB b] a → a = 5 := fun a ha => of_decide_eq_true (List.all_eq_true.1 hn a ((named_iff _ _ _).1 ha))
  refine exp_no (a := 5) (by kernel_rfl) ((named_iff _ _ _).2 (by show (5 : Int) ∈ [5, 5]; decide)) (fun a ha => by rw [h5 a ha]; kernel_rfl) (fun hk => ?_) (fun a ha hne => absurd (h5 a ha) hne) h
  have := (keyT_iff _ _ _).1 hk
  exact this (List.isEmpty_iff.1 (by kernel_rfl))
end Go.Proofs.Ytdmcakoaakinnaa
namespace Go.Proofs.Ytdmcakoaakinnaa
open Go.RowKit
attribute [local go_sem] Oper.semAt_some
set_option linter.unusedVariables false
set_option linter.unusedSimpArgs false

/-- an era in a block, with what it leads to -/
structure EraAt (w : World) (b : Nat) (e : Er) : Prop where
  k : Blk w b (erCells e) 46
  d : DnsAt w e.ca e.cs
  p : PrsAt w e.aa e.af
theorem EraAt.below {w w' : World} {b : Nat} {e : Er} (h : EraAt w b e) (hB : Below w.heap.size w w') : EraAt w' b e := ⟨h.k.kept (Keeps.of_below' hB) (fun h => h), h.d.below hB, h.p.below hB⟩
theorem alloc_below (w : World) (o : Obj) : Below w.heap.size w (w.alloc o) := (Below.refl _ w).alloc (Nat.le_refl _) o
/-- a history of one era -/
theorem one_ers {w : World} {b : Nat} {e : Er} (h : EraAt w b e) : ErsAt (w.alloc (.cells (ecellsE [e]).toArray 46)) (some ⟨w.heap.size, 0, none⟩) [e] :=
  blk_ers (Blk.new w _ _) (fun x hx => by obtain rfl := List.mem_singleton.1 hx; exact ⟨h.d.below (alloc_below w _), h.p.below (alloc_below w _)⟩)
theorem era_new {w : World} {l : List Dn} {e : Er} (hl : ∀ d ∈ l, d.ps = []) (h1 : e.ca = some ⟨w.heap.size, 0, none⟩) (h2 : e.cs = l) (h3 : e.af = []) :
    EraAt ((w.alloc (.cells (dcells l).toArray 53)).alloc (.cells (erCells e) 46)) (w.heap.size + 1) e := by
  have hd : DnsAt (w.alloc (.cells (dcells l).toArray 53)) (some ⟨w.heap.size, 0, none⟩) l := blk_dns (Blk.new w _ _) (fun d hd => by rw [hl d hd]; exact PrsAt.nil _ _)
  refine ⟨Blk.newAt (by simp) _ _, ?_, ?_⟩
  · rw [h1, h2]; exact hd.below (alloc_below _ _)
  · rw [h3]; exact PrsAt.nil _ _
theorem era_new2 {w : World} {l : List Dn} {ps : List Pr} {e : Er} (hl : ∀ d ∈ l, d.ps = []) (h1 : e.ca = some ⟨w.heap.size, 0, none⟩) (h2 : e.cs = l) (h3 : e.af = ps) (h4 : e.aa = some ⟨w.heap.size + 1, 0, none⟩) :
    EraAt (((w.alloc (.cells (dcells l).toArray 53)).alloc (.cells (pcells ps).toArray 59)).alloc (.cells (erCells e) 46)) (w.heap.size + 1 + 1) e := by
  have hd : DnsAt (w.alloc (.cells (dcells l).toArray 53)) (some ⟨w.heap.size, 0, none⟩) l := blk_dns (Blk.new w _ _) (fun d hd => by rw [hl d hd]; exact PrsAt.nil _ _)
  have hp : PrsAt ((w.alloc (.cells (dcells l).toArray 53)).alloc (.cells (pcells ps).toArray 59)) (some ⟨w.heap.size + 1, 0, none⟩) ps := blk_prs (Blk.newAt (by simp) _ _)
  refine ⟨Blk.newAt (by simp) _ _, ?_, ?_⟩
  · rw [h1, h2]; exact (hd.below (alloc_below _ _)).below (alloc_below _ _)
  · rw [h3, h4]; exact hp.below (alloc_below _ _)
theorem wpList_bs1_erW {ops : Array Oper} {rest : List Oper} {o : Oper} {a : Act} {w : World} {Q : Exit → Act → World → Prop} (hw : Region.wanted o (yielded ops a.tmps) = true) (x : Operand) (ho : o.op = .buildSlice 23 1 #[(0, x)]) (d : Er) (hx : a.eval x = .agg (erCells d))
    (h : wpList Try.prog ops Q rest (a.put o.dst (.slice (some ⟨w.heap.size, 0, none⟩) 1 1)) (w.alloc (.cells (ecellsE [d]).toArray 46))) : wpList Try.prog ops Q (o :: rest) a w := by
  refine wpList_gyes hw fun K hK => ?_
  unfold Oper.wp execOp
  simp only [ho, List.map_toArray, List.map_cons, List.map_nil, hx, Sem.run_bind, run_bs1_er, Result.andThen_ok, Sem.run_pure]
  exact hK _ _ h
theorem two_below {w v : World} (h : Below w.heap.size w v) (o p : Obj) : Below w.heap.size w ((v.alloc o).alloc p) := (h.alloc h.size o).alloc (by have := h.size; simp; omega) p
set_option maxRecDepth 100000 in
set_option maxHeartbeats 8000000 in
theorem known_v (w : World) : Calls Try.prog 8 #[] w fun e w' => e = .returned (.bool true) ∧ Below w.heap.size w w' := by
  have HB0 := Lib.hid (Below.refl w.heap.size w)
  go_enter Try.func8, Try.ntmps8
  go_wp2_with (fail)
  refine (put_v sa 0 9 _).mono ?_
  rintro e w1 ⟨rfl, hB⟩
  have HB1 := Lib.hid (HB0.out.trans (hB.mono HB0.out.size))
  clear hB
  go_wp2_with (fail)
  refine (getA_v 3 5 _).mono ?_
  rintro e w2 ⟨rfl, hB⟩
  have HB2 := Lib.hid (HB1.out.trans (hB.mono HB1.out.size))
  clear hB
  go_wp2_with (fail)
  refine (getE_v 1 2 _).mono ?_
  rintro e w3 ⟨rfl, hB⟩
  have HB3 := Lib.hid (HB2.out.trans (hB.mono HB2.out.size))
  clear hB
  go_simp
  go_step
  refine wpList_bs3_dn rfl (.tmp 8) (.tmp 9) (.tmp 10) rfl (putD sa 0 9) (getD5 sa 3 5 0) (getD5 ⟨#[]⟩ 1 2 5) (ev_tmp (by simp)) (ev_tmp (by simp; rfl)) (ev_tmp (by simp)) ?_
  refine wpList_plain rfl (fun K hK => ?_)
  go_simp
  refine hK _ _ ?_
  clear hK K
  refine wpList_anew_er rfl rfl 1 (.tmp 12) rfl rfl rfl (eA w3.heap.size) (ev_tmp (by simp [Act.put, eA, erCells, lA])) (by simp) ?_
  go_upto_region 2 with (fail)
  have hA := era_new (w := w3) (l := lA) (e := eA w3.heap.size) (fun d hd => by simp only [lA, List.mem_cons, List.not_mem_nil, or_false] at hd; rcases hd with rfl | rfl | rfl <;> rfl) rfl rfl rfl
  have hB4 := two_below HB3.out (.cells (dcells lA).toArray 53) (.cells (erCells (eA w3.heap.size)) 46)
  have hs4 : (w3.alloc (.cells (dcells lA).toArray 53)).heap.size = w3.heap.size + 1 := by simp
  rw [show dcells [putD sa 0 9, getD5 sa 3 5 0, getD5 ⟨#[]⟩ 1 2 5] = dcells lA from rfl, hs4]
  obtain ⟨ea, hea⟩ : ∃ ea, eA w3.heap.size = ea := ⟨_, rfl⟩
  have HYa := Lib.hid (show YesH [ea] from by rw [← hea]; exact yesA _)
  rw [hea] at hA hB4 ⊢
  generalize (w3.alloc (.cells (dcells lA).toArray 53)).alloc (.cells (erCells ea) 46) = w4 at hA hB4 ⊢
  generalize w3.heap.size + 1 = na at hA ⊢
  have HA := Lib.hid hA
  have HB4 := Lib.hid hB4
  clear hA hB4 hs4 hea
  go_wp2_with (fail)
  refine (put_v sa 0 4 _).mono ?_
  rintro e w5 ⟨rfl, hB⟩
  have HA5 := Lib.hid (HA.out.below hB)
  have HB5 := Lib.hid (HB4.out.trans (hB.mono HB4.out.size))
  clear hB
  go_wp2_with (fail)
  refine (getE_v 5 6 _).mono ?_
  rintro e w6 ⟨rfl, hB⟩
  have HA6 := Lib.hid (HA5.out.below hB)
  have HB6 := Lib.hid (HB5.out.trans (hB.mono HB5.out.size))
  clear hB
  go_simp
  go_step
  refine wpList_bs2_dn rfl (.tmp 13) (.tmp 14) rfl (putD sa 0 4) (getD5 ⟨#[]⟩ 5 6 5) (ev_tmp (by simp)) (ev_tmp (by simp)) ?_
  refine wpList_plain rfl (fun K hK => ?_)
  go_simp
  refine hK _ _ ?_
  clear hK K
  refine wpList_anew_er rfl rfl 2 (.tmp 16) rfl rfl rfl (eB w6.heap.size) (ev_tmp (by simp [Act.put, eB, erCells, lB])) (by simp) ?_
  go_upto_region 3 with (fail)
  have hBb := era_new (w := w6) (l := lB) (e := eB w6.heap.size) (fun d hd => by simp only [lB, List.mem_cons, List.not_mem_nil, or_false] at hd; rcases hd with rfl | rfl <;> rfl) rfl rfl rfl
  have hB7 := two_below HB6.out (.cells (dcells lB).toArray 53) (.cells (erCells (eB w6.heap.size)) 46)
  have hA7 := (HA6.out.below (alloc_below w6 (.cells (dcells lB).toArray 53))).below (alloc_below _ (.cells (erCells (eB w6.heap.size)) 46))
  have hs7 : (w6.alloc (.cells (dcells lB).toArray 53)).heap.size = w6.heap.size + 1 := by simp
  rw [show dcells [putD sa 0 4, getD5 ⟨#[]⟩ 5 6 5] = dcells lB from rfl, hs7]
  obtain ⟨eb, heb⟩ : ∃ eb, eB w6.heap.size = eb := ⟨_, rfl⟩
  have HHb := Lib.hid (show HistB [] [eb] ∧ (∀ a, ∃ U, KeyB a [] [eb] U) ∧ (∀ {x : Bool} {k er : Int}, ExP [] [eb] x k er → x = false ∧ k = 5 ∧ er = 0) from by rw [← heb]; exact ⟨histB _, fun a => ⟨_, KeyB.small (fun e he => by obtain rfl := List.mem_singleton.1 he; simp [eB, lB]) (by simp) (fun p hp => absurd hp List.not_mem_nil) (histB _).v⟩, fun h => noB _ h⟩)
  rw [heb] at hBb hB7 hA7 ⊢
  generalize (w6.alloc (.cells (dcells lB).toArray 53)).alloc (.cells (erCells eb) 46) = w7 at hBb hB7 hA7 ⊢
  generalize w6.heap.size + 1 = nb at hBb ⊢
  have HA7 := Lib.hid hA7
  have HBb := Lib.hid hBb
  have HB7 := Lib.hid hB7
  clear hA7 hBb hB7 hs7 heb
  go_wp2_with (fail)
  refine (put_v sa 0 (-1) _).mono ?_
  rintro e w8 ⟨rfl, hB⟩
  have HA8 := Lib.hid (HA7.out.below hB)
  have HBb8 := Lib.hid (HBb.out.below hB)
  have HB8 := Lib.hid (HB7.out.trans (hB.mono HB7.out.size))
  clear hB
  go_simp
  go_step
  refine wpList_bs1_dn rfl (.tmp 17) rfl (putD sa 0 (-1)) (ev_tmp (by simp)) ?_
  refine wpList_plain rfl (fun K hK => ?_)
  go_simp
  refine hK _ _ ?_
  clear hK K
  refine wpList_anew_er rfl rfl 3 (.tmp 19) rfl rfl rfl (eC w8.heap.size) (ev_tmp (by simp [Act.put, eC, erCells, lC])) (by simp) ?_
  go_upto_region 4 with (fail)
  have hC := era_new (w := w8) (l := lC) (e := eC w8.heap.size) (fun d hd => by simp only [lC, List.mem_cons, List.not_mem_nil, or_false] at hd; rcases hd with rfl; rfl) rfl rfl rfl
  have hB9 := two_below HB8.out (.cells (dcells lC).toArray 53) (.cells (erCells (eC w8.heap.size)) 46)
  have hA9 := (HA8.out.below (alloc_below w8 (.cells (dcells lC).toArray 53))).below (alloc_below _ (.cells (erCells (eC w8.heap.size)) 46))
  have hBb9 := (HBb8.out.below (alloc_below w8 (.cells (dcells lC).toArray 53))).below (alloc_below _ (.cells (erCells (eC w8.heap.size)) 46))
  have hs9 : (w8.alloc (.cells (dcells lC).toArray 53)).heap.size = w8.heap.size + 1 := by simp
  rw [show dcells [putD sa 0 (-1)] = dcells lC from rfl, hs9]
  obtain ⟨ec, hec⟩ : ∃ ec, eC w8.heap.size = ec := ⟨_, rfl⟩
  have HYc := Lib.hid (show YesH [ec] from by rw [← hec]; exact yesC _)
  rw [hec] at hC hB9 hA9 hBb9 ⊢
  generalize (w8.alloc (.cells (dcells lC).toArray 53)).alloc (.cells (erCells ec) 46) = w9 at hC hB9 hA9 hBb9 ⊢
  generalize w8.heap.size + 1 = nc at hC ⊢
  have HA9 := Lib.hid hA9
  have HBb9 := Lib.hid hBb9
  have HC9 := Lib.hid hC
  have HB9 := Lib.hid hB9
  clear hA9 hBb9 hC hB9 hs9 hec
  go_wp2_with (fail)
  refine (put_v sa 0 (-1) _).mono ?_
  rintro e w10 ⟨rfl, hB⟩
  have HA10 := Lib.hid (HA9.out.below hB)
  have HBb10 := Lib.hid (HBb9.out.below hB)
  have HC10 := Lib.hid (HC9.out.below hB)
  have HB10 := Lib.hid (HB9.out.trans (hB.mono HB9.out.size))
  clear hB
  go_simp
  go_step
  refine wpList_bs1_dn rfl (.tmp 20) rfl (putD sa 0 (-1)) (ev_tmp (by simp)) ?_
  refine wpList_plain rfl (fun K hK => ?_)
  go_simp
  refine hK _ _ ?_
  clear hK K
  refine wpList_bs1_pr rfl (.tmp 22) rfl ⟨5, sa⟩ (ev_tmp (by simp [prCells, sa])) ?_
  refine wpList_plain rfl (fun K hK => ?_)
  go_simp
  refine hK _ _ ?_
  clear hK K
  refine wpList_anew_er rfl rfl 4 (.tmp 24) rfl rfl rfl (eD w10.heap.size (w10.heap.size + 1)) (ev_tmp (by simp [Act.put, eD, erCells, lC])) (by simp) ?_
  go_upto_region 5 with (fail)
  have hD := era_new2 (w := w10) (l := lC) (ps := [⟨5, sa⟩]) (e := eD w10.heap.size (w10.heap.size + 1)) (fun d hd => by simp only [lC, List.mem_cons, List.not_mem_nil, or_false] at hd; rcases hd with rfl; rfl) rfl rfl rfl rfl
  have hk := fun o p q => (two_below (Below.refl w10.heap.size w10) o p).alloc (two_below (Below.refl w10.heap.size w10) o p).size q
  have hk := hk (.cells (dcells lC).toArray 53) (.cells (pcells [⟨5, sa⟩]).toArray 59) (.cells (erCells (eD w10.heap.size (w10.heap.size + 1))) 46)
  have hA11 := HA10.out.below hk
  have hBb11 := HBb10.out.below hk
  have hC11 := HC10.out.below hk
  have hB11 := HB10.out.trans (hk.mono HB10.out.size)
  have hs11 : (w10.alloc (.cells (dcells lC).toArray 53)).heap.size = w10.heap.size + 1 := by simp
  have hs12 : ((w10.alloc (.cells (dcells lC).toArray 53)).alloc (.cells (pcells [⟨5, sa⟩]).toArray 59)).heap.size = w10.heap.size + 1 + 1 := by simp
  rw [show dcells [putD sa 0 (-1)] = dcells lC from rfl]
  try rw [hs12]
  try rw [hs11]
  obtain ⟨ed, hed⟩ : ∃ ed, eD w10.heap.size (w10.heap.size + 1) = ed := ⟨_, rfl⟩
  have HYd := Lib.hid (show YesH [ed] from by rw [← hed]; exact yesD _ _)
  rw [hed] at hD hA11 hBb11 hC11 hB11 ⊢
  generalize ((w10.alloc (.cells (dcells lC).toArray 53)).alloc (.cells (pcells [⟨5, sa⟩]).toArray 59)).alloc (.cells (erCells ed) 46) = w11 at hD hA11 hBb11 hC11 hB11 ⊢
  generalize w10.heap.size + 1 + 1 = nd at hD ⊢
  clear hk hs11 hs12 hed
  have HA11 := Lib.hid hA11
  have HBb11 := Lib.hid hBb11
  have HC11 := Lib.hid hC11
  have HD11 := Lib.hid hD
  have HB11 := Lib.hid hB11
  clear hA11 hBb11 hC11 hB11 hD
  go_step
  refine wpList_load_er rfl (.tmp 2) rfl nb 0 eb rfl HBb11.out.k.cellsAt ?_
  refine wpList_bs1_er rfl (.tmp 26) rfl eb (ev_tmp (by simp [Act.put])) ?_
  have HE1 := Lib.hid (one_ers HBb11.out)
  have hk := alloc_below w11 (.cells (ecellsE [eb]).toArray 46)
  have HA12 := Lib.hid (HA11.out.below hk)
  have HC12 := Lib.hid (HC11.out.below hk)
  have HD12 := Lib.hid (HD11.out.below hk)
  have HB12 := Lib.hid (HB11.out.trans (hk.mono HB11.out.size))
  clear hk
  generalize w11.alloc (.cells (ecellsE [eb]).toArray 46) = w12 at HA12 HC12 HD12 HB12 HE1 ⊢
  generalize w11.heap.size = n1 at HE1 ⊢
  go_wp2_with (fail)
  obtain ⟨U, hU⟩ := HHb.out.2.1 0
  refine (explains_v [] [eb] none (some ⟨n1, 0, none⟩) 0 1 w12 HHb.out.1 (fun a _ => HHb.out.2.1 a) (PrsAt.nil _ _) HE1.out).mono ?_
  rintro e w13 ⟨b, k, er, rfl, hp, hB⟩
  obtain ⟨rfl, rfl, rfl⟩ := HHb.out.2.2 hp
  have HA13 := Lib.hid (HA12.out.below hB)
  have HC13 := Lib.hid (HC12.out.below hB)
  have HD13 := Lib.hid (HD12.out.below hB)
  have HB13 := Lib.hid (HB12.out.trans (hB.mono HB12.out.size))
  clear hB hp
  go_upto_region 6 with (fail)
  go_step
  refine wpList_load_er rfl (.tmp 1) rfl na 0 ea rfl HA13.out.k.cellsAt ?_
  refine wpList_bs1_er rfl (.tmp 32) rfl ea rfl ?_
  have HE2 := Lib.hid (one_ers HA13.out)
  have hk := alloc_below w13 (.cells (ecellsE [ea]).toArray 46)
  have HC14 := Lib.hid (HC13.out.below hk)
  have HD14 := Lib.hid (HD13.out.below hk)
  have HB14 := Lib.hid (HB13.out.trans (hk.mono HB13.out.size))
  clear hk
  generalize w13.alloc (.cells (ecellsE [ea]).toArray 46) = w14 at HC14 HD14 HB14 HE2 ⊢
  generalize w13.heap.size = n2 at HE2 ⊢
  go_wp2_with (fail)
  refine (explained_v [ea] (some ⟨n2, 0, none⟩) 1 w14 HYa.out HE2.out).mono ?_
  rintro e w15 ⟨rfl, hB⟩
  have HC14b := Lib.hid (HC14.out.below hB)
  have HD14b := Lib.hid (HD14.out.below hB)
  have HB14b := Lib.hid (HB14.out.trans (hB.mono HB14.out.size))
  clear hB
  go_simp
  go_step
  refine wpList_plain rfl (fun K hK => ?_)
  go_simp
  refine hK _ _ ?_
  clear hK K
  refine wpList_load_er rfl (.tmp 3) rfl nc 0 ec rfl HC14b.out.k.cellsAt ?_
  refine wpList_bs1_erW rfl (.tmp 36) rfl ec rfl ?_
  have HE3 := Lib.hid (one_ers HC14b.out)
  have hk := alloc_below w15 (.cells (ecellsE [ec]).toArray 46)
  have HD16 := Lib.hid (HD14b.out.below hk)
  have HB16 := Lib.hid (HB14b.out.trans (hk.mono HB14b.out.size))
  clear hk
  generalize w15.alloc (.cells (ecellsE [ec]).toArray 46) = w16 at HD16 HB16 HE3 ⊢
  generalize w15.heap.size = n3 at HE3 ⊢
  go_wp2_with (fail)
  refine (explained_v [ec] (some ⟨n3, 0, none⟩) 1 w16 HYc.out HE3.out).mono ?_
  rintro e w17 ⟨rfl, hB⟩
  have HD16b := Lib.hid (HD16.out.below hB)
  have HB16b := Lib.hid (HB16.out.trans (hB.mono HB16.out.size))
  clear hB
  go_simp
  go_step
  refine wpList_plain rfl (fun K hK => ?_)
  go_simp
  refine hK _ _ ?_
  clear hK K
  refine wpList_plain rfl (fun K hK => ?_)
  go_simp
  refine hK _ _ ?_
  clear hK K
  refine wpList_load_er rfl (.tmp 4) rfl nd 0 ed rfl HD16b.out.k.cellsAt ?_
  refine wpList_bs1_erW rfl (.tmp 41) rfl ed rfl ?_
  have HE4 := Lib.hid (one_ers HD16b.out)
  have hk := alloc_below w17 (.cells (ecellsE [ed]).toArray 46)
  have HB18 := Lib.hid (HB16b.out.trans (hk.mono HB16b.out.size))
  clear hk
  generalize w17.alloc (.cells (ecellsE [ed]).toArray 46) = w18 at HB18 HE4 ⊢
  generalize w17.heap.size = n4 at HE4 ⊢
  go_wp2_with (fail)
  refine (explained_v [ed] (some ⟨n4, 0, none⟩) 1 w18 HYd.out HE4.out).mono ?_
  rintro e w19 ⟨rfl, hB⟩
  have HB18b := Lib.hid (HB18.out.trans (hB.mono HB18.out.size))
  clear hB
  go_wp2_with (fail)
  go_ret
  exact ⟨rfl, HB18b.out⟩
end Go.Proofs.Ytdmcakoaakinnaa
