/-
  ROWS OF CALLS that a call makes; linear.Of.
-/
import Derived.Test.YtdmcakoaakinnaaQf
namespace Go.Proofs.Ytdmcakoaakinnaa
open Go.RowKit
attribute [local go_sem] Oper.semAt_some
set_option linter.unusedVariables false
set_option linter.unusedSimpArgs false

def dcells (l : List Dn) : List Value := l.flatMap fun d => (dnCells d).toList
theorem dcells_app (l : List Dn) (d : Dn) : dcells (l ++ [d]) = dcells l ++ (dnCells d).toList := by unfold dcells; rw [List.flatMap_append]; simp
theorem dcells_len (l : List Dn) : (dcells l).length = l.length * 11 := by
  induction l with
  | nil => rfl
  | cons d r ih => show ((dnCells d).toList ++ dcells r).length = _; rw [List.length_append, ih]; show 11 + _ = _; rw [List.length_cons]; omega
theorem dcells_get : ∀ (l : List Dn) (i j : Nat), i < l.length → j < 11 → (dcells l)[i * 11 + j]? = (dnCells (l.getD i dnZ))[j]?
  | d :: r, 0, j, _, hj => by
    show ((dnCells d).toList ++ dcells r)[0 * 11 + j]? = _
    rw [List.getElem?_append_left (by show 0 * 11 + j < 11; omega), Nat.zero_mul, Nat.zero_add]
    rw [Array.getElem?_toList]
    rfl
  | d :: r, i + 1, j, hi, hj => by
    show ((dnCells d).toList ++ dcells r)[(i + 1) * 11 + j]? = _
    rw [List.getElem?_append_right (by show 11 ≤ _; omega), show (i + 1) * 11 + j - (dnCells d).toList.length = i * 11 + j from by show (i + 1) * 11 + j - 11 = _; omega]
    rw [dcells_get r i j (by simpa using hi) hj]
    rfl
theorem own_dns {w : World} {B : Nat} {e : TypeId} {v : Value} {l : List Dn} (h : w.ownsRow B e 11 v l.length (dcells l)) : ∃ a c, v = .slice a l.length c ∧ RowAt w a l.length 11 (fun i => dnCells (l.getD i dnZ)) ∧ ∀ g o, a = some ⟨g, o, none⟩ → B ≤ g := by
  obtain ⟨a, n, c, rfl⟩ := own_slice h
  obtain rfl : n = l.length := own_len h
  refine ⟨a, c, rfl, fun hp => ?_, fun g o e => own_base h g (by rw [e]; rfl)⟩
  obtain ⟨ad, e, hb, hc⟩ := (Reads.of_own h).2 hp
  obtain ⟨g, cap, hv, _, hlt⟩ := h.form hp
  have he : a = some ⟨g, 0, none⟩ := by injection hv
  subst he
  cases e
  refine ⟨g, 0, rfl, hlt, fun i hi j hj => ?_⟩
  obtain ⟨u, hu⟩ : ∃ u, (dcells l)[i * 11 + j]? = some u := ⟨_, List.getElem?_eq_getElem (by rw [dcells_len]; omega)⟩
  have h1 := hc (i * 11 + j) u hu
  have hadd : (⟨g, 0, none⟩ : Addr).add (i * 11 + j) = ⟨g, 0 + (i * 11 + j), none⟩ := by unfold Addr.add; split <;> simp_all
  rw [hadd] at h1
  rw [show 0 + i * 11 + j = 0 + (i * 11 + j) by omega, h1, ← hu, dcells_get l i j hi hj]
theorem own_dnsAt {w : World} {B : Nat} {e : TypeId} {v : Value} {l : List Dn} (h : w.ownsRow B e 11 v l.length (dcells l)) (hp : ∀ d ∈ l, PrsAt w d.pa d.ps) : ∃ a c, v = .slice a l.length c ∧ DnsAt w a l ∧ ∀ g o, a = some ⟨g, o, none⟩ → B ≤ g := by
  obtain ⟨a, c, e, h1, h2⟩ := own_dns h
  exact ⟨a, c, e, ⟨h1, hp⟩, h2⟩
theorem infoDn : ∃ i, Try.prog.info? 53 = some i ∧ i.zero = some (.agg (dnCells dnZ)) ∧ i.size = 11 ∧ i.bytes = 120 := by
  have h1 : ((Try.prog.info? 53).map (·.size)) = some 11 := by kernel_rfl
  have h2 : ((Try.prog.info? 53).map (·.bytes)) = some 120 := by kernel_rfl
  have h3 : ((Try.prog.info? 53).bind (·.zero)) = some (.agg (dnCells dnZ)) := by kernel_rfl
  cases h : Try.prog.info? 53 with
  | none => rw [h] at h1; cases h1
  | some i =>
    rw [h] at h1 h2 h3
    exact ⟨i, rfl, by simpa using h3, by simpa using h1, by simpa using h2⟩
theorem run_buildSlice_dn (d : Dn) (w : World) : (Instr.buildSlice 44 1 #[(0, .agg (dnCells d))]).run Try.prog w = .ok (.slice (some ⟨w.heap.size, 0, none⟩) 1 1) (w.alloc (.cells (dnCells d) 53)) := by kernel_rfl
/-- a call appended to a row: two operations -/
theorem wpList_push_dn {ops : Array Oper} {rest : List Oper} {o1 o2 : Oper} {a : Act} {w : World} {Q : Exit → Act → World → Prop} (h1 : o1.guard = none) (h2 : o2.guard = none) (x s : Operand) (t : Tmp) (hd : o1.dst = some t)
    (ho1 : o1.op = .buildSlice 44 1 #[(0, x)]) (ho2 : o2.op = .call { callee := .builtin .append, args := #[s, .tmp t], argTypes := #[44, 44] }) (d : Dn) (hx : a.eval x = .agg (dnCells d))
    (v : Value) (l : List Dn) (base : Nat) (hs : (a.put (some t) (.slice (some ⟨w.heap.size, 0, none⟩) 1 1)).eval s = v) (hown : w.ownsRow base 53 11 v l.length (dcells l)) (ht : t < a.tmps.size) (hl : l.length ≤ 1000000000) (hb : base ≤ w.heap.size)
    (h : ∀ v' w', w'.ownsRow base 53 11 v' (l ++ [d]).length (dcells (l ++ [d])) → Keeps (fun k => v.ownBlock = some k) w w' → wpList Try.prog ops Q rest ((a.put o1.dst (.slice (some ⟨w.heap.size, 0, none⟩) 1 1)).put o2.dst v') w') : wpList Try.prog ops Q (o1 :: o2 :: rest) a w := by
  obtain ⟨i0, hi, hz0, hz1, hz2⟩ := infoDn
  refine wpList_plain h1 fun K hK => ?_
  unfold Oper.wp execOp
  simp only [ho1, List.map_toArray, List.map_cons, List.map_nil, hx, Sem.run_bind, run_buildSlice_dn, Result.andThen_ok, Sem.run_pure]
  refine hK _ _ ?_
  rw [hd] at h ⊢
  have hk1 : Keeps (fun k => v.ownBlock = some k) w (w.alloc (.cells (dnCells d) 53)) := (Keeps.refl _ w).alloc _
  have hown1 : (w.alloc (.cells (dnCells d) 53)).ownsRow base 53 11 v l.length (dcells l) := own_keeps hown ((Keeps.refl (fun _ => False) w).alloc _) (fun _ _ h => h)
  have hrd : Reads (w.alloc (.cells (dnCells d) 53)) (w.heap.size + 1) 11 (some ⟨w.heap.size, 0, none⟩) 1 (dnCells d).toList := by
    refine ⟨rfl, fun _ => ⟨_, rfl, by show w.heap.size < _; omega, fun j u hu => ?_⟩⟩
    have hadd : (⟨w.heap.size, 0, none⟩ : Addr).add j = ⟨w.heap.size, j, none⟩ := by unfold Addr.add; split <;> simp_all
    rw [hadd, (Blk.new w (dnCells d) 53).cell, ← hu, Array.getElem?_toList]
  refine wpList_append_any (w.alloc (.cells (dnCells d) 53)) h2 s (.tmp t) 44 ho2 base 53 i0 _ 11 120 Try.underlying44 hi hz0 hz1 hz2 rfl (by decide) v l.length (dcells l) hs hown1 (w.heap.size + 1) (some ⟨w.heap.size, 0, none⟩) 1 1 (dnCells d).toList (by simp [Act.put, Act.eval, ht]) hrd
    (fun u hu => by have := dnCells_one d; rw [Array.all_eq_true_iff_forall_mem] at this; exact this u (by simpa using hu)) (by unfold maxLen; omega) (by omega) (by simp; omega) ?_
  intro v' w' ho hg _
  refine h v' w' (by rw [List.length_append, dcells_app]; exact ho) (hk1.grown hg (fun k hk => .inl hk))
theorem ofP_step (key : Int) (cs : List Dn) (k : Nat) (h : k < cs.length) : ofP key (cs.take (k + 1)) = ofP key (cs.take k) ++ ofP key [cs.getD k dnZ] := by
  unfold ofP
  rw [← List.filterMap_append, List.take_add_one, List.getElem?_eq_getElem h, getD_eq cs k dnZ h]; rfl
theorem ofP_tells {key : Int} {d : Dn} (h : tellsP d key = true) : ofP key [d] = [getP d key] := by unfold ofP; simp [h]
theorem ofP_own {key : Int} {d : Dn} (h : tellsP d key = false) (h2 : ownP d key = true) : ofP key [d] = [d] := by unfold ofP; simp [h, h2]
theorem ofP_none {key : Int} {d : Dn} (h : tellsP d key = false) (h2 : ownP d key = false) : ofP key [d] = [] := by unfold ofP; simp [h, h2]
theorem ofP_len (key : Int) (cs : List Dn) : (ofP key cs).length ≤ cs.length := List.length_filterMap_le _ _
theorem ofP_mem {key : Int} {cs : List Dn} {x : Dn} (h : x ∈ ofP key cs) : ∃ d ∈ cs, x = getP d key ∨ x = d := by
  unfold ofP at h
  obtain ⟨d, hd, e⟩ := List.mem_filterMap.1 h
  refine ⟨d, hd, ?_⟩
  split at e
  · exact .inl (Option.some.inj e).symm
  · split at e
    · exact .inr (Option.some.inj e).symm
    · cases e
theorem ofP_prs {w : World} {key : Int} {cs : List Dn} {a : Option Addr} (h : DnsAt w a cs) : ∀ x ∈ ofP key cs, PrsAt w x.pa x.ps := fun x hx => by
  obtain ⟨d, hd, rfl | rfl⟩ := ofP_mem hx
  · exact PrsAt.nil _ _
  · exact h.2 _ hd
theorem ofP_dnl {key : Int} {cs : List Dn} (h : ∀ d ∈ cs, DnL d) : ∀ x ∈ ofP key cs, DnL x := fun x hx => by
  obtain ⟨d, hd, rfl | rfl⟩ := ofP_mem hx
  · show 0 ≤ _; omega
  · exact h _ hd
/-- what Of hands back -/
def OfQ (key : Int) (cs : List Dn) (w : World) (e : Ending) (w' : World) : Prop :=
  ∃ v, e = .returned v ∧ w'.ownsRow w.heap.size 53 11 v (ofP key cs).length (dcells (ofP key cs)) ∧ Below w.heap.size w w'

set_option maxRecDepth 100000 in
set_option maxHeartbeats 8000000 in
theorem of_v (key : Int) (e : Er) (w : World) (hL : ErL e) (hn : e.cs.length ≤ 1000000) (hE : DnsAt w e.ca e.cs) : Calls Try.prog 18 #[.int .u64 key, .agg (erCells e)] w (OfQ key e.cs w) := by
  have hB0 : Below w.heap.size w (w.alloc (.cells (erCells e) 46)) := (Below.refl w.heap.size w).alloc (Nat.le_refl _) _
  have HTe := Lib.hid (fun d (hd : d ∈ e.cs) W (hW : Below w.heap.size w W) => tells_v d key W (hL.2.2 d hd) ((hE.2 d hd).below hW))
  have HGe := Lib.hid (fun d (hd : d ∈ e.cs) W (hW : Below w.heap.size w W) => get_v d key W (hL.2.2 d hd) ((hE.2 d hd).below hW))
  have HE := Lib.hid hE
  have HLe := Lib.hid (And.intro hL.1 hn)
  have HB0 := Lib.hid hB0
  unfold erCells
  clear hE hL hn hB0
  go_enter Try.func18, Try.ntmps18
  go_wp2_with (fail)
  go_loopw [4, 11] (fun vo iv wr => ∃ k : Nat, k ≤ e.cs.length ∧ iv = .int .i64 k ∧ wr.ownsRow w.heap.size 53 11 vo (ofP key (e.cs.take k)).length (dcells (ofP key (e.cs.take k))) ∧ Below w.heap.size w wr) (fun _ iv _ => e.cs.length - (intOf iv).toNat)
  case atStart => exact ⟨0, Nat.zero_le _, rfl, World.ownsRow_nil _ _ _ _, HB0.out⟩
  case round =>
    obtain ⟨k, hk, rfl, hO, hB⟩ := hrel
    have HB := Lib.hid hB
    obtain ⟨ao, no, co, rfl⟩ := own_slice hO
    have HLn := Lib.hid (show (ofP key (e.cs.take k)).length ≤ 1000000000 from by have := ofP_len key (e.cs.take k); have := HLe.out.2; rw [List.length_take] at *; omega)
    by_cases hlt : k < e.cs.length
    · obtain ⟨g, o, hca, hg, hc⟩ := (HE.out.below hB).at_ hlt
      obtain ⟨d, hd⟩ : ∃ x, e.cs.getD k dnZ = x := ⟨_, rfl⟩
      rw [hd] at hc
      have HCl := Lib.hid hc
      have HLt := Lib.hid hlt
      have HD := Lib.hid hd
      have HMem := Lib.hid (show d ∈ e.cs by rw [← hd]; exact getD_memL e.cs k dnZ hlt)
      have hB1 := hB.alloc hB.size (.cells (dnCells d) 53)
      have hO1 : (wr.alloc (.cells (dnCells d) 53)).ownsRow w.heap.size 53 11 (.slice ao no co) (ofP key (e.cs.take k)).length (dcells (ofP key (e.cs.take k))) := own_keeps hO ((Keeps.refl (fun _ => False) wr).alloc _) (fun _ _ h => h)
      have HB1 := Lib.hid hB1
      have HO1 := Lib.hid hO1
      have hkb : (k : Int) < (e.cs.length : Int) := by omega
      have hk6 : (k : Int) ≤ 1000000 := by have := HLe.out.2; omega
      clear hc hd hB hB1 hlt hk hO hO1
      rw [hca]
      go_upto_region 4 with (first
        | (with_reducible refine wpList_idx_dn ?h1 ?h2 (.tmp 9) (.tmp 11) 13 ?hd ?ho1 ?ho2 g o e.cs.length e.cc k d ?hx ?hy ?hk ?hs ?hc ?_; (case h1 => rfl); (case h2 => rfl); (case hd => rfl); (case ho1 => rfl); (case ho2 => rfl); (case hx => exact ev_tmp (by simp)); (case hy => exact ev_tmp (by simp)); (case hk => exact HLt.out); (case hs => simp); (case hc => exact HCl.out))
        | (with_reducible refine wpList_anew_dn ?a1 ?a2 6 (.tmp 14) ?ad ?ao1 ?ao2 d ?ay ?az ?_; (case a1 => rfl); (case a2 => rfl); (case ad => rfl); (case ao1 => rfl); (case ao2 => rfl); (case ay => exact ev_tmp (by simp [Act.put])); (case az => simp [Act.put])))
      have hb := Blk.new wr (dnCells d) 53
      generalize wr.alloc (.cells (dnCells d) 53) = W1 at HB1 hb HO1 ⊢
      generalize wr.heap.size = nb at hb ⊢
      have HBk := Lib.hid hb
      have c7 : W1.cell? ⟨nb, 7, none⟩ = some (.int .i64 d.en) := by rw [hb.cell]; rfl
      obtain ⟨an, han⟩ : ∃ an, decide (0 ≤ d.en) = an := ⟨_, rfl⟩
      clear hb
      go_upto_region 5 with (fail)
      clear c7
      have HAn := Lib.hid han
      clear han
      go_step
      refine wpList_load_dn rfl (.tmp 6) rfl nb 0 d (ev_tmp (by simp)) HBk.out.cellsAt ?_
      go_wp2_with (fail)
      refine (HTe.out d HMem.out W1 HB1.out).mono ?_
      rintro e2 W2 ⟨rfl, hB2⟩
      have hb2 := HBk.out.kept (Keeps.of_below' hB2) (fun h => h)
      have HB5 := Lib.hid (HB1.out.trans (hB2.mono HB1.out.size))
      have HO5 := Lib.hid (own_keeps HO1.out (Keeps.of_below' hB2) (fun _ _ h => h))
      have HBk5 := Lib.hid hb2
      have c8 : W2.cell? ⟨nb, 8, none⟩ = some (.int .i64 d.code) := by rw [hb2.cell]; rfl
      have c1 : W2.cell? ⟨nb, 1, none⟩ = some (.int .i64 d.op) := by rw [hb2.cell]; rfl
      have c2 : W2.cell? ⟨nb, 2, none⟩ = some (.int .u64 d.key) := by rw [hb2.cell]; rfl
      clear hB2 hb2
      cases ht : tellsP d key with
      | true =>
        have HT := Lib.hid ht
        clear ht c8 c1 c2
        go_upto_region 6 with (fail)
        go_step
        refine wpList_plain rfl (fun K hK => ?_)
        go_simp
        refine hK _ _ ?_
        clear hK K
        refine wpList_load_dn rfl (.tmp 6) rfl nb 0 d (ev_tmp (by simp)) HBk5.out.cellsAt ?_
        go_wp2_with (fail)
        refine (HGe.out d HMem.out W2 HB5.out).mono ?_
        rintro e3 W3 ⟨rfl, hB3⟩
        have HB6 := Lib.hid (HB5.out.trans (hB3.mono HB5.out.size))
        have HO6 := Lib.hid (own_keeps HO5.out (Keeps.of_below' hB3) (fun _ _ h => h))
        clear hB3
        obtain ⟨d2, hd2⟩ : ∃ d2, getP d key = d2 := ⟨_, rfl⟩
        have HEq := Lib.hid (show ofP key (e.cs.take (k + 1)) = ofP key (e.cs.take k) ++ [d2] from by rw [ofP_step key e.cs k HLt.out, HD.out, ofP_tells HT.out, hd2])
        rw [hd2]
        clear hd2
        go_simp
        go_step
        refine wpList_push_dn rfl rfl (.tmp 25) (.tmp 22) 26 rfl rfl rfl d2 (ev_tmp (by simp)) (.slice ao no co) _ w.heap.size (ev_tmp (by simp [Act.put])) HO6.out (by simp) HLn.out HB6.out.size ?_
        intro v7 w7 hO7 hK7
        have HO7 := Lib.hid hO7
        have HB7 := Lib.hid (below_keeps HB6.out (Nat.le_refl _) hK7 (fun i hi => own_base HO6.out i hi))
        clear hO7 hK7
        go_wp2_with (fail)
        go_roundw
        case rel => exact ⟨k + 1, HLt.out, by go_num, by rw [HEq.out]; exact HO7.out, HB7.out⟩
        case measure => have := HLt.out; simp [intOf]; omega
      | false =>
        have HT := Lib.hid ht
        clear ht
        by_cases hk : d.key = key
        · have hkk : decide (d.key = key) = true := decide_eq_true hk
          have ek : (d.key != key) = false := by simp [hk]
          clear hk
          cases an with
          | false =>
            have han := HAn.out
            have hcc : (decide (0 ≤ d.en) && decide (d.code ≠ 0) && decide (d.code ≠ 5)) = false := by simp [han]
            by_cases h1 : d.op = 1
            · have HW := Lib.hid (show ownP d key = true from by unfold ownP; rw [hkk, hcc]; simp [h1])
              have e1 : (d.op == 1) = true := beq_iff_eq.2 h1
              clear h1
              go_upto_region 11 with (fail)
              go_step
              refine wpList_plain rfl (fun K hK => ?_)
              go_simp
              refine hK _ _ ?_
              clear hK K
              refine wpList_load_dn rfl (.tmp 6) rfl nb 0 d (ev_tmp (by simp)) HBk5.out.cellsAt ?_
              refine wpList_push_dn rfl rfl (.tmp 66) (.tmp 65) 67 rfl rfl rfl d (ev_tmp (by simp [Act.put])) (.slice ao no co) _ w.heap.size (ev_tmp (by simp [Act.put])) HO5.out (by simp [Act.put]) HLn.out HB5.out.size ?_
              intro v6 w6 hO6 hK6
              have HO6 := Lib.hid hO6
              have HB6 := Lib.hid (below_keeps HB5.out (Nat.le_refl _) hK6 (fun i hi => own_base HO5.out i hi))
              have HEq := Lib.hid (show ofP key (e.cs.take (k + 1)) = ofP key (e.cs.take k) ++ [d] from by rw [ofP_step key e.cs k HLt.out, HD.out, ofP_own HT.out HW.out])
              clear hO6 hK6
              go_wp2_with (fail)
              go_roundw
              case rel => exact ⟨k + 1, HLt.out, by go_num, by rw [HEq.out]; exact HO6.out, HB6.out⟩
              case measure => have := HLt.out; simp [intOf]; omega
            by_cases h3 : d.op = 3
            · have HW := Lib.hid (show ownP d key = true from by unfold ownP; rw [hkk, hcc]; simp [h3])
              have e1 : (d.op == 1) = false := beq_eq_false_iff_ne.2 h1
              have e3 : (d.op == 3) = true := beq_iff_eq.2 h3
              clear h1 h3
              go_upto_region 11 with (fail)
              go_step
              refine wpList_plain rfl (fun K hK => ?_)
              go_simp
              refine hK _ _ ?_
              clear hK K
              refine wpList_load_dn rfl (.tmp 6) rfl nb 0 d (ev_tmp (by simp)) HBk5.out.cellsAt ?_
              refine wpList_push_dn rfl rfl (.tmp 66) (.tmp 65) 67 rfl rfl rfl d (ev_tmp (by simp [Act.put])) (.slice ao no co) _ w.heap.size (ev_tmp (by simp [Act.put])) HO5.out (by simp [Act.put]) HLn.out HB5.out.size ?_
              intro v6 w6 hO6 hK6
              have HO6 := Lib.hid hO6
              have HB6 := Lib.hid (below_keeps HB5.out (Nat.le_refl _) hK6 (fun i hi => own_base HO5.out i hi))
              have HEq := Lib.hid (show ofP key (e.cs.take (k + 1)) = ofP key (e.cs.take k) ++ [d] from by rw [ofP_step key e.cs k HLt.out, HD.out, ofP_own HT.out HW.out])
              clear hO6 hK6
              go_wp2_with (fail)
              go_roundw
              case rel => exact ⟨k + 1, HLt.out, by go_num, by rw [HEq.out]; exact HO6.out, HB6.out⟩
              case measure => have := HLt.out; simp [intOf]; omega
            by_cases h2 : d.op = 2
            · have e1 : (d.op == 1) = false := beq_eq_false_iff_ne.2 h1
              have e3 : (d.op == 3) = false := beq_eq_false_iff_ne.2 h3
              have e2 : (d.op == 2) = true := beq_iff_eq.2 h2
              have HW := Lib.hid (show ownP d key = false from by unfold ownP; simp [h2, han])
              clear h1 h2 h3
              go_wp2_with (fail)
              go_roundw
              case rel => exact ⟨k + 1, HLt.out, by go_num, by rw [ofP_step key e.cs k HLt.out, HD.out, ofP_none HT.out HW.out, List.append_nil]; exact HO5.out, HB5.out⟩
              case measure => have := HLt.out; simp [intOf]; omega
            · have HW := Lib.hid (show ownP d key = false from by unfold ownP; simp [h1, h2, h3])
              have e1 : (d.op == 1) = false := beq_eq_false_iff_ne.2 h1
              have e3 : (d.op == 3) = false := beq_eq_false_iff_ne.2 h3
              have e2 : (d.op == 2) = false := beq_eq_false_iff_ne.2 h2
              clear h1 h2 h3
              go_wp2_with (fail)
              go_roundw
              case rel => exact ⟨k + 1, HLt.out, by go_num, by rw [ofP_step key e.cs k HLt.out, HD.out, ofP_none HT.out HW.out, List.append_nil]; exact HO5.out, HB5.out⟩
              case measure => have := HLt.out; simp [intOf]; omega
          | true =>
            have han := HAn.out
            by_cases h0 : d.code = 0
            · have hcc : (decide (0 ≤ d.en) && decide (d.code ≠ 0) && decide (d.code ≠ 5)) = false := by simp [h0]
              have e0 : (d.code != 0) = false := by simp [h0]
              clear h0
              by_cases h1 : d.op = 1
              · have HW := Lib.hid (show ownP d key = true from by unfold ownP; rw [hkk, hcc]; simp [h1])
                have e1 : (d.op == 1) = true := beq_iff_eq.2 h1
                clear h1
                go_upto_region 11 with (fail)
                go_step
                refine wpList_plain rfl (fun K hK => ?_)
                go_simp
                refine hK _ _ ?_
                clear hK K
                refine wpList_load_dn rfl (.tmp 6) rfl nb 0 d (ev_tmp (by simp)) HBk5.out.cellsAt ?_
                refine wpList_push_dn rfl rfl (.tmp 66) (.tmp 65) 67 rfl rfl rfl d (ev_tmp (by simp [Act.put])) (.slice ao no co) _ w.heap.size (ev_tmp (by simp [Act.put])) HO5.out (by simp [Act.put]) HLn.out HB5.out.size ?_
                intro v6 w6 hO6 hK6
                have HO6 := Lib.hid hO6
                have HB6 := Lib.hid (below_keeps HB5.out (Nat.le_refl _) hK6 (fun i hi => own_base HO5.out i hi))
                have HEq := Lib.hid (show ofP key (e.cs.take (k + 1)) = ofP key (e.cs.take k) ++ [d] from by rw [ofP_step key e.cs k HLt.out, HD.out, ofP_own HT.out HW.out])
                clear hO6 hK6
                go_wp2_with (fail)
                go_roundw
                case rel => exact ⟨k + 1, HLt.out, by go_num, by rw [HEq.out]; exact HO6.out, HB6.out⟩
                case measure => have := HLt.out; simp [intOf]; omega
              by_cases h3 : d.op = 3
              · have HW := Lib.hid (show ownP d key = true from by unfold ownP; rw [hkk, hcc]; simp [h3])
                have e1 : (d.op == 1) = false := beq_eq_false_iff_ne.2 h1
                have e3 : (d.op == 3) = true := beq_iff_eq.2 h3
                clear h1 h3
                go_upto_region 11 with (fail)
                go_step
                refine wpList_plain rfl (fun K hK => ?_)
                go_simp
                refine hK _ _ ?_
                clear hK K
                refine wpList_load_dn rfl (.tmp 6) rfl nb 0 d (ev_tmp (by simp)) HBk5.out.cellsAt ?_
                refine wpList_push_dn rfl rfl (.tmp 66) (.tmp 65) 67 rfl rfl rfl d (ev_tmp (by simp [Act.put])) (.slice ao no co) _ w.heap.size (ev_tmp (by simp [Act.put])) HO5.out (by simp [Act.put]) HLn.out HB5.out.size ?_
                intro v6 w6 hO6 hK6
                have HO6 := Lib.hid hO6
                have HB6 := Lib.hid (below_keeps HB5.out (Nat.le_refl _) hK6 (fun i hi => own_base HO5.out i hi))
                have HEq := Lib.hid (show ofP key (e.cs.take (k + 1)) = ofP key (e.cs.take k) ++ [d] from by rw [ofP_step key e.cs k HLt.out, HD.out, ofP_own HT.out HW.out])
                clear hO6 hK6
                go_wp2_with (fail)
                go_roundw
                case rel => exact ⟨k + 1, HLt.out, by go_num, by rw [HEq.out]; exact HO6.out, HB6.out⟩
                case measure => have := HLt.out; simp [intOf]; omega
              by_cases h2 : d.op = 2
              · have e1 : (d.op == 1) = false := beq_eq_false_iff_ne.2 h1
                have e3 : (d.op == 3) = false := beq_eq_false_iff_ne.2 h3
                have e2 : (d.op == 2) = true := beq_iff_eq.2 h2
                have HW := Lib.hid (show ownP d key = true from by unfold ownP; rw [hkk, hcc, han]; simp [h2])
                clear h1 h2 h3
                go_upto_region 11 with (fail)
                go_step
                refine wpList_plain rfl (fun K hK => ?_)
                go_simp
                refine hK _ _ ?_
                clear hK K
                refine wpList_load_dn rfl (.tmp 6) rfl nb 0 d (ev_tmp (by simp)) HBk5.out.cellsAt ?_
                refine wpList_push_dn rfl rfl (.tmp 66) (.tmp 65) 67 rfl rfl rfl d (ev_tmp (by simp [Act.put])) (.slice ao no co) _ w.heap.size (ev_tmp (by simp [Act.put])) HO5.out (by simp [Act.put]) HLn.out HB5.out.size ?_
                intro v6 w6 hO6 hK6
                have HO6 := Lib.hid hO6
                have HB6 := Lib.hid (below_keeps HB5.out (Nat.le_refl _) hK6 (fun i hi => own_base HO5.out i hi))
                have HEq := Lib.hid (show ofP key (e.cs.take (k + 1)) = ofP key (e.cs.take k) ++ [d] from by rw [ofP_step key e.cs k HLt.out, HD.out, ofP_own HT.out HW.out])
                clear hO6 hK6
                go_wp2_with (fail)
                go_roundw
                case rel => exact ⟨k + 1, HLt.out, by go_num, by rw [HEq.out]; exact HO6.out, HB6.out⟩
                case measure => have := HLt.out; simp [intOf]; omega
              · have HW := Lib.hid (show ownP d key = false from by unfold ownP; simp [h1, h2, h3])
                have e1 : (d.op == 1) = false := beq_eq_false_iff_ne.2 h1
                have e3 : (d.op == 3) = false := beq_eq_false_iff_ne.2 h3
                have e2 : (d.op == 2) = false := beq_eq_false_iff_ne.2 h2
                clear h1 h2 h3
                go_wp2_with (fail)
                go_roundw
                case rel => exact ⟨k + 1, HLt.out, by go_num, by rw [ofP_step key e.cs k HLt.out, HD.out, ofP_none HT.out HW.out, List.append_nil]; exact HO5.out, HB5.out⟩
                case measure => have := HLt.out; simp [intOf]; omega
            by_cases h5 : d.code = 5
            · have hcc : (decide (0 ≤ d.en) && decide (d.code ≠ 0) && decide (d.code ≠ 5)) = false := by simp [h5]
              have e0 : (d.code != 0) = true := by simp [h5]
              have e5 : (d.code != 5) = false := by simp [h5]
              clear h0 h5
              by_cases h1 : d.op = 1
              · have HW := Lib.hid (show ownP d key = true from by unfold ownP; rw [hkk, hcc]; simp [h1])
                have e1 : (d.op == 1) = true := beq_iff_eq.2 h1
                clear h1
                go_upto_region 11 with (fail)
                go_step
                refine wpList_plain rfl (fun K hK => ?_)
                go_simp
                refine hK _ _ ?_
                clear hK K
                refine wpList_load_dn rfl (.tmp 6) rfl nb 0 d (ev_tmp (by simp)) HBk5.out.cellsAt ?_
                refine wpList_push_dn rfl rfl (.tmp 66) (.tmp 65) 67 rfl rfl rfl d (ev_tmp (by simp [Act.put])) (.slice ao no co) _ w.heap.size (ev_tmp (by simp [Act.put])) HO5.out (by simp [Act.put]) HLn.out HB5.out.size ?_
                intro v6 w6 hO6 hK6
                have HO6 := Lib.hid hO6
                have HB6 := Lib.hid (below_keeps HB5.out (Nat.le_refl _) hK6 (fun i hi => own_base HO5.out i hi))
                have HEq := Lib.hid (show ofP key (e.cs.take (k + 1)) = ofP key (e.cs.take k) ++ [d] from by rw [ofP_step key e.cs k HLt.out, HD.out, ofP_own HT.out HW.out])
                clear hO6 hK6
                go_wp2_with (fail)
                go_roundw
                case rel => exact ⟨k + 1, HLt.out, by go_num, by rw [HEq.out]; exact HO6.out, HB6.out⟩
                case measure => have := HLt.out; simp [intOf]; omega
              by_cases h3 : d.op = 3
              · have HW := Lib.hid (show ownP d key = true from by unfold ownP; rw [hkk, hcc]; simp [h3])
                have e1 : (d.op == 1) = false := beq_eq_false_iff_ne.2 h1
                have e3 : (d.op == 3) = true := beq_iff_eq.2 h3
                clear h1 h3
                go_upto_region 11 with (fail)
                go_step
                refine wpList_plain rfl (fun K hK => ?_)
                go_simp
                refine hK _ _ ?_
                clear hK K
                refine wpList_load_dn rfl (.tmp 6) rfl nb 0 d (ev_tmp (by simp)) HBk5.out.cellsAt ?_
                refine wpList_push_dn rfl rfl (.tmp 66) (.tmp 65) 67 rfl rfl rfl d (ev_tmp (by simp [Act.put])) (.slice ao no co) _ w.heap.size (ev_tmp (by simp [Act.put])) HO5.out (by simp [Act.put]) HLn.out HB5.out.size ?_
                intro v6 w6 hO6 hK6
                have HO6 := Lib.hid hO6
                have HB6 := Lib.hid (below_keeps HB5.out (Nat.le_refl _) hK6 (fun i hi => own_base HO5.out i hi))
                have HEq := Lib.hid (show ofP key (e.cs.take (k + 1)) = ofP key (e.cs.take k) ++ [d] from by rw [ofP_step key e.cs k HLt.out, HD.out, ofP_own HT.out HW.out])
                clear hO6 hK6
                go_wp2_with (fail)
                go_roundw
                case rel => exact ⟨k + 1, HLt.out, by go_num, by rw [HEq.out]; exact HO6.out, HB6.out⟩
                case measure => have := HLt.out; simp [intOf]; omega
              by_cases h2 : d.op = 2
              · have e1 : (d.op == 1) = false := beq_eq_false_iff_ne.2 h1
                have e3 : (d.op == 3) = false := beq_eq_false_iff_ne.2 h3
                have e2 : (d.op == 2) = true := beq_iff_eq.2 h2
                have HW := Lib.hid (show ownP d key = true from by unfold ownP; rw [hkk, hcc, han]; simp [h2])
                clear h1 h2 h3
                go_upto_region 11 with (fail)
                go_step
                refine wpList_plain rfl (fun K hK => ?_)
                go_simp
                refine hK _ _ ?_
                clear hK K
                refine wpList_load_dn rfl (.tmp 6) rfl nb 0 d (ev_tmp (by simp)) HBk5.out.cellsAt ?_
                refine wpList_push_dn rfl rfl (.tmp 66) (.tmp 65) 67 rfl rfl rfl d (ev_tmp (by simp [Act.put])) (.slice ao no co) _ w.heap.size (ev_tmp (by simp [Act.put])) HO5.out (by simp [Act.put]) HLn.out HB5.out.size ?_
                intro v6 w6 hO6 hK6
                have HO6 := Lib.hid hO6
                have HB6 := Lib.hid (below_keeps HB5.out (Nat.le_refl _) hK6 (fun i hi => own_base HO5.out i hi))
                have HEq := Lib.hid (show ofP key (e.cs.take (k + 1)) = ofP key (e.cs.take k) ++ [d] from by rw [ofP_step key e.cs k HLt.out, HD.out, ofP_own HT.out HW.out])
                clear hO6 hK6
                go_wp2_with (fail)
                go_roundw
                case rel => exact ⟨k + 1, HLt.out, by go_num, by rw [HEq.out]; exact HO6.out, HB6.out⟩
                case measure => have := HLt.out; simp [intOf]; omega
              · have HW := Lib.hid (show ownP d key = false from by unfold ownP; simp [h1, h2, h3])
                have e1 : (d.op == 1) = false := beq_eq_false_iff_ne.2 h1
                have e3 : (d.op == 3) = false := beq_eq_false_iff_ne.2 h3
                have e2 : (d.op == 2) = false := beq_eq_false_iff_ne.2 h2
                clear h1 h2 h3
                go_wp2_with (fail)
                go_roundw
                case rel => exact ⟨k + 1, HLt.out, by go_num, by rw [ofP_step key e.cs k HLt.out, HD.out, ofP_none HT.out HW.out, List.append_nil]; exact HO5.out, HB5.out⟩
                case measure => have := HLt.out; simp [intOf]; omega
            · have HW := Lib.hid (show ownP d key = false from by unfold ownP; simp [han, h0, h5])
              have e0 : (d.code != 0) = true := by simp [h0]
              have e5 : (d.code != 5) = true := by simp [h5]
              clear h0 h5
              go_wp2_with (fail)
              go_roundw
              case rel => exact ⟨k + 1, HLt.out, by go_num, by rw [ofP_step key e.cs k HLt.out, HD.out, ofP_none HT.out HW.out, List.append_nil]; exact HO5.out, HB5.out⟩
              case measure => have := HLt.out; simp [intOf]; omega
        · have HW := Lib.hid (show ownP d key = false from by unfold ownP; simp [hk])
          have ek : (d.key != key) = true := by simp [hk]
          clear hk
          go_wp2_with (fail)
          go_roundw
          case rel => exact ⟨k + 1, HLt.out, by go_num, by rw [ofP_step key e.cs k HLt.out, HD.out, ofP_none HT.out HW.out, List.append_nil]; exact HO5.out, HB5.out⟩
          case measure => have := HLt.out; simp [intOf]; omega
    · obtain rfl : k = e.cs.length := by omega
      have hO' : wr.ownsRow w.heap.size 53 11 (.slice ao no co) (ofP key e.cs).length (dcells (ofP key e.cs)) := by have h := hO; rwa [List.take_length] at h
      have HO' := Lib.hid hO'
      clear hO hO' hB hlt hk
      go_wp2_with (fail)
      go_ret
      exact ⟨_, rfl, HO'.out, HB.out⟩
end Go.Proofs.Ytdmcakoaakinnaa
