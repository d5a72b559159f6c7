/-
  The law SnapMoment: the worlds on its way; plain facts.
-/
import Derived.Test.YtgmbnoimlffgcaaPaN
import Derived.Test.YtgmbnoimlffgcaaRd
import Derived.Maps.AppendAt
import Derived.ChangeKeysEq
import Derived.Test.YtgmbnoimlffgcaaWn
import Derived.Test.YtgmbnoimlffgcaaMow
import Derived.Test.YtgmbnoimlffgcaaSnv
namespace Go.Proofs.Ytgmbnoimlffgcaa
open Go.RowKit
set_option linter.unusedVariables false

def ncs (l : List Nd) : List Value := l.flatMap (fun n => (ndCells n).toList)
theorem ncs_snoc (l : List Nd) (n : Nd) : ncs (l ++ [n]) = ncs l ++ (ndCells n).toList := by simp [ncs]
theorem ndcs_len (n : Nd) : (ndCells n).toList.length = 21 := by rw [Array.length_toList]; exact ndCells_size n
theorem ncs_get : ∀ (l : List Nd) (j k : Nat) (n : Nd) (v : Value), l[j]? = some n → (ndCells n)[k]? = some v → (ncs l)[j * 21 + k]? = some v
  | [], j, k, n, v, h, _ => by cases h
  | m :: l, j, k, n, v, h, hk => by
    have e : ncs (m :: l) = (ndCells m).toList ++ ncs l := rfl
    have hk21 : k < 21 := by
      have := (Array.getElem?_eq_some_iff.1 hk).1
      rwa [ndCells_size] at this
    rw [e]
    cases j with
    | zero =>
      obtain rfl : m = n := Option.some.inj h
      rw [List.getElem?_append_left (by rw [ndcs_len]; omega), Nat.zero_mul, Nat.zero_add]
      simpa using hk
    | succ j =>
      rw [List.getElem?_append_right (by rw [ndcs_len]; omega), ndcs_len, show (j + 1) * 21 + k - 21 = j * 21 + k by omega]
      exact ncs_get l j k n v h hk
theorem ndcs_one (n : Nd) : ∀ u ∈ (ndCells n).toList, u.oneCell' = true := fun u hu => by
  have := (Array.all_eq_true_iff_forall_mem.1 (ndCells_one n)) u (by simpa using hu)
  exact this
/-- what the slice's places hold -/
def NodesAt (W : World) (g : Nat) (l : List Nd) : Prop := ∀ j n, l[j]? = some n → ∀ k v, (ndCells n)[k]? = some v → W.cell? ⟨g, j * 21 + k, none⟩ = some v
theorem own_nodes {w : World} {base : Nat} {e : TypeId} {v : Value} {t : Nat} {l : List Nd} (h : w.ownsRow base e 21 v t (ncs l)) (ht : t = l.length) (hp : 0 < t) :
    ∃ g cap, v = .slice (some ⟨g, 0, none⟩) t cap ∧ base ≤ g ∧ g < w.heap.size ∧ t ≤ cap ∧ cap ≤ maxLen ∧ NodesAt w g l := by
  obtain ⟨g, cap, h1, h2, h3, h4, h5, _, h7, _⟩ := own_shapeK h hp
  refine ⟨g, cap, h1, h2, h3, h4, h5, fun j n hj k v hk => ?_⟩
  have hj' := (List.getElem?_eq_some_iff.1 hj).1
  have hk21 : k < 21 := by
    have := (Array.getElem?_eq_some_iff.1 hk).1
    rwa [ndCells_size] at this
  exact (h7 (j * 21 + k) (by omega)).trans (ncs_get l j k n v hj hk)
theorem NodesAt.below {W W' : World} {g B : Nat} {l : List Nd} (h : NodesAt W g l) (hB : Below B W W') (hg : g < B) : NodesAt W' g l :=
  fun j n hj k v hk => (hB.cell (p := ⟨g, j * 21 + k, none⟩) hg).trans (h j n hj k v hk)
theorem infoN27 : ∃ i, Try.prog.info? 40 = some i ∧ i.zero = some (.agg (ndCells nd0)) ∧ i.size = 21 ∧ i.bytes = 168 := by
  have h1 : ((Try.prog.info? 40).map (·.size)) = some 21 := by kernel_rfl
  have h2 : ((Try.prog.info? 40).map (·.bytes)) = some 168 := by kernel_rfl
  have h3 : ((Try.prog.info? 40).bind (·.zero)) = some (.agg (ndCells nd0)) := by kernel_rfl
  cases h : Try.prog.info? 40 with
  | none => rw [h] at h1; cases h1
  | some i =>
    rw [h] at h1 h2 h3
    exact ⟨i, rfl, h3, Option.some.inj h1, Option.some.inj h2⟩
theorem own_nd1 (w : World) (B : Nat) (n : Nd) (hB : B ≤ w.heap.size) : (w.alloc (.cells (ndCells n) 40)).ownsRow B 40 21 (.slice (some ⟨w.heap.size, 0, none⟩) 1 1) 1 (ncs [n]) := by
  have e : ncs [n] = (ndCells n).toList := by simp [ncs]
  rw [e]
  refine ⟨by rw [ndcs_len], .inr ⟨w.heap.size, 1, ndCells n, rfl, hB, heap_alloc_new w _, Nat.le_refl _, by unfold maxLen; omega, by rw [ndCells_size], ?_⟩⟩
  exact List.take_of_length_le (by rw [ndcs_len]; omega)
theorem wpList_append_ndl {ops : Array Oper} {rest : List Oper} {o : Oper} {a : Act} {w : World} {Q : Exit → Act → World → Prop} (hgd : o.guard = none) (s x : Operand)
    (ho : o.op = .call { callee := .builtin .append, args := #[s, x], argTypes := #[79, 79] }) (B : Nat) (v : Value) (l : List Nd) (n : Nd) (hs : a.eval s = v) (hown : w.ownsRow B 40 21 v l.length (ncs l))
    (H : Nat) (hx : a.eval x = .slice (some ⟨H, 0, none⟩) 1 1) (hb : Blk w H (ndCells n) 40) (ht : l.length ≤ 1000) (hB : B ≤ w.heap.size)
    (h : ∀ v' w', w'.ownsRow B 40 21 v' (l ++ [n]).length (ncs (l ++ [n])) → w.grownBy w' v.ownBlock → (v'.ownBlock = v.ownBlock ∨ v'.ownBlock = some w.heap.size) → wpList Try.prog ops Q rest (a.put o.dst v') w') : wpList Try.prog ops Q (o :: rest) a w := by
  obtain ⟨i0, hi, hz0, hz1, hz2⟩ := infoN27
  refine wpList_append_own_at w hgd s x 79 ho B 40 i0 _ 21 168 Try.underlying79 hi hz0 hz1 hz2 (by rfl) (by decide) v l.length (ncs l) hs hown ⟨H, 0, none⟩ 1 1 (ndCells n).toList hx (by rw [ndcs_len])
    (fun j u hj => ?_) (ndcs_one n) (by unfold maxLen; omega) (by omega) hB (fun v' w' h1 h2 _ h4 => h v' w' (by rw [ncs_snoc, List.length_append]; exact h1) h2 h4)
  have := ndLoad hb j u (by simpa using hj)
  rw [Nat.zero_add] at this
  unfold Addr.add
  by_cases h0 : j = 0
  · subst h0; simpa using this
  · simpa [h0] using this

/-! ### two nodes compared -/
def eqU8 (f g : Nat → Int) : Bool := (List.range 8).all (fun i => f i == g i)
section
variable {T e : TypeId} (hT : Try.prog.underlying T = some (.array 8 e)) (he : Try.prog.underlying e = some (.int .u64)) (hc : Try.prog.cellsOf e = 1) (hp : ∀ (f : Nat → Int) (i : Nat), i < 8 → ∀ w, (part e (u8s f).toArray (i * 1)).run Try.prog w = .ok (.int .u64 (f i)) w)
include he hp in
theorem eqItems_u8 (f g : Nat → Int) (d : Nat) (w : World) : ∀ is : List Nat, (∀ i ∈ is, i < 8) → (Op.eqItems (d + 1) e 1 (u8s f).toArray (u8s g).toArray is).run Try.prog w = .ok (is.all (fun i => f i == g i)) w
  | [], _ => by simp [Op.eqItems]
  | i :: is, h => by
    have hi := h i (List.mem_cons_self)
    simp only [Op.eqItems, Sem.run_bind, hp _ _ hi, Result.andThen_ok, run_equalIn_int w d e .u64 .u64 _ _ he]
    rw [List.all_cons]
    cases hq : (f i == g i)
    · simp
    · simpa using eqItems_u8 f g d w is (fun j hj => h j (List.mem_cons_of_mem _ hj))
include hT he hc hp in
theorem eq8_any (f g : Nat → Int) (d : Nat) (w : World) : (Op.equalIn (d + 2) T (.agg (u8s f).toArray) (.agg (u8s g).toArray)).run Try.prog w = .ok (eqU8 f g) w := by
  obtain ⟨i, hi⟩ := info_of_underlying (P := Try.prog) he
  rw [show d + 2 = d + 1 + 1 from rfl, run_equalIn_array w (d + 1) (u8s f).toArray (u8s g).toArray hT hi, hc, eqItems_u8 he hp f g d w (List.range 8) (fun i hi => List.mem_range.1 hi)]
  rfl
end
theorem part_u8 (f : Nat → Int) (i : Nat) (hi : i < 8) (w : World) : (part 23 (u8s f).toArray (i * 1)).run Try.prog w = .ok (.int .u64 (f i)) w := by
  refine run_part_plain w (by kernel_rfl) ?_
  rw [Nat.mul_one, List.getElem?_toArray, u8s_get, if_pos hi]
theorem part_a8 (f : Nat → Int) (i : Nat) (hi : i < 8) (w : World) : (part 24 (u8s f).toArray (i * 1)).run Try.prog w = .ok (.int .u64 (f i)) w := by
  refine run_part_plain w (by kernel_rfl) ?_
  rw [Nat.mul_one, List.getElem?_toArray, u8s_get, if_pos hi]
set_option maxRecDepth 100000 in
set_option maxHeartbeats 1600000 in
theorem eq_any (n m : Nd) : ∃ r : Bool, ∀ w, (Op.equalIn 10000 40 (.agg (ndCells n)) (.agg (ndCells m))).run Try.prog w = .ok r w := by
  have k1 := fun w => eq8_any Try.underlying37 Try.underlying23 (by kernel_rfl) part_u8 n.k m.k 9997 w
  have k2 := fun w => eq8_any Try.underlying38 Try.underlying24 (by kernel_rfl) part_a8 n.p m.p 9997 w
  obtain ⟨r1, h1⟩ : ∃ r, eqU8 n.k m.k = r := ⟨_, rfl⟩
  obtain ⟨r2, h2⟩ : ∃ r, eqU8 n.p m.p = r := ⟨_, rfl⟩
  rw [h1] at k1
  rw [h2] at k2
  have u3 := Try.underlying3
  have a3' := Try.isAgg3
  have z3 := Try.sizeOf3
  have u4 := Try.underlying23
  have a4' := Try.isAgg23
  have z4 := Try.sizeOf23
  have u5 := Try.underlying24
  have a5' := Try.isAgg24
  have z5 := Try.sizeOf24
  replace k1 := fun w => (show (Op.equalIn (9997 + 2) 37 (.agg #[.int .u64 (n.k 0), .int .u64 (n.k 1), .int .u64 (n.k 2), .int .u64 (n.k 3), .int .u64 (n.k 4), .int .u64 (n.k 5), .int .u64 (n.k 6), .int .u64 (n.k 7)]) (.agg #[.int .u64 (m.k 0), .int .u64 (m.k 1), .int .u64 (m.k 2), .int .u64 (m.k 3), .int .u64 (m.k 4), .int .u64 (m.k 5), .int .u64 (m.k 6), .int .u64 (m.k 7)])).run Try.prog w = .ok r1 w from k1 w)
  replace k2 := fun w => (show (Op.equalIn (9997 + 2) 38 (.agg #[.int .u64 (n.p 0), .int .u64 (n.p 1), .int .u64 (n.p 2), .int .u64 (n.p 3), .int .u64 (n.p 4), .int .u64 (n.p 5), .int .u64 (n.p 6), .int .u64 (n.p 7)]) (.agg #[.int .u64 (m.p 0), .int .u64 (m.p 1), .int .u64 (m.p 2), .int .u64 (m.p 3), .int .u64 (m.p 4), .int .u64 (m.p 5), .int .u64 (m.p 6), .int .u64 (m.p 7)])).run Try.prog w = .ok r2 w from k2 w)
  rw [lit21, lit21]
  obtain ⟨b0, g0⟩ : ∃ r, (n.lv == m.lv) = r := ⟨_, rfl⟩
  obtain ⟨b1, g1⟩ : ∃ r, (n.lo == m.lo) = r := ⟨_, rfl⟩
  obtain ⟨b2, g2⟩ : ∃ r, (n.nx == m.nx) = r := ⟨_, rfl⟩
  obtain ⟨b3, g3⟩ : ∃ r, (n.ct == m.ct) = r := ⟨_, rfl⟩
  obtain ⟨b4, g4⟩ : ∃ r, (n.fi == m.fi) = r := ⟨_, rfl⟩
  clear h1 h2
  cases b0
  · refine ⟨false, fun w => ?_⟩; rw [show (10000 : Nat) = 9999 + 1 from rfl, Op.equalIn]; simp only [Sem.run_bind, run_underlying Try.underlying40, Result.andThen_ok]; go_simp
  cases b1
  · refine ⟨false, fun w => ?_⟩; rw [show (10000 : Nat) = 9999 + 1 from rfl, Op.equalIn]; simp only [Sem.run_bind, run_underlying Try.underlying40, Result.andThen_ok]; go_simp
  cases b2
  · refine ⟨false, fun w => ?_⟩; rw [show (10000 : Nat) = 9999 + 1 from rfl, Op.equalIn]; simp only [Sem.run_bind, run_underlying Try.underlying40, Result.andThen_ok]; go_simp
  cases b3
  · refine ⟨false, fun w => ?_⟩; rw [show (10000 : Nat) = 9999 + 1 from rfl, Op.equalIn]; simp only [Sem.run_bind, run_underlying Try.underlying40, Result.andThen_ok]; go_simp
  cases b4
  · refine ⟨false, fun w => ?_⟩; rw [show (10000 : Nat) = 9999 + 1 from rfl, Op.equalIn]; simp only [Sem.run_bind, run_underlying Try.underlying40, Result.andThen_ok]; go_simp
  cases r1
  · refine ⟨false, fun w => ?_⟩; rw [show (10000 : Nat) = 9999 + 1 from rfl, Op.equalIn]; simp only [Sem.run_bind, run_underlying Try.underlying40, Result.andThen_ok]; go_simp
  cases r2
  · refine ⟨false, fun w => ?_⟩; rw [show (10000 : Nat) = 9999 + 1 from rfl, Op.equalIn]; simp only [Sem.run_bind, run_underlying Try.underlying40, Result.andThen_ok]; go_simp
  · refine ⟨true, fun w => ?_⟩; rw [show (10000 : Nat) = 9999 + 1 from rfl, Op.equalIn]; simp only [Sem.run_bind, run_underlying Try.underlying40, Result.andThen_ok]; go_simp
theorem eq_true {n m : Nd} {r : Bool} (h : ∀ w, (Op.equalIn 10000 40 (.agg (ndCells n)) (.agg (ndCells m))).run Try.prog w = .ok r w) (e : ndCells n = ndCells m) (w : World) : r = true := by
  have h1 := h w
  rw [e, eq_nd] at h1
  injection h1 with h1
  exact h1.symm
theorem wp_eq_any {a : Act} {w : World} {K : Act → World → Prop} {Q : Exit → Act → World → Prop} (d : Option Tmp) (i j : Nat) (ty : TypeId) (pos : String) (aft : Array Edge) (g : Option (Nat × Bool)) (n m : Nd)
    (hx : a.tmps[i]?.getD undef = .agg (ndCells n)) (hy : a.tmps[j]?.getD undef = .agg (ndCells m)) (h : ∀ r : Bool, (ndCells n = ndCells m → r = true) → K (a.put d (.bool r)) w) : Oper.wp Try.prog ⟨d, .binOp .eql 40 (.tmp i) (.tmp j) 40, ty, pos, aft, g⟩ a w K Q := by
  obtain ⟨r, q⟩ := eq_any n m
  have h' := h r (fun e => eq_true q e w)
  clear h
  go_simp
  exact h'
end Go.Proofs.Ytgmbnoimlffgcaa
namespace Go.Proofs.Ytgmbnoimlffgcaa
open Go.RowKit
attribute [local go_sem] Oper.semAt_some
set_option linter.unusedVariables false

/-! ### plain -/
theorem rtrim_same (n : Nd) : ndCells (trimN (rtrim n)) = ndCells (trimN n) := by
  have hl : (rtrim n).len = n.len := by
    unfold rtrim
    rw [len_clrK, len_clrP]
  refine trim_same rfl rfl rfl rfl rfl hl (fun i hi => ?_) (fun i hi => ?_)
  · rw [hl] at hi
    have h8 := n.len_le
    show (if n.len + 1 ≤ i ∧ i < 8 then 0 else n.k i) = _
    rw [if_neg (by omega)]
  · rw [hl] at hi
    show (if n.len ≤ i ∧ i < 8 then 0 else n.p i) = _
    rw [if_neg (by omega)]
/-- the node as it is read of a memory that holds its words -/
theorem now_same {n : Nd} {C : List (Int × Int)} {d T : Nat} {low : Int} {vs : List Int} (hC : Course 1088 1280 n C d) (hH : Holds (wAt 1088 n C) low T vs) : ndCells (trimN (rtrim (ofV (nowF vs)).1)) = ndCells (trimN (ndAt 1088 n C T)) := by
  rw [rtrim_same]
  obtain ⟨m, hm⟩ : ∃ m, ndAt 1088 n C T = m := ⟨_, rfl⟩
  have hok := hC.at_ T
  rw [hm] at hok ⊢
  have hlv := hok.lv
  have hW : ∀ i, i < 24 → nowF vs i = fullW m i := fun i hi => by
    have e : nowF vs i = wdM vs 1088 i := if_pos hi
    rw [e, (hH.wd hi).1]
    show wordsF (ndAt 1088 n C T) i = _
    rw [hm]
    exact words_full hlv hi
  have e0 : nowF vs 0 = tagM + m.lv := hW 0 (by decide)
  have hb : ofBad (nowF vs) = false := by
    unfold ofBad
    rw [e0, decide_eq_false (by omega), decide_eq_false (by omega)]; rfl
  have ho : ofV (nowF vs) = (nTo (nowF vs) 8, 0) := by unfold ofV; rw [hb]; rfl
  rw [ho]
  have hk : ∀ i, i < 8 → (nTo (nowF vs) 8).k i = m.k i := fun i hi => by
    show (if i < 8 then nowF vs (8 + 2 * i) else 0) = m.k i
    rw [if_pos hi, hW _ (by omega), fullW_key]
  have hp : ∀ i, i < 8 → (nTo (nowF vs) 8).p i = m.p i := fun i hi => by
    show (if i < 8 then nowF vs (9 + 2 * i) else 0) = m.p i
    rw [if_pos hi, hW _ (by omega), fullW_ptr]
  have hm8 := m.len_le
  have hlen : (nTo (nowF vs) 8).len = m.len := len_unique (fun j hj => hp j (by omega)) (fun h => by rw [hp _ h]; exact m.p_len h)
  refine trim_same ?_ (hW 1 (by decide)) (hW 2 (by decide)) (hW 3 (by decide)) (hW 4 (by decide)) hlen (fun i hi => hk i (by have hi' : i < (nTo (nowF vs) 8).len := hi; omega)) (fun i hi => hp i (by have hi' : i < (nTo (nowF vs) 8).len := hi; omega))
  show nowF vs 0 - tagM = m.lv
  omega
/-- the words of a snapshot are words -/
theorem MsI.u64 {Wt : Nat → Nat → Int} {low : Int} {τ0 τ : Nat} {q : Prop} {sb : Nat} {mv : Option Addr} {i : Nat} {s : Sn} (h : MsI Wt low τ0 τ q sb mv i s) (hW : ∀ t j, U64 (Wt t j)) : ∀ j, U64 (s.a j) := by
  have key : ∀ {A : Nat → Int} {kn c T : Nat}, (A 3 = Wt c 3) → Got Wt A kn c T → ∀ j, U64 (rdW A kn j) := fun {A kn c T} h3 hG j => by
    unfold rdW
    split
    · rename_i hj
      rcases hj with rfl | ⟨hp, hk⟩
      · rw [h3]; exact hW _ _
      · obtain ⟨t, _, _, e⟩ := hG j hk hp
        rw [e]; exact hW _ _
    · exact U64.zero
  intro j
  obtain ⟨hB, h | ⟨kn, c, A, hR, hC, h1, h2, h3, h4, _⟩ | ⟨kn, c, T, A, hR, hC, hT, h1, h2, h3, h4, h5, _⟩ | ⟨c, T, A, h0, hC, hT, h1, h2, h3, h4, h5, h6, _⟩ | ⟨c, T, A, h0, hC, hT, h1, h2, h3, h4, h5, h6, _⟩⟩ := h
  · rw [h.2.1]; exact U64.zero
  · rw [h2]; exact key hC.ct h4 j
  · rw [h2]; exact key hC.ct h4 j
  · rw [h1]; exact key hC.ct h3 j
  · rw [h1]; exact key hC.ct h3 j
theorem few_v (a : Option Addr) (n c : Nat) (w : World) : Calls Try.prog 25 #[.slice a n c] w fun e w' => e = .returned (.bool (decide ((n : Int) ≤ 20))) ∧ w' = w := by
  go_enter Try.func25, Try.ntmps25
  go_wp2_with (fail)
  go_ret
  exact ⟨rfl, rfl⟩

/-! ### the worlds of the law -/
/-- memory and writer, at a time -/
structure LwW (n0 : Nd) (low : Int) (C : List (Int × Int)) (wb mb B T : Nat) (N : Int) (S A : Nat → Prop) (vs : List Int) (w0 wr : World) : Prop where
  m : MemN wr mb S vs N
  h : Holds (wAt 1088 n0 C) low T vs
  u : U64s vs
  w : Wr wr wb mb B S A C T
  b : Below B w0 wr
section
variable {n0 : Nd} {low : Int} {C : List (Int × Int)} {wb mb B T d : Nat} {N : Int} {S A : Nat → Prop} {vs : List Int} {w0 wr w' : World}
theorem LwW.kept (h : LwW n0 low C wb mb B T N S A vs w0 wr) {X : Nat → Prop} (hk : Keeps X wr w') (hX : ∀ i, X i → B ≤ i ∧ ¬ A i) : LwW n0 low C wb mb B T N S A vs w0 w' :=
  ⟨h.m.kept hk (fun i hi e => (hX i e).2 (h.w.sub i hi)), h.h, h.u, h.w.kept hk (fun i e => ⟨(hX i e).1, fun ha => absurd ha (hX i e).2⟩), h.b.trans ⟨hk.os, hk.tape, hk.output, hk.size, fun i hi => hk.block i (by have := h.w.sz; omega) (fun e => by have := (hX i e).1; omega)⟩⟩
theorem LwW.below (h : LwW n0 low C wb mb B T N S A vs w0 wr) (hB : Below wr.heap.size wr w') : LwW n0 low C wb mb B T N S A vs w0 w' := h.kept (Keeps.of_below' hB) (fun i e => e.elim)
/-- the writer's step -/
theorem lstep_v (h : LwW n0 low C wb mb B T N S A vs w0 wr) (hC : Course 1088 1280 n0 C d) (hN : N ≤ 1000000) :
    Calls Try.prog 26 #[.pointer (some ⟨wb, 0, none⟩)] wr fun e w' => ∃ b T' vs' S' A', e = .returned (.bool b) ∧ (T' = T ∨ T' = T + 1) ∧ LwW n0 low C wb mb B T' (N + 1) S' A' vs' w0 w' ∧ (∀ i, A' i → A i ∨ wr.heap.size ≤ i) ∧ Keeps A wr w' :=
  (wstep_v n0 low wr wb mb B S A C d T vs N h.w h.m hN hC h.h h.u).mono (by
    rintro e w' ⟨b, T', vs', S', A', rfl, h1, h2, h3, h4, h5, h6, h7⟩
    exact ⟨b, T', vs', S', A', rfl, h1, ⟨h2, h3, h4, h5, h.b.trans ⟨h7.os, h7.tape, h7.output, h7.size, fun i hi => h7.block i (by have := h.w.sz; omega) (fun e => by have := (h.w.own i e).1; omega)⟩⟩, h6, h7⟩)
/-- its node, as it stands -/
theorem lnow_v (h : LwW n0 low C wb mb B T N S A vs w0 wr) :
    Calls Try.prog 27 #[.pointer (some ⟨mb, 0, none⟩)] wr fun e w' => e = .returned (.agg (ndCells (rtrim (ofV (nowF vs)).1))) ∧ LwW n0 low C wb mb B T N S A vs w0 w' ∧ Keeps S wr w' := by
  obtain ⟨is, mk, F, lo, st, fl, fe, hm, h1, h2, h3⟩ := h.m
  refine (now_v wr mb S vs lo st fl fe ⟨is, mk, F, hm⟩ h.u).mono ?_
  rintro e w' ⟨rfl, ⟨lo', is', mk', F', hm'⟩, hk⟩
  exact ⟨rfl, ⟨⟨is', mk', F', lo', st, fl, fe, hm', h1, h2, h3⟩, h.h, h.u, h.w.kept hk (fun i hi => ⟨(h.w.own i (h.w.sub i hi)).1, fun _ => hi⟩), h.b.trans ⟨hk.os, hk.tape, hk.output, hk.size, fun i hi => hk.block i (by have := h.w.sz; omega) (fun e => by have := (h.w.own i (h.w.sub i e)).1; omega)⟩⟩, hk⟩
/-- the snapshot's step -/
theorem lsnap_v {q : Prop} {τ0 sb i : Nat} {s : Sn} (h : LwW n0 low C wb mb B T N S A vs w0 wr) (hC : Course 1088 1280 n0 C d) (hτ : τ0 ≤ T) (hQ : q → T = τ0) (hb : Blk wr sb (snCells s) 62) (hsA : ¬ A sb) (hsB : B ≤ sb) (hI : MsI (wAt 1088 n0 C) low τ0 T q sb (some ⟨mb, 0, none⟩) i s) :
    Calls Try.prog 11 #[.pointer (some ⟨sb, 0, none⟩)] wr fun e w' => ∃ dn er s', e = .returned (.tuple #[.bool dn, .int .i64 er]) ∧ StepM (wAt 1088 n0 C) low τ0 T q sb (some ⟨mb, 0, none⟩) i dn er s' ∧ Blk w' sb (snCells s') 62 ∧ LwW n0 low C wb mb B T N S A vs w0 w' ∧ Keeps (fun i => i = sb ∨ S i) wr w' := by
  obtain ⟨is, mk, F, lo, st, fl, fe, hm, h1, h2, h3⟩ := h.m
  have hX : ∀ i, (i = sb ∨ S i) → B ≤ i ∧ (A i → S i) := fun i hi => by
    rcases hi with rfl | hi
    · exact ⟨hsB, fun e => absurd e hsA⟩
    · exact ⟨(h.w.own i (h.w.sub i hi)).1, fun _ => hi⟩
  refine (step_ms wr s sb mb S vs is mk F lo st fl fe i hC.crs h.w.tl hτ hQ h.h hb hm (fun e => hsA (h.w.sub sb e)) hI (hI.u64 (fun t j => wordsF_rng (hC.at_ t).wf j))).mono ?_
  rintro e w' ⟨dn, er, s', lo', hS, hP⟩
  exact ⟨dn, er, s', hP.e, hS, hP.b, ⟨⟨is, mk, F, lo', st, fl, fe, hP.m, h1, h2, h3⟩, h.h, h.u, h.w.kept hP.k hX, h.b.trans ⟨hP.k.os, hP.k.tape, hP.k.output, hP.k.size, fun i hi => hP.k.block i (by have := h.w.sz; omega) (fun e => by have := (hX i e).1; omega)⟩⟩, hP.k⟩
end
/-- at the start -/
theorem lw_start {w0 w6 : World} {m : Nd} {low : Int} {b mb : Nat} {S : Nat → Prop} {vs : List Int} {v : Value} {l : List Rq} (hm : MemV w6 mb S vs 0 48 6 1) (hu : U64s vs) (hl : vs.length = 512) (hv : ∀ i, i < 24 → vs.getD (136 + i) 0 = wordsF m i) (hs : ∀ i, i < 24 → vs.getD (160 + i) 0 = wordsF (sideN low) i)
    (hS : ∀ i, S i → b ≤ i ∧ i < w6.heap.size) (hB : Below b w0 w6) (h0 : b ≤ w0.heap.size) (ha : AskAt w0 b v l) (hn : NdOk 1280 m) (hlu : ∀ x ∈ l, U64 x.2.1 ∧ U64 x.2.2) (hll : l.length ≤ 1000) :
    LwW m low (comeL 1088 m (l.map akOf)) w6.heap.size mb b 0 48 S (fun i => S i ∨ i = w6.heap.size) vs w0 (w6.alloc (.cells (wrCells mb m v none) 76)) := by
  have h6 : b ≤ w6.heap.size := Nat.le_trans h0 hB.size
  have hB7 : Below w6.heap.size w6 (w6.alloc (.cells (wrCells mb m v none) 76)) := (Below.refl _ w6).alloc (Nat.le_refl _) _
  have hz : (w6.alloc (.cells (wrCells mb m v none) 76)).heap.size = w6.heap.size + 1 := by simp
  have hb : Below b w0 (w6.alloc (.cells (wrCells mb m v none) 76)) := hB.trans (hB7.mono h6)
  refine ⟨?_, ⟨hl, fun i hi => hv i hi, (hs 1 (by decide)).trans rfl⟩, hu, ⟨by omega, fun i hi => ?_, fun i hi => .inl hi, .inr rfl, fun h => by have := (hS _ h).2; omega, Nat.zero_le _, m, v, l, none, Blk.new w6 _ _, ha.kept (Keeps.of_below hb) h0 (fun i e => e), hn, hlu, hll, .inl ⟨rfl, rfl⟩⟩, hb⟩
  · obtain ⟨is, mk, F, hm⟩ := hm
    exact ⟨is, mk, F, 0, 48, 6, 1, hm.below hB7, by omega, by omega, by omega⟩
  · rcases hi with hi | rfl
    · have := hS i hi; omega
    · omega
theorem rightB_may {m : Nd} (h : rightB m = true) : m.mayB 0 false = true := by
  unfold rightB at h
  exact (Bool.and_eq_true_iff.1 h).1
theorem ask_all {l : List Rq} (h : ∀ x ∈ l, U64 x.2.1 ∧ U64 x.2.2) : ∀ a ∈ l.map akOf, AkOk 1280 a := by
  intro a ha
  obtain ⟨x, hx, rfl⟩ := List.mem_map.1 ha
  exact ask11_ok (h x hx).1 (h x hx).2

/-! ### the main loop's worlds -/
/-- memory, writer, snapshot, moments (those up to a time) -/
structure MnW (n0 : Nd) (low : Int) (C : List (Int × Int)) (wb mb B τ0 nt sb k T Tc : Nat) (N : Int) (S A : Nat → Prop) (vs : List Int) (s : Sn) (ms : List Nd) (mv : Value) (w0 wr : World) : Prop where
  l : LwW n0 low C wb mb B T N S A vs w0 wr
  t : τ0 ≤ T ∧ (nt = 0 → T = τ0)
  bs : Blk wr sb (snCells s) 62
  sn : B ≤ sb ∧ ¬ A sb
  i : MsI (wAt 1088 n0 C) low τ0 T (nt = 0) sb (some ⟨mb, 0, none⟩) k s
  o : wr.ownsRow B 40 21 mv ms.length (ncs ms)
  ob : ∀ i, mv.ownBlock = some i → ¬ A i ∧ i ≠ sb
  c : ∀ T', τ0 ≤ T' → T' ≤ Tc → ∃ nd ∈ ms, ndCells nd = ndCells (trimN (ndAt 1088 n0 C T'))
  len : ms.length ≤ k + 1 ∧ 0 < ms.length
section
variable {n0 : Nd} {low : Int} {C : List (Int × Int)} {wb mb B τ0 nt sb k T T' Tc : Nat} {N N' : Int} {S S' A A' : Nat → Prop} {vs vs' : List Int} {s : Sn} {ms : List Nd} {mv mv' : Value} {w0 wr w' w2 : World} {nd : Nd}
theorem MnW.lt (h : MnW n0 low C wb mb B τ0 nt sb k T Tc N S A vs s ms mv w0 wr) {i : Nat} (hi : mv.ownBlock = some i) : i < wr.heap.size := own_ltS h.o hi
/-- the writer has stepped -/
theorem MnW.step (h : MnW n0 low C wb mb B τ0 nt sb k T Tc N S A vs s ms mv w0 wr) (hT : T' = T ∨ T' = T + 1) (hL : LwW n0 low C wb mb B T' N' S' A' vs' w0 w') (hA : ∀ i, A' i → A i ∨ wr.heap.size ≤ i) (hk : Keeps A wr w') (hnt : nt ≠ 0) : MnW n0 low C wb mb B τ0 nt sb (k + 1) T' Tc N' S' A' vs' s ms mv w0 w' :=
  ⟨hL, ⟨by have := h.t.1; omega, fun e => absurd e hnt⟩, h.bs.kept hk h.sn.2, ⟨h.sn.1, fun e => (hA _ e).elim h.sn.2 (fun e => by have := h.bs.lt; omega)⟩, h.i.turn hnt (by omega), own_keeps h.o hk (fun i hi e => (h.ob i hi).1 e), fun i hi => ⟨fun e => (hA _ e).elim (h.ob i hi).1 (fun e => by have := h.lt hi; omega), (h.ob i hi).2⟩, h.c, by have := h.len; omega⟩
/-- what else goes on -/
theorem MnW.move (h : MnW n0 low C wb mb B τ0 nt sb k T Tc N S A vs s ms mv w0 wr) (hL : LwW n0 low C wb mb B T N S A vs w0 w') {X : Nat → Prop} (hk : Keeps X wr w') (hX : ∀ i, X i → A i) : MnW n0 low C wb mb B τ0 nt sb k T Tc N S A vs s ms mv w0 w' :=
  ⟨hL, h.t, h.bs.kept hk (fun e => h.sn.2 (hX _ e)), h.sn, h.i, own_keeps h.o hk (fun i hi e => (h.ob i hi).1 (hX _ e)), h.ob, h.c, h.len⟩
theorem MnW.below (h : MnW n0 low C wb mb B τ0 nt sb k T Tc N S A vs s ms mv w0 wr) (hB : Below wr.heap.size wr w') : MnW n0 low C wb mb B τ0 nt sb k T Tc N S A vs s ms mv w0 w' :=
  h.move (h.l.below hB) (Keeps.of_below' hB) (fun i e => e.elim)
/-- a moment appended -/
theorem MnW.app (h : MnW n0 low C wb mb B τ0 nt sb (k + 1) T Tc N S A vs s ms mv w0 wr) (hTc : T = Tc ∨ T = Tc + 1) (hlen : ms.length ≤ k + 1) (he : ndCells nd = ndCells (trimN (ndAt 1088 n0 C T))) (ho : w'.ownsRow B 40 21 mv' (ms ++ [nd]).length (ncs (ms ++ [nd]))) (hg : wr.grownBy w' mv.ownBlock) (hv : mv'.ownBlock = mv.ownBlock ∨ mv'.ownBlock = some wr.heap.size) :
    MnW n0 low C wb mb B τ0 nt sb (k + 1) T T N S A vs s (ms ++ [nd]) mv' w0 w' := by
  have hk : Keeps (fun i => mv.ownBlock = some i) wr w' := ⟨hg.os, hg.tape, hg.output, hg.size, fun i hi hn => hg.block i hi (fun e => hn e.symm)⟩
  refine ⟨h.l.kept hk (fun i hi => ⟨own_base h.o i hi, (h.ob i hi).1⟩), h.t, h.bs.kept hk (fun e => (h.ob _ e).2 rfl), h.sn, h.i, ho, fun i hi => ?_, fun T' h1 h2 => ?_, ?_⟩
  · rcases hv with hv | hv
    · exact h.ob i (hv ▸ hi)
    · rw [hv] at hi
      injection hi with hi
      subst hi
      exact ⟨fun e => by have := (h.l.w.own _ e).2; omega, fun e => by have := h.bs.lt; omega⟩
  · by_cases h3 : T' = T
    · subst h3
      exact ⟨nd, by simp, he⟩
    · obtain ⟨x, hx, e⟩ := h.c T' h1 (by omega)
      exact ⟨x, List.mem_append_left _ hx, e⟩
  · rw [List.length_append, List.length_singleton]; omega
/-- the snapshot has stepped -/
theorem MnW.snap {s' : Sn} (h : MnW n0 low C wb mb B τ0 nt sb k T Tc N S A vs s ms mv w0 wr) (hL : LwW n0 low C wb mb B T N S A vs w0 w') (hk : Keeps (fun i => i = sb ∨ S i) wr w') (hs : Blk w' sb (snCells s') 62) (hi : MsI (wAt 1088 n0 C) low τ0 T (nt = 0) sb (some ⟨mb, 0, none⟩) (k + 1) s') :
    MnW n0 low C wb mb B τ0 nt sb (k + 1) T Tc N S A vs s' ms mv w0 w' :=
  ⟨hL, h.t, hs, h.sn, hi, own_keeps h.o hk (fun i hi e => e.elim (h.ob i hi).2 (fun e => (h.ob i hi).1 (h.l.w.sub i e))), h.ob, h.c, by have := h.len; omega⟩
theorem MnW.mono (h : MnW n0 low C wb mb B τ0 nt sb k T Tc N S A vs s ms mv w0 wr) (hN : N ≤ N') : MnW n0 low C wb mb B τ0 nt sb k T Tc N' S A vs s ms mv w0 wr :=
  ⟨⟨h.l.m.mono hN, h.l.h, h.l.u, h.l.w, h.l.b⟩, h.t, h.bs, h.sn, h.i, h.o, h.ob, h.c, h.len⟩
theorem MnW.start {w10 : World} (hL : LwW n0 low C wb mb B T N S A vs w0 w10) (hs : Blk w10 sb (snCells (snNew sb (some ⟨mb, 0, none⟩) 1088)) 62) (hsb : B ≤ sb ∧ ¬ A sb) (he : ndCells nd = ndCells (trimN (ndAt 1088 n0 C T))) :
    MnW n0 low C wb mb B T nt sb 0 T T N S A vs (snNew sb (some ⟨mb, 0, none⟩) 1088) [nd] (.slice (some ⟨w10.heap.size, 0, none⟩) 1 1) w0 (w10.alloc (.cells (ndCells nd) 40)) := by
  have hB : Below w10.heap.size w10 (w10.alloc (.cells (ndCells nd) 40)) := (Below.refl _ w10).alloc (Nat.le_refl _) _
  refine ⟨hL.below hB, ⟨Nat.le_refl _, fun _ => rfl⟩, hs.alloc _, hsb, MsI.new (Nat.le_refl _), own_nd1 w10 B nd hL.w.sz, fun i hi => ?_, fun T' h1 h2 => ?_, by simp⟩
  · injection hi with hi
    have e : w10.heap.size = i := hi
    exact ⟨fun h => by have := (hL.w.own i h).2; omega, fun h => by have := hs.lt; omega⟩
  · obtain rfl : T' = T := by omega
    exact ⟨nd, by simp, he⟩
theorem fold_nd (n : Nd) : Array.foldl (fun (cs : Array Value) (x : Value × Nat) => cs.setIfInBounds x.snd x.fst) #[Value.int .i64 0, Value.int .u64 0, Value.int .u64 0, Value.int .u64 0, Value.int .u64 0, Value.int .u64 0, Value.int .u64 0, Value.int .u64 0, Value.int .u64 0, Value.int .u64 0, Value.int .u64 0, Value.int .u64 0, Value.int .u64 0, Value.int .u64 0, Value.int .u64 0, Value.int .u64 0, Value.int .u64 0, Value.int .u64 0, Value.int .u64 0, Value.int .u64 0, Value.int .u64 0] (ndCells n).zipIdx 0 (ndCells n).size = ndCells n := by
  rw [lit21]; kernel_rfl
theorem size_not (n : Nd) {P : Prop} (h : (decide ¬(ndCells n).size = 21) = true ∨ 21 < (ndCells n).size) : P := by
  rw [ndCells_size] at h
  simp at h
end
end Go.Proofs.Ytgmbnoimlffgcaa
