/-
  THE DOCUMENT's LOCKS: Held.
-/
import Derived.Test.YtajccnmeijgagaaRi
import Derived.Test.YtajccnmeijgagaaFa
namespace Go.Proofs.Ytajccnmeijgagaa
open Go.RowKit Go.Maps
set_option linter.unusedVariables false

/-! ### single operations -/

/-- a part of a slice that reads as a list -/
def SubR (B j : Nat) (xs : List Int) (v : Value) (W : World) : Prop := ∃ A c, v = .slice A j c ∧ Reads W B 1 A j (xs.map (Value.int .u64)) ∧ xs.length = j
theorem Reads.take {w : World} {B : Nat} {A : Option Addr} {n : Nat} {xs : List Value} (h : Reads w B 1 A n xs) {k : Nat} (hk : k ≤ n) : Reads w B 1 A k (xs.take k) := by
  refine ⟨by have := h.1; simp; omega, fun h0 => ?_⟩
  obtain ⟨ad, e, hb, hc⟩ := h.2 (by omega)
  refine ⟨ad, e, hb, fun j u hu => ?_⟩
  rcases Nat.lt_or_ge j k with hj | hj
  · rw [List.getElem?_take_of_lt hj] at hu; exact hc j u hu
  · rw [List.getElem?_take_eq_none hj] at hu; cases hu
theorem szA (w : World) : (sizeOf (Try.prog.elem 37)).run Try.prog w = .ok 1 w := by kernel_rfl
theorem elA : Try.prog.elem 37 = 29 := by kernel_rfl
theorem unA : Try.prog.underlying 37 = some (.slice (Try.prog.elem 37)) := by rw [elA]; exact Try.underlying37
theorem wp_slice_to {o : Oper} {a : Act} {w : World} {K : Act → World → Prop} {Q : Exit → Act → World → Prop} (x y : Operand) (ho : o.op = .slice 37 x none (some y) none)
    (A : Option Addr) (n c j B : Nat) (xs : List Int) (hx : a.eval x = .slice A n c) (hy : a.eval y = .int .i64 (j : Int)) (hn : xs.length = n) (hj : j ≤ n) (hc : n ≤ c) (hm : c ≤ maxLen) (hr : Reads w B 1 A n (xs.map (Value.int .u64)))
    (h : ∀ v, SubR B j (xs.take j) v w → K (a.put o.dst v) w) : Oper.wp Try.prog o a w K Q := by
  have e := run_slice_h (P := Try.prog) (w := w) 37 A n c unA .i64 (j : Int) (by omega) (by omega)
  unfold Oper.wp execOp
  simp only [ho, hx, hy, Option.map_none, Option.map_some, Sem.run_bind, run_sliceAt_slice (P := Try.prog) (w := w) 37 _ _ _ _ unA, e, szA, Result.andThen_ok, Sem.run_pure]
  refine h _ ⟨A, c, ?_, ?_, ?_⟩
  · unfold sliced
    simp
    intro h0
    cases A <;> rfl
  · rw [List.map_take]; exact hr.take hj
  · rw [List.length_take]; omega
theorem wp_slice_from {o : Oper} {a : Act} {w : World} {K : Act → World → Prop} {Q : Exit → Act → World → Prop} (x y : Operand) (ho : o.op = .slice 37 x (some y) none none)
    (A : Option Addr) (n c j B : Nat) (xs : List Int) (hx : a.eval x = .slice A n c) (hy : a.eval y = .int .i64 (j : Int)) (hn : xs.length = n) (hj : j ≤ n) (hc : n ≤ c) (hm : c ≤ maxLen) (hr : Reads w B 1 A n (xs.map (Value.int .u64)))
    (h : ∀ v, SubR B (n - j) (xs.drop j) v w → K (a.put o.dst v) w) : Oper.wp Try.prog o a w K Q := by
  have e := run_slice_l (P := Try.prog) (w := w) 37 A n c unA .i64 (j : Int) (by omega) (by omega)
  unfold Oper.wp execOp
  simp only [ho, hx, hy, Option.map_none, Option.map_some, Sem.run_bind, run_sliceAt_slice (P := Try.prog) (w := w) 37 _ _ _ _ unA, e, szA, Result.andThen_ok, Sem.run_pure]
  refine h _ ⟨_, _, rfl, ?_, ?_⟩
  · rw [List.map_drop, Int.toNat_natCast]
    have := hr.cut (k := j) (cap := c) hj hc
    simpa using this
  · rw [List.length_drop]; omega
theorem own_below' {B : Nat} {e : TypeId} {k : Nat} {v : Value} {n : Nat} {xs : List Value} {w w' : World} (h : w.ownsRow B e k v n xs) (hb : Below w.heap.size w w') : w'.ownsRow B e k v n xs := own_keeps h (Keeps.of_below' hb) (fun _ _ h => h)
theorem SubR.below {B j : Nat} {xs : List Int} {v : Value} {W W' : World} (h : SubR B j xs v W) (hB : Below B W W') : SubR B j xs v W' := by
  obtain ⟨A, c, e, q, z⟩ := h
  exact ⟨A, c, e, q.below hB, z⟩
theorem reads_one {w : World} {g B : Nat} {v : Value} (hg : g < B) (h : w.cell? ⟨g, 0, none⟩ = some v) : Reads w B 1 (some ⟨g, 0, none⟩) 1 [v] :=
  ⟨rfl, fun _ => ⟨_, rfl, hg, fun j u hu => by
    cases j with
    | zero => simp at hu; subst hu; exact h
    | succ j => simp at hu⟩⟩
/-- what the region of the insertion has done -/
structure HG (B : Nat) (x : Int) (A C : List Int) (L : Nat → Bool) (a : Act) (W : World) : Prop where
  e3 : L 3 = true → L 13 = false → ∃ v, a.tmps[51]?.getD undef = v ∧ W.ownsRow B 29 1 v A.length (A.map (Value.int .u64))
  e12 : L 12 = true → L 13 = false → ∃ H, a.tmps[60]?.getD undef = .slice (some ⟨H, 0, none⟩) 1 1 ∧ H < W.heap.size ∧ W.cell? ⟨H, 0, none⟩ = some (.int .u64 x)
  e13 : L 13 = true → L 17 = false → ∃ v, a.tmps[61]?.getD undef = v ∧ W.ownsRow B 29 1 v (A.length + 1) ((A ++ [x]).map (Value.int .u64))
  e17 : L 17 = true → ∃ v, a.tmps[65]?.getD undef = v ∧ W.ownsRow B 29 1 v (A ++ x :: C).length ((A ++ x :: C).map (Value.int .u64))
  e18 : L 18 = true → a.tmps[5]?.getD undef = a.tmps[65]?.getD undef
theorem put_same {a : Act} {s : Nat} {v : Value} (h : s < a.tmps.size) : (a.put (some s) v).tmps[s]?.getD undef = v := by simp [Act.put, h]
theorem put_ne {a : Act} {d : Option Tmp} {s : Nat} {v : Value} (h : d ≠ some s) : (a.put d v).tmps[s]?.getD undef = a.tmps[s]?.getD undef := by
  have := getD_put_ne (a := a) (v := v) h
  simpa only [Array.getD_eq_getD_getElem?] using this
section
variable {B : Nat} {x : Int} {A C : List Int} {L L' : Nat → Bool} {a : Act} {W W' : World}
theorem HG.nothing : HG B x A C (fun _ => false) a W := ⟨by simp, by simp, by simp, by simp, by simp⟩
theorem HG.keep (h : HG B x A C L a W) {d : Option Tmp} {v : Value} (h3 : L' 3 = L 3) (h12 : L' 12 = L 12) (h13 : L' 13 = L 13) (h17 : L' 17 = L 17) (h18 : L' 18 = L 18) (hd : ∀ s, s = 51 ∨ s = 60 ∨ s = 61 ∨ s = 65 ∨ s = 5 → d ≠ some s) (hB : Below W.heap.size W W') : HG B x A C L' (a.put d v) W' := by
  refine ⟨?_, ?_, ?_, ?_, ?_⟩ <;> simp only [h3, h12, h13, h17, h18, put_ne (hd 51 (by simp)), put_ne (hd 60 (by simp)), put_ne (hd 61 (by simp)), put_ne (hd 65 (by simp)), put_ne (hd 5 (by simp))]
  · intro p q; obtain ⟨v, e, o⟩ := h.e3 p q; exact ⟨v, e, own_below' o hB⟩
  · intro p q; obtain ⟨H, e, hl, o⟩ := h.e12 p q; exact ⟨H, e, Nat.lt_of_lt_of_le hl hB.size, (hB.cell (p := ⟨H, 0, Option.none⟩) hl).trans o⟩
  · intro p q; obtain ⟨v, e, o⟩ := h.e13 p q; exact ⟨v, e, own_below' o hB⟩
  · intro p; obtain ⟨v, e, o⟩ := h.e17 p; exact ⟨v, e, own_below' o hB⟩
  · exact h.e18
theorem HG.s3 (h : HG B x A C L a W) {v : Value} (hf : L 3 = false) (hz : 51 < a.tmps.size) (hB : Below W.heap.size W W') {j : Nat} (hl : A.length = j) (ho : W'.ownsRow B 29 1 v j (A.map (Value.int .u64))) : HG B x A C (lset L 3) (a.put (some 51) v) W' := by
  refine ⟨?_, ?_, ?_, ?_, ?_⟩ <;> simp only [show lset L 3 12 = L 12 from rfl, show lset L 3 13 = L 13 from rfl, show lset L 3 17 = L 17 from rfl, show lset L 3 18 = L 18 from rfl, put_same hz, put_ne (show (some 51 : Option Tmp) ≠ some 60 by decide), put_ne (show (some 51 : Option Tmp) ≠ some 61 by decide), put_ne (show (some 51 : Option Tmp) ≠ some 65 by decide), put_ne (show (some 51 : Option Tmp) ≠ some 5 by decide)]
  · intro _ _; exact ⟨v, rfl, by rw [hl]; exact ho⟩
  · intro p q; obtain ⟨H, e, hl, o⟩ := h.e12 p q; exact ⟨H, e, Nat.lt_of_lt_of_le hl hB.size, (hB.cell (p := ⟨H, 0, Option.none⟩) hl).trans o⟩
  · intro p q; obtain ⟨v, e, o⟩ := h.e13 p q; exact ⟨v, e, own_below' o hB⟩
  · intro p; obtain ⟨v, e, o⟩ := h.e17 p; exact ⟨v, e, own_below' o hB⟩
  · exact h.e18
theorem HG.s12 (h : HG B x A C L a W) (hz : 60 < a.tmps.size) (o : Obj) (ho : o = .cells #[.int .u64 x] 29) : HG B x A C (lset L 12) (a.put (some 60) (.slice (some ⟨W.heap.size, 0, Option.none⟩) 1 1)) (W.alloc o) := by
  have hB : Below W.heap.size W (W.alloc o) := (Below.refl _ _).alloc (Nat.le_refl _) _
  refine ⟨?_, ?_, ?_, ?_, ?_⟩ <;> simp only [show lset L 12 3 = L 3 from rfl, show lset L 12 13 = L 13 from rfl, show lset L 12 17 = L 17 from rfl, show lset L 12 18 = L 18 from rfl, put_same hz, put_ne (show (some 60 : Option Tmp) ≠ some 51 by decide), put_ne (show (some 60 : Option Tmp) ≠ some 61 by decide), put_ne (show (some 60 : Option Tmp) ≠ some 65 by decide), put_ne (show (some 60 : Option Tmp) ≠ some 5 by decide)]
  · intro p q; obtain ⟨v, e, o⟩ := h.e3 p q; exact ⟨v, e, own_below' o hB⟩
  · intro _ _
    subst ho
    refine ⟨_, rfl, by simp, ?_⟩
    rw [(Blk.new W #[.int .u64 x] 29).cell]; rfl
  · intro p q; obtain ⟨v, e, o⟩ := h.e13 p q; exact ⟨v, e, own_below' o hB⟩
  · intro p; obtain ⟨v, e, o⟩ := h.e17 p; exact ⟨v, e, own_below' o hB⟩
  · exact h.e18
theorem HG.s13 {v : Value} (hz : 61 < a.tmps.size) (h17 : L 17 = false) (h18 : L 18 = false) (ho : W'.ownsRow B 29 1 v (A.length + 1) ((A ++ [x]).map (Value.int .u64))) : HG B x A C (lset L 13) (a.put (some 61) v) W' := by
  refine ⟨?_, ?_, ?_, ?_, ?_⟩ <;> simp only [show lset L 13 3 = L 3 from rfl, show lset L 13 12 = L 12 from rfl, show lset L 13 13 = true from rfl, show lset L 13 17 = L 17 from rfl, show lset L 13 18 = L 18 from rfl, put_same hz]
  · intro _ q; cases q
  · intro _ q; cases q
  · intro _ _; exact ⟨v, rfl, ho⟩
  · rw [h17]; intro q; cases q
  · rw [h18]; intro q; cases q
theorem HG.s17 {v : Value} (hz : 65 < a.tmps.size) (h13 : L 13 = true) (h18 : L 18 = false) (ho : W'.ownsRow B 29 1 v (A ++ x :: C).length ((A ++ x :: C).map (Value.int .u64))) : HG B x A C (lset L 17) (a.put (some 65) v) W' := by
  refine ⟨?_, ?_, ?_, ?_, ?_⟩ <;> simp only [show lset L 17 3 = L 3 from rfl, show lset L 17 12 = L 12 from rfl, show lset L 17 13 = L 13 from rfl, show lset L 17 17 = true from rfl, show lset L 17 18 = L 18 from rfl, put_same hz]
  · rw [h13]; intro _ q; cases q
  · rw [h13]; intro _ q; cases q
  · intro _ q; cases q
  · intro _; exact ⟨v, rfl, ho⟩
  · rw [h18]; intro q; cases q
theorem HG.s18 (h : HG B x A C L a W) {v : Value} (hz : 5 < a.tmps.size) (e : a.tmps[65]?.getD undef = v) : HG B x A C (lset L 18) (a.put (some 5) v) W := by
  refine ⟨?_, ?_, ?_, ?_, ?_⟩ <;> simp only [show lset L 18 3 = L 3 from rfl, show lset L 18 12 = L 12 from rfl, show lset L 18 13 = L 13 from rfl, show lset L 18 17 = L 17 from rfl, put_same hz, put_ne (show (some 5 : Option Tmp) ≠ some 51 by decide), put_ne (show (some 5 : Option Tmp) ≠ some 60 by decide), put_ne (show (some 5 : Option Tmp) ≠ some 61 by decide), put_ne (show (some 5 : Option Tmp) ≠ some 65 by decide)]
  · exact h.e3
  · exact h.e12
  · exact h.e13
  · exact h.e17
  · exact fun _ => e.symm
end
/-! ### the plain steps -/
theorem insS_at {x : Int} : ∀ {xs : List Int} {j : Nat}, (∀ i, i < j → xs.getD i 0 < x) → j ≤ xs.length → (j < xs.length → ¬ xs.getD j 0 < x) → insS x xs = xs.take j ++ x :: xs.drop j
  | [], j, _, hj, _ => by
    have : j = 0 := by simpa using hj
    subst this; rfl
  | y :: r, 0, _, _, h => by
    have h0 : ¬ y < x := by simpa using h (by simp)
    unfold insS
    rw [List.takeWhile_cons, if_neg (by simpa using h0), List.dropWhile_cons, if_neg (by simpa using h0)]
    rfl
  | y :: r, j + 1, h1, hj, h => by
    have h0 : y < x := by simpa using h1 0 (by omega)
    have ih := insS_at (x := x) (xs := r) (j := j) (fun i hi => by simpa using h1 (i + 1) (by omega)) (by simpa using hj) (fun hl => by simpa using h (by simpa using hl))
    unfold insS at ih ⊢
    rw [List.takeWhile_cons, if_pos (by simpa using h0), List.dropWhile_cons, if_pos (by simpa using h0), List.cons_append, ih]
    rfl
theorem heldL_next {l : List (Int × Int)} {c : Int} {k : Nat} (hk : k < l.length) : heldL (l.take (k + 1)) c = if hC l k = c then insS (hI l k) (heldL (l.take k) c) else heldL (l.take k) c := by
  unfold heldL
  rw [List.take_succ_eq_append_getElem hk, List.foldl_append, has_get l hk]
  rfl

theorem own_caps {w : World} {B k : Nat} {e : TypeId} {A : Option Addr} {n C : Nat} {xs : List Value} (h : w.ownsRow B e k (.slice A n C) n xs) : n ≤ C ∧ C ≤ maxLen := by
  obtain ⟨_, ⟨e, rfl⟩ | ⟨_, cap', _, e, _, _, h1, h2, _⟩⟩ := h
  · injection e with _ _ e3
    exact ⟨Nat.zero_le _, by rw [e3]; exact Nat.zero_le _⟩
  · cases e; exact ⟨h1, h2⟩
/-! ### Held -/
def HdW (w : World) (l : List (Int × Int)) (c : Int) (ov iv : Value) (wr : World) : Prop :=
  ∃ k : Nat, k ≤ l.length ∧ iv = .int .i64 (k : Int) ∧ wr.ownsRow w.heap.size 29 1 ov (heldL (l.take k) c).length ((heldL (l.take k) c).map (Value.int .u64)) ∧ Keeps NoB w wr
def HdJ (w0 : World) (xs : List Int) (x : Int) (jv : Value) (wr : World) : Prop :=
  ∃ j : Nat, j ≤ xs.length ∧ jv = .int .i64 (j : Int) ∧ (∀ i, i < j → xs.getD i 0 < x) ∧ Below w0.heap.size w0 wr
set_option maxRecDepth 100000 in
set_option maxHeartbeats 4000000 in
theorem rheld_v (w : World) (r n0 : Nat) (l : List (Int × Int)) (W0 : Nat → Int) (vL vW : Value) (t : RT w r n0 l W0 vL vW) (hl : l.length ≤ 1000) (c : Int) :
    Calls Try.prog 36 #[.pointer (some ⟨r, 0, none⟩), .int .i64 c] w fun e w' => ∃ v, e = .returned v ∧ w'.ownsRow w.heap.size 29 1 v (heldL l c).length ((heldL l c).map (Value.int .u64)) ∧ Below w.heap.size w w' := by
  obtain ⟨i0, hi, hz0, hz1, hz2⟩ := info_parts Try.infoA
  have HT := Lib.hid t
  have HLl := Lib.hid hl
  obtain ⟨al, cl, rfl⟩ := own_form t.own
  have c0 := t.c0
  clear t hl
  go_enter Try.func36, Try.ntmps36
  go_wp2_with (fail)
  go_loopw [5, 6] (fun ov iv wr => HdW w l c ov iv wr) (fun _ iv _ => l.length - (intOf iv).toNat)
  case atStart => exact ⟨0, Nat.zero_le _, rfl, World.ownsRow_nil _ _ _ _, Keeps.refl _ _⟩
  case round =>
    obtain ⟨k, hk, rfl, ho, hkp⟩ := hrel
    have HT3 := Lib.hid (HT.out.keptN hkp)
    have c0 := HT3.out.c0
    have HK := Lib.hid hkp
    by_cases hlt : k < l.length
    · obtain ⟨gl, rfl, hg, hm, a1, a2⟩ := HT3.out.hasAt hlt
      unfold maxLen at hm
      have b1 : (k : Int) < (l.length : Int) := by omega
      have HL := Lib.hid hlt
      have HX := Lib.hid (heldL_next (c := c) hlt)
      obtain ⟨xs, hxs⟩ : ∃ xs, heldL (l.take k) c = xs := ⟨_, rfl⟩
      have hxl : xs.length ≤ 1000 := by
        rw [← hxs]
        exact Nat.le_trans (heldL_len _ _) (by rw [List.length_take]; have := HLl.out; omega)
      rw [hxs] at HX ho
      obtain ⟨x, hx⟩ : ∃ x, hI l k = x := ⟨_, rfl⟩
      rw [hx] at a1 HX
      obtain ⟨Ao, C, rfl⟩ := own_form ho
      have HO := Lib.hid ho
      clear hxs hx hkp ho
      by_cases hce : hC l k = c
      · have he2 : (hC l k != c) = false := by rw [hce]; exact bne_self_eq_false _
        rw [if_pos hce] at HX
        clear hce
        obtain ⟨wi, rfl⟩ : ∃ y, y = wr := ⟨_, rfl⟩
        go_wp2_with (fail)
        go_loopw [7] (fun jv wj => HdJ wi xs x jv wj) (fun jv _ => xs.length - (intOf jv).toNat)
        case atStart => exact ⟨0, Nat.zero_le _, rfl, fun i h => by omega, Below.refl _ _⟩
        case round =>
          obtain ⟨j, hj, rfl, hlo, hB⟩ := hrel
          obtain ⟨wj, rfl⟩ : ∃ y, y = wr := ⟨_, rfl⟩
          have HBj := Lib.hid hB
          have HOj := Lib.hid (own_below' HO.out hB)
          have HR0 := Lib.hid (show r < wj.heap.size from Nat.lt_of_lt_of_le HT3.out.blk.lt hB.size)
          have HGl := Lib.hid (show gl < wj.heap.size from Nat.lt_of_lt_of_le hg hB.size)
          replace c0 := (hB.cell (p := ⟨r, 0, none⟩) HT3.out.blk.lt).trans c0
          replace a1 := (hB.cell (p := ⟨gl, k * 2, none⟩) hg).trans a1
          replace a2 := (hB.cell (p := ⟨gl, k * 2 + 1, none⟩) hg).trans a2
          clear hB HO
          by_cases hjn : j < xs.length
          · obtain ⟨go, C2, e1, _, hgo, _, _, _, hcs, _⟩ := own_shapeK HOj.out (by omega)
            injection e1 with e2 _ e4
            obtain rfl : C = C2 := e4
            subst e2
            have d0 : wj.cell? ⟨go, j, none⟩ = some (.int .u64 (xs.getD j 0)) := by rw [hcs j (by omega)]; simp [hjn]
            obtain ⟨y, hy⟩ : ∃ y, xs.getD j 0 = y := ⟨_, rfl⟩
            obtain ⟨nb, hnb⟩ : ∃ b, decide (y < x) = b := ⟨_, rfl⟩
            have HYb := Lib.hid (show decide (xs.getD j 0 < x) = nb by rw [hy]; exact hnb)
            rw [hy] at d0
            have HGo := Lib.hid hgo
            have b3 : (j : Int) < (xs.length : Int) := by omega
            have HLo := Lib.hid hlo
            have HJl := Lib.hid hjn
            clear hy hcs hlo
            go_upto_region 7 with (fail)
            --GEN r_hd7a
            refine wp_region_vals [Is (.int .i64 j), Is (.slice (some ⟨go, 0, none⟩) xs.length C), Is (.int .i64 xs.length), Is (.bool true), Is (.bool true), Is (.slice (some ⟨go, 0, none⟩) xs.length C), Is (.int .i64 j), Is (.pointer (some ⟨go, j, none⟩)), Is (.int .u64 y), Is (.pointer (some ⟨r, 0, none⟩)), Is (.pointer (some ⟨r, 0, none⟩)), Is (.pointer (some ⟨r, 0, none⟩)), Is (.slice (some ⟨gl, 0, none⟩) l.length cl), Is (.int .i64 k), Is (.pointer (some ⟨gl, k * 2, none⟩)), Is (.pointer (some ⟨gl, k * 2, none⟩)), Is (.int .u64 x), Is (.bool nb), Is (.bool nb)]
              (fun _ W W' => Below W.heap.size W W') (fun _ W => Below wj.heap.size wj W) (by kernel_rfl) (by kernel_rfl) (by kernel_rfl) ?hst ?h0 ⟨?o0, ?o1, ?o2, ?o3, ?o4, ?o5, ?o6, ?o7, ?o8, ?o9, ?o10, ?o11, ?o12, ?o13, ?o14, ?o15, ?o16, ?o17, ?o18, trivial⟩ ?he
            case hst =>
              exact ⟨(fun _ _ _ _ _ _ h _ => h), (fun _ _ _ _ _ _ h _ => h), (fun _ _ _ _ _ _ h _ => h), (fun _ _ _ _ _ _ h _ => h), (fun _ _ _ _ _ _ h _ => h), (fun _ _ _ _ _ _ h _ => h), (fun _ _ _ _ _ _ h _ => h), (fun _ _ _ _ _ _ h _ => h), (fun _ _ _ _ _ _ h _ => h), (fun _ _ _ _ _ _ h _ => h), (fun _ _ _ _ _ _ h _ => h), (fun _ _ _ _ _ _ h _ => h), (fun _ _ _ _ _ _ h _ => h), (fun _ _ _ _ _ _ h _ => h), (fun _ _ _ _ _ _ h _ => h), (fun _ _ _ _ _ _ h _ => h), (fun _ _ _ _ _ _ h _ => h), (fun _ _ _ _ _ _ h _ => h), (fun _ _ _ _ _ _ h _ => h), trivial⟩
            case h0 =>
              exact (Below.refl _ _).drew
            case o0 =>
              intro L vs A W H hf hd K hK
              have e7 : A.tmps[7]?.getD undef = .int .i64 j := H.old 7 (by kernel_rfl)
              go_simp
              exact hK _ _ (Below.refl _ _) rfl (H.glob)
            case o1 =>
              intro L vs A W H hf hd K hK
              have e5 : A.tmps[5]?.getD undef = .slice (some ⟨go, 0, none⟩) xs.length C := H.old 5 (by kernel_rfl)
              go_simp
              exact hK _ _ (Below.refl _ _) rfl (H.glob)
            case o2 =>
              intro L vs A W H hf hd K hK
              have e28 := H.is 1 28 rfl rfl rfl (deps_of' hd 1 (by kernel_rfl)) (by kernel_rfl)
              go_simp
              exact hK _ _ (Below.refl _ _) rfl (H.glob)
            case o3 =>
              intro L vs A W H hf hd K hK
              have e27 := H.is 0 27 rfl rfl rfl (deps_of' hd 0 (by kernel_rfl)) (by kernel_rfl)
              have e29 := H.is 2 29 rfl rfl rfl (deps_of' hd 2 (by kernel_rfl)) (by kernel_rfl)
              go_simp
              exact hK _ _ (Below.refl _ _) rfl (H.glob)
            case o4 =>
              intro L vs A W H hf hd K hK
              have e30 := H.is 3 30 rfl rfl rfl (deps_of' hd 3 (by kernel_rfl)) (by kernel_rfl)
              go_simp
              exact hK _ _ (Below.refl _ _) rfl (H.glob)
            case o5 =>
              intro L vs A W H hf hd K hK
              have e31 := H.is 4 31 rfl rfl rfl (deps_of' hd 4 (by kernel_rfl)) (by kernel_rfl)
              refine if_wanted (j := 4) (s := 31) rfl rfl rfl e31 rfl ?_
              have e5 : A.tmps[5]?.getD undef = .slice (some ⟨go, 0, none⟩) xs.length C := H.old 5 (by kernel_rfl)
              go_simp
              exact hK _ _ (Below.refl _ _) rfl (H.glob)
            case o6 =>
              intro L vs A W H hf hd K hK
              have e31 := H.is 4 31 rfl rfl rfl (deps_of' hd 4 (by kernel_rfl)) (by kernel_rfl)
              refine if_wanted (j := 4) (s := 31) rfl rfl rfl e31 rfl ?_
              have e7 : A.tmps[7]?.getD undef = .int .i64 j := H.old 7 (by kernel_rfl)
              go_simp
              exact hK _ _ (Below.refl _ _) rfl (H.glob)
            case o7 =>
              intro L vs A W H hf hd K hK
              have e31 := H.is 4 31 rfl rfl rfl (deps_of' hd 4 (by kernel_rfl)) (by kernel_rfl)
              refine if_wanted (j := 4) (s := 31) rfl rfl rfl e31 rfl ?_
              have e32 := H.is 5 32 rfl rfl rfl (deps_of' hd 5 (by kernel_rfl)) (by kernel_rfl)
              have e33 := H.is 6 33 rfl rfl rfl (deps_of' hd 6 (by kernel_rfl)) (by kernel_rfl)
              go_simp
              exact hK _ _ (Below.refl _ _) rfl (H.glob)
            case o8 =>
              intro L vs A W H hf hd K hK
              have e31 := H.is 4 31 rfl rfl rfl (deps_of' hd 4 (by kernel_rfl)) (by kernel_rfl)
              refine if_wanted (j := 4) (s := 31) rfl rfl rfl e31 rfl ?_
              have e34 := H.is 7 34 rfl rfl rfl (deps_of' hd 7 (by kernel_rfl)) (by kernel_rfl)
              have d := (H.glob.cell (p := ⟨go, j, none⟩) HGo.out).trans d0
              go_simp
              exact hK _ _ (Below.refl _ _) rfl (H.glob)
            case o9 =>
              intro L vs A W H hf hd K hK
              have e31 := H.is 4 31 rfl rfl rfl (deps_of' hd 4 (by kernel_rfl)) (by kernel_rfl)
              refine if_wanted (j := 4) (s := 31) rfl rfl rfl e31 rfl ?_
              have e0 : A.tmps[0]?.getD undef = .pointer (some ⟨r, 0, none⟩) := H.old 0 (by kernel_rfl)
              go_simp
              exact hK _ _ (Below.refl _ _) rfl (H.glob)
            case o10 =>
              intro L vs A W H hf hd K hK
              have e31 := H.is 4 31 rfl rfl rfl (deps_of' hd 4 (by kernel_rfl)) (by kernel_rfl)
              refine if_wanted (j := 4) (s := 31) rfl rfl rfl e31 rfl ?_
              have e36 := H.is 9 36 rfl rfl rfl (deps_of' hd 9 (by kernel_rfl)) (by kernel_rfl)
              go_simp
              exact hK _ _ (Below.refl _ _) rfl (H.glob)
            case o11 =>
              intro L vs A W H hf hd K hK
              have e31 := H.is 4 31 rfl rfl rfl (deps_of' hd 4 (by kernel_rfl)) (by kernel_rfl)
              refine if_wanted (j := 4) (s := 31) rfl rfl rfl e31 rfl ?_
              have e37 := H.is 10 37 rfl rfl rfl (deps_of' hd 10 (by kernel_rfl)) (by kernel_rfl)
              go_simp
              exact hK _ _ (Below.refl _ _) rfl (H.glob)
            case o12 =>
              intro L vs A W H hf hd K hK
              have e31 := H.is 4 31 rfl rfl rfl (deps_of' hd 4 (by kernel_rfl)) (by kernel_rfl)
              refine if_wanted (j := 4) (s := 31) rfl rfl rfl e31 rfl ?_
              have e38 := H.is 11 38 rfl rfl rfl (deps_of' hd 11 (by kernel_rfl)) (by kernel_rfl)
              have d := (H.glob.cell (p := ⟨r, 0, none⟩) HR0.out).trans c0
              go_simp
              exact hK _ _ (Below.refl _ _) rfl (H.glob)
            case o13 =>
              intro L vs A W H hf hd K hK
              have e31 := H.is 4 31 rfl rfl rfl (deps_of' hd 4 (by kernel_rfl)) (by kernel_rfl)
              refine if_wanted (j := 4) (s := 31) rfl rfl rfl e31 rfl ?_
              have e6 : A.tmps[6]?.getD undef = .int .i64 k := H.old 6 (by kernel_rfl)
              go_simp
              exact hK _ _ (Below.refl _ _) rfl (H.glob)
            case o14 =>
              intro L vs A W H hf hd K hK
              have e31 := H.is 4 31 rfl rfl rfl (deps_of' hd 4 (by kernel_rfl)) (by kernel_rfl)
              refine if_wanted (j := 4) (s := 31) rfl rfl rfl e31 rfl ?_
              have e39 := H.is 12 39 rfl rfl rfl (deps_of' hd 12 (by kernel_rfl)) (by kernel_rfl)
              have e40 := H.is 13 40 rfl rfl rfl (deps_of' hd 13 (by kernel_rfl)) (by kernel_rfl)
              go_simp
              exact hK _ _ (Below.refl _ _) rfl (H.glob)
            case o15 =>
              intro L vs A W H hf hd K hK
              have e31 := H.is 4 31 rfl rfl rfl (deps_of' hd 4 (by kernel_rfl)) (by kernel_rfl)
              refine if_wanted (j := 4) (s := 31) rfl rfl rfl e31 rfl ?_
              have e41 := H.is 14 41 rfl rfl rfl (deps_of' hd 14 (by kernel_rfl)) (by kernel_rfl)
              go_simp
              exact hK _ _ (Below.refl _ _) rfl (H.glob)
            case o16 =>
              intro L vs A W H hf hd K hK
              have e31 := H.is 4 31 rfl rfl rfl (deps_of' hd 4 (by kernel_rfl)) (by kernel_rfl)
              refine if_wanted (j := 4) (s := 31) rfl rfl rfl e31 rfl ?_
              have e42 := H.is 15 42 rfl rfl rfl (deps_of' hd 15 (by kernel_rfl)) (by kernel_rfl)
              have d := (H.glob.cell (p := ⟨gl, k * 2, none⟩) HGl.out).trans a1
              go_simp
              exact hK _ _ (Below.refl _ _) rfl (H.glob)
            case o17 =>
              intro L vs A W H hf hd K hK
              have e31 := H.is 4 31 rfl rfl rfl (deps_of' hd 4 (by kernel_rfl)) (by kernel_rfl)
              refine if_wanted (j := 4) (s := 31) rfl rfl rfl e31 rfl ?_
              have e35 := H.is 8 35 rfl rfl rfl (deps_of' hd 8 (by kernel_rfl)) (by kernel_rfl)
              have e43 := H.is 16 43 rfl rfl rfl (deps_of' hd 16 (by kernel_rfl)) (by kernel_rfl)
              go_simp
              exact hK _ _ (Below.refl _ _) rfl (H.glob)
            case o18 =>
              intro L vs A W H hf hd K hK
              have e31 := H.is 4 31 rfl rfl rfl (deps_of' hd 4 (by kernel_rfl)) (by kernel_rfl)
              have e44 := H.is 17 44 rfl rfl rfl (deps_of' hd 17 (by kernel_rfl)) (by kernel_rfl)
              go_simp
              exact hK _ _ (Below.refl _ _) rfl (H.glob)
            case he =>
              intro vs W hlen hv
              match vs, hlen, hv with
              | [x0_, x1_, x2_, x3_, x4_, x5_, x6_, x7_, x8_, x9_, x10_, x11_, x12_, x13_, x14_, x15_, x16_, x17_, x18_], _, hv =>
              obtain rfl : (.int .i64 j) = x0_ := by obtain ⟨z, h1, h2⟩ := hv 0 _ rfl; cases h1; exact h2.symm
              obtain rfl : (.slice (some ⟨go, 0, none⟩) xs.length C) = x1_ := by obtain ⟨z, h1, h2⟩ := hv 1 _ rfl; cases h1; exact h2.symm
              obtain rfl : (.int .i64 xs.length) = x2_ := by obtain ⟨z, h1, h2⟩ := hv 2 _ rfl; cases h1; exact h2.symm
              obtain rfl : (.bool true) = x3_ := by obtain ⟨z, h1, h2⟩ := hv 3 _ rfl; cases h1; exact h2.symm
              obtain rfl : (.bool true) = x4_ := by obtain ⟨z, h1, h2⟩ := hv 4 _ rfl; cases h1; exact h2.symm
              obtain rfl : (.slice (some ⟨go, 0, none⟩) xs.length C) = x5_ := by obtain ⟨z, h1, h2⟩ := hv 5 _ rfl; cases h1; exact h2.symm
              obtain rfl : (.int .i64 j) = x6_ := by obtain ⟨z, h1, h2⟩ := hv 6 _ rfl; cases h1; exact h2.symm
              obtain rfl : (.pointer (some ⟨go, j, none⟩)) = x7_ := by obtain ⟨z, h1, h2⟩ := hv 7 _ rfl; cases h1; exact h2.symm
              obtain rfl : (.int .u64 y) = x8_ := by obtain ⟨z, h1, h2⟩ := hv 8 _ rfl; cases h1; exact h2.symm
              obtain rfl : (.pointer (some ⟨r, 0, none⟩)) = x9_ := by obtain ⟨z, h1, h2⟩ := hv 9 _ rfl; cases h1; exact h2.symm
              obtain rfl : (.pointer (some ⟨r, 0, none⟩)) = x10_ := by obtain ⟨z, h1, h2⟩ := hv 10 _ rfl; cases h1; exact h2.symm
              obtain rfl : (.pointer (some ⟨r, 0, none⟩)) = x11_ := by obtain ⟨z, h1, h2⟩ := hv 11 _ rfl; cases h1; exact h2.symm
              obtain rfl : (.slice (some ⟨gl, 0, none⟩) l.length cl) = x12_ := by obtain ⟨z, h1, h2⟩ := hv 12 _ rfl; cases h1; exact h2.symm
              obtain rfl : (.int .i64 k) = x13_ := by obtain ⟨z, h1, h2⟩ := hv 13 _ rfl; cases h1; exact h2.symm
              obtain rfl : (.pointer (some ⟨gl, k * 2, none⟩)) = x14_ := by obtain ⟨z, h1, h2⟩ := hv 14 _ rfl; cases h1; exact h2.symm
              obtain rfl : (.pointer (some ⟨gl, k * 2, none⟩)) = x15_ := by obtain ⟨z, h1, h2⟩ := hv 15 _ rfl; cases h1; exact h2.symm
              obtain rfl : (.int .u64 x) = x16_ := by obtain ⟨z, h1, h2⟩ := hv 16 _ rfl; cases h1; exact h2.symm
              obtain rfl : (.bool nb) = x17_ := by obtain ⟨z, h1, h2⟩ := hv 17 _ rfl; cases h1; exact h2.symm
              obtain rfl : (.bool nb) = x18_ := by obtain ⟨z, h1, h2⟩ := hv 18 _ rfl; cases h1; exact h2.symm
              intro L hall hG
              clear hv hlen
              have HJ2 := Lib.hid (hG : Below wj.heap.size wj W)
              clear hG hall
              simp only [fill, if_true]
              go_simp
            --END
              cases nb with
              | true =>
                have HLo2 := Lib.hid (show ∀ i, i < j + 1 → xs.getD i 0 < x from fun i h => by
                  by_cases e : i = j
                  · rw [e]; exact of_decide_eq_true HYb.out
                  · exact HLo.out i (by omega))
                go_wp2_with (fail)
                go_roundw
                case rel => exact ⟨j + 1, HJl.out, by go_num, HLo2.out, HBj.out.trans (HJ2.out.mono HBj.out.size)⟩
                case measure => simp [intOf]; have := HJl.out; omega
              | false =>
                have hup : j < xs.length → ¬ xs.getD j 0 < x := fun _ => of_decide_eq_false HYb.out
                have hlo := HLo.out
                replace HOj := Lib.hid (own_below' HOj.out HJ2.out)
                replace HR0 := Lib.hid (Nat.lt_of_lt_of_le HR0.out HJ2.out.size)
                replace c0 := (HJ2.out.cell (p := ⟨r, 0, none⟩) (Nat.lt_of_lt_of_le HT3.out.blk.lt HBj.out.size)).trans c0
                replace a1 := (HJ2.out.cell (p := ⟨gl, k * 2, none⟩) HGl.out).trans a1
                replace HGl := Lib.hid (Nat.lt_of_lt_of_le HGl.out HJ2.out.size)
                replace HBj := Lib.hid (HBj.out.trans (HJ2.out.mono HBj.out.size))
                clear hnb HYb HJ2 a2 d0
                obtain ⟨wj, rfl⟩ : ∃ y, y = W := ⟨_, rfl⟩
                have HIn := Lib.hid (insS_at hlo hj hup)
                have HJn := Lib.hid hj
                have HnB := Lib.hid hxl
                obtain ⟨hnc, hcm⟩ := own_caps HOj.out
                have HnC := Lib.hid hnc
                have HCm := Lib.hid hcm
                have HRd := Lib.hid (Reads.of_own HOj.out)
                clear hlo hup hj hnc hcm
                go_upto_region 9 with (fail)
                --GEN r_hd9
                refine wp_region_valsA [Is (.slice (some ⟨go, 0, none⟩) xs.length C), Is (.int .i64 j), SubR wj.heap.size j (xs.take j), Any, Is (.pointer (some ⟨r, 0, none⟩)), Is (.pointer (some ⟨r, 0, none⟩)), Is (.pointer (some ⟨r, 0, none⟩)), Is (.slice (some ⟨gl, 0, none⟩) l.length cl), Is (.int .i64 k), Is (.pointer (some ⟨gl, k * 2, none⟩)), Is (.pointer (some ⟨gl, k * 2, none⟩)), Is (.int .u64 x), Any, Any, Is (.slice (some ⟨go, 0, none⟩) xs.length C), Is (.int .i64 j), SubR wj.heap.size (xs.length - j) (xs.drop j), Any, Any]
                  (fun _ W W' => Below wj.heap.size W W') (fun L a W => Below wj.heap.size wj W ∧ HG wj.heap.size x (xs.take j) (xs.drop j) L a W) (by kernel_rfl) (by kernel_rfl) (by kernel_rfl) ?hst ?h0 ⟨?o0, ?o1, ?o2, ?o3, ?o4, ?o5, ?o6, ?o7, ?o8, ?o9, ?o10, ?o11, ?o12, ?o13, ?o14, ?o15, ?o16, ?o17, ?o18, trivial⟩ ?he
                case hst =>
                  exact ⟨(fun _ _ _ _ _ _ h _ => h), (fun _ _ _ _ _ _ h _ => h), (fun _ _ _ _ _ _ h hR => SubR.below h hR), (fun _ _ _ _ _ _ h _ => h), (fun _ _ _ _ _ _ h _ => h), (fun _ _ _ _ _ _ h _ => h), (fun _ _ _ _ _ _ h _ => h), (fun _ _ _ _ _ _ h _ => h), (fun _ _ _ _ _ _ h _ => h), (fun _ _ _ _ _ _ h _ => h), (fun _ _ _ _ _ _ h _ => h), (fun _ _ _ _ _ _ h _ => h), (fun _ _ _ _ _ _ h _ => h), (fun _ _ _ _ _ _ h _ => h), (fun _ _ _ _ _ _ h _ => h), (fun _ _ _ _ _ _ h _ => h), (fun _ _ _ _ _ _ h hR => SubR.below h hR), (fun _ _ _ _ _ _ h _ => h), (fun _ _ _ _ _ _ h _ => h), trivial⟩
                case h0 =>
                  exact ⟨(Below.refl _ _).drew, HG.nothing⟩
                case o0 =>
                  intro L vs A W H hf hd K hK
                  have e5 : A.tmps[5]?.getD undef = .slice (some ⟨go, 0, none⟩) xs.length C := H.later 5 0 hf (by kernel_rfl)
                  go_simp
                  exact hK _ _ (Below.refl _ _) rfl (⟨H.glob.1, H.glob.2.keep rfl rfl rfl rfl rfl (by simp) (Below.refl _ _)⟩)
                case o1 =>
                  intro L vs A W H hf hd K hK
                  have e7 : A.tmps[7]?.getD undef = .int .i64 j := H.old 7 (by kernel_rfl)
                  go_simp
                  exact hK _ _ (Below.refl _ _) rfl (⟨H.glob.1, H.glob.2.keep rfl rfl rfl rfl rfl (by simp) (Below.refl _ _)⟩)
                case o2 =>
                  intro L vs A W H hf hd K hK
                  have e48 := H.is 0 48 rfl rfl rfl (deps_of' hd 0 (by kernel_rfl)) (by kernel_rfl)
                  have e49 := H.is 1 49 rfl rfl rfl (deps_of' hd 1 (by kernel_rfl)) (by kernel_rfl)
                  rw [if_pos (show Region.wanted _ _ = true from rfl)]
                  exact wp_slice_to (.tmp 48) (.tmp 49) rfl (some ⟨go, 0, none⟩) xs.length C j wj.heap.size xs (ev_tmp e48) (ev_tmp e49) rfl HJn.out HnC.out HCm.out (HRd.out.below H.glob.1) (fun v hv => hK _ _ (Below.refl _ _) hv ⟨H.glob.1, H.glob.2.keep rfl rfl rfl rfl rfl (by simp) (Below.refl _ _)⟩)
                case o3 =>
                  intro L vs A W H hf hd K hK
                  obtain ⟨v50, e50, q50⟩ := H.val 2 50 rfl rfl rfl (deps_of' hd 2 (by kernel_rfl)) (by kernel_rfl)
                  obtain ⟨A2, c2, rfl, hr, hl2⟩ := q50
                  refine step_append_any (w := W) rfl (.const (.slice none 0 0)) (.tmp 50) 37 rfl wj.heap.size 29 i0 _ 1 8 Try.underlying37 hi hz0 hz1 hz2 rfl (by omega) (.slice none 0 0) 0 [] rfl (World.ownsRow_nil _ _ _ _) wj.heap.size A2 j c2 _ (ev_tmp e50) hr (ints_oneCell .u64 _) (by unfold maxLen; have := HJn.out; have := HnB.out; omega) (by have := HJn.out; have := HnB.out; omega) H.glob.1.size ?_
                  intro v' w' hown' hg' _
                  have hb1 : Below W.heap.size W w' := (Below.refl _ _).grown hg' (Nat.le_refl _) (fun _ e => by cases e)
                  exact hK _ _ (hb1.mono H.glob.1.size) trivial ⟨H.glob.1.trans (hb1.mono H.glob.1.size), H.glob.2.s3 hf (by rw [H.frame, fill_size]; exact of_decide_eq_true (by kernel_rfl)) hb1 hl2 (by simpa using hown')⟩
                case o4 =>
                  intro L vs A W H hf hd K hK
                  have e0 : A.tmps[0]?.getD undef = .pointer (some ⟨r, 0, none⟩) := H.old 0 (by kernel_rfl)
                  go_simp
                  exact hK _ _ (Below.refl _ _) rfl (⟨H.glob.1, H.glob.2.keep rfl rfl rfl rfl rfl (by simp) (Below.refl _ _)⟩)
                case o5 =>
                  intro L vs A W H hf hd K hK
                  have e52 := H.is 4 52 rfl rfl rfl (deps_of' hd 4 (by kernel_rfl)) (by kernel_rfl)
                  go_simp
                  exact hK _ _ (Below.refl _ _) rfl (⟨H.glob.1, H.glob.2.keep rfl rfl rfl rfl rfl (by simp) (Below.refl _ _)⟩)
                case o6 =>
                  intro L vs A W H hf hd K hK
                  have e53 := H.is 5 53 rfl rfl rfl (deps_of' hd 5 (by kernel_rfl)) (by kernel_rfl)
                  go_simp
                  exact hK _ _ (Below.refl _ _) rfl (⟨H.glob.1, H.glob.2.keep rfl rfl rfl rfl rfl (by simp) (Below.refl _ _)⟩)
                case o7 =>
                  intro L vs A W H hf hd K hK
                  have e54 := H.is 6 54 rfl rfl rfl (deps_of' hd 6 (by kernel_rfl)) (by kernel_rfl)
                  have d := (H.glob.1.cell (p := ⟨r, 0, none⟩) HR0.out).trans c0
                  go_simp
                  exact hK _ _ (Below.refl _ _) rfl (⟨H.glob.1, H.glob.2.keep rfl rfl rfl rfl rfl (by simp) (Below.refl _ _)⟩)
                case o8 =>
                  intro L vs A W H hf hd K hK
                  have e6 : A.tmps[6]?.getD undef = .int .i64 k := H.old 6 (by kernel_rfl)
                  go_simp
                  exact hK _ _ (Below.refl _ _) rfl (⟨H.glob.1, H.glob.2.keep rfl rfl rfl rfl rfl (by simp) (Below.refl _ _)⟩)
                case o9 =>
                  intro L vs A W H hf hd K hK
                  have e55 := H.is 7 55 rfl rfl rfl (deps_of' hd 7 (by kernel_rfl)) (by kernel_rfl)
                  have e56 := H.is 8 56 rfl rfl rfl (deps_of' hd 8 (by kernel_rfl)) (by kernel_rfl)
                  go_simp
                  exact hK _ _ (Below.refl _ _) rfl (⟨H.glob.1, H.glob.2.keep rfl rfl rfl rfl rfl (by simp) (Below.refl _ _)⟩)
                case o10 =>
                  intro L vs A W H hf hd K hK
                  have e57 := H.is 9 57 rfl rfl rfl (deps_of' hd 9 (by kernel_rfl)) (by kernel_rfl)
                  go_simp
                  exact hK _ _ (Below.refl _ _) rfl (⟨H.glob.1, H.glob.2.keep rfl rfl rfl rfl rfl (by simp) (Below.refl _ _)⟩)
                case o11 =>
                  intro L vs A W H hf hd K hK
                  have e58 := H.is 10 58 rfl rfl rfl (deps_of' hd 10 (by kernel_rfl)) (by kernel_rfl)
                  have d := (H.glob.1.cell (p := ⟨gl, k * 2, none⟩) HGl.out).trans a1
                  go_simp
                  exact hK _ _ (Below.refl _ _) rfl (⟨H.glob.1, H.glob.2.keep rfl rfl rfl rfl rfl (by simp) (Below.refl _ _)⟩)
                case o12 =>
                  intro L vs A W H hf hd K hK
                  have e59 := H.is 11 59 rfl rfl rfl (deps_of' hd 11 (by kernel_rfl)) (by kernel_rfl)
                  go_simp
                  exact hK _ _ ((Below.refl _ _).alloc H.glob.1.size _) trivial ⟨H.glob.1.alloc H.glob.1.size _, H.glob.2.s12 (by rw [H.frame, fill_size]; exact of_decide_eq_true (by kernel_rfl)) _ rfl⟩
                case o13 =>
                  intro L vs A W H hf hd K hK
                  obtain ⟨v51, e51, q51⟩ := H.val 3 51 rfl rfl rfl (deps_of' hd 3 (by kernel_rfl)) (by kernel_rfl)
                  obtain ⟨v60, e60, q60⟩ := H.val 12 60 rfl rfl rfl (deps_of' hd 12 (by kernel_rfl)) (by kernel_rfl)
                  have h3 : L 3 = true := deps_of' hd 3 (by kernel_rfl)
                  have h12 : L 12 = true := deps_of' hd 12 (by kernel_rfl)
                  obtain ⟨va, ea, hoa⟩ := H.glob.2.e3 h3 hf
                  obtain ⟨Hx, ex, hxl, hxc⟩ := H.glob.2.e12 h12 hf
                  refine step_append_any (w := W) rfl (.tmp 51) (.tmp 60) 37 rfl wj.heap.size 29 i0 _ 1 8 Try.underlying37 hi hz0 hz1 hz2 rfl (by omega) va (xs.take j).length _ (ev_tmp ea) hoa W.heap.size (some ⟨Hx, 0, none⟩) 1 1 [.int .u64 x] (ev_tmp ex) (reads_one hxl hxc) (by simp [Value.oneCell']) (by unfold maxLen; have := HnB.out; simp; omega) (by have := HnB.out; simp; omega) H.glob.1.size ?_
                  intro v' w' hown' hg' _
                  have hb1 : Below wj.heap.size W w' := (Below.refl _ _).grown hg' H.glob.1.size (fun g e => own_base hoa g e)
                  have n17 := H.notYet 17 13 rfl hf (by kernel_rfl)
                  have n18 := H.notYet 18 17 rfl n17 (by kernel_rfl)
                  exact hK _ _ hb1 trivial ⟨H.glob.1.trans hb1, HG.s13 (by rw [H.frame, fill_size]; exact of_decide_eq_true (by kernel_rfl)) n17 n18 (by simpa using hown')⟩
                case o14 =>
                  intro L vs A W H hf hd K hK
                  have e5 : A.tmps[5]?.getD undef = .slice (some ⟨go, 0, none⟩) xs.length C := H.later 5 14 hf (by kernel_rfl)
                  go_simp
                  exact hK _ _ (Below.refl _ _) rfl (⟨H.glob.1, H.glob.2.keep rfl rfl rfl rfl rfl (by simp) (Below.refl _ _)⟩)
                case o15 =>
                  intro L vs A W H hf hd K hK
                  have e7 : A.tmps[7]?.getD undef = .int .i64 j := H.old 7 (by kernel_rfl)
                  go_simp
                  exact hK _ _ (Below.refl _ _) rfl (⟨H.glob.1, H.glob.2.keep rfl rfl rfl rfl rfl (by simp) (Below.refl _ _)⟩)
                case o16 =>
                  intro L vs A W H hf hd K hK
                  have e62 := H.is 14 62 rfl rfl rfl (deps_of' hd 14 (by kernel_rfl)) (by kernel_rfl)
                  have e63 := H.is 15 63 rfl rfl rfl (deps_of' hd 15 (by kernel_rfl)) (by kernel_rfl)
                  rw [if_pos (show Region.wanted _ _ = true from rfl)]
                  exact wp_slice_from (.tmp 62) (.tmp 63) rfl (some ⟨go, 0, none⟩) xs.length C j wj.heap.size xs (ev_tmp e62) (ev_tmp e63) rfl HJn.out HnC.out HCm.out (HRd.out.below H.glob.1) (fun v hv => hK _ _ (Below.refl _ _) hv ⟨H.glob.1, H.glob.2.keep rfl rfl rfl rfl rfl (by simp) (Below.refl _ _)⟩)
                case o17 =>
                  intro L vs A W H hf hd K hK
                  obtain ⟨v61, e61, q61⟩ := H.val 13 61 rfl rfl rfl (deps_of' hd 13 (by kernel_rfl)) (by kernel_rfl)
                  obtain ⟨v64, e64, q64⟩ := H.val 16 64 rfl rfl rfl (deps_of' hd 16 (by kernel_rfl)) (by kernel_rfl)
                  have h13 : L 13 = true := deps_of' hd 13 (by kernel_rfl)
                  obtain ⟨va, ea, hoa⟩ := H.glob.2.e13 h13 hf
                  obtain ⟨A2, c2, rfl, hr, hl2⟩ := q64
                  refine step_append_any (w := W) rfl (.tmp 61) (.tmp 64) 37 rfl wj.heap.size 29 i0 _ 1 8 Try.underlying37 hi hz0 hz1 hz2 rfl (by omega) va ((xs.take j).length + 1) _ (ev_tmp ea) hoa wj.heap.size A2 (xs.length - j) c2 _ (ev_tmp e64) hr (ints_oneCell .u64 _) (by unfold maxLen; have := HnB.out; simp; omega) (by have := HnB.out; simp; omega) H.glob.1.size ?_
                  intro v' w' hown' hg' _
                  have hb1 : Below wj.heap.size W w' := (Below.refl _ _).grown hg' H.glob.1.size (fun g e => own_base hoa g e)
                  have n18 := H.notYet 18 17 rfl hf (by kernel_rfl)
                  exact hK _ _ hb1 trivial ⟨H.glob.1.trans hb1, HG.s17 (by rw [H.frame, fill_size]; exact of_decide_eq_true (by kernel_rfl)) h13 n18 (by rw [show (xs.take j ++ x :: xs.drop j).length = (xs.take j).length + 1 + (xs.length - j) by rw [List.length_append, List.length_cons, hl2]; omega]; have := hown'; rw [← List.map_append] at this; simpa only [List.append_assoc, List.singleton_append] using this)⟩
                case o18 =>
                  intro L vs A W H hf hd K hK
                  obtain ⟨v65, e65, q65⟩ := H.val 17 65 rfl rfl rfl (deps_of' hd 17 (by kernel_rfl)) (by kernel_rfl)
                  go_simp
                  exact hK _ _ (Below.refl _ _) trivial ⟨H.glob.1, H.glob.2.s18 (by rw [H.frame, fill_size]; exact of_decide_eq_true (by kernel_rfl)) e65⟩
                case he =>
                  intro vs W hlen hv
                  match vs, hlen, hv with
                  | [x0_, x1_, x2_, x3_, x4_, x5_, x6_, x7_, x8_, x9_, x10_, x11_, x12_, x13_, x14_, x15_, x16_, x17_, x18_], _, hv =>
                  obtain rfl : (.slice (some ⟨go, 0, none⟩) xs.length C) = x0_ := by obtain ⟨z, h1, h2⟩ := hv 0 _ rfl; cases h1; exact h2.symm
                  obtain rfl : (.int .i64 j) = x1_ := by obtain ⟨z, h1, h2⟩ := hv 1 _ rfl; cases h1; exact h2.symm
                  have hx2 : (SubR wj.heap.size j (xs.take j)) x2_ W := by obtain ⟨z, h1, h2⟩ := hv 2 _ rfl; cases h1; exact h2
                  obtain rfl : (.pointer (some ⟨r, 0, none⟩)) = x4_ := by obtain ⟨z, h1, h2⟩ := hv 4 _ rfl; cases h1; exact h2.symm
                  obtain rfl : (.pointer (some ⟨r, 0, none⟩)) = x5_ := by obtain ⟨z, h1, h2⟩ := hv 5 _ rfl; cases h1; exact h2.symm
                  obtain rfl : (.pointer (some ⟨r, 0, none⟩)) = x6_ := by obtain ⟨z, h1, h2⟩ := hv 6 _ rfl; cases h1; exact h2.symm
                  obtain rfl : (.slice (some ⟨gl, 0, none⟩) l.length cl) = x7_ := by obtain ⟨z, h1, h2⟩ := hv 7 _ rfl; cases h1; exact h2.symm
                  obtain rfl : (.int .i64 k) = x8_ := by obtain ⟨z, h1, h2⟩ := hv 8 _ rfl; cases h1; exact h2.symm
                  obtain rfl : (.pointer (some ⟨gl, k * 2, none⟩)) = x9_ := by obtain ⟨z, h1, h2⟩ := hv 9 _ rfl; cases h1; exact h2.symm
                  obtain rfl : (.pointer (some ⟨gl, k * 2, none⟩)) = x10_ := by obtain ⟨z, h1, h2⟩ := hv 10 _ rfl; cases h1; exact h2.symm
                  obtain rfl : (.int .u64 x) = x11_ := by obtain ⟨z, h1, h2⟩ := hv 11 _ rfl; cases h1; exact h2.symm
                  obtain rfl : (.slice (some ⟨go, 0, none⟩) xs.length C) = x14_ := by obtain ⟨z, h1, h2⟩ := hv 14 _ rfl; cases h1; exact h2.symm
                  obtain rfl : (.int .i64 j) = x15_ := by obtain ⟨z, h1, h2⟩ := hv 15 _ rfl; cases h1; exact h2.symm
                  have hx16 : (SubR wj.heap.size (xs.length - j) (xs.drop j)) x16_ W := by obtain ⟨z, h1, h2⟩ := hv 16 _ rfl; cases h1; exact h2
                  intro L hall hG
                  clear hv hlen
                  obtain ⟨v65, e65, ho65⟩ := hG.2.e17 (hall 17 (by decide))
                  have e5 := hG.2.e18 (hall 18 (by decide))
                  have hGb := hG.1
                  clear hG hall
                  simp [fill, Act.put] at e65 e5
                  subst e65
                  subst e5
                  have HO2 := Lib.hid ho65
                  have HB2 := Lib.hid hGb
                  clear ho65 hGb
                  simp only [fill, if_true]
                  go_simp
                --END
                  have HO3 := Lib.hid (own_mono HO2.out (show w.heap.size ≤ wj.heap.size from Nat.le_trans HK.out.size HBj.out.size))
                  have HK3 := Lib.hid (HK.out.trans (Keeps.of_below' (HBj.out.trans (HB2.out.mono HBj.out.size))))
                  clear HO2 HB2
                  rw [← HIn.out, ← HX.out] at HO3
                  go_wp2_with (fail)
                  go_roundw
                  case rel => exact ⟨k + 1, by have := HL.out; omega, by go_num, HO3.out, HK3.out⟩
                  case measure => simp [intOf]; have := HL.out; omega
          · have b3 : ¬ (j : Int) < (xs.length : Int) := by omega
            have hup : j < xs.length → ¬ xs.getD j 0 < x := fun h => absurd h hjn
            have HLo := Lib.hid hlo
            have HUp := Lib.hid hup
            clear hlo hup
            go_upto_region 7 with (fail)
            --GEN r_hd7b
            refine wp_region_vals [Is (.int .i64 j), Is (.slice Ao xs.length C), Is (.int .i64 xs.length), Is (.bool false), Is (.bool false), Any, Any, Any, Any, Any, Any, Any, Any, Any, Any, Any, Any, Any, Is (.bool false)]
              (fun _ W W' => Below W.heap.size W W') (fun _ W => Below wj.heap.size wj W) (by kernel_rfl) (by kernel_rfl) (by kernel_rfl) ?hst ?h0 ⟨?o0, ?o1, ?o2, ?o3, ?o4, ?o5, ?o6, ?o7, ?o8, ?o9, ?o10, ?o11, ?o12, ?o13, ?o14, ?o15, ?o16, ?o17, ?o18, trivial⟩ ?he
            case hst =>
              exact ⟨(fun _ _ _ _ _ _ h _ => h), (fun _ _ _ _ _ _ h _ => h), (fun _ _ _ _ _ _ h _ => h), (fun _ _ _ _ _ _ h _ => h), (fun _ _ _ _ _ _ h _ => h), (fun _ _ _ _ _ _ h _ => h), (fun _ _ _ _ _ _ h _ => h), (fun _ _ _ _ _ _ h _ => h), (fun _ _ _ _ _ _ h _ => h), (fun _ _ _ _ _ _ h _ => h), (fun _ _ _ _ _ _ h _ => h), (fun _ _ _ _ _ _ h _ => h), (fun _ _ _ _ _ _ h _ => h), (fun _ _ _ _ _ _ h _ => h), (fun _ _ _ _ _ _ h _ => h), (fun _ _ _ _ _ _ h _ => h), (fun _ _ _ _ _ _ h _ => h), (fun _ _ _ _ _ _ h _ => h), (fun _ _ _ _ _ _ h _ => h), trivial⟩
            case h0 =>
              exact (Below.refl _ _).drew
            case o0 =>
              intro L vs A W H hf hd K hK
              have e7 : A.tmps[7]?.getD undef = .int .i64 j := H.old 7 (by kernel_rfl)
              go_simp
              exact hK _ _ (Below.refl _ _) rfl (H.glob)
            case o1 =>
              intro L vs A W H hf hd K hK
              have e5 : A.tmps[5]?.getD undef = .slice Ao xs.length C := H.old 5 (by kernel_rfl)
              go_simp
              exact hK _ _ (Below.refl _ _) rfl (H.glob)
            case o2 =>
              intro L vs A W H hf hd K hK
              have e28 := H.is 1 28 rfl rfl rfl (deps_of' hd 1 (by kernel_rfl)) (by kernel_rfl)
              go_simp
              exact hK _ _ (Below.refl _ _) rfl (H.glob)
            case o3 =>
              intro L vs A W H hf hd K hK
              have e27 := H.is 0 27 rfl rfl rfl (deps_of' hd 0 (by kernel_rfl)) (by kernel_rfl)
              have e29 := H.is 2 29 rfl rfl rfl (deps_of' hd 2 (by kernel_rfl)) (by kernel_rfl)
              go_simp
              exact hK _ _ (Below.refl _ _) rfl (H.glob)
            case o4 =>
              intro L vs A W H hf hd K hK
              have e30 := H.is 3 30 rfl rfl rfl (deps_of' hd 3 (by kernel_rfl)) (by kernel_rfl)
              go_simp
              exact hK _ _ (Below.refl _ _) rfl (H.glob)
            case o5 =>
              intro L vs A W H hf hd K hK
              have e31 := H.is 4 31 rfl rfl rfl (deps_of' hd 4 (by kernel_rfl)) (by kernel_rfl)
              refine if_unwanted (j := 4) (s := 31) rfl rfl rfl e31 rfl ?_
              exact hK _ _ (Below.refl _ _) trivial (H.glob)
            case o6 =>
              intro L vs A W H hf hd K hK
              have e31 := H.is 4 31 rfl rfl rfl (deps_of' hd 4 (by kernel_rfl)) (by kernel_rfl)
              refine if_unwanted (j := 4) (s := 31) rfl rfl rfl e31 rfl ?_
              exact hK _ _ (Below.refl _ _) trivial (H.glob)
            case o7 =>
              intro L vs A W H hf hd K hK
              have e31 := H.is 4 31 rfl rfl rfl (deps_of' hd 4 (by kernel_rfl)) (by kernel_rfl)
              refine if_unwanted (j := 4) (s := 31) rfl rfl rfl e31 rfl ?_
              exact hK _ _ (Below.refl _ _) trivial (H.glob)
            case o8 =>
              intro L vs A W H hf hd K hK
              have e31 := H.is 4 31 rfl rfl rfl (deps_of' hd 4 (by kernel_rfl)) (by kernel_rfl)
              refine if_unwanted (j := 4) (s := 31) rfl rfl rfl e31 rfl ?_
              exact hK _ _ (Below.refl _ _) trivial (H.glob)
            case o9 =>
              intro L vs A W H hf hd K hK
              have e31 := H.is 4 31 rfl rfl rfl (deps_of' hd 4 (by kernel_rfl)) (by kernel_rfl)
              refine if_unwanted (j := 4) (s := 31) rfl rfl rfl e31 rfl ?_
              exact hK _ _ (Below.refl _ _) trivial (H.glob)
            case o10 =>
              intro L vs A W H hf hd K hK
              have e31 := H.is 4 31 rfl rfl rfl (deps_of' hd 4 (by kernel_rfl)) (by kernel_rfl)
              refine if_unwanted (j := 4) (s := 31) rfl rfl rfl e31 rfl ?_
              exact hK _ _ (Below.refl _ _) trivial (H.glob)
            case o11 =>
              intro L vs A W H hf hd K hK
              have e31 := H.is 4 31 rfl rfl rfl (deps_of' hd 4 (by kernel_rfl)) (by kernel_rfl)
              refine if_unwanted (j := 4) (s := 31) rfl rfl rfl e31 rfl ?_
              exact hK _ _ (Below.refl _ _) trivial (H.glob)
            case o12 =>
              intro L vs A W H hf hd K hK
              have e31 := H.is 4 31 rfl rfl rfl (deps_of' hd 4 (by kernel_rfl)) (by kernel_rfl)
              refine if_unwanted (j := 4) (s := 31) rfl rfl rfl e31 rfl ?_
              exact hK _ _ (Below.refl _ _) trivial (H.glob)
            case o13 =>
              intro L vs A W H hf hd K hK
              have e31 := H.is 4 31 rfl rfl rfl (deps_of' hd 4 (by kernel_rfl)) (by kernel_rfl)
              refine if_unwanted (j := 4) (s := 31) rfl rfl rfl e31 rfl ?_
              exact hK _ _ (Below.refl _ _) trivial (H.glob)
            case o14 =>
              intro L vs A W H hf hd K hK
              have e31 := H.is 4 31 rfl rfl rfl (deps_of' hd 4 (by kernel_rfl)) (by kernel_rfl)
              refine if_unwanted (j := 4) (s := 31) rfl rfl rfl e31 rfl ?_
              exact hK _ _ (Below.refl _ _) trivial (H.glob)
            case o15 =>
              intro L vs A W H hf hd K hK
              have e31 := H.is 4 31 rfl rfl rfl (deps_of' hd 4 (by kernel_rfl)) (by kernel_rfl)
              refine if_unwanted (j := 4) (s := 31) rfl rfl rfl e31 rfl ?_
              exact hK _ _ (Below.refl _ _) trivial (H.glob)
            case o16 =>
              intro L vs A W H hf hd K hK
              have e31 := H.is 4 31 rfl rfl rfl (deps_of' hd 4 (by kernel_rfl)) (by kernel_rfl)
              refine if_unwanted (j := 4) (s := 31) rfl rfl rfl e31 rfl ?_
              exact hK _ _ (Below.refl _ _) trivial (H.glob)
            case o17 =>
              intro L vs A W H hf hd K hK
              have e31 := H.is 4 31 rfl rfl rfl (deps_of' hd 4 (by kernel_rfl)) (by kernel_rfl)
              refine if_unwanted (j := 4) (s := 31) rfl rfl rfl e31 rfl ?_
              exact hK _ _ (Below.refl _ _) trivial (H.glob)
            case o18 =>
              intro L vs A W H hf hd K hK
              have e31 := H.is 4 31 rfl rfl rfl (deps_of' hd 4 (by kernel_rfl)) (by kernel_rfl)
              obtain ⟨v44, e44, q44⟩ := H.val 17 44 rfl rfl rfl (deps_of' hd 17 (by kernel_rfl)) (by kernel_rfl)
              go_simp
              exact hK _ _ (Below.refl _ _) rfl (H.glob)
            case he =>
              intro vs W hlen hv
              match vs, hlen, hv with
              | [x0_, x1_, x2_, x3_, x4_, x5_, x6_, x7_, x8_, x9_, x10_, x11_, x12_, x13_, x14_, x15_, x16_, x17_, x18_], _, hv =>
              obtain rfl : (.int .i64 j) = x0_ := by obtain ⟨z, h1, h2⟩ := hv 0 _ rfl; cases h1; exact h2.symm
              obtain rfl : (.slice Ao xs.length C) = x1_ := by obtain ⟨z, h1, h2⟩ := hv 1 _ rfl; cases h1; exact h2.symm
              obtain rfl : (.int .i64 xs.length) = x2_ := by obtain ⟨z, h1, h2⟩ := hv 2 _ rfl; cases h1; exact h2.symm
              obtain rfl : (.bool false) = x3_ := by obtain ⟨z, h1, h2⟩ := hv 3 _ rfl; cases h1; exact h2.symm
              obtain rfl : (.bool false) = x4_ := by obtain ⟨z, h1, h2⟩ := hv 4 _ rfl; cases h1; exact h2.symm
              obtain rfl : (.bool false) = x18_ := by obtain ⟨z, h1, h2⟩ := hv 18 _ rfl; cases h1; exact h2.symm
              intro L hall hG
              clear hv hlen
              have HJ2 := Lib.hid (hG : Below wj.heap.size wj W)
              clear hG hall
              simp only [fill, if_true]
              go_simp
            --END
              have hup := HUp.out
              have hlo := HLo.out
              replace HOj := Lib.hid (own_below' HOj.out HJ2.out)
              replace HR0 := Lib.hid (Nat.lt_of_lt_of_le HR0.out HJ2.out.size)
              replace c0 := (HJ2.out.cell (p := ⟨r, 0, none⟩) (Nat.lt_of_lt_of_le HT3.out.blk.lt HBj.out.size)).trans c0
              replace a1 := (HJ2.out.cell (p := ⟨gl, k * 2, none⟩) HGl.out).trans a1
              replace HGl := Lib.hid (Nat.lt_of_lt_of_le HGl.out HJ2.out.size)
              replace HBj := Lib.hid (HBj.out.trans (HJ2.out.mono HBj.out.size))
              clear HJ2 a2
              obtain ⟨wj, rfl⟩ : ∃ y, y = W := ⟨_, rfl⟩
              have HIn := Lib.hid (insS_at hlo hj hup)
              have HJn := Lib.hid hj
              have HnB := Lib.hid hxl
              obtain ⟨hnc, hcm⟩ := own_caps HOj.out
              have HnC := Lib.hid hnc
              have HCm := Lib.hid hcm
              have HRd := Lib.hid (Reads.of_own HOj.out)
              clear hlo hup hj hnc hcm
              go_upto_region 9 with (fail)
              --GEN r_hd9
              refine wp_region_valsA [Is (.slice Ao xs.length C), Is (.int .i64 j), SubR wj.heap.size j (xs.take j), Any, Is (.pointer (some ⟨r, 0, none⟩)), Is (.pointer (some ⟨r, 0, none⟩)), Is (.pointer (some ⟨r, 0, none⟩)), Is (.slice (some ⟨gl, 0, none⟩) l.length cl), Is (.int .i64 k), Is (.pointer (some ⟨gl, k * 2, none⟩)), Is (.pointer (some ⟨gl, k * 2, none⟩)), Is (.int .u64 x), Any, Any, Is (.slice Ao xs.length C), Is (.int .i64 j), SubR wj.heap.size (xs.length - j) (xs.drop j), Any, Any]
                (fun _ W W' => Below wj.heap.size W W') (fun L a W => Below wj.heap.size wj W ∧ HG wj.heap.size x (xs.take j) (xs.drop j) L a W) (by kernel_rfl) (by kernel_rfl) (by kernel_rfl) ?hst ?h0 ⟨?o0, ?o1, ?o2, ?o3, ?o4, ?o5, ?o6, ?o7, ?o8, ?o9, ?o10, ?o11, ?o12, ?o13, ?o14, ?o15, ?o16, ?o17, ?o18, trivial⟩ ?he
              case hst =>
                exact ⟨(fun _ _ _ _ _ _ h _ => h), (fun _ _ _ _ _ _ h _ => h), (fun _ _ _ _ _ _ h hR => SubR.below h hR), (fun _ _ _ _ _ _ h _ => h), (fun _ _ _ _ _ _ h _ => h), (fun _ _ _ _ _ _ h _ => h), (fun _ _ _ _ _ _ h _ => h), (fun _ _ _ _ _ _ h _ => h), (fun _ _ _ _ _ _ h _ => h), (fun _ _ _ _ _ _ h _ => h), (fun _ _ _ _ _ _ h _ => h), (fun _ _ _ _ _ _ h _ => h), (fun _ _ _ _ _ _ h _ => h), (fun _ _ _ _ _ _ h _ => h), (fun _ _ _ _ _ _ h _ => h), (fun _ _ _ _ _ _ h _ => h), (fun _ _ _ _ _ _ h hR => SubR.below h hR), (fun _ _ _ _ _ _ h _ => h), (fun _ _ _ _ _ _ h _ => h), trivial⟩
              case h0 =>
                exact ⟨(Below.refl _ _).drew, HG.nothing⟩
              case o0 =>
                intro L vs A W H hf hd K hK
                have e5 : A.tmps[5]?.getD undef = .slice Ao xs.length C := H.later 5 0 hf (by kernel_rfl)
                go_simp
                exact hK _ _ (Below.refl _ _) rfl (⟨H.glob.1, H.glob.2.keep rfl rfl rfl rfl rfl (by simp) (Below.refl _ _)⟩)
              case o1 =>
                intro L vs A W H hf hd K hK
                have e7 : A.tmps[7]?.getD undef = .int .i64 j := H.old 7 (by kernel_rfl)
                go_simp
                exact hK _ _ (Below.refl _ _) rfl (⟨H.glob.1, H.glob.2.keep rfl rfl rfl rfl rfl (by simp) (Below.refl _ _)⟩)
              case o2 =>
                intro L vs A W H hf hd K hK
                have e48 := H.is 0 48 rfl rfl rfl (deps_of' hd 0 (by kernel_rfl)) (by kernel_rfl)
                have e49 := H.is 1 49 rfl rfl rfl (deps_of' hd 1 (by kernel_rfl)) (by kernel_rfl)
                rw [if_pos (show Region.wanted _ _ = true from rfl)]
                exact wp_slice_to (.tmp 48) (.tmp 49) rfl Ao xs.length C j wj.heap.size xs (ev_tmp e48) (ev_tmp e49) rfl HJn.out HnC.out HCm.out (HRd.out.below H.glob.1) (fun v hv => hK _ _ (Below.refl _ _) hv ⟨H.glob.1, H.glob.2.keep rfl rfl rfl rfl rfl (by simp) (Below.refl _ _)⟩)
              case o3 =>
                intro L vs A W H hf hd K hK
                obtain ⟨v50, e50, q50⟩ := H.val 2 50 rfl rfl rfl (deps_of' hd 2 (by kernel_rfl)) (by kernel_rfl)
                obtain ⟨A2, c2, rfl, hr, hl2⟩ := q50
                refine step_append_any (w := W) rfl (.const (.slice none 0 0)) (.tmp 50) 37 rfl wj.heap.size 29 i0 _ 1 8 Try.underlying37 hi hz0 hz1 hz2 rfl (by omega) (.slice none 0 0) 0 [] rfl (World.ownsRow_nil _ _ _ _) wj.heap.size A2 j c2 _ (ev_tmp e50) hr (ints_oneCell .u64 _) (by unfold maxLen; have := HJn.out; have := HnB.out; omega) (by have := HJn.out; have := HnB.out; omega) H.glob.1.size ?_
                intro v' w' hown' hg' _
                have hb1 : Below W.heap.size W w' := (Below.refl _ _).grown hg' (Nat.le_refl _) (fun _ e => by cases e)
                exact hK _ _ (hb1.mono H.glob.1.size) trivial ⟨H.glob.1.trans (hb1.mono H.glob.1.size), H.glob.2.s3 hf (by rw [H.frame, fill_size]; exact of_decide_eq_true (by kernel_rfl)) hb1 hl2 (by simpa using hown')⟩
              case o4 =>
                intro L vs A W H hf hd K hK
                have e0 : A.tmps[0]?.getD undef = .pointer (some ⟨r, 0, none⟩) := H.old 0 (by kernel_rfl)
                go_simp
                exact hK _ _ (Below.refl _ _) rfl (⟨H.glob.1, H.glob.2.keep rfl rfl rfl rfl rfl (by simp) (Below.refl _ _)⟩)
              case o5 =>
                intro L vs A W H hf hd K hK
                have e52 := H.is 4 52 rfl rfl rfl (deps_of' hd 4 (by kernel_rfl)) (by kernel_rfl)
                go_simp
                exact hK _ _ (Below.refl _ _) rfl (⟨H.glob.1, H.glob.2.keep rfl rfl rfl rfl rfl (by simp) (Below.refl _ _)⟩)
              case o6 =>
                intro L vs A W H hf hd K hK
                have e53 := H.is 5 53 rfl rfl rfl (deps_of' hd 5 (by kernel_rfl)) (by kernel_rfl)
                go_simp
                exact hK _ _ (Below.refl _ _) rfl (⟨H.glob.1, H.glob.2.keep rfl rfl rfl rfl rfl (by simp) (Below.refl _ _)⟩)
              case o7 =>
                intro L vs A W H hf hd K hK
                have e54 := H.is 6 54 rfl rfl rfl (deps_of' hd 6 (by kernel_rfl)) (by kernel_rfl)
                have d := (H.glob.1.cell (p := ⟨r, 0, none⟩) HR0.out).trans c0
                go_simp
                exact hK _ _ (Below.refl _ _) rfl (⟨H.glob.1, H.glob.2.keep rfl rfl rfl rfl rfl (by simp) (Below.refl _ _)⟩)
              case o8 =>
                intro L vs A W H hf hd K hK
                have e6 : A.tmps[6]?.getD undef = .int .i64 k := H.old 6 (by kernel_rfl)
                go_simp
                exact hK _ _ (Below.refl _ _) rfl (⟨H.glob.1, H.glob.2.keep rfl rfl rfl rfl rfl (by simp) (Below.refl _ _)⟩)
              case o9 =>
                intro L vs A W H hf hd K hK
                have e55 := H.is 7 55 rfl rfl rfl (deps_of' hd 7 (by kernel_rfl)) (by kernel_rfl)
                have e56 := H.is 8 56 rfl rfl rfl (deps_of' hd 8 (by kernel_rfl)) (by kernel_rfl)
                go_simp
                exact hK _ _ (Below.refl _ _) rfl (⟨H.glob.1, H.glob.2.keep rfl rfl rfl rfl rfl (by simp) (Below.refl _ _)⟩)
              case o10 =>
                intro L vs A W H hf hd K hK
                have e57 := H.is 9 57 rfl rfl rfl (deps_of' hd 9 (by kernel_rfl)) (by kernel_rfl)
                go_simp
                exact hK _ _ (Below.refl _ _) rfl (⟨H.glob.1, H.glob.2.keep rfl rfl rfl rfl rfl (by simp) (Below.refl _ _)⟩)
              case o11 =>
                intro L vs A W H hf hd K hK
                have e58 := H.is 10 58 rfl rfl rfl (deps_of' hd 10 (by kernel_rfl)) (by kernel_rfl)
                have d := (H.glob.1.cell (p := ⟨gl, k * 2, none⟩) HGl.out).trans a1
                go_simp
                exact hK _ _ (Below.refl _ _) rfl (⟨H.glob.1, H.glob.2.keep rfl rfl rfl rfl rfl (by simp) (Below.refl _ _)⟩)
              case o12 =>
                intro L vs A W H hf hd K hK
                have e59 := H.is 11 59 rfl rfl rfl (deps_of' hd 11 (by kernel_rfl)) (by kernel_rfl)
                go_simp
                exact hK _ _ ((Below.refl _ _).alloc H.glob.1.size _) trivial ⟨H.glob.1.alloc H.glob.1.size _, H.glob.2.s12 (by rw [H.frame, fill_size]; exact of_decide_eq_true (by kernel_rfl)) _ rfl⟩
              case o13 =>
                intro L vs A W H hf hd K hK
                obtain ⟨v51, e51, q51⟩ := H.val 3 51 rfl rfl rfl (deps_of' hd 3 (by kernel_rfl)) (by kernel_rfl)
                obtain ⟨v60, e60, q60⟩ := H.val 12 60 rfl rfl rfl (deps_of' hd 12 (by kernel_rfl)) (by kernel_rfl)
                have h3 : L 3 = true := deps_of' hd 3 (by kernel_rfl)
                have h12 : L 12 = true := deps_of' hd 12 (by kernel_rfl)
                obtain ⟨va, ea, hoa⟩ := H.glob.2.e3 h3 hf
                obtain ⟨Hx, ex, hxl, hxc⟩ := H.glob.2.e12 h12 hf
                refine step_append_any (w := W) rfl (.tmp 51) (.tmp 60) 37 rfl wj.heap.size 29 i0 _ 1 8 Try.underlying37 hi hz0 hz1 hz2 rfl (by omega) va (xs.take j).length _ (ev_tmp ea) hoa W.heap.size (some ⟨Hx, 0, none⟩) 1 1 [.int .u64 x] (ev_tmp ex) (reads_one hxl hxc) (by simp [Value.oneCell']) (by unfold maxLen; have := HnB.out; simp; omega) (by have := HnB.out; simp; omega) H.glob.1.size ?_
                intro v' w' hown' hg' _
                have hb1 : Below wj.heap.size W w' := (Below.refl _ _).grown hg' H.glob.1.size (fun g e => own_base hoa g e)
                have n17 := H.notYet 17 13 rfl hf (by kernel_rfl)
                have n18 := H.notYet 18 17 rfl n17 (by kernel_rfl)
                exact hK _ _ hb1 trivial ⟨H.glob.1.trans hb1, HG.s13 (by rw [H.frame, fill_size]; exact of_decide_eq_true (by kernel_rfl)) n17 n18 (by simpa using hown')⟩
              case o14 =>
                intro L vs A W H hf hd K hK
                have e5 : A.tmps[5]?.getD undef = .slice Ao xs.length C := H.later 5 14 hf (by kernel_rfl)
                go_simp
                exact hK _ _ (Below.refl _ _) rfl (⟨H.glob.1, H.glob.2.keep rfl rfl rfl rfl rfl (by simp) (Below.refl _ _)⟩)
              case o15 =>
                intro L vs A W H hf hd K hK
                have e7 : A.tmps[7]?.getD undef = .int .i64 j := H.old 7 (by kernel_rfl)
                go_simp
                exact hK _ _ (Below.refl _ _) rfl (⟨H.glob.1, H.glob.2.keep rfl rfl rfl rfl rfl (by simp) (Below.refl _ _)⟩)
              case o16 =>
                intro L vs A W H hf hd K hK
                have e62 := H.is 14 62 rfl rfl rfl (deps_of' hd 14 (by kernel_rfl)) (by kernel_rfl)
                have e63 := H.is 15 63 rfl rfl rfl (deps_of' hd 15 (by kernel_rfl)) (by kernel_rfl)
                rw [if_pos (show Region.wanted _ _ = true from rfl)]
                exact wp_slice_from (.tmp 62) (.tmp 63) rfl Ao xs.length C j wj.heap.size xs (ev_tmp e62) (ev_tmp e63) rfl HJn.out HnC.out HCm.out (HRd.out.below H.glob.1) (fun v hv => hK _ _ (Below.refl _ _) hv ⟨H.glob.1, H.glob.2.keep rfl rfl rfl rfl rfl (by simp) (Below.refl _ _)⟩)
              case o17 =>
                intro L vs A W H hf hd K hK
                obtain ⟨v61, e61, q61⟩ := H.val 13 61 rfl rfl rfl (deps_of' hd 13 (by kernel_rfl)) (by kernel_rfl)
                obtain ⟨v64, e64, q64⟩ := H.val 16 64 rfl rfl rfl (deps_of' hd 16 (by kernel_rfl)) (by kernel_rfl)
                have h13 : L 13 = true := deps_of' hd 13 (by kernel_rfl)
                obtain ⟨va, ea, hoa⟩ := H.glob.2.e13 h13 hf
                obtain ⟨A2, c2, rfl, hr, hl2⟩ := q64
                refine step_append_any (w := W) rfl (.tmp 61) (.tmp 64) 37 rfl wj.heap.size 29 i0 _ 1 8 Try.underlying37 hi hz0 hz1 hz2 rfl (by omega) va ((xs.take j).length + 1) _ (ev_tmp ea) hoa wj.heap.size A2 (xs.length - j) c2 _ (ev_tmp e64) hr (ints_oneCell .u64 _) (by unfold maxLen; have := HnB.out; simp; omega) (by have := HnB.out; simp; omega) H.glob.1.size ?_
                intro v' w' hown' hg' _
                have hb1 : Below wj.heap.size W w' := (Below.refl _ _).grown hg' H.glob.1.size (fun g e => own_base hoa g e)
                have n18 := H.notYet 18 17 rfl hf (by kernel_rfl)
                exact hK _ _ hb1 trivial ⟨H.glob.1.trans hb1, HG.s17 (by rw [H.frame, fill_size]; exact of_decide_eq_true (by kernel_rfl)) h13 n18 (by rw [show (xs.take j ++ x :: xs.drop j).length = (xs.take j).length + 1 + (xs.length - j) by rw [List.length_append, List.length_cons, hl2]; omega]; have := hown'; rw [← List.map_append] at this; simpa only [List.append_assoc, List.singleton_append] using this)⟩
              case o18 =>
                intro L vs A W H hf hd K hK
                obtain ⟨v65, e65, q65⟩ := H.val 17 65 rfl rfl rfl (deps_of' hd 17 (by kernel_rfl)) (by kernel_rfl)
                go_simp
                exact hK _ _ (Below.refl _ _) trivial ⟨H.glob.1, H.glob.2.s18 (by rw [H.frame, fill_size]; exact of_decide_eq_true (by kernel_rfl)) e65⟩
              case he =>
                intro vs W hlen hv
                match vs, hlen, hv with
                | [x0_, x1_, x2_, x3_, x4_, x5_, x6_, x7_, x8_, x9_, x10_, x11_, x12_, x13_, x14_, x15_, x16_, x17_, x18_], _, hv =>
                obtain rfl : (.slice Ao xs.length C) = x0_ := by obtain ⟨z, h1, h2⟩ := hv 0 _ rfl; cases h1; exact h2.symm
                obtain rfl : (.int .i64 j) = x1_ := by obtain ⟨z, h1, h2⟩ := hv 1 _ rfl; cases h1; exact h2.symm
                have hx2 : (SubR wj.heap.size j (xs.take j)) x2_ W := by obtain ⟨z, h1, h2⟩ := hv 2 _ rfl; cases h1; exact h2
                obtain rfl : (.pointer (some ⟨r, 0, none⟩)) = x4_ := by obtain ⟨z, h1, h2⟩ := hv 4 _ rfl; cases h1; exact h2.symm
                obtain rfl : (.pointer (some ⟨r, 0, none⟩)) = x5_ := by obtain ⟨z, h1, h2⟩ := hv 5 _ rfl; cases h1; exact h2.symm
                obtain rfl : (.pointer (some ⟨r, 0, none⟩)) = x6_ := by obtain ⟨z, h1, h2⟩ := hv 6 _ rfl; cases h1; exact h2.symm
                obtain rfl : (.slice (some ⟨gl, 0, none⟩) l.length cl) = x7_ := by obtain ⟨z, h1, h2⟩ := hv 7 _ rfl; cases h1; exact h2.symm
                obtain rfl : (.int .i64 k) = x8_ := by obtain ⟨z, h1, h2⟩ := hv 8 _ rfl; cases h1; exact h2.symm
                obtain rfl : (.pointer (some ⟨gl, k * 2, none⟩)) = x9_ := by obtain ⟨z, h1, h2⟩ := hv 9 _ rfl; cases h1; exact h2.symm
                obtain rfl : (.pointer (some ⟨gl, k * 2, none⟩)) = x10_ := by obtain ⟨z, h1, h2⟩ := hv 10 _ rfl; cases h1; exact h2.symm
                obtain rfl : (.int .u64 x) = x11_ := by obtain ⟨z, h1, h2⟩ := hv 11 _ rfl; cases h1; exact h2.symm
                obtain rfl : (.slice Ao xs.length C) = x14_ := by obtain ⟨z, h1, h2⟩ := hv 14 _ rfl; cases h1; exact h2.symm
                obtain rfl : (.int .i64 j) = x15_ := by obtain ⟨z, h1, h2⟩ := hv 15 _ rfl; cases h1; exact h2.symm
                have hx16 : (SubR wj.heap.size (xs.length - j) (xs.drop j)) x16_ W := by obtain ⟨z, h1, h2⟩ := hv 16 _ rfl; cases h1; exact h2
                intro L hall hG
                clear hv hlen
                obtain ⟨v65, e65, ho65⟩ := hG.2.e17 (hall 17 (by decide))
                have e5 := hG.2.e18 (hall 18 (by decide))
                have hGb := hG.1
                clear hG hall
                simp [fill, Act.put] at e65 e5
                subst e65
                subst e5
                have HO2 := Lib.hid ho65
                have HB2 := Lib.hid hGb
                clear ho65 hGb
                simp only [fill, if_true]
                go_simp
              --END
                have HO3 := Lib.hid (own_mono HO2.out (show w.heap.size ≤ wj.heap.size from Nat.le_trans HK.out.size HBj.out.size))
                have HK3 := Lib.hid (HK.out.trans (Keeps.of_below' (HBj.out.trans (HB2.out.mono HBj.out.size))))
                clear HO2 HB2
                rw [← HIn.out, ← HX.out] at HO3
                go_wp2_with (fail)
                go_roundw
                case rel => exact ⟨k + 1, by have := HL.out; omega, by go_num, HO3.out, HK3.out⟩
                case measure => simp [intOf]; have := HL.out; omega
      · have he2 : (hC l k != c) = true := bne_iff_ne.2 hce
        rw [if_neg hce] at HX
        clear hce
        go_wp2_with (fail)
        go_roundw
        case rel => exact ⟨k + 1, by have := HL.out; omega, by go_num, by rw [HX.out]; exact HO.out, HK.out⟩
        case measure => simp [intOf]; have := HL.out; omega
    · have b1 : ¬ (k : Int) < (l.length : Int) := by omega
      rw [List.take_of_length_le (by omega)] at ho
      obtain ⟨A, C, rfl⟩ := own_form ho
      have HO := Lib.hid ho
      clear ho hkp
      go_wp2_with (fail)
      go_ret
      exact ⟨_, rfl, HO.out, HK.out.below⟩
end Go.Proofs.Ytajccnmeijgagaa
