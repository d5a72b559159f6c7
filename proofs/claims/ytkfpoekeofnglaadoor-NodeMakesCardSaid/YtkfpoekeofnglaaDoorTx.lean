/-
  node.Text: a contract.
-/
import Derived.Test.YtkfpoekeofnglaaDoorFu
import Derived.Test.YtkfpoekeofnglaaDoorNx
import Derived.Test.YtkfpoekeofnglaaDoorRd
namespace Go.Proofs.YtkfpoekeofnglaaDoor
open Go.RowKit

theorem Tens.below {w w' : World} (h : Tens w) (hB : Below w.heap.size w w') : Tens w' := by
  unfold Tens Lib.TabIs World.var? at *
  cases hg : Tryd.prog.globalNamed "internal/strconv.uint64pow10" with
  | none => simp [hg] at h
  | some g =>
    simp only [hg, Option.bind_some] at h ⊢
    have hlt : g < w.heap.size := by
      rcases Nat.lt_or_ge g w.heap.size with h' | h'
      · exact h'
      · rw [Array.getElem?_eq_none h'] at h; simp at h
    rw [hB.block g hlt]; exact h
theorem own_lit {w : World} {base g n size : Nat} {e : TypeId} {C : Array Value} (hb : Blk w g C e) (hs : C.size = n * size) (hn : n ≤ 1000000) (hg : base ≤ g) : w.ownsRow base e size (.slice (some ⟨g, 0, none⟩) n n) n C.toList :=
  ⟨by simpa using hs, .inr ⟨g, n, C, rfl, hg, hb, Nat.le_refl _, by unfold maxLen; omega, hs, List.take_of_length_le (by simp; omega)⟩⟩
theorem Tryd.infoS : (Tryd.prog.info? 9).map (fun i => (i.zero, i.size, i.bytes)) = some (some (.string ⟨#[]⟩), 1, 16) := by kernel_rfl
def dg (x : Nat) : List UInt8 := Lib.decDigits x
/-- a node's text, piece by piece -/
def textL (lv lo nx fi : Nat) (l : List (Int × Int)) : List (List UInt8) := [dg lv, dg lo, dg nx, dg fi] ++ l.map (fun e => dg e.1.toNat ++ [61] ++ dg e.2.toNat)
def strV (b : List UInt8) : Value := .string ⟨b.toArray⟩

def txS (lv lo nx fi : Nat) (l : List (Int × Int)) (k : Nat) : List Value := [numS lv, numS lo, numS nx, numS fi] ++ (l.take k).map (fun e => strV (dg e.1.toNat ++ [61] ++ dg e.2.toNat))
/-- a row of the call's own may turn at one operation; all others make memory alone -/
def RS (S : Nat → Prop) (i0 : Nat) : Nat → World → World → Prop := fun i W W' => if i = i0 then Keeps S W W' else Below W.heap.size W W'
theorem RS.other {S : Nat → Prop} {i0 i : Nat} {W W' : World} (h : i ≠ i0) (hR : RS S i0 i W W') : Below W.heap.size W W' := by unfold RS at hR; rwa [if_neg h] at hR
theorem RS.keeps {S : Nat → Prop} {i0 i : Nat} {W W' : World} (hR : RS S i0 i W W') : Keeps S W W' := by
  unfold RS at hR
  split at hR
  · exact hR
  · exact Keeps.of_belowS hR
/-- a new slice of one string, outside S -/
def NewS (S : Nat → Prop) (s : Value) : Value → World → Prop := fun v W => ∃ g, v = .slice (some ⟨g, 0, none⟩) 1 1 ∧ Blk W g #[s] 9 ∧ ¬ S g
theorem stays9 {S : Nat → Prop} {i0 i : Nat} {s v : Value} {w w' : World} (h : NewS S s v w) (hR : RS S i0 i w w') : NewS S s v w' := by
  obtain ⟨g, e, hb, hn⟩ := h
  exact ⟨g, e, hb.kept hR.keeps hn, hn⟩
theorem below_keeps {S : Nat → Prop} {a w W : World} {B : Nat} (h : Below B a w) (hk : Keeps S w W) (hB : B ≤ w.heap.size) (hS : ∀ k, k < B → ¬ S k) : Below B a W :=
  ⟨hk.os.trans h.os, hk.tape.trans h.tape, hk.output.trans h.output, Nat.le_trans h.size hk.size, fun i hi => (hk.block i (by omega) (hS i hi)).trans (h.block i hi)⟩

theorem str_app (a b : List UInt8) : (⟨a.toArray⟩ ++ ⟨b.toArray⟩ : ByteArray) = ⟨(a ++ b).toArray⟩ := by
  apply ByteArray.ext
  simp
theorem own_block_lt {w : World} {base : Nat} {e : TypeId} {v : Value} {n sz : Nat} {xs : List Value} (h : w.ownsRow base e sz v n xs) {g : Nat} (hg : v.ownBlock = some g) : g < w.heap.size := by
  obtain ⟨_, ⟨rfl, _⟩ | ⟨g', cap, cur, rfl, _, hh, _⟩⟩ := h
  · cases hg
  · cases hg; exact (Array.getElem?_eq_some_iff.1 hh).1
def OwnG (B g n : Nat) (xs : List Value) : Value → World → Prop := fun v W => W.ownsRow B 9 1 v n xs ∧ v.ownBlock ≠ some g
theorem txS_len (lv lo nx fi : Nat) (l : List (Int × Int)) (k : Nat) (h : k ≤ l.length) : (txS lv lo nx fi l k).length = 4 + k := by
  unfold txS; simp; omega
theorem txS_next (lv lo nx fi : Nat) (l : List (Int × Int)) (k : Nat) (h : k < l.length) : txS lv lo nx fi l (k + 1) = txS lv lo nx fi l k ++ [strV (dg (eK l k).toNat ++ [61] ++ dg (eP l k).toNat)] := by
  have e : l[k] = (eK l k, eP l k) := by simp [eK, eP, List.getD, h]
  unfold txS
  rw [List.take_succ_eq_append_getElem h, List.map_append, e]
  simp
theorem txS_all (lv lo nx fi : Nat) (l : List (Int × Int)) : txS lv lo nx fi l l.length = (textL lv lo nx fi l).map strV := by
  unfold txS textL
  rw [List.take_length, List.map_append, List.map_map]
  rfl
theorem dg_len (u : Nat) (h : u < 18446744073709551616) : (dg u).length ≤ 20 := by
  unfold dg
  rw [Lib.decDigits_length]
  by_cases h1 : 1 ≤ u
  · have := Lib.numDigits_eq u h1 h; split at this <;> omega
  · have : u = 0 := by omega
    subst this
    unfold Lib.nDigits
    simp
theorem joinTail_len (sep : List UInt8) (c : Nat) : ∀ (r : List (List UInt8)), (∀ x ∈ r, x.length ≤ c) → (Lib.joinTail sep r).length ≤ r.length * (c + sep.length)
  | [], _ => by simp [Lib.joinTail]
  | x :: r, h => by
    have ih := joinTail_len sep c r (fun y hy => h y (by simp [hy]))
    have hx := h x (by simp)
    unfold Lib.joinTail at *
    simp only [List.map_cons, List.flatten_cons, List.length_append, List.length_cons]
    rw [Nat.add_mul]
    omega
theorem join_len (sep : List UInt8) (c : Nat) : ∀ (r : List (List UInt8)), (∀ x ∈ r, x.length ≤ c) → (Lib.join r sep).length ≤ r.length * (c + sep.length)
  | [], _ => by simp [Lib.join_nil]
  | x :: r, h => by
    rw [Lib.join_cons, List.length_append, List.length_cons, Nat.add_mul]
    have := joinTail_len sep c r (fun y hy => h y (by simp [hy]))
    have hx := h x (by simp)
    omega
theorem textL_le {lv lo nx fi : Nat} {l : List (Int × Int)} (hl : lv ≤ 9223372036854775807) (ho : lo < 18446744073709551616) (hx : nx < 18446744073709551616) (hf : fi < 18446744073709551616)
    (hkp : ∀ e ∈ l, 0 ≤ e.1 ∧ e.1 < 18446744073709551616 ∧ 0 ≤ e.2 ∧ e.2 < 18446744073709551616) : ∀ x ∈ textL lv lo nx fi l, x.length ≤ 41 := by
  intro x hm
  unfold textL at hm
  simp only [List.cons_append, List.nil_append, List.mem_cons, List.mem_map] at hm
  rcases hm with rfl | rfl | rfl | rfl | ⟨e, he, rfl⟩
  · have := dg_len lv (by omega); omega
  · have := dg_len lo ho; omega
  · have := dg_len nx hx; omega
  · have := dg_len fi hf; omega
  · obtain ⟨h1, h2, h3, h4⟩ := hkp e he
    have a1 := dg_len e.1.toNat (by omega)
    have a2 := dg_len e.2.toNat (by omega)
    simp only [List.length_append, List.length_cons, List.length_nil]
    omega
/-- a line of words, joined -/
theorem words_calls (L : List (List UInt8)) (v : Value) (B : Nat) (w : World) (hv : w.ownsRow B 9 1 v L.length (L.map strV)) (hp : 0 < L.length) (h1 : L.length ≤ 1000) (h2 : ∀ x ∈ L, x.length ≤ 41) :
    Calls Tryd.prog 43 #[v] w fun e w' => e = .returned (strV (Lib.join L [32])) ∧ Below w.heap.size w w' := by
  obtain ⟨g, cap, rfl, _, hlt, hc, _, _, hcl, _⟩ := own_shape hv hp
  have hj := Tryd.strings_Join g 0 cap (L.map (fun x => ⟨x.toArray⟩)) ⟨#[32]⟩ w (fun j x hx => by
    rw [List.getElem?_map] at hx
    obtain ⟨y, hy, rfl⟩ := Option.map_eq_some_iff.1 hx
    have hjl : j < L.length := (List.getElem?_eq_some_iff.1 hy).1
    rw [Nat.zero_add, hcl j hjl, List.getElem?_map, hy]; rfl) hlt (by simp; omega) (by simpa using hc) (by
    have := join_len [32] 41 L h2
    have e : (List.map (fun x : ByteArray => x.data.toList) (L.map (fun x => (⟨x.toArray⟩ : ByteArray)))) = L := by rw [List.map_map]; simp [Function.comp_def]
    rw [e]
    simp at this ⊢
    omega)
  have e : (List.map (fun x : ByteArray => x.data.toList) (L.map (fun x => (⟨x.toArray⟩ : ByteArray)))) = L := by rw [List.map_map]; simp [Function.comp_def]
  rw [e, List.length_map] at hj
  have HJ := Lib.hid hj
  clear hj hcl hv
  go_enter Tryd.func43, Tryd.ntmps43
  go_wp2_with (go_at_call 53; refine HJ.out.mono ?_; rintro e w1 ⟨rfl, hB⟩; have HB := Lib.hid hB; clear hB)
  go_ret
  exact ⟨rfl, HB.out⟩

set_option maxRecDepth 100000 in
set_option maxHeartbeats 6400000 in
theorem ntext_calls (lv lo nx ct fi : Nat) (k p : Nat → Int) (n : Nd) (hn : n = ⟨lv, lo, nx, ct, fi, k, p⟩) (hl : lv ≤ 9223372036854775807) (ho : lo < 18446744073709551616) (hx : nx < 18446744073709551616) (hf : fi < 18446744073709551616)
    (hkp : ∀ e ∈ n.valid, 0 ≤ e.1 ∧ e.1 < 18446744073709551616 ∧ 0 ≤ e.2 ∧ e.2 < 18446744073709551616) (w : World) (htab : Tens w) :
    Calls Tryd.prog 15 #[.agg (ndCells n)] w fun e w' => e = .returned (strV (Lib.join (textL lv lo nx fi n.valid) [32])) ∧ Below w.heap.size w w' := by
  have HLv := Lib.hid hl
  have HLo := Lib.hid ho
  have HNx := Lib.hid hx
  have HFi := Lib.hid hf
  have HKP := Lib.hid hkp
  have HN := Lib.hid hn
  have HI := Lib.hid (info27 n)
  have hk0 : Blk (w.alloc (.cells (ndCells n) 27)) w.heap.size (ndCells n) 27 := Blk.new w _ _
  have HK0 := Lib.hid hk0
  have HB0 := Lib.hid ((Below.refl w.heap.size w).alloc (Nat.le_refl _) (.cells (ndCells n) 27))
  have HT := Lib.hid (htab.below HB0.out)
  have HC0 := Lib.hid (show (w.alloc (.cells (ndCells n) 27)).cell? ⟨w.heap.size, 0, none⟩ = some (.int .i64 lv) by rw [hk0.cell, ndCells_0, hn])
  have HC1 := Lib.hid (show (w.alloc (.cells (ndCells n) 27)).cell? ⟨w.heap.size, 1, none⟩ = some (.int .u64 lo) by rw [hk0.cell, ndCells_1, hn])
  have HC2 := Lib.hid (show (w.alloc (.cells (ndCells n) 27)).cell? ⟨w.heap.size, 2, none⟩ = some (.int .u64 nx) by rw [hk0.cell, ndCells_2, hn])
  have HC4 := Lib.hid (show (w.alloc (.cells (ndCells n) 27)).cell? ⟨w.heap.size, 4, none⟩ = some (.int .u64 fi) by rw [hk0.cell, ndCells_4, hn])
  have HS := Lib.hid hk0.lt
  clear hl ho hx hf hkp hn hk0 htab
  go_enter Tryd.func15, Tryd.ntmps15
  go_wp2_with (fail)
  generalize w.alloc (.cells (ndCells n) 27) = w0 at *
  --GEN r_text1
  refine wp_region_vals [Is (.pointer (some ⟨w.heap.size, 0, none⟩)), Is (.int .i64 (lv : Nat)), Is (numS lv), Is (.pointer (some ⟨w.heap.size, 1, none⟩)), Is (.int .u64 (lo : Nat)), Is (numS lo), Is (.pointer (some ⟨w.heap.size, 2, none⟩)), Is (.int .u64 (nx : Nat)), Is (numS nx), Is (.pointer (some ⟨w.heap.size, 4, none⟩)), Is (.int .u64 (fi : Nat)), Is (numS fi), fun v W => W.ownsRow w0.heap.size 9 1 v 4 [numS lv, numS lo, numS nx, numS fi], fun v W => W.ownsRow w0.heap.size 9 1 v 4 [numS lv, numS lo, numS nx, numS fi]]
    (fun _ W W' => Below W.heap.size W W') (fun _ W => Below w0.heap.size w0 W) (by kernel_rfl) (by kernel_rfl) (by kernel_rfl) ?hst ?h0 ⟨?o0, ?o1, ?o2, ?o3, ?o4, ?o5, ?o6, ?o7, ?o8, ?o9, ?o10, ?o11, ?o12, ?o13, trivial⟩ ?he
  case hst =>
    exact ⟨(fun _ _ _ _ _ _ h _ => h), (fun _ _ _ _ _ _ h _ => h), (fun _ _ _ _ _ _ h _ => h), (fun _ _ _ _ _ _ h _ => h), (fun _ _ _ _ _ _ h _ => h), (fun _ _ _ _ _ _ h _ => h), (fun _ _ _ _ _ _ h _ => h), (fun _ _ _ _ _ _ h _ => h), (fun _ _ _ _ _ _ h _ => h), (fun _ _ _ _ _ _ h _ => h), (fun _ _ _ _ _ _ h _ => h), (fun _ _ _ _ _ _ h _ => h), (fun _ _ _ _ _ _ h hR => own_below h hR), (fun _ _ _ _ _ _ h hR => own_below h hR), trivial⟩
  case h0 =>
    exact (Below.refl _ _).drew
  case o0 =>
    intro L vs A W H hf hd K hK
    have e1 : A.tmps[1]?.getD undef = .pointer (some ⟨w.heap.size, 0, none⟩) := H.old 1 (by kernel_rfl)
    go_simp
    exact hK _ _ (Below.refl _ _) rfl (H.glob)
  case o1 =>
    intro L vs A W H hf hd K hK
    have e6 := H.is 0 6 rfl rfl rfl (deps_of' hd 0 (by kernel_rfl)) (by kernel_rfl)
    have c := (H.glob.cell (p := ⟨w.heap.size, 0, none⟩) HS.out).trans HC0.out
    go_simp
    exact hK _ _ (Below.refl _ _) rfl (H.glob)
  case o2 =>
    intro L vs A W H hf hd K hK
    have e7 := H.is 1 7 rfl rfl rfl (deps_of' hd 1 (by kernel_rfl)) (by kernel_rfl)
    rw [if_pos (show Region.wanted _ _ = true from rfl)]
    go_wp2_with (fail)
    refine (itoa_n lv HLv.out _ (HT.out.below H.glob)).mono ?_
    rintro e W2 ⟨rfl, hB⟩
    exact hK _ _ hB rfl (H.glob.trans (hB.mono H.glob.size))
  case o3 =>
    intro L vs A W H hf hd K hK
    have e1 : A.tmps[1]?.getD undef = .pointer (some ⟨w.heap.size, 0, none⟩) := H.old 1 (by kernel_rfl)
    go_simp
    exact hK _ _ (Below.refl _ _) rfl (H.glob)
  case o4 =>
    intro L vs A W H hf hd K hK
    have e9 := H.is 3 9 rfl rfl rfl (deps_of' hd 3 (by kernel_rfl)) (by kernel_rfl)
    have c := (H.glob.cell (p := ⟨w.heap.size, 1, none⟩) HS.out).trans HC1.out
    go_simp
    exact hK _ _ (Below.refl _ _) rfl (H.glob)
  case o5 =>
    intro L vs A W H hf hd K hK
    have e10 := H.is 4 10 rfl rfl rfl (deps_of' hd 4 (by kernel_rfl)) (by kernel_rfl)
    rw [if_pos (show Region.wanted _ _ = true from rfl)]
    go_wp2_with (fail)
    refine (num_w lo HLo.out _ (HT.out.below H.glob)).mono ?_
    rintro e W2 ⟨rfl, hB⟩
    exact hK _ _ hB rfl (H.glob.trans (hB.mono H.glob.size))
  case o6 =>
    intro L vs A W H hf hd K hK
    have e1 : A.tmps[1]?.getD undef = .pointer (some ⟨w.heap.size, 0, none⟩) := H.old 1 (by kernel_rfl)
    go_simp
    exact hK _ _ (Below.refl _ _) rfl (H.glob)
  case o7 =>
    intro L vs A W H hf hd K hK
    have e12 := H.is 6 12 rfl rfl rfl (deps_of' hd 6 (by kernel_rfl)) (by kernel_rfl)
    have c := (H.glob.cell (p := ⟨w.heap.size, 2, none⟩) HS.out).trans HC2.out
    go_simp
    exact hK _ _ (Below.refl _ _) rfl (H.glob)
  case o8 =>
    intro L vs A W H hf hd K hK
    have e13 := H.is 7 13 rfl rfl rfl (deps_of' hd 7 (by kernel_rfl)) (by kernel_rfl)
    rw [if_pos (show Region.wanted _ _ = true from rfl)]
    go_wp2_with (fail)
    refine (num_a nx HNx.out _ (HT.out.below H.glob)).mono ?_
    rintro e W2 ⟨rfl, hB⟩
    exact hK _ _ hB rfl (H.glob.trans (hB.mono H.glob.size))
  case o9 =>
    intro L vs A W H hf hd K hK
    have e1 : A.tmps[1]?.getD undef = .pointer (some ⟨w.heap.size, 0, none⟩) := H.old 1 (by kernel_rfl)
    go_simp
    exact hK _ _ (Below.refl _ _) rfl (H.glob)
  case o10 =>
    intro L vs A W H hf hd K hK
    have e15 := H.is 9 15 rfl rfl rfl (deps_of' hd 9 (by kernel_rfl)) (by kernel_rfl)
    have c := (H.glob.cell (p := ⟨w.heap.size, 4, none⟩) HS.out).trans HC4.out
    go_simp
    exact hK _ _ (Below.refl _ _) rfl (H.glob)
  case o11 =>
    intro L vs A W H hf hd K hK
    have e16 := H.is 10 16 rfl rfl rfl (deps_of' hd 10 (by kernel_rfl)) (by kernel_rfl)
    rw [if_pos (show Region.wanted _ _ = true from rfl)]
    go_wp2_with (fail)
    refine (num_a fi HFi.out _ (HT.out.below H.glob)).mono ?_
    rintro e W2 ⟨rfl, hB⟩
    exact hK _ _ hB rfl (H.glob.trans (hB.mono H.glob.size))
  case o12 =>
    intro L vs A W H hf hd K hK
    have e8 := H.is 2 8 rfl rfl rfl (deps_of' hd 2 (by kernel_rfl)) (by kernel_rfl)
    have e11 := H.is 5 11 rfl rfl rfl (deps_of' hd 5 (by kernel_rfl)) (by kernel_rfl)
    have e14 := H.is 8 14 rfl rfl rfl (deps_of' hd 8 (by kernel_rfl)) (by kernel_rfl)
    have e17 := H.is 11 17 rfl rfl rfl (deps_of' hd 11 (by kernel_rfl)) (by kernel_rfl)
    simp only [numS] at e8 e11 e14 e17
    go_simp
    refine hK _ _ ((Below.refl _ _).alloc (Nat.le_refl _) _) (own_lit (C := #[numS lv, numS lo, numS nx, numS fi]) (Blk.new W _ _) (by rfl) (by omega) H.glob.size) (H.glob.alloc H.glob.size _)
  case o13 =>
    intro L vs A W H hf hd K hK
    obtain ⟨v18, e18, q18⟩ := H.val 12 18 rfl rfl rfl (deps_of' hd 12 (by kernel_rfl)) (by kernel_rfl)
    go_simp
    exact hK _ _ (Below.refl _ _) q18 H.glob
  case he =>
    intro vs W hlen hv
    match vs, hlen, hv with
    | [x0_, x1_, x2_, x3_, x4_, x5_, x6_, x7_, x8_, x9_, x10_, x11_, x12_, x13_], _, hv =>
    obtain rfl : (.pointer (some ⟨w.heap.size, 0, none⟩)) = x0_ := by obtain ⟨z, h1, h2⟩ := hv 0 _ rfl; cases h1; exact h2.symm
    obtain rfl : (.int .i64 (lv : Nat)) = x1_ := by obtain ⟨z, h1, h2⟩ := hv 1 _ rfl; cases h1; exact h2.symm
    obtain rfl : (numS lv) = x2_ := by obtain ⟨z, h1, h2⟩ := hv 2 _ rfl; cases h1; exact h2.symm
    obtain rfl : (.pointer (some ⟨w.heap.size, 1, none⟩)) = x3_ := by obtain ⟨z, h1, h2⟩ := hv 3 _ rfl; cases h1; exact h2.symm
    obtain rfl : (.int .u64 (lo : Nat)) = x4_ := by obtain ⟨z, h1, h2⟩ := hv 4 _ rfl; cases h1; exact h2.symm
    obtain rfl : (numS lo) = x5_ := by obtain ⟨z, h1, h2⟩ := hv 5 _ rfl; cases h1; exact h2.symm
    obtain rfl : (.pointer (some ⟨w.heap.size, 2, none⟩)) = x6_ := by obtain ⟨z, h1, h2⟩ := hv 6 _ rfl; cases h1; exact h2.symm
    obtain rfl : (.int .u64 (nx : Nat)) = x7_ := by obtain ⟨z, h1, h2⟩ := hv 7 _ rfl; cases h1; exact h2.symm
    obtain rfl : (numS nx) = x8_ := by obtain ⟨z, h1, h2⟩ := hv 8 _ rfl; cases h1; exact h2.symm
    obtain rfl : (.pointer (some ⟨w.heap.size, 4, none⟩)) = x9_ := by obtain ⟨z, h1, h2⟩ := hv 9 _ rfl; cases h1; exact h2.symm
    obtain rfl : (.int .u64 (fi : Nat)) = x10_ := by obtain ⟨z, h1, h2⟩ := hv 10 _ rfl; cases h1; exact h2.symm
    obtain rfl : (numS fi) = x11_ := by obtain ⟨z, h1, h2⟩ := hv 11 _ rfl; cases h1; exact h2.symm
    have hx12 : (fun v W => W.ownsRow w0.heap.size 9 1 v 4 [numS lv, numS lo, numS nx, numS fi]) x12_ W := by obtain ⟨z, h1, h2⟩ := hv 12 _ rfl; cases h1; exact h2
    have hx13 : (fun v W => W.ownsRow w0.heap.size 9 1 v 4 [numS lv, numS lo, numS nx, numS fi]) x13_ W := by obtain ⟨z, h1, h2⟩ := hv 13 _ rfl; cases h1; exact h2
    intro L hall hG
    clear hv hlen
    clear hx12
    simp only [fill, if_true]
    go_simp
    obtain ⟨sa, sl, sc, rfl⟩ := own_slice hx13
    have hsl : sl = 4 := own_len hx13
    subst hsl
    have HOs := Lib.hid hx13
    have HG := Lib.hid hG
    have HL1 := Lib.hid (ndLoad (HK0.out.below hG HK0.out.lt))
    clear hx13 hG hall
  --END
    go_wp2_with (with_reducible refine wpList_load_part (o := ⟨some 19, _, _, _, _, _⟩) rfl 27 _ rfl w.heap.size 0 rfl (ndCells n) _ HL1.out Tryd.underlying27 rfl HI.out ?_)
    refine (valid_calls n _).mono ?_
    rintro e w2 ⟨v, rfl, hv, hB2⟩
    obtain ⟨va, vl, vc, rfl⟩ := own_slice hv
    have hvl2 : vl = n.valid.length := own_len hv
    subst hvl2
    have HBw := Lib.hid (HG.out.trans (hB2.mono HG.out.size))
    have HOs2 := Lib.hid (own_below HOs.out hB2)
    have h0l := HOs.out
    have hBW := HG.out.size
    obtain ⟨B, hB⟩ : ∃ x, w0.heap.size = x := ⟨_, rfl⟩
    have HS0 := Lib.hid (show ∀ g, (Value.slice sa 4 sc).ownBlock = some g → g < W.heap.size from fun g hg => by
      obtain ⟨_, _, e, _, hlt, _⟩ := own_shape h0l (by omega)
      cases e
      simp [Value.ownBlock] at hg
      omega)
    by_cases hp : 0 < n.valid.length
    · obtain ⟨g, cap, e, hgB, _, hcap, _, hE⟩ := own_ents hv rfl hp
      cases e
      have HE := Lib.hid hE
      have HGW := Lib.hid hgB
      clear hv hB2 hE h0l hgB
      obtain ⟨i0, hi, hz0, hz1, hz2⟩ := info_parts Tryd.infoS
      have HSI := Lib.hid (And.intro hi (And.intro hz0 (And.intro hz1 hz2)))
      clear hi hz0 hz1 hz2
      go_wp2_with (fail)
      go_loopw [3, 22] (fun ov iv wr => ∃ k : Nat, k ≤ n.valid.length ∧ iv = .int .i64 k ∧ Hid (wr.ownsRow B 9 1 ov (4 + k) (txS lv lo nx fi n.valid k)) ∧ Hid (ov.ownBlock ≠ some g) ∧ Hid (EntsAt wr g 0 n.valid) ∧ Hid (Below B w0 wr)) (fun _ iv _ => n.valid.length - (intOf iv).toNat)
      case atStart => exact ⟨0, Nat.zero_le _, rfl, Lib.hid (by rw [← hB]; exact HOs2.out), Lib.hid (fun e => by have := HS0.out g e; have := HGW.out; omega), HE, Lib.hid (by rw [← hB]; exact HBw.out)⟩
      case round =>
        obtain ⟨k, hk, rfl, HO, HNE, HEr, HBr⟩ := hrel
        by_cases hlt : k < n.valid.length
        · obtain ⟨c1, c2⟩ := HEr.out k hlt
          have hmem : (eK n.valid k, eP n.valid k) ∈ n.valid := by
            have e : n.valid[k] = (eK n.valid k, eP n.valid k) := by simp [eK, eP, List.getD, hlt]
            rw [← e]; exact List.getElem_mem _
          obtain ⟨k1, k2, k3, k4⟩ := HKP.out _ hmem
          obtain ⟨ku, hku⟩ := Int.eq_ofNat_of_zero_le k1
          obtain ⟨pu, hpu⟩ := Int.eq_ofNat_of_zero_le k3
          simp only at k1 k2 k3 k4 hku hpu
          have HKU := Lib.hid (show ku < 18446744073709551616 by omega)
          have HPU := Lib.hid (show pu < 18446744073709551616 by omega)
          obtain ⟨ba, hba⟩ : ∃ ba, (⟨(dg ku ++ [61] ++ dg pu).toArray⟩ : ByteArray) = ba := ⟨_, rfl⟩
          have HBA := Lib.hid hba
          have HNX := Lib.hid (show txS lv lo nx fi n.valid (k + 1) = txS lv lo nx fi n.valid k ++ [.string ba] by rw [txS_next _ _ _ _ _ _ hlt, hku, hpu, ← hba]; rfl)
          rw [hku, Nat.zero_add] at c1
          rw [hpu, Nat.zero_add] at c2
          have hsz := HBr.out.size
          rw [hB] at hsz
          have HX := Lib.hid (Blk.new wr #[.int .u64 ku, .int .u64 pu] 57)
          have hBa : Below wr.heap.size wr (wr.alloc (.cells #[.int .u64 ku, .int .u64 pu] 57)) := (Below.refl wr.heap.size wr).alloc (Nat.le_refl _) _
          have HO1 := Lib.hid (own_below HO.out hBa)
          have HB1 := Lib.hid (HBr.out.trans (hBa.mono hsz))
          have HE1 := Lib.hid (HEr.out.below hBa (HEr.out.lt (by omega)))
          have HBX := Lib.hid (show ¬ (some wr.heap.size = u3.ownBlock) from fun e => by
            obtain ⟨gg, cap2, e2, _, hlt2, _⟩ := own_shape HO.out (by omega)
            rw [e2] at e
            simp [Value.ownBlock] at e
            omega)
          have HOB := Lib.hid (own_base HO.out)
          have hkl : n.valid.length ≤ 8 := by have := plN_len n; simpa [Nd.valid] using this
          clear hmem k1 k2 k3 k4 hku hpu hBa hba
          go_wp2_with (fail)
          obtain ⟨bx, hbx⟩ : ∃ x, wr.heap.size = x := ⟨_, rfl⟩
          have hsz1 : B ≤ bx := by omega
          clear hsz
          rw [hbx] at HX HBX ⊢
          clear hbx c1 c2 HO HEr HBr
          generalize wr.alloc (.cells #[.int .u64 ku, .int .u64 pu] 57) = w1 at *
          have x0 : w1.cell? ⟨bx, 0, none⟩ = some (.int .u64 ku) := by rw [HX.out.cell]; rfl
          have x1 : w1.cell? ⟨bx, 1, none⟩ = some (.int .u64 pu) := by rw [HX.out.cell]; rfl
          have HTW := Lib.hid (fun (W : World) (hk : Keeps (fun j => some j = u3.ownBlock) w1 W) => show Below B w0 W from below_keeps HB1.out hk (by have := HB1.out.size; omega) (fun j hj e => by have := HOB.out j e.symm; omega))
          have HTT := Lib.hid (fun (W : World) (hk : Keeps (fun j => some j = u3.ownBlock) w1 W) => show Tens W from HT.out.below (by rw [hB]; exact HTW.out W hk))
          clear wr
          --GEN r_text2
          refine wp_region_vals [Is u3, Is (.pointer (some ⟨bx, 0, none⟩)), Is (.int .u64 (ku : Nat)), Is (numS ku), Is (strV (dg ku ++ [61])), Is (.pointer (some ⟨bx, 1, none⟩)), Is (.int .u64 (pu : Nat)), Is (numS pu), Is (.string ba), NewS (fun j => some j = u3.ownBlock) (.string ba), OwnG B g (4 + k + 1) (txS lv lo nx fi n.valid k ++ [.string ba]), OwnG B g (4 + k + 1) (txS lv lo nx fi n.valid k ++ [.string ba])]
            (RS (fun j => some j = u3.ownBlock) 10) (fun L W => Keeps (fun j => some j = u3.ownBlock) w1 W ∧ (L 10 = false → W.ownsRow B 9 1 u3 (4 + k) (txS lv lo nx fi n.valid k))) (by kernel_rfl) (by kernel_rfl) (by kernel_rfl) ?hst ?h0 ⟨?o0, ?o1, ?o2, ?o3, ?o4, ?o5, ?o6, ?o7, ?o8, ?o9, ?o10, ?o11, trivial⟩ ?he
          case hst =>
            exact ⟨(fun _ _ _ _ _ _ h _ => h), (fun _ _ _ _ _ _ h _ => h), (fun _ _ _ _ _ _ h _ => h), (fun _ _ _ _ _ _ h _ => h), (fun _ _ _ _ _ _ h _ => h), (fun _ _ _ _ _ _ h _ => h), (fun _ _ _ _ _ _ h _ => h), (fun _ _ _ _ _ _ h _ => h), (fun _ _ _ _ _ _ h _ => h), (fun i hij hw v w w' h hR => stays9 h hR), (fun i hij hw v w w' h hR => ⟨own_below h.1 (RS.other hij hR), h.2⟩), (fun i hij hw v w w' h hR => ⟨own_below h.1 (RS.other (fun e => by subst e; exact absurd ((show waitsB _ 11 10 = true by kernel_rfl).symm.trans hw) (by decide)) hR), h.2⟩), trivial⟩
          case h0 =>
            exact ⟨(Keeps.refl _ _).drew, fun _ => HO1.out⟩
          case o0 =>
            intro L vs A W H hf hd K hK
            have e3 : A.tmps[3]?.getD undef = u3 := H.later 3 0 hf (by kernel_rfl)
            go_simp
            exact hK _ _ (Below.refl _ _) rfl (H.glob)
          case o1 =>
            intro L vs A W H hf hd K hK
            have e5 : A.tmps[5]?.getD undef = .pointer (some ⟨bx, 0, none⟩) := H.old 5 (by kernel_rfl)
            go_simp
            exact hK _ _ (Below.refl _ _) rfl (H.glob)
          case o2 =>
            intro L vs A W H hf hd K hK
            have e27 := H.is 1 27 rfl rfl rfl (deps_of' hd 1 (by kernel_rfl)) (by kernel_rfl)
            have c := (H.glob.1.cell (p := ⟨bx, 0, none⟩) HX.out.lt HBX.out).trans x0
            go_simp
            exact hK _ _ (Below.refl _ _) rfl (H.glob)
          case o3 =>
            intro L vs A W H hf hd K hK
            have e28 := H.is 2 28 rfl rfl rfl (deps_of' hd 2 (by kernel_rfl)) (by kernel_rfl)
            rw [if_pos (show Region.wanted _ _ = true from rfl)]
            go_wp2_with (fail)
            refine (num_w ku HKU.out _ (HTT.out _ H.glob.1)).mono ?_
            rintro e W2 ⟨rfl, hB⟩
            exact hK _ _ hB rfl ⟨H.glob.1.trans (Keeps.of_belowS hB), fun h => own_below (H.glob.2 h) hB⟩
          case o4 =>
            intro L vs A W H hf hd K hK
            have e29 := H.is 3 29 rfl rfl rfl (deps_of' hd 3 (by kernel_rfl)) (by kernel_rfl)
            have hl1 := dg_len ku HKU.out
            simp only [numS] at e29
            unfold dg at hl1
            go_simp
            rw [if_neg (by omega)]
            exact hK _ _ (Below.refl _ _) (congrArg Value.string (str_app (Lib.decDigits ku) [61])) H.glob
          case o5 =>
            intro L vs A W H hf hd K hK
            have e5 : A.tmps[5]?.getD undef = .pointer (some ⟨bx, 0, none⟩) := H.old 5 (by kernel_rfl)
            go_simp
            exact hK _ _ (Below.refl _ _) rfl (H.glob)
          case o6 =>
            intro L vs A W H hf hd K hK
            have e31 := H.is 5 31 rfl rfl rfl (deps_of' hd 5 (by kernel_rfl)) (by kernel_rfl)
            have c := (H.glob.1.cell (p := ⟨bx, 1, none⟩) HX.out.lt HBX.out).trans x1
            go_simp
            exact hK _ _ (Below.refl _ _) rfl (H.glob)
          case o7 =>
            intro L vs A W H hf hd K hK
            have e32 := H.is 6 32 rfl rfl rfl (deps_of' hd 6 (by kernel_rfl)) (by kernel_rfl)
            rw [if_pos (show Region.wanted _ _ = true from rfl)]
            go_wp2_with (fail)
            refine (num_a pu HPU.out _ (HTT.out _ H.glob.1)).mono ?_
            rintro e W2 ⟨rfl, hB⟩
            exact hK _ _ hB rfl ⟨H.glob.1.trans (Keeps.of_belowS hB), fun h => own_below (H.glob.2 h) hB⟩
          case o8 =>
            intro L vs A W H hf hd K hK
            have e30 := H.is 4 30 rfl rfl rfl (deps_of' hd 4 (by kernel_rfl)) (by kernel_rfl)
            have e33 := H.is 7 33 rfl rfl rfl (deps_of' hd 7 (by kernel_rfl)) (by kernel_rfl)
            have hl1 := dg_len ku HKU.out
            have hl2 := dg_len pu HPU.out
            simp only [strV, numS] at e30 e33
            unfold dg at hl2
            go_simp
            rw [if_neg (by omega)]
            exact hK _ _ (Below.refl _ _) (congrArg Value.string ((str_app (dg ku ++ [61]) (Lib.decDigits pu)).trans HBA.out)) H.glob
          case o9 =>
            intro L vs A W H hf hd K hK
            have e34 := H.is 8 34 rfl rfl rfl (deps_of' hd 8 (by kernel_rfl)) (by kernel_rfl)
            go_simp
            refine hK _ _ ((Below.refl _ _).alloc (Nat.le_refl _) _) ⟨W.heap.size, rfl, Blk.new W _ _, fun e => ?_⟩ ⟨H.glob.1.alloc _, fun h => own_below (H.glob.2 h) ((Below.refl _ _).alloc (Nat.le_refl _) _)⟩
            have := own_block_lt HO1.out e.symm; have := H.glob.1.size; omega
          case o10 =>
            intro L vs A W H hf hd K hK
            have e26 := H.is 0 26 rfl rfl rfl (deps_of' hd 0 (by kernel_rfl)) (by kernel_rfl)
            obtain ⟨v35, e35, q35⟩ := H.val 9 35 rfl rfl rfl (deps_of' hd 9 (by kernel_rfl)) (by kernel_rfl)
            obtain ⟨i1, i2, i3, i4⟩ := HSI.out
            obtain ⟨g9, rfl, hb9, hn9⟩ := q35
            have hcl : ∀ j u, [Value.string ba][j]? = some u → W.cell? ((⟨g9, 0, none⟩ : Addr).add j) = some u := fun j u hj => by match j, hj with | 0, hj => simp at hj; subst hj; rw [show (⟨g9, 0, none⟩ : Addr).add 0 = ⟨g9, 0, none⟩ by simp [Addr.add], hb9.cell]; rfl
            refine step_append_any W rfl (.tmp 26) (.tmp 35) 66 rfl B 9 i0 _ 1 16 Tryd.underlying66 i1 i2 i3 i4 rfl (by omega) u3 (4 + k) _ (ev_tmp e26) (H.glob.2 hf) W.heap.size (some ⟨g9, 0, none⟩) 1 1 [.string ba] (ev_tmp e35) ⟨rfl, fun _ => ⟨_, rfl, hb9.lt, hcl⟩⟩ (by simp [Value.oneCell']) (by unfold maxLen; omega) (by omega) (by have := HB1.out.size; have := H.glob.1.size; omega) ?_
            intro v' W' hown' hg' hat'
            have hk' : Keeps (fun j => some j = u3.ownBlock) W W' := (Keeps.refl _ _).grown hg' (fun r e => .inl e.symm)
            exact hK v' W' hk' ⟨hown', by rcases hat' with h | h; (rw [h]; exact HNE.out); (rw [h]; exact fun e => by have e1 := Option.some.inj e; have := HE1.out.lt (by omega); have := H.glob.1.size; omega)⟩ ⟨H.glob.1.trans hk', fun h => by simp [lset] at h⟩
          case o11 =>
            intro L vs A W H hf hd K hK
            obtain ⟨v36, e36, q36⟩ := H.val 10 36 rfl rfl rfl (deps_of' hd 10 (by kernel_rfl)) (by kernel_rfl)
            go_simp
            exact hK _ _ (Below.refl _ _) q36 H.glob
          case he =>
            intro vs W hlen hv
            match vs, hlen, hv with
            | [x0_, x1_, x2_, x3_, x4_, x5_, x6_, x7_, x8_, x9_, x10_, x11_], _, hv =>
            obtain rfl : u3 = x0_ := by obtain ⟨z, h1, h2⟩ := hv 0 _ rfl; cases h1; exact h2.symm
            obtain rfl : (.pointer (some ⟨bx, 0, none⟩)) = x1_ := by obtain ⟨z, h1, h2⟩ := hv 1 _ rfl; cases h1; exact h2.symm
            obtain rfl : (.int .u64 (ku : Nat)) = x2_ := by obtain ⟨z, h1, h2⟩ := hv 2 _ rfl; cases h1; exact h2.symm
            obtain rfl : (numS ku) = x3_ := by obtain ⟨z, h1, h2⟩ := hv 3 _ rfl; cases h1; exact h2.symm
            obtain rfl : (strV (dg ku ++ [61])) = x4_ := by obtain ⟨z, h1, h2⟩ := hv 4 _ rfl; cases h1; exact h2.symm
            obtain rfl : (.pointer (some ⟨bx, 1, none⟩)) = x5_ := by obtain ⟨z, h1, h2⟩ := hv 5 _ rfl; cases h1; exact h2.symm
            obtain rfl : (.int .u64 (pu : Nat)) = x6_ := by obtain ⟨z, h1, h2⟩ := hv 6 _ rfl; cases h1; exact h2.symm
            obtain rfl : (numS pu) = x7_ := by obtain ⟨z, h1, h2⟩ := hv 7 _ rfl; cases h1; exact h2.symm
            obtain rfl : (.string ba) = x8_ := by obtain ⟨z, h1, h2⟩ := hv 8 _ rfl; cases h1; exact h2.symm
            have hx9 : (NewS (fun j => some j = u3.ownBlock) (.string ba)) x9_ W := by obtain ⟨z, h1, h2⟩ := hv 9 _ rfl; cases h1; exact h2
            have hx10 : (OwnG B g (4 + k + 1) (txS lv lo nx fi n.valid k ++ [.string ba])) x10_ W := by obtain ⟨z, h1, h2⟩ := hv 10 _ rfl; cases h1; exact h2
            have hx11 : (OwnG B g (4 + k + 1) (txS lv lo nx fi n.valid k ++ [.string ba])) x11_ W := by obtain ⟨z, h1, h2⟩ := hv 11 _ rfl; cases h1; exact h2
            intro L hall hG
            clear hv hlen
            have HOn := Lib.hid (show W.ownsRow B 9 1 x11_ (4 + (k + 1)) (txS lv lo nx fi n.valid (k + 1)) by rw [HNX.out, ← Nat.add_assoc]; exact hx11.1)
            have HNn := Lib.hid hx11.2
            have HEn := Lib.hid (show EntsAt W g 0 n.valid from fun i hi => by obtain ⟨h1, h2⟩ := HE1.out i hi; have hgl := HE1.out.lt (by omega); exact ⟨(hG.1.cell (p := ⟨g, 0 + i * 2, none⟩) hgl (fun e => HNE.out e.symm)).trans h1, (hG.1.cell (p := ⟨g, 0 + i * 2 + 1, none⟩) hgl (fun e => HNE.out e.symm)).trans h2⟩)
            have HBn := Lib.hid (HTW.out W hG.1)
            clear hx9 hx10 hx11 hG hall
            simp only [fill, if_true]
            go_simp
            go_wp2_with (fail)
            go_roundw
            case rel => exact ⟨k + 1, by omega, by go_num, HOn, HNn, HEn, HBn⟩
            case measure => simp [intOf]; omega
          --END
        · have hkl : k = n.valid.length := by omega
          have HO2 := Lib.hid (show wr.ownsRow B 9 1 u3 (textL lv lo nx fi n.valid).length ((textL lv lo nx fi n.valid).map strV) by
            have := HO.out
            rw [hkl, txS_all] at this
            have e : (textL lv lo nx fi n.valid).length = 4 + n.valid.length := by unfold textL; simp; omega
            rw [e]; exact this)
          have hv8 : n.valid.length ≤ 8 := by have := plN_len n; simpa [Nd.valid] using this
          have HW := Lib.hid (words_calls (textL lv lo nx fi n.valid) u3 B wr HO2.out (by unfold textL; simp) (by unfold textL; simp; omega) (textL_le HLv.out HLo.out HNx.out HFi.out HKP.out))
          have HBr2 := Lib.hid (HB0.out.trans (HBr.out.mono (by rw [← hB]; exact HB0.out.size)))
          clear hkl
          go_wp2_with (go_at_call 43; refine HW.out.mono ?_; rintro e w3 ⟨rfl, hB3⟩; have HB3 := Lib.hid (HBr2.out.trans (hB3.mono HBr2.out.size)); clear hB3)
          go_ret
          exact ⟨rfl, HB3.out⟩
    · have hv0 : n.valid = [] := List.eq_nil_of_length_eq_zero (by omega)
      have hq : (ecells n.valid).length = 0 := by rw [hv0]; rfl
      have HO2 := Lib.hid (show w2.ownsRow B 9 1 (.slice sa 4 sc) (textL lv lo nx fi n.valid).length ((textL lv lo nx fi n.valid).map strV) by rw [hv0, ← hB]; exact HOs2.out)
      have HW := Lib.hid (words_calls (textL lv lo nx fi n.valid) _ B w2 HO2.out (by unfold textL; simp) (by unfold textL; rw [hv0]; simp) (textL_le HLv.out HLo.out HNx.out HFi.out HKP.out))
      have HBr2 := Lib.hid (HB0.out.trans (HBw.out.mono HB0.out.size))
      have hl0 : n.valid.length = 0 := by omega
      rw [hl0]
      clear hv hB2 h0l hv0 hq hp hl0
      go_wp2_with (fail)
      refine wp_loop_rounds 1 ?_
      rw [rounds_succ]
      go_wp2_with (go_at_call 43; refine HW.out.mono ?_; rintro e w3 ⟨rfl, hB3⟩; have HB3 := Lib.hid (HBr2.out.trans (hB3.mono HBr2.out.size)); clear hB3)
      go_ret
      exact ⟨rfl, HB3.out⟩
end Go.Proofs.YtkfpoekeofnglaaDoor
