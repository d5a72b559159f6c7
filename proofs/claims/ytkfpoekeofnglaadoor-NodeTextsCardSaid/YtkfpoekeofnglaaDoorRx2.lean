/-
  The document's text of a node: a contract.
-/
import Derived.Test.YtkfpoekeofnglaaDoorNm
namespace Go.Proofs.YtkfpoekeofnglaaDoor
open Go.RowKit

def cat (L : List UInt8) : ByteArray := ⟨L.toArray⟩
theorem catAdd {a b c : List UInt8} {x y z : ByteArray} (hx : cat a = x) (hy : cat b = y) (hz : cat c = z) (e : a ++ b = c) (hl : c.length ≤ 2000) : x ++ y = z ∧ x.size + y.size ≤ 2000 := by
  subst hx hy hz e
  refine ⟨str_app a b, ?_⟩
  simp only [List.length_append] at hl
  show a.toArray.size + b.toArray.size ≤ 2000
  simpa using hl
/-- the text, as the document makes it -/
def rtext (lv lo nx fi : Nat) (l : List (Int × Int)) : List UInt8 := (dg lv ++ [32] ++ dg lo ++ [32] ++ dg nx ++ [32] ++ dg fi) ++ (l.map (fun e => [32] ++ (dg e.1.toNat ++ [61] ++ dg e.2.toNat))).flatten
theorem rtext_eq (lv lo nx fi : Nat) (l : List (Int × Int)) : rtext lv lo nx fi l = Lib.join (textL lv lo nx fi l) [32] := by
  unfold rtext textL
  rw [List.cons_append, Lib.join_cons]
  unfold Lib.joinTail
  simp [List.map_map, Function.comp_def]
theorem rtext_snoc (lv lo nx fi : Nat) (l : List (Int × Int)) (k : Nat) (h : k < l.length) : rtext lv lo nx fi (l.take (k + 1)) = rtext lv lo nx fi (l.take k) ++ [32] ++ dg (eK l k).toNat ++ [61] ++ dg (eP l k).toNat := by
  have e : l[k] = (eK l k, eP l k) := by simp [eK, eP, List.getD, h]
  unfold rtext
  rw [List.take_succ_eq_append_getElem h, e, List.map_append, List.flatten_append]
  simp
theorem rtext_len {lv lo nx fi : Nat} {l : List (Int × Int)} (hl : lv ≤ 9223372036854775807) (ho : lo < 18446744073709551616) (hx : nx < 18446744073709551616) (hf : fi < 18446744073709551616)
    (hkp : ∀ e ∈ l, 0 ≤ e.1 ∧ e.1 < 18446744073709551616 ∧ 0 ≤ e.2 ∧ e.2 < 18446744073709551616) (h8 : l.length ≤ 8) : (rtext lv lo nx fi l).length ≤ 600 := by
  rw [rtext_eq]
  have := join_len [32] 41 (textL lv lo nx fi l) (textL_le hl ho hx hf hkp)
  have e : (textL lv lo nx fi l).length = 4 + l.length := by unfold textL; simp; omega
  rw [e] at this
  simp at this
  omega

set_option maxRecDepth 100000 in
set_option maxHeartbeats 6400000 in
theorem rtext_calls (lv lo nx ct fi : Nat) (kf pf : Nat → Int) (n : Nd) (hn : n = ⟨lv, lo, nx, ct, fi, kf, pf⟩) (hl : lv ≤ 9223372036854775807) (ho : lo < 18446744073709551616) (hx : nx < 18446744073709551616) (hf : fi < 18446744073709551616)
    (hkp : ∀ e ∈ n.valid, 0 ≤ e.1 ∧ e.1 < 18446744073709551616 ∧ 0 ≤ e.2 ∧ e.2 < 18446744073709551616) (w : World) :
    Calls Tryd.prog 16 #[.agg (ndCells n)] w fun e w' => e = .returned (.string (cat (rtext lv lo nx fi n.valid))) ∧ Below w.heap.size w w' := by
  have hv8 : n.valid.length ≤ 8 := by have := plN_len n; simpa [Nd.valid] using this
  have HLn := Lib.hid (fun (j : Nat) => show (rtext lv lo nx fi (n.valid.take j)).length ≤ 600 from rtext_len hl ho hx hf (fun e he => hkp e (List.mem_of_mem_take he)) (by rw [List.length_take]; omega))
  have HUlv := Lib.hid (show lv < 18446744073709551616 by omega)
  have HUlo := Lib.hid ho
  have HUnx := Lib.hid hx
  have HUfi := Lib.hid hf
  have HKP := Lib.hid hkp
  have a1 := dg_len lv (by omega)
  have a2 := dg_len lo ho
  have a3 := dg_len nx hx
  have a4 := dg_len fi hf
  have WLV := Lib.hid (show IntKind.u64.wrap (lv : Int) = (lv : Int) by rw [IntKind.wrap_u64]; omega)
  obtain ⟨dlv, hd1⟩ : ∃ b, cat (dg lv) = b := ⟨_, rfl⟩
  obtain ⟨dlo, hd2⟩ : ∃ b, cat (dg lo) = b := ⟨_, rfl⟩
  obtain ⟨dnx, hd3⟩ : ∃ b, cat (dg nx) = b := ⟨_, rfl⟩
  obtain ⟨dfi, hd4⟩ : ∃ b, cat (dg fi) = b := ⟨_, rfl⟩
  have HDlv := Lib.hid (show numS lv = .string dlv by rw [← hd1]; rfl)
  have HDlo := Lib.hid (show numS lo = .string dlo by rw [← hd2]; rfl)
  have HDnx := Lib.hid (show numS nx = .string dnx by rw [← hd3]; rfl)
  have HDfi := Lib.hid (show numS fi = .string dfi by rw [← hd4]; rfl)
  obtain ⟨b1, hb1⟩ : ∃ b, cat (dg lv ++ [32]) = b := ⟨_, rfl⟩
  obtain ⟨b2, hb2⟩ : ∃ b, cat (dg lv ++ [32] ++ dg lo) = b := ⟨_, rfl⟩
  obtain ⟨b3, hb3⟩ : ∃ b, cat (dg lv ++ [32] ++ dg lo ++ [32]) = b := ⟨_, rfl⟩
  obtain ⟨b4, hb4⟩ : ∃ b, cat (dg lv ++ [32] ++ dg lo ++ [32] ++ dg nx) = b := ⟨_, rfl⟩
  obtain ⟨b5, hb5⟩ : ∃ b, cat (dg lv ++ [32] ++ dg lo ++ [32] ++ dg nx ++ [32]) = b := ⟨_, rfl⟩
  obtain ⟨b6, hb6⟩ : ∃ b, cat (dg lv ++ [32] ++ dg lo ++ [32] ++ dg nx ++ [32] ++ dg fi) = b := ⟨_, rfl⟩
  have HA1 := Lib.hid (catAdd hd1 (show cat [32] = ⟨#[32]⟩ from rfl) hb1 rfl (by simp; omega))
  have HA2 := Lib.hid (catAdd hb1 hd2 hb2 rfl (by simp; omega))
  have HA3 := Lib.hid (catAdd hb2 (show cat [32] = ⟨#[32]⟩ from rfl) hb3 rfl (by simp; omega))
  have HA4 := Lib.hid (catAdd hb3 hd3 hb4 rfl (by simp; omega))
  have HA5 := Lib.hid (catAdd hb4 (show cat [32] = ⟨#[32]⟩ from rfl) hb5 rfl (by simp; omega))
  have HA6 := Lib.hid (catAdd hb5 hd4 hb6 rfl (by simp; omega))
  have HC6 := Lib.hid (show cat (rtext lv lo nx fi (n.valid.take 0)) = b6 by rw [← hb6]; simp [rtext])
  have HI := Lib.hid (info27 n)
  have hk0 : Blk (w.alloc (.cells (ndCells n) 27)) w.heap.size (ndCells n) 27 := Blk.new w _ _
  have HK0 := Lib.hid hk0
  have HB0 := Lib.hid ((Below.refl w.heap.size w).alloc (Nat.le_refl _) (.cells (ndCells n) 27))
  have HC0 := Lib.hid (show (w.alloc (.cells (ndCells n) 27)).cell? ⟨w.heap.size, 0, none⟩ = some (.int .i64 lv) by rw [hk0.cell, ndCells_0, hn])
  have HC1 := Lib.hid (show (w.alloc (.cells (ndCells n) 27)).cell? ⟨w.heap.size, 1, none⟩ = some (.int .u64 lo) by rw [hk0.cell, ndCells_1, hn])
  have HC2 := Lib.hid (show (w.alloc (.cells (ndCells n) 27)).cell? ⟨w.heap.size, 2, none⟩ = some (.int .u64 nx) by rw [hk0.cell, ndCells_2, hn])
  have HC4 := Lib.hid (show (w.alloc (.cells (ndCells n) 27)).cell? ⟨w.heap.size, 4, none⟩ = some (.int .u64 fi) by rw [hk0.cell, ndCells_4, hn])
  have HS := Lib.hid hk0.lt
  clear hl ho hx hf hkp hn hk0 a1 a2 a3 a4 hd1 hd2 hd3 hd4 hb1 hb2 hb3 hb4 hb5 hb6
  go_enter Tryd.func16, Tryd.ntmps16
  go_wp2_with (fail)
  generalize w.alloc (.cells (ndCells n) 27) = w0 at *
  --GEN r_rt1
  refine wp_region_vals [Is (.pointer (some ⟨w.heap.size, 0, none⟩)), Is (.int .i64 (lv : Nat)), Is (.int .u64 (lv : Nat)), Is (.string dlv), Is (.string b1), Is (.pointer (some ⟨w.heap.size, 1, none⟩)), Is (.int .u64 (lo : Nat)), Is (.string dlo), Is (.string b2), Is (.string b3), Is (.pointer (some ⟨w.heap.size, 2, none⟩)), Is (.int .u64 (nx : Nat)), Is (.string dnx), Is (.string b4), Is (.string b5), Is (.pointer (some ⟨w.heap.size, 4, none⟩)), Is (.int .u64 (fi : Nat)), Is (.string dfi), Is (.string b6), Is (.string b6)]
    (fun _ W W' => Below W.heap.size W W') (fun _ W => Below w0.heap.size w0 W) (by kernel_rfl) (by kernel_rfl) (by kernel_rfl) ?hst ?h0 ⟨?o0, ?o1, ?o2, ?o3, ?o4, ?o5, ?o6, ?o7, ?o8, ?o9, ?o10, ?o11, ?o12, ?o13, ?o14, ?o15, ?o16, ?o17, ?o18, ?o19, trivial⟩ ?he
  case hst =>
    exact ⟨(fun _ _ _ _ _ _ h _ => h), (fun _ _ _ _ _ _ h _ => h), (fun _ _ _ _ _ _ h _ => h), (fun _ _ _ _ _ _ h _ => h), (fun _ _ _ _ _ _ h _ => h), (fun _ _ _ _ _ _ h _ => h), (fun _ _ _ _ _ _ h _ => h), (fun _ _ _ _ _ _ h _ => h), (fun _ _ _ _ _ _ h _ => h), (fun _ _ _ _ _ _ h _ => h), (fun _ _ _ _ _ _ h _ => h), (fun _ _ _ _ _ _ h _ => h), (fun _ _ _ _ _ _ h _ => h), (fun _ _ _ _ _ _ h _ => h), (fun _ _ _ _ _ _ h _ => h), (fun _ _ _ _ _ _ h _ => h), (fun _ _ _ _ _ _ h _ => h), (fun _ _ _ _ _ _ h _ => h), (fun _ _ _ _ _ _ h _ => h), (fun _ _ _ _ _ _ h _ => h), trivial⟩
  case h0 =>
    exact (Below.refl _ _).drew
  case o0 =>
    intro L vs A W H hf hd K hK
    have e1 : A.tmps[1]?.getD undef = .pointer (some ⟨w.heap.size, 0, none⟩) := H.old 1 (by kernel_rfl)
    go_simp
    exact hK _ _ (Below.refl _ _) rfl (H.glob)
  case o1 =>
    intro L vs A W H hf hd K hK
    have e6 := H.is 0 6 rfl rfl rfl (deps_of' hd 0 (by kernel_rfl)) (by kernel_rfl)
    have c := (H.glob.cell (p := ⟨w.heap.size, 0, none⟩) HS.out).trans HC0.out
    go_simp
    exact hK _ _ (Below.refl _ _) rfl (H.glob)
  case o2 =>
    intro L vs A W H hf hd K hK
    have e7 := H.is 1 7 rfl rfl rfl (deps_of' hd 1 (by kernel_rfl)) (by kernel_rfl)
    have wv := WLV.out
    go_simp
    exact hK _ _ (Below.refl _ _) rfl (H.glob)
  case o3 =>
    intro L vs A W H hf hd K hK
    have e8 := H.is 2 8 rfl rfl rfl (deps_of' hd 2 (by kernel_rfl)) (by kernel_rfl)
    rw [if_pos (show Region.wanted _ _ = true from rfl)]
    go_wp2_with (fail)
    refine (rnum_calls lv HUlv.out _).mono ?_
    rintro e W2 ⟨rfl, hB⟩
    exact hK _ _ hB HDlv.out (H.glob.trans (hB.mono H.glob.size))
  case o4 =>
    intro L vs A W H hf hd K hK
    have e9 := H.is 3 9 rfl rfl rfl (deps_of' hd 3 (by kernel_rfl)) (by kernel_rfl)
    go_simp
    rw [if_neg (by have := HA1.out.2; omega)]
    exact hK _ _ (Below.refl _ _) (congrArg Value.string HA1.out.1) H.glob
  case o5 =>
    intro L vs A W H hf hd K hK
    have e1 : A.tmps[1]?.getD undef = .pointer (some ⟨w.heap.size, 0, none⟩) := H.old 1 (by kernel_rfl)
    go_simp
    exact hK _ _ (Below.refl _ _) rfl (H.glob)
  case o6 =>
    intro L vs A W H hf hd K hK
    have e11 := H.is 5 11 rfl rfl rfl (deps_of' hd 5 (by kernel_rfl)) (by kernel_rfl)
    have c := (H.glob.cell (p := ⟨w.heap.size, 1, none⟩) HS.out).trans HC1.out
    go_simp
    exact hK _ _ (Below.refl _ _) rfl (H.glob)
  case o7 =>
    intro L vs A W H hf hd K hK
    have e12 := H.is 6 12 rfl rfl rfl (deps_of' hd 6 (by kernel_rfl)) (by kernel_rfl)
    rw [if_pos (show Region.wanted _ _ = true from rfl)]
    go_wp2_with (fail)
    refine (rnum_calls lo HUlo.out _).mono ?_
    rintro e W2 ⟨rfl, hB⟩
    exact hK _ _ hB HDlo.out (H.glob.trans (hB.mono H.glob.size))
  case o8 =>
    intro L vs A W H hf hd K hK
    have e10 := H.is 4 10 rfl rfl rfl (deps_of' hd 4 (by kernel_rfl)) (by kernel_rfl)
    have e13 := H.is 7 13 rfl rfl rfl (deps_of' hd 7 (by kernel_rfl)) (by kernel_rfl)
    go_simp
    rw [if_neg (by have := HA2.out.2; omega)]
    exact hK _ _ (Below.refl _ _) (congrArg Value.string HA2.out.1) H.glob
  case o9 =>
    intro L vs A W H hf hd K hK
    have e14 := H.is 8 14 rfl rfl rfl (deps_of' hd 8 (by kernel_rfl)) (by kernel_rfl)
    go_simp
    rw [if_neg (by have := HA3.out.2; omega)]
    exact hK _ _ (Below.refl _ _) (congrArg Value.string HA3.out.1) H.glob
  case o10 =>
    intro L vs A W H hf hd K hK
    have e1 : A.tmps[1]?.getD undef = .pointer (some ⟨w.heap.size, 0, none⟩) := H.old 1 (by kernel_rfl)
    go_simp
    exact hK _ _ (Below.refl _ _) rfl (H.glob)
  case o11 =>
    intro L vs A W H hf hd K hK
    have e16 := H.is 10 16 rfl rfl rfl (deps_of' hd 10 (by kernel_rfl)) (by kernel_rfl)
    have c := (H.glob.cell (p := ⟨w.heap.size, 2, none⟩) HS.out).trans HC2.out
    go_simp
    exact hK _ _ (Below.refl _ _) rfl (H.glob)
  case o12 =>
    intro L vs A W H hf hd K hK
    have e17 := H.is 11 17 rfl rfl rfl (deps_of' hd 11 (by kernel_rfl)) (by kernel_rfl)
    rw [if_pos (show Region.wanted _ _ = true from rfl)]
    go_wp2_with (fail)
    refine (rnum_calls nx HUnx.out _).mono ?_
    rintro e W2 ⟨rfl, hB⟩
    exact hK _ _ hB HDnx.out (H.glob.trans (hB.mono H.glob.size))
  case o13 =>
    intro L vs A W H hf hd K hK
    have e15 := H.is 9 15 rfl rfl rfl (deps_of' hd 9 (by kernel_rfl)) (by kernel_rfl)
    have e18 := H.is 12 18 rfl rfl rfl (deps_of' hd 12 (by kernel_rfl)) (by kernel_rfl)
    go_simp
    rw [if_neg (by have := HA4.out.2; omega)]
    exact hK _ _ (Below.refl _ _) (congrArg Value.string HA4.out.1) H.glob
  case o14 =>
    intro L vs A W H hf hd K hK
    have e19 := H.is 13 19 rfl rfl rfl (deps_of' hd 13 (by kernel_rfl)) (by kernel_rfl)
    go_simp
    rw [if_neg (by have := HA5.out.2; omega)]
    exact hK _ _ (Below.refl _ _) (congrArg Value.string HA5.out.1) H.glob
  case o15 =>
    intro L vs A W H hf hd K hK
    have e1 : A.tmps[1]?.getD undef = .pointer (some ⟨w.heap.size, 0, none⟩) := H.old 1 (by kernel_rfl)
    go_simp
    exact hK _ _ (Below.refl _ _) rfl (H.glob)
  case o16 =>
    intro L vs A W H hf hd K hK
    have e21 := H.is 15 21 rfl rfl rfl (deps_of' hd 15 (by kernel_rfl)) (by kernel_rfl)
    have c := (H.glob.cell (p := ⟨w.heap.size, 4, none⟩) HS.out).trans HC4.out
    go_simp
    exact hK _ _ (Below.refl _ _) rfl (H.glob)
  case o17 =>
    intro L vs A W H hf hd K hK
    have e22 := H.is 16 22 rfl rfl rfl (deps_of' hd 16 (by kernel_rfl)) (by kernel_rfl)
    rw [if_pos (show Region.wanted _ _ = true from rfl)]
    go_wp2_with (fail)
    refine (rnum_calls fi HUfi.out _).mono ?_
    rintro e W2 ⟨rfl, hB⟩
    exact hK _ _ hB HDfi.out (H.glob.trans (hB.mono H.glob.size))
  case o18 =>
    intro L vs A W H hf hd K hK
    have e20 := H.is 14 20 rfl rfl rfl (deps_of' hd 14 (by kernel_rfl)) (by kernel_rfl)
    have e23 := H.is 17 23 rfl rfl rfl (deps_of' hd 17 (by kernel_rfl)) (by kernel_rfl)
    go_simp
    rw [if_neg (by have := HA6.out.2; omega)]
    exact hK _ _ (Below.refl _ _) (congrArg Value.string HA6.out.1) H.glob
  case o19 =>
    intro L vs A W H hf hd K hK
    have e24 := H.is 18 24 rfl rfl rfl (deps_of' hd 18 (by kernel_rfl)) (by kernel_rfl)
    go_simp
    exact hK _ _ (Below.refl _ _) rfl (H.glob)
  case he =>
    intro vs W hlen hv
    match vs, hlen, hv with
    | [x0_, x1_, x2_, x3_, x4_, x5_, x6_, x7_, x8_, x9_, x10_, x11_, x12_, x13_, x14_, x15_, x16_, x17_, x18_, x19_], _, hv =>
    obtain rfl : (.pointer (some ⟨w.heap.size, 0, none⟩)) = x0_ := by obtain ⟨z, h1, h2⟩ := hv 0 _ rfl; cases h1; exact h2.symm
    obtain rfl : (.int .i64 (lv : Nat)) = x1_ := by obtain ⟨z, h1, h2⟩ := hv 1 _ rfl; cases h1; exact h2.symm
    obtain rfl : (.int .u64 (lv : Nat)) = x2_ := by obtain ⟨z, h1, h2⟩ := hv 2 _ rfl; cases h1; exact h2.symm
    obtain rfl : (.string dlv) = x3_ := by obtain ⟨z, h1, h2⟩ := hv 3 _ rfl; cases h1; exact h2.symm
    obtain rfl : (.string b1) = x4_ := by obtain ⟨z, h1, h2⟩ := hv 4 _ rfl; cases h1; exact h2.symm
    obtain rfl : (.pointer (some ⟨w.heap.size, 1, none⟩)) = x5_ := by obtain ⟨z, h1, h2⟩ := hv 5 _ rfl; cases h1; exact h2.symm
    obtain rfl : (.int .u64 (lo : Nat)) = x6_ := by obtain ⟨z, h1, h2⟩ := hv 6 _ rfl; cases h1; exact h2.symm
    obtain rfl : (.string dlo) = x7_ := by obtain ⟨z, h1, h2⟩ := hv 7 _ rfl; cases h1; exact h2.symm
    obtain rfl : (.string b2) = x8_ := by obtain ⟨z, h1, h2⟩ := hv 8 _ rfl; cases h1; exact h2.symm
    obtain rfl : (.string b3) = x9_ := by obtain ⟨z, h1, h2⟩ := hv 9 _ rfl; cases h1; exact h2.symm
    obtain rfl : (.pointer (some ⟨w.heap.size, 2, none⟩)) = x10_ := by obtain ⟨z, h1, h2⟩ := hv 10 _ rfl; cases h1; exact h2.symm
    obtain rfl : (.int .u64 (nx : Nat)) = x11_ := by obtain ⟨z, h1, h2⟩ := hv 11 _ rfl; cases h1; exact h2.symm
    obtain rfl : (.string dnx) = x12_ := by obtain ⟨z, h1, h2⟩ := hv 12 _ rfl; cases h1; exact h2.symm
    obtain rfl : (.string b4) = x13_ := by obtain ⟨z, h1, h2⟩ := hv 13 _ rfl; cases h1; exact h2.symm
    obtain rfl : (.string b5) = x14_ := by obtain ⟨z, h1, h2⟩ := hv 14 _ rfl; cases h1; exact h2.symm
    obtain rfl : (.pointer (some ⟨w.heap.size, 4, none⟩)) = x15_ := by obtain ⟨z, h1, h2⟩ := hv 15 _ rfl; cases h1; exact h2.symm
    obtain rfl : (.int .u64 (fi : Nat)) = x16_ := by obtain ⟨z, h1, h2⟩ := hv 16 _ rfl; cases h1; exact h2.symm
    obtain rfl : (.string dfi) = x17_ := by obtain ⟨z, h1, h2⟩ := hv 17 _ rfl; cases h1; exact h2.symm
    obtain rfl : (.string b6) = x18_ := by obtain ⟨z, h1, h2⟩ := hv 18 _ rfl; cases h1; exact h2.symm
    obtain rfl : (.string b6) = x19_ := by obtain ⟨z, h1, h2⟩ := hv 19 _ rfl; cases h1; exact h2.symm
    intro L hall hG
    clear hv hlen
    have HG := Lib.hid hG
    have HL1 := Lib.hid (ndLoad (HK0.out.below hG HK0.out.lt))
    clear hG hall
    simp only [fill, if_true]
    go_simp
  --END
    go_wp2_with (with_reducible refine wpList_load_part (o := ⟨some 25, _, _, _, _, _⟩) rfl 27 _ rfl w.heap.size 0 rfl (ndCells n) _ HL1.out Tryd.underlying27 rfl HI.out ?_)
    refine (rvalid_calls n _).mono ?_
    rintro e w2 ⟨v, rfl, hv, hB2⟩
    obtain ⟨va, vl, vc, rfl⟩ := own_slice hv
    have hvl2 : vl = n.valid.length := own_len hv
    subst hvl2
    have HB2 := Lib.hid (HB0.out.trans ((HG.out.trans (hB2.mono HG.out.size)).mono HB0.out.size))
    clear HA1 HA2 HA3 HA4 HA5 HA6 HC0 HC1 HC2 HC4
    by_cases hp : 0 < n.valid.length
    · obtain ⟨g, cap, e, _, _, hcap, _, hE⟩ := own_ents hv rfl hp
      cases e
      have HE := Lib.hid hE
      clear hv hB2 hE
      go_wp2_with (fail)
      go_loopw [3, 5] (fun sv iv wr => ∃ (k : Nat) (b : ByteArray), k ≤ n.valid.length ∧ iv = .int .i64 k ∧ sv = .string b ∧ Hid (cat (rtext lv lo nx fi (n.valid.take k)) = b) ∧ Hid (EntsAt wr g 0 n.valid) ∧ Hid (Below w.heap.size w wr)) (fun _ iv _ => n.valid.length - (intOf iv).toNat)
      case atStart => exact ⟨0, b6, Nat.zero_le _, rfl, rfl, HC6, HE, HB2⟩
      case round =>
        obtain ⟨k, b, hk, rfl, rfl, HCb, HEr, HBr⟩ := hrel
        by_cases hlt : k < n.valid.length
        · obtain ⟨c1, c2⟩ := HEr.out k hlt
          have hmem : (eK n.valid k, eP n.valid k) ∈ n.valid := by
            have e : n.valid[k] = (eK n.valid k, eP n.valid k) := by simp [eK, eP, List.getD, hlt]
            rw [← e]; exact List.getElem_mem _
          obtain ⟨k1, k2, k3, k4⟩ := HKP.out _ hmem
          obtain ⟨ku, hku⟩ := Int.eq_ofNat_of_zero_le k1
          obtain ⟨pu, hpu⟩ := Int.eq_ofNat_of_zero_le k3
          simp only at k1 k2 k3 k4 hku hpu
          have hkl : ku < 18446744073709551616 := by omega
          have hpl : pu < 18446744073709551616 := by omega
          have HUku := Lib.hid hkl
          have HUpu := Lib.hid hpl
          have HGL := Lib.hid (HEr.out.lt (by omega))
          have hsn := rtext_snoc lv lo nx fi n.valid k hlt
          rw [hku, hpu] at hsn
          simp only [Int.toNat_natCast] at hsn
          rw [hku, Nat.zero_add] at c1
          rw [hpu, Nat.zero_add] at c2
          have HCku := Lib.hid c1
          have HCpu := Lib.hid c2
          have l0 := HLn.out k
          have l1 := dg_len ku hkl
          have l2 := dg_len pu hpl
          obtain ⟨dku, hd1⟩ : ∃ b, cat (dg ku) = b := ⟨_, rfl⟩
          obtain ⟨dpu, hd2⟩ : ∃ b, cat (dg pu) = b := ⟨_, rfl⟩
          have HDku := Lib.hid (show numS ku = .string dku by rw [← hd1]; rfl)
          have HDpu := Lib.hid (show numS pu = .string dpu by rw [← hd2]; rfl)
          obtain ⟨b1, hb1⟩ : ∃ x, cat (rtext lv lo nx fi (n.valid.take k) ++ [32]) = x := ⟨_, rfl⟩
          obtain ⟨b2, hb2⟩ : ∃ x, cat (rtext lv lo nx fi (n.valid.take k) ++ [32] ++ dg ku) = x := ⟨_, rfl⟩
          obtain ⟨b3, hb3⟩ : ∃ x, cat (rtext lv lo nx fi (n.valid.take k) ++ [32] ++ dg ku ++ [61]) = x := ⟨_, rfl⟩
          obtain ⟨b4, hb4⟩ : ∃ x, cat (rtext lv lo nx fi (n.valid.take k) ++ [32] ++ dg ku ++ [61] ++ dg pu) = x := ⟨_, rfl⟩
          have HA1 := Lib.hid (catAdd HCb.out (show cat [32] = ⟨#[32]⟩ from rfl) hb1 rfl (by simp; omega))
          have HA2 := Lib.hid (catAdd hb1 hd1 hb2 rfl (by simp; omega))
          have HA3 := Lib.hid (catAdd hb2 (show cat [61] = ⟨#[61]⟩ from rfl) hb3 rfl (by simp; omega))
          have HA4 := Lib.hid (catAdd hb3 hd2 hb4 rfl (by simp; omega))
          have HC4 := Lib.hid (show cat (rtext lv lo nx fi (n.valid.take (k + 1))) = b4 by rw [hsn, hb4])
          clear hmem k1 k2 k3 k4 hku hpu c1 c2 hkl hpl hsn l0 l1 l2 hd1 hd2 hb1 hb2 hb3 hb4
          have b5 : (k : Int) < (n.valid.length : Int) := by omega
          go_wp2_with (fail)
          --GEN r_rt2
          refine wp_region_vals [Is (.string b), Is (.string b1), Is (.slice (some ⟨g, 0, none⟩) n.valid.length vc), Is (.int .i64 (k : Nat)), Is (.pointer (some ⟨g, k * 2, none⟩)), Is (.pointer (some ⟨g, k * 2, none⟩)), Is (.int .u64 (ku : Nat)), Is (.string dku), Is (.string b2), Is (.string b3), Is (.slice (some ⟨g, 0, none⟩) n.valid.length vc), Is (.int .i64 (k : Nat)), Is (.pointer (some ⟨g, k * 2, none⟩)), Is (.pointer (some ⟨g, k * 2 + 1, none⟩)), Is (.int .u64 (pu : Nat)), Is (.string dpu), Is (.string b4), Is (.string b4)]
            (fun _ W W' => Below W.heap.size W W') (fun _ W => Below wr.heap.size wr W) (by kernel_rfl) (by kernel_rfl) (by kernel_rfl) ?hst ?h0 ⟨?o0, ?o1, ?o2, ?o3, ?o4, ?o5, ?o6, ?o7, ?o8, ?o9, ?o10, ?o11, ?o12, ?o13, ?o14, ?o15, ?o16, ?o17, trivial⟩ ?he
          case hst =>
            exact ⟨(fun _ _ _ _ _ _ h _ => h), (fun _ _ _ _ _ _ h _ => h), (fun _ _ _ _ _ _ h _ => h), (fun _ _ _ _ _ _ h _ => h), (fun _ _ _ _ _ _ h _ => h), (fun _ _ _ _ _ _ h _ => h), (fun _ _ _ _ _ _ h _ => h), (fun _ _ _ _ _ _ h _ => h), (fun _ _ _ _ _ _ h _ => h), (fun _ _ _ _ _ _ h _ => h), (fun _ _ _ _ _ _ h _ => h), (fun _ _ _ _ _ _ h _ => h), (fun _ _ _ _ _ _ h _ => h), (fun _ _ _ _ _ _ h _ => h), (fun _ _ _ _ _ _ h _ => h), (fun _ _ _ _ _ _ h _ => h), (fun _ _ _ _ _ _ h _ => h), (fun _ _ _ _ _ _ h _ => h), trivial⟩
          case h0 =>
            exact (Below.refl _ _).drew
          case o0 =>
            intro L vs A W H hf hd K hK
            have e3 : A.tmps[3]?.getD undef = .string b := H.later 3 0 hf (by kernel_rfl)
            go_simp
            exact hK _ _ (Below.refl _ _) rfl (H.glob)
          case o1 =>
            intro L vs A W H hf hd K hK
            have e33 := H.is 0 33 rfl rfl rfl (deps_of' hd 0 (by kernel_rfl)) (by kernel_rfl)
            go_simp
            rw [if_neg (by have := HA1.out.2; omega)]
            exact hK _ _ (Below.refl _ _) (congrArg Value.string HA1.out.1) H.glob
          case o2 =>
            intro L vs A W H hf hd K hK
            have e4 : A.tmps[4]?.getD undef = .slice (some ⟨g, 0, none⟩) n.valid.length vc := H.old 4 (by kernel_rfl)
            go_simp
            exact hK _ _ (Below.refl _ _) rfl (H.glob)
          case o3 =>
            intro L vs A W H hf hd K hK
            have e5 : A.tmps[5]?.getD undef = .int .i64 (k : Nat) := H.old 5 (by kernel_rfl)
            go_simp
            exact hK _ _ (Below.refl _ _) rfl (H.glob)
          case o4 =>
            intro L vs A W H hf hd K hK
            have e35 := H.is 2 35 rfl rfl rfl (deps_of' hd 2 (by kernel_rfl)) (by kernel_rfl)
            have e36 := H.is 3 36 rfl rfl rfl (deps_of' hd 3 (by kernel_rfl)) (by kernel_rfl)
            go_simp
            exact hK _ _ (Below.refl _ _) rfl (H.glob)
          case o5 =>
            intro L vs A W H hf hd K hK
            have e37 := H.is 4 37 rfl rfl rfl (deps_of' hd 4 (by kernel_rfl)) (by kernel_rfl)
            go_simp
            exact hK _ _ (Below.refl _ _) rfl (H.glob)
          case o6 =>
            intro L vs A W H hf hd K hK
            have e38 := H.is 5 38 rfl rfl rfl (deps_of' hd 5 (by kernel_rfl)) (by kernel_rfl)
            have c := (H.glob.cell (p := ⟨g, k * 2, none⟩) HGL.out).trans HCku.out
            go_simp
            exact hK _ _ (Below.refl _ _) rfl (H.glob)
          case o7 =>
            intro L vs A W H hf hd K hK
            have e39 := H.is 6 39 rfl rfl rfl (deps_of' hd 6 (by kernel_rfl)) (by kernel_rfl)
            rw [if_pos (show Region.wanted _ _ = true from rfl)]
            go_wp2_with (fail)
            refine (rnum_calls ku HUku.out _).mono ?_
            rintro e W2 ⟨rfl, hB⟩
            exact hK _ _ hB HDku.out (H.glob.trans (hB.mono H.glob.size))
          case o8 =>
            intro L vs A W H hf hd K hK
            have e34 := H.is 1 34 rfl rfl rfl (deps_of' hd 1 (by kernel_rfl)) (by kernel_rfl)
            have e40 := H.is 7 40 rfl rfl rfl (deps_of' hd 7 (by kernel_rfl)) (by kernel_rfl)
            go_simp
            rw [if_neg (by have := HA2.out.2; omega)]
            exact hK _ _ (Below.refl _ _) (congrArg Value.string HA2.out.1) H.glob
          case o9 =>
            intro L vs A W H hf hd K hK
            have e41 := H.is 8 41 rfl rfl rfl (deps_of' hd 8 (by kernel_rfl)) (by kernel_rfl)
            go_simp
            rw [if_neg (by have := HA3.out.2; omega)]
            exact hK _ _ (Below.refl _ _) (congrArg Value.string HA3.out.1) H.glob
          case o10 =>
            intro L vs A W H hf hd K hK
            have e4 : A.tmps[4]?.getD undef = .slice (some ⟨g, 0, none⟩) n.valid.length vc := H.old 4 (by kernel_rfl)
            go_simp
            exact hK _ _ (Below.refl _ _) rfl (H.glob)
          case o11 =>
            intro L vs A W H hf hd K hK
            have e5 : A.tmps[5]?.getD undef = .int .i64 (k : Nat) := H.old 5 (by kernel_rfl)
            go_simp
            exact hK _ _ (Below.refl _ _) rfl (H.glob)
          case o12 =>
            intro L vs A W H hf hd K hK
            have e43 := H.is 10 43 rfl rfl rfl (deps_of' hd 10 (by kernel_rfl)) (by kernel_rfl)
            have e44 := H.is 11 44 rfl rfl rfl (deps_of' hd 11 (by kernel_rfl)) (by kernel_rfl)
            go_simp
            exact hK _ _ (Below.refl _ _) rfl (H.glob)
          case o13 =>
            intro L vs A W H hf hd K hK
            have e45 := H.is 12 45 rfl rfl rfl (deps_of' hd 12 (by kernel_rfl)) (by kernel_rfl)
            go_simp
            exact hK _ _ (Below.refl _ _) rfl (H.glob)
          case o14 =>
            intro L vs A W H hf hd K hK
            have e46 := H.is 13 46 rfl rfl rfl (deps_of' hd 13 (by kernel_rfl)) (by kernel_rfl)
            have c := (H.glob.cell (p := ⟨g, k * 2 + 1, none⟩) HGL.out).trans HCpu.out
            go_simp
            exact hK _ _ (Below.refl _ _) rfl (H.glob)
          case o15 =>
            intro L vs A W H hf hd K hK
            have e47 := H.is 14 47 rfl rfl rfl (deps_of' hd 14 (by kernel_rfl)) (by kernel_rfl)
            rw [if_pos (show Region.wanted _ _ = true from rfl)]
            go_wp2_with (fail)
            refine (rnum_calls pu HUpu.out _).mono ?_
            rintro e W2 ⟨rfl, hB⟩
            exact hK _ _ hB HDpu.out (H.glob.trans (hB.mono H.glob.size))
          case o16 =>
            intro L vs A W H hf hd K hK
            have e42 := H.is 9 42 rfl rfl rfl (deps_of' hd 9 (by kernel_rfl)) (by kernel_rfl)
            have e48 := H.is 15 48 rfl rfl rfl (deps_of' hd 15 (by kernel_rfl)) (by kernel_rfl)
            go_simp
            rw [if_neg (by have := HA4.out.2; omega)]
            exact hK _ _ (Below.refl _ _) (congrArg Value.string HA4.out.1) H.glob
          case o17 =>
            intro L vs A W H hf hd K hK
            have e49 := H.is 16 49 rfl rfl rfl (deps_of' hd 16 (by kernel_rfl)) (by kernel_rfl)
            go_simp
            exact hK _ _ (Below.refl _ _) rfl (H.glob)
          case he =>
            intro vs W hlen hv
            match vs, hlen, hv with
            | [x0_, x1_, x2_, x3_, x4_, x5_, x6_, x7_, x8_, x9_, x10_, x11_, x12_, x13_, x14_, x15_, x16_, x17_], _, hv =>
            obtain rfl : (.string b) = x0_ := by obtain ⟨z, h1, h2⟩ := hv 0 _ rfl; cases h1; exact h2.symm
            obtain rfl : (.string b1) = x1_ := by obtain ⟨z, h1, h2⟩ := hv 1 _ rfl; cases h1; exact h2.symm
            obtain rfl : (.slice (some ⟨g, 0, none⟩) n.valid.length vc) = x2_ := by obtain ⟨z, h1, h2⟩ := hv 2 _ rfl; cases h1; exact h2.symm
            obtain rfl : (.int .i64 (k : Nat)) = x3_ := by obtain ⟨z, h1, h2⟩ := hv 3 _ rfl; cases h1; exact h2.symm
            obtain rfl : (.pointer (some ⟨g, k * 2, none⟩)) = x4_ := by obtain ⟨z, h1, h2⟩ := hv 4 _ rfl; cases h1; exact h2.symm
            obtain rfl : (.pointer (some ⟨g, k * 2, none⟩)) = x5_ := by obtain ⟨z, h1, h2⟩ := hv 5 _ rfl; cases h1; exact h2.symm
            obtain rfl : (.int .u64 (ku : Nat)) = x6_ := by obtain ⟨z, h1, h2⟩ := hv 6 _ rfl; cases h1; exact h2.symm
            obtain rfl : (.string dku) = x7_ := by obtain ⟨z, h1, h2⟩ := hv 7 _ rfl; cases h1; exact h2.symm
            obtain rfl : (.string b2) = x8_ := by obtain ⟨z, h1, h2⟩ := hv 8 _ rfl; cases h1; exact h2.symm
            obtain rfl : (.string b3) = x9_ := by obtain ⟨z, h1, h2⟩ := hv 9 _ rfl; cases h1; exact h2.symm
            obtain rfl : (.slice (some ⟨g, 0, none⟩) n.valid.length vc) = x10_ := by obtain ⟨z, h1, h2⟩ := hv 10 _ rfl; cases h1; exact h2.symm
            obtain rfl : (.int .i64 (k : Nat)) = x11_ := by obtain ⟨z, h1, h2⟩ := hv 11 _ rfl; cases h1; exact h2.symm
            obtain rfl : (.pointer (some ⟨g, k * 2, none⟩)) = x12_ := by obtain ⟨z, h1, h2⟩ := hv 12 _ rfl; cases h1; exact h2.symm
            obtain rfl : (.pointer (some ⟨g, k * 2 + 1, none⟩)) = x13_ := by obtain ⟨z, h1, h2⟩ := hv 13 _ rfl; cases h1; exact h2.symm
            obtain rfl : (.int .u64 (pu : Nat)) = x14_ := by obtain ⟨z, h1, h2⟩ := hv 14 _ rfl; cases h1; exact h2.symm
            obtain rfl : (.string dpu) = x15_ := by obtain ⟨z, h1, h2⟩ := hv 15 _ rfl; cases h1; exact h2.symm
            obtain rfl : (.string b4) = x16_ := by obtain ⟨z, h1, h2⟩ := hv 16 _ rfl; cases h1; exact h2.symm
            obtain rfl : (.string b4) = x17_ := by obtain ⟨z, h1, h2⟩ := hv 17 _ rfl; cases h1; exact h2.symm
            intro L hall hG
            clear hv hlen
            have HB1 := Lib.hid (HBr.out.trans (hG.mono HBr.out.size))
            have HE1 := Lib.hid (HEr.out.below hG HGL.out)
            clear hG hall
            simp only [fill, if_true]
            go_simp
            go_wp2_with (fail)
            go_roundw
            case rel => exact ⟨k + 1, b4, by omega, by go_num, rfl, HC4, HE1, HB1⟩
            case measure => simp [intOf]; omega
          --END
        · have HF := Lib.hid (show cat (rtext lv lo nx fi n.valid) = b by
            have := HCb.out
            rwa [show k = n.valid.length by omega, List.take_length] at this)
          go_wp2_with (fail)
          go_ret
          exact ⟨by rw [HF.out]; rfl, HBr.out⟩
    · have hv0 : n.valid = [] := List.eq_nil_of_length_eq_zero (by omega)
      have HF := Lib.hid (show cat (rtext lv lo nx fi n.valid) = b6 by have := HC6.out; rw [hv0] at this ⊢; exact this)
      have hl0 : n.valid.length = 0 := by omega
      rw [hl0]
      clear hv hB2 hv0 hp hl0
      go_wp2_with (fail)
      refine wp_loop_rounds 1 ?_
      rw [rounds_succ]
      go_wp2_with (fail)
      go_ret
      exact ⟨by rw [HF.out]; rfl, HB2.out⟩
end Go.Proofs.YtkfpoekeofnglaaDoor
