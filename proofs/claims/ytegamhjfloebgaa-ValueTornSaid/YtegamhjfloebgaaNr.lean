/-
  value.Read over a memory: contracts.
-/
import Derived.Test.YtegamhjfloebgaaVn
import Derived.Test.YtegamhjfloebgaaPf
namespace Go.Proofs.Ytegamhjfloebgaa
open Go.RowKit Go.Shelf
attribute [local go_sem] Oper.semAt_some
set_option linter.unusedVariables false

def readM (mb rb : Nat) (a : Int) (lv : Value) (s : ByteArray) (d : Bool) (bad : Int) : Array Value := #[.pointer (some ⟨mb, 0, none⟩), .int .u64 a, .func (.func 37) #[.pointer (some ⟨rb, 0, none⟩)] #[], lv, .string s, .bool d, .int .i64 bad]
structure RS (w : World) (rb mb : Nat) (a : Int) (lv : Value) (l : List Int) (s : ByteArray) (d : Bool) (bad : Int) : Prop where
  blk : Blk w rb (readM mb rb a lv s d bad) 42
  own : w.ownsRow (rb + 1) 22 1 lv l.length (l.map (Value.int .u64))
set_option maxRecDepth 100000 in
theorem vnew_v (mb : Nat) (a : Int) (w : World) : Calls Try.prog 17 #[.pointer (some ⟨mb, 0, none⟩), .int .u64 a] w fun e w' => e = .returned (.pointer (some ⟨w.heap.size, 0, none⟩)) ∧ RS w' w.heap.size mb a (.slice none 0 0) [] ⟨#[]⟩ false 0 ∧ Below w.heap.size w w' := by
  have HB := Lib.hid (Blk.new w (readM mb w.heap.size a (.slice none 0 0) ⟨#[]⟩ false 0) 42)
  have HW := Lib.hid ((Below.refl w.heap.size w).alloc (Nat.le_refl _) (.cells (readM mb w.heap.size a (.slice none 0 0) ⟨#[]⟩ false 0) 42))
  go_enter Try.func17, Try.ntmps17
  go_wp2_with (fail)
  go_ret
  exact ⟨rfl, ⟨HB.out, World.ownsRow_nil _ _ _ _⟩, HW.out⟩

theorem u64_rng (x : Int) : 0 ≤ IntKind.u64.wrap x ∧ IntKind.u64.wrap x ≤ 18446744073709551615 := by
  simp [IntKind.wrap, IntKind.bits, IntKind.signed]; omega
/-- what a load answers -/
def ldW (vw : List Int) (a : Int) : Int := if atE vw.length a = 0 then vw.getD (a / 8).toNat 0 else 0
theorem ldW_u64 {vw : List Int} (h : U64s vw) (a : Int) : 0 ≤ ldW vw a ∧ ldW vw a ≤ 18446744073709551615 := by
  unfold ldW
  split
  · by_cases hk : (a / 8).toNat < vw.length
    · rw [List.getD_eq_getElem?_getD, List.getElem?_eq_getElem hk]; exact h _ (List.getElem_mem hk)
    · rw [List.getD_eq_getElem?_getD, List.getElem?_eq_none (by omega)]; decide
  · decide
def ldN (n : Nat) (a : Int) (lo : Int) : Int := if atE n a = 0 then IntKind.u64.wrap (lo + 1) else lo
theorem mload_v (w : World) (b : Nat) (vw is : List Int) (vv vi : Value) (ml : Nat) (lo st fl fe : Int) (h : MemB w b vw is vv vi ml lo st fl fe) (hp : 0 < vw.length) (hn : vw.length ≤ 1000000) (a : Int) (h0 : 0 ≤ a) (h1 : a ≤ 18446744073709551615) :
    Calls Try.prog 58 #[.pointer (some ⟨b, 0, none⟩), .int .u64 a] w fun e w' => e = .returned (.tuple #[.int .u64 (ldW vw a), .int .i64 (atE vw.length a)]) ∧ MemB w' b vw is vv vi ml (ldN vw.length a lo) st fl fe ∧ Keeps (fun k => k = b) w w' := by
  unfold ldW ldN
  rcases atE_or vw.length a with e | e
  · rw [e, if_pos rfl, if_pos rfl]
    exact mload_yes w b vw is vv vi ml lo st fl fe h hp hn a h0 h1 e
  · rw [e, if_neg (by decide), if_neg (by decide)]
    refine (mload_no w b vw is vv vi ml lo st fl fe h hp hn a h0 h1 e).mono ?_
    rintro e w' ⟨rfl, rfl⟩
    exact ⟨rfl, h, Keeps.refl _ _⟩

structure LG (W0 : World) (mb : Nat) (vw is : List Int) (vv vi : Value) (ml : Nat) (lo st fl fe ad : Int) (L : Nat → Bool) (W : World) : Prop where
  n : L 16 = false → MemB W mb vw is vv vi ml lo st fl fe
  y : L 16 = true → MemB W mb vw is vv vi ml (ldN vw.length ad lo) st fl fe
  kp : Keeps (fun k => k = mb) W0 W
section
variable {W0 W W' : World} {mb : Nat} {vw is : List Int} {vv vi : Value} {ml : Nat} {lo st fl fe ad : Int} {L L' : Nat → Bool}
theorem LG.start (h : MemB W0 mb vw is vv vi ml lo st fl fe) : LG W0 mb vw is vv vi ml lo st fl fe ad (fun _ => false) W0.drew :=
  ⟨fun _ => h.below ((Below.refl _ W0).drew), (by simp), (Keeps.refl _ _).drew⟩
theorem LG.keep (h : LG W0 mb vw is vv vi ml lo st fl fe ad L W) (e : L' 16 = L 16) : LG W0 mb vw is vv vi ml lo st fl fe ad L' W := ⟨by rw [e]; exact h.n, by rw [e]; exact h.y, h.kp⟩
theorem LG.load (h : LG W0 mb vw is vv vi ml lo st fl fe ad L W) (hm : MemB W' mb vw is vv vi ml (ldN vw.length ad lo) st fl fe) (hk : Keeps (fun k => k = mb) W W') : LG W0 mb vw is vv vi ml lo st fl fe ad (lset L 16) W' :=
  ⟨(fun e => by cases e), fun _ => hm, h.kp.trans hk⟩
end
def nextP (nl : List Int) (s : ByteArray) : Bool × Int × List Int × ByteArray := if 120 < nl.headD 0 then (true, 11, nl, s) else if (nl.length : Int) < wordsN (nl.headD 0) then (false, 0, nl, s) else (true, (UP nl).2, nl, ⟨(UP nl).1.toArray⟩)
def adP (a : Int) (l : List Int) : Int := IntKind.u64.wrap (a + 8 * (l.length : Int))
def loadP (vw : List Int) (a : Int) (l : List Int) (s : ByteArray) : Bool × Int × List Int × ByteArray := if atE vw.length (adP a l) = 0 then nextP (l ++ [ldW vw (adP a l)]) s else (true, 3, l, s)
/-- what the load of a word of a value answers, and what it has read -/
structure LP (w : World) (rb mb : Nat) (a : Int) (l : List Int) (s : ByteArray) (d : Bool) (bad : Int) (vw is : List Int) (vv vi : Value) (ml : Nat) (lo st fl fe : Int) (r : Bool × Int × List Int × ByteArray) (n : Int) (e : Ending) (w' : World) : Prop where
  e : e = .returned (.tuple #[.bool r.1, .int .i64 r.2.1])
  rs : ∃ lv, RS w' rb mb a lv r.2.2.1 r.2.2.2 d bad
  m : MemB w' mb vw is vv vi ml n st fl fe
  kp : Keeps (fun k => k = mb ∨ rb ≤ k) w w'
set_option maxRecDepth 100000 in
set_option maxHeartbeats 40000000 in
theorem load_v (w : World) (rb mb : Nat) (a : Int) (lv : Value) (l : List Int) (s : ByteArray) (d : Bool) (bad : Int) (vw is : List Int) (vv vi : Value) (ml : Nat) (lo st fl fe : Int)
    (hr : RS w rb mb a lv l s d bad) (h : MemB w mb vw is vv vi ml lo st fl fe) (hlt : ∀ i, MS mb vv vi i → i < rb) (hp : 0 < vw.length) (hn : vw.length ≤ 1000000) (h0 : 0 ≤ a) (h1 : a ≤ 18446744073709551615) (hl : l.length ≤ 100) (hul : U64s l) (huv : U64s vw) :
    Calls Try.prog 37 #[.pointer (some ⟨rb, 0, none⟩)] w (LP w rb mb a l s d bad vw is vv vi ml lo st fl fe (loadP vw a l s) (ldN vw.length (adP a l) lo)) := by
  obtain ⟨W0, rfl⟩ : ∃ y, y = w := ⟨_, rfl⟩
  obtain ⟨g, c, rfl⟩ := own_form hr.own
  have hmr : mb < rb := hlt mb (.inl rfl)
  have HC := Lib.hid (show W0.cell? ⟨rb, 0, none⟩ = some (.pointer (some ⟨mb, 0, none⟩)) ∧ W0.cell? ⟨rb, 1, none⟩ = some (.int .u64 a) ∧ W0.cell? ⟨rb, 3, none⟩ = some (.slice g l.length c) by
    refine ⟨?_, ?_, ?_⟩ <;> rw [hr.blk.cell] <;> rfl)
  have Hrb := Lib.hid (show rb < W0.heap.size ∧ ¬ rb = mb from ⟨hr.blk.lt, by omega⟩)
  have HM := Lib.hid h
  have HR := Lib.hid hr
  have HLT := Lib.hid hlt
  obtain ⟨ad, had⟩ : ∃ ad, IntKind.u64.wrap (a + 8 * (l.length : Int)) = ad := ⟨_, rfl⟩
  have Had := Lib.hid had
  have Had2 := Lib.hid (show 0 ≤ ad ∧ ad ≤ 18446744073709551615 by rw [← had]; exact u64_rng _)
  have Hw1 := Lib.hid (show IntKind.i64.wrap (8 * (l.length : Int)) = 8 * (l.length : Int) from IntWalk.i64_in _ (by omega))
  have Hw2 := Lib.hid (show IntKind.u64.wrap (8 * (l.length : Int)) = 8 * (l.length : Int) from IntWalk.u64_in _ (by omega))
  clear had hr h hlt hmr
  go_enter Try.func37, Try.ntmps37
  go_wp2_with (fail)
  --GEN r_ld1
  refine wp_region_vals [Is (.pointer (some ⟨rb, 0, none⟩)), Is (.pointer (some ⟨rb, 0, none⟩)), Is (.pointer (some ⟨rb, 0, none⟩)), Is (.pointer (some ⟨mb, 0, none⟩)), Is (.pointer (some ⟨rb, 0, none⟩)), Is (.pointer (some ⟨rb, 0, none⟩)), Is (.pointer (some ⟨rb, 1, none⟩)), Is (.int .u64 a), Is (.pointer (some ⟨rb, 0, none⟩)), Is (.pointer (some ⟨rb, 0, none⟩)), Is (.pointer (some ⟨rb, 3, none⟩)), Is (.slice g l.length c), Is (.int .i64 (l.length : Int)), Is (.int .i64 (8 * (l.length : Int))), Is (.int .u64 (8 * (l.length : Int))), Is (.int .u64 ad), Is (.tuple #[.int .u64 (ldW vw ad), .int .i64 (atE vw.length ad)]), Is (.tuple #[.int .u64 (ldW vw ad), .int .i64 (atE vw.length ad)]), Is (.int .u64 (ldW vw ad)), Is (.int .i64 (atE vw.length ad)), Is (.int .u64 (ldW vw ad)), Is (.int .i64 (atE vw.length ad))]
    (fun _ _ _ => True) (fun L W => LG W0 mb vw is vv vi ml lo st fl fe ad L W) (by kernel_rfl) (by kernel_rfl) (by kernel_rfl) ?hst ?h0 ⟨?o0, ?o1, ?o2, ?o3, ?o4, ?o5, ?o6, ?o7, ?o8, ?o9, ?o10, ?o11, ?o12, ?o13, ?o14, ?o15, ?o16, ?o17, ?o18, ?o19, ?o20, ?o21, trivial⟩ ?he
  case hst =>
    exact ⟨(fun _ _ _ _ _ _ h _ => h), (fun _ _ _ _ _ _ h _ => h), (fun _ _ _ _ _ _ h _ => h), (fun _ _ _ _ _ _ h _ => h), (fun _ _ _ _ _ _ h _ => h), (fun _ _ _ _ _ _ h _ => h), (fun _ _ _ _ _ _ h _ => h), (fun _ _ _ _ _ _ h _ => h), (fun _ _ _ _ _ _ h _ => h), (fun _ _ _ _ _ _ h _ => h), (fun _ _ _ _ _ _ h _ => h), (fun _ _ _ _ _ _ h _ => h), (fun _ _ _ _ _ _ h _ => h), (fun _ _ _ _ _ _ h _ => h), (fun _ _ _ _ _ _ h _ => h), (fun _ _ _ _ _ _ h _ => h), (fun _ _ _ _ _ _ h _ => h), (fun _ _ _ _ _ _ h _ => h), (fun _ _ _ _ _ _ h _ => h), (fun _ _ _ _ _ _ h _ => h), (fun _ _ _ _ _ _ h _ => h), (fun _ _ _ _ _ _ h _ => h), trivial⟩
  case h0 =>
    exact LG.start HM.out
  case o0 =>
    intro L vs A W H hf hd K hK
    have e0 : A.tmps[0]?.getD undef = .pointer (some ⟨rb, 0, none⟩) := H.old 0 (by kernel_rfl)
    go_simp
    exact hK _ _ (trivial) rfl (H.glob.keep rfl)
  case o1 =>
    intro L vs A W H hf hd K hK
    have e7 := H.is 0 7 rfl rfl rfl (deps_of' hd 0 (by kernel_rfl)) (by kernel_rfl)
    go_simp
    exact hK _ _ (trivial) rfl (H.glob.keep rfl)
  case o2 =>
    intro L vs A W H hf hd K hK
    have e8 := H.is 1 8 rfl rfl rfl (deps_of' hd 1 (by kernel_rfl)) (by kernel_rfl)
    go_simp
    exact hK _ _ (trivial) rfl (H.glob.keep rfl)
  case o3 =>
    intro L vs A W H hf hd K hK
    have e9 := H.is 2 9 rfl rfl rfl (deps_of' hd 2 (by kernel_rfl)) (by kernel_rfl)
    have d : W.cell? ⟨rb, 0, none⟩ = some (.pointer (some ⟨mb, 0, none⟩)) := (H.glob.kp.cell (p := ⟨rb, 0, none⟩) Hrb.out.1 Hrb.out.2).trans HC.out.1
    go_simp
    exact hK _ _ (trivial) rfl (H.glob.keep rfl)
  case o4 =>
    intro L vs A W H hf hd K hK
    have e0 : A.tmps[0]?.getD undef = .pointer (some ⟨rb, 0, none⟩) := H.old 0 (by kernel_rfl)
    go_simp
    exact hK _ _ (trivial) rfl (H.glob.keep rfl)
  case o5 =>
    intro L vs A W H hf hd K hK
    have e11 := H.is 4 11 rfl rfl rfl (deps_of' hd 4 (by kernel_rfl)) (by kernel_rfl)
    go_simp
    exact hK _ _ (trivial) rfl (H.glob.keep rfl)
  case o6 =>
    intro L vs A W H hf hd K hK
    have e12 := H.is 5 12 rfl rfl rfl (deps_of' hd 5 (by kernel_rfl)) (by kernel_rfl)
    go_simp
    exact hK _ _ (trivial) rfl (H.glob.keep rfl)
  case o7 =>
    intro L vs A W H hf hd K hK
    have e13 := H.is 6 13 rfl rfl rfl (deps_of' hd 6 (by kernel_rfl)) (by kernel_rfl)
    have d : W.cell? ⟨rb, 1, none⟩ = some (.int .u64 a) := (H.glob.kp.cell (p := ⟨rb, 1, none⟩) Hrb.out.1 Hrb.out.2).trans HC.out.2.1
    go_simp
    exact hK _ _ (trivial) rfl (H.glob.keep rfl)
  case o8 =>
    intro L vs A W H hf hd K hK
    have e0 : A.tmps[0]?.getD undef = .pointer (some ⟨rb, 0, none⟩) := H.old 0 (by kernel_rfl)
    go_simp
    exact hK _ _ (trivial) rfl (H.glob.keep rfl)
  case o9 =>
    intro L vs A W H hf hd K hK
    have e15 := H.is 8 15 rfl rfl rfl (deps_of' hd 8 (by kernel_rfl)) (by kernel_rfl)
    go_simp
    exact hK _ _ (trivial) rfl (H.glob.keep rfl)
  case o10 =>
    intro L vs A W H hf hd K hK
    have e16 := H.is 9 16 rfl rfl rfl (deps_of' hd 9 (by kernel_rfl)) (by kernel_rfl)
    go_simp
    exact hK _ _ (trivial) rfl (H.glob.keep rfl)
  case o11 =>
    intro L vs A W H hf hd K hK
    have e17 := H.is 10 17 rfl rfl rfl (deps_of' hd 10 (by kernel_rfl)) (by kernel_rfl)
    have d : W.cell? ⟨rb, 3, none⟩ = some (.slice g l.length c) := (H.glob.kp.cell (p := ⟨rb, 3, none⟩) Hrb.out.1 Hrb.out.2).trans HC.out.2.2
    go_simp
    exact hK _ _ (trivial) rfl (H.glob.keep rfl)
  case o12 =>
    intro L vs A W H hf hd K hK
    have e18 := H.is 11 18 rfl rfl rfl (deps_of' hd 11 (by kernel_rfl)) (by kernel_rfl)
    go_simp
    exact hK _ _ (trivial) rfl (H.glob.keep rfl)
  case o13 =>
    intro L vs A W H hf hd K hK
    have e19 := H.is 12 19 rfl rfl rfl (deps_of' hd 12 (by kernel_rfl)) (by kernel_rfl)
    have hwi := Hw1.out
    go_simp
    exact hK _ _ (trivial) rfl (H.glob.keep rfl)
  case o14 =>
    intro L vs A W H hf hd K hK
    have e20 := H.is 13 20 rfl rfl rfl (deps_of' hd 13 (by kernel_rfl)) (by kernel_rfl)
    have hwi := Hw2.out
    go_simp
    exact hK _ _ (trivial) rfl (H.glob.keep rfl)
  case o15 =>
    intro L vs A W H hf hd K hK
    have e14 := H.is 7 14 rfl rfl rfl (deps_of' hd 7 (by kernel_rfl)) (by kernel_rfl)
    have e21 := H.is 14 21 rfl rfl rfl (deps_of' hd 14 (by kernel_rfl)) (by kernel_rfl)
    have had := Had.out
    go_simp
    exact hK _ _ (trivial) rfl (H.glob.keep rfl)
  case o16 =>
    intro L vs A W H hf hd K hK
    have e10 := H.is 3 10 rfl rfl rfl (deps_of' hd 3 (by kernel_rfl)) (by kernel_rfl)
    have e22 := H.is 15 22 rfl rfl rfl (deps_of' hd 15 (by kernel_rfl)) (by kernel_rfl)
    have HL := Lib.hid (mload_v W mb vw is vv vi ml lo st fl fe (H.glob.n hf) hp hn ad Had2.out.1 Had2.out.2)
    go_simp
    refine HL.out.mono ?_
    rintro e w' ⟨rfl, hm, hk⟩
    go_simp
    exact hK _ _ trivial rfl (H.glob.load hm hk)
  case o17 =>
    intro L vs A W H hf hd K hK
    have e23 := H.is 16 23 rfl rfl rfl (deps_of' hd 16 (by kernel_rfl)) (by kernel_rfl)
    go_simp
    exact hK _ _ (trivial) rfl (H.glob.keep rfl)
  case o18 =>
    intro L vs A W H hf hd K hK
    have e6 := H.is 17 6 rfl rfl rfl (deps_of' hd 17 (by kernel_rfl)) (by kernel_rfl)
    go_simp
    exact hK _ _ (trivial) rfl (H.glob.keep rfl)
  case o19 =>
    intro L vs A W H hf hd K hK
    have e6 := H.is 17 6 rfl rfl rfl (deps_of' hd 17 (by kernel_rfl)) (by kernel_rfl)
    go_simp
    exact hK _ _ (trivial) rfl (H.glob.keep rfl)
  case o20 =>
    intro L vs A W H hf hd K hK
    have e24 := H.is 18 24 rfl rfl rfl (deps_of' hd 18 (by kernel_rfl)) (by kernel_rfl)
    go_simp
    exact hK _ _ (trivial) rfl (H.glob.keep rfl)
  case o21 =>
    intro L vs A W H hf hd K hK
    have e25 := H.is 19 25 rfl rfl rfl (deps_of' hd 19 (by kernel_rfl)) (by kernel_rfl)
    go_simp
    exact hK _ _ (trivial) rfl (H.glob.keep rfl)
  case he =>
    intro vs W hlen hv
    match vs, hlen, hv with
    | [x0_, x1_, x2_, x3_, x4_, x5_, x6_, x7_, x8_, x9_, x10_, x11_, x12_, x13_, x14_, x15_, x16_, x17_, x18_, x19_, x20_, x21_], _, hv =>
    obtain rfl : (.pointer (some ⟨rb, 0, none⟩)) = x0_ := by obtain ⟨z, h1, h2⟩ := hv 0 _ rfl; cases h1; exact h2.symm
    obtain rfl : (.pointer (some ⟨rb, 0, none⟩)) = x1_ := by obtain ⟨z, h1, h2⟩ := hv 1 _ rfl; cases h1; exact h2.symm
    obtain rfl : (.pointer (some ⟨rb, 0, none⟩)) = x2_ := by obtain ⟨z, h1, h2⟩ := hv 2 _ rfl; cases h1; exact h2.symm
    obtain rfl : (.pointer (some ⟨mb, 0, none⟩)) = x3_ := by obtain ⟨z, h1, h2⟩ := hv 3 _ rfl; cases h1; exact h2.symm
    obtain rfl : (.pointer (some ⟨rb, 0, none⟩)) = x4_ := by obtain ⟨z, h1, h2⟩ := hv 4 _ rfl; cases h1; exact h2.symm
    obtain rfl : (.pointer (some ⟨rb, 0, none⟩)) = x5_ := by obtain ⟨z, h1, h2⟩ := hv 5 _ rfl; cases h1; exact h2.symm
    obtain rfl : (.pointer (some ⟨rb, 1, none⟩)) = x6_ := by obtain ⟨z, h1, h2⟩ := hv 6 _ rfl; cases h1; exact h2.symm
    obtain rfl : (.int .u64 a) = x7_ := by obtain ⟨z, h1, h2⟩ := hv 7 _ rfl; cases h1; exact h2.symm
    obtain rfl : (.pointer (some ⟨rb, 0, none⟩)) = x8_ := by obtain ⟨z, h1, h2⟩ := hv 8 _ rfl; cases h1; exact h2.symm
    obtain rfl : (.pointer (some ⟨rb, 0, none⟩)) = x9_ := by obtain ⟨z, h1, h2⟩ := hv 9 _ rfl; cases h1; exact h2.symm
    obtain rfl : (.pointer (some ⟨rb, 3, none⟩)) = x10_ := by obtain ⟨z, h1, h2⟩ := hv 10 _ rfl; cases h1; exact h2.symm
    obtain rfl : (.slice g l.length c) = x11_ := by obtain ⟨z, h1, h2⟩ := hv 11 _ rfl; cases h1; exact h2.symm
    obtain rfl : (.int .i64 (l.length : Int)) = x12_ := by obtain ⟨z, h1, h2⟩ := hv 12 _ rfl; cases h1; exact h2.symm
    obtain rfl : (.int .i64 (8 * (l.length : Int))) = x13_ := by obtain ⟨z, h1, h2⟩ := hv 13 _ rfl; cases h1; exact h2.symm
    obtain rfl : (.int .u64 (8 * (l.length : Int))) = x14_ := by obtain ⟨z, h1, h2⟩ := hv 14 _ rfl; cases h1; exact h2.symm
    obtain rfl : (.int .u64 ad) = x15_ := by obtain ⟨z, h1, h2⟩ := hv 15 _ rfl; cases h1; exact h2.symm
    obtain rfl : (.tuple #[.int .u64 (ldW vw ad), .int .i64 (atE vw.length ad)]) = x16_ := by obtain ⟨z, h1, h2⟩ := hv 16 _ rfl; cases h1; exact h2.symm
    obtain rfl : (.tuple #[.int .u64 (ldW vw ad), .int .i64 (atE vw.length ad)]) = x17_ := by obtain ⟨z, h1, h2⟩ := hv 17 _ rfl; cases h1; exact h2.symm
    obtain rfl : (.int .u64 (ldW vw ad)) = x18_ := by obtain ⟨z, h1, h2⟩ := hv 18 _ rfl; cases h1; exact h2.symm
    obtain rfl : (.int .i64 (atE vw.length ad)) = x19_ := by obtain ⟨z, h1, h2⟩ := hv 19 _ rfl; cases h1; exact h2.symm
    obtain rfl : (.int .u64 (ldW vw ad)) = x20_ := by obtain ⟨z, h1, h2⟩ := hv 20 _ rfl; cases h1; exact h2.symm
    obtain rfl : (.int .i64 (atE vw.length ad)) = x21_ := by obtain ⟨z, h1, h2⟩ := hv 21 _ rfl; cases h1; exact h2.symm
    intro L hall hG
    clear hv hlen
    have HG := Lib.hid (hG.y (hall 16 (by decide)))
    have HKp := Lib.hid hG.kp
    clear hG hall
    simp only [fill, if_true]
  --END
    clear hv
    have blkW := HR.out.blk.kept HKp.out Hrb.out.2
    have ownW := own_keeps HR.out.own HKp.out (fun i e => by have := own_base HR.out.own i e; have := HLT.out mb (.inl rfl); omega)
    rcases atE_or vw.length ad with e0 | e0
    · rw [e0]
      obtain ⟨i0, hi, hz0, hz1, hz2⟩ := info_parts Try.info22
      obtain ⟨x, hx⟩ : ∃ x, ldW vw ad = x := ⟨_, rfl⟩
      rw [hx]
      have d3 : W.cell? ⟨rb, 3, none⟩ = some (.slice g l.length c) := by rw [blkW.cell]; rfl
      have df : W.frozen? ⟨rb, 3, none⟩ = false := blkW.frozen 3
      have HBW := Lib.hid blkW
      have HOW := Lib.hid ownW
      have hrbW := blkW.lt
      have HXx := Lib.hid hx
      clear blkW ownW hx
      go_wp2_with (at_builtin; refine wpList_append_own _ rfl _ _ 40 rfl (rb + 1) 22 i0 (.int .u64 0) 1 8 Try.underlying40 hi hz0 hz1 hz2 rfl (by decide) _ _ _ rfl (HOW.out.alloc _) ⟨W.heap.size, 0, none⟩ 1 1 [.int .u64 x] rfl rfl (cell_one_new _ _ _) (ints_oneCell .u64 [x]) (by unfold maxLen; omega) (by omega) (by simp; omega) ?_)
      intro v' w1 hown' hgrow hnil
      obtain ⟨g2, c2, rfl, hg2, hg2l, hc2, hc2m, hlen2, hcell2, hfr2⟩ := own_shapeK hown' (by omega)
      have hnl : l.map (Value.int .u64) ++ [Value.int .u64 x] = (l ++ [x]).map (Value.int .u64) := by simp
      obtain ⟨nl, hnl2⟩ : ∃ nl, nl = l ++ [x] := ⟨_, rfl⟩
      rw [hnl, ← hnl2] at hown' hcell2
      have hnlen : nl.length = l.length + 1 := by rw [hnl2]; simp
      rw [← hnlen] at hown'
      obtain ⟨y, hy⟩ : ∃ y, nl.headD 0 = y := ⟨_, rfl⟩
      have d0 : w1.cell? ⟨g2, 0, none⟩ = some (.int .u64 y) := by
        rw [hcell2 0 (by omega)]
        cases nl with
        | nil => simp at hnlen
        | cons z r => simp at hy; subst hy; simp
      have k1 : Keeps (fun k => rb + 1 ≤ k) W w1 := ((Keeps.refl _ W).alloc _).grown hgrow (fun k e => .inl (own_base HOW.out k e))
      have blk1 : Blk w1 rb (readM mb rb a (.slice g l.length c) s d bad) 42 := HBW.out.kept k1 (by omega)
      have f1 : w1.frozen? ⟨rb, 3, none⟩ = false := blk1.frozen 3
      have d1 : w1.cell? ⟨rb, 3, none⟩ = some (.slice g l.length c) := by rw [blk1.cell]; rfl
      have hne2 : g2 ≠ rb := by omega
      have hne3 : rb ≠ g2 := by omega
      have HS := Lib.hid (show RS (w1.setCell ⟨rb, 3, none⟩ (.slice (some ⟨g2, 0, none⟩) nl.length c2)) rb mb a (.slice (some ⟨g2, 0, none⟩) nl.length c2) nl s d bad from ⟨blk1.set 3 _, ownsRow_setCell_below (by rw [hnlen] at hown' ⊢; exact hown') (a := ⟨rb, 3, none⟩) (by simp) _⟩)
      have k2 : Keeps (fun k => rb ≤ k) W (w1.setCell ⟨rb, 3, none⟩ (.slice (some ⟨g2, 0, none⟩) nl.length c2)) := (k1.mono (fun _ _ h => by omega)).setCell (.inl (Nat.le_refl rb)) _
      have HM2 := Lib.hid (HG.out.kept k2 (fun i hi => by have := HLT.out i hi; omega))
      have HK2 := Lib.hid (show Keeps (fun k => k = mb ∨ rb ≤ k) W0 (w1.setCell ⟨rb, 3, none⟩ (.slice (some ⟨g2, 0, none⟩) nl.length c2)) from (HKp.out.mono (fun _ _ h => .inl h)).trans (k2.mono (fun _ _ h => .inr h)))
      have HP := Lib.hid (show loadP vw a l s = nextP nl s by unfold loadP adP; rw [Had.out, if_pos e0, HXx.out, ← hnl2])
      have Hy := Lib.hid hy
      have Hu := Lib.hid (show U64s nl by
        intro z hz
        rw [hnl2] at hz
        rcases List.mem_append.1 hz with hz | hz
        · exact hul z hz
        · simp at hz; rw [hz, ← HXx.out]; exact ldW_u64 huv ad)
      have hy0 : 0 ≤ y ∧ y ≤ 18446744073709551615 := Hu.out y (by rw [← hy]; cases nl with
        | nil => simp at hnlen
        | cons z r => simp)
      have Hlen := Lib.hid hnlen
      rw [← hnlen]
      clear hnl hnl2 hown' hcell2 hfr2 hgrow hlen2 k1 k2 blk1 hy hnil hnlen
      have HAD := Lib.hid (show adP a l = ad from Had.out)
      have b0 : (0 : Int) < (nl.length : Int) := by have := Hlen.out; omega
      have b1 : 0 < nl.length := by omega
      by_cases h120 : 120 < y
      · go_wp2_with (fail)
        go_ret2
        refine ⟨?_, ?_, ?_, HK2.out⟩
        · rw [HP.out]; unfold nextP; rw [Hy.out, if_pos h120]; rfl
        · rw [HP.out]; unfold nextP; rw [Hy.out, if_pos h120]; exact ⟨_, HS.out⟩
        · rw [HAD.out]; exact HM2.out
      · have H120 := Lib.hid h120
        have hyi : IntKind.i64.wrap y = y := IntWalk.i64_in _ (by omega)
        have HC2 := Lib.hid (show (w1.setCell ⟨rb, 3, none⟩ (.slice (some ⟨g2, 0, none⟩) nl.length c2)).cell? ⟨rb, 3, none⟩ = some (.slice (some ⟨g2, 0, none⟩) nl.length c2) ∧ (w1.setCell ⟨rb, 3, none⟩ (.slice (some ⟨g2, 0, none⟩) nl.length c2)).cell? ⟨g2, 0, none⟩ = some (.int .u64 y) from ⟨by rw [HS.out.blk.cell]; rfl, (((Keeps.refl (fun k => k = rb) w1).setCell (p := ⟨rb, 3, none⟩) (.inl rfl) _).cell (p := ⟨g2, 0, none⟩) hg2l hne2).trans d0⟩)
        go_wp2_with (fail)
        obtain ⟨W2, hW2⟩ : ∃ z, z = w1.setCell ⟨rb, 3, none⟩ (.slice (some ⟨g2, 0, none⟩) nl.length c2) := ⟨_, rfl⟩
        rw [← hW2] at HS HM2 HK2 HC2 ⊢
        clear hW2 d0 d1 f1
        --GEN r_ld7
        refine wp_region_vals [Is (.pointer (some ⟨rb, 0, none⟩)), Is (.pointer (some ⟨rb, 0, none⟩)), Is (.pointer (some ⟨rb, 3, none⟩)), Is (.slice (some ⟨g2, 0, none⟩) nl.length c2), Is (.int .i64 (nl.length : Int)), Is (.pointer (some ⟨rb, 0, none⟩)), Is (.pointer (some ⟨rb, 0, none⟩)), Is (.pointer (some ⟨rb, 3, none⟩)), Is (.slice (some ⟨g2, 0, none⟩) nl.length c2), Is (.pointer (some ⟨g2, 0, none⟩)), Is (.int .u64 y), Is (.int .i64 y), Is (.int .i64 (wordsN y)), Is (.bool (decide ((nl.length : Int) < wordsN y))), Is (.bool (decide ((nl.length : Int) < wordsN y)))]
          (fun _ _ _ => True) (fun _ W => W = W2.drew) (by kernel_rfl) (by kernel_rfl) (by kernel_rfl) ?hst ?h0 ⟨?o0, ?o1, ?o2, ?o3, ?o4, ?o5, ?o6, ?o7, ?o8, ?o9, ?o10, ?o11, ?o12, ?o13, ?o14, trivial⟩ ?he
        case hst =>
          exact ⟨(fun _ _ _ _ _ _ h _ => h), (fun _ _ _ _ _ _ h _ => h), (fun _ _ _ _ _ _ h _ => h), (fun _ _ _ _ _ _ h _ => h), (fun _ _ _ _ _ _ h _ => h), (fun _ _ _ _ _ _ h _ => h), (fun _ _ _ _ _ _ h _ => h), (fun _ _ _ _ _ _ h _ => h), (fun _ _ _ _ _ _ h _ => h), (fun _ _ _ _ _ _ h _ => h), (fun _ _ _ _ _ _ h _ => h), (fun _ _ _ _ _ _ h _ => h), (fun _ _ _ _ _ _ h _ => h), (fun _ _ _ _ _ _ h _ => h), (fun _ _ _ _ _ _ h _ => h), trivial⟩
        case h0 =>
          exact rfl
        case o0 =>
          intro L vs A W H hf hd K hK
          have e0 : A.tmps[0]?.getD undef = .pointer (some ⟨rb, 0, none⟩) := H.old 0 (by kernel_rfl)
          go_simp
          exact hK _ _ (trivial) rfl (H.glob)
        case o1 =>
          intro L vs A W H hf hd K hK
          have e48 := H.is 0 48 rfl rfl rfl (deps_of' hd 0 (by kernel_rfl)) (by kernel_rfl)
          go_simp
          exact hK _ _ (trivial) rfl (H.glob)
        case o2 =>
          intro L vs A W H hf hd K hK
          have e49 := H.is 1 49 rfl rfl rfl (deps_of' hd 1 (by kernel_rfl)) (by kernel_rfl)
          go_simp
          exact hK _ _ (trivial) rfl (H.glob)
        case o3 =>
          intro L vs A W H hf hd K hK
          have e50 := H.is 2 50 rfl rfl rfl (deps_of' hd 2 (by kernel_rfl)) (by kernel_rfl)
          have d : W.cell? ⟨rb, 3, none⟩ = some (.slice (some ⟨g2, 0, none⟩) nl.length c2) := (by rw [H.glob]; exact HC2.out.1)
          go_simp
          exact hK _ _ (trivial) rfl (H.glob)
        case o4 =>
          intro L vs A W H hf hd K hK
          have e51 := H.is 3 51 rfl rfl rfl (deps_of' hd 3 (by kernel_rfl)) (by kernel_rfl)
          go_simp
          exact hK _ _ (trivial) rfl (H.glob)
        case o5 =>
          intro L vs A W H hf hd K hK
          have e0 : A.tmps[0]?.getD undef = .pointer (some ⟨rb, 0, none⟩) := H.old 0 (by kernel_rfl)
          go_simp
          exact hK _ _ (trivial) rfl (H.glob)
        case o6 =>
          intro L vs A W H hf hd K hK
          have e53 := H.is 5 53 rfl rfl rfl (deps_of' hd 5 (by kernel_rfl)) (by kernel_rfl)
          go_simp
          exact hK _ _ (trivial) rfl (H.glob)
        case o7 =>
          intro L vs A W H hf hd K hK
          have e54 := H.is 6 54 rfl rfl rfl (deps_of' hd 6 (by kernel_rfl)) (by kernel_rfl)
          go_simp
          exact hK _ _ (trivial) rfl (H.glob)
        case o8 =>
          intro L vs A W H hf hd K hK
          have e55 := H.is 7 55 rfl rfl rfl (deps_of' hd 7 (by kernel_rfl)) (by kernel_rfl)
          have d : W.cell? ⟨rb, 3, none⟩ = some (.slice (some ⟨g2, 0, none⟩) nl.length c2) := (by rw [H.glob]; exact HC2.out.1)
          go_simp
          exact hK _ _ (trivial) rfl (H.glob)
        case o9 =>
          intro L vs A W H hf hd K hK
          have e56 := H.is 8 56 rfl rfl rfl (deps_of' hd 8 (by kernel_rfl)) (by kernel_rfl)
          go_simp
          exact hK _ _ (trivial) rfl (H.glob)
        case o10 =>
          intro L vs A W H hf hd K hK
          have e57 := H.is 9 57 rfl rfl rfl (deps_of' hd 9 (by kernel_rfl)) (by kernel_rfl)
          have d : W.cell? ⟨g2, 0, none⟩ = some (.int .u64 y) := (by rw [H.glob]; exact HC2.out.2)
          go_simp
          exact hK _ _ (trivial) rfl (H.glob)
        case o11 =>
          intro L vs A W H hf hd K hK
          have e58 := H.is 10 58 rfl rfl rfl (deps_of' hd 10 (by kernel_rfl)) (by kernel_rfl)
          go_simp
          exact hK _ _ (trivial) rfl (H.glob)
        case o12 =>
          intro L vs A W H hf hd K hK
          have e59 := H.is 11 59 rfl rfl rfl (deps_of' hd 11 (by kernel_rfl)) (by kernel_rfl)
          go_simp
          refine (words_n y W).mono ?_
          rintro e w' ⟨rfl, rfl⟩
          go_simp
          exact hK _ _ trivial rfl H.glob
        case o13 =>
          intro L vs A W H hf hd K hK
          have e52 := H.is 4 52 rfl rfl rfl (deps_of' hd 4 (by kernel_rfl)) (by kernel_rfl)
          have e60 := H.is 12 60 rfl rfl rfl (deps_of' hd 12 (by kernel_rfl)) (by kernel_rfl)
          go_simp
          exact hK _ _ (trivial) rfl (H.glob)
        case o14 =>
          intro L vs A W H hf hd K hK
          have e61 := H.is 13 61 rfl rfl rfl (deps_of' hd 13 (by kernel_rfl)) (by kernel_rfl)
          go_simp
          exact hK _ _ (trivial) rfl (H.glob)
        case he =>
          intro vs W hlen hv
          match vs, hlen, hv with
          | [x0_, x1_, x2_, x3_, x4_, x5_, x6_, x7_, x8_, x9_, x10_, x11_, x12_, x13_, x14_], _, hv =>
          obtain rfl : (.pointer (some ⟨rb, 0, none⟩)) = x0_ := by obtain ⟨z, h1, h2⟩ := hv 0 _ rfl; cases h1; exact h2.symm
          obtain rfl : (.pointer (some ⟨rb, 0, none⟩)) = x1_ := by obtain ⟨z, h1, h2⟩ := hv 1 _ rfl; cases h1; exact h2.symm
          obtain rfl : (.pointer (some ⟨rb, 3, none⟩)) = x2_ := by obtain ⟨z, h1, h2⟩ := hv 2 _ rfl; cases h1; exact h2.symm
          obtain rfl : (.slice (some ⟨g2, 0, none⟩) nl.length c2) = x3_ := by obtain ⟨z, h1, h2⟩ := hv 3 _ rfl; cases h1; exact h2.symm
          obtain rfl : (.int .i64 (nl.length : Int)) = x4_ := by obtain ⟨z, h1, h2⟩ := hv 4 _ rfl; cases h1; exact h2.symm
          obtain rfl : (.pointer (some ⟨rb, 0, none⟩)) = x5_ := by obtain ⟨z, h1, h2⟩ := hv 5 _ rfl; cases h1; exact h2.symm
          obtain rfl : (.pointer (some ⟨rb, 0, none⟩)) = x6_ := by obtain ⟨z, h1, h2⟩ := hv 6 _ rfl; cases h1; exact h2.symm
          obtain rfl : (.pointer (some ⟨rb, 3, none⟩)) = x7_ := by obtain ⟨z, h1, h2⟩ := hv 7 _ rfl; cases h1; exact h2.symm
          obtain rfl : (.slice (some ⟨g2, 0, none⟩) nl.length c2) = x8_ := by obtain ⟨z, h1, h2⟩ := hv 8 _ rfl; cases h1; exact h2.symm
          obtain rfl : (.pointer (some ⟨g2, 0, none⟩)) = x9_ := by obtain ⟨z, h1, h2⟩ := hv 9 _ rfl; cases h1; exact h2.symm
          obtain rfl : (.int .u64 y) = x10_ := by obtain ⟨z, h1, h2⟩ := hv 10 _ rfl; cases h1; exact h2.symm
          obtain rfl : (.int .i64 y) = x11_ := by obtain ⟨z, h1, h2⟩ := hv 11 _ rfl; cases h1; exact h2.symm
          obtain rfl : (.int .i64 (wordsN y)) = x12_ := by obtain ⟨z, h1, h2⟩ := hv 12 _ rfl; cases h1; exact h2.symm
          obtain rfl : (.bool (decide ((nl.length : Int) < wordsN y))) = x13_ := by obtain ⟨z, h1, h2⟩ := hv 13 _ rfl; cases h1; exact h2.symm
          obtain rfl : (.bool (decide ((nl.length : Int) < wordsN y))) = x14_ := by obtain ⟨z, h1, h2⟩ := hv 14 _ rfl; cases h1; exact h2.symm
          intro L hall hG
          clear hv hlen
          have HW := hG
          clear hG hall
          subst HW
          simp only [fill, if_true]
        --END
          clear hv
          have HS3 := Lib.hid (show RS W2.drew rb mb a (.slice (some ⟨g2, 0, none⟩) nl.length c2) nl s d bad from ⟨HS.out.blk.drew, HS.out.own.drew⟩)
          have HM3 := Lib.hid (HM2.out.below ((Below.refl _ W2).drew))
          have HK3 := Lib.hid HK2.out.drew
          clear HS HM2 HK2 HC2
          generalize W2.drew = W3 at *
          by_cases hw : (nl.length : Int) < wordsN y
          · have HWW := Lib.hid hw
            rw [decide_eq_true hw]
            simp [Act.put]
            go_wp2_with (fail)
            go_ret2
            refine ⟨?_, ?_, ?_, HK3.out⟩
            · rw [HP.out]; unfold nextP; rw [Hy.out, if_neg (Int.not_lt.2 H120.out), if_pos HWW.out]; rfl
            · rw [HP.out]; unfold nextP; rw [Hy.out, if_neg (Int.not_lt.2 H120.out), if_pos HWW.out]; exact ⟨_, HS3.out⟩
            · rw [HAD.out]; exact HM3.out
          · have HWW := Lib.hid hw
            have HUP := Lib.hid (vunpack_r nl (.slice (some ⟨g2, 0, none⟩) nl.length c2) W3 (by have := Hlen.out; omega) Hu.out (RowAt.of_own HS3.out.own))
            have d3 : W3.cell? ⟨rb, 3, none⟩ = some (.slice (some ⟨g2, 0, none⟩) nl.length c2) := by rw [HS3.out.blk.cell]; rfl
            rw [decide_eq_false hw]
            simp [Act.put]
            go_wp2_with (fail)
            refine HUP.out.mono ?_
            rintro e w4 ⟨rfl, hB4⟩
            have blk4 : Blk w4 rb _ 42 := HS3.out.blk.kept (Keeps.of_below' hB4) (fun h => h)
            have f4 : w4.frozen? ⟨rb, 4, none⟩ = false := blk4.frozen 4
            have d4 : w4.cell? ⟨rb, 4, none⟩ = some (.string s) := by rw [blk4.cell]; rfl
            have k4 : Keeps (fun k => k = rb) W3 (w4.setCell ⟨rb, 4, none⟩ (.string ⟨(UP nl).1.toArray⟩)) := Keeps.setCell (S := fun k => k = rb) (p := ⟨rb, 4, none⟩) (keeps_belowS hB4) (.inl rfl) _
            have HM4 := Lib.hid (HM3.out.kept k4 (fun i hi => by have := HLT.out i hi; omega))
            have HK4 := Lib.hid (HK3.out.trans (k4.mono (fun k _ h => .inr (by omega))))
            have HS4 := Lib.hid (show RS (w4.setCell ⟨rb, 4, none⟩ (.string ⟨(UP nl).1.toArray⟩)) rb mb a (.slice (some ⟨g2, 0, none⟩) nl.length c2) nl ⟨(UP nl).1.toArray⟩ d bad from ⟨blk4.set 4 _, own_keeps HS3.out.own k4 (fun i e => by have := own_base HS3.out.own i e; omega)⟩)
            clear k4 blk4 hB4
            go_wp2_with (fail)
            go_ret2
            refine ⟨?_, ?_, ?_, HK4.out⟩
            · rw [HP.out]; unfold nextP; rw [Hy.out, if_neg (Int.not_lt.2 H120.out), if_neg (Int.not_lt.2 HWW.out)]; rfl
            · rw [HP.out]; unfold nextP; rw [Hy.out, if_neg (Int.not_lt.2 H120.out), if_neg (Int.not_lt.2 HWW.out)]; exact ⟨_, HS4.out⟩
            · rw [HAD.out]; exact HM4.out
    · rw [e0]
      go_wp2_with (fail)
      go_ret2
      refine ⟨?_, ?_, ?_, HKp.out.mono (fun _ _ h => .inl h)⟩
      · show _ = Ending.returned (.tuple #[.bool (loadP vw a l s).1, .int .i64 (loadP vw a l s).2.1])
        unfold loadP adP
        rw [Had.out, e0]
        rfl
      · unfold loadP adP
        rw [Had.out, e0]
        exact ⟨_, blkW, ownW⟩
      · rw [show adP a l = ad from Had.out]; exact HG.out
end Go.Proofs.Ytegamhjfloebgaa
