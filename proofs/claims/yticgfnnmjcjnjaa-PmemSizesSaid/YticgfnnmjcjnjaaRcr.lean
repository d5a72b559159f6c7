/-
  pmem.Mem.Crash: a contract.
-/
import Derived.Test.YticgfnnmjcjnjaaRi
import Derived.Test.YticgfnnmjcjnjaaFi
import Derived.Test.YticgfnnmjcjnjaaLift
import Derived.Test.YticgfnnmjcjnjaaRlm
import Derived.RangeFuncWrites
namespace Go.Proofs.Yticgfnnmjcjnjaa
open Go.RowKit Go.Maps Go.Shelf
attribute [local go_sem] Oper.semAt_some
set_option linter.unusedVariables false

/-- how many of a line's stores a crash keeps at the x-th line -/
def kkN (ks : List Int) (x len : Nat) : Nat := if ks.length = 0 then 0 else (max (ks.getD (x % ks.length) 0) 0).toNat % (len + 1)
def stepQ (F0 : Int → List (Int × Int)) (ks zs : List Int) (q : Int → Nat) (x : Nat) : Int → Nat := fun a => if a = zs.getD x 0 then q a + kkN ks x ((F0 a).length - q a) else q a
def foldQ (F0 : Int → List (Int × Int)) (ks zs : List Int) (pre : List (Fin zs.length)) : Int → Nat := pre.foldl (fun q x => stepQ F0 ks zs q x.val) (fun _ => 0)
theorem foldQ_snoc (F0 : Int → List (Int × Int)) (ks zs : List Int) (pre : List (Fin zs.length)) (x : Fin zs.length) : foldQ F0 ks zs (pre ++ [x]) = stepQ F0 ks zs (foldQ F0 ks zs pre) x.val := by
  unfold foldQ
  rw [List.foldl_append]
  rfl
theorem lastIm_appX (is : List Int) (a b : List (Int × Int)) : lastIm is (a ++ b) = lastIm (lastIm is a) b := by unfold lastIm; rw [List.foldl_append]
/-- a memory of which, since a crash began, so many stores of each line have lasted -/
structure MemX (w : World) (N0 mb : Nat) (vs is : List Int) (vv vi : Value) (ml n : Nat) (lo st fl fe : Int) (is0 : List Int) (F0 : Int → List (Int × Int)) (q : Int → Nat) : Prop where
  c : ∃ D sl mk, MemC w N0 mb vs is vv vi ml n D sl mk (fun a => (F0 a).drop (q a)) lo st fl fe ∧ (∀ a c, 0 ≤ mk a c ∧ mk a c ≤ 1000000)
  l : is.length = is0.length
  e : ∀ k, is.getD k 0 = (lastIm is0 ((F0 (lnW k)).take (q (lnW k)))).getD k 0
  f : LnOk F0 is0.length ∧ ∀ a, (F0 a).length ≤ 1000000
theorem MemX.last {w : World} {N0 mb : Nat} {vs is : List Int} {vv vi : Value} {ml n : Nat} {lo st fl fe : Int} {is0 : List Int} {F0 : Int → List (Int × Int)} {q : Int → Nat} (h : MemX w N0 mb vs is vv vi ml n lo st fl fe is0 F0 q) (hN0 : N0 ≤ w.heap.size) (hni : is0.length ≤ 1000000) (hn : n ≤ 1000000)
    (at_ : Int) (k : Nat) (h0 : 0 ≤ at_) (h1 : at_ ≤ 18446744073709551615) (hk1 : (k : Int) ≤ 9223372036854775807) :
    Calls Try.prog 27 #[.pointer (some ⟨mb, 0, none⟩), .int .u64 at_, .int .i64 k] w fun e w' => (∃ j, e = .returned (.int .i64 j)) ∧ (∃ is', MemX w' N0 mb vs is' vv vi ml (n + 1) lo st fl fe is0 F0 (fun a => if a = at_ then q a + k else q a)) ∧ Keeps (fun i => i = ml ∨ vi.ownBlock = some i ∨ w.heap.size ≤ i) w w' := by
  obtain ⟨⟨D, sl, mk, hc, hm⟩, hl, he, hok, hf⟩ := h
  refine (mlast_v w N0 mb vs is vv vi ml n D sl mk (fun a => (F0 a).drop (q a)) lo st fl fe hc hN0 (by omega) at_ h0 h1 k (by omega) hk1 hn (by rw [List.length_drop]; have := hf at_; omega) (hm at_) (fun p hp => by have := hok at_ p (List.mem_of_mem_drop hp); rw [hl]; exact this.2)).mono ?_
  rintro e w' ⟨he', s', f', D', hc', hf', hk'⟩
  rw [Int.toNat_natCast] at hc' hf'
  have hF : updF (fun a => (F0 a).drop (q a)) at_ (((F0 at_).drop (q at_)).drop k) = fun a => (F0 a).drop (if a = at_ then q a + k else q a) := by
    funext a
    unfold updF
    split
    · rename_i e; rw [e, List.drop_drop]
    · rfl
  rw [hF] at hc'
  refine ⟨⟨_, he'⟩, ⟨_, ⟨⟨D', _, _, hc', fun a c => ?_⟩, (lastIm_len _ _).trans hl, fun i => ?_, hok, hf⟩⟩, hk'⟩
  · by_cases e : a = at_
    · simp only [if_pos e, hf' c]
      split
      · omega
      · have := hm at_ c; omega
    · simp only [if_neg e]; exact hm a c
  · by_cases e : lnW i = at_
    · rw [if_pos e, e, List.take_add, lastIm_appX]
      refine lastIm_congr i _ _ _ (by rw [lastIm_len, hl]) ?_
      have := he i
      rwa [e] at this
    · rw [if_neg e, lastIm_other i _ _ (fun p hp e2 => e (by rw [← e2]; exact hok.word (List.mem_of_mem_drop (List.mem_of_mem_take hp))))]
      exact he i
theorem MemX.keeps {S : Nat → Prop} {w w' : World} {N0 mb : Nat} {vs is : List Int} {vv vi : Value} {ml n : Nat} {lo st fl fe : Int} {is0 : List Int} {F0 : Int → List (Int × Int)} {q : Int → Nat} (h : MemX w N0 mb vs is vv vi ml n lo st fl fe is0 F0 q) (hk : Keeps S w w')
    (hs : ∀ i, (i = mb ∨ i = ml ∨ vv.ownBlock = some i ∨ vi.ownBlock = some i) → ¬ S i) (hr : ∀ i, N0 ≤ i → (∃ cs, w.heap[i]? = some (.cells cs 62 (0, 0))) → ¬ S i) : MemX w' N0 mb vs is vv vi ml n lo st fl fe is0 F0 q := by
  obtain ⟨⟨D, sl, mk, hc, r⟩, u1, u2, u3⟩ := h
  refine ⟨⟨D, sl, mk, ⟨hc.m.kept hk (fun i hi => hs i (by rcases hi with h | h | h; exact .inl h; exact .inr (.inr (.inl h)); exact .inr (.inr (.inr h)))), ownL_keeps hc.o hk (hs ml (.inr (.inl rfl))), hc.e, fun a => (hc.r a).keeps hk (fun i hi => ?_), hc.d, hc.lt, hc.x, hc.xv⟩, r⟩, u1, u2, u3⟩
  refine hr i ((hc.r a).base i hi) ?_
  rcases hc.r a with h | ⟨g, o, cs, e, _, _, hh, _⟩
  · obtain ⟨C, hC⟩ := own_type h hi
    exact ⟨C, hC⟩
  · rw [e] at hi; cases hi
    exact ⟨cs, hh⟩
theorem MemX.mono {w : World} {N0 mb : Nat} {vs is : List Int} {vv vi : Value} {ml n n' : Nat} {lo st fl fe : Int} {is0 : List Int} {F0 : Int → List (Int × Int)} {q q' : Int → Nat} (h : MemX w N0 mb vs is vv vi ml n lo st fl fe is0 F0 q) (hn : n ≤ n') (hq : q = q') : MemX w N0 mb vs is vv vi ml n' lo st fl fe is0 F0 q' := by
  subst hq
  obtain ⟨⟨D, sl, mk, hc, r⟩, u1, u2, u3⟩ := h
  exact ⟨⟨D, sl, mk, ⟨hc.m, hc.o.mono hn, hc.e, hc.r, hc.d, hc.lt, hc.x, hc.xv⟩, r⟩, u1, u2, u3⟩
theorem MemX.lt {w : World} {N0 mb : Nat} {vs is : List Int} {vv vi : Value} {ml n : Nat} {lo st fl fe : Int} {is0 : List Int} {F0 : Int → List (Int × Int)} {q : Int → Nat} (h : MemX w N0 mb vs is vv vi ml n lo st fl fe is0 F0 q) : ∀ i, i = mb ∨ i = ml ∨ vv.ownBlock = some i ∨ vi.ownBlock = some i → i < N0 := by
  obtain ⟨⟨D, sl, mk, hc, r⟩, hu⟩ := h
  exact hc.lt
/-- what stays through a crash's rounds -/
structure CrI (w2 : World) (N0 mb : Nat) (vs : List Int) (vv vi : Value) (ml n : Nat) (lo st fl fe : Int) (pb kb : Nat) (p : Option Addr) (cK : Nat) (ks : List Int) (is0 : List Int) (F0 : Int → List (Int × Int)) (zs : List Int) (pre : List (Fin zs.length)) (W : World) : Prop where
  m : ∃ is', MemX W N0 mb vs is' vv vi ml (n + pre.length) lo st fl fe is0 F0 (foldQ F0 ks zs pre)
  pb : Blk W pb #[.pointer (some ⟨mb, 0, none⟩)] 22
  kb : Blk W kb #[.slice p ks.length cK] 66
  ka : 0 < ks.length → ∃ g o, p = some ⟨g, o, none⟩ ∧ g < w2.heap.size ∧ g ≠ ml ∧ vi.ownBlock ≠ some g ∧ ∀ i, i < ks.length → W.cell? ⟨g, o + i, none⟩ = some (.int .i64 (ks.getD i 0))
  sz : w2.heap.size ≤ W.heap.size
  kp : Keeps (fun i => i = ml ∨ vi.ownBlock = some i ∨ w2.heap.size ≤ i) w2 W
/-! ### the region that clones the image -/
structure OC (W0 : World) (mb ml : Nat) (vv u : Value) (l : List Int) (lo st fl fe : Int) (L : Nat → Bool) (W : World) : Prop where
  un : L 8 = false → Blk W mb (memCells vv u ml lo st fl fe) 46
  e : L 8 = true → ∃ v, Blk W mb (memCells v u ml lo st fl fe) 46 ∧ W.ownsRow W0.heap.size 35 1 v l.length (l.map (Value.int .u64))
  kp : Keeps (fun i => i = mb) W0 W
section
variable {W0 W W' : World} {mb ml : Nat} {vv u : Value} {l : List Int} {lo st fl fe : Int} {L L' : Nat → Bool}
theorem OC.start (hb : Blk W0 mb (memCells vv u ml lo st fl fe) 46) : OC W0 mb ml vv u l lo st fl fe (fun _ => false) W0.drew := ⟨fun _ => hb.drew, (by simp), (Keeps.refl _ _).drew⟩
theorem OC.keep (h : OC W0 mb ml vv u l lo st fl fe L W) (h8 : L' 8 = L 8) : OC W0 mb ml vv u l lo st fl fe L' W := ⟨by rw [h8]; exact h.un, by rw [h8]; exact h.e, h.kp⟩
theorem OC.cloned (h : OC W0 mb ml vv u l lo st fl fe L W) (hf : L 8 = false) (hb : Below W.heap.size W W') (hm : mb < W0.heap.size) : OC W0 mb ml vv u l lo st fl fe (lset L 5) W' := by
  refine ⟨fun _ => ?_, fun e => ?_, h.kp.trans (keeps_belowS hb)⟩
  · unfold Blk; rw [hb.block mb (by have := h.kp.size; omega)]; exact h.un hf
  · rw [show lset L 5 8 = L 8 from rfl, hf] at e; cases e
theorem OC.s8 (h : OC W0 mb ml vv u l lo st fl fe L W) (hf : L 8 = false) {v : Value} (ho : W.ownsRow W0.heap.size 35 1 v l.length (l.map (Value.int .u64))) (hm : mb < W0.heap.size) : OC W0 mb ml vv u l lo st fl fe (lset L 8) (W.setCell ⟨mb, 0, none⟩ v) := by
  refine ⟨(fun e => by cases e), fun _ => ⟨v, (h.un hf).set 0 v, ownsRow_setCell_below ho (a := ⟨mb, 0, none⟩) hm v⟩, h.kp.setCell (p := ⟨mb, 0, none⟩) (.inl rfl) _⟩
end
theorem own_clear {w : World} {ml n : Nat} {D : DataW Value} (h : OwnL w ml n D) : ∃ w', (∀ ty, (Builtin.clear_ #[42] ty #[.map (some ml)]).run Try.prog w = .ok (.tuple #[]) w') ∧ OwnL w' ml 0 (.map []) ∧ w.grownBy w' (some ml) := by
  obtain ⟨es, clock, hb, F, hs, rfl⟩ := h
  have hset := fun c => Go.ChangeMaps.heap_setBlock_same hb (.map #[] c)
  refine ⟨_, fun ty => by simp [Builtin.clear_, run_underlying Try.underlying42, MapKept.run_getObj_map hb, MapKept.run_setObj_map _ hb, Result.andThen]; rfl, ⟨#[], clock, hset clock, ⟨by simp, Go.MapKept.stamped_empty clock, by simp⟩, Nat.le_refl _, rfl⟩, ⟨rfl, rfl, rfl, by simp [Go.ChangeMaps.setBlock], fun i _ hi => Go.ChangeMaps.heap_setBlock_other hb _ (fun e => hi (by rw [e]))⟩⟩
/-- what a crash leaves -/
def CrashX (w : World) (mb : Nat) (is : List Int) (F0 : Int → List (Int × Int)) (ks : List Int) (vi : Value) (ml : Nat) (lo st fl fe : Int) (e : Ending) (w' : World) : Prop :=
  e = .returned (.tuple #[]) ∧ ∃ isF vvF xs, KeysF F0 xs ∧ isF.length = is.length ∧ (∀ k, isF.getD k 0 = (lastIm is ((F0 (lnW k)).take (foldQ F0 ks (srt xs) (List.finRange (srt xs).length) (lnW k)))).getD k 0) ∧
    MemB w' mb isF isF vvF vi ml lo st fl fe ∧ OwnL w' ml 0 (.map []) ∧ (∀ i, vvF.ownBlock = some i → w.heap.size ≤ i) ∧ Keeps (fun i => i = mb ∨ i = ml ∨ vi.ownBlock = some i ∨ w.heap.size ≤ i) w w'
set_option maxRecDepth 100000 in
set_option maxHeartbeats 40000000 in
theorem crash_x (w : World) (N0 mb : Nat) (vs is : List Int) (vv vi : Value) (ml n : Nat) (D : DataW Value) (sl : Int → Value) (mk : Int → Nat → Int) (F0 : Int → List (Int × Int)) (lo st fl fe : Int) (hc : MemC w N0 mb vs is vv vi ml n D sl mk F0 lo st fl fe)
    (hmk : ∀ a c, 0 ≤ mk a c ∧ mk a c ≤ 1000000) (hok : LnOk F0 is.length) (hF : ∀ a, (F0 a).length ≤ 1000000) (hh : ∀ a, Maps.has D (.int .u64 a) = true → F0 a ≠ []) (hN0 : N0 ≤ w.heap.size) (hp : 0 < vs.length) (hni : is.length ≤ 1000000) (hn : n ≤ 1000)
    (p : Option Addr) (cK : Nat) (ks : List Int) (hks : ks.length ≤ 1000) (hk64 : ∀ x ∈ ks, -9223372036854775808 ≤ x ∧ x ≤ 9223372036854775807)
    (hkat : 0 < ks.length → ∃ g o, p = some ⟨g, o, none⟩ ∧ g < w.heap.size ∧ g ≠ ml ∧ vi.ownBlock ≠ some g ∧ ∀ i, i < ks.length → w.cell? ⟨g, o + i, none⟩ = some (.int .i64 (ks.getD i 0))) :
    CallsIn Fence.wide 9 Try.prog 17 #[.pointer (some ⟨mb, 0, none⟩), .slice p ks.length cK] w (CrashX w mb is F0 ks vi ml lo st fl fe) := by
  have h : MemX w N0 mb vs is vv vi ml n lo st fl fe is F0 (fun _ => 0) := ⟨⟨D, sl, mk, by simpa using hc, hmk⟩, rfl, fun k => by simp [lastIm], hok, hF⟩
  refine callsIn_of_wp_marks Try.func17 rfl trivial ?_ rfl
  simp only [Try.ntmps17, List.size_toArray, List.length_cons, List.length_nil, Nat.reduceAdd, Nat.reduceSub, Array.replicate_succ, Array.replicate_zero, List.push_toArray, List.append_toArray, List.nil_append, List.cons_append]
  have hW1 : Below w.heap.size w ((w.alloc (.cells #[.pointer (some ⟨mb, 0, none⟩)] 22)).alloc (.cells #[.slice p ks.length cK] 66)) := ((Below.refl _ _).alloc (Nat.le_refl _) _).alloc (by simp) _
  have HTh := Lib.hid (mthere_v _ mb vs is vv vi ml lo st fl fe (hc.m.below hW1) hp)
  have HRi := Lib.hid (rising_v _ mb ml n D (by omega) ((hc.m.below hW1).c 2) (ownL_keeps hc.o (Keeps.of_below' hW1) (fun h => h)))
  have HH := Lib.hid h
  have HCk := Lib.hid hc
  have HHas := Lib.hid hh
  have HKa := Lib.hid hkat
  have HW1 := Lib.hid hW1
  clear h hkat hc hW1 hmk hok hF hh
  gi_wp2_with (first
    | (refine ⟨trivial, ?_⟩; gi_at_call 18; refine (callsIn_wide.2 HTh.out).mono ?_; rintro e w' ⟨rfl, rfl⟩)
    | (refine ⟨trivial, ?_⟩; gi_at_call 20; refine (callsIn_wide.2 HRi.out).mono ?_; rintro e w' ⟨b, g, v, xs, rfl, hks, hxl, hbv, hrg, hg0, hb0, hB⟩))
  have hxl2 : (srt xs).length ≤ n := by rw [srt_len]; exact hxl
  have HKs := Lib.hid hks
  obtain ⟨zs, hzs⟩ : ∃ zs, srt xs = zs := ⟨_, rfl⟩
  rw [hzs] at hrg hxl2
  have HZs := Lib.hid hzs
  have HI0 := Lib.hid (show CrI w' N0 mb vs vv vi ml n lo st fl fe w.heap.size (w.heap.size + 1) p cK ks is F0 zs [] w' from by
    have hBw : Below w.heap.size w w' := HW1.out.trans (hB.mono HW1.out.size)
    refine ⟨⟨is, HH.out.keeps (Keeps.of_below' hBw) (fun _ _ h => h) (fun _ _ _ h => h)⟩, ?_, ?_, fun h0 => ?_, Nat.le_refl _, Keeps.refl _ _⟩
    · exact ((Blk.new w #[.pointer (some ⟨mb, 0, none⟩)] 22).alloc _).kept (Keeps.of_below' hB) (fun h => h)
    · have := Blk.new (w.alloc (.cells #[.pointer (some ⟨mb, 0, none⟩)] 22)) #[.slice p ks.length cK] 66
      rw [show (w.alloc (.cells #[.pointer (some ⟨mb, 0, none⟩)] 22)).heap.size = w.heap.size + 1 by simp] at this
      exact this.kept (Keeps.of_below' hB) (fun h => h)
    · obtain ⟨g9, o9, e9, h1, h2, h3, h4⟩ := HKa.out h0
      exact ⟨g9, o9, e9, Nat.lt_of_lt_of_le h1 hBw.size, h2, h3, fun i hi => (hBw.cell (p := ⟨g9, o9 + i, none⟩) h1).trans (h4 i hi)⟩)
  have hsz1 : w.heap.size + 2 ≤ w'.heap.size := by have := hB.size; simp at this; omega
  have hgl : g < w'.heap.size := hrg.lt
  have hg2 : w.heap.size + 2 ≤ g := by simp at hg0; omega
  clear hks hxl hg0 hb0 hzs
  refine wpIn_rangeFunc_ownG rfl (by omega) (gf := 33) (lb := #[.pointer (some ⟨b, 0, none⟩)]) (by simp [Act.eval]) trivial (enters_of Try.func33 (by kernel_rfl) rfl)
    (all_stops 8 (by omega) v zs b g w' (by omega) hbv hrg) kpG_t (kpG_b hgl) (Below.refl _ _) (fun _ => rfl)
    (fun pre W => CrI w' N0 mb vs vv vi ml n lo st fl fe w.heap.size (w.heap.size + 1) p cK ks is F0 zs pre W)
    (fun _ _ _ => False)
    (fun s A B row hs hg hr => by
      have hk : Keeps (fun i => row = some i) A B := (Keeps.refl _ A).grown hg (fun k e => .inl e)
      obtain ⟨⟨is', hm⟩, h1, h2, h3, h4, h5⟩ := hs
      refine ⟨⟨is', hm.keeps hk (fun i hi e => by have := hm.lt i hi; have := (hr i e).1; omega) (fun i hi ⟨cs, hcs⟩ e => by obtain ⟨_, o, ho, hc⟩ := hr i e; rw [hcs] at ho; cases ho; cases hc)⟩, h1.kept hk (fun e => by have := (hr _ e).1; omega), h2.kept hk (fun e => by have := (hr _ e).1; omega), fun h0 => ?_, Nat.le_trans h4 hg.size, h5.trans (hk.mono (fun i _ e => .inr (.inr (hr i e).1)))⟩
      obtain ⟨g9, o9, e9, q1, q2, q3, q4⟩ := h3 h0
      exact ⟨g9, o9, e9, q1, q2, q3, fun i hi => (hk.cell (p := ⟨g9, o9 + i, none⟩) (Nat.lt_of_lt_of_le q1 h4) (fun e => by have := (hr _ e).1; simp at this; omega)).trans (q4 i hi)⟩)
    (fun _ _ _ _ _ hs _ _ => hs)
    HI0.out
    (fun x => { tmps := #[.pointer (some ⟨mb, 0, none⟩), .slice p ks.length cK, .pointer (some ⟨w.heap.size, 0, none⟩), .pointer (some ⟨w.heap.size + 1, 0, none⟩), .int .i64 x.val, .int .u64 (zs.getD x.val 0), .pointer (some ⟨mb, 0, none⟩), .bool true, .bool false, .pointer (some ⟨mb, 0, none⟩), .func (.func 33) #[] #[.pointer (some ⟨b, 0, none⟩)], .int .i64 x.val, .int .u64 (zs.getD x.val 0), undef, undef, undef, undef, undef, undef, undef, undef, undef, undef, undef, undef, undef, undef, undef, undef, undef, undef, undef, undef, undef, undef, undef, undef, undef, undef, undef, undef, undef, undef, undef, undef, undef, undef, undef, undef], defers := [] }) ?assign ?body ?done ?stop
  case assign =>
    intro l x W K hK
    revert hK
    dsimp only [encP]
    generalize zs.getD x.val 0 = z
    intro hK
    simp
    gi_wp2
    exact hK
  case body =>
    rintro l2 pre x Wb hI hlen
    obtain ⟨⟨is', hm⟩, hpb, hkb, hka, hsz, hkp⟩ := hI
    obtain ⟨xi, hxi⟩ : ∃ xi : Int, (x.val : Int) = xi := ⟨_, rfl⟩
    obtain ⟨at_, hat⟩ : ∃ a, zs.getD x.val 0 = a := ⟨_, rfl⟩
    have hxlt := x.isLt
    have hatw : 0 ≤ at_ ∧ at_ ≤ 18446744073709551615 := by
      have hmem : at_ ∈ srt xs := by rw [HZs.out, ← hat, List.getD_eq_getElem?_getD, List.getElem?_eq_getElem hxlt]; exact List.getElem_mem _
      exact u64_bounds (HKs.out.2.2 at_ ((srt_mem xs at_).1 hmem))
    dsimp only
    rw [hxi, hat]
    obtain ⟨pb, hpb0⟩ : ∃ pb, w.heap.size = pb := ⟨_, rfl⟩
    obtain ⟨kb, hkb0⟩ : ∃ kb, w.heap.size + 1 = kb := ⟨_, rfl⟩
    rw [hkb0] at hkb ⊢
    rw [hpb0] at hpb ⊢
    have d3 : Wb.cell? ⟨kb, 0, none⟩ = some (.slice p ks.length cK) := hkb.cell 0
    have d2 : Wb.cell? ⟨pb, 0, none⟩ = some (.pointer (some ⟨mb, 0, none⟩)) := hpb.cell 0
    by_cases hz : ks.length = 0
    · have hz2 : ¬ (0 : Int) < (ks.length : Int) := by omega
      have HGoal := Lib.hid (show CrI w' N0 mb vs vv vi ml n lo st fl fe pb kb p cK ks is F0 zs (pre ++ [x]) Wb from ⟨⟨is', hm.mono (by rw [List.length_append]; omega) (by rw [foldQ_snoc]; funext a; unfold stepQ kkN; rw [if_pos hz]; simp)⟩, hpb, hkb, hka, hsz, hkp⟩)
      clear hm hpb hkb hka hkp
      gi_wp2_with (fail)
      exact ⟨KeepsFrom.refl _ _, ⟨Nat.le_refl _, fun _ => rfl⟩, HGoal.out⟩
    · have hz2 : (0 : Int) < (ks.length : Int) := by omega
      obtain ⟨gk, ok, rfl, hk1, hk2, hk3, hk4⟩ := hka (by omega)
      obtain ⟨nk, hnk⟩ : ∃ nk, ks.length = nk := ⟨_, rfl⟩
      rw [hnk] at d3 hz2 hk4 hkb hks ⊢
      have hxi0 : 0 ≤ xi := by omega
      obtain ⟨q, hq⟩ : ∃ q : Nat, xi.tmod nk = (q : Int) := ⟨(xi.tmod nk).toNat, by have := Int.tmod_nonneg (nk : Int) hxi0; omega⟩
      have hqn : q < nk := by have := Int.tmod_lt_of_pos xi hz2; omega
      have HQ := Lib.hid (show xi.tmod nk = (q : Int) ∧ ¬ nk = 0 ∧ (q : Int) < (nk : Int) from ⟨hq, by omega, by omega⟩)
      obtain ⟨kv, hkv⟩ : ∃ kv, ks.getD q 0 = kv := ⟨_, rfl⟩
      have hkr : -9223372036854775808 ≤ kv ∧ kv ≤ 9223372036854775807 := by
        rw [← hkv, List.getD_eq_getElem?_getD, List.getElem?_eq_getElem (by omega)]
        exact hk64 _ (List.getElem_mem _)
      obtain ⟨mx, hmx⟩ : ∃ mx, max kv 0 = mx := ⟨_, rfl⟩
      have HMx := Lib.hid (show (if kv ≤ 0 then 0 else kv) = mx ∧ (if 0 ≤ kv then kv else 0) = mx ∧ (if kv < 0 then 0 else kv) = mx ∧ (if 0 < kv then kv else 0) = mx ∧ max kv 0 = mx from ⟨by rw [← hmx]; split <;> omega, by rw [← hmx]; split <;> omega, by rw [← hmx]; split <;> omega, by rw [← hmx]; split <;> omega, hmx⟩)
      obtain ⟨D2, sl2, mk2, hc2, _⟩ := hm.c
      have hf2 := hm.f
      obtain ⟨a9, c9, hform, hlc9, _⟩ := (hc2.r at_).form
      have hl9m := hf2.2 at_
      obtain ⟨l9, hl9⟩ : ∃ l9, ((F0 at_).drop (foldQ F0 ks zs pre at_)).length = l9 := ⟨_, rfl⟩
      have hl9b : l9 = (F0 at_).length - foldQ F0 ks zs pre at_ := by rw [← hl9, List.length_drop]
      obtain ⟨f9, hf9⟩ : ∃ f9, mk2 at_ = f9 := ⟨_, rfl⟩
      have hE := hc2.e at_
      rw [hform, hl9, hf9] at hE
      have hdr : Below Wb.heap.size Wb Wb.drew := (Below.refl _ _).drew
      have HFl := Lib.hid (lnCells_0 (.slice a9 l9 c9) f9)
      obtain ⟨kk, hkk⟩ : ∃ kk, mx.tmod ((l9 : Int) + 1) = kk := ⟨_, rfl⟩
      have hkk0 : 0 ≤ kk ∧ kk ≤ 9223372036854775807 := by
        have h1 := Int.tmod_nonneg ((l9 : Int) + 1) (show 0 ≤ mx by omega)
        have h2 := Int.tmod_lt_of_pos mx (show (0 : Int) < (l9 : Int) + 1 by omega)
        omega
      have HRm := Lib.hid (show IntKind.i64.wrap ((l9 : Int) + 1) = (l9 : Int) + 1 ∧ mx.tmod ((l9 : Int) + 1) = kk ∧ ¬ (l9 : Int) + 1 = 0 from ⟨IntWalk.i64_in _ (by omega), hkk, by omega⟩)
      have HC := Lib.hid (show Wb.drew.cell? ⟨pb, 0, none⟩ = some (.pointer (some ⟨mb, 0, none⟩)) ∧ Wb.drew.cell? ⟨kb, 0, none⟩ = some (.slice (some ⟨gk, ok, none⟩) nk cK) ∧ Wb.drew.cell? ⟨gk, ok + q, none⟩ = some (.int .i64 kv) ∧ Wb.drew.cell? ⟨mb, 2, none⟩ = some (.map (some ml)) ∧ (Instr.lookup 42 (.map (some ml)) (.int .u64 at_) false).run Try.prog Wb.drew = .ok (.agg (lnCells (.slice a9 l9 c9) f9)) Wb.drew from
        ⟨d2, d3, by rw [← hkv]; exact hk4 q hqn, hc2.m.c 2, own_look (hc2.o.drew) at_ hatw.1 hatw.2 hE⟩)
      have hmd : MemX Wb.drew N0 mb vs is' vv vi ml (n + pre.length) lo st fl fe is F0 (foldQ F0 ks zs pre) := hm.keeps (Keeps.of_below' hdr) (fun _ _ h => h) (fun _ _ _ h => h)
      obtain ⟨PoW, hPoW⟩ : ∃ P : World → Prop, P = fun W' => KeepsFrom w'.heap.size Wb W' ∧ KpG g Wb W' ∧ CrI w' N0 mb vs vv vi ml n lo st fl fe pb kb (some ⟨gk, ok, none⟩) cK ks is F0 zs (pre ++ [x]) W' := ⟨_, rfl⟩
      have HLa := Lib.hid (show Calls Try.prog 27 #[.pointer (some ⟨mb, 0, none⟩), .int .u64 at_, .int .i64 kk] Wb.drew fun e W' => ∃ j9, e = .returned (.int .i64 j9) ∧ PoW W' from by
        obtain ⟨kn, hkn⟩ : ∃ kn : Nat, kk = (kn : Int) := ⟨kk.toNat, by omega⟩
        have hkN : kn = kkN ks x.val l9 := by
          have e1 : q = x.val % nk := by
            have h1 := hq
            rw [← hxi, Int.tmod_eq_emod_of_nonneg (by omega)] at h1
            omega
          have e2 : mx.tmod ((l9 : Int) + 1) = mx % ((l9 : Int) + 1) := Int.tmod_eq_emod_of_nonneg (by omega)
          rw [hkn, e2] at hkk
          unfold kkN
          rw [if_neg (by omega), hnk, ← e1, hkv, hmx]
          have h3 : (mx.toNat : Int) = mx := by omega
          have h4 : ((mx.toNat % (l9 + 1) : Nat) : Int) = mx % ((l9 : Int) + 1) := by rw [Int.natCast_emod, h3]; rfl
          omega
        rw [hkn]
        refine (hmd.last (by have := hsz; show N0 ≤ Wb.heap.size; omega) hni (by omega) at_ kn hatw.1 hatw.2 (by omega)).mono ?_
        rintro e W' ⟨⟨j9, rfl⟩, ⟨is2, hm2⟩, hk9⟩
        have hQ : (fun a => if a = at_ then foldQ F0 ks zs pre a + kn else foldQ F0 ks zs pre a) = foldQ F0 ks zs (pre ++ [x]) := by
          rw [foldQ_snoc]
          funext a
          unfold stepQ
          rw [hat]
          split
          · rename_i e
            rw [e, hkN, hl9b]
          · rfl
        refine ⟨j9, rfl, ?_⟩
        have hlt := hm.lt
        have hk : Keeps (fun i => i = ml ∨ vi.ownBlock = some i ∨ Wb.heap.size ≤ i) Wb W' := ((Keeps.refl _ Wb).drew).trans hk9
        have hvc : ∀ i, vi.ownBlock = some i → ∃ C : Array Value, Wb.heap[i]? = some (.cells C 35 (0, 0)) := fun i hi => own_type hc2.m.i hi
        have hkb2 := hkb
        rw [← hnk] at hkb2
        rw [hPoW]
        refine ⟨⟨hk.size, fun i o hB ho hc => ?_⟩, ⟨hk.size, fun hg9 => ?_⟩, ⟨⟨is2, hm2.mono (by rw [List.length_append]; simp; omega) hQ⟩, hpb.kept hk ?_, hkb2.kept hk ?_, fun h0 => ⟨gk, ok, rfl, hk1, hk2, hk3, fun i hi => ?_⟩, Nat.le_trans hsz hk.size, hkp.trans (hk.mono (fun i _ h => ?_))⟩⟩
        · rw [hk.block i (Array.getElem?_eq_some_iff.1 ho).1 ?_]
          · exact ho
          · have hi := (Array.getElem?_eq_some_iff.1 ho).1
            rintro (h | h | h)
            · have := hlt i (.inr (.inl h)); omega
            · obtain ⟨C, hC⟩ := hvc i h
              rw [hC] at ho; cases ho; cases hc
            · omega
        · exact hk.block g hg9 (by
            rintro (h | h | h)
            · have := hlt g (.inr (.inl h)); omega
            · have := hlt g (.inr (.inr (.inr h))); omega
            · omega)
        · rintro (h | h | h)
          · have := hlt pb (.inr (.inl h)); omega
          · have := hlt pb (.inr (.inr (.inr h))); omega
          · have := hpb.lt; omega
        · rintro (h | h | h)
          · have := hlt kb (.inr (.inl h)); omega
          · have := hlt kb (.inr (.inr (.inr h))); omega
          · have := hkb.lt; omega
        · exact (hk.cell (p := ⟨gk, ok + i, none⟩) (Nat.lt_of_lt_of_le hk1 hsz) (by
            rintro (h | h | h)
            · exact hk2 h
            · exact hk3 h
            · have : gk < Wb.heap.size := Nat.lt_of_lt_of_le hk1 hsz
              exact absurd h (by simp; omega))).trans (hk4 i (by rw [← hnk]; exact hi))
        · rcases h with h | h | h
          · exact .inl h
          · exact .inr (.inl h)
          · exact .inr (.inr (Nat.le_trans hsz h)))
      have HPo := Lib.hid hPoW
      clear hm hpb hkb hkp hk4 hc2 hf2 hl9b hform hE hmd hPoW hq hkv hmx hkk hl9 hf9 d2
      gi_wp2_with (fail)
      --GEN r_cr6
      refine wpIn_region_valsA [Is (.pointer (some ⟨mb, 0, none⟩)), Is (.int .u64 at_), Is (.slice (some ⟨gk, ok, none⟩) nk cK), Is (.int .i64 xi), Is (.slice (some ⟨gk, ok, none⟩) nk cK), Is (.int .i64 (nk : Int)), Is (.int .i64 (q : Int)), Is (.pointer (some ⟨gk, ok + q, none⟩)), Is (.int .i64 kv), Is (.int .i64 mx), Is (.pointer (some ⟨mb, 0, none⟩)), Is (.pointer (some ⟨mb, 0, none⟩)), Is (.pointer (some ⟨mb, 2, none⟩)), Is (.map (some ml)), Is (.int .u64 at_), Is (.agg (lnCells (.slice a9 l9 c9) f9)), Is (.slice a9 l9 c9), Is (.int .i64 (l9 : Int)), Is (.int .i64 ((l9 : Int) + 1)), Is (.int .i64 kk), Any]
        (fun _ _ _ => True) (fun L _ W => (L 20 = false → W = Wb.drew) ∧ (L 20 = true → PoW W)) (by kernel_rfl) (by kernel_rfl) (by kernel_rfl) (by kernel_rfl) (by kernel_rfl) ?hst ?h0 ⟨?o0, ?o1, ?o2, ?o3, ?o4, ?o5, ?o6, ?o7, ?o8, ?o9, ?o10, ?o11, ?o12, ?o13, ?o14, ?o15, ?o16, ?o17, ?o18, ?o19, ?o20, trivial⟩ ?he
      case hst =>
        exact ⟨(fun _ _ _ _ _ _ h _ => h), (fun _ _ _ _ _ _ h _ => h), (fun _ _ _ _ _ _ h _ => h), (fun _ _ _ _ _ _ h _ => h), (fun _ _ _ _ _ _ h _ => h), (fun _ _ _ _ _ _ h _ => h), (fun _ _ _ _ _ _ h _ => h), (fun _ _ _ _ _ _ h _ => h), (fun _ _ _ _ _ _ h _ => h), (fun _ _ _ _ _ _ h _ => h), (fun _ _ _ _ _ _ h _ => h), (fun _ _ _ _ _ _ h _ => h), (fun _ _ _ _ _ _ h _ => h), (fun _ _ _ _ _ _ h _ => h), (fun _ _ _ _ _ _ h _ => h), (fun _ _ _ _ _ _ h _ => h), (fun _ _ _ _ _ _ h _ => h), (fun _ _ _ _ _ _ h _ => h), (fun _ _ _ _ _ _ h _ => h), (fun _ _ _ _ _ _ h _ => h), (fun _ _ _ _ _ _ h _ => h), trivial⟩
      case h0 =>
        exact ⟨fun _ => rfl, fun e => by cases e⟩
      case o0 =>
        intro L vs A W H hf hd K hK
        have e2 : A.tmps[2]?.getD undef = .pointer (some ⟨pb, 0, none⟩) := H.old 2 (by kernel_rfl)
        have n20 := H.notYet 20 0 rfl hf (by kernel_rfl)
        have d : W.cell? ⟨pb, 0, none⟩ = some (.pointer (some ⟨mb, 0, none⟩)) := (by rw [H.glob.1 n20]; exact HC.out.1)
        go_simp
        exact hK _ _ (trivial) rfl (H.glob)
      case o1 =>
        intro L vs A W H hf hd K hK
        have e5 : A.tmps[5]?.getD undef = .int .u64 at_ := H.old 5 (by kernel_rfl)
        go_simp
        exact hK _ _ (trivial) rfl (H.glob)
      case o2 =>
        intro L vs A W H hf hd K hK
        have e3 : A.tmps[3]?.getD undef = .pointer (some ⟨kb, 0, none⟩) := H.old 3 (by kernel_rfl)
        have n7 := H.notYet 7 2 rfl hf (by kernel_rfl)
        have n8 := H.notYet 8 7 rfl n7 (by kernel_rfl)
        have n9 := H.notYet 9 8 rfl n8 (by kernel_rfl)
        have n19 := H.notYet 19 9 rfl n9 (by kernel_rfl)
        have n20 := H.notYet 20 19 rfl n19 (by kernel_rfl)
        have d : W.cell? ⟨kb, 0, none⟩ = some (.slice (some ⟨gk, ok, none⟩) nk cK) := (by rw [H.glob.1 n20]; exact HC.out.2.1)
        go_simp
        exact hK _ _ (trivial) rfl (H.glob)
      case o3 =>
        intro L vs A W H hf hd K hK
        have e4 : A.tmps[4]?.getD undef = .int .i64 xi := H.old 4 (by kernel_rfl)
        go_simp
        exact hK _ _ (trivial) rfl (H.glob)
      case o4 =>
        intro L vs A W H hf hd K hK
        have e3 : A.tmps[3]?.getD undef = .pointer (some ⟨kb, 0, none⟩) := H.old 3 (by kernel_rfl)
        have n5 := H.notYet 5 4 rfl hf (by kernel_rfl)
        have n6 := H.notYet 6 5 rfl n5 (by kernel_rfl)
        have n7 := H.notYet 7 6 rfl n6 (by kernel_rfl)
        have n8 := H.notYet 8 7 rfl n7 (by kernel_rfl)
        have n9 := H.notYet 9 8 rfl n8 (by kernel_rfl)
        have n19 := H.notYet 19 9 rfl n9 (by kernel_rfl)
        have n20 := H.notYet 20 19 rfl n19 (by kernel_rfl)
        have d : W.cell? ⟨kb, 0, none⟩ = some (.slice (some ⟨gk, ok, none⟩) nk cK) := (by rw [H.glob.1 n20]; exact HC.out.2.1)
        go_simp
        exact hK _ _ (trivial) rfl (H.glob)
      case o5 =>
        intro L vs A W H hf hd K hK
        have e20 := H.is 4 20 rfl rfl rfl (deps_of' hd 4 (by kernel_rfl)) (by kernel_rfl)
        go_simp
        exact hK _ _ (trivial) rfl (H.glob)
      case o6 =>
        intro L vs A W H hf hd K hK
        have e19 := H.is 3 19 rfl rfl rfl (deps_of' hd 3 (by kernel_rfl)) (by kernel_rfl)
        have e21 := H.is 5 21 rfl rfl rfl (deps_of' hd 5 (by kernel_rfl)) (by kernel_rfl)
        have hq := HQ.out.1
        have hnz := HQ.out.2.1
        go_simp
        exact hK _ _ (trivial) rfl (H.glob)
      case o7 =>
        intro L vs A W H hf hd K hK
        have e18 := H.is 2 18 rfl rfl rfl (deps_of' hd 2 (by kernel_rfl)) (by kernel_rfl)
        have e22 := H.is 6 22 rfl rfl rfl (deps_of' hd 6 (by kernel_rfl)) (by kernel_rfl)
        have hqn := HQ.out.2.2
        go_simp
        exact hK _ _ (trivial) rfl (H.glob)
      case o8 =>
        intro L vs A W H hf hd K hK
        have e23 := H.is 7 23 rfl rfl rfl (deps_of' hd 7 (by kernel_rfl)) (by kernel_rfl)
        have n9 := H.notYet 9 8 rfl hf (by kernel_rfl)
        have n19 := H.notYet 19 9 rfl n9 (by kernel_rfl)
        have n20 := H.notYet 20 19 rfl n19 (by kernel_rfl)
        have d : W.cell? ⟨gk, ok + q, none⟩ = some (.int .i64 kv) := (by rw [H.glob.1 n20]; exact HC.out.2.2.1)
        go_simp
        exact hK _ _ (trivial) rfl (H.glob)
      case o9 =>
        intro L vs A W H hf hd K hK
        have e24 := H.is 8 24 rfl rfl rfl (deps_of' hd 8 (by kernel_rfl)) (by kernel_rfl)
        have hx1 := HMx.out.1
        have hx2 := HMx.out.2.1
        have hx3 := HMx.out.2.2.1
        have hx4 := HMx.out.2.2.2.1
        have hx5 := HMx.out.2.2.2.2
        go_simp
        exact hK _ _ (trivial) rfl (H.glob)
      case o10 =>
        intro L vs A W H hf hd K hK
        have e2 : A.tmps[2]?.getD undef = .pointer (some ⟨pb, 0, none⟩) := H.old 2 (by kernel_rfl)
        have n11 := H.notYet 11 10 rfl hf (by kernel_rfl)
        have n12 := H.notYet 12 11 rfl n11 (by kernel_rfl)
        have n13 := H.notYet 13 12 rfl n12 (by kernel_rfl)
        have n15 := H.notYet 15 13 rfl n13 (by kernel_rfl)
        have n16 := H.notYet 16 15 rfl n15 (by kernel_rfl)
        have n17 := H.notYet 17 16 rfl n16 (by kernel_rfl)
        have n18 := H.notYet 18 17 rfl n17 (by kernel_rfl)
        have n19 := H.notYet 19 18 rfl n18 (by kernel_rfl)
        have n20 := H.notYet 20 19 rfl n19 (by kernel_rfl)
        have d : W.cell? ⟨pb, 0, none⟩ = some (.pointer (some ⟨mb, 0, none⟩)) := (by rw [H.glob.1 n20]; exact HC.out.1)
        go_simp
        exact hK _ _ (trivial) rfl (H.glob)
      case o11 =>
        intro L vs A W H hf hd K hK
        have e26 := H.is 10 26 rfl rfl rfl (deps_of' hd 10 (by kernel_rfl)) (by kernel_rfl)
        go_simp
        exact hK _ _ (trivial) rfl (H.glob)
      case o12 =>
        intro L vs A W H hf hd K hK
        have e27 := H.is 11 27 rfl rfl rfl (deps_of' hd 11 (by kernel_rfl)) (by kernel_rfl)
        go_simp
        exact hK _ _ (trivial) rfl (H.glob)
      case o13 =>
        intro L vs A W H hf hd K hK
        have e28 := H.is 12 28 rfl rfl rfl (deps_of' hd 12 (by kernel_rfl)) (by kernel_rfl)
        have n15 := H.notYet 15 13 rfl hf (by kernel_rfl)
        have n16 := H.notYet 16 15 rfl n15 (by kernel_rfl)
        have n17 := H.notYet 17 16 rfl n16 (by kernel_rfl)
        have n18 := H.notYet 18 17 rfl n17 (by kernel_rfl)
        have n19 := H.notYet 19 18 rfl n18 (by kernel_rfl)
        have n20 := H.notYet 20 19 rfl n19 (by kernel_rfl)
        have d : W.cell? ⟨mb, 2, none⟩ = some (.map (some ml)) := (by rw [H.glob.1 n20]; exact HC.out.2.2.2.1)
        go_simp
        exact hK _ _ (trivial) rfl (H.glob)
      case o14 =>
        intro L vs A W H hf hd K hK
        have e5 : A.tmps[5]?.getD undef = .int .u64 at_ := H.old 5 (by kernel_rfl)
        go_simp
        exact hK _ _ (trivial) rfl (H.glob)
      case o15 =>
        intro L vs A W H hf hd K hK
        have e29 := H.is 13 29 rfl rfl rfl (deps_of' hd 13 (by kernel_rfl)) (by kernel_rfl)
        have e30 := H.is 14 30 rfl rfl rfl (deps_of' hd 14 (by kernel_rfl)) (by kernel_rfl)
        have n16 := H.notYet 16 15 rfl hf (by kernel_rfl)
        have n17 := H.notYet 17 16 rfl n16 (by kernel_rfl)
        have n18 := H.notYet 18 17 rfl n17 (by kernel_rfl)
        have n19 := H.notYet 19 18 rfl n18 (by kernel_rfl)
        have n20 := H.notYet 20 19 rfl n19 (by kernel_rfl)
        have hl : (Instr.lookup 42 (.map (some ml)) (.int .u64 at_) false).run Try.prog W = .ok (.agg (lnCells (.slice a9 l9 c9) f9)) W := (by rw [H.glob.1 n20]; exact HC.out.2.2.2.2)
        go_simp
        exact hK _ _ (trivial) rfl (H.glob)
      case o16 =>
        intro L vs A W H hf hd K hK
        have e31 := H.is 15 31 rfl rfl rfl (deps_of' hd 15 (by kernel_rfl)) (by kernel_rfl)
        have hfl := HFl.out
        go_simp
        exact hK _ _ (trivial) rfl (H.glob)
      case o17 =>
        intro L vs A W H hf hd K hK
        have e32 := H.is 16 32 rfl rfl rfl (deps_of' hd 16 (by kernel_rfl)) (by kernel_rfl)
        go_simp
        exact hK _ _ (trivial) rfl (H.glob)
      case o18 =>
        intro L vs A W H hf hd K hK
        have e33 := H.is 17 33 rfl rfl rfl (deps_of' hd 17 (by kernel_rfl)) (by kernel_rfl)
        have hw9 := HRm.out.1
        go_simp
        exact hK _ _ (trivial) rfl (H.glob)
      case o19 =>
        intro L vs A W H hf hd K hK
        have e25 := H.is 9 25 rfl rfl rfl (deps_of' hd 9 (by kernel_rfl)) (by kernel_rfl)
        have e34 := H.is 18 34 rfl rfl rfl (deps_of' hd 18 (by kernel_rfl)) (by kernel_rfl)
        have hr9 := HRm.out.2.1
        have hz9 := HRm.out.2.2
        go_simp
        exact hK _ _ (trivial) rfl (H.glob)
      case o20 =>
        intro L vs A W H hf hd K hK
        have e16 := H.is 0 16 rfl rfl rfl (deps_of' hd 0 (by kernel_rfl)) (by kernel_rfl)
        have e17 := H.is 1 17 rfl rfl rfl (deps_of' hd 1 (by kernel_rfl)) (by kernel_rfl)
        have e35 := H.is 19 35 rfl rfl rfl (deps_of' hd 19 (by kernel_rfl)) (by kernel_rfl)
        have hW := H.glob.1 hf
        subst hW
        rw [if_pos (show Region.wanted _ _ = true from rfl)]
        gi_wp2_with (fail)
        refine HLa.out.mono ?_
        rintro e w' ⟨j9, rfl, hpo⟩
        exact hK _ _ trivial trivial ⟨fun e => (by cases e), fun _ => hpo⟩
      case he =>
        intro vs W hlen hv
        match vs, hlen, hv with
        | [x0_, x1_, x2_, x3_, x4_, x5_, x6_, x7_, x8_, x9_, x10_, x11_, x12_, x13_, x14_, x15_, x16_, x17_, x18_, x19_, x20_], _, hv =>
        obtain rfl : (.pointer (some ⟨mb, 0, none⟩)) = x0_ := by obtain ⟨z, h1, h2⟩ := hv 0 _ rfl; cases h1; exact h2.symm
        obtain rfl : (.int .u64 at_) = x1_ := by obtain ⟨z, h1, h2⟩ := hv 1 _ rfl; cases h1; exact h2.symm
        obtain rfl : (.slice (some ⟨gk, ok, none⟩) nk cK) = x2_ := by obtain ⟨z, h1, h2⟩ := hv 2 _ rfl; cases h1; exact h2.symm
        obtain rfl : (.int .i64 xi) = x3_ := by obtain ⟨z, h1, h2⟩ := hv 3 _ rfl; cases h1; exact h2.symm
        obtain rfl : (.slice (some ⟨gk, ok, none⟩) nk cK) = x4_ := by obtain ⟨z, h1, h2⟩ := hv 4 _ rfl; cases h1; exact h2.symm
        obtain rfl : (.int .i64 (nk : Int)) = x5_ := by obtain ⟨z, h1, h2⟩ := hv 5 _ rfl; cases h1; exact h2.symm
        obtain rfl : (.int .i64 (q : Int)) = x6_ := by obtain ⟨z, h1, h2⟩ := hv 6 _ rfl; cases h1; exact h2.symm
        obtain rfl : (.pointer (some ⟨gk, ok + q, none⟩)) = x7_ := by obtain ⟨z, h1, h2⟩ := hv 7 _ rfl; cases h1; exact h2.symm
        obtain rfl : (.int .i64 kv) = x8_ := by obtain ⟨z, h1, h2⟩ := hv 8 _ rfl; cases h1; exact h2.symm
        obtain rfl : (.int .i64 mx) = x9_ := by obtain ⟨z, h1, h2⟩ := hv 9 _ rfl; cases h1; exact h2.symm
        obtain rfl : (.pointer (some ⟨mb, 0, none⟩)) = x10_ := by obtain ⟨z, h1, h2⟩ := hv 10 _ rfl; cases h1; exact h2.symm
        obtain rfl : (.pointer (some ⟨mb, 0, none⟩)) = x11_ := by obtain ⟨z, h1, h2⟩ := hv 11 _ rfl; cases h1; exact h2.symm
        obtain rfl : (.pointer (some ⟨mb, 2, none⟩)) = x12_ := by obtain ⟨z, h1, h2⟩ := hv 12 _ rfl; cases h1; exact h2.symm
        obtain rfl : (.map (some ml)) = x13_ := by obtain ⟨z, h1, h2⟩ := hv 13 _ rfl; cases h1; exact h2.symm
        obtain rfl : (.int .u64 at_) = x14_ := by obtain ⟨z, h1, h2⟩ := hv 14 _ rfl; cases h1; exact h2.symm
        obtain rfl : (.agg (lnCells (.slice a9 l9 c9) f9)) = x15_ := by obtain ⟨z, h1, h2⟩ := hv 15 _ rfl; cases h1; exact h2.symm
        obtain rfl : (.slice a9 l9 c9) = x16_ := by obtain ⟨z, h1, h2⟩ := hv 16 _ rfl; cases h1; exact h2.symm
        obtain rfl : (.int .i64 (l9 : Int)) = x17_ := by obtain ⟨z, h1, h2⟩ := hv 17 _ rfl; cases h1; exact h2.symm
        obtain rfl : (.int .i64 ((l9 : Int) + 1)) = x18_ := by obtain ⟨z, h1, h2⟩ := hv 18 _ rfl; cases h1; exact h2.symm
        obtain rfl : (.int .i64 kk) = x19_ := by obtain ⟨z, h1, h2⟩ := hv 19 _ rfl; cases h1; exact h2.symm
        intro L hall hG
        clear hv hlen
        have HW := hG.2 (hall 20 (by decide))
        clear hG hall
        simp only [fill, if_true]
      --END
        simp [Act.put]
        gi_wp2_with (fail)
        rw [HPo.out] at HW
        exact HW
  case done =>
    rintro Dd xs9 W hD rfl hI hK
    obtain ⟨⟨l, hm⟩, hpb, hkb, hka, hsz, hkp⟩ := hI
    obtain ⟨⟨D2, sl2, mk2, hc2, _⟩, hl, hle, _⟩ := hm
    have hlen : l.length ≤ 1000000 := by rw [hl]; exact hni
    obtain ⟨pb, hpb0⟩ : ∃ pb, w.heap.size = pb := ⟨_, rfl⟩
    obtain ⟨W0, hW0⟩ : ∃ y, y = W := ⟨_, rfl⟩
    obtain ⟨u, hu⟩ : ∃ y, y = vi := ⟨_, rfl⟩
    rw [← hW0] at hc2 hpb hkp hK hsz ⊢
    rw [← hu] at hc2 hkp
    rw [hpb0] at hpb ⊢
    have HBk := Lib.hid (show Blk W0 mb (memCells vv u ml lo st fl fe) 46 from hc2.m.blk)
    have HOw := Lib.hid hc2.m.i
    have HuM := Lib.hid hc2.m.ne.2
    have HPb := Lib.hid (show W0.cell? ⟨pb, 0, none⟩ = some (.pointer (some ⟨mb, 0, none⟩)) from hpb.cell 0)
    have HmW := Lib.hid hc2.m.blk.lt
    have HpW := Lib.hid (show pb < W0.heap.size ∧ ¬ pb = mb from ⟨hpb.lt, by have := hc2.lt mb (.inl rfl); omega⟩)
    have Hlen := Lib.hid hlen
    have HC2 := Lib.hid hc2
    have HL := Lib.hid hl
    have HLe := Lib.hid hle
    have HKp0 := Lib.hid hkp
    have HU := Lib.hid hu
    have HDd := Lib.hid (And.intro hD hK)
    clear hW0 hc2 hpb hkb hka hkp hle hl hlen hu
    gi_wp2
    refine wpIn_wide.2 ?_
    --GEN r_cr7
    refine wp_region_vals [Is (.pointer (some ⟨mb, 0, none⟩)), Is (.pointer (some ⟨mb, 0, none⟩)), Is (.pointer (some ⟨mb, 0, none⟩)), Is (.pointer (some ⟨mb, 1, none⟩)), Is u, fun v W => W.ownsRow W0.heap.size 35 1 v l.length (l.map (Value.int .u64)), Is (.pointer (some ⟨mb, 0, none⟩)), Is (.pointer (some ⟨mb, 0, none⟩)), Any]
      (fun _ w w' => Keeps (fun i => i = mb) w w') (fun L W => OC W0 mb ml vv u l lo st fl fe L W) (by kernel_rfl) (by kernel_rfl) (by kernel_rfl) ?hst ?h0 ⟨?o0, ?o1, ?o2, ?o3, ?o4, ?o5, ?o6, ?o7, ?o8, trivial⟩ ?he
    case hst =>
      exact ⟨(fun _ _ _ _ _ _ h _ => h), (fun _ _ _ _ _ _ h _ => h), (fun _ _ _ _ _ _ h _ => h), (fun _ _ _ _ _ _ h _ => h), (fun _ _ _ _ _ _ h _ => h), (fun _ _ _ _ _ _ h hR => own_keeps h hR (fun i e => by have := own_base h i e; have := HmW.out; omega)), (fun _ _ _ _ _ _ h _ => h), (fun _ _ _ _ _ _ h _ => h), (fun _ _ _ _ _ _ h _ => h), trivial⟩
    case h0 =>
      exact OC.start HBk.out
    case o0 =>
      intro L vs A W H hf hd K hK
      have e2 : A.tmps[2]?.getD undef = .pointer (some ⟨pb, 0, none⟩) := H.old 2 (by kernel_rfl)
      have d : W.cell? ⟨pb, 0, none⟩ = some (.pointer (some ⟨mb, 0, none⟩)) := (H.glob.kp.cell (p := ⟨pb, 0, none⟩) HpW.out.1 HpW.out.2).trans HPb.out
      go_simp
      exact hK _ _ (Keeps.refl _ _) rfl (H.glob.keep rfl)
    case o1 =>
      intro L vs A W H hf hd K hK
      have e2 : A.tmps[2]?.getD undef = .pointer (some ⟨pb, 0, none⟩) := H.old 2 (by kernel_rfl)
      have d : W.cell? ⟨pb, 0, none⟩ = some (.pointer (some ⟨mb, 0, none⟩)) := (H.glob.kp.cell (p := ⟨pb, 0, none⟩) HpW.out.1 HpW.out.2).trans HPb.out
      go_simp
      exact hK _ _ (Keeps.refl _ _) rfl (H.glob.keep rfl)
    case o2 =>
      intro L vs A W H hf hd K hK
      have e38 := H.is 1 38 rfl rfl rfl (deps_of' hd 1 (by kernel_rfl)) (by kernel_rfl)
      go_simp
      exact hK _ _ (Keeps.refl _ _) rfl (H.glob.keep rfl)
    case o3 =>
      intro L vs A W H hf hd K hK
      have e39 := H.is 2 39 rfl rfl rfl (deps_of' hd 2 (by kernel_rfl)) (by kernel_rfl)
      go_simp
      exact hK _ _ (Keeps.refl _ _) rfl (H.glob.keep rfl)
    case o4 =>
      intro L vs A W H hf hd K hK
      have e40 := H.is 3 40 rfl rfl rfl (deps_of' hd 3 (by kernel_rfl)) (by kernel_rfl)
      have n8 := H.notYet 8 5 rfl (H.notYet 5 4 rfl hf (by kernel_rfl)) (by kernel_rfl)
      have d : W.cell? ⟨mb, 1, none⟩ = some u := (by rw [(H.glob.un n8).cell]; rfl)
      obtain ⟨au, cu, hu⟩ := own_form HOw.out
      subst hu
      go_simp
      exact hK _ _ (Keeps.refl _ _) rfl (H.glob.keep rfl)
    case o5 =>
      intro L vs A W H hf hd K hK
      have e41 := H.is 4 41 rfl rfl rfl (deps_of' hd 4 (by kernel_rfl)) (by kernel_rfl)
      have n8 := H.notYet 8 5 rfl hf (by kernel_rfl)
      have HC := Lib.hid (clone_v u l W (own_mono (own_keeps HOw.out H.glob.kp (fun i e he => HuM.out (by rw [e, he]))) (Nat.zero_le _)) Hlen.out)
      go_simp
      refine HC.out.mono ?_
      rintro e w' ⟨v, rfl, ho, hb⟩
      go_simp
      exact hK _ _ (keeps_belowS hb) (own_mono ho H.glob.kp.size) (H.glob.cloned n8 hb HmW.out)
    case o6 =>
      intro L vs A W H hf hd K hK
      have e37 := H.is 0 37 rfl rfl rfl (deps_of' hd 0 (by kernel_rfl)) (by kernel_rfl)
      go_simp
      exact hK _ _ (Keeps.refl _ _) rfl (H.glob.keep rfl)
    case o7 =>
      intro L vs A W H hf hd K hK
      have e43 := H.is 6 43 rfl rfl rfl (deps_of' hd 6 (by kernel_rfl)) (by kernel_rfl)
      go_simp
      exact hK _ _ (Keeps.refl _ _) rfl (H.glob.keep rfl)
    case o8 =>
      intro L vs A W H hf hd K hK
      have e44 := H.is 7 44 rfl rfl rfl (deps_of' hd 7 (by kernel_rfl)) (by kernel_rfl)
      obtain ⟨v42, e42, q42⟩ := H.val 5 42 rfl rfl rfl (deps_of' hd 5 (by kernel_rfl)) (by kernel_rfl)
      have h5 : L 5 = true := deps_of' hd 5 (by kernel_rfl)
      have hbk := H.glob.un hf
      have d : W.cell? ⟨mb, 0, none⟩ = some vv := (by rw [hbk.cell]; rfl)
      have df : W.frozen? ⟨mb, 0, none⟩ = false := hbk.frozen 0
      obtain ⟨a7, c7, hq7⟩ := own_form q42
      subst hq7
      go_simp
      exact hK undef _ ((Keeps.refl (fun i => i = mb) W).setCell (p := ⟨mb, 0, none⟩) (.inl rfl) _) trivial (H.glob.s8 hf q42 HmW.out)
    case he =>
      intro vs W hlen hv
      match vs, hlen, hv with
      | [x0_, x1_, x2_, x3_, x4_, x5_, x6_, x7_, x8_], _, hv =>
      obtain rfl : (.pointer (some ⟨mb, 0, none⟩)) = x0_ := by obtain ⟨z, h1, h2⟩ := hv 0 _ rfl; cases h1; exact h2.symm
      obtain rfl : (.pointer (some ⟨mb, 0, none⟩)) = x1_ := by obtain ⟨z, h1, h2⟩ := hv 1 _ rfl; cases h1; exact h2.symm
      obtain rfl : (.pointer (some ⟨mb, 0, none⟩)) = x2_ := by obtain ⟨z, h1, h2⟩ := hv 2 _ rfl; cases h1; exact h2.symm
      obtain rfl : (.pointer (some ⟨mb, 1, none⟩)) = x3_ := by obtain ⟨z, h1, h2⟩ := hv 3 _ rfl; cases h1; exact h2.symm
      obtain rfl : u = x4_ := by obtain ⟨z, h1, h2⟩ := hv 4 _ rfl; cases h1; exact h2.symm
      have hx5 : (fun v W => W.ownsRow W0.heap.size 35 1 v l.length (l.map (Value.int .u64))) x5_ W := by obtain ⟨z, h1, h2⟩ := hv 5 _ rfl; cases h1; exact h2
      obtain rfl : (.pointer (some ⟨mb, 0, none⟩)) = x6_ := by obtain ⟨z, h1, h2⟩ := hv 6 _ rfl; cases h1; exact h2.symm
      obtain rfl : (.pointer (some ⟨mb, 0, none⟩)) = x7_ := by obtain ⟨z, h1, h2⟩ := hv 7 _ rfl; cases h1; exact h2.symm
      intro L hall hG
      clear hv hlen
      have HG := Lib.hid (hG.e (hall 8 (by decide)))
      have HKp := Lib.hid hG.kp
      clear hG hall
      simp only [fill, if_true]
    --END
      obtain ⟨vvF, v1, v2⟩ := HG.out
      have kp := HKp.out
      have hx := HC2.out.x
      have hlt := HC2.out.lt
      have o1 : OwnL W ml (n + (List.finRange zs.length).length) D2 := ownL_keeps HC2.out.o kp hx.1
      obtain ⟨wC, hrunC, hoC, hgC⟩ := own_clear o1
      have d2 : W.cell? ⟨pb, 0, none⟩ = some (.pointer (some ⟨mb, 0, none⟩)) := (kp.cell (p := ⟨pb, 0, none⟩) HpW.out.1 HpW.out.2).trans HPb.out
      have dm : W.cell? ⟨mb, 2, none⟩ = some (.map (some ml)) := by rw [v1.cell]; rfl
      have kC : Keeps (fun i => i = ml) W wC := (Keeps.refl (fun i => i = ml) W).grown hgC (fun k e => .inl (Option.some.inj e).symm)
      have hK3 : wC.heap[Dd]? = some (Obj.deferred (some [])) := by
        have h1 := HDd.out.1
        have hDlt : Dd < W0.heap.size := (Array.getElem?_eq_some_iff.1 HDd.out.2).1
        rw [kC.block Dd (Nat.lt_of_lt_of_le hDlt kp.size) (by have := hlt ml (.inr (.inl rfl)); have := HW1.out.size; omega), kp.block Dd hDlt (by have := hlt mb (.inl rfl); omega)]
        exact HDd.out.2
      have HV1 := Lib.hid v1
      have HV2 := Lib.hid v2
      have HoC := Lib.hid hoC
      have HkC := Lib.hid kC
      have Hkp := Lib.hid kp
      clear hoC hgC kC v1 v2 kp o1 HG HKp
      simp [Act.put]
      gi_wp2
      refine ⟨by simp, .inl ⟨_, _, rfl, run_takeDeferred hK3, ?_⟩⟩
      have hg := grownBy_putObj' wC Dd (.deferred none)
      have kD : Keeps (fun i => i = Dd) wC (wC.putObj Dd (.deferred none)) := (Keeps.refl (fun i => i = Dd) wC).grown hg (fun k e => .inl (Option.some.inj e).symm)
      have hDlt : Dd < W0.heap.size := (Array.getElem?_eq_some_iff.1 HDd.out.2).1
      have hBw : Below w.heap.size w w' := HW1.out.trans (hB.mono HW1.out.size)
      have hw0 : w.heap.size ≤ w'.heap.size := hBw.size
      have hD1 : w'.heap.size ≤ Dd := HDd.out.1
      have hmW : MemB W mb l l vvF u ml lo st fl fe := ⟨HV1.out, own_mono HV2.out (Nat.zero_le _), own_keeps HOw.out Hkp.out (fun i e he => HuM.out (by rw [e, he]))⟩
      have hvb : ∀ i, vvF.ownBlock = some i → W0.heap.size ≤ i := fun i e => own_base HV2.out i e
      have hmlt := hlt ml (.inr (.inl rfl))
      have hmC := hmW.kept HkC.out (fun i hi e => by
        rcases hi with h | h | h
        · exact hx.1 (by rw [← e, h])
        · have := hvb i h; omega
        · exact hx.2.2 (by rw [← e]; exact h))
      have hmD := hmC.kept kD (fun i hi e => by
        rcases hi with h | h | h
        · have := hlt mb (.inl rfl); omega
        · have := hvb i h; omega
        · have := hlt i (.inr (.inr (.inr h))); omega)
      refine ⟨.tuple #[], by simp [results, Try.results17, go_sem], rfl, l, vvF, xs, HCk.out.keysF HHas.out HKs.out, HL.out, fun k => by have h := HLe.out k; have hz := HZs.out; subst hz; exact h, by rw [← HU.out]; exact hmD, ownL_keeps HoC.out kD (by omega), fun i e => by have := hvb i e; omega, ?_⟩
      rw [← HU.out]
      refine (keeps_belowS hBw).trans ((HKp0.out.mono (fun i _ h => ?_)).trans ((Hkp.out.mono (fun i _ h => .inl h)).trans ((HkC.out.mono (fun i _ h => .inr (.inl h))).trans (kD.mono (fun i _ h => .inr (.inr (.inr (by omega))))))))
      rcases h with h | h | h
      · exact .inr (.inl h)
      · exact .inr (.inr (.inl h))
      · exact .inr (.inr (.inr (Nat.le_trans hw0 h)))
  case stop =>
    rintro D c pre W _ _ h _
    exact h.elim
end Go.Proofs.Yticgfnnmjcjnjaa
