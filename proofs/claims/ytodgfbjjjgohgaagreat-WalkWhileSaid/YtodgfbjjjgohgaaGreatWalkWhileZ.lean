/-
 WalkWhile: called in whatever memory with an arena that is asked for,a key,a number,an address,a row of numbers,the Go function returns true,and what was there stays as it was. No condition.
-/
import Derived.Test.YtodgfbjjjgohgaaGreatRows
import Derived.Test.YtodgfbjjjgohgaaGreatYsZ
import Derived.Test.YtodgfbjjjgohgaaGreatKbZ
import Derived.Deep.Slices
namespace Go.Proofs.YtodgfbjjjgohgaaGreat.walkWhileP
open Go.ChangeShapes Go.WideShapes Go.ChangeAt Go.RowKit
open Go.ChangeMaps (open_string shut_string)
set_option linter.unusedVariables false

theorem own : ownKnob Tryz.prog.godebug = none := by kernel_rfl

theorem reads_nums {W : World} {A : Option Addr} {k : IntKind} {xs : List Int} {len : Nat} (hl : xs.length = len) (h : 0 < len -> ∃ (g o : Nat),A = some ⟨g,o,none⟩ /\ g < W.heap.size /\ ∀ i,i < len -> W.cell? ⟨g,o + i,none⟩ = some (.int k (xs.getD i 0))) : Reads W W.heap.size 1 A xs.length (xs.map (Value.int k)) := by
 subst hl
 refine ⟨by simp,fun h0 => ?_⟩
 obtain ⟨g,o,hA,hg,hc⟩ := h h0
 refine ⟨⟨g,o,none⟩,hA,hg,fun j u hj => ?_⟩
 have hjl : j < xs.length := by have := (List.getElem?_eq_some_iff.1 hj).1;simpa using this
 rw [List.getElem?_map,List.getElem?_eq_getElem hjl] at hj
 obtain rfl := Option.some.inj hj
 have e : (⟨g,o,none⟩ : Addr).add j = ⟨g,o + j,none⟩ := by unfold Addr.add;split <;> simp_all
 rw [e,hc j hjl,List.getD_eq_getElem?_getD,List.getElem?_eq_getElem hjl]
 rfl

/-! . -/
set_option maxRecDepth 100000 in
theorem lifted (os : Os) (started : os.Started) (H : Type) (enc : TypeId × Value -> H) :
  ReturnsInHanded {} Tryz.checked os 4 .any (Rows.walkWhileSpec.pre6 enc Tryz.prog Tryz.f4 Rows.walkWhileRow.domain false) (Rows.walkWhileSpec.post enc Tryz.prog Tryz.f4 false true false false) := by
 refine returnsInHanded_of_change (C := Tryz.checked) own started (by kernel_rfl) Tryz.func4
  (ChangeSpec.witness6 (enc := enc) (C := Tryz.checked) false ⟨#[],#[.agg #[.int .i64 0,.slice none 0 0,.int .i64 0,.int .i64 0],.int .u64 0,.int .i64 0,.int .u64 0,.slice none 0 0],[]⟩ 8 (by kernel_rfl) (by kernel_rfl) (by kernel_rfl) (by kernel_rfl)) ?_
 intro W base args ds gs before hval0 hW hcnd _
 have hval : ∀ (j : Nat) t v,Tryz.f4.params[j]? = some t -> args[j]? = some v -> Value.okWide Tryz.prog W .any base t v := hval0
 have hW' := hW
 obtain ⟨p,q,hA0,hV,rfl,hfz,hnd⟩ := hW
 have hA : DataW.TrodAll enc Tryz.prog W 0 (fun _ => true) true Tryz.f4.params.toList args.toList ds p := hA0
 rw [Tryz.params4] at hA hval
 obtain ⟨v0,vs0,d0,ds0,p0,q0,hargs,rfl,rfl,h0,r0⟩ := trodAll_cons hA
 obtain ⟨v1,vs1,d1,ds1,p1,q1,rfl,rfl,rfl,h1,r1⟩ := trodAll_cons r0
 obtain ⟨v2,vs2,d2,ds2,p2,q2,rfl,rfl,rfl,h2,r2⟩ := trodAll_cons r1
 obtain ⟨v3,vs3,d3,ds3,p3,q3,rfl,rfl,rfl,h3,r3⟩ := trodAll_cons r2
 obtain ⟨v4,vs4,d4,ds4,p4,q4,rfl,rfl,rfl,h4,r4⟩ := trodAll_cons r3
 obtain ⟨rfl,rfl,rfl⟩ := trodAll_nil r4
 obtain rfl : args = #[v0,v1,v2,v3,v4] := by cases args;simp_all
 obtain ⟨rfl,rfl⟩ := trodVars_none hV
 obtain ⟨slabs,per,lag,A,c,l,rfl,hr,hu⟩ := open_laid (hval 0 24 v0 rfl rfl) h0
 obtain ⟨key,rfl,rfl,rfl,w1⟩ := open_int Tryz.underlying25 (hval 1 25 v1 rfl rfl) h1
 obtain ⟨which,rfl,rfl,rfl,w2⟩ := open_int Tryz.underlying3 (hval 2 3 v2 rfl rfl) h2
 obtain ⟨ptr,rfl,rfl,rfl,w3⟩ := open_int Tryz.underlying39 (hval 3 39 v3 rfl rfl) h3
 obtain ⟨GA,gn,gc,gs,rfl,hgl,_,_,_,hgc⟩ := open_nums Tryz.underlying51 Tryz.underlying3 (by kernel_rfl) (hval 4 51 v4 rfl rfl) h4
 have hb := u64_bounds w1
 have hrg := reads_nums hgl hgc
 subst hgl
 have main := walkwhile_v W slabs per lag A c l key which ptr GA gc gs hr hu hb.1 (u64_bounds w3) hrg
 refine main.mono fun e W' ⟨he,hk⟩ => ?_
 subst he
 exact ⟨_,rfl,law_post (tb := 4) (by kernel_rfl) (by kernel_rfl) rfl Tryz.underlying4 rfl rfl hW' hA0 hk rfl⟩

theorem over : Rows.walkWhileRow.holds Tryz.pinned (OpenSpec.ofChange Rows.walkWhileSpec) :=
 OpenClaim.holds_of_wide 4 Tryz.f4 rfl rfl rfl rfl rfl rfl rfl ⟨rfl,rfl,rfl,rfl,rfl⟩ rfl rfl rfl rfl rfl (by kernel_rfl) Tryz.func4 (by kernel_rfl)
  (of_decide_eq_true (by kernel_rfl)) (by unfold Func.isWrapper;first | (rw [if_pos (by decide +kernel)];kernel_rfl) | (rw [if_neg (by decide +kernel)];exact ⟨rfl,rfl⟩))
  (fun os started H enc _ => lifted os started H enc)

theorem proved : Rows.WalkWhileSaid :=
 over
#print axioms proved
end Go.Proofs.YtodgfbjjjgohgaaGreat.walkWhileP
