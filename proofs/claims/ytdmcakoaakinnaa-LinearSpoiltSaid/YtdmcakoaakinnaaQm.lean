/-
  linear.ends: contract.
-/
import Derived.Test.YtdmcakoaakinnaaQl
import Derived.Great.BuildSlice
namespace Go.Proofs.Ytdmcakoaakinnaa
open Go.RowKit
attribute [local go_sem] Oper.semAt_some
set_option linter.unusedVariables false
set_option linter.unusedSimpArgs false

/-- all values that a key may have behind an era, in a new map -/
def EndsQ (l : List Dn) (s : St) (w : World) (e : Ending) (w' : World) : Prop :=
  ∃ mo O, e = .returned (.map (some mo)) ∧ SetM w' mo O ∧ w.heap.size ≤ mo ∧ O.Nodup ∧ (∀ t, t ∈ O ↔ EndsP l s t) ∧ Below w.heap.size w w'
theorem SetM.newAt {w : World} {n : Nat} (h : w.heap.size = n) : SetM (w.alloc (.map #[] 0)) n [] := by subst h; exact SetM.new w
theorem SetM.alloc {w : World} {b : Nat} {V : List St} (h : SetM w b V) (o : Obj) : SetM (w.alloc o) b V := h.keeps ((Keeps.refl (fun _ => False) w).alloc o) (fun h => h)
set_option maxRecDepth 100000 in
set_option maxHeartbeats 8000000 in
theorem ends_v (l : List Dn) (s : St) (a : Option Addr) (cap : Nat) (w : World) (hl : l.length ≤ 60) (hv : ∀ d ∈ l, DnV d) (hE : DnsAt w a l) (hs : StOk s) (R : List St) (hR : ∀ t, Reach l s t → t ∈ R) (hRl : R.length < maxLen) :
    Calls Try.prog 22 #[.slice a l.length cap, .agg (stCells s)] w (EndsQ l s w) := by
  have HFr := Lib.hid (fun bs bl bf bo ms mo => from_v w bs bl bf bo ms mo a cap l hl hv hE s hs R hR hRl 18446744073709551616 s [] [])
  have HB0 := Lib.hid (Below.refl w.heap.size w)
  clear hl hv hE hs hR hRl
  have hmk : ∀ W : World, (Instr.makeMap 72 none).run Try.prog W = .ok (.map (some W.heap.size)) (W.alloc (.map #[] 0)) := fun W => run_makeMap _ W
  unfold stCells
  go_enter Try.func22, Try.ntmps22
  go_upto_region 3 with (fail)
  generalize hw2 : (((((((w.alloc (.cells #[.slice a l.length cap] 44)).alloc (.cells #[.int .u64 (s.dn : Int), .bool s.is, .string s.v] 71)).alloc (.map #[] 0)).alloc (.map #[] 0)).alloc (.cells #[.map (some (w.heap.size + 1 + 1))] 72)).alloc (.cells #[.map (some (w.heap.size + 1 + 1 + 1))] 72)).alloc (.cells #[.nilFunc] 90)) = W2
  have k0 : Blk W2 w.heap.size #[.slice a l.length cap] 44 := by rw [← hw2]; exact ((((((Blk.new w _ _).alloc _).alloc _).alloc _).alloc _).alloc _).alloc _
  have k1 : Blk W2 (w.heap.size + 1) (stCells s) 71 := by rw [← hw2]; exact (((((Blk.newAt (by simp) (stCells s) _).alloc _).alloc _).alloc _).alloc _).alloc _
  have k2 : SetM W2 (w.heap.size + 1 + 1) [] := by rw [← hw2]; exact ((((SetM.newAt (by simp)).alloc _).alloc _).alloc _).alloc _
  have k3 : SetM W2 (w.heap.size + 1 + 1 + 1) [] := by rw [← hw2]; exact (((SetM.newAt (by simp)).alloc _).alloc _).alloc _
  have k4 : Blk W2 (w.heap.size + 1 + 1 + 1 + 1) #[.map (some (w.heap.size + 1 + 1))] 72 := by rw [← hw2]; exact ((Blk.newAt (by simp) _ _).alloc _).alloc _
  have k5 : Blk W2 (w.heap.size + 1 + 1 + 1 + 1 + 1) #[.map (some (w.heap.size + 1 + 1 + 1))] 72 := by rw [← hw2]; exact (Blk.newAt (by simp) _ _).alloc _
  have k6 : Blk W2 (w.heap.size + 1 + 1 + 1 + 1 + 1 + 1) #[.nilFunc] 90 := by rw [← hw2]; exact Blk.newAt (by simp) _ _
  have hB2 : Below w.heap.size w W2 := by
    rw [← hw2]
    exact ((((((HB0.out.alloc (Nat.le_refl _) _).alloc (by simp) _).alloc (by simp; omega) _).alloc (by simp; omega) _).alloc (by simp; omega) _).alloc (by simp; omega) _).alloc (by simp; omega) _
  clear hw2
  obtain ⟨n0, hn0⟩ : ∃ n, w.heap.size = n := ⟨_, rfl⟩
  obtain ⟨n1, hn1⟩ : ∃ n, n0 + 1 = n := ⟨_, rfl⟩
  obtain ⟨n2, hn2⟩ : ∃ n, n1 + 1 = n := ⟨_, rfl⟩
  obtain ⟨n3, hn3⟩ : ∃ n, n2 + 1 = n := ⟨_, rfl⟩
  obtain ⟨n4, hn4⟩ : ∃ n, n3 + 1 = n := ⟨_, rfl⟩
  obtain ⟨n5, hn5⟩ : ∃ n, n4 + 1 = n := ⟨_, rfl⟩
  obtain ⟨n6, hn6⟩ : ∃ n, n5 + 1 = n := ⟨_, rfl⟩
  simp only [hn0, hn1, hn2, hn3, hn4, hn5, hn6] at k0 k1 k2 k3 k4 k5 k6 ⊢
  go_step
  refine wpList_plain rfl (fun K hK => ?_)
  go_simp
  refine hK _ _ ?_
  clear hK K
  refine wpList_store_oneTo rfl 90 (.tmp 7) (.tmp 10) rfl rfl n6 (closF n4 n0 n6 n5) (ev_tmp (by simp)) (ev_tmp (by simp; rfl)) rfl 90 .nilFunc k6 (by kernel_rfl) ?_
  have hks := keeps_setRow (Keeps.refl (fun k => k = n6) W2) (g := n6) (.inl rfl) #[closF n4 n0 n6 n5]
  have hEnv : EnvF w (W2.setRow n6 #[closF n4 n0 n6 n5]) n4 n0 n6 n5 n2 n3 a cap l [] [] :=
    ⟨below_keeps hB2 (Nat.le_refl _) hks (fun k hk => by omega), k4.kept hks (by omega), k0.kept hks (by omega), k6.row _, k5.kept hks (by omega), k2.keeps hks (by omega), k3.keeps hks (by omega), by omega, by omega, by omega⟩
  have HK1 := Lib.hid (k1.kept hks (by omega : ¬ n1 = n6))
  generalize W2.setRow n6 #[closF n4 n0 n6 n5] = W3 at hEnv HK1 ⊢
  have HEnv := Lib.hid hEnv
  have c1 : W3.cell? ⟨n6, 0, none⟩ = some (.func (.func 45) #[] #[.pointer (some ⟨n4, 0, none⟩), .pointer (some ⟨n0, 0, none⟩), .pointer (some ⟨n6, 0, none⟩), .pointer (some ⟨n5, 0, none⟩)]) := by rw [hEnv.f.cell]; rfl
  have HN := Lib.hid (show w.heap.size ≤ n3 from by omega)
  clear k0 k1 k2 k3 k4 k5 k6 hB2 hks hEnv hn0 hn1 hn2 hn3 hn4 hn5 hn6
  go_upto_region 4 with (fail)
  go_step
  refine wpList_plain rfl (fun K hK => ?_)
  go_simp
  refine hK _ _ ?_
  clear hK K
  refine wpList_load_stW rfl (.tmp 3) rfl n1 0 s (ev_tmp (by simp)) HK1.out.cellsAt ?_
  clear c1
  go_wp2_with (fail)
  refine (HFr.out n4 n0 n6 n5 n2 n3 W3 (by omega) HEnv.out (.refl _) (fun t ht => by cases ht) ⟨List.nodup_nil, List.nodup_nil, fun t ht => (by cases ht), fun t ht => (by cases ht)⟩).mono ?_
  rintro e W4 ⟨rfl, V', O', henv, hdfs, hgood, _⟩
  have HE4 := Lib.hid henv
  have HO4 := Lib.hid (And.intro hgood.on hdfs.all)
  have c2 : W4.cell? ⟨n5, 0, none⟩ = some (.map (some n3)) := by rw [henv.o.cell]; rfl
  clear henv hdfs hgood
  go_wp2_with (fail)
  go_ret
  exact ⟨n3, O', rfl, HE4.out.os, HN.out, HO4.out.1, HO4.out.2, HE4.out.b⟩
end Go.Proofs.Ytdmcakoaakinnaa
