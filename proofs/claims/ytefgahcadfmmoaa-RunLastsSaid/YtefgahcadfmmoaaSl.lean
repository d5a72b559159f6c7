/-
  BYTES BEHIND AN ADDRESS; the document's Put: contracts (from the texts of word).
-/
import Derived.Below
import Derived.Laws.OwnMore
import Derived.Deep.Draws
import Derived.Maps.AppendAt
import Derived.Deep.AppendLies
import Derived.RegionTactic
import Derived.OwnWalk
import Derived.Test.YtefgahcadfmmoaaPu
import Derived.Laws.Rows
import Derived.Laws.IdiomStrings
import Derived.Deep.RegionWith
import Derived.StillTactics
import Derived.Laws.CopyOwn
namespace Go.Proofs.Ytefgahcadfmmoaa
open Go.RowKit
theorem block_of_add (a : Addr) (n : Nat) : (a.add n).block = a.block := by unfold Addr.add; split <;> rfl
theorem add_of_add (a : Addr) (i j : Nat) : (a.add i).add j = a.add (i + j) := by
  unfold Addr.add
  by_cases hi : i = 0 <;> by_cases hj : j = 0 <;> simp [hi, hj, Nat.add_assoc]

def Reads (w : World) (B size : Nat) (A : Option Addr) (n : Nat) (xs : List Value) : Prop :=
  xs.length = n * size ∧ (0 < n → ∃ ad, A = some ad ∧ ad.block < B ∧ ∀ j u, xs[j]? = some u → w.cell? (ad.add j) = some u)

section
variable {w w' : World} {B B' size n : Nat} {A : Option Addr} {xs : List Value}
theorem Reads.none_ : Reads w B size A 0 [] := ⟨by simp, fun h => absurd h (by omega)⟩
theorem Reads.at_ {k : Nat} (h : Reads w B 1 A n xs) (hk : k < n) : ∃ ad u, A = some ad ∧ ad.block < B ∧ xs[k]? = some u ∧ w.cell? (ad.add k) = some u := by
  obtain ⟨ad, e, hb, hc⟩ := h.2 (by omega)
  have hl : k < xs.length := by have := h.1; omega
  exact ⟨ad, xs[k], e, hb, List.getElem?_eq_getElem hl, hc k _ (List.getElem?_eq_getElem hl)⟩
theorem Reads.keep (h : Reads w B size A n xs) (hk : ∀ p : Addr, p.block < B → w'.cell? p = w.cell? p) : Reads w' B size A n xs :=
  ⟨h.1, fun hn => by
    obtain ⟨ad, e, hb, hc⟩ := h.2 hn
    exact ⟨ad, e, hb, fun j u hu => (hk _ (by rw [block_of_add]; exact hb)).trans (hc j u hu)⟩⟩
theorem Reads.more (h : Reads w B size A n xs) (hB : B ≤ B') : Reads w B' size A n xs :=
  ⟨h.1, fun hn => by
    obtain ⟨ad, e, hb, hc⟩ := h.2 hn
    exact ⟨ad, e, by omega, hc⟩⟩
theorem Reads.below (h : Reads w B size A n xs) (hb : Below B w w') : Reads w' B size A n xs := h.keep fun _ hp => hb.cell hp
theorem Reads.drew (h : Reads w B size A n xs) : Reads w.drew B size A n xs := h
theorem Reads.drewN (h : Reads w B size A n xs) (k : Nat) : Reads (w.drewN k) B size A n xs := h
theorem Reads.alloc (h : Reads w B size A n xs) (hB : B ≤ w.heap.size) (o : Obj) : Reads (w.alloc o) B size A n xs := h.keep fun p hp => World.cell?_alloc_lt w o p (by omega)
theorem Reads.setCell (h : Reads w B size A n xs) {p : Addr} (hB : B ≤ p.block) (u : Value) : Reads (w.setCell p u) B size A n xs :=
  h.keep fun q hq => World.cell?_setCell_other w p q u (fun e => by subst e; omega)
theorem Reads.grown (h : Reads w B size A n xs) {row : Option Nat} (hg : w.grownBy w' row) (hB : B ≤ w.heap.size) (hr : ∀ g, row = some g → B ≤ g) : Reads w' B size A n xs :=
  h.keep fun p hp => World.cell?_of_block (hg.block p.block (by omega) (fun e => by have := hr _ e.symm; omega))
theorem Reads.cut (h : Reads w B size A n xs) {k cap : Nat} (hk : k ≤ n) (hc : n ≤ cap) :
    Reads w B size (if cap = k then A else A.map (·.add (k * size))) (n - k) (xs.drop (k * size)) := by
  refine ⟨by rw [List.length_drop, h.1, Nat.sub_mul], fun hn => ?_⟩
  obtain ⟨ad, rfl, hb, hcell⟩ := h.2 (by omega)
  rw [if_neg (by omega)]
  refine ⟨ad.add (k * size), rfl, by rw [block_of_add]; exact hb, fun j u hu => ?_⟩
  rw [add_of_add]
  exact hcell _ u (by rw [← hu, List.getElem?_drop])
theorem Reads.of_own {base : Nat} {e : TypeId} {c : Nat} (h : w.ownsRow base e size (.slice A n c) n xs) : Reads w w.heap.size size A n xs := by
  refine ⟨h.1, fun hn => ?_⟩
  obtain ⟨g, cap, hv, _, hlt⟩ := h.form hn
  have hA : A = some ⟨g, 0, none⟩ := by injection hv
  subst hA
  exact ⟨_, rfl, hlt, h.cells (g := g) rfl⟩
end
section
variable {P : Program} (w : World)

theorem run_append_of_nil (base : Nat) (t ty e : TypeId) (i : TypeInfo) (size : Nat) (ht : P.underlying t = some (.slice e)) (hi : P.info? e = some i)
    (v : Value) (n : Nat) (xs : List Value) (hown : w.ownsRow base e size v n xs) (c : Nat) : (Builtin.append_ #[t, t] ty #[v, .slice none 0 c]).run P w = .ok v w := by
  rcases hown.2 with ⟨rfl, rfl⟩ | ⟨g, cap, cur, rfl, _, _, hnc, _⟩
  · simp [Builtin.append_, run_underlying ht, sizeOf, typeInfo, hi, Builtin.lenOf, Builtin.firstCells]
  · simp [Builtin.append_, run_underlying ht, sizeOf, typeInfo, hi, Builtin.lenOf, Builtin.firstCells, hnc, storeCells]

theorem run_append_any (base : Nat) (t ty e : TypeId) (i : TypeInfo) (z : Value) (size bytes : Nat) (ht : P.underlying t = some (.slice e)) (hi : P.info? e = some i) (hz : i.zero = some z)
    (hsize : i.size = size) (hby : i.bytes = bytes) (hzs : z.cells.size = size) (hsz : 0 < size)
    (v : Value) (n : Nat) (xs : List Value) (hown : w.ownsRow base e size v n xs)
    (B : Nat) (A : Option Addr) (m c : Nat) (news : List Value) (hr : Reads w B size A m news) (h1 : ∀ u ∈ news, u.oneCell' = true)
    (h63 : n + m ≤ maxLen) (hbytes : (n + m) * bytes ≤ 140737488355328) (hbase : base ≤ w.heap.size) :
    ∃ v' w', (Builtin.append_ #[t, t] ty #[v, .slice A m c]).run P w = .ok v' w' ∧ w'.ownsRow base e size v' (n + m) (xs ++ news) ∧ w.grownBy w' v.ownBlock ∧
      (v'.ownBlock = v.ownBlock ∨ v'.ownBlock = some w.heap.size) := by
  rcases A with _ | ad
  · have hm : m = 0 := by
      rcases Nat.eq_zero_or_pos m with h0 | h0
      · exact h0
      · obtain ⟨ad, h, _⟩ := hr.2 h0
        cases h
    subst hm
    have hn : news = [] := List.eq_nil_of_length_eq_zero (by simpa using hr.1)
    subst hn
    exact ⟨v, w, run_append_of_nil w base t ty e i size ht hi v n xs hown c, by simpa using hown, World.grownBy.refl w _, .inl rfl⟩
  · have hcells : ∀ j u, news[j]? = some u → w.cell? (ad.add j) = some u := by
      intro j u hu
      rcases Nat.eq_zero_or_pos m with h0 | h0
      · subst h0
        have hn : news = [] := List.eq_nil_of_length_eq_zero (by simpa using hr.1)
        subst hn
        simp at hu
      · obtain ⟨ad', h, _, hc⟩ := hr.2 h0
        injection h with h
        subst h
        exact hc j u hu
    obtain ⟨v', w', hrun, h2, h3, _, h5⟩ := run_append_own_at (P := P) w base t ty e i z size bytes ht hi hz hsize hby hzs hsz v n xs hown ad m c news hr.1 hcells h1 h63 hbytes hbase
    exact ⟨v', w', hrun, h2, h3, h5⟩

theorem wp_append_any {o : Oper} {a : Act} {K : Act → World → Prop} {Q : Exit → Act → World → Prop} (s x : Operand) (t : TypeId)
    (ho : o.op = .call { callee := .builtin .append, args := #[s, x], argTypes := #[t, t] })
    (base : Nat) (e : TypeId) (i : TypeInfo) (z : Value) (size bytes : Nat) (ht : P.underlying t = some (.slice e)) (hi : P.info? e = some i) (hz : i.zero = some z)
    (hsize : i.size = size) (hby : i.bytes = bytes) (hzs : z.cells.size = size) (hsz : 0 < size)
    (v : Value) (n : Nat) (xs : List Value) (hs : a.eval s = v) (hown : w.ownsRow base e size v n xs)
    (B : Nat) (A : Option Addr) (m c : Nat) (news : List Value) (hx : a.eval x = .slice A m c) (hr : Reads w B size A m news) (h1 : ∀ u ∈ news, u.oneCell' = true)
    (h63 : n + m ≤ maxLen) (hbytes : (n + m) * bytes ≤ 140737488355328) (hbase : base ≤ w.heap.size)
    (h : ∀ v' w', w'.ownsRow base e size v' (n + m) (xs ++ news) → w.grownBy w' v.ownBlock → (v'.ownBlock = v.ownBlock ∨ v'.ownBlock = some w.heap.size) → K (a.put o.dst v') w') : o.wp P a w K Q := by
  obtain ⟨v', w', hrun, h2, h3, h4⟩ := run_append_any (P := P) w base t o.type e i z size bytes ht hi hz hsize hby hzs hsz v n xs hown B A m c news hr h1 h63 hbytes hbase
  unfold Oper.wp execOp
  simp only [ho, resolve, invoke, builtin, Sem.run_bind, Sem.run_pure, Result.andThen_ok, List.map_toArray, List.map_cons, List.map_nil, hs, hx, hrun]
  exact h v' w' h2 h3 h4

theorem wpList_append_any {ops : Array Oper} {rest : List Oper} {o : Oper} {a : Act} {Q : Exit → Act → World → Prop} (hgd : o.guard = none) (s x : Operand) (t : TypeId)
    (ho : o.op = .call { callee := .builtin .append, args := #[s, x], argTypes := #[t, t] })
    (base : Nat) (e : TypeId) (i : TypeInfo) (z : Value) (size bytes : Nat) (ht : P.underlying t = some (.slice e)) (hi : P.info? e = some i) (hz : i.zero = some z)
    (hsize : i.size = size) (hby : i.bytes = bytes) (hzs : z.cells.size = size) (hsz : 0 < size)
    (v : Value) (n : Nat) (xs : List Value) (hs : a.eval s = v) (hown : w.ownsRow base e size v n xs)
    (B : Nat) (A : Option Addr) (m c : Nat) (news : List Value) (hx : a.eval x = .slice A m c) (hr : Reads w B size A m news) (h1 : ∀ u ∈ news, u.oneCell' = true)
    (h63 : n + m ≤ maxLen) (hbytes : (n + m) * bytes ≤ 140737488355328) (hbase : base ≤ w.heap.size)
    (h : ∀ v' w', w'.ownsRow base e size v' (n + m) (xs ++ news) → w.grownBy w' v.ownBlock → (v'.ownBlock = v.ownBlock ∨ v'.ownBlock = some w.heap.size) → wpList P ops Q rest (a.put o.dst v') w') : wpList P ops Q (o :: rest) a w :=
  wpList_plain hgd fun _ hK => wp_append_any w s x t ho base e i z size bytes ht hi hz hsize hby hzs hsz v n xs hs hown B A m c news hx hr h1 h63 hbytes hbase fun v' w' h2 h3 h4 => hK _ _ (h v' w' h2 h3 h4)

theorem step_append_any {ops : Array Oper} {o : Oper} {a : Act} {K : Act → World → Prop} {Q : Exit → Act → World → Prop} {E : Prop} (hgd : o.guard = none) (s x : Operand) (t : TypeId)
    (ho : o.op = .call { callee := .builtin .append, args := #[s, x], argTypes := #[t, t] })
    (base : Nat) (e : TypeId) (i : TypeInfo) (z : Value) (size bytes : Nat) (ht : P.underlying t = some (.slice e)) (hi : P.info? e = some i) (hz : i.zero = some z)
    (hsize : i.size = size) (hby : i.bytes = bytes) (hzs : z.cells.size = size) (hsz : 0 < size)
    (v : Value) (n : Nat) (xs : List Value) (hs : a.eval s = v) (hown : w.ownsRow base e size v n xs)
    (B : Nat) (A : Option Addr) (m c : Nat) (news : List Value) (hx : a.eval x = .slice A m c) (hr : Reads w B size A m news) (h1 : ∀ u ∈ news, u.oneCell' = true)
    (h63 : n + m ≤ maxLen) (hbytes : (n + m) * bytes ≤ 140737488355328) (hbase : base ≤ w.heap.size)
    (h : ∀ v' w', w'.ownsRow base e size v' (n + m) (xs ++ news) → w.grownBy w' v.ownBlock → (v'.ownBlock = v.ownBlock ∨ v'.ownBlock = some w.heap.size) → K (a.put o.dst v') w') :
    if Region.wanted o (yielded ops a.tmps) = true then Oper.wp P o a w K Q else E := by
  have hw : Region.wanted o (yielded ops a.tmps) = true := by simp [Region.wanted, hgd]
  rw [if_pos hw]
  exact wp_append_any w s x t ho base e i z size bytes ht hi hz hsize hby hzs hsz v n xs hs hown B A m c news hx hr h1 h63 hbytes hbase h
end
end Go.Proofs.Ytefgahcadfmmoaa
namespace Go.Proofs.Ytefgahcadfmmoaa
open Go.RowKit

def byteN (n : Int) (i : Nat) : UInt8 := UInt8.ofNat (n.toNat / 256 ^ i % 256)
def putB (n : Int) : List UInt8 := (List.range 8).map (byteN n)
def putTo8 (n : Int) (k : Nat) : List UInt8 := (List.range k).map (byteN n) ++ List.replicate (8 - k) 0
theorem putTo8_len (n : Int) (k : Nat) (h : k ≤ 8) : (putTo8 n k).length = 8 := by simp [putTo8]; omega
theorem putTo8_set (n : Int) (k : Nat) (h : k < 8) : (putTo8 n k).set k (byteN n k) = putTo8 n (k + 1) := by
  unfold putTo8
  rw [show 8 - k = (8 - (k + 1)) + 1 by omega, List.replicate_succ, List.set_append_right _ _ (by simp)]
  simp only [List.length_map, List.length_range, Nat.sub_self, List.set_cons_zero, List.range_succ, List.map_append, List.append_assoc, List.map_cons, List.map_nil]
  rfl
theorem byteN_mod (m : Nat) (i : Nat) : ((m / 256 ^ i : Nat) : Int) % 256 = ((byteN m i).toNat : Int) := by
  unfold byteN
  have : (UInt8.ofNat ((m : Int).toNat / 256 ^ i % 256)).toNat = m / 256 ^ i % 256 := by
    rw [UInt8.toNat_ofNat', Int.toNat_natCast]
    exact Nat.mod_eq_of_lt (Nat.mod_lt _ (by decide))
  rw [this]; omega
theorem div_step (m k : Nat) : m / 256 ^ k / 256 = m / 256 ^ (k + 1) := by rw [Nat.div_div_eq_div_mul, Nat.pow_succ]

theorem set8 {wr : World} {b : Nat} {t : TypeId} {B : Nat} {w : World} {v0 v1 v2 v3 v4 v5 v6 v7 : Value} (h : Blk wr b #[v0, v1, v2, v3, v4, v5, v6, v7] t) (hB : Below B w wr) (hb : B ≤ b) :
    Blk ((((((((wr.setCell ⟨b, 0, none⟩ v0).setCell ⟨b, 1, none⟩ v1).setCell ⟨b, 2, none⟩ v2).setCell ⟨b, 3, none⟩ v3).setCell ⟨b, 4, none⟩ v4).setCell ⟨b, 5, none⟩ v5).setCell ⟨b, 6, none⟩ v6).setCell ⟨b, 7, none⟩ v7) b #[v0, v1, v2, v3, v4, v5, v6, v7] t ∧ Below B w ((((((((wr.setCell ⟨b, 0, none⟩ v0).setCell ⟨b, 1, none⟩ v1).setCell ⟨b, 2, none⟩ v2).setCell ⟨b, 3, none⟩ v3).setCell ⟨b, 4, none⟩ v4).setCell ⟨b, 5, none⟩ v5).setCell ⟨b, 6, none⟩ v6).setCell ⟨b, 7, none⟩ v7) := by
  refine ⟨?_, ?_⟩
  · have a0 := h.set 0 v0
    rw [show (#[v0, v1, v2, v3, v4, v5, v6, v7] : Array Value).setIfInBounds 0 v0 = (#[v0, v1, v2, v3, v4, v5, v6, v7] : Array Value) from rfl] at a0
    have a1 := a0.set 1 v1
    rw [show (#[v0, v1, v2, v3, v4, v5, v6, v7] : Array Value).setIfInBounds 1 v1 = (#[v0, v1, v2, v3, v4, v5, v6, v7] : Array Value) from rfl] at a1
    have a2 := a1.set 2 v2
    rw [show (#[v0, v1, v2, v3, v4, v5, v6, v7] : Array Value).setIfInBounds 2 v2 = (#[v0, v1, v2, v3, v4, v5, v6, v7] : Array Value) from rfl] at a2
    have a3 := a2.set 3 v3
    rw [show (#[v0, v1, v2, v3, v4, v5, v6, v7] : Array Value).setIfInBounds 3 v3 = (#[v0, v1, v2, v3, v4, v5, v6, v7] : Array Value) from rfl] at a3
    have a4 := a3.set 4 v4
    rw [show (#[v0, v1, v2, v3, v4, v5, v6, v7] : Array Value).setIfInBounds 4 v4 = (#[v0, v1, v2, v3, v4, v5, v6, v7] : Array Value) from rfl] at a4
    have a5 := a4.set 5 v5
    rw [show (#[v0, v1, v2, v3, v4, v5, v6, v7] : Array Value).setIfInBounds 5 v5 = (#[v0, v1, v2, v3, v4, v5, v6, v7] : Array Value) from rfl] at a5
    have a6 := a5.set 6 v6
    rw [show (#[v0, v1, v2, v3, v4, v5, v6, v7] : Array Value).setIfInBounds 6 v6 = (#[v0, v1, v2, v3, v4, v5, v6, v7] : Array Value) from rfl] at a6
    have a7 := a6.set 7 v7
    rw [show (#[v0, v1, v2, v3, v4, v5, v6, v7] : Array Value).setIfInBounds 7 v7 = (#[v0, v1, v2, v3, v4, v5, v6, v7] : Array Value) from rfl] at a7
    exact a7
  · have b0 := hB.setCell (p := ⟨b, 0, none⟩) hb v0
    have b1 := b0.setCell (p := ⟨b, 1, none⟩) hb v1
    have b2 := b1.setCell (p := ⟨b, 2, none⟩) hb v2
    have b3 := b2.setCell (p := ⟨b, 3, none⟩) hb v3
    have b4 := b3.setCell (p := ⟨b, 4, none⟩) hb v4
    have b5 := b4.setCell (p := ⟨b, 5, none⟩) hb v5
    have b6 := b5.setCell (p := ⟨b, 6, none⟩) hb v6
    have b7 := b6.setCell (p := ⟨b, 7, none⟩) hb v7
    exact b7

end Go.Proofs.Ytefgahcadfmmoaa
namespace Go.Proofs.Ytefgahcadfmmoaa
open Go.RowKit

/-- words in memory -/
def WordsAt (w : World) (g o : Nat) (l : List Int) : Prop := ∀ i, (h : i < l.length) → w.cell? ⟨g, o + i, none⟩ = some (.int .u64 l[i])
theorem WordsAt.below {w w' : World} {g o : Nat} {l : List Int} (h : WordsAt w g o l) {B : Nat} (hB : Below B w w') (hg : g < B) : WordsAt w' g o l := fun i hi => (hB.cell (p := ⟨g, o + i, none⟩) hg).trans (h i hi)
def U64s (l : List Int) : Prop := ∀ x ∈ l, 0 ≤ x ∧ x ≤ 18446744073709551615
def bytesW (l : List Int) : List UInt8 := l.flatMap putB
def bvals (m : List UInt8) : List Value := m.map (fun b => Value.int .u8 (b.toNat : Int))
theorem putB_len (n : Int) : (putB n).length = 8 := by simp [putB]
theorem bytesW_len (l : List Int) : (bytesW l).length = 8 * l.length := by
  induction l with
  | nil => rfl
  | cons x r ih => simp only [bytesW, List.flatMap_cons, List.length_append, putB_len, List.length_cons] at ih ⊢; omega
theorem bytesW_snoc (l : List Int) (x : Int) : bytesW (l ++ [x]) = bytesW l ++ putB x := by simp [bytesW]
theorem bvals_len (m : List UInt8) : (bvals m).length = m.length := by simp [bvals]
theorem bvals_one (m : List UInt8) : ∀ u ∈ bvals m, u.oneCell' = true := by
  intro u hu
  obtain ⟨_, _, rfl⟩ := List.mem_map.1 hu
  rfl
theorem bvals_new (w : World) (m : List UInt8) (t : TypeId) : ∀ j u, (bvals m)[j]? = some u → (w.alloc (.cells (bcells m) t)).cell? ((⟨w.heap.size, 0, none⟩ : Addr).add j) = some u := by
  intro j u hj
  have hb := (Blk.new w (bcells m) t).cell j
  have : (⟨w.heap.size, 0, none⟩ : Addr).add j = ⟨w.heap.size, j, none⟩ := by unfold Addr.add; split; (rename_i h; subst h; rfl); simp
  rw [this, hb]
  simpa [bcells, bvals] using hj
theorem putB_lit (n : Int) : ∃ a0 a1 a2 a3 a4 a5 a6 a7 : UInt8, putB n = [a0, a1, a2, a3, a4, a5, a6, a7] := ⟨_, _, _, _, _, _, _, _, rfl⟩
theorem Try.infoB : (Try.prog.info? 5).map (fun i => (i.zero, i.size, i.bytes)) = some (some (.int .u8 0), 1, 1) := by kernel_rfl

end Go.Proofs.Ytefgahcadfmmoaa
namespace Go.Proofs.Ytefgahcadfmmoaa
open Go.RowKit

theorem drewN_add (w : World) (a b : Nat) : (w.drewN a).drewN b = w.drewN (a + b) := by simp [World.drewN, Nat.add_assoc]
theorem below_drewN {B : Nat} {a w : World} (h : Below B a w) (n : Nat) : Below B a (w.drewN n) := ⟨h.os, h.tape, h.output, h.size, h.block⟩
theorem ext_eq (a b : List Int) (hl : a.length = b.length) (h : ∀ i, (ha : i < a.length) → a[i] = b[i]'(by omega)) : a = b := List.ext_getElem hl fun i h1 _ => h i h1

/-- a row of words -/
def RowAt (w : World) (v : Value) (l : List Int) : Prop := (l = [] ∧ ∃ p c, v = .slice p 0 c) ∨ (0 < l.length ∧ ∃ g o cap, v = .slice (some ⟨g, o, none⟩) l.length cap ∧ l.length ≤ cap ∧ g < w.heap.size ∧ WordsAt w g o l)
theorem RowAt.of_own {w : World} {base : Nat} {e : TypeId} {v : Value} {l : List Int} (h : w.ownsRow base e 1 v l.length (l.map (Value.int .u64))) : RowAt w v l := by
  rcases own_cases h with ⟨h0, a, c, rfl⟩ | ⟨hp, g, cap, rfl, _, h2, h3, _, h5, _⟩
  · exact .inl ⟨List.eq_nil_of_length_eq_zero h0, a, c, rfl⟩
  · exact .inr ⟨hp, g, 0, cap, rfl, h3, h2, fun i hi => by rw [Nat.zero_add, h5 i hi]; simp [hi]⟩
theorem RowAt.below {w w' : World} {v : Value} {l : List Int} (h : RowAt w v l) (hB : Below w.heap.size w w') : RowAt w' v l := by
  rcases h with h | ⟨h1, g, o, cap, h2, h3, h4, h5⟩
  · exact .inl h
  · exact .inr ⟨h1, g, o, cap, h2, h3, by have := hB.size; omega, h5.below hB h4⟩
/-- the text of words, if they are one's -/
def unpackT (l : List Int) : List UInt8 := (bytesW l.tail).take (l.headD 0).toNat
def unpackOk (l : List Int) : Bool := !l.isEmpty && decide (l.headD 0 ≤ 8 * ((l.length : Int) - 1)) && decide (packW (unpackT l) = l)
def UnpackPost (w : World) (l : List Int) (e : Ending) (w' : World) : Prop :=
  (e = if unpackOk l = true then .returned (.tuple #[.string ⟨(unpackT l).toArray⟩, .int .i64 0]) else .returned (.tuple #[.string ⟨#[]⟩, .int .i64 11])) ∧ Below w.heap.size w w'

end Go.Proofs.Ytefgahcadfmmoaa
namespace Go.Proofs.Ytefgahcadfmmoaa
open Go.RowKit
set_option linter.unusedVariables false

theorem set8x {wr : World} {b : Nat} {t : TypeId} {B : Nat} {w : World} {v0 v1 v2 v3 v4 v5 v6 v7 z0 z1 z2 z3 z4 z5 z6 z7 : Value} (h : Blk wr b #[z0, z1, z2, z3, z4, z5, z6, z7] t) (hB : Below B w wr) (hb : B ≤ b) :
    Blk ((((((((wr.setCell ⟨b, 0, none⟩ v0).setCell ⟨b, 1, none⟩ v1).setCell ⟨b, 2, none⟩ v2).setCell ⟨b, 3, none⟩ v3).setCell ⟨b, 4, none⟩ v4).setCell ⟨b, 5, none⟩ v5).setCell ⟨b, 6, none⟩ v6).setCell ⟨b, 7, none⟩ v7) b #[v0, v1, v2, v3, v4, v5, v6, v7] t ∧ Below B w ((((((((wr.setCell ⟨b, 0, none⟩ v0).setCell ⟨b, 1, none⟩ v1).setCell ⟨b, 2, none⟩ v2).setCell ⟨b, 3, none⟩ v3).setCell ⟨b, 4, none⟩ v4).setCell ⟨b, 5, none⟩ v5).setCell ⟨b, 6, none⟩ v6).setCell ⟨b, 7, none⟩ v7) := by
  refine ⟨?_, ?_⟩
  · have a0 := h.set 0 v0
    rw [show (#[z0, z1, z2, z3, z4, z5, z6, z7] : Array Value).setIfInBounds 0 v0 = (#[v0, z1, z2, z3, z4, z5, z6, z7] : Array Value) from rfl] at a0
    have a1 := a0.set 1 v1
    rw [show (#[v0, z1, z2, z3, z4, z5, z6, z7] : Array Value).setIfInBounds 1 v1 = (#[v0, v1, z2, z3, z4, z5, z6, z7] : Array Value) from rfl] at a1
    have a2 := a1.set 2 v2
    rw [show (#[v0, v1, z2, z3, z4, z5, z6, z7] : Array Value).setIfInBounds 2 v2 = (#[v0, v1, v2, z3, z4, z5, z6, z7] : Array Value) from rfl] at a2
    have a3 := a2.set 3 v3
    rw [show (#[v0, v1, v2, z3, z4, z5, z6, z7] : Array Value).setIfInBounds 3 v3 = (#[v0, v1, v2, v3, z4, z5, z6, z7] : Array Value) from rfl] at a3
    have a4 := a3.set 4 v4
    rw [show (#[v0, v1, v2, v3, z4, z5, z6, z7] : Array Value).setIfInBounds 4 v4 = (#[v0, v1, v2, v3, v4, z5, z6, z7] : Array Value) from rfl] at a4
    have a5 := a4.set 5 v5
    rw [show (#[v0, v1, v2, v3, v4, z5, z6, z7] : Array Value).setIfInBounds 5 v5 = (#[v0, v1, v2, v3, v4, v5, z6, z7] : Array Value) from rfl] at a5
    have a6 := a5.set 6 v6
    rw [show (#[v0, v1, v2, v3, v4, v5, z6, z7] : Array Value).setIfInBounds 6 v6 = (#[v0, v1, v2, v3, v4, v5, v6, z7] : Array Value) from rfl] at a6
    have a7 := a6.set 7 v7
    rw [show (#[v0, v1, v2, v3, v4, v5, v6, z7] : Array Value).setIfInBounds 7 v7 = (#[v0, v1, v2, v3, v4, v5, v6, v7] : Array Value) from rfl] at a7
    exact a7
  · have b0 := hB.setCell (p := ⟨b, 0, none⟩) hb v0
    have b1 := b0.setCell (p := ⟨b, 1, none⟩) hb v1
    have b2 := b1.setCell (p := ⟨b, 2, none⟩) hb v2
    have b3 := b2.setCell (p := ⟨b, 3, none⟩) hb v3
    have b4 := b3.setCell (p := ⟨b, 4, none⟩) hb v4
    have b5 := b4.setCell (p := ⟨b, 5, none⟩) hb v5
    have b6 := b5.setCell (p := ⟨b, 6, none⟩) hb v6
    have b7 := b6.setCell (p := ⟨b, 7, none⟩) hb v7
    exact b7

def BAt (w : World) (p : Option Addr) (L : List UInt8) : Prop := ∀ i, i < L.length → ∃ g o, p = some ⟨g, o, none⟩ ∧ g < w.heap.size ∧ w.cell? ⟨g, o + i, none⟩ = some (.int .u8 ((L.getD i 0).toNat : Int))
theorem BAt.below {w w' : World} {p : Option Addr} {L : List UInt8} (h : BAt w p L) (hB : Below w.heap.size w w') : BAt w' p L := fun i hi => by
  obtain ⟨g, o, h1, h2, h3⟩ := h i hi
  exact ⟨g, o, h1, Nat.lt_of_lt_of_le h2 hB.size, (hB.cell (p := ⟨g, o + i, none⟩) h2).trans h3⟩
theorem BAt.reads {w : World} {p : Option Addr} {L : List UInt8} (h : BAt w p L) : Reads w w.heap.size 1 p L.length (bvals L) := by
  refine ⟨by simp [bvals], fun h0 => ?_⟩
  obtain ⟨g, o, rfl, hg, _⟩ := h 0 h0
  refine ⟨_, rfl, hg, fun j u hu => ?_⟩
  have hj : j < L.length := by have := (List.getElem?_eq_some_iff.1 hu).1; simpa [bvals] using this
  obtain ⟨g', o', e, _, hc⟩ := h j hj
  cases e
  have e1 : (⟨g, o, none⟩ : Addr).add j = ⟨g, o + j, none⟩ := by unfold Addr.add; split; (rename_i h; subst h; rfl); rfl
  rw [e1, hc]
  simp [bvals, hj] at hu ⊢
  exact hu
theorem BAt.bytes {w : World} {g o : Nat} {L : List UInt8} (h : BAt w (some ⟨g, o, none⟩) L) : BytesAt w g o L := fun i hi => by
  obtain ⟨g', o', e, _, hc⟩ := h i hi
  cases e
  rw [hc]; simp [hi]
theorem BAt.of_own {w : World} {base : Nat} {e : TypeId} {p : Option Addr} {n c : Nat} {L : List UInt8} (h : w.ownsRow base e 1 (.slice p n c) L.length (bvals L)) : BAt w p L := fun i hi => by
  obtain ⟨g, cap, e1, _, hg, _, _, _, hc, _⟩ := own_shape h (by omega)
  cases e1
  exact ⟨g, 0, rfl, hg, by rw [Nat.zero_add, hc i hi]; simp [bvals, hi]⟩
theorem BAt.of_blk {w : World} {g : Nat} {cur : List Value} {t : TypeId} {L : List UInt8} (h : w.heap[g]? = some (.cells cur.toArray t (0, 0))) (ht : cur.take L.length = bvals L) : BAt w (some ⟨g, 0, none⟩) L := fun i hi => by
  refine ⟨g, 0, rfl, (Array.getElem?_eq_some_iff.1 h).1, ?_⟩
  have hb : Blk w g cur.toArray t := h
  rw [Nat.zero_add, hb.cell]
  have := congrArg (fun l => l[i]?) ht
  simp only [List.getElem?_take_of_lt hi] at this
  simp [this, bvals, hi]

theorem bytes_of {W : World} {a : Option Addr} {xs : List Int} (hwf : ∀ x ∈ xs, (Lit.int .u8 x).wf = true) (hc : 0 < xs.length → ∃ (g o : Nat), a = some ⟨g, o, none⟩ ∧ g < W.heap.size ∧ ∀ i, i < xs.length → W.cell? ⟨g, o + i, none⟩ = some (.int .u8 (xs.getD i 0))) :
    ∃ L : List UInt8, L.length = xs.length ∧ BAt W a L := by
  refine ⟨xs.map (fun x => UInt8.ofNat x.toNat), by simp, fun i hi => ?_⟩
  have hi' : i < xs.length := by simpa using hi
  obtain ⟨g, o, h1, h2, h3⟩ := hc (by omega)
  refine ⟨g, o, h1, h2, ?_⟩
  rw [h3 i hi']
  have hm : xs.getD i 0 ∈ xs := by simp [hi']
  have hb := hwf _ hm
  simp [Lit.wf, IntKind.min, IntKind.max, IntKind.signed, IntKind.bits] at hb
  have e : ((xs.map (fun x => UInt8.ofNat x.toNat)).getD i 0) = UInt8.ofNat (xs.getD i 0).toNat := by simp [hi']
  rw [e]
  have e2 : (UInt8.ofNat (xs.getD i 0).toNat).toNat = (xs.getD i 0).toNat := by
    rw [UInt8.toNat_ofNat']
    exact Nat.mod_eq_of_lt (by simp [hi'] at hb ⊢; omega)
  rw [e2]
  congr 2
  simp [hi'] at hb ⊢
  omega

end Go.Proofs.Ytefgahcadfmmoaa
