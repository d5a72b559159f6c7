/-
  'm[k], x = v, y': a map's entry met, then stored to: for keys of any kind ('Keyed'); and what a put and a delete do to 'who has it'.
-/
import Derived.Test.YtajccnmeijgagaaLib
import Derived.Maps.OwnSet
import Derived.WideKeyEntry
namespace Go.Proofs.Ytajccnmeijgagaa
open Go.RowKit Go.Maps Go.WideElems Go.ChangeMaps Go.MapKept Go.ChangeShapes Go.WideShapes

section
variable {H : Type} {P : Program} {w : World} {t k e : TypeId} {R : Value → Option (DataW H × List MemPlace)} {b n : Nat} {D : DataW H}

theorem own_entry (hown : w.ownsMap P k R b n D) (K : Keyed P k) (ht : P.underlying t = some (.map k e)) {z : Value} (hz : ∀ u : World, (zeroValue e).run P u = .ok z u) (hn : n < maxLen)
    {key val : Value} {kl : Lit} (hkey : keyOf P k key = some kl) {d : DataW H} {ps : List MemPlace} (hv : R val = some (d, ps)) :
    ∃ (v0 : Value) (st : Nat) (es1 : Array MapEntry) (c1 : Nat) (es2 : Array MapEntry) (c2 : Nat),
      (∀ W : World, W.heap[b]? = w.heap[b]? → (Instr.mapEntry t (.map (some b)) key).run P W = .ok (.tuple #[v0, goInt st]) (setBlock W b (.map es1 c1))) ∧
      (∀ W : World, W.heap[b]? = some (.map es1 c1) → (Instr.entryStore t (.map (some b)) (goInt st) val).run P W = .ok () (setBlock W b (.map es2 c2))) ∧
      ∀ W : World, W.heap[b]? = some (.map es2 c2) → W.ownsMap P k R b (n + 1) (D.put kl d) := by
  obtain ⟨w', hup, hown', _⟩ := hown.update K ht hn hkey hv
  obtain ⟨es, clock, hb, F, hs, hD⟩ := hown
  have fin : ∀ es2 c2, (Instr.mapUpdate t (.map (some b)) key val).run P w = .ok () (setBlock w b (.map es2 c2)) → ∀ W : World, W.heap[b]? = some (.map es2 c2) → W.ownsMap P k R b (n + 1) (D.put kl d) := by
    intro es2 c2 hrun W hW
    rw [hup] at hrun
    injection hrun with _ e2
    obtain ⟨es3, c3, hb3, r⟩ := hown'
    rw [e2, heap_setBlock_same hb] at hb3
    injection hb3 with hb3
    injection hb3 with q1 q2
    subst q1; subst q2
    exact ⟨_, _, hW, r⟩
  obtain ⟨s1, s2, _⟩ := F.stamped
  rcases K.find w hkey es.toList F.keys with ⟨h1, h2⟩ | ⟨j, e0, h1, h2, h3⟩
  · refine ⟨z, clock, es.push ⟨key, z, clock⟩, clock + 1, es.push ⟨key, val, clock⟩, clock + 1, fun W hW => ?_, fun W hW => ?_, fin _ _ ?_⟩
    · rw [hb] at hW
      rcases K.find W hkey es.toList F.keys with ⟨g1, _⟩ | ⟨j, e0, _, g2, g3⟩
      · simp [Instr.mapEntry, run_underlying ht, MapKept.run_getObj_map hW, K.check W false hkey, g1, hz, MapKept.run_setObj_map _ hW, Result.andThen, setBlock]
      · exact absurd g3 (h2 e0 (List.mem_of_getElem? g2))
    · have hidx : (es.push ⟨key, z, clock⟩).findIdx? (fun e => ((e.born : Nat) : Int) == ((clock : Nat) : Int)) = some es.size := by
        rw [findIdx_arr]
        have := findIdx_born (l := (es.push ⟨key, z, clock⟩).toList) (j := es.size) (e0 := ⟨key, z, clock⟩) (by
          simp only [Array.toList_push, List.map_append, List.map_cons, List.map_nil]
          refine List.nodup_append.2 ⟨s2, by simp, fun a ha c hc e1 => ?_⟩
          simp only [List.mem_singleton] at hc
          obtain ⟨x, hx, rfl⟩ := List.mem_map.1 ha
          have := s1 x hx
          omega) (by simp)
        exact this
      have hmod : (es.push ⟨key, z, clock⟩).modify es.size (fun e => { e with val := val }) = es.push ⟨key, val, clock⟩ := by
        apply Array.ext'
        rw [Array.toList_modify, Array.toList_push, Array.toList_push, ← Array.length_toList, modify_last]
      simp [Instr.entryStore, MapKept.run_getObj_map hW, asInt, asIntOf, goInt, hidx, hmod, MapKept.run_setObj_map _ hW, Result.andThen, setBlock]
    · simp [Instr.mapUpdate, run_underlying ht, MapKept.run_getObj_map hb, K.check w false hkey, h1, MapKept.run_setObj_map _ hb, Result.andThen, setBlock]
  · have hj : es[j]? = some e0 := by simpa using h2
    have hsame : es.modify j (fun e => { e with key := key }) = es := by
      apply Array.ext'
      rw [Array.toList_modify, modify_eq_set _ _ _ _ h2]
      have : ({ e0 with key := key } : MapEntry) = e0 := by rw [← h3]
      rw [this]
      exact set_self _ _ _ h2
    refine ⟨e0.val, e0.born, es, clock, es.modify j (fun e' => { e' with key := key, val := val }), clock, fun W hW => ?_, fun W hW => ?_, fin _ _ ?_⟩
    · rw [hb] at hW
      rcases K.find W hkey es.toList F.keys with ⟨_, g2⟩ | ⟨j', e0', g1, g2, g3⟩
      · exact absurd h3 (g2 e0 (List.mem_of_getElem? h2))
      · have hjj : j' = j := by
          have pw := List.pairwise_iff_getElem.1 ((stamped_iff es clock).1 F.stamped).2.2
          obtain ⟨l1, q1⟩ := List.getElem?_eq_some_iff.1 h2
          obtain ⟨l2, q2⟩ := List.getElem?_eq_some_iff.1 g2
          rcases Nat.lt_trichotomy j' j with hlt | he | hgt
          · exact absurd (by rw [q1, q2, h3, g3]) (pw j' j l2 l1 hlt)
          · exact he
          · exact absurd (by rw [q1, q2, h3, g3]) (pw j j' l1 l2 hgt)
        subst hjj
        obtain rfl : e0' = e0 := by rw [h2] at g2; exact (Option.some.inj g2).symm
        simp [Instr.mapEntry, run_underlying ht, MapKept.run_getObj_map hW, K.check W false hkey, g1, hj, h3, K.stays W hkey, hsame, MapKept.run_setObj_map _ hW, Result.andThen, setBlock]
    · have hidx : es.findIdx? (fun e => ((e.born : Nat) : Int) == ((e0.born : Nat) : Int)) = some j := by
        rw [findIdx_arr]
        exact findIdx_born s2 h2
      have hmod : es.modify j (fun e => { e with val := val }) = es.modify j (fun e' => { e' with key := key, val := val }) := by
        apply Array.ext'
        rw [Array.toList_modify, Array.toList_modify, modify_eq_set _ _ _ _ h2, modify_eq_set _ _ _ _ h2, ← h3]
      simp [Instr.entryStore, MapKept.run_getObj_map hW, asInt, asIntOf, goInt, hidx, hmod, MapKept.run_setObj_map _ hW, Result.andThen, setBlock]
    · simp [Instr.mapUpdate, run_underlying ht, MapKept.run_getObj_map hb, K.check w false hkey, h1, hj, h3, K.stays w hkey, MapKept.run_setObj_map _ hb, Result.andThen, setBlock]
end

/-- Who has a lock, by the map's datum. -/
def num {H : Type} : DataW H → Int
  | .lit (.int _ c) => c
  | _ => 0
def hold (D : DataW Unit) (a : Int) : Option Int := if Maps.has D (.int .u64 a) = true then some (num (D.atKey (.int .u64 a) (.lit (.int .i64 0)))) else none

def updI (h : Int → Option Int) (i : Int) (v : Option Int) : Int → Option Int := fun j => if j = i then v else h j

theorem hold_put {D : DataW Unit} (hD : Maps.IsMap D) (a c x : Int) : hold (D.put (.int .u64 a) (.lit (.int .i64 c))) x = updI (hold D) a (some c) x := by
  unfold hold updI
  by_cases e : x = a
  · subst e
    have hk : WideAt.IsKeyLit (.int .u64 x) := trivial
    rw [has_put_same hD hk, atKey_put_same hD hk]
    simp [num]
  · have hne : (Lit.int .u64 x) ≠ .int .u64 a := by simp [e]
    rw [has_put_other hne, atKey_put_other hne, if_neg e]
theorem hold_del {D : DataW Unit} (a x : Int) : hold (D.del (.int .u64 a)) x = updI (hold D) a none x := by
  unfold hold updI
  by_cases e : x = a
  · subst e
    rw [has_del_same]
    simp
  · have hne : (Lit.int .u64 x) ≠ .int .u64 a := by simp [e]
    rw [has_del_other hne, atKey_del_other hne, if_neg e]
theorem hold_empty (x : Int) : hold (.map []) x = none := rfl
theorem hold_some {D : DataW Unit} {a c : Int} (hat : D.atKey (.int .u64 a) (.lit (.int .i64 0)) = .lit (.int .i64 c)) (hh : Maps.has D (.int .u64 a) = true) : hold D a = some c := by
  unfold hold; rw [if_pos hh, hat]; rfl
theorem hold_none {D : DataW Unit} {a : Int} (hh : Maps.has D (.int .u64 a) = false) : hold D a = none := by
  unfold hold; rw [hh]; rfl
theorem has_hold {D : DataW Unit} {a : Int} : Maps.has D (.int .u64 a) = (hold D a).isSome := by
  unfold hold; cases Maps.has D (.int .u64 a) <;> rfl

end Go.Proofs.Ytajccnmeijgagaa
