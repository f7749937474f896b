/- Words for memory, over any program: an entry of a map that is fetched ahead of its value (m[k], n[j] = u, v). No condition. -/
import Derived.Test.YtcebckkpablagaaMap
namespace Go.Proofs.Ytcebckkpablagaa.M
open Go.ChangeShapes Go.WideShapes Go.ChangeAt Go.RowKit

set_option linter.unusedSectionVars false
section
variable {κ : Type} [DecidableEq κ] {P : Program}
variable {enc : κ → Value} {T : TypeId} {w w' : World} {b : Nat} {ents : List (κ × Value)}

/-- the entry of k stands, and bears the stamp st -/
def MapMid (w : World) (b : Nat) (enc : κ → Value) (ents : List (κ × Value)) (k : κ) (st : Nat) : Prop :=
  ∃ es clock j v, w.heap[b]? = some (.map es clock) ∧ Born es clock ∧ es.toList[j]? = some { key := enc k, val := v, born := st } ∧
    ∀ u, (es.toList.map (fun e => (e.key, e.val))).set j (enc k, u) = (putE k u ents).map (fun p => (enc p.1, p.2))
theorem MapMid.keep {M : Nat → Prop} {k : κ} {st : Nat} (h : MapMid w b enc ents k st) (f : Frm M w w') (hM : ¬ M b) : MapMid w' b enc ents k st := by
  obtain ⟨es, clock, j, v, hb, hr⟩ := h
  exact ⟨es, clock, j, v, (f.block b hM).trans hb, hr⟩

theorem findIdx_born {l : List MapEntry} (hn : (l.map (·.born)).Nodup) {j : Nat} {e0 : MapEntry} (h : l[j]? = some e0) : l.findIdx? (fun e => ((e.born : Nat) : Int) == ((e0.born : Nat) : Int)) = some j := by
  induction l generalizing j with
  | nil => simp at h
  | cons a r ih =>
    simp only [List.map_cons, List.nodup_cons] at hn
    cases j with
    | zero =>
      simp only [List.getElem?_cons_zero, Option.some.injEq] at h
      subst h
      simp [List.findIdx?_cons]
    | succ j =>
      simp only [List.getElem?_cons_succ] at h
      have hne : a.born ≠ e0.born := fun e1 => hn.1 (List.mem_map.2 ⟨e0, List.mem_of_getElem? h, e1.symm⟩)
      have hb : (((a.born : Nat) : Int) == ((e0.born : Nat) : Int)) = false := by
        simp only [beq_eq_false_iff_ne, ne_eq, Int.natCast_inj]
        exact hne
      rw [List.findIdx?_cons, hb]
      simp [ih hn.2 h]

theorem run_entry (K : KeyLaw P T enc) {M E : TypeId} (hM : P.underlying M = some (.map T E)) {z : Value} (hz : (P.info? E).map (·.zero) = some (some z)) (h : MapIs w b enc ents) (k : κ) :
    ∃ v st w', (Instr.mapEntry M (.map (some b)) (enc k)).run P w = .ok (.tuple #[v, goInt (st : Nat)]) w' ∧ MapMid w' b enc ents k st ∧ Frm (· = b) w w' ∧ w'.heap.size = w.heap.size := by
  obtain ⟨es, clock, hb, hs, he⟩ := h
  have hf := K.find k es.toList ents he w
  have hl : b < w.heap.size := (Array.getElem?_eq_some_iff.1 hb).1
  have hlen : es.toList.length = ents.length := by have := congrArg List.length he; simpa using this
  cases hi : P.info? E with
  | none => rw [hi] at hz; cases hz
  | some i =>
  rw [hi] at hz
  have hz' : i.zero = some z := by simpa using hz
  cases hx : idx k ents 0 with
  | none =>
    rw [hx] at hf
    refine ⟨z, clock, _, by simp [Instr.mapEntry, run_underlying hM, MapKept.run_getObj_map hb, K.check, hf, zeroValue, typeInfo, hi, hz', MapKept.run_setObj_map _ hb, Result.andThen]; rfl, ?_, ?_, ?_⟩
    · refine ⟨es.push { key := enc k, val := z, born := clock }, clock + 1, es.size, z, by simp [hl], hs.push _ _, by simp, fun u => ?_⟩
      rw [putE_idx_none k u ents 0 hx, Array.toList_push, List.map_append, he]
      have : es.size = (ents.map (fun p => (enc p.1, p.2))).length := by simpa using hlen
      rw [this]
      simp
    · refine ⟨rfl, rfl, rfl, by simp, fun i hi => ?_⟩
      simp only [Array.getElem?_setIfInBounds]
      rw [if_neg (fun e => hi e.symm)]
    · simp
  | some q =>
    obtain ⟨j, u⟩ := q
    rw [hx] at hf
    obtain ⟨_, hj, hju⟩ := idx_lt k ents 0 j u hx
    simp only [Nat.sub_zero, Nat.zero_add] at hj hju
    have hjes : j < es.size := by rw [← Array.length_toList, hlen]; exact hj
    have hkey : es[j].key = enc k ∧ es[j].val = u := by
      have := congrArg (fun l => l[j]?) he
      simp [hju, hjes] at this
      exact this
    have hst : (Instr.keyThatStays (enc k) (enc k)).run P w = .ok (enc k) w := by simp [Instr.keyThatStays, K.same]
    refine ⟨u, es[j].born, _, by simp [Instr.mapEntry, run_underlying hM, MapKept.run_getObj_map hb, K.check, hf, hjes, hkey, hst, MapKept.run_setObj_map _ hb, Result.andThen]; rfl, ?_, ?_, ?_⟩
    · refine ⟨es.modify j fun e => { e with key := enc k }, clock, j, u, by simp [hl], hs.modify _ _ (fun _ => rfl), ?_, fun v => ?_⟩
      · rw [Array.getElem?_toList, Array.getElem?_modify, if_pos rfl, Array.getElem?_eq_getElem hjes]
        obtain ⟨h1, h2⟩ := hkey
        simp only [Option.map_some]
        rw [h2]
      · rw [putE_idx_some k v ents 0 j u hx, Nat.sub_zero, List.map_set, ← he]
        apply List.ext_getElem?
        intro i
        simp only [List.getElem?_map, Array.getElem?_toList, Array.getElem?_modify, List.getElem?_set, List.length_map, Array.length_toList]
        by_cases hij : j = i
        · subst hij; simp [hjes]
        · simp [hij]
    · refine ⟨rfl, rfl, rfl, by simp, fun i hi => ?_⟩
      simp only [Array.getElem?_setIfInBounds]
      rw [if_neg (fun e => hi e.symm)]
    · simp

theorem run_entryStore (M : TypeId) {k : κ} {st : Nat} (h : MapMid w b enc ents k st) (u : Value) :
    ∃ w', (Instr.entryStore M (.map (some b)) (goInt (st : Nat)) u).run P w = .ok () w' ∧ MapIs w' b enc (putE k u ents) ∧ Frm (· = b) w w' ∧ w'.heap.size = w.heap.size := by
  obtain ⟨es, clock, j, v, hb, hs, hj, he⟩ := h
  have hl : b < w.heap.size := (Array.getElem?_eq_some_iff.1 hb).1
  have hjes : j < es.size := by
    have := (List.getElem?_eq_some_iff.1 hj).1
    simpa using this
  have hfi : es.findIdx? (fun e => ((e.born : Nat) : Int) == ((st : Nat) : Int)) = some j := by
    have h1 := findIdx_born hs.2 hj
    cases es
    simpa using h1
  refine ⟨_, by simp [Instr.entryStore, MapKept.run_getObj_map hb, asInt, asIntOf, goInt, hfi, MapKept.run_setObj_map _ hb, Result.andThen]; rfl, ?_, ?_, ?_⟩
  · refine ⟨es.modify j fun e => { e with val := u }, clock, by simp [hl], hs.modify _ _ (fun _ => rfl), ?_⟩
    rw [← he u]
    apply List.ext_getElem?
    intro i
    rw [List.getElem?_set]
    simp only [List.getElem?_map, Array.getElem?_toList, Array.getElem?_modify, List.length_map, Array.length_toList]
    by_cases hij : j = i
    · subst hij
      rw [Array.getElem?_toList] at hj
      simp [hjes]
      have := Array.getElem?_eq_getElem hjes
      rw [this] at hj
      injection hj with hj
      rw [hj]
    · simp [hij]
  · refine ⟨rfl, rfl, rfl, by simp, fun i hi => ?_⟩
    simp only [Array.getElem?_setIfInBounds]
    rw [if_neg (fun e => hi e.symm)]
  · simp
end
end Go.Proofs.Ytcebckkpablagaa.M
