/- Map -/
import Derived.Test.YtdgggjeiflllhaaZyArr
import Derived.Maps.RangeRun

namespace Go.Proofs.Ytdgggjeiflllhaa.M
open Go.ChangeShapes Go.WideShapes Go.ChangeAt Go.RowKit
section pure
variable {κ ν : Type} [DecidableEq κ]
def idx (k : κ) : List (κ × ν) → Nat → Option (Nat × ν)
  | [], _ => none
  | p :: r, i => if k = p.1 then some (i, p.2) else idx k r (i + 1)
def getE (k : κ) (l : List (κ × ν)) : Option ν := (idx k l 0).map (·.2)
def putE (k : κ) (v : ν) : List (κ × ν) → List (κ × ν)
  | [] => [(k, v)]
  | p :: r => if k = p.1 then (p.1, v) :: r else p :: putE k v r
def delE (k : κ) : List (κ × ν) → List (κ × ν)
  | [] => []
  | p :: r => if k = p.1 then r else p :: delE k r
theorem idx_snd (k : κ) (l : List (κ × ν)) : ∀ i j, (idx k l i).map (·.2) = (idx k l j).map (·.2) := by
  induction l with
  | nil => intro i j; rfl
  | cons p r ih => intro i j; unfold idx; split <;> simp [ih (i + 1) (j + 1)]
theorem getE_cons (k : κ) (p : κ × ν) (r : List (κ × ν)) : getE k (p :: r) = if k = p.1 then some p.2 else getE k r := by
  unfold getE
  rw [idx]
  split
  · rfl
  · exact idx_snd k r _ _
@[simp] theorem getE_nil (k : κ) : getE k ([] : List (κ × ν)) = none := rfl
theorem getE_put (k j : κ) (v : ν) (l : List (κ × ν)) : getE j (putE k v l) = if j = k then some v else getE j l := by
  induction l with
  | nil => simp [putE, getE_cons]
  | cons p r ih =>
    unfold putE
    split
    · rename_i h
      rw [getE_cons, getE_cons]
      by_cases hj : j = k
      · subst hj; simp [h]
      · rw [if_neg hj]; simp only; rw [← h, if_neg hj, if_neg hj]
    · rename_i h
      rw [getE_cons, getE_cons, ih]
      by_cases hj : j = k
      · subst hj; simp [h]
      · simp [hj]
theorem mem_keys_put (k : κ) (v : ν) (l : List (κ × ν)) : ∀ x, x ∈ (putE k v l).map (·.1) ↔ x = k ∨ x ∈ l.map (·.1) := by
  induction l with
  | nil => intro x; simp [putE]
  | cons p r ih =>
    intro x
    unfold putE
    split
    · rename_i h; simp [h]
    · simp only [List.map_cons, List.mem_cons, ih]; constructor
      · rintro (h | h | h) <;> simp [h]
      · rintro (h | h | h) <;> simp [h]
theorem nodup_put (k : κ) (v : ν) (l : List (κ × ν)) (h : (l.map (·.1)).Nodup) : ((putE k v l).map (·.1)).Nodup := by
  induction l with
  | nil => simp [putE]
  | cons p r ih =>
    simp only [List.map_cons, List.nodup_cons] at h
    unfold putE
    split
    · simpa using h
    · rename_i hk
      simp only [List.map_cons, List.nodup_cons]
      refine ⟨fun hm => ?_, ih h.2⟩
      rcases (mem_keys_put k v r p.1).1 hm with e | e
      · exact hk e.symm
      · exact h.1 e
theorem getE_none (k : κ) (l : List (κ × ν)) (h : k ∉ l.map (·.1)) : getE k l = none := by
  induction l with
  | nil => rfl
  | cons p r ih =>
    simp only [List.map_cons, List.mem_cons, not_or] at h
    rw [getE_cons, if_neg h.1, ih h.2]
theorem mem_keys_del (k : κ) (l : List (κ × ν)) : ∀ x, x ∈ (delE k l).map (·.1) → x ∈ l.map (·.1) := by
  induction l with
  | nil => intro x h; exact h
  | cons p r ih =>
    intro x
    unfold delE
    split
    · intro h; simp only [List.map_cons, List.mem_cons]; exact .inr h
    · simp only [List.map_cons, List.mem_cons]
      rintro (h | h)
      · exact .inl h
      · exact .inr (ih x h)
theorem nodup_del (k : κ) (l : List (κ × ν)) (h : (l.map (·.1)).Nodup) : ((delE k l).map (·.1)).Nodup := by
  induction l with
  | nil => exact h
  | cons p r ih =>
    simp only [List.map_cons, List.nodup_cons] at h
    unfold delE
    split
    · exact h.2
    · simp only [List.map_cons, List.nodup_cons]
      exact ⟨fun hm => h.1 (mem_keys_del k r _ hm), ih h.2⟩
theorem getE_del (k j : κ) (l : List (κ × ν)) (h : (l.map (·.1)).Nodup) : getE j (delE k l) = if j = k then none else getE j l := by
  induction l with
  | nil => simp [delE]
  | cons p r ih =>
    simp only [List.map_cons, List.nodup_cons] at h
    unfold delE
    split
    · rename_i hk
      rw [getE_cons]
      by_cases hj : j = k
      · subst hj; rw [if_pos rfl, hk]; exact getE_none _ _ h.1
      · rw [if_neg hj, ← hk, if_neg hj]
    · rename_i hk
      rw [getE_cons, getE_cons, ih h.2]
      by_cases hj : j = k
      · subst hj; simp [hk]
      · simp [hj]
end pure
set_option linter.unusedSectionVars false
section
variable {κ : Type} [DecidableEq κ] {P : Program}
structure KeyLaw (P : Program) (T : TypeId) (enc : κ → Value) : Prop where
  check : ∀ (e : Bool) (k : κ) (w : World), (Instr.checkKey e 10000 T (enc k)).run P w = .ok () w
  find : ∀ (k : κ) (l : List MapEntry) (ents : List (κ × Value)), l.map (fun e => (e.key, e.val)) = ents.map (fun p => (enc p.1, p.2)) → ∀ w, (Instr.findKey T (enc k) l).run P w = .ok (idx k ents 0) w
  same : ∀ k, Instr.sameBits 10000 (enc k) (enc k) = true
def Born (es : Array MapEntry) (clock : Nat) : Prop := (∀ x ∈ es.toList, x.born < clock) ∧ (es.toList.map (·.born)).Nodup
theorem Born.push {es : Array MapEntry} {clock : Nat} (h : Born es clock) (k v : Value) : Born (es.push { key := k, val := v, born := clock }) (clock + 1) := by
  refine ⟨fun x hx => ?_, ?_⟩
  · rw [Array.toList_push, List.mem_append] at hx
    rcases hx with hx | hx
    · have := h.1 x hx; omega
    · simp at hx; subst hx; exact Nat.lt_succ_self _
  · rw [Array.toList_push, List.map_append, List.nodup_append]
    refine ⟨h.2, by simp, fun a ha c hc e => ?_⟩
    obtain ⟨x, hx, rfl⟩ := List.mem_map.1 ha
    simp at hc
    have := h.1 x hx
    omega
theorem Born.modify {es : Array MapEntry} {clock : Nat} (h : Born es clock) (j : Nat) (f : MapEntry → MapEntry) (hf : ∀ e, (f e).born = e.born) : Born (es.modify j f) clock := by
  have hb : (es.modify j f).toList.map (·.born) = es.toList.map (·.born) := by
    apply List.ext_getElem?
    intro i
    simp only [List.getElem?_map, Array.getElem?_toList, Array.getElem?_modify]
    by_cases hij : j = i
    · subst hij; cases es[j]? <;> simp [hf]
    · simp [hij]
  refine ⟨fun x hx => ?_, by rw [hb]; exact h.2⟩
  have : x.born ∈ (es.modify j f).toList.map (·.born) := List.mem_map.2 ⟨x, hx, rfl⟩
  rw [hb] at this
  obtain ⟨y, hy, e⟩ := List.mem_map.1 this
  rw [← e]
  exact h.1 y hy
theorem Born.erase {es : Array MapEntry} {clock : Nat} (h : Born es clock) (j : Nat) : Born (es.eraseIdxIfInBounds j) clock := by
  have hs : List.Sublist (es.eraseIdxIfInBounds j).toList es.toList := by rw [Array.toList_eraseIdxIfInBounds]; exact List.eraseIdx_sublist ..
  exact ⟨fun x hx => h.1 x (hs.subset hx), h.2.sublist (hs.map _)⟩
def MapIs (w : World) (b : Nat) (enc : κ → Value) (ents : List (κ × Value)) : Prop :=
  ∃ es clock, w.heap[b]? = some (.map es clock) ∧ Born es clock ∧ es.toList.map (fun e => (e.key, e.val)) = ents.map (fun p => (enc p.1, p.2))
variable {enc : κ → Value} {T : TypeId} {w w' : World} {b : Nat} {ents : List (κ × Value)}
theorem MapIs.lt (h : MapIs w b enc ents) : b < w.heap.size := by
  obtain ⟨es, clock, hb, _⟩ := h
  exact (Array.getElem?_eq_some_iff.1 hb).1
theorem MapIs.fresh (h : MapIs w b enc ents) (f : Frm (New w) w w') : MapIs w' b enc ents := by
  have hl := h.lt
  obtain ⟨es, clock, hb, hs, he⟩ := h
  exact ⟨es, clock, (f.block b (by unfold New; omega)).trans hb, hs, he⟩
theorem MapIs.keep {M : Nat → Prop} (h : MapIs w b enc ents) (f : Frm M w w') (hM : ¬ M b) : MapIs w' b enc ents := by
  obtain ⟨es, clock, hb, hs, he⟩ := h
  exact ⟨es, clock, (f.block b hM).trans hb, hs, he⟩
theorem MapIs.new (w : World) (enc : κ → Value) : MapIs (w.alloc (.map #[] 0)) w.heap.size enc [] := ⟨#[], 0, heap_alloc_new w _, ⟨by simp, by simp⟩, rfl⟩
theorem idx_lt (k : κ) (l : List (κ × Value)) : ∀ i j v, idx k l i = some (j, v) → i ≤ j ∧ j < i + l.length ∧ (l[j - i]?) = some (k, v) := by
  induction l with
  | nil => intro i j v h; cases h
  | cons p r ih =>
    intro i j v h
    unfold idx at h
    split at h
    · rename_i hk
      simp only [Option.some.injEq, Prod.mk.injEq] at h
      obtain ⟨rfl, rfl⟩ := h
      refine ⟨Nat.le_refl _, by simp, ?_⟩
      rw [Nat.sub_self, hk]; rfl
    · obtain ⟨h1, h2, h3⟩ := ih (i + 1) j v h
      refine ⟨by omega, by simp; omega, ?_⟩
      rw [show j - i = j - (i + 1) + 1 from by omega]
      simpa using h3
theorem run_lookup (K : KeyLaw P T enc) {M E : TypeId} (hM : P.underlying M = some (.map T E)) {z : Value} (hz : (P.info? E).map (·.zero) = some (some z)) (h : MapIs w b enc ents) (k : κ) (ok : Bool) :
    (Instr.lookup M (.map (some b)) (enc k) ok).run P w = .ok (if ok then .tuple #[(getE k ents).getD z, .bool (getE k ents).isSome] else (getE k ents).getD z) w := by
  obtain ⟨es, clock, hb, hs, he⟩ := h
  have hf := K.find k es.toList ents he w
  cases hi : P.info? E with
  | none => rw [hi] at hz; cases hz
  | some i =>
    rw [hi] at hz
    have hz' : i.zero = some z := by simpa using hz
    unfold getE
    cases hx : idx k ents 0 with
    | none => rw [hx] at hf; simp [Instr.lookup, run_underlying hM, MapKept.run_getObj_map hb, K.check, hf, zeroValue, typeInfo, hi, hz']
    | some q =>
      obtain ⟨j, v⟩ := q
      rw [hx] at hf; simp [Instr.lookup, run_underlying hM, MapKept.run_getObj_map hb, K.check, hf]
theorem putE_idx_some (k : κ) (v : Value) (l : List (κ × Value)) : ∀ i j u, idx k l i = some (j, u) → putE k v l = l.set (j - i) (k, v) := by
  induction l with
  | nil => intro i j u h; cases h
  | cons p r ih =>
    intro i j u h
    unfold idx at h
    unfold putE
    split at h
    · rename_i hk
      simp only [Option.some.injEq, Prod.mk.injEq] at h
      obtain ⟨rfl, rfl⟩ := h
      rw [if_pos hk, Nat.sub_self, hk]; rfl
    · rename_i hk
      obtain ⟨h1, _, _⟩ := idx_lt k r _ _ _ h
      rw [if_neg hk, ih _ _ _ h, show j - i = j - (i + 1) + 1 from by omega]; rfl
theorem putE_idx_none (k : κ) (v : Value) (l : List (κ × Value)) : ∀ i, idx k l i = none → putE k v l = l ++ [(k, v)] := by
  induction l with
  | nil => intro i h; rfl
  | cons p r ih =>
    intro i h
    unfold idx at h
    unfold putE
    split at h
    · cases h
    · rename_i hk
      rw [if_neg hk, ih _ h]; rfl
theorem delE_idx_some (k : κ) (l : List (κ × Value)) : ∀ i j u, idx k l i = some (j, u) → delE k l = l.eraseIdx (j - i) := by
  induction l with
  | nil => intro i j u h; cases h
  | cons p r ih =>
    intro i j u h
    unfold idx at h
    unfold delE
    split at h
    · rename_i hk
      simp only [Option.some.injEq, Prod.mk.injEq] at h
      obtain ⟨rfl, rfl⟩ := h
      rw [if_pos hk, Nat.sub_self]; rfl
    · rename_i hk
      obtain ⟨h1, _, _⟩ := idx_lt k r _ _ _ h
      rw [if_neg hk, ih _ _ _ h, show j - i = j - (i + 1) + 1 from by omega]; rfl
theorem delE_idx_none (k : κ) (l : List (κ × Value)) : ∀ i, idx k l i = none → delE k l = l := by
  induction l with
  | nil => intro i h; rfl
  | cons p r ih =>
    intro i h
    unfold idx at h
    unfold delE
    split at h
    · cases h
    · rename_i hk
      rw [if_neg hk, ih _ h]
theorem map_erase {α β : Type} (f : α → β) : ∀ (l : List α) (j : Nat), (l.eraseIdx j).map f = (l.map f).eraseIdx j
  | [], _ => by simp
  | _ :: _, 0 => rfl
  | x :: l, j + 1 => by simp [map_erase f l j]
theorem run_update (K : KeyLaw P T enc) {M E : TypeId} (hM : P.underlying M = some (.map T E)) (h : MapIs w b enc ents) (k : κ) (v : Value) :
    ∃ w', (Instr.mapUpdate M (.map (some b)) (enc k) v).run P w = .ok () w' ∧ MapIs w' b enc (putE k v ents) ∧ Frm (· = b) w w' ∧ w'.heap.size = w.heap.size := by
  obtain ⟨es, clock, hb, hs, he⟩ := h
  have hf := K.find k es.toList ents he w
  have hl : b < w.heap.size := (Array.getElem?_eq_some_iff.1 hb).1
  have hlen : es.toList.length = ents.length := by have := congrArg List.length he; simpa using this
  cases hx : idx k ents 0 with
  | none =>
    rw [hx] at hf
    refine ⟨_, by simp [Instr.mapUpdate, run_underlying hM, MapKept.run_getObj_map hb, K.check, hf, MapKept.run_setObj_map _ hb, Result.andThen]; rfl, ?_, ?_, ?_⟩
    · refine ⟨es.push { key := enc k, val := v, born := clock }, clock + 1, by simp [hl], hs.push _ _, ?_⟩
      rw [putE_idx_none k v ents 0 hx]
      simp [he]
    · refine ⟨rfl, rfl, rfl, by simp, fun i hi => ?_⟩
      simp only [Array.getElem?_setIfInBounds]
      rw [if_neg (fun e => hi e.symm)]
    · simp
  | some q =>
    obtain ⟨j, u⟩ := q
    rw [hx] at hf
    obtain ⟨_, hj, hju⟩ := idx_lt k ents 0 j u hx
    simp only [Nat.sub_zero, Nat.zero_add] at hj hju
    have hjes : j < es.size := by rw [← Array.length_toList, hlen]; exact hj
    have hkey : es[j].key = enc k := by
      have := congrArg (fun l => l[j]?) he
      simp [hju, hjes] at this
      exact this.1
    have hst : (Instr.keyThatStays (enc k) (enc k)).run P w = .ok (enc k) w := by simp [Instr.keyThatStays, K.same]
    refine ⟨_, by simp [Instr.mapUpdate, run_underlying hM, MapKept.run_getObj_map hb, K.check, hf, hjes, hkey, hst, MapKept.run_setObj_map _ hb, Result.andThen]; rfl, ?_, ?_, ?_⟩
    · refine ⟨es.modify j fun e => { e with key := enc k, val := v }, clock, by simp [hl], hs.modify _ _ (fun _ => rfl), ?_⟩
      rw [putE_idx_some k v ents 0 j u hx, Nat.sub_zero]
      have : (es.modify j fun e => { e with key := enc k, val := v }).toList.map (fun e => (e.key, e.val)) = (es.toList.map (fun e => (e.key, e.val))).set j (enc k, v) := by
        apply List.ext_getElem?
        intro i
        simp only [List.getElem?_map, Array.getElem?_toList, Array.getElem?_modify, List.getElem?_set, List.length_map, Array.length_toList]
        by_cases hij : j = i
        · subst hij; simp [hjes]
        · simp [hij]
      rw [this, he, List.map_set]
    · refine ⟨rfl, rfl, rfl, by simp, fun i hi => ?_⟩
      simp only [Array.getElem?_setIfInBounds]
      rw [if_neg (fun e => hi e.symm)]
    · simp
theorem run_delete (K : KeyLaw P T enc) {M E : TypeId} (hM : P.underlying M = some (.map T E)) (h : MapIs w b enc ents) (k : κ) (ty u : TypeId) :
    ∃ w', (Builtin.delete_ #[M, u] ty #[.map (some b), enc k]).run P w = .ok (.tuple #[]) w' ∧ MapIs w' b enc (delE k ents) ∧ Frm (· = b) w w' ∧ w'.heap.size = w.heap.size := by
  obtain ⟨es, clock, hb, hs, he⟩ := h
  have hf := K.find k es.toList ents he w
  have hl : b < w.heap.size := (Array.getElem?_eq_some_iff.1 hb).1
  cases hx : idx k ents 0 with
  | none =>
    rw [hx] at hf
    refine ⟨_, by simp [Builtin.delete_, run_underlying hM, MapKept.run_getObj_map hb, K.check, hf, MapKept.run_setObj_map _ hb, Result.andThen]; rfl, ?_, ?_, ?_⟩
    · refine ⟨es, clock, by simp [hl], hs, ?_⟩
      rw [delE_idx_none k ents 0 hx, he]
    · refine ⟨rfl, rfl, rfl, by simp, fun i hi => ?_⟩
      simp only [Array.getElem?_setIfInBounds]
      rw [if_neg (fun e => hi e.symm)]
    · simp
  | some q =>
    obtain ⟨j, u⟩ := q
    rw [hx] at hf
    refine ⟨_, by simp [Builtin.delete_, run_underlying hM, MapKept.run_getObj_map hb, K.check, hf, MapKept.run_setObj_map _ hb, Result.andThen]; rfl, ?_, ?_, ?_⟩
    · refine ⟨es.eraseIdxIfInBounds j, clock, by simp [hl], hs.erase _, ?_⟩
      rw [delE_idx_some k ents 0 j u hx, Nat.sub_zero, Array.toList_eraseIdxIfInBounds, map_erase, he, ← map_erase]
    · refine ⟨rfl, rfl, rfl, by simp, fun i hi => ?_⟩
      simp only [Array.getElem?_setIfInBounds]
      rw [if_neg (fun e => hi e.symm)]
    · simp
section
variable {ops : Array Oper} {rest : List Oper} {o : Oper} {a : Act} {Q : Exit → Act → World → Prop}
theorem wpList_update (K : KeyLaw P T enc) {M E : TypeId} (hM : P.underlying M = some (.map T E)) (hgd : o.guard = none) {x y v : Operand} (ho : o.op = .mapUpdate M x y v)
    (hx : a.eval x = .map (some b)) {k : κ} (hy : a.eval y = enc k) (h : MapIs w b enc ents)
    (hK : ∀ w', MapIs w' b enc (putE k (a.eval v) ents) → Frm (· = b) w w' → w'.heap.size = w.heap.size → wpList P ops Q rest (a.put o.dst undef) w') : wpList P ops Q (o :: rest) a w := by
  refine wpList_plain hgd fun _ hKK => ?_
  obtain ⟨w', hr, h1, h2, h3⟩ := run_update K hM h k (a.eval v)
  unfold Oper.wp execOp
  simp only [ho, hx, hy, Sem.run_bind, hr, Result.andThen_ok, Sem.run_pure]
  exact hKK _ _ (hK _ h1 h2 h3)
theorem wpList_delete (K : KeyLaw P T enc) {M E u : TypeId} (hM : P.underlying M = some (.map T E)) (hgd : o.guard = none) {x y : Operand} (ho : o.op = .call { callee := .builtin .delete, args := #[x, y], argTypes := #[M, u] })
    (hx : a.eval x = .map (some b)) {k : κ} (hy : a.eval y = enc k) (h : MapIs w b enc ents)
    (hK : ∀ w', MapIs w' b enc (delE k ents) → Frm (· = b) w w' → w'.heap.size = w.heap.size → wpList P ops Q rest (a.put o.dst (.tuple #[])) w') : wpList P ops Q (o :: rest) a w := by
  refine wpList_plain hgd fun _ hKK => ?_
  obtain ⟨w', hr, h1, h2, h3⟩ := run_delete K hM h k o.type u
  unfold Oper.wp execOp
  simp only [ho, resolve, invoke, builtin, Sem.run_bind, Sem.run_pure, Result.andThen_ok, List.map_toArray, List.map_cons, List.map_nil, hx, hy, hr]
  exact hKK _ _ (hK _ h1 h2 h3)
end
theorem find_now {kind : TypeDesc} (hu : P.underlying T = some kind) (hs : ∀ a b : κ, Instr.sameNow kind (enc a) (enc b) = some (decide (a = b))) (k : κ) (l : List MapEntry) (ents : List (κ × Value))
    (he : l.map (fun e => (e.key, e.val)) = ents.map (fun p => (enc p.1, p.2))) (w : World) : (Instr.findKey T (enc k) l).run P w = .ok (idx k ents 0) w := by
  have key : ∀ (l : List MapEntry) (ents : List (κ × Value)) (i : Nat), l.map (fun e => (e.key, e.val)) = ents.map (fun p => (enc p.1, p.2)) → Instr.findNow kind (enc k) l i = some (idx k ents i) := by
    intro l
    induction l with
    | nil => intro ents i he; cases ents with
      | nil => rfl
      | cons p r => cases he
    | cons e l ih =>
      intro ents i he
      cases ents with
      | nil => cases he
      | cons p r =>
        simp only [List.map_cons, List.cons.injEq, Prod.mk.injEq] at he
        obtain ⟨⟨hk, hv⟩, hr⟩ := he
        unfold Instr.findNow idx
        rw [hk, hs]
        by_cases h : k = p.1
        · simp [h, hv]
        · simp [h]; exact ih r (i + 1) hr
  simp [Instr.findKey, run_underlying hu, key l ents 0 he]
theorem find_asking {kind : TypeDesc} (hu : P.underlying T = some kind) (hs : ∀ a b : κ, Instr.sameNow kind (enc a) (enc b) = none) (heq : ∀ (a b : κ) (w : World), (Op.equal T (enc a) (enc b)).run P w = .ok (decide (a = b)) w)
    (k : κ) (l : List MapEntry) (ents : List (κ × Value)) (he : l.map (fun e => (e.key, e.val)) = ents.map (fun p => (enc p.1, p.2))) (w : World) : (Instr.findKey T (enc k) l).run P w = .ok (idx k ents 0) w := by
  have key : ∀ (l : List MapEntry) (ents : List (κ × Value)) (i : Nat), l.map (fun e => (e.key, e.val)) = ents.map (fun p => (enc p.1, p.2)) → (Instr.findAsking T (enc k) l i).run P w = .ok (idx k ents i) w := by
    intro l
    induction l with
    | nil => intro ents i he; cases ents with
      | nil => rfl
      | cons p r => cases he
    | cons e l ih =>
      intro ents i he
      cases ents with
      | nil => cases he
      | cons p r =>
        simp only [List.map_cons, List.cons.injEq, Prod.mk.injEq] at he
        obtain ⟨⟨hk, hv⟩, hr⟩ := he
        unfold Instr.findAsking idx
        rw [hk, Sem.run_bind, heq]
        by_cases h : k = p.1
        · simp [h, hv]
        · simp [h]; exact ih r (i + 1) hr
  cases l with
  | nil =>
    cases ents with
    | nil => simp [Instr.findKey, run_underlying hu, Instr.findNow, idx]
    | cons p r => cases he
  | cons e l =>
    have hn : Instr.findNow kind (enc k) (e :: l) 0 = none := by
      cases ents with
      | nil => cases he
      | cons p r =>
        simp only [List.map_cons, List.cons.injEq, Prod.mk.injEq] at he
        unfold Instr.findNow
        rw [he.1.1, hs]
    simp [Instr.findKey, run_underlying hu, hn, key (e :: l) ents 0 he]
end
end Go.Proofs.Ytdgggjeiflllhaa.M
namespace Go.Proofs.Ytdgggjeiflllhaa.M
open Go.ChangeShapes Go.WideShapes Go.ChangeAt Go.RowKit
set_option linter.unusedSectionVars false
section
variable {κ : Type} [DecidableEq κ] {P : Program}
variable {enc : κ → Value} {T : TypeId} {w w' : World} {b : Nat} {ents : List (κ × Value)}
def MapMid (w : World) (b : Nat) (enc : κ → Value) (ents : List (κ × Value)) (k : κ) (st : Nat) : Prop :=
  ∃ es clock j v, w.heap[b]? = some (.map es clock) ∧ Born es clock ∧ es.toList[j]? = some { key := enc k, val := v, born := st } ∧
    ∀ u, (es.toList.map (fun e => (e.key, e.val))).set j (enc k, u) = (putE k u ents).map (fun p => (enc p.1, p.2))
theorem MapMid.keep {M : Nat → Prop} {k : κ} {st : Nat} (h : MapMid w b enc ents k st) (f : Frm M w w') (hM : ¬ M b) : MapMid w' b enc ents k st := by
  obtain ⟨es, clock, j, v, hb, hr⟩ := h
  exact ⟨es, clock, j, v, (f.block b hM).trans hb, hr⟩
theorem findIdx_born {l : List MapEntry} (hn : (l.map (·.born)).Nodup) {j : Nat} {e0 : MapEntry} (h : l[j]? = some e0) : l.findIdx? (fun e => ((e.born : Nat) : Int) == ((e0.born : Nat) : Int)) = some j := by
  induction l generalizing j with
  | nil => simp at h
  | cons a r ih =>
    simp only [List.map_cons, List.nodup_cons] at hn
    cases j with
    | zero =>
      simp only [List.getElem?_cons_zero, Option.some.injEq] at h
      subst h
      simp [List.findIdx?_cons]
    | succ j =>
      simp only [List.getElem?_cons_succ] at h
      have hne : a.born ≠ e0.born := fun e1 => hn.1 (List.mem_map.2 ⟨e0, List.mem_of_getElem? h, e1.symm⟩)
      have hb : (((a.born : Nat) : Int) == ((e0.born : Nat) : Int)) = false := by
        simp only [beq_eq_false_iff_ne, ne_eq, Int.natCast_inj]
        exact hne
      rw [List.findIdx?_cons, hb]
      simp [ih hn.2 h]
theorem run_entry (K : KeyLaw P T enc) {M E : TypeId} (hM : P.underlying M = some (.map T E)) {z : Value} (hz : (P.info? E).map (·.zero) = some (some z)) (h : MapIs w b enc ents) (k : κ) :
    ∃ v st w', (Instr.mapEntry M (.map (some b)) (enc k)).run P w = .ok (.tuple #[v, goInt (st : Nat)]) w' ∧ MapMid w' b enc ents k st ∧ Frm (· = b) w w' ∧ w'.heap.size = w.heap.size := by
  obtain ⟨es, clock, hb, hs, he⟩ := h
  have hf := K.find k es.toList ents he w
  have hl : b < w.heap.size := (Array.getElem?_eq_some_iff.1 hb).1
  have hlen : es.toList.length = ents.length := by have := congrArg List.length he; simpa using this
  cases hi : P.info? E with
  | none => rw [hi] at hz; cases hz
  | some i =>
  rw [hi] at hz
  have hz' : i.zero = some z := by simpa using hz
  cases hx : idx k ents 0 with
  | none =>
    rw [hx] at hf
    refine ⟨z, clock, _, by simp [Instr.mapEntry, run_underlying hM, MapKept.run_getObj_map hb, K.check, hf, zeroValue, typeInfo, hi, hz', MapKept.run_setObj_map _ hb, Result.andThen]; rfl, ?_, ?_, ?_⟩
    · refine ⟨es.push { key := enc k, val := z, born := clock }, clock + 1, es.size, z, by simp [hl], hs.push _ _, by simp, fun u => ?_⟩
      rw [putE_idx_none k u ents 0 hx, Array.toList_push, List.map_append, he]
      have : es.size = (ents.map (fun p => (enc p.1, p.2))).length := by simpa using hlen
      rw [this]
      simp
    · refine ⟨rfl, rfl, rfl, by simp, fun i hi => ?_⟩
      simp only [Array.getElem?_setIfInBounds]
      rw [if_neg (fun e => hi e.symm)]
    · simp
  | some q =>
    obtain ⟨j, u⟩ := q
    rw [hx] at hf
    obtain ⟨_, hj, hju⟩ := idx_lt k ents 0 j u hx
    simp only [Nat.sub_zero, Nat.zero_add] at hj hju
    have hjes : j < es.size := by rw [← Array.length_toList, hlen]; exact hj
    have hkey : es[j].key = enc k ∧ es[j].val = u := by
      have := congrArg (fun l => l[j]?) he
      simp [hju, hjes] at this
      exact this
    have hst : (Instr.keyThatStays (enc k) (enc k)).run P w = .ok (enc k) w := by simp [Instr.keyThatStays, K.same]
    refine ⟨u, es[j].born, _, by simp [Instr.mapEntry, run_underlying hM, MapKept.run_getObj_map hb, K.check, hf, hjes, hkey, hst, MapKept.run_setObj_map _ hb, Result.andThen]; rfl, ?_, ?_, ?_⟩
    · refine ⟨es.modify j fun e => { e with key := enc k }, clock, j, u, by simp [hl], hs.modify _ _ (fun _ => rfl), ?_, fun v => ?_⟩
      · rw [Array.getElem?_toList, Array.getElem?_modify, if_pos rfl, Array.getElem?_eq_getElem hjes]
        obtain ⟨h1, h2⟩ := hkey
        simp only [Option.map_some]
        rw [h2]
      · rw [putE_idx_some k v ents 0 j u hx, Nat.sub_zero, List.map_set, ← he]
        apply List.ext_getElem?
        intro i
        simp only [List.getElem?_map, Array.getElem?_toList, Array.getElem?_modify, List.getElem?_set, List.length_map, Array.length_toList]
        by_cases hij : j = i
        · subst hij; simp [hjes]
        · simp [hij]
    · refine ⟨rfl, rfl, rfl, by simp, fun i hi => ?_⟩
      simp only [Array.getElem?_setIfInBounds]
      rw [if_neg (fun e => hi e.symm)]
    · simp
theorem run_entryStore (M : TypeId) {k : κ} {st : Nat} (h : MapMid w b enc ents k st) (u : Value) :
    ∃ w', (Instr.entryStore M (.map (some b)) (goInt (st : Nat)) u).run P w = .ok () w' ∧ MapIs w' b enc (putE k u ents) ∧ Frm (· = b) w w' ∧ w'.heap.size = w.heap.size := by
  obtain ⟨es, clock, j, v, hb, hs, hj, he⟩ := h
  have hl : b < w.heap.size := (Array.getElem?_eq_some_iff.1 hb).1
  have hjes : j < es.size := by
    have := (List.getElem?_eq_some_iff.1 hj).1
    simpa using this
  have hfi : es.findIdx? (fun e => ((e.born : Nat) : Int) == ((st : Nat) : Int)) = some j := by
    have h1 := findIdx_born hs.2 hj
    cases es
    simpa using h1
  refine ⟨_, by simp [Instr.entryStore, MapKept.run_getObj_map hb, asInt, asIntOf, goInt, hfi, MapKept.run_setObj_map _ hb, Result.andThen]; rfl, ?_, ?_, ?_⟩
  · refine ⟨es.modify j fun e => { e with val := u }, clock, by simp [hl], hs.modify _ _ (fun _ => rfl), ?_⟩
    rw [← he u]
    apply List.ext_getElem?
    intro i
    rw [List.getElem?_set]
    simp only [List.getElem?_map, Array.getElem?_toList, Array.getElem?_modify, List.length_map, Array.length_toList]
    by_cases hij : j = i
    · subst hij
      rw [Array.getElem?_toList] at hj
      simp [hjes]
      have := Array.getElem?_eq_getElem hjes
      rw [this] at hj
      injection hj with hj
      rw [hj]
    · simp [hij]
  · refine ⟨rfl, rfl, rfl, by simp, fun i hi => ?_⟩
    simp only [Array.getElem?_setIfInBounds]
    rw [if_neg (fun e => hi e.symm)]
  · simp
end
end Go.Proofs.Ytdgggjeiflllhaa.M
namespace Go.Proofs.Ytdgggjeiflllhaa.M
open Go.ChangeShapes Go.WideShapes Go.ChangeAt Go.RowKit
section
open Go.ChangeMaps (setBlock)
variable {P : Program} {κ : Type} {enc : κ → Value} {w w' : World} {r b : Nat} {ents : List (κ × Value)} {S : List Nat}
variable {ops : Array Oper} {rest : List Oper} {o : Oper} {a : Act} {Q : Exit → Act → World → Prop}
end
end Go.Proofs.Ytdgggjeiflllhaa.M

