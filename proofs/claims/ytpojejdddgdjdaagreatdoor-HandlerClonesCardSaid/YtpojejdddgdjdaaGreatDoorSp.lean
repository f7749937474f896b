/- What a message's fields are: the pseudo ones, the others; plain. No condition. -/
import Derived.Test.YtpojejdddgdjdaaGreatDoorSg
namespace Go.Proofs.YtpojejdddgdjdaaGreatDoor.M
open Go.ChangeShapes Go.WideShapes Go.ChangeAt Go.RowKit

def ps (f : Fld) : Bool := decide (f.1.head? = some 58)
/-- pseudo fields ahead, each once, of these names; the others behind -/
structure Shp (names : List Bytes) (n : Int) (S R : List Fld) : Prop where
  s : ∀ f ∈ S, ps f = true ∧ f.1 ∈ names ∧ nameOk f.1.tail = true ∧ valOk f.2 = true
  nd : (S.map Prod.fst).Nodup
  r : ∀ f ∈ R, ps f = false ∧ plainOk f n = true
def Bad (names : List Bytes) (n : Int) (l : List Fld) : Prop := ∀ S R, l = S ++ R → ¬ Shp names n S R
section
variable {names : List Bytes} {n : Int} {S R S' R' l : List Fld} {f : Fld} {k : Nat}
theorem Shp.nil : Shp names n [] [] := ⟨fun f h => (by cases h), List.nodup_nil, fun f h => (by cases h)⟩
theorem Shp.rest (h : Shp names n S R) (h1 : ps f = false) (h2 : plainOk f n = true) : Shp names n S (R ++ [f]) :=
  ⟨h.s, h.nd, fun g hg => by
    rcases List.mem_append.1 hg with hg | hg
    · exact h.r g hg
    · rw [List.mem_singleton.1 hg]; exact ⟨h1, h2⟩⟩
theorem Shp.more (h : Shp names n S []) (h1 : ps f = true) (h2 : f.1 ∈ names) (h3 : nameOk f.1.tail = true) (h4 : valOk f.2 = true) (h5 : f.1 ∉ S.map Prod.fst) : Shp names n (S ++ [f]) [] := by
  refine ⟨fun g hg => ?_, ?_, fun g hg => (by cases hg)⟩
  · rcases List.mem_append.1 hg with hg | hg
    · exact h.s g hg
    · rw [List.mem_singleton.1 hg]; exact ⟨h1, h2, h3, h4⟩
  · rw [List.map_append]
    refine List.nodup_append.2 ⟨h.nd, by simp, fun a ha b hb e => ?_⟩
    simp only [List.map_cons, List.map_nil, List.mem_singleton] at hb
    rw [e, hb] at ha
    exact h5 ha
theorem Shp.unique (h : Shp names n S R) (h' : Shp names n S' R') (e : S ++ R = S' ++ R') : S = S' ∧ R = R' := by
  have key : ∀ (S R S' R' : List Fld), (∀ f ∈ S, ps f = true) → (∀ f ∈ R, ps f = false) → (∀ f ∈ S', ps f = true) → (∀ f ∈ R', ps f = false) → S ++ R = S' ++ R' → S = S' ∧ R = R' := by
    intro S
    induction S with
    | nil =>
      intro R S' R' _ h2 h3 _ e
      cases S' with
      | nil => exact ⟨rfl, e⟩
      | cons x t =>
        have := h2 x (by rw [List.nil_append] at e; rw [e]; simp)
        rw [h3 x (by simp)] at this
        cases this
    | cons y s ih =>
      intro R S' R' h1 h2 h3 h4 e
      cases S' with
      | nil =>
        have := h4 y (by rw [List.nil_append] at e; rw [← e]; simp)
        rw [h1 y (by simp)] at this
        cases this
      | cons x t =>
        simp only [List.cons_append, List.cons.injEq] at e
        obtain ⟨e1, e2⟩ := ih R t R' (fun f hf => h1 f (by simp [hf])) h2 (fun f hf => h3 f (by simp [hf])) h4 e.2
        exact ⟨by rw [e.1, e1], e2⟩
  exact key S R S' R' (fun f hf => (h.s f hf).1) (fun f hf => (h.r f hf).1) (fun f hf => (h'.s f hf).1) (fun f hf => (h'.r f hf).1) e
theorem Shp.at_ (h : Shp names n S' R') (hl : l = S' ++ R') (hk : k < l.length) (hp : ps l[k] = true) : ∃ hks : k < S'.length, l[k] = S'[k] := by
  subst hl
  by_cases hks : k < S'.length
  · exact ⟨hks, by rw [List.getElem_append_left hks]⟩
  · rw [List.getElem_append_right (by omega)] at hp
    have hkr : k - S'.length < R'.length := by rw [List.length_append] at hk; omega
    have := (h.r (R'[k - S'.length]'hkr) (List.getElem_mem hkr)).1
    rw [this] at hp
    cases hp
theorem bad_plain (hk : k < l.length) (h1 : ps l[k] = false) (h2 : plainOk l[k] n = false) : Bad names n l := fun S' R' e h => by
  have hm : l[k] ∈ S' ++ R' := by rw [← e]; exact List.getElem_mem hk
  rcases List.mem_append.1 hm with hm | hm
  · rw [(h.s _ hm).1] at h1; cases h1
  · rw [(h.r _ hm).2] at h2; cases h2
theorem bad_pseudo (hk : k < l.length) (h1 : ps l[k] = true) (h2 : l[k].1 ∉ names ∨ nameOk l[k].1.tail = false ∨ valOk l[k].2 = false) : Bad names n l := fun S' R' e h => by
  have hm : l[k] ∈ S' ++ R' := by rw [← e]; exact List.getElem_mem hk
  rcases List.mem_append.1 hm with hm | hm
  · obtain ⟨_, a, b, c⟩ := h.s _ hm
    rcases h2 with h2 | h2 | h2
    · exact h2 a
    · rw [b] at h2; cases h2
    · rw [c] at h2; cases h2
  · rw [(h.r _ hm).1] at h1; cases h1
theorem bad_behind (hk : k < l.length) (hs : l.take k = S ++ R) (h : Shp names n S R) (h1 : ps l[k] = true) (h2 : R ≠ []) : Bad names n l := fun S' R' e h' => by
  obtain ⟨hks, _⟩ := h'.at_ e hk h1
  obtain ⟨g, r, rfl⟩ : ∃ g r, R = g :: r := by
    cases R with
    | nil => exact absurd rfl h2
    | cons g r => exact ⟨g, r, rfl⟩
  have hlen : S.length < k := by
    have := congrArg List.length hs
    rw [List.length_take, List.length_append, List.length_cons] at this
    omega
  have h3 : (l.take k)[S.length]? = some g := by rw [hs]; simp
  rw [List.getElem?_take, if_pos hlen] at h3
  have h4 : l[S.length]? = S'[S.length]? := by rw [e, List.getElem?_append_left (by omega)]
  rw [h4, List.getElem?_eq_getElem (by omega)] at h3
  injection h3 with h3
  have h5 := (h'.s _ (List.getElem_mem (show S.length < S'.length by omega))).1
  rw [h3, (h.r g (by simp)).1] at h5
  cases h5
theorem bad_twice (hk : k < l.length) (hs : l.take k = S) (h1 : ps l[k] = true) (h2 : l[k].1 ∈ S.map Prod.fst) : Bad names n l := fun S' R' e h' => by
  obtain ⟨hks, hkk⟩ := h'.at_ e hk h1
  obtain ⟨g, hg, hge⟩ := List.mem_map.1 h2
  obtain ⟨j, hj, rfl⟩ := List.getElem_of_mem hg
  have hjk : j < k := by
    have := congrArg List.length hs
    rw [List.length_take] at this
    omega
  have h3 : S[j] = S'[j] := by
    have e1 : S[j]? = l[j]? := by rw [← hs, List.getElem?_take, if_pos hjk]
    have e2 : l[j]? = S'[j]? := by rw [e, List.getElem?_append_left (by omega)]
    rw [e2, List.getElem?_eq_getElem hj, List.getElem?_eq_getElem (by omega)] at e1
    injection e1
  have hnd := h'.nd
  have h4 : (S'.map Prod.fst)[j]'(by simp; omega) = (S'.map Prod.fst)[k]'(by simpa using hks) := by
    rw [List.getElem_map, List.getElem_map, ← h3, ← hkk, hge]
  exact List.pairwise_iff_getElem.1 hnd j k (by simp; omega) (by simpa using hks) hjk h4
end
/-- what a pseudo field says -/
def val (S : List Fld) (nm : Bytes) : Bytes := match S.find? (fun f => decide (f.1 = nm)) with
  | some f => f.2
  | none => []
theorem val_nil (nm : Bytes) : val [] nm = [] := rfl
theorem val_snoc (S : List Fld) (f : Fld) (nm : Bytes) (h : f.1 ∉ S.map Prod.fst) : val (S ++ [f]) nm = if f.1 = nm then f.2 else val S nm := by
  unfold val
  rw [List.find?_append]
  by_cases hn : f.1 = nm
  · rw [if_pos hn]
    have h1 : S.find? (fun f => decide (f.1 = nm)) = none := List.find?_eq_none.2 (fun g hg => by
      simp only [decide_eq_true_eq]
      intro e
      exact h (List.mem_map.2 ⟨g, hg, by rw [e, hn]⟩))
    rw [h1]
    simp [hn]
  · rw [if_neg hn]
    cases hs : S.find? (fun f => decide (f.1 = nm)) with
    | some g => simp
    | none => simp [hn]
/-- the document's field says the same -/
theorem fieldOk_plain (f : Fld) (n : Int) (h : ps f = false) : plainOk f n = (fieldOk f && (!decide (f.1 = bCL) || isLen f.2 n)) := by
  unfold ps at h
  have h1 := of_decide_eq_false h
  unfold plainOk fieldOk
  rw [if_neg h1]
  by_cases ht : f.1 = bTe
  · have hc : ¬ f.1 = bCL := by rw [ht]; decide
    simp [ht]
    intro _ _ _ _
    exact Or.inl (by decide)
  · by_cases hc : f.1 = bCL
    · rw [if_neg ht, if_pos hc, if_neg ht]
      simp [hc, Bool.and_assoc]
    · rw [if_neg ht, if_neg hc, if_neg ht]
      simp [hc]
theorem fieldOk_pseudo (f : Fld) (h : ps f = true) : fieldOk f = (nameOk f.1.tail && valOk f.2) := by
  unfold ps at h
  have h1 := of_decide_eq_true h
  unfold fieldOk
  rw [if_pos h1]
  have hne : ∀ b : Bytes, b.head? ≠ some 58 → f.1 ≠ b := fun b hb e => hb (by rw [← e]; exact h1)
  have hh : hop f.1 = false := by
    unfold hop
    rw [decide_eq_false (hne bConn (by decide)), decide_eq_false (hne bKeep (by decide)), decide_eq_false (hne bProxy (by decide)), decide_eq_false (hne bTrans (by decide)), decide_eq_false (hne bUp (by decide))]
    rfl
  rw [hh, if_neg (hne bTe (by decide))]
  simp
end Go.Proofs.YtpojejdddgdjdaaGreatDoor.M
