/- A list that is written again: each line is one byte. Plain words. -/
import Derived.Test.YtcebckkpablagaaEnce
namespace Go.Proofs.Ytcebckkpablagaa.M
open Go.ChangeShapes Go.WideShapes Go.ChangeAt Go.RowKit

theorem lastAt_some {κ : Type} [DecidableEq κ] (key : Fld → κ) (f : Fld) : ∀ (l : List Fld) (b : Nat), f ∈ l → ∃ i, lastAt key (key f) b l = some i
  | x :: r, b, h => by
    unfold lastAt
    cases hr : lastAt key (key f) (b + 1) r with
    | some i => exact ⟨i, rfl⟩
    | none =>
      rcases List.mem_cons.1 h with rfl | h
      · exact ⟨b, by simp⟩
      · obtain ⟨i, hi⟩ := lastAt_some key f r (b + 1) h
        rw [hi] at hr; cases hr
theorem lastAt_mem (f : Fld) : ∀ (l : List Fld) (b i : Nat), lastAt id f b l = some i → f ∈ l
  | x :: r, b, i, h => by
    unfold lastAt at h
    cases hr : lastAt id f (b + 1) r with
    | some j => exact List.mem_cons_of_mem _ (lastAt_mem f r (b + 1) j hr)
    | none =>
      rw [hr] at h
      simp only at h
      split at h
      · rename_i e
        exact List.mem_cons.2 (.inl e.symm)
      · cases h
theorem evict_none (room cap : Nat) (l : List Fld) (h : fsizes l + room ≤ cap) : evict room cap l = l := by
  cases l with
  | nil => rfl
  | cons x r => unfold evict; rw [if_neg (by omega)]
theorem findS_pos (l : List Fld) (f : Fld) (h : (findS l f).2.2 = true) : (findS l f).2.1 = true := by
  unfold findS at *
  cases h1 : fldAt l f with
  | some i => rfl
  | none =>
    rw [h1] at h
    cases h2 : nameAt l f.1 with
    | some i => rfl
    | none => rw [h2] at h; cases h
theorem h2S_whole (f : Fld) (h : (h2S f).2.2 = true) : 1 ≤ (h2S f).1 ∧ (h2S f).1 ≤ 62 := by
  refine ⟨?_, h2S_le f⟩
  unfold h2S at *
  by_cases hq : (findS h2tab f).2.1 = true
  · rw [if_pos hq]; exact Nat.succ_le_succ (Nat.zero_le _)
  · rw [if_neg hq] at h; cases h

/-- a table from which nothing has gone -/
structure Grown (T : Tb) : Prop where
  cap : T.cap = 4096
  n : T.n = T.l.length
/-- a field that is told by its place alone -/
def Whole (T : Tb) (f : Fld) : Prop := (h2S f).2.2 = true ∨ f ∈ T.l
theorem place_whole {T : Tb} (hg : Grown T) {f : Fld} (h : Whole T f) : (placeS T f).2 = true ∧ 1 ≤ (placeS T f).1 ∧ (placeS T f).1 ≤ 62 + T.n := by
  unfold placeS
  by_cases hw : (h2S f).2.2 = true
  · obtain ⟨h1, h2⟩ := h2S_whole f hw
    generalize h2S f = q at *
    obtain ⟨i, ok, whole⟩ := q
    simp only at hw h1 h2
    subst hw
    simp only [if_true]
    exact ⟨trivial, h1, by omega⟩
  · have hm : f ∈ T.l := h.resolve_left hw
    obtain ⟨i, hi⟩ := lastAt_some id f T.l T.first hm
    have hr := lastAt_range id _ T.l T.first i hi
    have hf : T.find f = (i, true, true) := by unfold Tb.find; rw [show lastAt id f T.first T.l = some i from hi]
    have hfi : T.first = 0 := by unfold Tb.first; rw [hg.n]; omega
    rw [hf]
    generalize h2S f = q at *
    obtain ⟨j, ok, whole⟩ := q
    simp only at hw
    have hw' : whole = false := by simpa using hw
    subst hw'
    simp only [Bool.false_eq_true, if_false, if_true]
    have hn := hg.n
    exact ⟨trivial, by omega, by omega⟩
theorem not_whole {T : Tb} {f : Fld} (h : (placeS T f).2 = false) : ¬ (h2S f).2.2 = true := by
  intro hw
  unfold placeS at h
  generalize h2S f = q at *
  obtain ⟨i, ok, whole⟩ := q
  simp only at hw
  subst hw
  simp at h

theorem oneT_grown {T : Tb} (hg : Grown T) (f : Fld) (hs : secret f.1 = false) (hf : fsizes T.l + fsize f ≤ 2048) :
    Grown (oneT T f) ∧ Whole (oneT T f) f ∧ (∀ x, Whole T x → Whole (oneT T f) x) ∧ fsizes (oneT T f).l ≤ fsizes T.l + fsize f ∧ (oneT T f).n ≤ T.n + 1 := by
  have hc := hg.cap
  unfold oneT
  cases hp : (placeS T f).2 with
  | true =>
    simp only [if_true]
    refine ⟨hg, ?_, fun x h => h, by omega, by omega⟩
    by_cases hw : (h2S f).2.2 = true
    · exact .inl hw
    · right
      unfold placeS at hp
      generalize h2S f = q at *
      obtain ⟨j, ok, whole⟩ := q
      simp only at hw hp
      have hw' : whole = false := by simpa using hw
      subst hw'
      simp only [Bool.false_eq_true, if_false] at hp
      unfold Tb.find at hp
      cases h1 : lastAt id f T.first T.l with
      | some i => exact lastAt_mem f T.l T.first i h1
      | none =>
        rw [h1] at hp
        cases h2 : lastAt Prod.fst f.1 T.first T.l with
        | some i => rw [h2] at hp; cases ok <;> simp at hp
        | none => rw [h2] at hp; cases ok <;> simp at hp
  | false =>
    simp only [Bool.false_eq_true, if_false, hs, hc]
    rw [if_neg (by omega)]
    have he : (T.add f) = ⟨T.l ++ [f], T.n + 1, T.cap⟩ := by
      unfold Tb.add
      rw [if_pos (by omega), evict_none _ _ _ (by omega)]
    rw [he]
    refine ⟨⟨hc, by simp [hg.n]⟩, .inr (by simp), fun x h => ?_, by simp only [fsizes_snoc]; omega, Nat.le_refl _⟩
    rcases h with h | h
    · exact .inl h
    · exact .inr (by simp [h])

theorem lines_grown : ∀ (l : List Fld) (T : Tb), Grown T → (∀ f ∈ l, secret f.1 = false) → fsizes T.l + fsizes l ≤ 2048 →
    Grown (linesT T l) ∧ (∀ x ∈ l, Whole (linesT T l) x) ∧ (∀ x, Whole T x → Whole (linesT T l) x) ∧ (linesT T l).n ≤ T.n + l.length
  | [], T, hg, _, _ => ⟨hg, fun x hx => by (cases hx), fun x h => h, Nat.le_refl _⟩
  | f :: l, T, hg, hs, hz => by
    rw [fsizes_cons] at hz
    obtain ⟨h1, h2, h3, h4, h5⟩ := oneT_grown hg f (hs f (by simp)) (by omega)
    obtain ⟨k1, k2, k3, k4⟩ := lines_grown l (oneT T f) h1 (fun x hx => hs x (by simp [hx])) (by omega)
    refine ⟨k1, fun x hx => ?_, fun x hx => k3 x (h3 x hx), ?_⟩
    · rcases List.mem_cons.1 hx with rfl | hx
      · exact k3 _ h2
      · exact k2 x hx
    · simp only [linesT, List.length_cons]; omega
theorem again : ∀ (l : List Fld) (T : Tb), Grown T → T.n ≤ 20 → (∀ f ∈ l, Whole T f) → linesT T l = T ∧ (linesB T l).length = l.length ∧ ∀ x ∈ linesB T l, 128 ≤ x.toNat ∧ x.toNat < 255
  | [], T, _, _, _ => ⟨rfl, rfl, fun x hx => by (cases hx)⟩
  | f :: l, T, hg, hn, hw => by
    obtain ⟨h1, h2, h3⟩ := place_whole hg (hw f (by simp))
    have ht : oneT T f = T := by unfold oneT; rw [if_pos h1]
    have hb : oneB T f = [UInt8.ofNat (128 + (placeS T f).1)] := by
      unfold oneB
      generalize placeS T f = q at *
      obtain ⟨i, whole⟩ := q
      simp only at h1 h2 h3
      subst h1
      simp only [if_true]
      unfold pfx
      rw [if_pos (by omega)]
    obtain ⟨k1, k2, k3⟩ := again l T hg hn (fun x hx => hw x (by simp [hx]))
    refine ⟨by rw [linesT, ht, k1], by rw [linesB, ht, hb, List.length_append, k2]; simp; omega, fun x hx => ?_⟩
    rw [linesB, ht, hb] at hx
    rcases List.mem_append.1 hx with hx | hx
    · simp only [List.mem_cons, List.not_mem_nil, or_false] at hx
      rw [hx, UInt8.toNat_ofNat']
      omega
    · exact k3 x hx
theorem oneB_pos (T : Tb) (f : Fld) : 0 < (oneB T f).length := by
  unfold oneB
  generalize placeS T f = q
  obtain ⟨i, whole⟩ := q
  have p1 := pfx_pos 128 7 i
  have p2 := pfx_pos 16 4 i
  have p3 := pfx_pos 0 4 i
  have p4 := pfx_pos 64 6 i
  simp only
  split
  · omega
  · simp only [List.length_append]
    split
    · omega
    · split <;> omega
theorem linesB_ge : ∀ (T : Tb) (l : List Fld), l.length ≤ (linesB T l).length
  | _, [] => Nat.le_refl _
  | T, f :: l => by
    have h1 := oneB_pos T f
    have h2 := linesB_ge (oneT T f) l
    simp only [linesB, List.length_append, List.length_cons]
    omega
/-- what HencAgain looks at -/
theorem again_all (l : List Fld) (hl : l.length ≤ 10) (hs : ∀ f ∈ l, secret f.1 = false) (hz : fsizes l ≤ 2048) :
    (((En.new 4096).enc l).encB l).length = l.length ∧ l.length ≤ ((En.new 4096).encB l).length ∧ ∀ x ∈ ((En.new 4096).enc l).encB l, 128 ≤ x.toNat ∧ x.toNat < 255 := by
  have hg : Grown (En.new 4096).t := ⟨by decide, rfl⟩
  obtain ⟨h1, h2, _, h4⟩ := lines_grown l (En.new 4096).t hg hs (by show fsizes [] + fsizes l ≤ 2048; rw [fsizes_nil]; omega)
  have h0 : (En.new 4096).t.n = 0 := rfl
  obtain ⟨_, k2, k3⟩ := again l (linesT (En.new 4096).t l) h1 (by omega) h2
  have e1 : ((En.new 4096).enc l).encB l = linesB (linesT (En.new 4096).t l) l := rfl
  have e2 : (En.new 4096).encB l = linesB (En.new 4096).t l := rfl
  rw [e1, e2]
  exact ⟨k2, linesB_ge _ _, k3⟩
end Go.Proofs.Ytcebckkpablagaa.M
