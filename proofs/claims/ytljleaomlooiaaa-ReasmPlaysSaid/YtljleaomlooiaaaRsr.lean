/- Plain words for reasm: what is laid touches nothing; what a map holds of it. No condition. -/
import Derived.Test.YtljleaomlooiaaaRsq
import Derived.Test.YtljleaomlooiaaaMap
namespace Go.Proofs.Ytljleaomlooiaaa.M

theorem news_srt (off : Nat) (b : Bytes) : ∀ (l : List Pc) (c a : Nat), Srt c l → off ≤ a → Srt a (news off b (off + b.length) l a)
  | [], c, a, _, ha => by
    unfold news
    by_cases h : a < off + b.length
    · rw [if_pos h]
      refine ⟨Nat.le_refl _, fun e => ?_, trivial⟩
      have := congrArg List.length e
      simp only [List.length_drop, List.length_nil] at this
      omega
    · rw [if_neg h]; trivial
  | p :: r, c, a, hs, ha => by
    unfold news
    have hpl : p.off < p.stop := by
      unfold Pc.stop
      have := List.length_pos_iff.2 hs.2.1
      omega
    by_cases h : p.stop ≤ a
    · rw [if_pos h]
      exact news_srt off b r p.stop a hs.2.2 ha
    · rw [if_neg h]
      have ih := news_srt off b r p.stop (max a p.stop) hs.2.2 (by omega)
      by_cases h2 : a < p.off ∧ a < off + b.length
      · rw [if_pos h2]
        refine ⟨Nat.le_refl _, fun e => ?_, ih.mono ?_⟩
        · have := congrArg List.length e
          simp only [List.length_take, List.length_drop, List.length_nil] at this
          omega
        · unfold Pc.stop
          simp only [List.length_take, List.length_drop]
          unfold Pc.stop at hpl
          omega
      · rw [if_neg h2]
        exact ih.mono (by omega)
theorem news_dj (off : Nat) (b : Bytes) : ∀ (l : List Pc) (c a : Nat), Srt c l → off ≤ a → ∀ p ∈ l, ∀ q ∈ news off b (off + b.length) l a, Dj p q
  | [], _, _, _, _, p, hp => by cases hp
  | x :: r, c, a, hs, ha, p, hp => by
    intro q hq
    unfold news at hq
    by_cases h : x.stop ≤ a
    · rw [if_pos h] at hq
      rcases List.mem_cons.1 hp with rfl | hp
      · have := ((news_srt off b r p.stop a hs.2.2 ha).low q hq).1
        exact .inl (by omega)
      · exact news_dj off b r x.stop a hs.2.2 ha p hp q hq
    · rw [if_neg h] at hq
      have hx : x.off ≤ p.off ∧ (p = x ∨ x.stop ≤ p.off) := by
        rcases List.mem_cons.1 hp with rfl | hp
        · exact ⟨Nat.le_refl _, .inl rfl⟩
        · have := (hs.2.2.low p hp).1
          unfold Pc.stop at this
          exact ⟨by omega, .inr (hs.2.2.low p hp).1⟩
      rcases List.mem_append.1 hq with hq | hq
      · split at hq
        · rename_i h2
          simp only [List.mem_singleton] at hq
          subst hq
          right
          unfold Pc.stop
          simp only [List.length_take, List.length_drop]
          omega
        · cases hq
      · rcases List.mem_cons.1 hp with rfl | hp
        · have := ((news_srt off b r p.stop (max a p.stop) hs.2.2 (by omega)).low q hq).1
          exact .inl (by omega)
        · exact news_dj off b r x.stop (max a x.stop) hs.2.2 (by omega) p hp q hq
theorem news_stop (off : Nat) (b : Bytes) : ∀ (l : List Pc) (c a : Nat), Srt c l → off ≤ a → ∀ q ∈ news off b (off + b.length) l a, q.stop ≤ off + b.length
  | [], c, a, _, ha, q, hq => by
    unfold news at hq
    split at hq
    · simp only [List.mem_singleton] at hq
      subst hq
      unfold Pc.stop
      simp only [List.length_drop]
      omega
    · cases hq
  | x :: r, c, a, hs, ha, q, hq => by
    unfold news at hq
    split at hq
    · exact news_stop off b r x.stop a hs.2.2 ha q hq
    · rcases List.mem_append.1 hq with hq | hq
      · split at hq
        · simp only [List.mem_singleton] at hq
          subst hq
          unfold Pc.stop
          simp only [List.length_take, List.length_drop]
          omega
        · cases hq
      · exact news_stop off b r x.stop (max a x.stop) hs.2.2 (by omega) q hq
/-- pieces with what is laid anew, in order: they stand apart -/
theorem lay_srt {l l' : List Pc} {a off : Nat} {b : Bytes} (hs : Srt a l) (hp : l'.Perm (l ++ news off b (off + b.length) l (max off a))) (ho : l'.Pairwise (fun p q => p.off ≤ q.off)) : Srt a l' := by
  have hn := news_srt off b l a (max off a) hs (by omega)
  refine srt_of l' a (fun p hpp => ?_) ?_ ho
  · rcases List.mem_append.1 (hp.mem_iff.1 hpp) with h | h
    · exact hs.low p h
    · have := hn.low p h
      exact ⟨by omega, this.2⟩
  · refine hp.symm.pairwise ?_ (fun h => h.symm)
    refine List.pairwise_append.2 ⟨srt_dj hs, srt_dj hn, fun p hp q hq => news_dj off b l a (max off a) hs (by omega) p hp q hq⟩
theorem flat_perm {l l' : List Pc} (h : l.Perm l') : (flat l).Perm (flat l') := h.flatMap_right _

section
variable {ν : Type}
theorem getE_no {k : Nat} : ∀ {e : List (Nat × ν)}, getE k e = none ↔ ∀ q ∈ e, q.1 ≠ k
  | [] => by simp
  | p :: r => by
    rw [getE_cons]
    by_cases h : k = p.1
    · simp [h]
    · rw [if_neg h, getE_no]
      simp only [List.mem_cons, forall_eq_or_imp]
      exact ⟨fun c => ⟨fun e => h e.symm, c⟩, fun c => c.2⟩
theorem putE_new {k : Nat} (v : ν) : ∀ {e : List (Nat × ν)}, getE k e = none → putE k v e = e ++ [(k, v)]
  | [], _ => rfl
  | p :: r, h => by
    rw [getE_cons] at h
    unfold putE
    by_cases hk : k = p.1
    · rw [if_pos hk] at h; cases h
    · rw [if_neg hk] at h
      rw [if_neg hk, putE_new v h]; rfl
theorem getE_app (k : Nat) (v : ν) (j : Nat) (e : List (Nat × ν)) (h : j ≠ k) : getE k (e ++ [(j, v)]) = getE k e := by
  induction e with
  | nil => rw [List.nil_append, getE_cons, if_neg (fun c => h c.symm)]
  | cons p r ih => rw [List.cons_append, getE_cons, getE_cons, ih]
/-- bytes laid into a map: those from a place on that it does not hold -/
def rlay (f : UInt8 → ν) : Nat → Bytes → Nat → List (Nat × ν) → List (Nat × ν)
  | _, [], _, e => e
  | o, x :: r, a, e => rlay f (o + 1) r a (if (getE o e).isNone && decide (a ≤ o) then putE o (f x) e else e)
theorem rlay_eq (f : UInt8 → ν) : ∀ (b : Bytes) (o a : Nat) (e : List (Nat × ν)), rlay f o b a e = e ++ ((row o b).filter (fun q => (getE q.1 e).isNone && decide (a ≤ q.1))).map (fun q => (q.1, f q.2))
  | [], o, a, e => by simp [rlay, row]
  | x :: r, o, a, e => by
    unfold rlay
    rw [rlay_eq f r (o + 1) a]
    by_cases h : ((getE o e).isNone && decide (a ≤ o)) = true
    · rw [if_pos h]
      have hn : getE o e = none := by
        rw [Bool.and_eq_true] at h
        simpa using h.1
      rw [putE_new _ hn]
      simp only [row]
      rw [List.filter_cons_of_pos (by exact h), List.map_cons, List.append_assoc]
      congr 1
      simp only [List.singleton_append, List.cons.injEq, true_and]
      congr 1
      apply List.filter_congr
      intro q hq
      have := row_mem hq
      rw [getE_app q.1 _ o e (by omega)]
    · rw [if_neg h]
      simp only [row]
      rw [List.filter_cons_of_neg (by exact h)]
theorem getE_perm {k : Nat} {v : ν} : ∀ {e f : List (Nat × ν)}, e.Perm ((k, v) :: f) → (∀ q ∈ f, q.1 ≠ k) → getE k e = some v ∧ (delE k e).Perm f
  | [], f, h, _ => by have := h.length_eq; simp at this
  | p :: r, f, h, hf => by
    rw [getE_cons]
    unfold delE
    by_cases hk : k = p.1
    · rw [if_pos hk, if_pos hk]
      have hm : p ∈ (k, v) :: f := h.mem_iff.1 (by simp)
      rcases List.mem_cons.1 hm with rfl | hm
      · exact ⟨rfl, h.cons_inv⟩
      · exact absurd hk.symm (hf p hm)
    · rw [if_neg hk, if_neg hk]
      have hm : p ∈ (k, v) :: f := h.mem_iff.1 (by simp)
      rcases List.mem_cons.1 hm with rfl | hm
      · exact absurd rfl hk
      · obtain ⟨s, t, rfl⟩ := List.append_of_mem hm
        have h2 : r.Perm ((k, v) :: (s ++ t)) := by
          have h3 : (p :: r).Perm (p :: (k, v) :: (s ++ t)) := by
            refine h.trans ?_
            rw [show p :: (k, v) :: (s ++ t) = [p] ++ ((k, v) :: (s ++ t)) from rfl]
            refine List.Perm.trans ?_ (List.Perm.swap _ _ _)
            exact List.Perm.cons _ List.perm_middle
          exact h3.cons_inv
        have ih := getE_perm h2 (fun q hq => hf q (by
          rcases List.mem_append.1 hq with hq | hq
          · exact List.mem_append.2 (.inl hq)
          · exact List.mem_append.2 (.inr (List.mem_cons_of_mem _ hq))))
        exact ⟨ih.1, (List.Perm.cons _ ih.2).trans List.perm_middle.symm⟩
/-- bytes read out of a map, one by one, from a place on -/
def rread : Nat → Nat → List (Nat × ν) → List ν × List (Nat × ν)
  | 0, _, e => ([], e)
  | n + 1, a, e => match getE a e with
    | none => ([], e)
    | some v => (v :: (rread n (a + 1) (delE a e)).1, (rread n (a + 1) (delE a e)).2)
theorem rread_eq (f : UInt8 → ν) : ∀ (n : Nat) (b : Bytes) (a : Nat) (r : List (Nat × UInt8)) (e : List (Nat × ν)), e.Perm ((row a b ++ r).map (fun q => (q.1, f q.2))) → (∀ q ∈ r, a + b.length < q.1) →
    (rread n a e).1 = (b.take n).map f ∧ (rread n a e).2.Perm ((row (a + min n b.length) (b.drop n) ++ r).map (fun q => (q.1, f q.2)))
  | 0, b, a, r, e, h, _ => by
    unfold rread
    rw [List.take_zero, List.drop_zero, Nat.zero_min]
    exact ⟨rfl, h⟩
  | n + 1, [], a, r, e, h, hr => by
    unfold rread
    have hn : getE a e = none := getE_no.2 (fun q hq => by
      obtain ⟨q', hq', rfl⟩ := List.mem_map.1 (h.mem_iff.1 hq)
      have := hr q' (by simpa [row] using hq')
      simp only [List.length_nil, Nat.add_zero] at this
      show q'.1 ≠ a
      omega)
    rw [hn]
    simp only [List.take_nil, List.drop_nil, List.length_nil, Nat.min_zero, Nat.add_zero, List.map_nil]
    exact ⟨trivial, h⟩
  | n + 1, x :: b, a, r, e, h, hr => by
    unfold rread
    simp only [row, List.cons_append, List.map_cons] at h
    have hg := getE_perm h (fun q hq => by
      obtain ⟨q', hq', rfl⟩ := List.mem_map.1 hq
      show q'.1 ≠ a
      rcases List.mem_append.1 hq' with h1 | h1
      · have := row_mem h1; omega
      · have := hr q' h1; omega)
    rw [hg.1]
    have ih := rread_eq f n b (a + 1) r (delE a e) hg.2 (fun q hq => by have := hr q hq; simp only [List.length_cons] at this; omega)
    simp only [List.take_succ_cons, List.drop_succ_cons, List.map_cons, List.length_cons]
    refine ⟨by rw [ih.1], ?_⟩
    have e1 : a + min (n + 1) (b.length + 1) = a + 1 + min n b.length := by omega
    rw [e1]
    exact ih.2
end
/-- a buffer's bytes as the document keeps them -/
def ents {ν : Type} (f : UInt8 → ν) (l : List Pc) : List (Nat × ν) := (flat l).map (fun q => (q.1, f q.2))
theorem flat_cov {l : List Pc} {k : Nat} : (∃ q ∈ flat l, q.1 = k) ↔ Cov l k := by
  constructor
  · rintro ⟨q, hq, rfl⟩
    obtain ⟨p, hp, hq⟩ := List.mem_flatMap.1 hq
    have := row_mem hq
    exact ⟨p, hp, this.1, this.2⟩
  · rintro ⟨p, hp, h1, h2⟩
    obtain ⟨q, hq, e⟩ : ∃ q ∈ row p.off p.b, q.1 = k := by
      have row_has : ∀ (b : Bytes) (o : Nat), o ≤ k → k < o + b.length → ∃ q ∈ row o b, q.1 = k := by
        intro b
        induction b with
        | nil => intro o h1 h2; simp at h2; omega
        | cons x r ih =>
          intro o h1 h2
          by_cases hk : o = k
          · exact ⟨(o, x), by simp [row], hk⟩
          · obtain ⟨q, hq, e⟩ := ih (o + 1) (by omega) (by simp at h2; omega)
            exact ⟨q, by simp [row, hq], e⟩
      exact row_has p.b p.off h1 h2
    exact ⟨q, List.mem_flatMap.2 ⟨p, hp, hq⟩, e⟩
/-- the document's map and the pieces: what comes is laid alike -/
theorem lay_alike {ν : Type} (f : UInt8 → ν) {l l' : List Pc} {a off : Nat} {b : Bytes} {e : List (Nat × ν)} (hs : Srt a l) (hp : l'.Perm (l ++ news off b (off + b.length) l (max off a))) (he : e.Perm (ents f l)) : (rlay f off b a e).Perm (ents f l') := by
  rw [rlay_eq]
  have h1 : (ents f l').Perm (ents f l ++ (flat (news off b (off + b.length) l (max off a))).map (fun q => (q.1, f q.2))) := by
    unfold ents
    rw [← List.map_append, ← flat_append]
    exact (flat_perm hp).map _
  refine List.Perm.trans ?_ h1.symm
  refine List.Perm.append he (List.Perm.map _ ?_)
  rw [news_flat off b l a (max off a) hs (by omega)]
  rw [List.filter_congr (q := fun q => decide (max off a ≤ q.1 ∧ ¬ Cov l q.1))]
  intro q hq
  have hq := row_mem hq
  have hc : (getE q.1 e).isNone = decide (¬ Cov l q.1) := by
    rw [Bool.eq_iff_iff, decide_eq_true_iff, Option.isNone_iff_eq_none, getE_no, ← flat_cov]
    constructor
    · rintro h ⟨q', hq', e'⟩
      exact h (q'.1, f q'.2) (he.mem_iff.2 (List.mem_map.2 ⟨q', hq', rfl⟩)) e'
    · intro h q' hq' e'
      obtain ⟨r, hr, rfl⟩ := List.mem_map.1 (he.mem_iff.1 hq')
      exact h ⟨r, hr, e'⟩
  rw [hc, Bool.eq_iff_iff, Bool.and_eq_true, decide_eq_true_iff, decide_eq_true_iff, decide_eq_true_iff]
  constructor
  · rintro ⟨h1, h2⟩; exact ⟨by omega, h1⟩
  · rintro ⟨h1, h2⟩; exact ⟨h2, by omega⟩
/-- what is read is alike -/
theorem read_alike {ν : Type} (f : UInt8 → ν) {l : List Pc} {a : Nat} {e : List (Nat × ν)} (hs : Srt a l) (he : e.Perm (ents f l)) (n : Nat) :
    (rread n a e).1 = ((run l a).take n).map f ∧ (rread n a e).2.Perm (ents f (dropB (min n (run l a).length) l)) := by
  obtain ⟨r, h1, h2⟩ := run_flat l a hs
  unfold ents at he
  rw [h1] at he
  have h3 := rread_eq f n (run l a) a r e he h2
  refine ⟨h3.1, h3.2.trans ?_⟩
  unfold ents
  rw [dropB_flat, h1, List.drop_append_of_le_length (by rw [row_length]; omega), row_drop]
  by_cases hn : n ≤ (run l a).length
  · rw [Nat.min_eq_left hn]
  · rw [Nat.min_eq_right (by omega), List.drop_eq_nil_of_le (by omega : (run l a).length ≤ n), List.drop_eq_nil_of_le (Nat.le_refl _)]
end Go.Proofs.Ytljleaomlooiaaa.M
