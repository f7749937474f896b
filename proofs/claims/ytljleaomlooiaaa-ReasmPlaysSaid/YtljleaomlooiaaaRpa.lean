/- The buffer and the document's, side by side: plain. No condition but sizes. -/
import Derived.Test.YtljleaomlooiaaaRst
import Derived.Test.YtljleaomlooiaaaRf4
import Derived.Test.YtljleaomlooiaaaRbo
namespace Go.Proofs.Ytljleaomlooiaaa.M
open Go.ChangeShapes Go.WideShapes Go.ChangeAt Go.RowKit

structure Alk (B : Bf) (F : Rf) : Prop where
  mx : F.mx = B.win
  es : F.es.Perm (ents bv B.l)
  a : F.a = B.a
  known : F.known = B.known
  fin : B.known = true → F.fin = B.fin
  done : F.done = B.over
  en : B.known = false → F.en = B.top
  en2 : B.known = true → F.en ≤ B.fin
section
variable {B B' : Bf} {F : Rf}
theorem Alk.chk (h : Alk B F) (ok : B.Ok) (stop : Nat) (fits f : Bool) : F.chk stop (!fits) f = B.chk stop fits f := by
  unfold Rf.chk Bf.chk
  rw [h.mx]
  have c1 : ((!fits) = true ∨ B.win < stop) ↔ (fits = false ∨ B.win < stop) := by cases fits <;> simp
  by_cases q : fits = false ∨ B.win < stop
  · rw [if_pos (c1.2 q), if_pos q]
  · rw [if_neg (fun c => q (c1.1 c)), if_neg q]
    cases hk : B.known with
    | false =>
      rw [h.known, hk, h.en hk]
      simp
    | true =>
      have ht := ok.fin hk
      have e1 := h.fin hk
      have e2 := h.en2 hk
      rw [h.known, hk, e1]
      cases f with
      | false => simp
      | true =>
        by_cases q1 : stop = B.fin
        · rw [if_neg, if_neg, if_neg]
          · rintro ⟨_, c⟩; omega
          · rintro ⟨_, c | ⟨_, c⟩⟩
            · omega
            · exact c q1
          · rintro (⟨_, c | ⟨_, c⟩⟩ | ⟨_, c⟩)
            · omega
            · exact c q1
            · omega
        · rw [if_pos (.inl ⟨rfl, .inr ⟨rfl, q1⟩⟩), if_pos ⟨rfl, .inr ⟨rfl, q1⟩⟩]
theorem Alk.adds (h : Alk B F) (ok : B.Ok) (off : Nat) (b : Bytes) (f : Bool) : F.adds off b f = B.adds off b f := by
  unfold Rf.adds Bf.adds
  rw [← h.chk ok]
  congr 1
  rw [Bool.eq_iff_iff, decide_eq_true_iff, Bool.not_eq_true', decide_eq_false_iff_not]
  omega
theorem Alk.add (h : Alk B F) (ok : B.Ok) {off : Nat} {b : Bytes} {f : Bool} (ha : B.AddTo off b f B') (ho : off < 18446744073709551616) (hl : b.length < 18446744073709551616) : Alk B' (F.add' off b f) := by
  unfold Rf.add'
  rw [h.adds ok, h.done]
  by_cases q : B.adds off b f = 0 ∧ B.over = false
  · rw [if_pos q]
    obtain ⟨l', hp, hs, rfl⟩ := AddTo.yes ha q.1 q.2
    have hstp := stp_eq q.1 ho hl
    have hz := q.1
    unfold Bf.adds at hz
    obtain ⟨_, z2, z3, z4⟩ := chk_zero hz
    have hr : F.adds off b f = 0 := by rw [h.adds ok]; exact q.1
    unfold Rf.adds at hr
    obtain ⟨_, r2, r3, r4⟩ := rchk_zero hr
    rw [hstp] at z2 z3 z4 r2 r3 r4
    have hd := h.done
    rw [q.2] at hd
    obtain ⟨ov1, ov2⟩ := over_not q.2
    have hg : F.gone = false := by
      unfold Rf.done at hd
      rw [Bool.or_eq_false_iff] at hd
      exact hd.1
    have hes := lay_alike bv (off := off) (b := b) ok.srt hp h.es
    rw [← h.a] at hes
    have hfin : (B.known || f) = true → (if f = true then off + b.length else F.fin) = (if f = true then off + b.length else B.fin) := fun hk => by
      cases f with
      | true => rfl
      | false => exact h.fin (by simpa using hk)
    refine ⟨h.mx, hes, h.a, by simp only; rw [h.known], hfin, ?_, fun hk => ?_, fun hk => ?_⟩
    · unfold Rf.done Bf.over
      simp only
      rw [hg, ov1, h.known, h.a]
      cases hk : (B.known || f) with
      | false => rfl
      | true => rw [hfin hk]
    · simp only at hk ⊢
      rw [Bool.or_eq_false_iff] at hk
      rw [h.en hk.1]
    · simp only at hk ⊢
      cases f with
      | true =>
        have := r4 rfl
        simp
        omega
      | false =>
        have hk2 : B.known = true := by simpa using hk
        have e1 := h.en2 hk2
        have e2 := (z3 hk2).1
        simp only [Bool.false_eq_true, if_false]
        split <;> omega
  · rw [if_neg q]
    rw [AddTo.no ha q]
    exact h
theorem Alk.over_nil (ok : B.Ok) (h : B.over = true) : B.known = true ∧ B.l = [] := by
  unfold Bf.over at h
  rw [Bool.or_eq_true, Bool.and_eq_true, decide_eq_true_eq] at h
  rcases h with h | ⟨h1, h2⟩
  · exact ok.gone h
  · refine ⟨h1, ?_⟩
    have ht := ok.fin h1
    cases hl : B.l with
    | nil => rfl
    | cons p r =>
      have hs := ok.srt
      have hst := ok.stop p (by rw [hl]; simp)
      rw [hl] at hs
      have h3 := hs.1
      have h4 := List.length_pos_iff.2 hs.2.1
      unfold Pc.stop at hst
      omega
theorem Alk.reset (h : Alk B F) (ok : B.Ok) (s : Nat) : Alk (B.reset' s) (F.reset' s) := by
  have hc := h.chk ok s true true
  unfold Rf.reset' Bf.reset'
  rw [show (!true) = false from rfl] at hc
  rw [hc, h.done]
  by_cases q : B.chk s true true = 0
  · rw [if_pos q]
    obtain ⟨_, z2, z3, z4⟩ := chk_zero q
    cases ho : B.over with
    | false =>
      rw [if_pos ⟨q, rfl⟩]
      exact ⟨h.mx, List.Perm.refl _, h.a, rfl, fun _ => rfl, by unfold Rf.done Bf.over; simp, (fun c => by cases c), fun _ => Nat.le_refl _⟩
    | true =>
      rw [if_neg (fun c => by cases c.2)]
      obtain ⟨hk, hl⟩ := Alk.over_nil ok ho
      have hs := (z3 hk).2 rfl
      refine ⟨h.mx, ?_, h.a, by rw [h.known, hk], fun _ => by rw [h.fin hk, hs], ?_, (fun c => by cases c), fun _ => ?_⟩
      · have := h.es
        rw [hl] at this
        exact this
      · rw [h.done, ho]
        unfold Bf.over
        simp
      · have := h.en2 hk
        simp only
        omega
  · rw [if_neg q, if_neg (fun c => q c.1)]
    exact h
def Rf.reads (F : Rf) (n : Nat) : Rf := { F with a := F.a + (rread n F.a F.es).1.length, es := (rread n F.a F.es).2 }
theorem Alk.read (h : Alk B F) (ok : B.Ok) (n : Int) : (rread n.toNat F.a F.es).1 = bvs ((run B.l B.a).take (B.many n)) ∧ Alk (B.reads (B.many n)) (F.reads n.toNat) := by
  obtain ⟨h1, h2⟩ := read_alike bv ok.srt h.es n.toNat
  have ht : (run B.l B.a).take n.toNat = (run B.l B.a).take (B.many n) := by
    unfold Bf.many
    by_cases q : n.toNat ≤ (run B.l B.a).length
    · rw [Nat.min_eq_left q]
    · rw [Nat.min_eq_right (by omega), List.take_of_length_le (by omega), List.take_of_length_le (Nat.le_refl _)]
  rw [ht] at h1
  have hml : B.many n ≤ (run B.l B.a).length := Nat.min_le_right _ _
  have hlen : (rread n.toNat F.a F.es).1.length = B.many n := by
    rw [h.a, h1]
    show (bvs _).length = _
    rw [bvs_length, List.length_take]
    omega
  refine ⟨by rw [h.a, h1]; rfl, ?_⟩
  unfold Rf.reads
  rw [hlen]
  refine ⟨h.mx, by rw [h.a]; exact h2, by show F.a + _ = B.a + _; rw [h.a], h.known, h.fin, ?_, h.en, h.en2⟩
  cases ho : B.over with
  | true =>
    obtain ⟨hk, hl⟩ := Alk.over_nil ok ho
    have hm : B.many n = 0 := by unfold Bf.many; rw [hl]; simp [run]
    rw [hm]
    have e1 : Rf.done { F with a := F.a + 0, es := (rread n.toNat F.a F.es).2 } = F.done := rfl
    have e2 : (B.reads 0).over = B.over := rfl
    rw [e1, e2]
    exact h.done
  | false =>
    obtain ⟨ov1, ov2⟩ := over_not ho
    have hd := h.done
    rw [ho] at hd
    have hg : F.gone = false := by
      unfold Rf.done at hd
      rw [Bool.or_eq_false_iff] at hd
      exact hd.1
    unfold Rf.done Bf.over Bf.reads
    simp only
    rw [hg, ov1, h.known, h.a]
    cases hk : B.known with
    | false => rfl
    | true => rw [h.fin hk]
theorem Alk.grow (h : Alk B F) (m : Nat) : Alk { B with win := max B.win (min m 4611686018427387903) } { F with mx := max F.mx (min m 4611686018427387903) } :=
  ⟨by simp only; rw [h.mx], h.es, h.a, h.known, h.fin, h.done, h.en, h.en2⟩
theorem Alk.new (win : Nat) : Alk ⟨[], 0, 0, min win 4611686018427387903, 0, false, false⟩ ⟨min win 4611686018427387903, [], 0, 0, 0, false, false⟩ :=
  ⟨rfl, List.Perm.refl _, rfl, rfl, (fun c => by cases c), rfl, (fun _ => rfl), (fun c => by cases c)⟩
theorem Alk.held (h : Alk B F) : F.es.length = hl B.l := by
  rw [h.es.length_eq, ← hl_flat]
  simp [ents]
theorem Alk.top (h : Alk B F) (ok : B.Ok) : F.top = B.top := by
  unfold Rf.top
  rw [h.known]
  cases hk : B.known with
  | false => exact h.en hk
  | true => rw [h.fin hk, ok.fin hk]; rfl
theorem Alk.keys (h : Alk B F) (ok : B.Ok) : ∀ q ∈ F.es, (∃ x, q.2 = bv x) ∧ q.1 < 4611686018427387904 := fun q hq => by
  have h1 := h.es.mem_iff.1 hq
  obtain ⟨y, hy, rfl⟩ := List.mem_map.1 h1
  refine ⟨⟨y.2, rfl⟩, ?_⟩
  obtain ⟨P, hP, hy2⟩ := List.mem_flatMap.1 hy
  have h2 := row_mem hy2
  have h3 := ok.stop P hP
  have h4 := ok.top
  have h5 := ok.win
  unfold Pc.stop at h3
  show y.1 < _
  omega
end
end Go.Proofs.Ytljleaomlooiaaa.M
