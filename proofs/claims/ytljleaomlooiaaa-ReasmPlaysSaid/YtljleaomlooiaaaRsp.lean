/- Plain words for reasm: pieces, what is laid of bytes that come, what is read. No condition. -/
import Derived.WalkKit
namespace Go.Proofs.Ytljleaomlooiaaa.M

abbrev Bytes := List UInt8
/-- bytes that came, from a place on -/
structure Pc where
  off : Nat
  b : Bytes
def Pc.stop (p : Pc) : Nat := p.off + p.b.length
/-- bytes with their places -/
def row (o : Nat) : Bytes → List (Nat × UInt8)
  | [] => []
  | x :: r => (o, x) :: row (o + 1) r
def flat (l : List Pc) : List (Nat × UInt8) := l.flatMap fun p => row p.off p.b
theorem row_length : ∀ (b : Bytes) (o : Nat), (row o b).length = b.length
  | [], _ => rfl
  | _ :: r, o => by simp [row, row_length r (o + 1)]
theorem row_append : ∀ (a b : Bytes) (o : Nat), row o (a ++ b) = row o a ++ row (o + a.length) b
  | [], b, o => by simp [row]
  | x :: r, b, o => by
    simp only [List.cons_append, row, List.length_cons]
    rw [row_append r b (o + 1)]
    congr 3
    omega
theorem row_mem : ∀ {b : Bytes} {o : Nat} {q : Nat × UInt8}, q ∈ row o b → o ≤ q.1 ∧ q.1 < o + b.length
  | [], _, _, h => by cases h
  | x :: r, o, q, h => by
    rcases List.mem_cons.1 h with rfl | h
    · simp
    · have := row_mem h
      simp only [List.length_cons]
      omega
theorem row_split (b : Bytes) (o k : Nat) : row o b = row o (b.take k) ++ row (o + min k b.length) (b.drop k) := by
  have h := row_append (b.take k) (b.drop k) o
  rw [List.take_append_drop, List.length_take] at h
  exact h
/-- a place that a piece holds -/
def Cov (l : List Pc) (o : Nat) : Prop := ∃ p ∈ l, p.off ≤ o ∧ o < p.stop
instance (l : List Pc) (o : Nat) : Decidable (Cov l o) := by unfold Cov; infer_instance
/-- in order, none over another, none empty, none ahead of a -/
def Srt : Nat → List Pc → Prop
  | _, [] => True
  | a, p :: r => a ≤ p.off ∧ p.b ≠ [] ∧ Srt p.stop r
theorem Srt.mono : ∀ {l : List Pc} {a b : Nat}, Srt a l → b ≤ a → Srt b l
  | [], _, _, _, _ => trivial
  | _ :: _, _, _, h, hb => ⟨Nat.le_trans hb h.1, h.2⟩
theorem Srt.low : ∀ {l : List Pc} {a : Nat}, Srt a l → ∀ p ∈ l, a ≤ p.off ∧ p.b ≠ []
  | [], _, _, _, h => by cases h
  | p :: r, a, h, q, hq => by
    rcases List.mem_cons.1 hq with rfl | hq
    · exact ⟨h.1, h.2.1⟩
    · have h1 := Srt.low h.2.2 q hq
      have h2 : a ≤ p.stop := Nat.le_trans h.1 (Nat.le_add_right _ _)
      exact ⟨Nat.le_trans h2 h1.1, h1.2⟩
/-- the pieces that are laid anew -/
def news (off : Nat) (b : Bytes) (stop : Nat) : List Pc → Nat → List Pc
  | [], a => if a < stop then [⟨a, b.drop (a - off)⟩] else []
  | p :: r, a => if p.stop ≤ a then news off b stop r a else
      (if a < p.off ∧ a < stop then [⟨a, (b.drop (a - off)).take (min p.off stop - a)⟩] else []) ++ news off b stop r (max a p.stop)
theorem filter_row_none {b : Bytes} {o : Nat} {P : Nat → Prop} [DecidablePred P] (h : ∀ k, o ≤ k → k < o + b.length → ¬ P k) : (row o b).filter (fun q => decide (P q.1)) = [] := by
  rw [List.filter_eq_nil_iff]
  intro q hq
  have := row_mem hq
  simpa using h q.1 this.1 this.2
theorem filter_row_all {b : Bytes} {o : Nat} {P : Nat → Prop} [DecidablePred P] (h : ∀ k, o ≤ k → k < o + b.length → P k) : (row o b).filter (fun q => decide (P q.1)) = row o b := by
  rw [List.filter_eq_self]
  intro q hq
  have := row_mem hq
  simpa using h q.1 this.1 this.2
theorem filter_row_congr {b : Bytes} {o : Nat} {P Q : Nat → Prop} [DecidablePred P] [DecidablePred Q] (h : ∀ k, o ≤ k → k < o + b.length → (P k ↔ Q k)) : (row o b).filter (fun q => decide (P q.1)) = (row o b).filter (fun q => decide (Q q.1)) := by
  apply List.filter_congr
  intro q hq
  have := row_mem hq
  simpa using h q.1 this.1 this.2
theorem cov_cons (p : Pc) (r : List Pc) (o : Nat) : Cov (p :: r) o ↔ (p.off ≤ o ∧ o < p.stop) ∨ Cov r o := by
  unfold Cov
  simp
theorem cov_low {l : List Pc} {a : Nat} (h : Srt a l) {o : Nat} (hc : Cov l o) : a ≤ o := by
  obtain ⟨p, hp, h1, _⟩ := hc
  exact Nat.le_trans (h.low p hp).1 h1
/-- what is laid: just the bytes from a place on that no piece holds -/
theorem news_flat (off : Nat) (b : Bytes) : ∀ (l : List Pc) (c a : Nat), Srt c l → off ≤ a → flat (news off b (off + b.length) l a) = (row off b).filter (fun q => decide (a ≤ q.1 ∧ ¬ Cov l q.1))
  | [], c, a, _, ha => by
    unfold news
    by_cases h : a < off + b.length
    · rw [if_pos h, row_split b off (a - off), List.filter_append, filter_row_none (P := fun k => a ≤ k ∧ ¬ Cov [] k) (fun k h1 h2 h3 => by rw [List.length_take] at h2; omega), filter_row_all (P := fun k => a ≤ k ∧ ¬ Cov [] k)]
      · have e : off + min (a - off) b.length = a := by omega
        rw [e]
        simp [flat]
      · intro k h1 h2
        exact ⟨by omega, fun hc => by obtain ⟨p, hp, _⟩ := hc; cases hp⟩
    · rw [if_neg h, filter_row_none (P := fun k => a ≤ k ∧ ¬ Cov [] k) (fun k h1 h2 h3 => by omega)]
      rfl
  | p :: r, c, a, hs, ha => by
    unfold news
    have hpl : p.off < p.stop := by
      unfold Pc.stop
      have := List.length_pos_iff.2 hs.2.1
      omega
    by_cases h : p.stop ≤ a
    · rw [if_pos h, news_flat off b r p.stop a hs.2.2 ha]
      apply filter_row_congr (P := fun k => a ≤ k ∧ ¬ Cov r k) (Q := fun k => a ≤ k ∧ ¬ Cov (p :: r) k)
      intro k h1 h2
      rw [cov_cons]
      constructor
      · rintro ⟨h3, h4⟩; exact ⟨h3, by rintro (h5 | h5); omega; exact h4 h5⟩
      · rintro ⟨h3, h4⟩; exact ⟨h3, fun h5 => h4 (.inr h5)⟩
    · rw [if_neg h]
      have ih := news_flat off b r p.stop (max a p.stop) hs.2.2 (by omega)
      have hm : max a p.stop = p.stop := by omega
      rw [hm] at ih ⊢
      show flat (_ ++ _) = _
      rw [show flat ((if a < p.off ∧ a < off + b.length then [⟨a, (b.drop (a - off)).take (min p.off (off + b.length) - a)⟩] else []) ++ news off b (off + b.length) r p.stop) = flat (if a < p.off ∧ a < off + b.length then [⟨a, (b.drop (a - off)).take (min p.off (off + b.length) - a)⟩] else []) ++ flat (news off b (off + b.length) r p.stop) by simp [flat], ih]
      by_cases h2 : a < p.off ∧ a < off + b.length
      · rw [if_pos h2]
        obtain ⟨h3, h4⟩ := h2
        have e1 : flat [⟨a, (b.drop (a - off)).take (min p.off (off + b.length) - a)⟩] = row a ((b.drop (a - off)).take (min p.off (off + b.length) - a)) := by simp [flat]
        rw [e1]
        have e2 : row off b = row off (b.take (a - off)) ++ (row a ((b.drop (a - off)).take (min p.off (off + b.length) - a)) ++ row (min p.off (off + b.length)) ((b.drop (a - off)).drop (min p.off (off + b.length) - a))) := by
          rw [row_split b off (a - off), show off + min (a - off) b.length = a by omega, row_split (b.drop (a - off)) a (min p.off (off + b.length) - a)]
          congr 3
          rw [List.length_drop]
          omega
        rw [e2, List.filter_append, List.filter_append, List.filter_append, List.filter_append]
        rw [filter_row_none (b := b.take (a - off)) (P := fun k => p.stop ≤ k ∧ ¬ Cov r k) (fun k h5 h6 h7 => by rw [List.length_take] at h6; omega)]
        rw [filter_row_none (b := (b.drop (a - off)).take (min p.off (off + b.length) - a)) (P := fun k => p.stop ≤ k ∧ ¬ Cov r k) (fun k h5 h6 h7 => by rw [List.length_take, List.length_drop] at h6; omega)]
        rw [filter_row_none (b := b.take (a - off)) (P := fun k => a ≤ k ∧ ¬ Cov (p :: r) k) (fun k h5 h6 h7 => by rw [List.length_take] at h6; omega)]
        rw [filter_row_all (b := (b.drop (a - off)).take (min p.off (off + b.length) - a)) (P := fun k => a ≤ k ∧ ¬ Cov (p :: r) k) (fun k h5 h6 => ⟨h5, fun hc => by
          rw [List.length_take, List.length_drop] at h6
          rw [cov_cons] at hc
          rcases hc with hc | hc
          · omega
          · have := cov_low hs.2.2 hc; omega⟩)]
        rw [filter_row_congr (b := (b.drop (a - off)).drop (min p.off (off + b.length) - a)) (P := fun k => p.stop ≤ k ∧ ¬ Cov r k) (Q := fun k => a ≤ k ∧ ¬ Cov (p :: r) k)]
        · simp
        · intro k h5 h6
          rw [List.length_drop, List.length_drop] at h6
          rw [cov_cons]
          constructor
          · rintro ⟨h7, h8⟩; exact ⟨by omega, by rintro (h9 | h9); omega; exact h8 h9⟩
          · rintro ⟨h7, h8⟩
            have h10 : ¬ (p.off ≤ k ∧ k < p.stop) := fun c => h8 (.inl c)
            exact ⟨by omega, fun c => h8 (.inr c)⟩
      · rw [if_neg h2]
        rw [filter_row_congr (P := fun k => p.stop ≤ k ∧ ¬ Cov r k) (Q := fun k => a ≤ k ∧ ¬ Cov (p :: r) k)]
        · rfl
        · intro k h5 h6
          rw [cov_cons]
          constructor
          · rintro ⟨h7, h8⟩; exact ⟨by omega, by rintro (h9 | h9); omega; exact h8 h9⟩
          · rintro ⟨h7, h8⟩
            have h10 : ¬ (p.off ≤ k ∧ k < p.stop) := fun c => h8 (.inl c)
            exact ⟨by omega, fun c => h8 (.inr c)⟩
end Go.Proofs.Ytljleaomlooiaaa.M
