/- Plain words for reasm: what is read. No condition. -/
import Derived.Test.YtljleaomlooiaaaRsp
namespace Go.Proofs.Ytljleaomlooiaaa.M

/-- the bytes that stand from a on, with no gap -/
def run : List Pc → Nat → Bytes
  | [], _ => []
  | p :: r, a => if p.off = a then p.b ++ run r p.stop else []
/-- without the first k bytes -/
def dropB : Nat → List Pc → List Pc
  | _, [] => []
  | k, p :: r => if k < p.b.length then ⟨p.off + k, p.b.drop k⟩ :: r else dropB (k - p.b.length) r
theorem flat_cons (p : Pc) (r : List Pc) : flat (p :: r) = row p.off p.b ++ flat r := by simp [flat]
theorem flat_append (a b : List Pc) : flat (a ++ b) = flat a ++ flat b := by simp [flat]
theorem row_drop : ∀ (b : Bytes) (o k : Nat), (row o b).drop k = row (o + k) (b.drop k)
  | [], o, k => by simp [row]
  | x :: r, o, 0 => rfl
  | x :: r, o, k + 1 => by
    simp only [row, List.drop_succ_cons]
    rw [row_drop r (o + 1) k]
    congr 1
    omega
theorem dropB_flat : ∀ (l : List Pc) (k : Nat), flat (dropB k l) = (flat l).drop k
  | [], k => by simp [dropB, flat]
  | p :: r, k => by
    unfold dropB
    rw [flat_cons]
    by_cases h : k < p.b.length
    · rw [if_pos h, flat_cons, List.drop_append_of_le_length (by rw [row_length]; omega), row_drop]
    · have hz : (row p.off p.b).drop k = [] := List.drop_eq_nil_of_le (by rw [row_length]; omega)
      rw [if_neg h, dropB_flat r, List.drop_append, hz, row_length, List.nil_append]
theorem dropB_zero {l : List Pc} {a : Nat} (h : Srt a l) : dropB 0 l = l := by
  cases l with
  | nil => rfl
  | cons p r =>
    unfold dropB
    rw [if_pos (List.length_pos_iff.2 h.2.1)]
    rfl
theorem dropB_srt : ∀ (l : List Pc) (a k : Nat), Srt a l → k ≤ (run l a).length → Srt (a + k) (dropB k l)
  | [], a, k, _, _ => by simp [dropB, Srt]
  | p :: r, a, k, h, hk => by
    unfold run at hk
    unfold dropB
    by_cases ha : p.off = a
    · rw [if_pos ha, List.length_append] at hk
      by_cases hl : k < p.b.length
      · rw [if_pos hl]
        refine ⟨by show _ ≤ p.off + k; omega, ?_, ?_⟩
        · intro c
          have := congrArg List.length c
          simp at this
          omega
        · have : (⟨p.off + k, p.b.drop k⟩ : Pc).stop = p.stop := by
            unfold Pc.stop
            simp only [List.length_drop]
            omega
          rw [this]
          exact h.2.2
      · rw [if_neg hl]
        have h1 := dropB_srt r p.stop (k - p.b.length) h.2.2 (by omega)
        have e : p.stop + (k - p.b.length) = a + k := by unfold Pc.stop; omega
        rw [e] at h1
        exact h1
    · rw [if_neg ha] at hk
      obtain rfl : k = 0 := by simpa using hk
      have hp : 0 < p.b.length := List.length_pos_iff.2 h.2.1
      rw [if_pos hp]
      exact ⟨h.1, h.2.1, h.2.2⟩
/-- what stands first -/
theorem run_flat : ∀ (l : List Pc) (a : Nat), Srt a l → ∃ r, flat l = row a (run l a) ++ r ∧ ∀ q ∈ r, a + (run l a).length < q.1
  | [], a, _ => ⟨[], rfl, fun q h => by cases h⟩
  | p :: r, a, h => by
    unfold run
    by_cases ha : p.off = a
    · rw [if_pos ha]
      obtain ⟨s, h1, h2⟩ := run_flat r p.stop h.2.2
      have e : a + p.b.length = p.stop := by unfold Pc.stop; omega
      refine ⟨s, ?_, fun q hq => ?_⟩
      · rw [flat_cons, h1, row_append, ha, e, List.append_assoc]
      · have := h2 q hq
        rw [List.length_append]
        omega
    · rw [if_neg ha]
      refine ⟨flat (p :: r), rfl, fun q hq => ?_⟩
      have hlt : a < p.off := by have := h.1; omega
      simp only [List.length_nil, Nat.add_zero]
      obtain ⟨p', hp', hq'⟩ := List.mem_flatMap.1 hq
      have h3 := row_mem hq'
      have h4 : p.off ≤ p'.off := by
        rcases List.mem_cons.1 hp' with rfl | hp'
        · exact Nat.le_refl _
        · have := (h.2.2.low p' hp').1
          unfold Pc.stop at this
          omega
      omega
/-- pieces that do not touch, by any order, put in order -/
def Dj (p q : Pc) : Prop := p.stop ≤ q.off ∨ q.stop ≤ p.off
theorem srt_of : ∀ (l : List Pc) (a : Nat), (∀ p ∈ l, a ≤ p.off ∧ p.b ≠ []) → l.Pairwise Dj → l.Pairwise (fun p q => p.off ≤ q.off) → Srt a l
  | [], _, _, _, _ => trivial
  | p :: r, a, h, hd, ho => by
    rw [List.pairwise_cons] at hd ho
    have hp := h p (by simp)
    refine ⟨hp.1, hp.2, srt_of r p.stop (fun q hq => ⟨?_, (h q (by simp [hq])).2⟩) hd.2 ho.2⟩
    have h1 := hd.1 q hq
    have h2 := ho.1 q hq
    have h3 : 0 < q.b.length := List.length_pos_iff.2 (h q (by simp [hq])).2
    rcases h1 with h1 | h1
    · exact h1
    · unfold Pc.stop at h1
      omega
theorem srt_dj : ∀ {l : List Pc} {a : Nat}, Srt a l → l.Pairwise Dj
  | [], _, _ => List.Pairwise.nil
  | _ :: _, _, h => List.pairwise_cons.2 ⟨fun q hq => .inl (h.2.2.low q hq).1, srt_dj h.2.2⟩
end Go.Proofs.Ytljleaomlooiaaa.M
