/- Cap -/
import Derived.Test.YtdgggjeiflllhaaZzArr

namespace Go.Proofs.Ytdgggjeiflllhaa.M
open Go.ChangeShapes Go.WideShapes Go.ChangeAt Go.RowKit
theorem App.tight {N : Nat → Prop} {w : World} {e size n c : Nat} {A : Option Addr} {xs : List Value} (h : App N w e size A n c xs) : App (fun k => M.blk A = some k ∨ New w k) w e size A n c xs :=
  { h with
    inM := fun k hk => .inl hk
    own := fun hc => by
      obtain ⟨gg, off, cur, a, b2, d, m⟩ := h.own hc
      exact ⟨gg, off, cur, a, b2, d, .inl (by rw [a]; rfl)⟩ }
theorem app_lt {w : World} {e size n : Nat} {xs : List Value} {N : Nat → Prop} {A : Option Addr} {c : Nat} (h : App N w e size A n c xs) (hne : xs ≠ []) : ∀ k, M.blk A = some k → k < w.heap.size := fun k hk => by
  obtain ⟨g9, o9, rfl, h9⟩ := h.rd.lt hne
  cases hk
  exact h9
section
variable {P : Program} {t e : TypeId} {size bytes : Nat} {o : Oper} {a : Act} {w : World} {A : Option Addr} {n c j : Nat} {x hi mx : Operand} {k1 k2 : IntKind} {u v : Int}
theorem run_capG (E : Elem P t e size bytes) (ho : o.op = .slice t x none (some hi) (some mx)) (hx : a.eval x = .slice A n c) (hhi : a.eval hi = .int k1 u) (hmx : a.eval mx = .int k2 v) (hu : u = (j : Int)) (hv : v = (j : Int)) (hj : j ≤ c) :
    (execOp a.eval o).run P w = .ok (.value (.slice A j j)) w := by
  subst hu
  subst hv
  obtain ⟨q, z, hi, hz, hs, hb, hzs⟩ := E.info
  unfold execOp
  have h4 : (0 : Int) ≤ (j : Int) := by omega
  have hA : A.map (·.add 0) = A := by cases A <;> simp [Addr.add]
  simp only [ho, Option.map_some, Option.map_none, hhi, hx, hmx]
  by_cases hc : j = 0
  · subst hc
    simp [Instr.sliceAt, Instr.slice, Instr.sliceBounds, Instr.sliceBound, run_underlying E.ht, sizeOf, typeInfo, hi, asIntOf]
  · simp [Instr.sliceAt, Instr.slice, Instr.sliceBounds, Instr.sliceBound, run_underlying E.ht, sizeOf, typeInfo, hi, asIntOf, h4, hj, hA]
end
theorem App.capn {N : Nat → Prop} {w : World} {e size n c : Nat} {A : Option Addr} {xs : List Value} (h : App N w e size A n c xs) : App N w e size A n n xs := by
  have hc := h.cap
  have hm := h.max
  refine ⟨h.len, Nat.le_refl _, by omega, fun hA => by have := h.nil_ hA; omega, h.rd, h.inM, fun h0 => ?_⟩
  obtain ⟨g, off, cur, h1, h2, h3, h4⟩ := h.own (by omega)
  have : n * size ≤ c * size := Nat.mul_le_mul_right _ hc
  exact ⟨g, off, cur, h1, h2, by omega, h4⟩
theorem app_new {N : Nat → Prop} {w w' : World} {e size n c : Nat} {A A' : Option Addr} {xs : List Value} (h : App N w' e size A' (n + 1) c xs) (hb : (M.blk A' = M.blk A ∧ c = n) ∨ (M.blk A' = some w.heap.size ∧ 0 < 1)) : App (New w) w' e size A' (n + 1) c xs := by
  have hc := h.cap
  rcases hb with hb | hb
  · omega
  · exact { h with
      inM := fun k hk => by rw [hb.1] at hk; cases hk; exact Nat.le_refl _
      own := fun h0 => by
        obtain ⟨gg, off, cur, a, b2, d, m⟩ := h.own h0
        have : M.blk A' = some gg := by rw [a]; rfl
        rw [hb.1] at this
        cases this
        exact ⟨_, off, cur, a, b2, d, Nat.le_refl _⟩ }
end Go.Proofs.Ytdgggjeiflllhaa.M

