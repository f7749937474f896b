/- Slices of slices, appends in a region that draws its order: over any program. No condition. -/
import Derived.Test.YtpojejdddgdjdaaGreatDoorArrb
import Derived.StillTailTactics
namespace Go.Proofs.YtpojejdddgdjdaaGreatDoor.M
open Go.ChangeShapes Go.WideShapes Go.ChangeAt Go.RowKit

section
variable {P : Program} {t e : TypeId} {size bytes : Nat} {o : Oper} {a : Act} {w : World} {A : Option Addr} {n c i j : Nat} {x lo hi : Operand} {k1 k2 : IntKind} {u v : Int}
/-- x[i:j] -/
theorem run_cutG (E : Elem P t e size bytes) (ho : o.op = .slice t x (some lo) (some hi) none) (hx : a.eval x = .slice A n c) (hlo : a.eval lo = .int k1 u) (hhi : a.eval hi = .int k2 v) (hu : u = (i : Int)) (hv : v = (j : Int)) (hij : i ≤ j) (hj : j ≤ c) :
    (execOp a.eval o).run P w = .ok (.value (.slice (if c = i then A else A.map (·.add (i * size))) (j - i) (c - i))) w := by
  subst hu
  subst hv
  obtain ⟨q, z, hi, hz, hs, hb, hzs⟩ := E.info
  unfold execOp
  have h3 : (0 : Int) ≤ (i : Int) := by omega
  have h4 : (0 : Int) ≤ (j : Int) := by omega
  simp only [ho, Option.map_some, Option.map_none, hlo, hhi, hx]
  simp [Instr.sliceAt, Instr.slice, Instr.sliceBounds, Instr.sliceBound, run_underlying E.ht, sizeOf, typeInfo, hi, hs, asIntOf, h3, h4, hij, hj]
/-- x[i:] -/
theorem run_fromG (E : Elem P t e size bytes) (ho : o.op = .slice t x (some lo) none none) (hx : a.eval x = .slice A n c) (hlo : a.eval lo = .int k1 u) (hu : u = (i : Int)) (hin : i ≤ n) :
    (execOp a.eval o).run P w = .ok (.value (.slice (if c = i then A else A.map (·.add (i * size))) (n - i) (c - i))) w := by
  subst hu
  obtain ⟨q, z, hi, hz, hs, hb, hzs⟩ := E.info
  unfold execOp
  have h3 : (0 : Int) ≤ (i : Int) := by omega
  simp only [ho, Option.map_some, Option.map_none, hlo, hx]
  simp [Instr.sliceAt, Instr.slice, Instr.sliceBounds, Instr.sliceBound, run_underlying E.ht, sizeOf, typeInfo, hi, hs, asIntOf, h3, hin]
/-- x[:j] -/
theorem run_toG (E : Elem P t e size bytes) (ho : o.op = .slice t x none (some hi) none) (hx : a.eval x = .slice A n c) (hhi : a.eval hi = .int k1 v) (hv : v = (j : Int)) (hj : j ≤ c) :
    (execOp a.eval o).run P w = .ok (.value (.slice A j c)) w := by
  subst hv
  obtain ⟨q, z, hi, hz, hs, hb, hzs⟩ := E.info
  unfold execOp
  have h4 : (0 : Int) ≤ (j : Int) := by omega
  have hA : A.map (·.add 0) = A := by cases A <;> simp [Addr.add]
  simp only [ho, Option.map_some, Option.map_none, hhi, hx]
  by_cases hc : c = 0
  · subst hc
    obtain rfl : j = 0 := by omega
    simp [Instr.sliceAt, Instr.slice, Instr.sliceBounds, Instr.sliceBound, run_underlying E.ht, sizeOf, typeInfo, hi, asIntOf]
  · simp [Instr.sliceAt, Instr.slice, Instr.sliceBounds, Instr.sliceBound, run_underlying E.ht, sizeOf, typeInfo, hi, asIntOf, h4, hj, hA, hc]
/-- the same, the outcome under names -/
theorem run_cutE {A2 : Option Addr} {n2 c2 : Nat} (E : Elem P t e size bytes) (hA : (if c = i then A else A.map (·.add (i * size))) = A2) (hn : j - i = n2) (hc : c - i = c2) (ho : o.op = .slice t x (some lo) (some hi) none) (hx : a.eval x = .slice A n c) (hlo : a.eval lo = .int k1 u) (hhi : a.eval hi = .int k2 v) (hu : u = (i : Int)) (hv : v = (j : Int)) (hij : i ≤ j) (hj : j ≤ c) :
    (execOp a.eval o).run P w = .ok (.value (.slice A2 n2 c2)) w := by
  subst hA hn hc
  exact run_cutG E ho hx hlo hhi hu hv hij hj
theorem run_fromE {A2 : Option Addr} {n2 c2 : Nat} (E : Elem P t e size bytes) (hA : (if c = i then A else A.map (·.add (i * size))) = A2) (hn : n - i = n2) (hc : c - i = c2) (ho : o.op = .slice t x (some lo) none none) (hx : a.eval x = .slice A n c) (hlo : a.eval lo = .int k1 u) (hu : u = (i : Int)) (hin : i ≤ n) :
    (execOp a.eval o).run P w = .ok (.value (.slice A2 n2 c2)) w := by
  subst hA hn hc
  exact run_fromG E ho hx hlo hu hin
end
theorem cut_none {A : Option Addr} {c i k : Nat} (h : (if c = i then A else A.map (·.add k)) = none) : A = none := by
  split at h
  · exact h
  · simpa using h
theorem cut_blk {A : Option Addr} {c i k : Nat} : blk (if c = i then A else A.map (·.add k)) = blk A := by
  split
  · rfl
  · cases A with
    | none => rfl
    | some a => simp [blk]; unfold Addr.add; split <;> rfl
theorem cut_rd {w : World} {A : Option Addr} {xs : List Value} (h : Rd w A xs) {c k n : Nat} (hn : xs.length ≤ n * k) (hc : n ≤ c) (i : Nat) : Rd w (if c = i then A else A.map (·.add (i * k))) (xs.drop (i * k)) := fun j u hu => by
  rw [List.getElem?_drop] at hu
  obtain ⟨g, off, rfl, hcell⟩ := h _ u hu
  by_cases e : c = i
  · have h1 : i * k + j < xs.length := (List.getElem?_eq_some_iff.1 hu).1
    have h2 : n * k ≤ i * k := Nat.mul_le_mul_right _ (by omega)
    omega
  · rw [if_neg e]
    exact ⟨g, off + i * k, by simp [Addr.add_lit], by rw [Nat.add_assoc]; exact hcell⟩
/-- a slice without its first elements may be appended to -/
theorem App.from_ {M : Nat → Prop} {w : World} {e size n c : Nat} {A : Option Addr} {xs : List Value} (h : App M w e size A n c xs) (i : Nat) (hi : i ≤ n) :
    App M w e size (if c = i then A else A.map (·.add (i * size))) (n - i) (c - i) (xs.drop (i * size)) := by
  have hc := h.cap
  have hm := h.max
  refine ⟨by rw [List.length_drop, h.len, Nat.sub_mul], by omega, by omega, fun hA => ?_, cut_rd h.rd (by rw [h.len]; omega) hc i, fun k hk => ?_, fun hn => ?_⟩
  · have := h.nil_ (cut_none hA)
    omega
  · rw [cut_blk] at hk
    exact h.inM k hk
  · obtain ⟨g, off, cur, rfl, b, d, f⟩ := h.own (by omega)
    rw [if_neg (by omega)]
    refine ⟨g, off + i * size, cur, by simp [Addr.add_lit], b, ?_, f⟩
    have : (c - i) * size = c * size - i * size := Nat.sub_mul ..
    have h2 : i * size ≤ c * size := Nat.mul_le_mul_right _ (by omega)
    omega
theorem App.here {M : Nat → Prop} {w : World} {e size n c : Nat} {A : Option Addr} {xs : List Value} (h : App M w e size A n c xs) (hx : xs ≠ []) : App (fun k => M k ∧ k < w.heap.size) w e size A n c xs := by
  obtain ⟨g, off, rfl, hg⟩ := h.rd.lt hx
  exact { h with
    inM := fun k hk => ⟨h.inM k hk, by cases hk; exact hg⟩
    own := fun hn => by
      obtain ⟨g', off', cur, e1, b, d, f⟩ := h.own hn
      cases e1
      exact ⟨g, off, cur, rfl, b, d, f, hg⟩ }
/-- append as one step of a region that draws its order; it tells which block the slice is in -/
theorem step_append2 {P : Program} {ops : Array Oper} {o : Oper} {a : Act} {Q : Exit → Act → World → Prop} {w : World} {M : Nat → Prop} {t e : TypeId} {size bytes : Nat} {K : Act → World → Prop} {E0 : Prop} (E : Elem P t e size bytes) (hgd : o.guard = none) {s x : Operand} (ho : o.op = .call { callee := .builtin .append, args := #[s, x], argTypes := #[t, t] })
    {A : Option Addr} {n c : Nat} {xs : List Value} (hs : a.eval s = .slice A n c) (hA : App M w e size A n c xs) (hu : Up M w)
    {B : Option Addr} {m d : Nat} {news : List Value} (hx : a.eval x = .slice B m d) (hB : Rd w B news) (hl : news.length = m * size) (h1 : ∀ u ∈ news, u.oneCell' = true) (hbytes : (n + m) * bytes ≤ 140737488355328)
    (h : ∀ A' c' w', App M w' e size A' (n + m) c' (xs ++ news) → Frm M w w' → ((blk A' = blk A ∧ c' = c) ∨ (blk A' = some w.heap.size ∧ 0 < m)) → Frm (Wr A n c w) w w' → K (a.put o.dst (.slice A' (n + m) c')) w') :
    if Region.wanted o (yielded ops a.tmps) = true then Oper.wp P o a w K Q else E0 := by
  rw [if_pos (by simp [Region.wanted, hgd])]
  obtain ⟨A', c', w', hr, h2, h3, h4, h5⟩ := run_append_slice E w o.type hA hu hB hl h1 hbytes (d := d)
  unfold Oper.wp execOp
  simp only [ho, resolve, invoke, builtin, Sem.run_bind, Sem.run_pure, Result.andThen_ok, List.map_toArray, List.map_cons, List.map_nil, hs, hx, hr]
  exact h _ _ _ h2 h3 h4 h5
/-- an operation whose run is known, as one step of such a region -/
theorem step_val {P : Program} {ops : Array Oper} {o : Oper} {a : Act} {Q : Exit → Act → World → Prop} {w : World} {K : Act → World → Prop} {E0 : Prop} (hgd : o.guard = none) (v : Value) (hr : (execOp a.eval o).run P w = .ok (.value v) w) (h : K (a.put o.dst v) w) :
    if Region.wanted o (yielded ops a.tmps) = true then Oper.wp P o a w K Q else E0 := by
  rw [if_pos (by simp [Region.wanted, hgd])]
  unfold Oper.wp
  rw [hr]
  exact h
/-- an operation whose run is known, where only reads stand ahead of the last ones -/
theorem wpStill_val {P : Program} {ops : Array Oper} {w : World} {Q : Act → Prop} {a : Act} {o : Oper} {rest : List Oper} (v : Value) (hgd : o.guard = none) (hr : (execOp a.eval o).run P w = .ok (.value v) w) (h : wpStill P ops w Q rest (a.put o.dst v)) : wpStill P ops w Q (o :: rest) a := by
  unfold wpStill
  rw [if_pos (by simp [Region.wanted, hgd])]
  unfold Oper.still
  rw [hr, Oper.stillUpon_value]
  exact h
end Go.Proofs.YtpojejdddgdjdaaGreatDoor.M
