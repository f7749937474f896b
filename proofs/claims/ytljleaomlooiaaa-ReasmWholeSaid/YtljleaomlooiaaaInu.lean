/- Arguments that are slices of numbers of sixteen bits. No condition. -/
import Derived.Test.YtljleaomlooiaaaInb
namespace Go.Proofs.Ytljleaomlooiaaa.M
open Go.ChangeShapes Go.WideShapes Go.ChangeAt Go.RowKit

/-- numbers of sixteen bits as cells -/
def u16s_ (l : List Nat) : List Value := l.map fun v : Nat => Value.int .u16 (v : Int)
structure UIn (W : World) (A : Option Addr) (n c : Nat) (l : List Nat) : Prop where
  len : n = l.length
  rd : Rd W A (u16s_ l)
  small : ∀ v ∈ l, v ≤ 65535
  cap : n ≤ c

set_option maxRecDepth 100000 in
theorem is_u16s {W : World} {H : Type} {x : DataW H × List MemPlace} {base base2 : Nat} {r : Reach} {spare : Nat → Bool} {A : Option Addr} {len cap : Nat} (hv : Value.okWide Try.prog W r base2 23 (.slice A len cap))
    (h : ([Value.slice A len cap] = [.slice none 0 0] ∧ x = (.nil, [])) ∨
      ∃ (a : Addr) (len' cap' : Nat) (zs : List Int), [Value.slice A len cap] = [.slice (some a) len' cap'] ∧ base ≤ a.block ∧ len' ≤ cap' ∧ cap' ≤ maxLen ∧ zs.length = (if spare a.block then cap' else len') ∧
        x = (.slice (lits .u16 (zs.take len')) (lits .u16 (zs.drop len')), MemPlace.row a zs.length) ∧
        (∀ i, i < zs.length → W.cell? (a.add i) = some (.int .u16 (zs.getD i 0))) ∧ (∀ n ∈ zs, (Lit.int .u16 n).wf = true)) : ∃ l : List Nat, UIn W A len cap l := by
  rcases h with ⟨h, _⟩ | ⟨a, len', cap', zs, h, _, hc, hm, hz, _, hcell, hwf⟩
  · simp only [List.cons.injEq, Value.slice.injEq, and_true] at h
    obtain ⟨rfl, rfl, rfl⟩ := h
    exact ⟨[], rfl, (Rd.nil : Rd W none []), fun v hv => (by cases hv), Nat.le_refl _⟩
  · simp only [List.cons.injEq, Value.slice.injEq, and_true] at h
    obtain ⟨rfl, rfl, rfl⟩ := h
    simp only [Value.okWide, Try.underlying23, Cell.okWide, Cell.ok] at hv
    obtain ⟨_, _, _, hsp, row, cells, hsh, _⟩ := hv
    have hlz : len ≤ zs.length := by rw [hz]; split <;> omega
    have hbd : ∀ z ∈ zs, 0 ≤ z ∧ z ≤ 65535 := fun z hz => by
      have hw := hwf z hz
      simp only [Lit.wf, decide_eq_true_eq, Bool.and_eq_true] at hw
      exact hw
    refine ⟨(zs.take len).map Int.toNat, by simp; omega, ?_, fun v hv => ?_, hc⟩
    · intro j u hu
      have hj : j < len := by
        have := (List.getElem?_eq_some_iff.1 hu).1
        simp [u16s_] at this
        omega
      have hzj : zs.getD j 0 ∈ zs := by
        rw [List.getD_eq_getElem?_getD, List.getElem?_eq_getElem (by omega)]
        exact List.getElem_mem _
      have hb := hbd _ hzj
      have hc1 := hcell j (by omega)
      obtain ⟨g, off, spot⟩ := a
      simp only at hsp
      subst hsp
      refine ⟨g, off, rfl, ?_⟩
      rw [Addr.add_lit] at hc1
      rw [hc1]
      have e : (u16s_ ((zs.take len).map Int.toNat))[j]? = some (.int .u16 ((zs.getD j 0).toNat : Int)) := by
        simp [u16s_, hj, List.getElem?_eq_getElem (show j < zs.length by omega)]
      rw [e] at hu
      injection hu with hu
      rw [← hu, Int.toNat_of_nonneg hb.1]
    · obtain ⟨z, hz, rfl⟩ := List.mem_map.1 hv
      have := hbd z (List.mem_of_mem_take hz)
      omega
end Go.Proofs.Ytljleaomlooiaaa.M
