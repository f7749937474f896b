/- Arguments that are slices of bytes. No condition. -/
import Derived.Test.YtpojejdddgdjdaaDoorStr
import Derived.ChangeSlices
namespace Go.Proofs.YtpojejdddgdjdaaDoor.M
open Go.ChangeShapes Go.WideShapes Go.ChangeAt Go.RowKit

/-- an argument: a slice of the bytes l -/
structure BIn (W : World) (A : Option Addr) (n c : Nat) (l : Bytes) : Prop where
  len : n = l.length
  rd : Rd W A (bvs l)
  low : ∀ k, blk A = some k → k < W.heap.size
  nil_ : A = none → n = 0
  nilc : A = none → c = 0
  cap : n ≤ c
  max : c ≤ maxLen

set_option maxRecDepth 100000 in
theorem is_bytes {W : World} {H : Type} {x : DataW H × List MemPlace} {base base2 : Nat} {r : Reach} {spare : Nat → Bool} {A : Option Addr} {len cap : Nat} (hv : Value.okWide Tryd.prog W r base2 23 (.slice A len cap))
    (h : ([Value.slice A len cap] = [.slice none 0 0] ∧ x = (.nil, [])) ∨
      ∃ (a : Addr) (len' cap' : Nat) (zs : List Int), [Value.slice A len cap] = [.slice (some a) len' cap'] ∧ base ≤ a.block ∧ len' ≤ cap' ∧ cap' ≤ maxLen ∧ zs.length = (if spare a.block then cap' else len') ∧
        x = (.slice (lits .u8 (zs.take len')) (lits .u8 (zs.drop len')), MemPlace.row a zs.length) ∧
        (∀ i, i < zs.length → W.cell? (a.add i) = some (.int .u8 (zs.getD i 0))) ∧ (∀ n ∈ zs, (Lit.int .u8 n).wf = true)) : ∃ l : Bytes, BIn W A len cap l := by
  rcases h with ⟨h, _⟩ | ⟨a, len', cap', zs, h, _, hc, hm, hz, _, hcell, hwf⟩
  · simp only [List.cons.injEq, Value.slice.injEq, and_true] at h
    obtain ⟨rfl, rfl, rfl⟩ := h
    exact ⟨[], rfl, Rd.nil, fun k hk => (by cases hk), fun _ => rfl, fun _ => rfl, Nat.le_refl _, Nat.zero_le _⟩
  · simp only [List.cons.injEq, Value.slice.injEq, and_true] at h
    obtain ⟨rfl, rfl, rfl⟩ := h
    simp only [Value.okWide, Tryd.underlying23, Cell.okWide, Cell.ok] at hv
    obtain ⟨_, _, _, hsp, row, cells, hsh, _⟩ := hv
    have hlow : a.block < W.heap.size := by
      unfold World.shape? at hsh
      cases hb : W.heap[a.block]? with
      | none => rw [hb] at hsh; cases hsh
      | some o => exact (Array.getElem?_eq_some_iff.1 hb).1
    have hlz : len ≤ zs.length := by rw [hz]; split <;> omega
    refine ⟨(zs.take len).map (fun z => UInt8.ofNat z.toNat), by simp; omega, ?_, fun k hk => (by cases hk; exact hlow), fun e => by (cases e), fun e => by (cases e), hc, hm⟩
    intro j u hu
    have hj : j < len := by
      have := (List.getElem?_eq_some_iff.1 hu).1
      simp [bvs] at this
      omega
    have hzj : zs.getD j 0 ∈ zs := by
      rw [List.getD_eq_getElem?_getD, List.getElem?_eq_getElem (by omega)]
      exact List.getElem_mem _
    have hw := hwf _ hzj
    have hb : 0 ≤ zs.getD j 0 ∧ zs.getD j 0 ≤ 255 := by
      generalize zs.getD j 0 = z at hw
      simp only [Lit.wf, decide_eq_true_eq, Bool.and_eq_true] at hw
      exact hw
    have hc1 := hcell j (by omega)
    obtain ⟨g, off, spot⟩ := a
    simp only at hsp
    subst hsp
    refine ⟨g, off, rfl, ?_⟩
    rw [Addr.add_lit] at hc1
    rw [hc1]
    have e : (bvs ((zs.take len).map (fun z => UInt8.ofNat z.toNat)))[j]? = some (bv (UInt8.ofNat (zs.getD j 0).toNat)) := by
      simp [bvs, hj, List.getElem?_eq_getElem (show j < zs.length by omega)]
    rw [e] at hu
    injection hu with hu
    have hv := bv_of (zs.getD j 0) hb.1 hb.2
    rw [← hu, ← hv]
end Go.Proofs.YtpojejdddgdjdaaDoor.M
