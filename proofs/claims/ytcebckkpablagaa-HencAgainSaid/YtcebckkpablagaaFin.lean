/- Arguments that are slices of fields. No condition. -/
import Derived.Test.YtcebckkpablagaaSecr
import Derived.Deep.SlicePairs
import Derived.SizedLaws
namespace Go.Proofs.Ytcebckkpablagaa.M
open Go.ChangeShapes Go.WideShapes Go.ChangeAt Go.RowKit

theorem weightsAll_mem {H : Type} {P : Program} {e : TypeId} {d : DataW H} {n : Nat} (hn : n ∈ d.weights P e) : ∀ {l : List (DataW H)}, d ∈ l → n ∈ DataW.weightsAll P e l
  | x :: r, h => by
    rw [DataW.weightsAll, List.mem_append]
    rcases List.mem_cons.1 h with rfl | h
    · exact .inl hn
    · exact .inr (weightsAll_mem hn h)

def strOf : Value → Bytes
  | .string s => s.data.toList
  | _ => []
theorem str_strOf (s : ByteArray) : str (strOf (.string s)) = .string s := by
  show Value.string ⟨s.data.toList.toArray⟩ = _
  rw [Array.toArray_toList]

def fN : Field := { name := "Name", type := 9, offset := 0, embedded := false, tag := "", pkgPath := "", byteOffset := 0 }
def fV : Field := { name := "Value", type := 9, offset := 1, embedded := false, tag := "", pkgPath := "", byteOffset := 16 }

set_option maxRecDepth 100000 in
theorem is_fields {W : World} {H : Type} {enc : TypeId × Value → H} {x : DataW H × List MemPlace} {base base2 : Nat} {r : Reach} {spare : Nat → Bool} {held : Bool} {fuel : Nat} {A : Option Addr} {len cap : Nat} (hv : Value.okWide Try.prog W r base2 27 (.slice A len cap))
    (ht : DataW.trod enc Try.prog W base spare held fuel 27 [.slice A len cap] = some x) (hw : ∀ n ∈ x.1.weights Try.prog 27, n ≤ reachBytes) : ∃ l : List Fld, FIn W A len cap l := by
  have hop := Deep.open_slice_pairs (f0 := fN) (f1 := fV) Try.underlying27 Try.underlying30 (by kernel_rfl) rfl rfl (by kernel_rfl) (by kernel_rfl) ht
  rcases hop with ⟨h, _⟩ | ⟨a, len', cap', m, n, V0, V1, D0, D1, P0, P1, h, _, hc, hm, hz, hx, hcell⟩
  · simp only [List.cons.injEq, Value.slice.injEq, and_true] at h
    obtain ⟨rfl, rfl, rfl⟩ := h
    exact ⟨[], rfl, Rd.nil, fun k hk => (by cases hk), fun _ => rfl, Nat.le_refl _, Nat.zero_le _, fun f hf => (by cases hf)⟩
  · simp only [List.cons.injEq, Value.slice.injEq, and_true] at h
    obtain ⟨rfl, rfl, rfl⟩ := h
    simp only [Value.okWide, Try.underlying27, Cell.okWide, Cell.ok] at hv
    obtain ⟨_, _, _, hsp, row, cells, hsh, _⟩ := hv
    have hlow : a.block < W.heap.size := by
      unfold World.shape? at hsh
      cases hb : W.heap[a.block]? with
      | none => rw [hb] at hsh; cases hsh
      | some o => exact (Array.getElem?_eq_some_iff.1 hb).1
    have hlm : len ≤ m := by rw [hz]; split <;> omega
    have key : ∀ i, i < len → V0 i = str (strOf (V0 i)) ∧ V1 i = str (strOf (V1 i)) ∧ (strOf (V0 i)).length ≤ reachBytes ∧ (strOf (V1 i)).length ≤ reachBytes := by
      intro i hi
      obtain ⟨_, _, t0, t1⟩ := hcell i (by omega)
      obtain ⟨s0, e0, d0, _⟩ := DataW.trod_string Try.underlying9 t0
      obtain ⟨s1, e1, d1, _⟩ := DataW.trod_string Try.underlying9 t1
      simp only [List.cons.injEq, and_true] at e0 e1
      simp only [Prod.mk.injEq] at d0 d1
      have hmem : (.agg [D0 i, D1 i] : DataW H) ∈ (List.range len).map fun i => (.agg [D0 i, D1 i] : DataW H) := List.mem_map.2 ⟨i, List.mem_range.2 hi, rfl⟩
      have hall : ∀ q ∈ (.agg [D0 i, D1 i] : DataW H).weights Try.prog 30, q ≤ reachBytes := fun q hq => hw q (by
        rw [hx]
        simp only [DataW.weights, Try.underlying27, List.mem_cons, List.mem_append]
        exact .inr (.inl (weightsAll_mem hq hmem)))
      simp only [DataW.weights, Try.underlying30, d0.1, d1.1] at hall
      rw [e0, e1]
      refine ⟨(str_strOf s0).symm, (str_strOf s1).symm, hall _ ?_, hall _ ?_⟩
      · simp [DataW.weightsEach, DataW.weights, strOf]
      · simp [DataW.weightsEach, DataW.weights, strOf]
    obtain ⟨g, off, spot⟩ := a
    simp only at hsp
    subst hsp
    have hrd : Rd W (some ⟨g, off, none⟩) (fvs ((List.range len).map fun i => (strOf (V0 i), strOf (V1 i)))) := by
      intro j u hu
      have hj : j < 2 * len := by
        have := (List.getElem?_eq_some_iff.1 hu).1
        rw [fvs_length] at this
        simpa using this
      refine ⟨g, off, rfl, ?_⟩
      obtain ⟨i, hi, rfl | rfl⟩ : ∃ i, i < len ∧ (j = i * 2 ∨ j = i * 2 + 1) := ⟨j / 2, by omega, by omega⟩
      · have h1 := (fvs_get ((List.range len).map fun i => (strOf (V0 i), strOf (V1 i))) i (by simpa using hi)).1
        rw [hu] at h1
        obtain ⟨c0, _⟩ := hcell i (by omega)
        rw [Addr.add_lit] at c0
        rw [c0, h1]
        simp only [List.getElem_map, List.getElem_range]
        rw [← (key i hi).1]
      · have h1 := (fvs_get ((List.range len).map fun i => (strOf (V0 i), strOf (V1 i))) i (by simpa using hi)).2
        rw [hu] at h1
        obtain ⟨_, c1, _⟩ := hcell i (by omega)
        rw [Addr.add_lit] at c1
        rw [← Nat.add_assoc] at c1 ⊢
        rw [c1, h1]
        simp only [List.getElem_map, List.getElem_range]
        rw [← (key i hi).2.1]
    have hrb : reachBytes ≤ 1125899906842624 := by decide
    refine ⟨_, by simp, hrd, fun k hk => (by cases hk; exact hlow), fun e => (by cases e), hc, hm, fun f hf => ?_⟩
    obtain ⟨i, hi, rfl⟩ := List.mem_map.1 hf
    obtain ⟨_, _, k1, k2⟩ := key i (List.mem_range.1 hi)
    exact ⟨Nat.le_trans k1 hrb, Nat.le_trans k2 hrb⟩
end Go.Proofs.Ytcebckkpablagaa.M
