/- Gin -/
import Derived.Deep.Slices
import Derived.SizedLaws
import Derived.Test.YtdgggjeiflllhaaRows
import Derived.Test.YtdgggjeiflllhaaZyMem
import Derived.Test.YtdgggjeiflllhaaZyArr

namespace Go.Proofs.Ytdgggjeiflllhaa.M
open Go.ChangeShapes Go.WideShapes Go.ChangeAt Go.RowKit
theorem flatL_length {α : Type} (f : α → List Value) (k : Nat) (hf : ∀ x, (f x).length = k) : ∀ l : List α, (l.flatMap f).length = l.length * k
  | [] => by simp
  | x :: l => by
    rw [List.flatMap_cons, List.length_append, hf, flatL_length f k hf l, List.length_cons, Nat.add_mul, Nat.one_mul, Nat.add_comm]
theorem flatL_get {α : Type} (f : α → List Value) (k : Nat) (hf : ∀ x, (f x).length = k) : ∀ (l : List α) (i c : Nat) (hi : i < l.length), c < k → (l.flatMap f)[i * k + c]? = (f l[i])[c]?
  | [], i, c, hi, _ => by simp at hi
  | x :: l, 0, c, _, hc => by
    rw [List.flatMap_cons, Nat.zero_mul, Nat.zero_add, List.getElem?_append_left (by rw [hf]; exact hc)]
    rfl
  | x :: l, i + 1, c, hi, hc => by
    rw [List.flatMap_cons, List.getElem?_append_right (by rw [hf, Nat.add_mul]; omega), hf, show (i + 1) * k + c - k = i * k + c by rw [Nat.add_mul]; omega]
    exact flatL_get f k hf l i c (by simpa using hi) hc
structure AIn {α : Type} (W : World) (enc : α → List Value) (ok : α → Prop) (A : Option Addr) (n c : Nat) (l : List α) : Prop where
  len : n = l.length
  rd : Rd W A (l.flatMap enc)
  cap : n ≤ c
  max : c ≤ maxLen
  ok : ∀ x ∈ l, ok x
  nil_ : A = none → c = 0
theorem weightsAll_mem2 {H : Type} {P : Program} {e : TypeId} {d : DataW H} {n : Nat} (hn : n ∈ d.weights P e) : ∀ {l : List (DataW H)}, d ∈ l → n ∈ DataW.weightsAll P e l
  | x :: r, h => by
    rw [DataW.weightsAll, List.mem_append]
    rcases List.mem_cons.1 h with rfl | h
    · exact .inl hn
    · exact .inr (weightsAll_mem2 hn h)
section
variable {W : World} {H : Type} {en : TypeId × Value → H} {base : Nat} {spare : Nat → Bool} {held : Bool}
theorem rows_trod {α : Type} [Inhabited α] {T E : TypeId} (hT : Try.prog.underlying T = some (.slice E)) {k : Nat} (hk : Try.prog.cellsOf E = k) (k0 : 0 < k) (enc : α → List Value) (he : ∀ x, (enc x).length = k) (ok : α → Prop)
    (each : ∀ (fuel : Nat) (cs : List Value) (y : DataW H × List MemPlace), DataW.trod en Try.prog W base spare held fuel E cs = some y → (∀ q ∈ y.1.weights Try.prog E, q ≤ reachBytes) → ∃ x, cs = enc x ∧ ok x)
    {fuel : Nat} {v : Value} {x : DataW H × List MemPlace} (h : DataW.trod en Try.prog W base spare held fuel T [v] = some x) (hw : ∀ q ∈ x.1.weights Try.prog T, q ≤ reachBytes) :
    ∃ (A : Option Addr) (n c : Nat) (l : List α), v = .slice A n c ∧ AIn W enc ok A n c l := by
  rcases Deep.open_slice hT h with ⟨h0, _⟩ | ⟨a, len, cap, m, fu, D, Pl, h0, _, hc, hm, hmm, hx, hcell⟩
  · simp only [List.cons.injEq, and_true] at h0
    exact ⟨none, 0, 0, [], h0, rfl, Rd.nil, Nat.le_refl _, Nat.zero_le _, (fun x hx => by cases hx), fun _ => rfl⟩
  · simp only [List.cons.injEq, and_true] at h0
    have hlm : len ≤ m := by rw [hmm]; split <;> omega
    obtain ⟨X, hX⟩ := Deep.choose_lt (α := α) (n := len) (p := fun i y => W.cells? base (a.add (i * k)) k = some (enc y) ∧ ok y) (fun i hi => by
      obtain ⟨cs, h1, h2⟩ := hcell i (by omega)
      obtain ⟨y, e, hy⟩ := each fu cs (D i, Pl i) h2 (fun q hq => hw q (by
        rw [hx]
        simp only [DataW.weights, hT, List.mem_cons, List.mem_append]
        exact .inr (.inl (weightsAll_mem2 hq (List.mem_map.2 ⟨i, List.mem_range.2 hi, rfl⟩)))))
      rw [hk] at h1
      exact ⟨y, by rw [← e]; exact h1, hy⟩)
    refine ⟨some a, len, cap, (List.range len).map X, h0, by simp, ?_, hc, hm, fun y hy => ?_, fun e => by cases e⟩
    · intro j u hu
      have hj : j < len * k := by
        have := (List.getElem?_eq_some_iff.1 hu).1
        rw [flatL_length enc k he] at this
        simpa using this
      have hd : j / k < len := Nat.div_lt_of_lt_mul (by rw [Nat.mul_comm]; exact hj)
      have hr : j % k < k := Nat.mod_lt _ k0
      have hjj : j / k * k + j % k = j := by rw [Nat.mul_comm]; exact Nat.div_add_mod j k
      have hg := flatL_get enc k he ((List.range len).map X) (j / k) (j % k) (by simpa using hd) hr
      rw [hjj, hu] at hg
      simp only [List.getElem_map, List.getElem_range] at hg
      obtain ⟨_, _, hcl⟩ := World.cells?_some (hX (j / k) hd).1
      have h1 := hcl (j % k) hr
      rw [← hg, Deep.add_add, hjj] at h1
      have hsp := World.cell?_spot h1
      obtain ⟨g, off, spot⟩ := a
      by_cases hj0 : j = 0
      · subst hj0
        have hsp2 : spot = none := by simpa [Addr.add] using hsp
        subst hsp2
        exact ⟨g, off, rfl, by rw [← h1, Addr.add_lit]⟩
      · obtain ⟨cs, h2, _⟩ := hcell 0 (Nat.lt_of_lt_of_le (Nat.lt_of_le_of_lt (Nat.zero_le _) hd) hlm)
        rw [hk] at h2
        obtain ⟨_, hl0, hcl0⟩ := World.cells?_some h2
        have h3 := hcl0 0 k0
        rw [Nat.zero_mul, Deep.add_add, List.getElem?_eq_getElem (by omega)] at h3
        have hsp2 := World.cell?_spot h3
        have hsp3 : spot = none := by simpa [Addr.add] using hsp2
        subst hsp3
        exact ⟨g, off, rfl, by rw [← h1, Addr.add_lit]⟩
    · obtain ⟨i, hi, rfl⟩ := List.mem_map.1 hy
      exact (hX i (List.mem_range.1 hi)).2
end
theorem list2 {α : Type} {l : List α} (h : l.length = 2) : ∃ a b, l = [a, b] := by
  match l, h with
  | [a, b], _ => exact ⟨a, b, rfl⟩
theorem list1 {α : Type} {l : List α} (h : l.length = 1) : ∃ a, l = [a] := by
  match l, h with
  | [a], _ => exact ⟨a, rfl⟩
section
variable {W : World} {H : Type} {en : TypeId × Value → H} {base : Nat} {spare : Nat → Bool} {held : Bool}
structure Sl (α : Type) where
  A : Option Addr
  c : Nat
  l : List α
instance {α : Type} : Inhabited (Sl α) := ⟨⟨none, 0, []⟩⟩
def Sl.cells {α : Type} (x : Sl α) : List Value := [.slice x.A x.l.length x.c]
theorem slices_trod {α : Type} [Inhabited α] {T U E : TypeId} (hU : Try.prog.underlying U = some (.slice T)) (hT : Try.prog.underlying T = some (.slice E)) {k : Nat} (hk : Try.prog.cellsOf E = k) (k0 : 0 < k) (enc : α → List Value) (he : ∀ x, (enc x).length = k) (ok : α → Prop)
    (each : ∀ (fuel : Nat) (cs : List Value) (y : DataW H × List MemPlace), DataW.trod en Try.prog W base spare held fuel E cs = some y → (∀ q ∈ y.1.weights Try.prog E, q ≤ reachBytes) → ∃ x, cs = enc x ∧ ok x)
    (hc : Try.prog.cellsOf T = 1) {fuel : Nat} {v : Value} {x : DataW H × List MemPlace} (h : DataW.trod en Try.prog W base spare held fuel U [v] = some x) (hw : ∀ q ∈ x.1.weights Try.prog U, q ≤ reachBytes) :
    ∃ (A : Option Addr) (n c : Nat) (l : List (Sl α)), v = .slice A n c ∧ AIn W Sl.cells (fun s => AIn W enc ok s.A s.l.length s.c s.l) A n c l := by
  refine rows_trod hU hc (by omega) Sl.cells (fun _ => rfl) (fun s => AIn W enc ok s.A s.l.length s.c s.l) (fun fu cs y hy hq => ?_) h hw
  have h1 : cs.length = 1 := by
    rcases Deep.open_slice hT hy with ⟨e, _⟩ | ⟨_, _, _, _, _, _, _, e, _⟩ <;> (rw [e]; rfl)
  obtain ⟨v2, rfl⟩ := list1 h1
  obtain ⟨A, n, c, l, rfl, hl⟩ := rows_trod hT hk k0 enc he ok each hy hq
  have hn := hl.len
  subst hn
  exact ⟨⟨A, c, l⟩, rfl, hl⟩
end
theorem elem_cells {α : Type} {w : World} {g off : Nat} {l : List α} (enc : α → List Value) (k : Nat) (he : ∀ x, (enc x).length = k) (h : Rd w (some ⟨g, off, none⟩) (l.flatMap enc)) (i : Nat) (hi : i < l.length) :
    ∀ c u, c < k → (enc l[i])[c]? = some u → w.cell? ⟨g, off + i * k + c, none⟩ = some u := fun c u hc hu => by
  have h1 := flatL_get enc k he l i c hi hc
  rw [hu] at h1
  obtain ⟨g1, o1, e1, c1⟩ := h _ _ h1
  simp only [Option.some.injEq, Addr.mk.injEq] at e1
  obtain ⟨rfl, rfl, _⟩ := e1
  rw [← Nat.add_assoc] at c1
  exact c1
end Go.Proofs.Ytdgggjeiflllhaa.M

