/- The document's shape: plain words on the places of names, and what it leaves. No condition. -/
import Derived.BigQuiet
import Derived.Deep.CutBlock
import Derived.Lib.Hide
import Derived.IntWalk
import Derived.Test.YtpojejdddgdjdaaGreatDoorSr
namespace Go.Proofs.YtpojejdddgdjdaaGreatDoor.M
open Go.ChangeShapes Go.WideShapes Go.ChangeAt Go.RowKit

theorem made_one (v : Value) (hv : v.cells = #[v]) (m : Nat) : madeCells v.cells (m * 1) = (List.replicate m v).toArray := by
  apply Array.ext'
  rw [Nat.mul_one, hv, toList_madeCells_one]
def valsA (names : List Bytes) (S : List Fld) : Array Value := (names.map (fun nm => str (val S nm))).toArray
def hadsA (names : List Bytes) (S : List Fld) : Array Value := (names.map (fun nm => Value.bool (decide (nm ∈ S.map Prod.fst)))).toArray
theorem valsA_nil (names : List Bytes) : valsA names [] = (List.replicate names.length (str [])).toArray := by
  unfold valsA
  simp only [val_nil, List.map_const']
theorem hadsA_nil (names : List Bytes) : hadsA names [] = (List.replicate names.length (Value.bool false)).toArray := by
  unfold hadsA
  simp [List.map_const']
section
variable {names : List Bytes} {S : List Fld} {f : Fld} {q : Nat}
theorem valsA_size : (valsA names S).size = names.length := by simp [valsA]
theorem hadsA_size : (hadsA names S).size = names.length := by simp [hadsA]
theorem valsA_get (h : q < names.length) : (valsA names S)[q]? = some (str (val S names[q])) := by simp [valsA, h]
theorem hadsA_get (h : q < names.length) : (hadsA names S)[q]? = some (.bool (decide (names[q] ∈ S.map Prod.fst))) := by simp [hadsA, h]
theorem nodup_at (hn : names.Nodup) {i j : Nat} (hi : i < names.length) (hj : j < names.length) (h : names[i] = names[j]) : i = j := by
  rcases Nat.lt_trichotomy i j with c | c | c
  · exact absurd h (List.pairwise_iff_getElem.1 hn i j hi hj c)
  · exact c
  · exact absurd h.symm (List.pairwise_iff_getElem.1 hn j i hj hi c)
theorem valsA_snoc (hn : names.Nodup) (h : q < names.length) (e : names[q] = f.1) (hf : f.1 ∉ S.map Prod.fst) : (valsA names S).setIfInBounds q (str f.2) = valsA names (S ++ [f]) := by
  apply Array.ext
  · rw [Array.size_setIfInBounds, valsA_size, valsA_size]
  · intro i h1 h2
    rw [valsA_size] at h2
    apply Option.some.inj
    rw [← Array.getElem?_eq_getElem, ← Array.getElem?_eq_getElem, valsA_get h2, Array.getElem?_setIfInBounds, val_snoc S f _ hf]
    by_cases c : q = i
    · subst c
      rw [if_pos rfl, if_pos (by rw [valsA_size]; exact h), if_pos e.symm]
    · rw [if_neg c, valsA_get h2, if_neg (fun c2 => c (nodup_at hn h h2 (by rw [e, c2])))]
theorem hadsA_snoc (hn : names.Nodup) (h : q < names.length) (e : names[q] = f.1) : (hadsA names S).setIfInBounds q (.bool true) = hadsA names (S ++ [f]) := by
  apply Array.ext
  · rw [Array.size_setIfInBounds, hadsA_size, hadsA_size]
  · intro i h1 h2
    rw [hadsA_size] at h2
    apply Option.some.inj
    rw [← Array.getElem?_eq_getElem, ← Array.getElem?_eq_getElem, hadsA_get h2, Array.getElem?_setIfInBounds]
    by_cases c : q = i
    · subst c
      rw [if_pos rfl, if_pos (by rw [hadsA_size]; exact h)]
      simp [e]
    · rw [if_neg c, hadsA_get h2]
      have : names[i] ≠ f.1 := fun c2 => c (nodup_at hn h h2 (by rw [e, c2]))
      simp [this]
end
theorem trailOne_field (f : Fld) (h1 : fieldOk f = true) (h2 : ps f = false) (h3 : f.1 ≠ bCL) : trailOne f = true := by
  unfold trailOne
  rw [show decide (f.1.head? = some 58) = false from h2, fieldOk_plain f 0 h2, h1, decide_eq_false h3]
  rfl
theorem trailOne_not (f : Fld) (h : fieldOk f = false ∨ ps f = true ∨ f.1 = bCL) : trailOne f = false := by
  unfold trailOne
  cases hp : ps f with
  | true => rw [show decide (f.1.head? = some 58) = true from hp]; rfl
  | false =>
    rw [show decide (f.1.head? = some 58) = false from hp]
    rcases h with h | h | h
    · rw [fieldOk_plain f 0 hp, h]; simp
    · rw [hp] at h; cases h
    · rw [decide_eq_true h]; rfl
/-- what it leaves -/
def ShapeR (w : World) (names : List Bytes) (m : MV) (e : Ending) (w' : World) : Prop :=
  Frm (New w) w w' ∧
  ((∃ S R A c V, m.fs = S ++ R ∧ Shp names (m.b.length : Int) S R ∧ trailOk m.ts = true ∧ e = .returned (.tuple #[.slice V names.length names.length, .slice A R.length c, .bool true]) ∧ App (New w) w' 38 2 A R.length c (fvs R) ∧ Rd w' V (valsA names S).toList) ∨
   ((Bad names (m.b.length : Int) m.fs ∨ trailOk m.ts = false) ∧ e = .returned (.tuple #[.slice none 0 0, .slice none 0 0, .bool false])))
theorem ShapeR.out {w w' : World} {names : List Bytes} {m : MV} {e : Ending} (h : ShapeR w names m e w') :
    Frm (New w) w w' ∧ ∃ V k A n c, e = .returned (.tuple #[.slice V k k, .slice A n c, .bool (okF names m)]) ∧
      (okF names m = true → k = names.length ∧ n = (spR m.fs).length ∧ App (New w) w' 38 2 A n c (fvs (spR m.fs)) ∧ Rd w' V (valsA names (spS m.fs)).toList) := by
  refine ⟨h.1, ?_⟩
  rcases h.2 with ⟨S, R, A, c, V, he, hs, ht, rfl, hA, hV⟩ | ⟨hb, rfl⟩
  · obtain ⟨e1, e2⟩ := sp_of he hs
    have hk : okF names m = true := by
      unfold okF
      rw [e1, e2, shpB_iff.2 hs, ht]; rfl
    exact ⟨V, names.length, A, R.length, c, by rw [hk], fun _ => by rw [e1, e2]; exact ⟨rfl, rfl, hA, hV⟩⟩
  · have hk : okF names m = false := by
      unfold okF
      rcases hb with hb | hb
      · cases hx : shpB names (m.b.length : Int) (spS m.fs) (spR m.fs) with
        | false => rfl
        | true => exact absurd (shpB_iff.1 hx) (hb _ _ (sp_app _).symm)
      · rw [hb, Bool.and_false]
    exact ⟨none, 0, none, 0, 0, by rw [hk], fun h => by rw [hk] at h; cases h⟩
theorem str_info : ∃ i, Tryz.prog.info? 9 = some i ∧ i.zero = some (.string ByteArray.empty) ∧ i.size = 1 ∧ i.bytes = 16 := by
  have h : (Tryz.prog.info? 9).map (fun i => (i.zero, i.size, i.bytes)) = some (some (.string ByteArray.empty), 1, 16) := by kernel_rfl
  obtain ⟨i, hi, hz, hs, hb⟩ := info_parts h
  exact ⟨i, hi, hz, hs, hb⟩
theorem bool_info : ∃ i, Tryz.prog.info? 4 = some i ∧ i.zero = some (.bool false) ∧ i.size = 1 ∧ i.bytes = 1 := by
  have h : (Tryz.prog.info? 4).map (fun i => (i.zero, i.size, i.bytes)) = some (some (.bool false), 1, 1) := by kernel_rfl
  obtain ⟨i, hi, hz, hs, hb⟩ := info_parts h
  exact ⟨i, hi, hz, hs, hb⟩
end Go.Proofs.YtpojejdddgdjdaaGreatDoor.M
