/- sem.pseudo.fields: what it leaves. At most 64 fields, their sizes below 2^62. -/
import Derived.BigQuiet
import Derived.Deep.CutBlock
import Derived.Lib.Hide
import Derived.IntWalk
import Derived.Test.YtpojejdddgdjdaaGreatDoorSp
import Derived.Test.YtpojejdddgdjdaaGreatDoorArr
import Derived.Test.YtpojejdddgdjdaaGreatDoorArrb
import Derived.Test.YtpojejdddgdjdaaGreatDoorMap
namespace Go.Proofs.YtpojejdddgdjdaaGreatDoor.M
open Go.ChangeShapes Go.WideShapes Go.ChangeAt Go.RowKit

theorem flds : Elem Tryz.prog 27 38 2 32 :=
  ⟨by kernel_rfl, by
    have h : (Tryz.prog.info? 38).map (fun i => (i.zero, i.size, i.bytes)) = some (some (.agg #[.string ByteArray.empty, .string ByteArray.empty]), 2, 32) := by kernel_rfl
    obtain ⟨i, hi, hz, hs, hb⟩ := info_parts h
    exact ⟨i, _, hi, hz, hs, hb, rfl⟩, by omega, by omega⟩
def cnts (S : List Fld) : List (Bytes × Value) := S.map (fun f => (f.1, .int .i64 1))
theorem cnts_get (nm : Bytes) : ∀ S : List Fld, getE nm (cnts S) = if nm ∈ S.map Prod.fst then some (.int .i64 1) else none
  | [] => rfl
  | f :: r => by
    show getE nm ((f.1, .int .i64 1) :: cnts r) = _
    rw [getE_cons, cnts_get nm r]
    by_cases h : nm = f.1
    · simp [h]
    · have e : (nm ∈ List.map Prod.fst (f :: r)) ↔ nm ∈ List.map Prod.fst r := by simp [h]
      rw [if_neg h]
      simp only [e]
theorem cnts_snoc (S : List Fld) (f : Fld) : cnts (S ++ [f]) = cnts S ++ [(f.1, .int .i64 1)] := by
  unfold cnts
  rw [List.map_append]; rfl
theorem putE_new {k : Bytes} {v : Value} : ∀ {l : List (Bytes × Value)}, k ∉ l.map Prod.fst → putE k v l = l ++ [(k, v)]
  | [], _ => rfl
  | p :: r, h => by
    unfold putE
    rw [if_neg (fun e => h (by rw [e]; exact List.mem_cons_self)), putE_new (fun e => h (List.mem_cons_of_mem _ e))]
    rfl
theorem cnts_put (S : List Fld) (f : Fld) (h : f.1 ∉ S.map Prod.fst) : putE f.1 (.int .i64 1) (cnts S) = cnts (S ++ [f]) := by
  rw [cnts_snoc]
  refine putE_new ?_
  unfold cnts
  rw [List.map_map]
  exact h
def ptrs (g : Nat) (pl : List (Bytes × Nat)) : List (Bytes × Value) := pl.map (fun q => (q.1, .pointer (some ⟨g, q.2, none⟩)))
theorem ptrs_yes {g : Nat} {nm : Bytes} : ∀ {pl : List (Bytes × Nat)}, nm ∈ pl.map Prod.fst → ∃ i, (nm, i) ∈ pl ∧ getE nm (ptrs g pl) = some (.pointer (some ⟨g, i, none⟩))
  | [], h => by cases h
  | q :: r, h => by
    show ∃ i, (nm, i) ∈ q :: r ∧ getE nm ((q.1, .pointer (some ⟨g, q.2, none⟩)) :: ptrs g r) = _
    rw [getE_cons]
    by_cases hq : nm = q.1
    · rw [if_pos hq]
      exact ⟨q.2, by rw [hq]; exact List.mem_cons_self, rfl⟩
    · rw [if_neg hq]
      obtain ⟨i, h1, h2⟩ := ptrs_yes (pl := r) (by
        rcases List.mem_cons.1 h with h | h
        · exact absurd h hq
        · exact h)
      exact ⟨i, List.mem_cons_of_mem _ h1, h2⟩
theorem ptrs_no {g : Nat} {nm : Bytes} {pl : List (Bytes × Nat)} (h : nm ∉ pl.map Prod.fst) : getE nm (ptrs g pl) = none := by
  refine getE_none _ _ ?_
  unfold ptrs
  rw [List.map_map]
  exact h
theorem zInt : (Tryz.prog.info? 3).map (·.zero) = some (some (.int .i64 0)) := by kernel_rfl
/-- what it leaves -/
def FieldsR (w : World) (g : Nat) (t : TypeId) (C : List Fld → Array Value) (names : List Bytes) (m : MV) (e : Ending) (w' : World) : Prop :=
  Frm (fun k => k = g ∨ New w k) w w' ∧
  ((∃ S R A c, m.fs = S ++ R ∧ Shp names (m.b.length : Int) S R ∧ e = .returned (.tuple #[.slice A R.length c, .bool (trailOk m.ts)]) ∧ App (New w) w' 38 2 A R.length c (fvs R) ∧ Blk w' g t (C S)) ∨
   (Bad names (m.b.length : Int) m.fs ∧ e = .returned (.tuple #[.slice none 0 0, .bool false])))
end Go.Proofs.YtpojejdddgdjdaaGreatDoor.M
