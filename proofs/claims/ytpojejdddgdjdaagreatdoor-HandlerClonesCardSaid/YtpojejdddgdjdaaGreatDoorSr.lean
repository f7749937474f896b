/- What a message's fields are, in one piece; inserts into maps. No condition. -/
import Derived.BigQuiet
import Derived.Deep.CutBlock
import Derived.Lib.Hide
import Derived.IntWalk
import Derived.Test.YtpojejdddgdjdaaGreatDoorSq
namespace Go.Proofs.YtpojejdddgdjdaaGreatDoor.M
open Go.ChangeShapes Go.WideShapes Go.ChangeAt Go.RowKit

/-- a literal's m[k] = v -/
theorem wpList_insert {κ : Type} [DecidableEq κ] {P : Program} {enc : κ → Value} {T : TypeId} {w : World} {b : Nat} {ents : List (κ × Value)} {ops : Array Oper} {rest : List Oper} {o : Oper} {a : Act} {Q : Exit → Act → World → Prop}
    (K : KeyLaw P T enc) {M E : TypeId} (hM : P.underlying M = some (.map T E)) (hgd : o.guard = none) {x y v : Operand} (ho : o.op = .insert M x y v)
    (hx : a.eval x = .map (some b)) {k : κ} (hy : a.eval y = enc k) (h : MapIs w b enc ents)
    (hK : ∀ w', MapIs w' b enc (putE k (a.eval v) ents) → Frm (· = b) w w' → w'.heap.size = w.heap.size → wpList P ops Q rest (a.put o.dst undef) w') : wpList P ops Q (o :: rest) a w := by
  refine wpList_plain hgd fun _ hKK => ?_
  obtain ⟨w', hr, h1, h2, h3⟩ := run_update K hM h k (a.eval v)
  unfold Oper.wp execOp
  simp only [ho, hx, hy, Sem.run_bind, hr, Result.andThen_ok, Sem.run_pure]
  exact hKK _ _ (hK _ h1 h2 h3)
theorem wpList_makeMap {κ : Type} [DecidableEq κ] {P : Program} {w : World} {ops : Array Oper} {rest : List Oper} {o : Oper} {a : Act} {Q : Exit → Act → World → Prop} (enc : κ → Value) (hgd : o.guard = none) {M : TypeId} (ho : o.op = .makeMap M none)
    (h : ∀ w', MapIs w' w.heap.size enc [] → Frm (New w) w w' → w'.heap.size = w.heap.size + 1 → wpList P ops Q rest (a.put o.dst (.map (some w.heap.size))) w') : wpList P ops Q (o :: rest) a w := by
  refine wpList_run hgd (v := .map (some w.heap.size)) (w' := w.alloc (.map #[] 0)) ?_ (h _ (MapIs.new w enc) ((Frm.refl _ w).alloc Up.new _) (by simp))
  unfold execOp
  simp only [ho, Sem.run_bind, Option.map_none, run_makeMap, Result.andThen_ok, Sem.run_pure]
def shpB (names : List Bytes) (n : Int) (S R : List Fld) : Bool := S.all (fun f => ps f && (decide (f.1 ∈ names) && (nameOk f.1.tail && valOk f.2))) && (decide (S.map Prod.fst).Nodup && R.all (fun f => !ps f && plainOk f n))
theorem shpB_iff {names : List Bytes} {n : Int} {S R : List Fld} : shpB names n S R = true ↔ Shp names n S R := by
  unfold shpB
  simp only [Bool.and_eq_true, List.all_eq_true, decide_eq_true_eq, Bool.not_eq_true']
  exact ⟨fun h => ⟨h.1, h.2.1, h.2.2⟩, fun h => ⟨h.s, h.nd, h.r⟩⟩
def spS (l : List Fld) : List Fld := l.takeWhile ps
def spR (l : List Fld) : List Fld := l.dropWhile ps
theorem sp_app (l : List Fld) : spS l ++ spR l = l := List.takeWhile_append_dropWhile
theorem sp_of {names : List Bytes} {n : Int} {S R l : List Fld} (e : l = S ++ R) (h : Shp names n S R) : spS l = S ∧ spR l = R := by
  have h1 : ∀ f ∈ S, ps f = true := fun f hf => (h.s f hf).1
  subst e
  have h2 : R.takeWhile ps = [] := by
    cases R with
    | nil => rfl
    | cons f r => rw [List.takeWhile_cons, (h.r f (by simp)).1]; rfl
  have h3 : R.dropWhile ps = R := by
    cases R with
    | nil => rfl
    | cons f r => rw [List.dropWhile_cons, (h.r f (by simp)).1]; rfl
  unfold spS spR
  rw [List.takeWhile_append_of_pos h1, List.dropWhile_append_of_pos h1, h2, h3, List.append_nil]
  exact ⟨rfl, rfl⟩
/-- a message's fields are of these names -/
def okF (names : List Bytes) (m : MV) : Bool := shpB names (m.b.length : Int) (spS m.fs) (spR m.fs) && trailOk m.ts
/-- the same of the fields alone -/
def okS (names : List Bytes) (m : MV) : Bool := shpB names (m.b.length : Int) (spS m.fs) (spR m.fs)
theorem FieldsR.out {w w' : World} {g : Nat} {t : TypeId} {C : List Fld → Array Value} {names : List Bytes} {m : MV} {e : Ending} (h : FieldsR w g t C names m e w') :
    Frm (fun k => k = g ∨ New w k) w w' ∧ ∃ A n c, e = .returned (.tuple #[.slice A n c, .bool (okF names m)]) ∧
      (okF names m = true → n = (spR m.fs).length ∧ App (New w) w' 38 2 A n c (fvs (spR m.fs)) ∧ Blk w' g t (C (spS m.fs))) := by
  refine ⟨h.1, ?_⟩
  rcases h.2 with ⟨S, R, A, c, he, hs, rfl, hA, hB⟩ | ⟨hb, rfl⟩
  · obtain ⟨e1, e2⟩ := sp_of he hs
    have hk : okF names m = trailOk m.ts := by
      unfold okF
      rw [e1, e2, shpB_iff.2 hs, Bool.true_and]
    exact ⟨A, R.length, c, by rw [hk], fun _ => by rw [e1, e2]; exact ⟨rfl, hA, hB⟩⟩
  · have hk : okF names m = false := by
      unfold okF
      cases hx : shpB names (m.b.length : Int) (spS m.fs) (spR m.fs) with
      | false => rfl
      | true => exact absurd (shpB_iff.1 hx) (hb _ _ (sp_app _).symm)
    exact ⟨none, 0, 0, by rw [hk], fun h => by rw [hk] at h; cases h⟩
def bSt : Bytes := [58, 115, 116, 97, 116, 117, 115]
def stOk (s : Bytes) : Bool := decide (s.length = 3) && (s.all dig && (decide (100 ≤ numF 0 s) && decide (numF 0 s ≤ 599)))
/-- the status and the class -/
def resp (m : MV) : Nat × Nat := if lrgM m then (0, 2) else if okF [bSt] m && stOk (val (spS m.fs) bSt) then (numF 0 (val (spS m.fs) bSt), 0) else (0, 1)
theorem agM : Agg Tryz.prog 30 3 := ⟨⟨_, Tryz.underlying30, rfl⟩, by kernel_rfl⟩
theorem agR : Agg Tryz.prog 32 7 := ⟨⟨_, Tryz.underlying32, rfl⟩, by kernel_rfl⟩
theorem lrg64 {m : MV} (h : lrgM m = false) : m.fs.length ≤ 64 := by
  unfold lrgM lrg at h
  simp only [Bool.or_eq_false_iff, decide_eq_false_iff_not] at h
  omega
end Go.Proofs.YtpojejdddgdjdaaGreatDoor.M
