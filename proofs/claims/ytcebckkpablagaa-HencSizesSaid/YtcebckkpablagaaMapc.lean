/- Words for memory, over any program: the laws of an entry that is fetched ahead of its value. No condition. -/
import Derived.Test.YtcebckkpablagaaMapb
namespace Go.Proofs.Ytcebckkpablagaa.M
open Go.ChangeShapes Go.WideShapes Go.ChangeAt Go.RowKit

set_option linter.unusedSectionVars false
section
variable {κ : Type} [DecidableEq κ] {P : Program}
variable {enc : κ → Value} {T : TypeId} {w w' : World} {b : Nat} {ents : List (κ × Value)}

section
variable {ops : Array Oper} {rest : List Oper} {o : Oper} {a : Act} {Q : Exit → Act → World → Prop}
theorem wpList_entry (K : KeyLaw P T enc) {M E : TypeId} (hM : P.underlying M = some (.map T E)) {z : Value} (hz : (P.info? E).map (·.zero) = some (some z)) (hgd : o.guard = none) {x y : Operand} (ho : o.op = .mapEntry M x y)
    (hx : a.eval x = .map (some b)) {k : κ} (hy : a.eval y = enc k) (h : MapIs w b enc ents)
    (hK : ∀ v st w', MapMid w' b enc ents k st → Frm (· = b) w w' → w'.heap.size = w.heap.size → wpList P ops Q rest (a.put o.dst (.tuple #[v, goInt (st : Nat)])) w') : wpList P ops Q (o :: rest) a w := by
  obtain ⟨v, st, w', hr, h1, h2, h3⟩ := run_entry K hM hz h k
  refine wpList_run hgd (v := .tuple #[v, goInt (st : Nat)]) (w' := w') ?_ (hK v st w' h1 h2 h3)
  unfold execOp
  simp only [ho, hx, hy, Sem.run_bind, hr, Result.andThen_ok, Sem.run_pure]
theorem wpList_entryStore {M : TypeId} (hgd : o.guard = none) {x s y : Operand} (ho : o.op = .entryStore M x s y)
    (hx : a.eval x = .map (some b)) {k : κ} {st : Nat} (hs : a.eval s = goInt (st : Nat)) (h : MapMid w b enc ents k st)
    (hK : ∀ w', MapIs w' b enc (putE k (a.eval y) ents) → Frm (· = b) w w' → w'.heap.size = w.heap.size → wpList P ops Q rest (a.put o.dst undef) w') : wpList P ops Q (o :: rest) a w := by
  obtain ⟨w', hr, h1, h2, h3⟩ := run_entryStore (P := P) M h (a.eval y)
  refine wpList_plain hgd fun _ hKK => ?_
  unfold Oper.wp execOp
  simp only [ho, hx, hs, Sem.run_bind, hr, Result.andThen_ok, Sem.run_pure]
  exact hKK _ _ (hK _ h1 h2 h3)
end
end
end Go.Proofs.Ytcebckkpablagaa.M
