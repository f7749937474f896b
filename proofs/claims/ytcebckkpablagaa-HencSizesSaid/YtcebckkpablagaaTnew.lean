/- dyn.New: a table that holds nothing. No condition but a size. -/
import Derived.Test.YtcebckkpablagaaTab
import Derived.Test.YtcebckkpablagaaDyn
namespace Go.Proofs.Ytcebckkpablagaa.M
open Go.ChangeShapes Go.WideShapes Go.ChangeAt Go.RowKit

theorem tnew_any (c : Nat) (hc : c ≤ 1152921504606846976) (w : World) :
    Calls Try.prog 50 #[.int .i64 c] w fun e w' => ∃ (S : Nat → Prop) (g a b : Nat), e = .returned (.pointer (some ⟨g, 0, none⟩)) ∧ TabAt S w' g [] 0 c none 0 a b [] [] ∧ Frm (New w) w w' ∧ ∀ k, S k → w.heap.size ≤ k := by
  refine (dnew_any c (by omega) w).mono ?_
  rintro e w' ⟨g, a, b, rfl, h1, h2, h3, hb, hm, hn, hF⟩
  refine ⟨fun k => k = g ∨ k = a ∨ k = b, g, a, b, rfl, ⟨hb, hm, hn, App.none_, .inl rfl, .inr (.inl rfl), .inr (.inr rfl), ?_, by omega, by omega, by omega, fun k hk => (by cases hk), MapInv.nil _ _, MapInv.nil _ _, Nat.le_refl _, Nat.zero_le _, hc, Nat.zero_le _⟩, hF, ?_⟩
  · rintro k (rfl | rfl | rfl)
    · exact hb.lt
    · exact hm.lt
    · exact hn.lt
  · rintro k (rfl | rfl | rfl) <;> omega
end Go.Proofs.Ytcebckkpablagaa.M
