/- dyn.Table. Begun. -/
import Derived.Test.YtcebckkpablagaaFind
namespace Go.Proofs.Ytcebckkpablagaa.M
open Go.ChangeShapes Go.WideShapes Go.ChangeAt Go.RowKit

set_option maxRecDepth 100000 in
set_option maxHeartbeats 1000000 in
theorem dnew_any (c : Nat) (hc : c ≤ 4611686018427387903) (w : World) :
    Calls Try.prog 50 #[.int .i64 c] w fun e w' => ∃ g a b : Nat, e = .returned (.pointer (some ⟨g, 0, none⟩)) ∧ w.heap.size ≤ a ∧ a < b ∧ b < g ∧
      Blk w' g 103 #[.slice none 0 0, .int .u64 0, .int .i64 c, .int .i64 0, .map (some a), .map (some b)] ∧ MapIs w' a fld [] ∧ MapIs w' b str [] ∧ Frm (New w) w w' := by
  go_enter Try.func50, Try.ntmps50
  go_wp2
  rw [run_makeMap]
  go_wp2
  rw [run_makeMap]
  go_wp2
  go_ret
  have f1 := (Frm.refl (New w) w).alloc Up.new (Obj.map #[] 0)
  have h1 := MapIs.new w fld
  generalize ha : w.alloc (Obj.map #[] 0) = w1 at *
  have hs1 : w1.heap.size = w.heap.size + 1 := by rw [← ha]; simp
  have h2 := MapIs.new w1 str
  have f2 := (Frm.refl (New w1) w1).alloc Up.new (Obj.map #[] 0)
  have h1 := h1.fresh f2
  generalize hb : w1.alloc (Obj.map #[] 0) = w2 at *
  have hs2 : w2.heap.size = w1.heap.size + 1 := by rw [← hb]; simp
  have f3 := fun o => (Frm.refl (New w2) w2).alloc Up.new o
  rw [hs1] at h2
  refine ⟨w.heap.size + 1 + 1, w.heap.size, w.heap.size + 1, rfl, Nat.le_refl _, by omega, by omega, ?_, h1.fresh (f3 _), h2.fresh (f3 _), (f1.then_new Up.new f2).then_new Up.new (f3 _)⟩
  rw [← hs1, ← hs2]
  exact Blk.new w2 _ _
end Go.Proofs.Ytcebckkpablagaa.M
