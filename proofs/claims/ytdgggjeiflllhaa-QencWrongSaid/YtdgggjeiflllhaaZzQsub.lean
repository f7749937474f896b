/- Qsub -/
import Derived.Test.YtdgggjeiflllhaaZzQr
import Derived.Test.YtdgggjeiflllhaaZzArr

namespace Go.Proofs.Ytdgggjeiflllhaa.M
open Go.ChangeShapes Go.WideShapes Go.ChangeAt Go.RowKit
theorem App.sub {X : Nat → Prop} {w w' : World} {e n c n2 c2 : Nat} {A A2 : Option Addr} {xs ys : List Value} (h : App X w e 1 A n c xs) (hs : Sub A c A2 c2) (hc : c2 ≤ c) (hr : Rd w' A2 ys) (hy : ys.length = n2) (hn : n2 ≤ c2) (hb : ∀ k, M.blk A = some k → w'.heap[k]? = w.heap[k]?) {X2 : Nat → Prop} (hX : ∀ k, M.blk A = some k → X2 k) : App X2 w' e 1 A2 n2 c2 ys := by
  have hm := h.max
  refine ⟨by rw [hy, Nat.mul_one], hn, by omega, fun q => ?_, hr, fun k hk => hX k (by rw [← hs.1]; exact hk), fun hp => ?_⟩
  · have h1 := hs.1
    rw [q] at h1
    cases A with
    | none => have := h.nil_ rfl; omega
    | some x => cases h1
  · obtain ⟨g, off, cur, e1, e2, e3, e4⟩ := h.own (by omega)
    obtain ⟨o2, q1, q2, q3⟩ := hs.2 g off e1
    exact ⟨g, o2, cur, q1, by rw [hb g (by rw [e1]; rfl)]; exact e2, by omega, hX g (by rw [e1]; rfl)⟩
end Go.Proofs.Ytdgggjeiflllhaa.M

