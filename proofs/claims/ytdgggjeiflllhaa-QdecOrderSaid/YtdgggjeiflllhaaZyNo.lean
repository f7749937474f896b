/- No, Qsub, Nq -/
import Derived.BigQuiet
import Derived.Deep.CutBlock
import Derived.Lib.Hide
import Derived.IntWalk
import Derived.Deep.LoopGhost
import Derived.Test.YtdgggjeiflllhaaZyNj
import Derived.Test.YtdgggjeiflllhaaZyQd
import Derived.Test.YtdgggjeiflllhaaZyQr
import Derived.Test.YtdgggjeiflllhaaZyArr
import Derived.StillTailTactics
import Derived.Test.YtdgggjeiflllhaaZyMem

namespace Go.Proofs.Ytdgggjeiflllhaa.M
open Go.ChangeShapes Go.WideShapes Go.ChangeAt Go.RowKit
theorem prefQ_le (c b cap : Nat) : (prefQ c b cap).length ≤ 100 ∧ prefQ c b cap ≠ [] := by
  have h1 := fun a k v => pfx_length a k v
  have h2 := fun a k v => pfx_pos a k v
  have h3 := h1 0 8 (encQ c cap)
  have h4 := h2 0 8 (encQ c cap)
  unfold prefQ
  refine ⟨?_, fun e => ?_⟩
  · rw [List.length_append]
    split
    · have := h1 0 7 (b - c); omega
    · have := h1 128 7 (c - b - 1); omega
  · have := (List.append_eq_nil_iff.1 e).1
    rw [this] at h4
    simp at h4
theorem wq_inv (E : Qn) (hok : E.t.Ok) (F : Fld → Prop) : E.wq.Inv E.t.n 1000 E.t.cap 0 F := by
  have hpx := pfx_length 32 5 E.t.cap
  exact { ll := rfl, ul := Nat.le_refl _
          ol := by
            unfold Qn.wq
            simp only
            split
            · omega
            · simp
          tn := Nat.le_refl _, tc := rfl, ok := hok, ct := Nat.zero_le _, li := fun x hx => (by cases hx), lf := fun x hx => (by cases hx) }
theorem allN_inv {E : Qn} {n0 o0 cap : Nat} {F : Fld → Prop} (fr : Bool) (hc : cap ≤ 4096) : ∀ (l : List Fld) (W : Wq) (m : Nat), W.Inv n0 o0 cap m F → (∀ f ∈ l, F f) → (allN E fr W l).Inv n0 o0 cap (m + l.length) F
  | [], W, m, h, _ => h
  | f :: r, W, m, h, hF => by
    have h1 := allN_inv (E := E) fr hc r (oneN E fr W f) (m + 1) (oneN_inv fr f h (hF f (List.mem_cons_self ..)) hc) (fun x hx => hF x (List.mem_cons_of_mem _ hx))
    rw [show m + (f :: r).length = m + 1 + r.length by simp; omega]
    exact h1
theorem allN_snoc (E : Qn) (fr : Bool) (W : Wq) (l : List Fld) (f : Fld) : allN E fr W (l ++ [f]) = oneN E fr (allN E fr W l) f := by unfold allN; rw [List.foldl_append]; rfl
end Go.Proofs.Ytdgggjeiflllhaa.M
namespace Go.Proofs.Ytdgggjeiflllhaa.M
open Go.ChangeShapes Go.WideShapes Go.ChangeAt Go.RowKit
theorem App.sub {X : Nat → Prop} {w w' : World} {e n c n2 c2 : Nat} {A A2 : Option Addr} {xs ys : List Value} (h : App X w e 1 A n c xs) (hs : Sub A c A2 c2) (hc : c2 ≤ c) (hr : Rd w' A2 ys) (hy : ys.length = n2) (hn : n2 ≤ c2) (hb : ∀ k, M.blk A = some k → w'.heap[k]? = w.heap[k]?) {X2 : Nat → Prop} (hX : ∀ k, M.blk A = some k → X2 k) : App X2 w' e 1 A2 n2 c2 ys := by
  have hm := h.max
  refine ⟨by rw [hy, Nat.mul_one], hn, by omega, fun q => ?_, hr, fun k hk => hX k (by rw [← hs.1]; exact hk), fun hp => ?_⟩
  · have h1 := hs.1
    rw [q] at h1
    cases A with
    | none => have := h.nil_ rfl; omega
    | some x => cases h1
  · obtain ⟨g, off, cur, e1, e2, e3, e4⟩ := h.own (by omega)
    obtain ⟨o2, q1, q2, q3⟩ := hs.2 g off e1
    exact ⟨g, o2, cur, q1, by rw [hb g (by rw [e1]; rfl)]; exact e2, by omega, hX g (by rw [e1]; rfl)⟩
end Go.Proofs.Ytdgggjeiflllhaa.M
namespace Go.Proofs.Ytdgggjeiflllhaa.M
open Go.ChangeShapes Go.WideShapes Go.ChangeAt Go.RowKit
section
variable {X S : Nat → Prop} {w w' w2 : World} {pe g bm cr c2 : Nat} {Ar A2 : Option Addr} {L L' : List (Nat × Ro)} {E : Qn} {opn' : List Qs} {r : Bytes}
end
end Go.Proofs.Ytdgggjeiflllhaa.M
namespace Go.Proofs.Ytdgggjeiflllhaa.M
open Go.ChangeShapes Go.WideShapes Go.ChangeAt Go.RowKit
end Go.Proofs.Ytdgggjeiflllhaa.M
namespace Go.Proofs.Ytdgggjeiflllhaa.M
open Go.ChangeShapes Go.WideShapes Go.ChangeAt Go.RowKit
end Go.Proofs.Ytdgggjeiflllhaa.M
namespace Go.Proofs.Ytdgggjeiflllhaa.M
open Go.ChangeShapes Go.WideShapes Go.ChangeAt Go.RowKit
section
variable {X S : Nat → Prop} {w w' w2 : World} {pe g bm cr c2 : Nat} {Ar A2 : Option Addr} {L : List (Nat × Ro)} {E : Qn} {r b : Bytes}
end
theorem feedN_cons (f : Nat) (E : Qn) (r : Bytes) (h : r ≠ []) : feedN (f + 1) E r = (if (E.ins r).1 = 0 then feedN f (E.ins r).2.2 (r.drop (E.ins r).2.1) else if (E.ins r).1 = 20 then (0, { E with rest := r }) else ((E.ins r).1, { E with rest := r, err := (E.ins r).1 })) := by
  cases r with
  | nil => exact absurd rfl h
  | cons c t =>
    conv => lhs; unfold feedN
theorem feedN_nil (f : Nat) (E : Qn) : feedN f E [] = (0, { E with rest := [] }) := by cases f <;> rfl
def Qn.new (cap blk : Nat) : Qn := ⟨⟨[], 0, cap⟩, blk, 0, [], [], false, 0⟩
section
variable {X S : Nat → Prop} {w : World} {pe g bm cr : Nat} {Ar : Option Addr} {L : List (Nat × Ro)} {E : Qn}
end
end Go.Proofs.Ytdgggjeiflllhaa.M

