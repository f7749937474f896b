/- Qm -/
import Derived.BigQuiet
import Derived.Deep.CutBlock
import Derived.Lib.Hide
import Derived.IntWalk
import Derived.StillTailTactics
import Derived.Test.YtdgggjeiflllhaaZzQr
import Derived.Test.YtdgggjeiflllhaaZzIn
import Derived.Test.YtdgggjeiflllhaaZzArr
import Derived.Test.YtdgggjeiflllhaaZzQa
import Derived.Test.YtdgggjeiflllhaaZzRtab
import Derived.Test.YtdgggjeiflllhaaZzQd
import Derived.Deep.RegionHeld3

namespace Go.Proofs.Ytdgggjeiflllhaa.M
open Go.ChangeShapes Go.WideShapes Go.ChangeAt Go.RowKit
def ukey (k : Nat) : Value := .int .u64 (k : Int)
theorem check_uint (P : Program) (T : TypeId) (n : Nat) (e : Bool) (q : Int) (w : World) (h : P.underlying T = some (.int .u64)) : (Instr.checkKey e (n + 1) T (.int .u64 q)).run P w = .ok () w := by
  simp [Instr.checkKey, run_underlying h]
theorem ukeys : KeyLaw Try.prog 32 ukey where
  check := fun e k w => check_uint _ _ 9999 e k w Try.underlying32
  find := find_now (enc := ukey) Try.underlying32 (fun a b => by
    simp only [Instr.sameNow, ukey]
    by_cases h : a = b
    · subst h; simp
    · have h2 : ¬ ((a : Int) = (b : Int)) := by omega
      simp [h, h2])
  same := fun k => by
    show ((IntKind.u64 == IntKind.u64) && ((k : Int) == (k : Int))) = true
    simp
section
variable {X S : Nat → Prop} {w w' : World} {pd g bm cr co : Nat} {Ar Ao : Option Addr} {ents : List (Nat × Value)} {D : Qd}
end
theorem uMq : Try.prog.underlying 82 = some (.map 32 3) := Try.underlying82
end Go.Proofs.Ytdgggjeiflllhaa.M
namespace Go.Proofs.Ytdgggjeiflllhaa.M
open Go.ChangeShapes Go.WideShapes Go.ChangeAt Go.RowKit
theorem delE_keys {κ ν : Type} [DecidableEq κ] (k : κ) : ∀ l : List (κ × ν), (l.map (·.1)).Nodup → (delE k l).map (·.1) = (l.map (·.1)).filter (fun x => decide (x ≠ k))
  | [], _ => rfl
  | p :: r, h => by
    simp only [List.map_cons, List.nodup_cons] at h
    unfold delE
    by_cases hk : k = p.1
    · rw [if_pos hk]
      simp only [List.map_cons]
      rw [List.filter_cons_of_neg (by simp [hk])]
      symm
      rw [List.filter_eq_self]
      intro x hx
      simp only [ne_eq, decide_not, Bool.not_eq_eq_eq_not, Bool.not_true, decide_eq_false_iff_not]
      intro e
      exact h.1 (by rw [← hk, ← e]; exact hx)
    · rw [if_neg hk]
      simp only [List.map_cons]
      rw [List.filter_cons_of_pos (by simp; exact fun e => hk e.symm), delE_keys k r h.2]
theorem mem_delE {κ ν : Type} [DecidableEq κ] (k : κ) : ∀ (l : List (κ × ν)) (x : κ × ν), x ∈ delE k l → x ∈ l
  | [], x, h => h
  | p :: r, x, h => by
    unfold delE at h
    split at h
    · exact List.mem_cons_of_mem _ h
    · rcases List.mem_cons.1 h with h | h
      · exact h ▸ List.mem_cons_self ..
      · exact List.mem_cons_of_mem _ (mem_delE k r x h)
theorem Own.step {X Y : Nat → Prop} {w w' : World} (h1 : ∀ k, Y k → Own X w k) (hs : w.heap.size ≤ w'.heap.size) : ∀ k, Own Y w' k → Own X w k := fun k hk => by
  rcases hk with h | h
  · exact h1 k h
  · exact .inr (Nat.le_trans hs h)
section
variable {X S : Nat → Prop} {w w' w2 : World} {pd g bm cr co : Nat} {Ar Ao : Option Addr} {ents : List (Nat × Value)} {D : Qd}
end
end Go.Proofs.Ytdgggjeiflllhaa.M
namespace Go.Proofs.Ytdgggjeiflllhaa.M
open Go.ChangeShapes Go.WideShapes Go.ChangeAt Go.RowKit
theorem RetB.lt {w w2 : World} {l : Bytes} {A : Option Addr} {c : Nat} (h : App (New w) w2 5 1 A l.length c (bvs l)) (hl : l ≠ []) : ∀ k, M.blk A = some k → w.heap.size ≤ k ∧ k < w2.heap.size := fun k hk => by
  refine ⟨h.inM k hk, ?_⟩
  obtain ⟨g, o, rfl, hl⟩ := h.rd.lt (by cases l with | nil => exact absurd rfl hl | cons x r => simp [bvs])
  cases hk
  exact hl
end Go.Proofs.Ytdgggjeiflllhaa.M

