/- Cap, Pc, Pg -/
import Derived.Test.YtdgggjeiflllhaaZyArr
import Derived.Deep.CutBlock
import Derived.BigQuiet
import Derived.Lib.Hide
import Derived.IntWalk
import Derived.Test.YtdgggjeiflllhaaZyUnw
import Derived.Test.YtdgggjeiflllhaaZyRtab
import Derived.Test.YtdgggjeiflllhaaZyMem
import Derived.Test.YtdgggjeiflllhaaZyQt
import Derived.Test.YtdgggjeiflllhaaZyT3
import Derived.Test.YtdgggjeiflllhaaZyQi
import Derived.Test.YtdgggjeiflllhaaZyEncp
import Derived.Deep.LoopGhost
import Derived.StillTailTactics
import Derived.Test.YtdgggjeiflllhaaZyPa

namespace Go.Proofs.Ytdgggjeiflllhaa.M
open Go.ChangeShapes Go.WideShapes Go.ChangeAt Go.RowKit
theorem App.tight {N : Nat → Prop} {w : World} {e size n c : Nat} {A : Option Addr} {xs : List Value} (h : App N w e size A n c xs) : App (fun k => M.blk A = some k ∨ New w k) w e size A n c xs :=
  { h with
    inM := fun k hk => .inl hk
    own := fun hc => by
      obtain ⟨gg, off, cur, a, b2, d, m⟩ := h.own hc
      exact ⟨gg, off, cur, a, b2, d, .inl (by rw [a]; rfl)⟩ }
theorem app_lt {w : World} {e size n : Nat} {xs : List Value} {N : Nat → Prop} {A : Option Addr} {c : Nat} (h : App N w e size A n c xs) (hne : xs ≠ []) : ∀ k, M.blk A = some k → k < w.heap.size := fun k hk => by
  obtain ⟨g9, o9, rfl, h9⟩ := h.rd.lt hne
  cases hk
  exact h9
section
variable {P : Program} {t e : TypeId} {size bytes : Nat} {o : Oper} {a : Act} {w : World} {A : Option Addr} {n c j : Nat} {x hi mx : Operand} {k1 k2 : IntKind} {u v : Int}
theorem run_capG (E : Elem P t e size bytes) (ho : o.op = .slice t x none (some hi) (some mx)) (hx : a.eval x = .slice A n c) (hhi : a.eval hi = .int k1 u) (hmx : a.eval mx = .int k2 v) (hu : u = (j : Int)) (hv : v = (j : Int)) (hj : j ≤ c) :
    (execOp a.eval o).run P w = .ok (.value (.slice A j j)) w := by
  subst hu
  subst hv
  obtain ⟨q, z, hi, hz, hs, hb, hzs⟩ := E.info
  unfold execOp
  have h4 : (0 : Int) ≤ (j : Int) := by omega
  have hA : A.map (·.add 0) = A := by cases A <;> simp [Addr.add]
  simp only [ho, Option.map_some, Option.map_none, hhi, hx, hmx]
  by_cases hc : j = 0
  · subst hc
    simp [Instr.sliceAt, Instr.slice, Instr.sliceBounds, Instr.sliceBound, run_underlying E.ht, sizeOf, typeInfo, hi, asIntOf]
  · simp [Instr.sliceAt, Instr.slice, Instr.sliceBounds, Instr.sliceBound, run_underlying E.ht, sizeOf, typeInfo, hi, asIntOf, h4, hj, hA]
end
theorem App.capn {N : Nat → Prop} {w : World} {e size n c : Nat} {A : Option Addr} {xs : List Value} (h : App N w e size A n c xs) : App N w e size A n n xs := by
  have hc := h.cap
  have hm := h.max
  refine ⟨h.len, Nat.le_refl _, by omega, fun hA => by have := h.nil_ hA; omega, h.rd, h.inM, fun h0 => ?_⟩
  obtain ⟨g, off, cur, h1, h2, h3, h4⟩ := h.own (by omega)
  have : n * size ≤ c * size := Nat.mul_le_mul_right _ hc
  exact ⟨g, off, cur, h1, h2, by omega, h4⟩
theorem app_new {N : Nat → Prop} {w w' : World} {e size n c : Nat} {A A' : Option Addr} {xs : List Value} (h : App N w' e size A' (n + 1) c xs) (hb : (M.blk A' = M.blk A ∧ c = n) ∨ (M.blk A' = some w.heap.size ∧ 0 < 1)) : App (New w) w' e size A' (n + 1) c xs := by
  have hc := h.cap
  rcases hb with hb | hb
  · omega
  · exact { h with
      inM := fun k hk => by rw [hb.1] at hk; cases hk; exact Nat.le_refl _
      own := fun h0 => by
        obtain ⟨gg, off, cur, a, b2, d, m⟩ := h.own h0
        have : M.blk A' = some gg := by rw [a]; rfl
        rw [hb.1] at this
        cases this
        exact ⟨_, off, cur, a, b2, d, Nat.le_refl _⟩ }
end Go.Proofs.Ytdgggjeiflllhaa.M
namespace Go.Proofs.Ytdgggjeiflllhaa.M
open Go.ChangeShapes Go.WideShapes Go.ChangeAt Go.RowKit
end Go.Proofs.Ytdgggjeiflllhaa.M
namespace Go.Proofs.Ytdgggjeiflllhaa.M
open Go.ChangeShapes Go.WideShapes Go.ChangeAt Go.RowKit
theorem mask_eq (x m : Nat) (hx : x < 256) (hm : m = 128 ∨ m = 64 ∨ m = 32 ∨ m = 16) : (bits .and .u8 (x : Int) (m : Int) == 0) = decide (x / m % 2 = 0) := by
  have k1 : ∀ x : Fin 256, (bits .and .u8 (x.val : Int) 128 == 0) = decide (x.val / 128 % 2 = 0) := by decide +kernel
  have k2 : ∀ x : Fin 256, (bits .and .u8 (x.val : Int) 64 == 0) = decide (x.val / 64 % 2 = 0) := by decide +kernel
  have k3 : ∀ x : Fin 256, (bits .and .u8 (x.val : Int) 32 == 0) = decide (x.val / 32 % 2 = 0) := by decide +kernel
  have k4 : ∀ x : Fin 256, (bits .and .u8 (x.val : Int) 16 == 0) = decide (x.val / 16 % 2 = 0) := by decide +kernel
  rcases hm with rfl | rfl | rfl | rfl
  · exact k1 ⟨x, hx⟩
  · exact k2 ⟨x, hx⟩
  · exact k3 ⟨x, hx⟩
  · exact k4 ⟨x, hx⟩
theorem mask_is {x m : Nat} {b : Bool} (hx : x < 256) (hm : m = 128 ∨ m = 64 ∨ m = 32 ∨ m = 16) (hb : decide (x / m % 2 = 0) = b) : (bits .and .u8 (x : Int) (m : Int) == 0) = b ∧ (bits .and .u8 (x : Int) (m : Int) != 0) = !b := by
  have := mask_eq x m hx hm
  rw [bne, this, hb]
  exact ⟨rfl, rfl⟩
end Go.Proofs.Ytdgggjeiflllhaa.M
namespace Go.Proofs.Ytdgggjeiflllhaa.M
open Go.ChangeShapes Go.WideShapes Go.ChangeAt Go.RowKit
def Qd.new (l b : Nat) : Qd := ⟨⟨[], 0, 0⟩, l, b, [], [], [], 0, false⟩
set_option maxRecDepth 100000 in
set_option maxHeartbeats 1000000 in
theorem clamp8_any (n : Int) (h0 : -9223372036854775808 ≤ n) (h1 : n ≤ 9223372036854775807) (w : World) :
    Calls Try.prog 41 #[.int .i64 n] w fun e w' => e = .returned (.int .i64 (lim n : Nat)) ∧ w' = w := by
  have hl : ((lim n : Nat) : Int) = min (max n 0) 4096 := by unfold lim; omega
  have HL := Lib.hid hl
  clear hl
  go_enter Try.func41, Try.ntmps41
  by_cases q0 : n < 0
  · have g0 : ¬ (0 ≤ n) := by omega
    go_wp2
    go_ret
    refine ⟨?_, rfl⟩
    refine ret_int ?_
    rw [HL.out]; omega
  · have g0 : 0 ≤ n := by omega
    by_cases q1 : n ≤ 4096
    · go_wp2
      go_ret
      refine ⟨?_, rfl⟩
      refine ret_int ?_
      rw [HL.out]; omega
    · have g1 : 4096 < n := by omega
      go_wp2
      go_ret
      refine ⟨?_, rfl⟩
      refine ret_int ?_
      rw [HL.out]; omega
end Go.Proofs.Ytdgggjeiflllhaa.M
namespace Go.Proofs.Ytdgggjeiflllhaa.M
open Go.ChangeShapes Go.WideShapes Go.ChangeAt Go.RowKit
end Go.Proofs.Ytdgggjeiflllhaa.M

