/- Qt -/
import Derived.Test.YtdgggjeiflllhaaZzMem
import Derived.Deep.QuietTactic
import Derived.BigQuiet
import Derived.Lib.Hide
import Derived.Test.YtdgggjeiflllhaaZzDecp
import Derived.Test.YtdgggjeiflllhaaZzT3

namespace Go.Proofs.Ytdgggjeiflllhaa.M
open Go.ChangeShapes Go.WideShapes Go.ChangeAt Go.RowKit
def qmost (c : Int) : Int := max c 0 / 32
theorem qmost_bd (a : Int) (h1 : a ≤ 9223372036854775807) : 0 ≤ qmost a ∧ qmost a ≤ 288230376151711743 := by unfold qmost; omega
set_option maxHeartbeats 400000 in
theorem qmost_any (a : Int) (w : World) (h0 : -9223372036854775808 ≤ a) (h1 : a ≤ 9223372036854775807) :
  Calls Try.prog 123 #[.int .i64 a] w fun e w' => e = .returned (.int .u64 (qmost a)) ∧ w = w' := by
  go_enter Try.func123, Try.ntmps123
  go_wp2
  all_goals go_ret
  all_goals exact ⟨ret_int (by unfold qmost; omega), rfl⟩
set_option maxHeartbeats 400000 in
theorem rqmost_any (a : Int) (w : World) (h0 : -9223372036854775808 ≤ a) (h1 : a ≤ 9223372036854775807) :
  Calls Try.prog 114 #[.int .i64 a] w fun e w' => e = .returned (.int .u64 (qmost a)) ∧ w = w' := by
  go_enter Try.func114, Try.ntmps114
  go_wp2
  all_goals go_ret
  all_goals exact ⟨ret_int (by unfold qmost; omega), rfl⟩
def qenc (c m : Int) : Int := if c = 0 ∨ m = 0 then 0 else c % (2 * m) + 1
set_option maxHeartbeats 400000 in
theorem qenc_any (c a : Int) (w : World) (c0 : 0 ≤ c) (c1 : c ≤ 18446744073709551615) (h0 : -9223372036854775808 ≤ a) (h1 : a ≤ 9223372036854775807) :
  Calls Try.prog 78 #[.int .u64 c, .int .i64 a] w fun e w' => e = .returned (.int .u64 (qenc c (qmost a))) ∧ w = w' := by
  obtain ⟨m0, m1⟩ := qmost_bd a h1
  have hcon := fun w => qmost_any a w h0 h1
  generalize qmost a = m at *
  by_cases hc : c = 0
  · have e1 : qenc c m = 0 := by simp [qenc, hc]
    rw [e1]; subst hc; clear e1
    go_enter Try.func78, Try.ntmps78
    go_wp2_with (go_at_call 123; refine (hcon _).mono ?_; rintro e w' ⟨rfl, rfl⟩)
    go_ret
    exact ⟨rfl, rfl⟩
  · by_cases hm : m = 0
    · have e1 : qenc c m = 0 := by simp [qenc, hm]
      rw [e1]; subst hm; clear e1
      have hc' : (c == 0) = false := by simpa using hc
      go_enter Try.func78, Try.ntmps78
      go_wp2_with (go_at_call 123; refine (hcon _).mono ?_; rintro e w' ⟨rfl, rfl⟩)
      go_ret
      exact ⟨rfl, rfl⟩
    · have e1 : qenc c m = c % (2 * m) + 1 := by simp [qenc, hm, hc]
      rw [e1]; clear e1
      have hb : 0 ≤ c % (2 * m) := Int.emod_nonneg _ (by omega)
      have hb2 : c % (2 * m) < (2 * m) := Int.emod_lt_of_pos _ (by omega)
      have hc' : (c == 0) = false := by simpa using hc
      have hm' : (m == 0) = false := by simpa using hm
      have hm2 : 0 < 2 * m := by omega
      have hm3 : ¬ (2 * m = 0) := by omega
      go_enter Try.func78, Try.ntmps78
      go_wp2_with (go_at_call 123; refine (hcon _).mono ?_; rintro e w' ⟨rfl, rfl⟩)
      go_ret
      exact ⟨rfl, rfl⟩
set_option maxHeartbeats 400000 in
theorem rqenc_any (c a : Int) (w : World) (c0 : 0 ≤ c) (c1 : c ≤ 18446744073709551615) (h0 : -9223372036854775808 ≤ a) (h1 : a ≤ 9223372036854775807) :
  Calls Try.prog 70 #[.int .u64 c, .int .i64 a] w fun e w' => e = .returned (.int .u64 (qenc c (qmost a))) ∧ w = w' := by
  obtain ⟨m0, m1⟩ := qmost_bd a h1
  have hcon := fun w => rqmost_any a w h0 h1
  generalize qmost a = m at *
  by_cases hc : c = 0
  · have e1 : qenc c m = 0 := by simp [qenc, hc]
    rw [e1]; subst hc; clear e1
    go_enter Try.func70, Try.ntmps70
    go_wp2_with (go_at_call 114; refine (hcon _).mono ?_; rintro e w' ⟨rfl, rfl⟩)
    go_ret
    exact ⟨rfl, rfl⟩
  · by_cases hm : m = 0
    · have e1 : qenc c m = 0 := by simp [qenc, hm]
      rw [e1]; subst hm; clear e1
      have hc' : (c == 0) = false := by simpa using hc
      go_enter Try.func70, Try.ntmps70
      go_wp2_with (go_at_call 114; refine (hcon _).mono ?_; rintro e w' ⟨rfl, rfl⟩)
      go_ret
      exact ⟨rfl, rfl⟩
    · have e1 : qenc c m = c % (2 * m) + 1 := by simp [qenc, hm, hc]
      rw [e1]; clear e1
      have hb : 0 ≤ c % (2 * m) := Int.emod_nonneg _ (by omega)
      have hb2 : c % (2 * m) < (2 * m) := Int.emod_lt_of_pos _ (by omega)
      have hc' : (c == 0) = false := by simpa using hc
      have hm' : (m == 0) = false := by simpa using hm
      have hm2 : 0 < 2 * m := by omega
      have hm3 : ¬ (2 * m = 0) := by omega
      go_enter Try.func70, Try.ntmps70
      go_wp2_with (go_at_call 114; refine (hcon _).mono ?_; rintro e w' ⟨rfl, rfl⟩)
      go_ret
      exact ⟨rfl, rfl⟩
end Go.Proofs.Ytdgggjeiflllhaa.M
namespace Go.Proofs.Ytdgggjeiflllhaa.M
open Go.ChangeShapes Go.WideShapes Go.ChangeAt Go.RowKit
def mostQ (cap : Nat) : Nat := cap / 32
def encQ (c cap : Nat) : Nat := if c = 0 ∨ mostQ cap = 0 then 0 else c % (2 * mostQ cap) + 1
def prefQ (count base cap : Nat) : Bytes := pfx 0 8 (encQ count cap) ++ (if count ≤ base then pfx 0 7 (base - count) else pfx 128 7 (count - base - 1))
theorem qmost_nat (cap : Nat) : qmost (cap : Int) = (mostQ cap : Nat) := by unfold qmost mostQ; omega
theorem qenc_nat (c cap : Nat) : qenc (c : Int) (qmost cap) = (encQ c cap : Nat) := by
  rw [qmost_nat]
  unfold qenc encQ
  generalize mostQ cap = m
  by_cases h : c = 0 ∨ m = 0
  · rw [if_pos h, if_pos (by omega)]; rfl
  · rw [if_neg h, if_neg (by omega)]; push_cast; rfl
end Go.Proofs.Ytdgggjeiflllhaa.M
namespace Go.Proofs.Ytdgggjeiflllhaa.M
open Go.ChangeShapes Go.WideShapes Go.ChangeAt Go.RowKit
def fixE (e : Nat) : Nat := if e = 20 then 20 else 26
def Tb.new (T : Tb) (i : Nat) : Option Fld := if i < T.l.length then T.l[T.l.length - 1 - i]? else none
def Tb.at_ (T : Tb) (i : Nat) : Option Fld := if T.first ≤ i ∧ i < T.n then T.l[i - T.first]? else none
def nameQ (T : Tb) (i : Nat) (fixed : Bool) : Option Bytes := if fixed then (h3tab[i]?).map (·.1) else (T.new i).map (·.1)
def addQ (T : Tb) (f : Fld) (k : Nat) : Nat × Nat × Tb := if fsize f ≤ T.cap then (0, k, T.add f) else (26, 0, T)
def valQ (T : Tb) (nm : Bytes) (r : Bytes) (k : Nat) : Nat × Nat × Tb :=
  match strD (r.drop k) 7 with
  | (v, k2, e) => if e ≠ 0 then (fixE e, 0, T) else addQ T (nm, v) (k + k2)
def insQ (lim : Nat) (T : Tb) (r : Bytes) : Nat × Nat × Tb :=
  let c := (r.headD 0).toNat
  if 128 ≤ c then
    match rdp r 6 with
    | (i, k, e) => if e ≠ 0 then (fixE e, 0, T) else
      match nameQ T i (decide (c / 64 % 2 = 1)) with
      | none => (26, 0, T)
      | some nm => valQ T nm r k
  else if 64 ≤ c then
    match strD r 5 with
    | (nm, k, e) => if e ≠ 0 then (fixE e, 0, T) else valQ T nm r k
  else if 32 ≤ c then
    match rdp r 5 with
    | (n, k, e) => if e ≠ 0 then (fixE e, 0, T) else if lim < n then (26, 0, T) else (0, k, T.resize n)
  else
    match rdp r 5 with
    | (i, k, e) => if e ≠ 0 then (fixE e, 0, T) else
      match T.new i with
      | none => (26, 0, T)
      | some f => addQ T f k
def feedGo (lim : Nat) : Nat → Tb → Bytes → Tb × Bytes × Bool
  | _, T, [] => (T, [], false)
  | 0, T, r => (T, r, false)
  | f + 1, T, c :: r =>
    match insQ lim T (c :: r) with
    | (e, k, T2) => if e = 0 then feedGo lim f T2 ((c :: r).drop k) else if e = 20 then (T, c :: r, false) else (T, c :: r, true)
structure Qd where
  t : Tb
  lim : Nat
  blk : Nat
  waits : List Nat
  rest : Bytes
  out : Bytes
  told : Nat
  bad : Bool
def Qd.feed (D : Qd) (b : Bytes) : Nat × Qd :=
  if D.bad then (26, D) else
  match feedGo D.lim (D.rest ++ b).length D.t (D.rest ++ b) with
  | (T, r, x) => (if x then 26 else 0, { D with t := T, rest := r, bad := x })
end Go.Proofs.Ytdgggjeiflllhaa.M

