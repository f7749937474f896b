/- Qy -/
import Derived.Defers
import Derived.Recover
import Derived.BigQuiet
import Derived.Lib.Hide
import Derived.Test.YtdgggjeiflllhaaZyQr

namespace Go.Proofs.Ytdgggjeiflllhaa.M
open Go.ChangeShapes Go.WideShapes Go.ChangeAt Go.RowKit
def CQW (R : World → Prop) (e : Exit) (a : Act) (w : World) : Prop := e = .normal ∧ a.defers = [] ∧ R w
set_option maxRecDepth 100000 in
set_option maxHeartbeats 400000 in
/-- the deferred function in a frame that panics -/
theorem qcatch_p (be x : Nat) (v : Int) (w : World) (he : w.cell? ⟨be, 0, none⟩ = some (.int .i64 v)) (he2 : w.frozen? ⟨be, 0, none⟩ = false) :
    CallsD Try.prog 102 #[.pointer (some ⟨be, 0, none⟩)] (.panicking [{ v := .iface 167 (.agg #[.int .i64 (x : Int)]), recovered := false }]) w fun e u' w' =>
      e = .returned (.tuple #[]) ∧ u' = .panicking [{ v := .iface 167 (.agg #[.int .i64 (x : Int)]), recovered := true }] ∧ (Frm (fun k => k = be ∨ New w k) w w' ∧ w'.cell? ⟨be, 0, none⟩ = some (.int .i64 (x : Int)) ∧ be < w'.heap.size) := by
  have hl := World.block_lt_of_cell? _ _ he
  simp only at hl
  have hF : Frm (fun k => k = be ∨ New w k) w ((w.setCell ⟨be, 0, none⟩ (.int .i64 (x : Int))).alloc (Obj.cells #[.int .i64 (x : Int)] 167)) := ((Frm.refl _ w).setCell (p := ⟨be, 0, none⟩) (.inl rfl) _).alloc (fun _ h => .inr (by unfold New; simpa using h)) _
  have hFc : ((w.setCell ⟨be, 0, none⟩ (.int .i64 (x : Int))).alloc (Obj.cells #[.int .i64 (x : Int)] 167)).cell? ⟨be, 0, none⟩ = some (.int .i64 (x : Int)) ∧ be < ((w.setCell ⟨be, 0, none⟩ (.int .i64 (x : Int))).alloc (Obj.cells #[.int .i64 (x : Int)] 167)).heap.size := by
    refine ⟨?_, by simp; omega⟩
    rw [World.cell?_alloc_lt _ _ _ (by simpa using hl)]
    exact World.cell?_setCell_same' _ _ _ (by rw [he]; rfl)
  have HF := Lib.hid hF
  have HFC := Lib.hid hFc
  clear hF hFc
  refine callsD_of_wpS Try.func102 rfl fun c₀ cs hu => ?_
  apply wpS_seq
  apply wpS_region
  have hfr : ((#[Value.pointer (some ⟨be, 0, none⟩)] : Array Value) ++ ((Array.replicate 16 undef).setIfInBounds 3 (Value.iface 167 (.agg #[.int .i64 (x : Int)]))).setIfInBounds 0 (Value.iface 167 (.agg #[.int .i64 (x : Int)]))) = #[Value.pointer (some ⟨be, 0, none⟩), Value.iface 167 (.agg #[.int .i64 (x : Int)]), undef, undef, Value.iface 167 (.agg #[.int .i64 (x : Int)]), undef, undef, undef, undef, undef, undef, undef, undef, undef, undef, undef, undef] := by kernel_rfl
  simp [wpOpsS, go_sem, recoverD, hu, Try.ntmps102, Exit.thenS]
  have hne : ∀ (v : Value) (w : World), (binOp .neq 20 (.iface 167 v) .nilIface).run Try.prog w = .ok (.bool true) w := fun _ _ => by kernel_rfl
  have hta : ∀ (v : Value) (w : World), (Instr.typeAssert (.iface 167 v) 20 167 true).run Try.prog w = .ok (.tuple #[v, .bool true]) w := fun _ _ => by kernel_rfl
  refine wpS_of_wp ?_
  refine wp_mono (Q := CQW (fun w' => Frm (fun k => k = be ∨ New w k) w w' ∧ w'.cell? ⟨be, 0, none⟩ = some (.int .i64 (x : Int)) ∧ be < w'.heap.size)) ?_ ?_
  rotate_left
  · rintro e a w' ⟨rfl, h1, h2⟩
    exact ⟨h1, _, rfl, .tuple #[], results_none rfl _ _ _, rfl, rfl, h2⟩
  clear hu c₀ cs
  rw [hfr]
  clear hfr
  go_wp2
  exact ⟨rfl, rfl, HF.out, HFC.out⟩
theorem qcatch_i (be : Addr) (w : World) : CallsD Try.prog 102 #[.pointer (some be)] .returning w fun e u' w' => e = .returned (.tuple #[]) ∧ u' = .returning ∧ w' = w := by
  refine callsD_of_wpS Try.func102 rfl fun c₀ cs hu => ?_
  apply wpS_seq
  apply wpS_region
  have hfr : ((#[Value.pointer (some be)] : Array Value) ++ ((Array.replicate 16 undef).setIfInBounds 3 Value.nilIface).setIfInBounds 0 Value.nilIface) = #[Value.pointer (some be), Value.nilIface, undef, undef, Value.nilIface, undef, undef, undef, undef, undef, undef, undef, undef, undef, undef, undef, undef] := by kernel_rfl
  simp [wpOpsS, go_sem, recoverD, hu, Try.ntmps102, Exit.thenS]
  have hne : ∀ (w : World), (binOp .neq 20 .nilIface .nilIface).run Try.prog w = .ok (.bool false) w := fun _ => by kernel_rfl
  refine wpS_of_wp ?_
  refine wp_mono (Q := CQW (fun w' => w' = w)) ?_ ?_
  rotate_left
  · rintro e a w' ⟨rfl, h1, rfl⟩
    cases c₀
    simp only at hu
    subst hu
    exact ⟨h1, _, rfl, .tuple #[], results_none rfl _ _ _, rfl, rfl, rfl⟩
  clear hu c₀ cs
  rw [hfr]
  clear hfr
  go_wp2
  exact ⟨rfl, rfl, rfl⟩
set_option maxRecDepth 100000 in
set_option maxHeartbeats 1000000 in
/-- a function that returns is done -/
theorem qtryF_ok (caps : Array Value) (w : World) (Q : World → Prop) (hc : Calls Try.prog 68 caps (w.alloc (Obj.cells #[Value.int .i64 0] 39)) fun e w' => e = .returned (.tuple #[]) ∧ Q w' ∧ Blk w' w.heap.size 39 #[.int .i64 0]) :
    Calls Try.prog 64 #[.func (.func 68) #[] caps] w fun e w' => e = .returned (.int .i64 0) ∧ ∃ w5, Q w5 ∧ Frm (fun k => k = w.heap.size) w5 w' := by
  have hmf : ∀ (fn : Fn) (first cap : Array Value) (w : World), (Instr.makeFunc fn first cap).run Try.prog w = .ok (.func fn first cap) w := fun _ _ _ _ => rfl
  have HC := Lib.hid hc
  clear hc
  go_enter_defers Try.func64, Try.ntmps64
  go_wp2_with (fail)
  go_at_call 68
  refine HC.out.mono ?_
  rintro e w5 ⟨rfl, hQ, hB⟩
  have hy0 := hB.cell 0
  simp only [List.getElem?_toArray, List.getElem?_cons_zero] at hy0
  have hz := hB.frozen 0
  have hl := hB.lt
  have HB := Lib.hid hB
  have HQ := Lib.hid hQ
  clear hB hQ
  go_wp2
  refine leaves_cons (f := 102) (args := #[.pointer (some ⟨w.heap.size, 0, none⟩)]) (by simp) (by simp [go_sem]) ?_
  refine (qcatch_i _ _).mono ?_
  rintro e u' w'' ⟨rfl, rfl, rfl⟩
  show ∃ v : Value, _ ∧ _
  refine ⟨.int .i64 0, ?_, rfl, w5, HQ.out, (Frm.refl (fun k => k = w.heap.size) w5).setCell (p := ⟨w.heap.size, 0, none⟩) rfl _⟩
  simp [results, Try.f64, go_sem, hy0]
set_option maxRecDepth 100000 in
set_option maxHeartbeats 1000000 in
/-- a function that stops is caught -/
theorem qtryF_bad (caps : Array Value) (w : World) (x : Nat) (Q : World → Prop) (hc : Calls Try.prog 68 caps (w.alloc (Obj.cells #[Value.int .i64 0] 39)) fun e w' => e = PQ x ∧ Q w' ∧ Blk w' w.heap.size 39 #[.int .i64 0]) :
    Calls Try.prog 64 #[.func (.func 68) #[] caps] w fun e w' => e = .returned (.int .i64 (x : Int)) ∧ ∃ w5, Q w5 ∧ Frm (fun k => k = w.heap.size ∨ New w5 k) w5 w' := by
  have hmf : ∀ (fn : Fn) (first cap : Array Value) (w : World), (Instr.makeFunc fn first cap).run Try.prog w = .ok (.func fn first cap) w := fun _ _ _ _ => rfl
  have HC := Lib.hid hc
  clear hc
  go_enter_defers Try.func64, Try.ntmps64
  go_wp2_with (fail)
  go_at_call 68
  refine HC.out.mono ?_
  rintro e w5 ⟨rfl, hQ, hB⟩
  have hy0 := hB.cell 0
  simp only [List.getElem?_toArray, List.getElem?_cons_zero] at hy0
  have hz := hB.frozen 0
  have hl := hB.lt
  have HB := Lib.hid hB
  have HQ := Lib.hid hQ
  clear hB hQ
  unfold PQ
  go_wp2
  refine leaves_cons (f := 102) (args := #[.pointer (some ⟨w.heap.size, 0, none⟩)]) (by simp) (by simp [go_sem]) ?_
  refine (qcatch_p w.heap.size x 0 w5 hy0 hz).mono ?_
  rintro e u' w'' ⟨rfl, rfl, hF, hc, hl2⟩
  show ∃ v : Value, _ ∧ _
  refine ⟨.int .i64 (x : Int), ?_, rfl, w5, HQ.out, hF⟩
  simp [results, Try.f64, go_sem, hc]
set_option maxRecDepth 100000 in
set_option maxHeartbeats 1000000 in
/-- a function that returns is done -/
theorem qtryD_ok (caps : Array Value) (w : World) (Q : World → Prop) (hc : Calls Try.prog 65 caps (w.alloc (Obj.cells #[Value.int .i64 0] 39)) fun e w' => e = .returned (.tuple #[]) ∧ Q w' ∧ Blk w' w.heap.size 39 #[.int .i64 0]) :
    Calls Try.prog 64 #[.func (.func 65) #[] caps] w fun e w' => e = .returned (.int .i64 0) ∧ ∃ w5, Q w5 ∧ Frm (fun k => k = w.heap.size) w5 w' := by
  have hmf : ∀ (fn : Fn) (first cap : Array Value) (w : World), (Instr.makeFunc fn first cap).run Try.prog w = .ok (.func fn first cap) w := fun _ _ _ _ => rfl
  have HC := Lib.hid hc
  clear hc
  go_enter_defers Try.func64, Try.ntmps64
  go_wp2_with (fail)
  go_at_call 65
  refine HC.out.mono ?_
  rintro e w5 ⟨rfl, hQ, hB⟩
  have hy0 := hB.cell 0
  simp only [List.getElem?_toArray, List.getElem?_cons_zero] at hy0
  have hz := hB.frozen 0
  have hl := hB.lt
  have HB := Lib.hid hB
  have HQ := Lib.hid hQ
  clear hB hQ
  go_wp2
  refine leaves_cons (f := 102) (args := #[.pointer (some ⟨w.heap.size, 0, none⟩)]) (by simp) (by simp [go_sem]) ?_
  refine (qcatch_i _ _).mono ?_
  rintro e u' w'' ⟨rfl, rfl, rfl⟩
  show ∃ v : Value, _ ∧ _
  refine ⟨.int .i64 0, ?_, rfl, w5, HQ.out, (Frm.refl (fun k => k = w.heap.size) w5).setCell (p := ⟨w.heap.size, 0, none⟩) rfl _⟩
  simp [results, Try.f64, go_sem, hy0]
set_option maxRecDepth 100000 in
set_option maxHeartbeats 1000000 in
/-- a function that stops is caught -/
theorem qtryD_bad (caps : Array Value) (w : World) (Q : World → Prop) (hc : Calls Try.prog 65 caps (w.alloc (Obj.cells #[Value.int .i64 0] 39)) fun e w' => ∃ x : Nat, x ≠ 0 ∧ e = PQ x ∧ Q w' ∧ Blk w' w.heap.size 39 #[.int .i64 0]) :
    Calls Try.prog 64 #[.func (.func 65) #[] caps] w fun e w' => ∃ x : Nat, x ≠ 0 ∧ e = .returned (.int .i64 (x : Int)) ∧ ∃ w5, Q w5 ∧ Frm (fun k => k = w.heap.size ∨ New w5 k) w5 w' := by
  have hmf : ∀ (fn : Fn) (first cap : Array Value) (w : World), (Instr.makeFunc fn first cap).run Try.prog w = .ok (.func fn first cap) w := fun _ _ _ _ => rfl
  have HC := Lib.hid hc
  clear hc
  go_enter_defers Try.func64, Try.ntmps64
  go_wp2_with (fail)
  go_at_call 65
  refine HC.out.mono ?_
  rintro e w5 ⟨x, hx, rfl, hQ, hB⟩
  have hy0 := hB.cell 0
  simp only [List.getElem?_toArray, List.getElem?_cons_zero] at hy0
  have hz := hB.frozen 0
  have hl := hB.lt
  have HB := Lib.hid hB
  have HQ := Lib.hid hQ
  clear hB hQ
  unfold PQ
  go_wp2
  refine leaves_cons (f := 102) (args := #[.pointer (some ⟨w.heap.size, 0, none⟩)]) (by simp) (by simp [go_sem]) ?_
  refine (qcatch_p w.heap.size x 0 w5 hy0 hz).mono ?_
  rintro e u' w'' ⟨rfl, rfl, hF, hc, hl2⟩
  show ∃ v : Value, _ ∧ _
  refine ⟨.int .i64 (x : Int), ?_, x, hx, rfl, w5, HQ.out, hF⟩
  simp [results, Try.f64, go_sem, hc]
end Go.Proofs.Ytdgggjeiflllhaa.M

