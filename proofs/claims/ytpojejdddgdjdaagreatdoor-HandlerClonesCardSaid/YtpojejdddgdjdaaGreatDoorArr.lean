/- Words for memory, over any program: blocks that are known whole (arrays, structs behind pointers); the laws of an array's or struct's new variable, of a store and a load of the whole. No condition. -/
import Derived.Test.YtpojejdddgdjdaaGreatDoorMem
import Derived.Laws.Rows
namespace Go.Proofs.YtpojejdddgdjdaaGreatDoor.M
open Go.ChangeShapes Go.WideShapes Go.ChangeAt Go.RowKit

/-- block g is just these cells -/
def Blk (w : World) (g : Nat) (t : TypeId) (cs : Array Value) : Prop := w.heap[g]? = some (.cells cs t (0, 0))

section
variable {M : Nat → Prop} {w w' : World} {g : Nat} {t : TypeId} {cs : Array Value}
theorem Blk.lt (h : Blk w g t cs) : g < w.heap.size := (Array.getElem?_eq_some_iff.1 h).1
theorem Blk.cell (h : Blk w g t cs) (i : Nat) : w.cell? ⟨g, i, none⟩ = cs[i]? := cell_of_row w g i cs t (0, 0) h
theorem Blk.frozen (h : Blk w g t cs) (i : Nat) : w.frozen? ⟨g, i, none⟩ = false := frozen_of_row w g i cs t h
theorem Blk.drew (h : Blk w g t cs) : Blk w.drew g t cs := h
theorem Blk.drewN (h : Blk w g t cs) (n : Nat) : Blk (w.drewN n) g t cs := h
theorem Blk.new (w : World) (t : TypeId) (cs : Array Value) : Blk (w.alloc (.cells cs t)) w.heap.size t cs := heap_alloc_new w _
theorem Blk.fresh (h : Blk w g t cs) (f : Frm (New w) w w') : Blk w' g t cs := (f.block g (by have := h.lt; unfold New; omega)).trans h
theorem Blk.alloc (h : Blk w g t cs) (o : Obj) : Blk (w.alloc o) g t cs := h.fresh ((Frm.refl _ _).alloc Up.new o)
theorem Blk.keep (h : Blk w g t cs) (f : Frm M w w') (hg : ¬ M g) : Blk w' g t cs := (f.block g hg).trans h
theorem Blk.set_ (h : Blk w g t cs) (i : Nat) (u : Value) : Blk (w.setCell ⟨g, i, none⟩ u) g t (cs.setIfInBounds i u) := heap_setCell_same w g i cs t u h
theorem Blk.far (h : Blk w g t cs) {p : Addr} (hp : g ≠ p.block) (u : Value) : Blk (w.setCell p u) g t cs := (heap_setCell_other w p g u hp).trans h
theorem Blk.rd (h : Blk w g t cs) : Rd w (some ⟨g, 0, none⟩) cs.toList := fun j u hu => ⟨g, 0, rfl, by rw [Nat.zero_add, h.cell]; simpa using hu⟩
end

theorem Blk.app {M : Nat → Prop} {w w' : World} {g : Nat} {t e : TypeId} {cs : Array Value} {size n c : Nat} {A : Option Addr} {xs : List Value} (h : Blk w g t cs) (ha : App M w e size A n c xs) (hne : e ≠ t) (f : Frm (Wr A n c w) w w') : Blk w' g t cs := by
  refine h.keep f ?_
  rintro (hk | ⟨hn, hk⟩)
  · have := h.lt; omega
  · obtain ⟨g', off, cur, rfl, hg, _⟩ := ha.own (by omega)
    simp at hk
    subst hk
    unfold Blk at h
    rw [h] at hg
    injection hg with hg
    injection hg with _ ht
    exact hne ht.symm

/-- what the tables say of a type whose variable is a row of n cells (a struct, an array) -/
structure Agg (P : Program) (T : TypeId) (n : Nat) : Prop where
  under : ∃ d, P.underlying T = some d ∧ (match d with | .struct _ | .array _ _ => true | _ => false) = true
  size : (P.info? T).map (·.size) = some n

section
variable {P : Program} {ops : Array Oper} {rest : List Oper} {o : Oper} {a : Act} {Q : Exit → Act → World → Prop} {w : World} {T : TypeId} {n : Nat}

/-- an operation whose run is known -/
theorem wpList_run (hgd : o.guard = none) {v : Value} {w' : World} (hr : (execOp a.eval o).run P w = .ok (.value v) w') (h : wpList P ops Q rest (a.put o.dst v) w') : wpList P ops Q (o :: rest) a w := by
  refine wpList_plain hgd fun _ hK => ?_
  unfold Oper.wp
  rw [hr]
  exact hK _ _ h

theorem wpList_val (hgd : o.guard = none) (v : Value) (hr : (execOp a.eval o).run P w = .ok (.value v) w) (h : wpList P ops Q rest (a.put o.dst v) w) : wpList P ops Q (o :: rest) a w := wpList_run hgd hr h

/-- a new variable -/
theorem wpList_new (hgd : o.guard = none) (ho : o.op = .alloc T) {z : Value} (hz : (P.info? T).map (·.zero) = some (some z)) {Z : Array Value} (hZ : z.cells = Z)
    (h : ∀ w', Blk w' w.heap.size T Z → Frm (New w) w w' → w'.heap.size = w.heap.size + 1 → wpList P ops Q rest (a.put o.dst (.pointer (some ⟨w.heap.size, 0, none⟩))) w') : wpList P ops Q (o :: rest) a w := by
  refine wpList_run hgd (v := .pointer (some ⟨w.heap.size, 0, none⟩)) (w' := w.alloc (.cells Z T)) ?_ (h _ (Blk.new w T Z) ((Frm.refl _ _).alloc Up.new _) (by simp))
  unfold execOp
  rw [ho]
  cases hi : P.info? T with
  | none => rw [hi] at hz; cases hz
  | some i =>
    rw [hi] at hz
    have hz' : i.zero = some z := by simpa using hz
    subst hZ
    simp [Instr.alloc, zeroValue, typeInfo, hi, hz', newVar, newRow]

/-- a store of the whole -/
theorem wpList_store_agg (hgd : o.guard = none) {p x : Operand} (ho : o.op = .store T p x) {g : Nat} (hp : a.eval p = .pointer (some ⟨g, 0, none⟩)) {cs : Array Value} (hx : a.eval x = .agg cs)
    {e : TypeId} {old : Array Value} (hb : Blk w g e old) (hs : old.size = cs.size) (h1 : ∀ u ∈ cs.toList, u.oneCell' = true) (hi : (P.info? T).map (·.size) = some cs.size)
    (h : ∀ w', Blk w' g e cs → Frm (· = g) w w' → w'.heap.size = w.heap.size → wpList P ops Q rest (a.put o.dst undef) w') : wpList P ops Q (o :: rest) a w := by
  refine wpList_plain hgd fun _ hK => ?_
  have hst := run_storeCells_at P g 0 e cs.toList 0 old w hb (by simp; omega) h1
  have hrow : (old.toList.take (0 + 0) ++ cs.toList ++ old.toList.drop (0 + 0 + cs.toList.length)).toArray = cs := by
    apply Array.ext'
    simp [hs]
  rw [hrow] at hst
  unfold Oper.wp execOp
  cases hq : P.info? T with
  | none => rw [hq] at hi; cases hi
  | some i =>
    rw [hq] at hi
    have hi' : i.size = cs.size := by simpa using hi
    have hrun : (Instr.storeAt T (a.eval p) (a.eval x)).run P w = .ok () (w.setRow g cs) := by
      rw [hp, hx]
      simp [Instr.storeAt, Instr.sureAddr, storeVar, Value.cells, sizeOf, typeInfo, hq, hi', hst]
    simp only [ho, Sem.run_bind, hrun, Result.andThen_ok, Sem.run_pure]
    exact hK _ _ (h _ (setRow_heap w g old cs e _ hb) ⟨rfl, rfl, rfl, by simp, fun k hk => setRow_other w g k _ hk⟩ (by simp))

/-- a load of the whole -/
theorem wpList_load_agg (E : Agg P T n) (hgd : o.guard = none) {x : Operand} (ho : o.op = .load T x) {g : Nat} (hx : a.eval x = .pointer (some ⟨g, 0, none⟩)) {t : TypeId} {cs : Array Value} (hb : Blk w g t cs) (hn : cs.size = n)
    (h : wpList P ops Q rest (a.put o.dst (.agg cs)) w) : wpList P ops Q (o :: rest) a w := by
  obtain ⟨d, hu, hd⟩ := E.under
  exact wpList_load_row hgd T x ho g hx t cs (0, 0) d hb hu (by cases d <;> first | rfl | cases hd) (by rw [E.size, hn]) h
/-- a result that lies in a variable -/
theorem results_agg (E : Agg P T n) {fn : Func} {p : Tmp} (h : fn.results = #[.cell p T]) {tmps : Array Value} {g : Nat} {t : TypeId} {cs : Array Value} (hp : tmps.getD p undef = .pointer (some ⟨g, 0, none⟩)) (hb : Blk w g t cs) (hn : cs.size = n) :
    (results fn tmps).run P w = .ok (.agg cs) w := by
  obtain ⟨d, hu, hd⟩ := E.under
  exact results_cell_row h tmps w g t cs (0, 0) d hp hb hu (by cases d <;> first | rfl | cases hd) (by rw [E.size, hn])

/-! one step of a region that draws its order -/
theorem step_load_agg {K : Act → World → Prop} {E : Prop} (A : Agg P T n) (hgd : o.guard = none) {x : Operand} (ho : o.op = .load T x) {g : Nat} (hx : a.eval x = .pointer (some ⟨g, 0, none⟩)) {t : TypeId} {cs : Array Value} (hb : Blk w g t cs) (hn : cs.size = n)
    (h : K (a.put o.dst (.agg cs)) w) : if Region.wanted o (yielded ops a.tmps) = true then Oper.wp P o a w K Q else E := by
  rw [if_pos (by simp [Region.wanted, hgd])]
  obtain ⟨d, hu, hd⟩ := A.under
  exact wp_load_row T x ho g hx t cs (0, 0) d hb hu (by cases d <;> first | rfl | cases hd) (by rw [A.size, hn]) h

theorem wp_store_agg {K : Act → World → Prop} {p x : Operand} (ho : o.op = .store T p x) {g : Nat} (hp : a.eval p = .pointer (some ⟨g, 0, none⟩)) {cs : Array Value} (hx : a.eval x = .agg cs)
    {e : TypeId} {old : Array Value} (hb : Blk w g e old) (hs : old.size = cs.size) (h1 : ∀ u ∈ cs.toList, u.oneCell' = true) (hi : (P.info? T).map (·.size) = some cs.size)
    (h : ∀ w', Blk w' g e cs → Frm (· = g) w w' → w'.heap.size = w.heap.size → K (a.put o.dst undef) w') : Oper.wp P o a w K Q := by
  have hst := run_storeCells_at P g 0 e cs.toList 0 old w hb (by simp; omega) h1
  have hrow : (old.toList.take (0 + 0) ++ cs.toList ++ old.toList.drop (0 + 0 + cs.toList.length)).toArray = cs := by
    apply Array.ext'
    simp [hs]
  rw [hrow] at hst
  unfold Oper.wp execOp
  cases hq : P.info? T with
  | none => rw [hq] at hi; cases hi
  | some i =>
    rw [hq] at hi
    have hi' : i.size = cs.size := by simpa using hi
    have hrun : (Instr.storeAt T (a.eval p) (a.eval x)).run P w = .ok () (w.setRow g cs) := by
      rw [hp, hx]
      simp [Instr.storeAt, Instr.sureAddr, storeVar, Value.cells, sizeOf, typeInfo, hq, hi', hst]
    simp only [ho, Sem.run_bind, hrun, Result.andThen_ok, Sem.run_pure]
    exact h _ (setRow_heap w g old cs e _ hb) ⟨rfl, rfl, rfl, by simp, fun k hk => setRow_other w g k _ hk⟩ (by simp)

theorem step_store_agg {K : Act → World → Prop} {E : Prop} (hgd : o.guard = none) {p x : Operand} (ho : o.op = .store T p x) {g : Nat} (hp : a.eval p = .pointer (some ⟨g, 0, none⟩)) {cs : Array Value} (hx : a.eval x = .agg cs)
    {e : TypeId} {old : Array Value} (hb : Blk w g e old) (hs : old.size = cs.size) (h1 : ∀ u ∈ cs.toList, u.oneCell' = true) (hi : (P.info? T).map (·.size) = some cs.size)
    (h : ∀ w', Blk w' g e cs → Frm (· = g) w w' → w'.heap.size = w.heap.size → K (a.put o.dst undef) w') : if Region.wanted o (yielded ops a.tmps) = true then Oper.wp P o a w K Q else E := by
  rw [if_pos (by simp [Region.wanted, hgd])]
  exact wp_store_agg ho hp hx hb hs h1 hi h

theorem results_agg2 {T2 : TypeId} {n2 : Nat} (E : Agg P T n) (E2 : Agg P T2 n2) {fn : Func} {p p2 : Tmp} (h : fn.results = #[.cell p T, .cell p2 T2]) {tmps : Array Value} {g g2 : Nat} {t t2 : TypeId} {cs cs2 : Array Value}
    (hp : tmps.getD p undef = .pointer (some ⟨g, 0, none⟩)) (hb : Blk w g t cs) (hn : cs.size = n) (hp2 : tmps.getD p2 undef = .pointer (some ⟨g2, 0, none⟩)) (hb2 : Blk w g2 t2 cs2) (hn2 : cs2.size = n2) :
    (results fn tmps).run P w = .ok (.tuple #[.agg cs, .agg cs2]) w := by
  obtain ⟨d, hu, hd⟩ := E.under
  obtain ⟨d2, hu2, hd2⟩ := E2.under
  have hp' : tmps[p]?.getD undef = .pointer (some ⟨g, 0, none⟩) := by simpa using hp
  have hp2' : tmps[p2]?.getD undef = .pointer (some ⟨g2, 0, none⟩) := by simpa using hp2
  simp [results, h, hp', hp2', asAddr, run_loadVar_row w g t T cs (0, 0) d hb hu (by cases d <;> first | rfl | cases hd) (by rw [E.size, hn]), run_loadVar_row w g2 t2 T2 cs2 (0, 0) d2 hb2 hu2 (by cases d2 <;> first | rfl | cases hd2) (by rw [E2.size, hn2])]
end
end Go.Proofs.YtpojejdddgdjdaaGreatDoor.M
