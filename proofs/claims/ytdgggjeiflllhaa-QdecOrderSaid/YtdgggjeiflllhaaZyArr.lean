/- Arr -/
import Derived.Test.YtdgggjeiflllhaaZyMem
import Derived.Laws.Rows
import Derived.Laws.MakeOwn
import Derived.StillTailTactics

namespace Go.Proofs.Ytdgggjeiflllhaa.M
open Go.ChangeShapes Go.WideShapes Go.ChangeAt Go.RowKit
def Blk (w : World) (g : Nat) (t : TypeId) (cs : Array Value) : Prop := w.heap[g]? = some (.cells cs t (0, 0))
section
variable {M : Nat → Prop} {w w' : World} {g : Nat} {t : TypeId} {cs : Array Value}
theorem Blk.lt (h : Blk w g t cs) : g < w.heap.size := (Array.getElem?_eq_some_iff.1 h).1
theorem Blk.cell (h : Blk w g t cs) (i : Nat) : w.cell? ⟨g, i, none⟩ = cs[i]? := cell_of_row w g i cs t (0, 0) h
theorem Blk.frozen (h : Blk w g t cs) (i : Nat) : w.frozen? ⟨g, i, none⟩ = false := frozen_of_row w g i cs t h
theorem Blk.drew (h : Blk w g t cs) : Blk w.drew g t cs := h
theorem Blk.drewN (h : Blk w g t cs) (n : Nat) : Blk (w.drewN n) g t cs := h
theorem Blk.new (w : World) (t : TypeId) (cs : Array Value) : Blk (w.alloc (.cells cs t)) w.heap.size t cs := heap_alloc_new w _
theorem Blk.fresh (h : Blk w g t cs) (f : Frm (New w) w w') : Blk w' g t cs := (f.block g (by have := h.lt; unfold New; omega)).trans h
theorem Blk.alloc (h : Blk w g t cs) (o : Obj) : Blk (w.alloc o) g t cs := h.fresh ((Frm.refl _ _).alloc Up.new o)
theorem Blk.keep (h : Blk w g t cs) (f : Frm M w w') (hg : ¬ M g) : Blk w' g t cs := (f.block g hg).trans h
theorem Blk.set_ (h : Blk w g t cs) (i : Nat) (u : Value) : Blk (w.setCell ⟨g, i, none⟩ u) g t (cs.setIfInBounds i u) := heap_setCell_same w g i cs t u h
theorem Blk.far (h : Blk w g t cs) {p : Addr} (hp : g ≠ p.block) (u : Value) : Blk (w.setCell p u) g t cs := (heap_setCell_other w p g u hp).trans h
theorem Blk.rd (h : Blk w g t cs) : Rd w (some ⟨g, 0, none⟩) cs.toList := fun j u hu => ⟨g, 0, rfl, by rw [Nat.zero_add, h.cell]; simpa using hu⟩
end
theorem Blk.app {M : Nat → Prop} {w w' : World} {g : Nat} {t e : TypeId} {cs : Array Value} {size n c : Nat} {A : Option Addr} {xs : List Value} (h : Blk w g t cs) (ha : App M w e size A n c xs) (hne : e ≠ t) (f : Frm (Wr A n c w) w w') : Blk w' g t cs := by
  refine h.keep f ?_
  rintro (hk | ⟨hn, hk⟩)
  · have := h.lt; omega
  · obtain ⟨g', off, cur, rfl, hg, _⟩ := ha.own (by omega)
    simp at hk
    subst hk
    unfold Blk at h
    rw [h] at hg
    injection hg with hg
    injection hg with _ ht
    exact hne ht.symm
structure Agg (P : Program) (T : TypeId) (n : Nat) : Prop where
  under : ∃ d, P.underlying T = some d ∧ (match d with | .struct _ | .array _ _ => true | _ => false) = true
  size : (P.info? T).map (·.size) = some n
section
variable {P : Program} {ops : Array Oper} {rest : List Oper} {o : Oper} {a : Act} {Q : Exit → Act → World → Prop} {w : World} {T : TypeId} {n : Nat}
theorem wpList_run (hgd : o.guard = none) {v : Value} {w' : World} (hr : (execOp a.eval o).run P w = .ok (.value v) w') (h : wpList P ops Q rest (a.put o.dst v) w') : wpList P ops Q (o :: rest) a w := by
  refine wpList_plain hgd fun _ hK => ?_
  unfold Oper.wp
  rw [hr]
  exact hK _ _ h
theorem wpList_val (hgd : o.guard = none) (v : Value) (hr : (execOp a.eval o).run P w = .ok (.value v) w) (h : wpList P ops Q rest (a.put o.dst v) w) : wpList P ops Q (o :: rest) a w := wpList_run hgd hr h
theorem wpList_new (hgd : o.guard = none) (ho : o.op = .alloc T) {z : Value} (hz : (P.info? T).map (·.zero) = some (some z)) {Z : Array Value} (hZ : z.cells = Z)
    (h : ∀ w', Blk w' w.heap.size T Z → Frm (New w) w w' → w'.heap.size = w.heap.size + 1 → wpList P ops Q rest (a.put o.dst (.pointer (some ⟨w.heap.size, 0, none⟩))) w') : wpList P ops Q (o :: rest) a w := by
  refine wpList_run hgd (v := .pointer (some ⟨w.heap.size, 0, none⟩)) (w' := w.alloc (.cells Z T)) ?_ (h _ (Blk.new w T Z) ((Frm.refl _ _).alloc Up.new _) (by simp))
  unfold execOp
  rw [ho]
  cases hi : P.info? T with
  | none => rw [hi] at hz; cases hz
  | some i =>
    rw [hi] at hz
    have hz' : i.zero = some z := by simpa using hz
    subst hZ
    simp [Instr.alloc, zeroValue, typeInfo, hi, hz', newVar, newRow]
theorem wpList_store_agg (hgd : o.guard = none) {p x : Operand} (ho : o.op = .store T p x) {g : Nat} (hp : a.eval p = .pointer (some ⟨g, 0, none⟩)) {cs : Array Value} (hx : a.eval x = .agg cs)
    {e : TypeId} {old : Array Value} (hb : Blk w g e old) (hs : old.size = cs.size) (h1 : ∀ u ∈ cs.toList, u.oneCell' = true) (hi : (P.info? T).map (·.size) = some cs.size)
    (h : ∀ w', Blk w' g e cs → Frm (· = g) w w' → w'.heap.size = w.heap.size → wpList P ops Q rest (a.put o.dst undef) w') : wpList P ops Q (o :: rest) a w := by
  refine wpList_plain hgd fun _ hK => ?_
  have hst := run_storeCells_at P g 0 e cs.toList 0 old w hb (by simp; omega) h1
  have hrow : (old.toList.take (0 + 0) ++ cs.toList ++ old.toList.drop (0 + 0 + cs.toList.length)).toArray = cs := by
    apply Array.ext'
    simp [hs]
  rw [hrow] at hst
  unfold Oper.wp execOp
  cases hq : P.info? T with
  | none => rw [hq] at hi; cases hi
  | some i =>
    rw [hq] at hi
    have hi' : i.size = cs.size := by simpa using hi
    have hrun : (Instr.storeAt T (a.eval p) (a.eval x)).run P w = .ok () (w.setRow g cs) := by
      rw [hp, hx]
      simp [Instr.storeAt, Instr.sureAddr, storeVar, Value.cells, sizeOf, typeInfo, hq, hi', hst]
    simp only [ho, Sem.run_bind, hrun, Result.andThen_ok, Sem.run_pure]
    exact hK _ _ (h _ (setRow_heap w g old cs e _ hb) ⟨rfl, rfl, rfl, by simp, fun k hk => setRow_other w g k _ hk⟩ (by simp))
theorem wpList_load_agg (E : Agg P T n) (hgd : o.guard = none) {x : Operand} (ho : o.op = .load T x) {g : Nat} (hx : a.eval x = .pointer (some ⟨g, 0, none⟩)) {t : TypeId} {cs : Array Value} (hb : Blk w g t cs) (hn : cs.size = n)
    (h : wpList P ops Q rest (a.put o.dst (.agg cs)) w) : wpList P ops Q (o :: rest) a w := by
  obtain ⟨d, hu, hd⟩ := E.under
  exact wpList_load_row hgd T x ho g hx t cs (0, 0) d hb hu (by cases d <;> first | rfl | cases hd) (by rw [E.size, hn]) h
theorem results_agg (E : Agg P T n) {fn : Func} {p : Tmp} (h : fn.results = #[.cell p T]) {tmps : Array Value} {g : Nat} {t : TypeId} {cs : Array Value} (hp : tmps.getD p undef = .pointer (some ⟨g, 0, none⟩)) (hb : Blk w g t cs) (hn : cs.size = n) :
    (results fn tmps).run P w = .ok (.agg cs) w := by
  obtain ⟨d, hu, hd⟩ := E.under
  exact results_cell_row h tmps w g t cs (0, 0) d hp hb hu (by cases d <;> first | rfl | cases hd) (by rw [E.size, hn])
theorem step_load_agg {K : Act → World → Prop} {E : Prop} (A : Agg P T n) (hgd : o.guard = none) {x : Operand} (ho : o.op = .load T x) {g : Nat} (hx : a.eval x = .pointer (some ⟨g, 0, none⟩)) {t : TypeId} {cs : Array Value} (hb : Blk w g t cs) (hn : cs.size = n)
    (h : K (a.put o.dst (.agg cs)) w) : if Region.wanted o (yielded ops a.tmps) = true then Oper.wp P o a w K Q else E := by
  rw [if_pos (by simp [Region.wanted, hgd])]
  obtain ⟨d, hu, hd⟩ := A.under
  exact wp_load_row T x ho g hx t cs (0, 0) d hb hu (by cases d <;> first | rfl | cases hd) (by rw [A.size, hn]) h
theorem wp_store_agg {K : Act → World → Prop} {p x : Operand} (ho : o.op = .store T p x) {g : Nat} (hp : a.eval p = .pointer (some ⟨g, 0, none⟩)) {cs : Array Value} (hx : a.eval x = .agg cs)
    {e : TypeId} {old : Array Value} (hb : Blk w g e old) (hs : old.size = cs.size) (h1 : ∀ u ∈ cs.toList, u.oneCell' = true) (hi : (P.info? T).map (·.size) = some cs.size)
    (h : ∀ w', Blk w' g e cs → Frm (· = g) w w' → w'.heap.size = w.heap.size → K (a.put o.dst undef) w') : Oper.wp P o a w K Q := by
  have hst := run_storeCells_at P g 0 e cs.toList 0 old w hb (by simp; omega) h1
  have hrow : (old.toList.take (0 + 0) ++ cs.toList ++ old.toList.drop (0 + 0 + cs.toList.length)).toArray = cs := by
    apply Array.ext'
    simp [hs]
  rw [hrow] at hst
  unfold Oper.wp execOp
  cases hq : P.info? T with
  | none => rw [hq] at hi; cases hi
  | some i =>
    rw [hq] at hi
    have hi' : i.size = cs.size := by simpa using hi
    have hrun : (Instr.storeAt T (a.eval p) (a.eval x)).run P w = .ok () (w.setRow g cs) := by
      rw [hp, hx]
      simp [Instr.storeAt, Instr.sureAddr, storeVar, Value.cells, sizeOf, typeInfo, hq, hi', hst]
    simp only [ho, Sem.run_bind, hrun, Result.andThen_ok, Sem.run_pure]
    exact h _ (setRow_heap w g old cs e _ hb) ⟨rfl, rfl, rfl, by simp, fun k hk => setRow_other w g k _ hk⟩ (by simp)
theorem step_store_agg {K : Act → World → Prop} {E : Prop} (hgd : o.guard = none) {p x : Operand} (ho : o.op = .store T p x) {g : Nat} (hp : a.eval p = .pointer (some ⟨g, 0, none⟩)) {cs : Array Value} (hx : a.eval x = .agg cs)
    {e : TypeId} {old : Array Value} (hb : Blk w g e old) (hs : old.size = cs.size) (h1 : ∀ u ∈ cs.toList, u.oneCell' = true) (hi : (P.info? T).map (·.size) = some cs.size)
    (h : ∀ w', Blk w' g e cs → Frm (· = g) w w' → w'.heap.size = w.heap.size → K (a.put o.dst undef) w') : if Region.wanted o (yielded ops a.tmps) = true then Oper.wp P o a w K Q else E := by
  rw [if_pos (by simp [Region.wanted, hgd])]
  exact wp_store_agg ho hp hx hb hs h1 hi h
theorem results_agg2 {T2 : TypeId} {n2 : Nat} (E : Agg P T n) (E2 : Agg P T2 n2) {fn : Func} {p p2 : Tmp} (h : fn.results = #[.cell p T, .cell p2 T2]) {tmps : Array Value} {g g2 : Nat} {t t2 : TypeId} {cs cs2 : Array Value}
    (hp : tmps.getD p undef = .pointer (some ⟨g, 0, none⟩)) (hb : Blk w g t cs) (hn : cs.size = n) (hp2 : tmps.getD p2 undef = .pointer (some ⟨g2, 0, none⟩)) (hb2 : Blk w g2 t2 cs2) (hn2 : cs2.size = n2) :
    (results fn tmps).run P w = .ok (.tuple #[.agg cs, .agg cs2]) w := by
  obtain ⟨d, hu, hd⟩ := E.under
  obtain ⟨d2, hu2, hd2⟩ := E2.under
  have hp' : tmps[p]?.getD undef = .pointer (some ⟨g, 0, none⟩) := by simpa using hp
  have hp2' : tmps[p2]?.getD undef = .pointer (some ⟨g2, 0, none⟩) := by simpa using hp2
  simp [results, h, hp', hp2', asAddr, run_loadVar_row w g t T cs (0, 0) d hb hu (by cases d <;> first | rfl | cases hd) (by rw [E.size, hn]), run_loadVar_row w g2 t2 T2 cs2 (0, 0) d2 hb2 hu2 (by cases d2 <;> first | rfl | cases hd2) (by rw [E2.size, hn2])]
end
end Go.Proofs.Ytdgggjeiflllhaa.M
namespace Go.Proofs.Ytdgggjeiflllhaa.M
open Go.ChangeShapes Go.WideShapes Go.ChangeAt Go.RowKit
section
variable {P : Program} {ops : Array Oper} {rest : List Oper} {o : Oper} {a : Act} {Q : Exit → Act → World → Prop} {w : World}
theorem wpList_make (hgd : o.guard = none) {t e : TypeId} (ht : P.underlying t = some (.slice e)) {i : TypeInfo} {z : Value} (hi : P.info? e = some i) (hz : i.zero = some z) {l c : Operand} (ho : o.op = .makeSlice t l c)
    {k1 k2 : IntKind} {m : Nat} (hl : a.eval l = .int k1 (m : Int)) (hc : a.eval c = .int k2 (m : Int)) (hb : i.bytes * m ≤ 281474976710656) (hm : m ≤ maxLen)
    (h : ∀ w', Blk w' w.heap.size e (madeCells z.cells (m * i.size)) → Frm (New w) w w' → w'.heap.size = w.heap.size + 1 → wpList P ops Q rest (a.put o.dst (.slice (some ⟨w.heap.size, 0, none⟩) m m)) w') : wpList P ops Q (o :: rest) a w := by
  refine wpList_run hgd (v := .slice (some ⟨w.heap.size, 0, none⟩) m m) (w' := w.alloc (.cells (madeCells z.cells (m * i.size)) e)) ?_ (h _ (Blk.new w e _) ((Frm.refl _ _).alloc Up.new _) (by simp))
  have h63' : (m : Int) ≤ 9223372036854775807 := by
    have h := hm
    simp only [maxLen] at h
    omega
  have hb' : (i.bytes : Int) * (m : Int) ≤ 281474976710656 := by
    have h : ((i.bytes * m : Nat) : Int) ≤ 281474976710656 := by omega
    rwa [Int.natCast_mul] at h
  have hr := run_make (P := P) w t e i z ht hi hz k1 k2 m m (by omega) (Int.le_refl _) hb' h63'
  simp only [Int.toNat_natCast] at hr
  unfold execOp
  simp only [ho, hl, hc, Sem.run_bind, hr, Result.andThen_ok, Sem.run_pure]
theorem step_append {M : Nat → Prop} {t e : TypeId} {size bytes : Nat} {K : Act → World → Prop} {E0 : Prop} (E : Elem P t e size bytes) (hgd : o.guard = none) {s x : Operand} (ho : o.op = .call { callee := .builtin .append, args := #[s, x], argTypes := #[t, t] })
    {A : Option Addr} {n c : Nat} {xs : List Value} (hs : a.eval s = .slice A n c) (hA : App M w e size A n c xs) (hu : Up M w)
    {B : Option Addr} {m d : Nat} {news : List Value} (hx : a.eval x = .slice B m d) (hB : Rd w B news) (hl : news.length = m * size) (h1 : ∀ u ∈ news, u.oneCell' = true) (hbytes : (n + m) * bytes ≤ 140737488355328)
    (h : ∀ A' c' w', App M w' e size A' (n + m) c' (xs ++ news) → Frm M w w' → Frm (Wr A n c w) w w' → K (a.put o.dst (.slice A' (n + m) c')) w') :
    if Region.wanted o (yielded ops a.tmps) = true then Oper.wp P o a w K Q else E0 := by
  rw [if_pos (by simp [Region.wanted, hgd])]
  obtain ⟨A', c', w', hr, h2, h3, h4, h5⟩ := run_append_slice E w o.type hA hu hB hl h1 hbytes (d := d)
  unfold Oper.wp execOp
  simp only [ho, resolve, invoke, builtin, Sem.run_bind, Sem.run_pure, Result.andThen_ok, List.map_toArray, List.map_cons, List.map_nil, hs, hx, hr]
  exact h _ _ _ h2 h3 h5
end
end Go.Proofs.Ytdgggjeiflllhaa.M
namespace Go.Proofs.Ytdgggjeiflllhaa.M
open Go.ChangeShapes Go.WideShapes Go.ChangeAt Go.RowKit
section
variable {P : Program} {t e : TypeId} {size bytes : Nat} {o : Oper} {a : Act} {w : World} {A : Option Addr} {n c i j : Nat} {x lo hi : Operand} {k1 k2 : IntKind} {u v : Int}
theorem run_fromG (E : Elem P t e size bytes) (ho : o.op = .slice t x (some lo) none none) (hx : a.eval x = .slice A n c) (hlo : a.eval lo = .int k1 u) (hu : u = (i : Int)) (hin : i ≤ n) :
    (execOp a.eval o).run P w = .ok (.value (.slice (if c = i then A else A.map (·.add (i * size))) (n - i) (c - i))) w := by
  subst hu
  obtain ⟨q, z, hi, hz, hs, hb, hzs⟩ := E.info
  unfold execOp
  have h3 : (0 : Int) ≤ (i : Int) := by omega
  simp only [ho, Option.map_some, Option.map_none, hlo, hx]
  simp [Instr.sliceAt, Instr.slice, Instr.sliceBounds, Instr.sliceBound, run_underlying E.ht, sizeOf, typeInfo, hi, hs, asIntOf, h3, hin]
theorem run_fromE {A2 : Option Addr} {n2 c2 : Nat} (E : Elem P t e size bytes) (hA : (if c = i then A else A.map (·.add (i * size))) = A2) (hn : n - i = n2) (hc : c - i = c2) (ho : o.op = .slice t x (some lo) none none) (hx : a.eval x = .slice A n c) (hlo : a.eval lo = .int k1 u) (hu : u = (i : Int)) (hin : i ≤ n) :
    (execOp a.eval o).run P w = .ok (.value (.slice A2 n2 c2)) w := by
  subst hA hn hc
  exact run_fromG E ho hx hlo hu hin
end
theorem cut_none {A : Option Addr} {c i k : Nat} (h : (if c = i then A else A.map (·.add k)) = none) : A = none := by
  split at h
  · exact h
  · simpa using h
theorem cut_blk {A : Option Addr} {c i k : Nat} : blk (if c = i then A else A.map (·.add k)) = blk A := by
  split
  · rfl
  · cases A with
    | none => rfl
    | some a => simp [blk]; unfold Addr.add; split <;> rfl
theorem cut_rd {w : World} {A : Option Addr} {xs : List Value} (h : Rd w A xs) {c k n : Nat} (hn : xs.length ≤ n * k) (hc : n ≤ c) (i : Nat) : Rd w (if c = i then A else A.map (·.add (i * k))) (xs.drop (i * k)) := fun j u hu => by
  rw [List.getElem?_drop] at hu
  obtain ⟨g, off, rfl, hcell⟩ := h _ u hu
  by_cases e : c = i
  · have h1 : i * k + j < xs.length := (List.getElem?_eq_some_iff.1 hu).1
    have h2 : n * k ≤ i * k := Nat.mul_le_mul_right _ (by omega)
    omega
  · rw [if_neg e]
    exact ⟨g, off + i * k, by simp [Addr.add_lit], by rw [Nat.add_assoc]; exact hcell⟩
theorem App.from_ {M : Nat → Prop} {w : World} {e size n c : Nat} {A : Option Addr} {xs : List Value} (h : App M w e size A n c xs) (i : Nat) (hi : i ≤ n) :
    App M w e size (if c = i then A else A.map (·.add (i * size))) (n - i) (c - i) (xs.drop (i * size)) := by
  have hc := h.cap
  have hm := h.max
  refine ⟨by rw [List.length_drop, h.len, Nat.sub_mul], by omega, by omega, fun hA => ?_, cut_rd h.rd (by rw [h.len]; omega) hc i, fun k hk => ?_, fun hn => ?_⟩
  · have := h.nil_ (cut_none hA)
    omega
  · rw [cut_blk] at hk
    exact h.inM k hk
  · obtain ⟨g, off, cur, rfl, b, d, f⟩ := h.own (by omega)
    rw [if_neg (by omega)]
    refine ⟨g, off + i * size, cur, by simp [Addr.add_lit], b, ?_, f⟩
    have : (c - i) * size = c * size - i * size := Nat.sub_mul ..
    have h2 : i * size ≤ c * size := Nat.mul_le_mul_right _ (by omega)
    omega
theorem App.here {M : Nat → Prop} {w : World} {e size n c : Nat} {A : Option Addr} {xs : List Value} (h : App M w e size A n c xs) (hx : xs ≠ []) : App (fun k => M k ∧ k < w.heap.size) w e size A n c xs := by
  obtain ⟨g, off, rfl, hg⟩ := h.rd.lt hx
  exact { h with
    inM := fun k hk => ⟨h.inM k hk, by cases hk; exact hg⟩
    own := fun hn => by
      obtain ⟨g', off', cur, e1, b, d, f⟩ := h.own hn
      cases e1
      exact ⟨g, off, cur, rfl, b, d, f, hg⟩ }
theorem step_append2 {P : Program} {ops : Array Oper} {o : Oper} {a : Act} {Q : Exit → Act → World → Prop} {w : World} {M : Nat → Prop} {t e : TypeId} {size bytes : Nat} {K : Act → World → Prop} {E0 : Prop} (E : Elem P t e size bytes) (hgd : o.guard = none) {s x : Operand} (ho : o.op = .call { callee := .builtin .append, args := #[s, x], argTypes := #[t, t] })
    {A : Option Addr} {n c : Nat} {xs : List Value} (hs : a.eval s = .slice A n c) (hA : App M w e size A n c xs) (hu : Up M w)
    {B : Option Addr} {m d : Nat} {news : List Value} (hx : a.eval x = .slice B m d) (hB : Rd w B news) (hl : news.length = m * size) (h1 : ∀ u ∈ news, u.oneCell' = true) (hbytes : (n + m) * bytes ≤ 140737488355328)
    (h : ∀ A' c' w', App M w' e size A' (n + m) c' (xs ++ news) → Frm M w w' → ((blk A' = blk A ∧ c' = c) ∨ (blk A' = some w.heap.size ∧ 0 < m)) → Frm (Wr A n c w) w w' → K (a.put o.dst (.slice A' (n + m) c')) w') :
    if Region.wanted o (yielded ops a.tmps) = true then Oper.wp P o a w K Q else E0 := by
  rw [if_pos (by simp [Region.wanted, hgd])]
  obtain ⟨A', c', w', hr, h2, h3, h4, h5⟩ := run_append_slice E w o.type hA hu hB hl h1 hbytes (d := d)
  unfold Oper.wp execOp
  simp only [ho, resolve, invoke, builtin, Sem.run_bind, Sem.run_pure, Result.andThen_ok, List.map_toArray, List.map_cons, List.map_nil, hs, hx, hr]
  exact h _ _ _ h2 h3 h4 h5
end Go.Proofs.Ytdgggjeiflllhaa.M

