/- Words for memory, over any program: a slice that is made with a length. No condition. -/
import Derived.Test.YtpojejdddgdjdaaGreatDoorArr
import Derived.Laws.MakeOwn
namespace Go.Proofs.YtpojejdddgdjdaaGreatDoor.M
open Go.ChangeShapes Go.WideShapes Go.ChangeAt Go.RowKit
section
variable {P : Program} {ops : Array Oper} {rest : List Oper} {o : Oper} {a : Act} {Q : Exit → Act → World → Prop} {w : World}

/-- make([]T, n) -/
theorem wpList_make (hgd : o.guard = none) {t e : TypeId} (ht : P.underlying t = some (.slice e)) {i : TypeInfo} {z : Value} (hi : P.info? e = some i) (hz : i.zero = some z) {l c : Operand} (ho : o.op = .makeSlice t l c)
    {k1 k2 : IntKind} {m : Nat} (hl : a.eval l = .int k1 (m : Int)) (hc : a.eval c = .int k2 (m : Int)) (hb : i.bytes * m ≤ 281474976710656) (hm : m ≤ maxLen)
    (h : ∀ w', Blk w' w.heap.size e (madeCells z.cells (m * i.size)) → Frm (New w) w w' → w'.heap.size = w.heap.size + 1 → wpList P ops Q rest (a.put o.dst (.slice (some ⟨w.heap.size, 0, none⟩) m m)) w') : wpList P ops Q (o :: rest) a w := by
  refine wpList_run hgd (v := .slice (some ⟨w.heap.size, 0, none⟩) m m) (w' := w.alloc (.cells (madeCells z.cells (m * i.size)) e)) ?_ (h _ (Blk.new w e _) ((Frm.refl _ _).alloc Up.new _) (by simp))
  have h63' : (m : Int) ≤ 9223372036854775807 := by
    have h := hm
    simp only [maxLen] at h
    omega
  have hb' : (i.bytes : Int) * (m : Int) ≤ 281474976710656 := by
    have h : ((i.bytes * m : Nat) : Int) ≤ 281474976710656 := by omega
    rwa [Int.natCast_mul] at h
  have hr := run_make (P := P) w t e i z ht hi hz k1 k2 m m (by omega) (Int.le_refl _) hb' h63'
  simp only [Int.toNat_natCast] at hr
  unfold execOp
  simp only [ho, hl, hc, Sem.run_bind, hr, Result.andThen_ok, Sem.run_pure]


/-- append as one step of a region that draws its order -/
theorem step_append {M : Nat → Prop} {t e : TypeId} {size bytes : Nat} {K : Act → World → Prop} {E0 : Prop} (E : Elem P t e size bytes) (hgd : o.guard = none) {s x : Operand} (ho : o.op = .call { callee := .builtin .append, args := #[s, x], argTypes := #[t, t] })
    {A : Option Addr} {n c : Nat} {xs : List Value} (hs : a.eval s = .slice A n c) (hA : App M w e size A n c xs) (hu : Up M w)
    {B : Option Addr} {m d : Nat} {news : List Value} (hx : a.eval x = .slice B m d) (hB : Rd w B news) (hl : news.length = m * size) (h1 : ∀ u ∈ news, u.oneCell' = true) (hbytes : (n + m) * bytes ≤ 140737488355328)
    (h : ∀ A' c' w', App M w' e size A' (n + m) c' (xs ++ news) → Frm M w w' → Frm (Wr A n c w) w w' → K (a.put o.dst (.slice A' (n + m) c')) w') :
    if Region.wanted o (yielded ops a.tmps) = true then Oper.wp P o a w K Q else E0 := by
  rw [if_pos (by simp [Region.wanted, hgd])]
  obtain ⟨A', c', w', hr, h2, h3, h4, h5⟩ := run_append_slice E w o.type hA hu hB hl h1 hbytes (d := d)
  unfold Oper.wp execOp
  simp only [ho, resolve, invoke, builtin, Sem.run_bind, Sem.run_pure, Result.andThen_ok, List.map_toArray, List.map_cons, List.map_nil, hs, hx, hr]
  exact h _ _ _ h2 h3 h5
end
end Go.Proofs.YtpojejdddgdjdaaGreatDoor.M
