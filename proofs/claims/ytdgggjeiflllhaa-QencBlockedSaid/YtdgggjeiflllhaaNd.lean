/- qenc: a section under way, in memory; use. -/
import Derived.BigQuiet
import Derived.Deep.CutBlock
import Derived.Lib.Hide
import Derived.IntWalk
import Derived.Test.YtdgggjeiflllhaaNc
import Derived.Test.YtdgggjeiflllhaaMem
namespace Go.Proofs.Ytdgggjeiflllhaa.M
open Go.ChangeShapes Go.WideShapes Go.ChangeAt Go.RowKit

/-- a line's cells -/
def lqC (x : Lq) : List Value := [.string ⟨x.f.1.toArray⟩, .string ⟨x.f.2.toArray⟩, .int .u64 (x.i : Int), .bool (decide (x.kind = 1)), .bool (decide (x.kind ≤ 1)), .bool (decide (x.kind = 2))]
def lqs (l : List Lq) : List Value := l.flatMap lqC
theorem lqs_len (l : List Lq) : (lqs l).length = l.length * 6 := by
  induction l with
  | nil => rfl
  | cons x r ih => unfold lqs at ih ⊢; rw [List.flatMap_cons, List.length_append, ih]; simp [lqC]; omega
theorem lqs_append (l k : List Lq) : lqs (l ++ k) = lqs l ++ lqs k := by unfold lqs; rw [List.flatMap_append]
theorem lnsE : Elem Try.prog 85 90 6 48 :=
  ⟨by kernel_rfl, by
    have h : (Try.prog.info? 90).map (fun i => (i.zero, i.size, i.bytes)) = some (some (.agg #[.string ⟨#[]⟩, .string ⟨#[]⟩, .int .u64 0, .bool false, .bool false, .bool false]), 6, 48) := by kernel_rfl
    obtain ⟨i, hi, hz, hs, hb⟩ := info_parts h
    exact ⟨i, _, hi, hz, hs, hb, rfl⟩, by omega, by omega⟩
/-- a section under way, its blocks in Y -/
structure WqM (Y : Nat → Prop) (w : World) (pw pe s mu : Nat) (ments : List (Nat × Value)) (Ao : Option Addr) (co : Nat) (Al : Option Addr) (cl : Nat) (Wr : Wq) : Prop where
  blk : Blk w pw 87 #[.pointer (some ⟨pe, 0, none⟩), .int .u64 (s : Int), .int .u64 (Wr.count : Int), .map (some mu), .slice Ao Wr.out.length co, .slice Al Wr.lines.length cl]
  use_ : UseM w mu Wr.uses ments
  out : Rd w Ao (bvs Wr.out)
  oc : Wr.out.length ≤ co
  lines : App Y w 90 6 Al Wr.lines.length cl (lqs Wr.lines)
  low : ∀ k, Y k → k < w.heap.size
  yp : Y pw
  ym : Y mu
  yo : ∀ k, M.blk Ao = some k → Y k
  pm : pw ≠ mu
  lp : ∀ k, M.blk Al = some k → k ≠ pw ∧ k ≠ mu
  op : ∀ k, M.blk Ao = some k → k ≠ pw ∧ k ≠ mu ∧ M.blk Al ≠ some k
  ll : Wr.lines.length ≤ 1048576
  ol : Wr.out.length ≤ 1099511627776
  ct : Wr.count ≤ 1152921504606846976
  ul : Wr.uses.length ≤ 1048576
section
variable {Y : Nat → Prop} {w w' : World} {pw pe s mu co cl : Nat} {ments : List (Nat × Value)} {Ao Al : Option Addr} {Wr : Wq}
theorem WqM.keep {N : Nat → Prop} (h : WqM Y w pw pe s mu ments Ao co Al cl Wr) (f : Frm N w w') (hN : ∀ k, Y k → ¬ N k) : WqM Y w' pw pe s mu ments Ao co Al cl Wr :=
  { h with
    blk := h.blk.keep f (hN _ h.yp)
    use_ := { h.use_ with map := h.use_.map.keep f (hN _ h.ym) }
    out := h.out.keep f (fun k hk => hN k (h.yo k hk))
    lines := h.lines.keep f (fun k hk => hN k (h.lines.inM k hk))
    low := fun k hk => Nat.lt_of_lt_of_le (h.low k hk) f.size }
theorem WqM.fresh (h : WqM Y w pw pe s mu ments Ao co Al cl Wr) (f : Frm (New w) w w') : WqM Y w' pw pe s mu ments Ao co Al cl Wr :=
  h.keep f (fun k hk e => by have := h.low k hk; unfold New at e; omega)
end
end Go.Proofs.Ytdgggjeiflllhaa.M
