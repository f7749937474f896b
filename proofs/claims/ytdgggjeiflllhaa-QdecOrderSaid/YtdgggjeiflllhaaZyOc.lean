/- Oc -/
import Derived.BigQuiet
import Derived.Deep.CutBlock
import Derived.Lib.Hide
import Derived.IntWalk
import Derived.Test.YtdgggjeiflllhaaZyOm
import Derived.Test.YtdgggjeiflllhaaZyNj
import Derived.Test.YtdgggjeiflllhaaZyRnum
import Derived.Test.YtdgggjeiflllhaaZyQps
import Derived.Test.YtdgggjeiflllhaaZyCap
import Derived.Test.YtdgggjeiflllhaaZyArr

namespace Go.Proofs.Ytdgggjeiflllhaa.M
open Go.ChangeShapes Go.WideShapes Go.ChangeAt Go.RowKit
def olC1 (x : Lq) : List Value := [.int .i64 (x.kind : Int), .int .u64 ((if x.kind = 3 then 0 else x.i : Nat) : Int), .string ⟨x.f.1.toArray⟩, .string ⟨x.f.2.toArray⟩]
def olC (l : List Lq) : List Value := l.flatMap olC1
theorem olC_len (l : List Lq) : (olC l).length = l.length * 4 := by
  induction l with
  | nil => rfl
  | cons x r ih => unfold olC at ih ⊢; rw [List.flatMap_cons, List.length_append, ih]; simp [olC1]; omega
theorem olC_append (l k : List Lq) : olC (l ++ k) = olC l ++ olC k := by unfold olC; rw [List.flatMap_append]
theorem nmC_append (l k : List Nat) : nmC (l ++ k) = nmC l ++ nmC k := by unfold nmC; rw [List.map_append]
theorem olE : Elem Try.prog 105 109 4 48 :=
  ⟨by kernel_rfl, by
    have h : (Try.prog.info? 109).map (fun i => (i.zero, i.size, i.bytes)) = some (some (.agg #[.int .i64 0, .int .u64 0, .string ⟨#[]⟩, .string ⟨#[]⟩]), 4, 48) := by kernel_rfl
    obtain ⟨i, hi, hz, hs, hb⟩ := info_parts h
    exact ⟨i, _, hi, hz, hs, hb, rfl⟩, by omega, by omega⟩
theorem nmE : Elem Try.prog 78 32 1 8 :=
  ⟨by kernel_rfl, by
    have h : (Try.prog.info? 32).map (fun i => (i.zero, i.size, i.bytes)) = some (some (.int .u64 0), 1, 8) := by kernel_rfl
    obtain ⟨i, hi, hz, hs, hb⟩ := info_parts h
    exact ⟨i, _, hi, hz, hs, hb, rfl⟩, by omega, by omega⟩
structure OwM (w0 w : World) (X : Nat → Prop) (A8 : Option Addr) (c8 : Nat) (A12 : Option Addr) (c12 : Nat) (A14 : Option Addr) (c14 : Nat) (Wr : Wq) : Prop where
  ins : App (fun _ => True) w 5 1 A8 Wr.out.length c8 (bvs Wr.out)
  use_ : App (fun _ => True) w 32 1 A12 Wr.uses.length c12 (nmC Wr.uses)
  all : App (fun _ => True) w 109 4 A14 Wr.lines.length c14 (olC Wr.lines)
  d8 : ∀ k, M.blk A8 = some k → w0.heap.size ≤ k ∧ k < w.heap.size ∧ ¬ X k ∧ M.blk A12 ≠ some k ∧ M.blk A14 ≠ some k
  d12 : ∀ k, M.blk A12 = some k → w0.heap.size ≤ k ∧ k < w.heap.size ∧ ¬ X k ∧ M.blk A8 ≠ some k ∧ M.blk A14 ≠ some k
  d14 : ∀ k, M.blk A14 = some k → w0.heap.size ≤ k ∧ k < w.heap.size ∧ ¬ X k ∧ M.blk A8 ≠ some k ∧ M.blk A12 ≠ some k
  lx : ∀ k, X k → k < w.heap.size
  lw : w0.heap.size ≤ w.heap.size
section
variable {w0 w w' : World} {X S2 : Nat → Prop} {A8 A12 A14 A' : Option Addr} {c8 c12 c14 c' : Nat} {Wr : Wq} {N : Nat → Prop}
theorem OwM.keep (h : OwM w0 w X A8 c8 A12 c12 A14 c14 Wr) (f : Frm N w w') (h8 : ∀ k, M.blk A8 = some k → ¬ N k) (h12 : ∀ k, M.blk A12 = some k → ¬ N k) (h14 : ∀ k, M.blk A14 = some k → ¬ N k) : OwM w0 w' X A8 c8 A12 c12 A14 c14 Wr :=
  { ins := h.ins.keep f h8, use_ := h.use_.keep f h12, all := h.all.keep f h14
    d8 := fun k hk => ⟨(h.d8 k hk).1, Nat.lt_of_lt_of_le (h.d8 k hk).2.1 f.size, (h.d8 k hk).2.2⟩
    d12 := fun k hk => ⟨(h.d12 k hk).1, Nat.lt_of_lt_of_le (h.d12 k hk).2.1 f.size, (h.d12 k hk).2.2⟩
    d14 := fun k hk => ⟨(h.d14 k hk).1, Nat.lt_of_lt_of_le (h.d14 k hk).2.1 f.size, (h.d14 k hk).2.2⟩
    lx := fun k hk => Nat.lt_of_lt_of_le (h.lx k hk) f.size
    lw := Nat.le_trans h.lw f.size }
theorem OwM.fresh (h : OwM w0 w X A8 c8 A12 c12 A14 c14 Wr) (f : Frm (New w) w w') : OwM w0 w' X A8 c8 A12 c12 A14 c14 Wr :=
  h.keep f (fun k hk e => by have := (h.d8 k hk).2.1; unfold New at e; omega) (fun k hk e => by have := (h.d12 k hk).2.1; unfold New at e; omega) (fun k hk e => by have := (h.d14 k hk).2.1; unfold New at e; omega)
theorem OwM.line (h : OwM w0 w X A8 c8 A12 c12 A14 c14 Wr) (x : Lq) (hA : App (fun k => M.blk A14 = some k ∨ New w k) w' 109 4 A' (Wr.lines.length + 1) c' (olC (Wr.lines ++ [x]))) (f : Frm (fun k => M.blk A14 = some k ∨ New w k) w w') : OwM w0 w' X A8 c8 A12 c12 A' c' { Wr with lines := Wr.lines ++ [x] } := by
  have hn : ∀ k, k < w.heap.size → M.blk A14 ≠ some k → ¬ (M.blk A14 = some k ∨ New w k) := fun k hk hne e => by
    rcases e with e | e
    · exact hne e
    · unfold New at e; omega
  have hlt := app_lt hA (by intro e; have := congrArg List.length e; rw [olC_len] at this; simp at this)
  have hA' : ∀ k, M.blk A' = some k → w0.heap.size ≤ k ∧ ¬ X k ∧ M.blk A8 ≠ some k ∧ M.blk A12 ≠ some k := fun k hk => by
    rcases hA.inM k hk with e | e
    · have := h.d14 k e; exact ⟨this.1, this.2.2⟩
    · have e : w.heap.size ≤ k := e
      have := h.lw
      exact ⟨by omega, fun q => by have := h.lx k q; omega, fun q => by have := (h.d8 k q).2.1; omega, fun q => by have := (h.d12 k q).2.1; omega⟩
  exact { ins := h.ins.keep f (fun k hk => hn k (h.d8 k hk).2.1 (h.d8 k hk).2.2.2.2)
          use_ := h.use_.keep f (fun k hk => hn k (h.d12 k hk).2.1 (h.d12 k hk).2.2.2.2)
          all := by
            have hl : (Wr.lines ++ [x]).length = Wr.lines.length + 1 := by simp
            show App _ _ _ 4 A' (Wr.lines ++ [x]).length c' _
            rw [hl]
            exact hA.mono (fun _ _ => trivial)
          d8 := fun k hk => ⟨(h.d8 k hk).1, Nat.lt_of_lt_of_le (h.d8 k hk).2.1 f.size, (h.d8 k hk).2.2.1, (h.d8 k hk).2.2.2.1, fun q => (hA' k q).2.2.1 hk⟩
          d12 := fun k hk => ⟨(h.d12 k hk).1, Nat.lt_of_lt_of_le (h.d12 k hk).2.1 f.size, (h.d12 k hk).2.2.1, (h.d12 k hk).2.2.2.1, fun q => (hA' k q).2.2.2 hk⟩
          d14 := fun k hk => ⟨(hA' k hk).1, hlt k hk, (hA' k hk).2⟩
          lx := fun k hk => Nat.lt_of_lt_of_le (h.lx k hk) f.size
          lw := Nat.le_trans h.lw f.size }
theorem OwM.useq (h : OwM w0 w X A8 c8 A12 c12 A14 c14 Wr) (p ct : Nat) (hA : App (fun k => M.blk A12 = some k ∨ New w k) w' 32 1 A' (Wr.uses.length + 1) c' (nmC (Wr.uses ++ [p]))) (f : Frm (fun k => M.blk A12 = some k ∨ New w k) w w') : OwM w0 w' X A8 c8 A' c' A14 c14 { Wr with uses := Wr.uses ++ [p], count := ct } := by
  have hn : ∀ k, k < w.heap.size → M.blk A12 ≠ some k → ¬ (M.blk A12 = some k ∨ New w k) := fun k hk hne e => by
    rcases e with e | e
    · exact hne e
    · unfold New at e; omega
  have hlt := app_lt hA (by intro e; have := congrArg List.length e; rw [nmC_len] at this; simp at this)
  have hA' : ∀ k, M.blk A' = some k → w0.heap.size ≤ k ∧ ¬ X k ∧ M.blk A8 ≠ some k ∧ M.blk A14 ≠ some k := fun k hk => by
    rcases hA.inM k hk with e | e
    · have := h.d12 k e; exact ⟨this.1, this.2.2⟩
    · have e : w.heap.size ≤ k := e
      have := h.lw
      exact ⟨by omega, fun q => by have := h.lx k q; omega, fun q => by have := (h.d8 k q).2.1; omega, fun q => by have := (h.d14 k q).2.1; omega⟩
  exact { ins := h.ins.keep f (fun k hk => hn k (h.d8 k hk).2.1 (h.d8 k hk).2.2.2.1)
          all := h.all.keep f (fun k hk => hn k (h.d14 k hk).2.1 (h.d14 k hk).2.2.2.2)
          use_ := by
            have hl : (Wr.uses ++ [p]).length = Wr.uses.length + 1 := by simp
            show App _ _ _ 1 A' (Wr.uses ++ [p]).length c' _
            rw [hl]
            exact hA.mono (fun _ _ => trivial)
          d8 := fun k hk => ⟨(h.d8 k hk).1, Nat.lt_of_lt_of_le (h.d8 k hk).2.1 f.size, (h.d8 k hk).2.2.1, fun q => (hA' k q).2.2.1 hk, (h.d8 k hk).2.2.2.2⟩
          d14 := fun k hk => ⟨(h.d14 k hk).1, Nat.lt_of_lt_of_le (h.d14 k hk).2.1 f.size, (h.d14 k hk).2.2.1, (h.d14 k hk).2.2.2.1, fun q => (hA' k q).2.2.2 hk⟩
          d12 := fun k hk => ⟨(hA' k hk).1, hlt k hk, (hA' k hk).2⟩
          lx := fun k hk => Nat.lt_of_lt_of_le (h.lx k hk) f.size
          lw := Nat.le_trans h.lw f.size }
theorem OwM.outq (h : OwM w0 w X A8 c8 A12 c12 A14 c14 Wr) {o : Bytes} (hne : o ≠ []) (hA : App (fun k => M.blk A8 = some k ∨ New w k) w' 5 1 A' o.length c' (bvs o)) (f : Frm (fun k => M.blk A8 = some k ∨ New w k) w w') : OwM w0 w' X A' c' A12 c12 A14 c14 { Wr with out := o } := by
  have hn : ∀ k, k < w.heap.size → M.blk A8 ≠ some k → ¬ (M.blk A8 = some k ∨ New w k) := fun k hk hne e => by
    rcases e with e | e
    · exact hne e
    · unfold New at e; omega
  have hlt := app_lt hA (by cases o with | nil => exact absurd rfl hne | cons x t => simp [bvs])
  have hA' : ∀ k, M.blk A' = some k → w0.heap.size ≤ k ∧ ¬ X k ∧ M.blk A12 ≠ some k ∧ M.blk A14 ≠ some k := fun k hk => by
    rcases hA.inM k hk with e | e
    · have := h.d8 k e; exact ⟨this.1, this.2.2⟩
    · have e : w.heap.size ≤ k := e
      have := h.lw
      exact ⟨by omega, fun q => by have := h.lx k q; omega, fun q => by have := (h.d12 k q).2.1; omega, fun q => by have := (h.d14 k q).2.1; omega⟩
  exact { use_ := h.use_.keep f (fun k hk => hn k (h.d12 k hk).2.1 (h.d12 k hk).2.2.2.1)
          all := h.all.keep f (fun k hk => hn k (h.d14 k hk).2.1 (h.d14 k hk).2.2.2.1)
          ins := hA.mono (fun _ _ => trivial)
          d12 := fun k hk => ⟨(h.d12 k hk).1, Nat.lt_of_lt_of_le (h.d12 k hk).2.1 f.size, (h.d12 k hk).2.2.1, fun q => (hA' k q).2.2.1 hk, (h.d12 k hk).2.2.2.2⟩
          d14 := fun k hk => ⟨(h.d14 k hk).1, Nat.lt_of_lt_of_le (h.d14 k hk).2.1 f.size, (h.d14 k hk).2.2.1, fun q => (hA' k q).2.2.2 hk, (h.d14 k hk).2.2.2.2⟩
          d8 := fun k hk => ⟨(hA' k hk).1, hlt k hk, (hA' k hk).2⟩
          lx := fun k hk => Nat.lt_of_lt_of_le (h.lx k hk) f.size
          lw := Nat.le_trans h.lw f.size }
theorem OwM.tabq (h : OwM w0 w X A8 c8 A12 c12 A14 c14 Wr) {S : Nat → Prop} {g : Nat} (hg : X g) (hS : ∀ k, S k → X k) (f : Frm (fun k => k = g ∨ New w k) w w') (hS2 : ∀ k, S2 k → Own S w k ∧ k < w'.heap.size) (T : Tb) : OwM w0 w' (fun k => X k ∨ S2 k) A8 c8 A12 c12 A14 c14 { Wr with t := T } := by
  have hn : ∀ k, k < w.heap.size → ¬ X k → ¬ (k = g ∨ New w k) := fun k hk hne e => by
    rcases e with e | e
    · exact hne (e ▸ hg)
    · unfold New at e; omega
  have h2 : ∀ k, k < w.heap.size → ¬ X k → ¬ (X k ∨ S2 k) := fun k hk hne e => by
    rcases e with e | e
    · exact hne e
    · rcases (hS2 k e).1 with e | e
      · exact hne (hS k e)
      · have e : w.heap.size ≤ k := e; omega
  exact { ins := h.ins.keep f (fun k hk => hn k (h.d8 k hk).2.1 (h.d8 k hk).2.2.1)
          use_ := h.use_.keep f (fun k hk => hn k (h.d12 k hk).2.1 (h.d12 k hk).2.2.1)
          all := h.all.keep f (fun k hk => hn k (h.d14 k hk).2.1 (h.d14 k hk).2.2.1)
          d8 := fun k hk => ⟨(h.d8 k hk).1, Nat.lt_of_lt_of_le (h.d8 k hk).2.1 f.size, h2 k (h.d8 k hk).2.1 (h.d8 k hk).2.2.1, (h.d8 k hk).2.2.2⟩
          d12 := fun k hk => ⟨(h.d12 k hk).1, Nat.lt_of_lt_of_le (h.d12 k hk).2.1 f.size, h2 k (h.d12 k hk).2.1 (h.d12 k hk).2.2.1, (h.d12 k hk).2.2.2⟩
          d14 := fun k hk => ⟨(h.d14 k hk).1, Nat.lt_of_lt_of_le (h.d14 k hk).2.1 f.size, h2 k (h.d14 k hk).2.1 (h.d14 k hk).2.2.1, (h.d14 k hk).2.2.2⟩
          lx := fun k hk => by
            rcases hk with hk | hk
            · exact Nat.lt_of_lt_of_le (h.lx k hk) f.size
            · exact (hS2 k hk).2
          lw := Nat.le_trans h.lw f.size }
end
section
variable {X S S2 : Nat → Prop} {w w' : World} {pe g co cr : Nat} {Ao Ar : Option Addr} {l : List Ou} {E : Qn} {T : Tb}
theorem OnM.sett (h : OnM X w pe g S Ao co l Ar cr E) (hT : RTabS S2 w' g T) (f : Frm (fun k => k = g ∨ New w k) w w') (hS : ∀ k, S2 k → Own S w k) (ok : T.Ok) (cap : T.cap ≤ 4096) (nb : T.n ≤ 1152921504606846976) (ge : E.t.n ≤ T.n) : OnM (fun k => X k ∨ S2 k) w' pe g S2 Ao co l Ar cr { E with t := T } := by
  have hg : S g := h.tab.sg
  have hno : ∀ k, X k → ¬ S k → ¬ (k = g ∨ New w k) := fun k hx hs e => by
    rcases e with e | e
    · exact hs (e ▸ hg)
    · have := h.low k hx; unfold New at e; omega
  have hns : ∀ k, X k → ¬ S k → ¬ S2 k := fun k hx hs e => by
    rcases hS k e with q | q
    · exact hs q
    · have := h.low k hx; have q : w.heap.size ≤ k := q; omega
  exact {
    blk := h.blk.keep f (hno _ h.xp h.ps)
    tab := hT
    opn := (h.opn.keep f (fun k hk => hno k (h.ro k hk).1 (h.ro k hk).2.1)).mono (fun k hk => .inl hk)
    oc := h.oc, om := h.om, same := h.same
    use_ := fun y hy => ⟨(h.use_ y hy).1.keep f (fun k hk => hno k (h.ru y hy k hk).1 (h.ru y hy k hk).2.1), (h.use_ y hy).2⟩
    rest := (h.rest.keep f (fun k hk => hno k (h.rr k hk).1 (h.rr k hk).2.1)).mono (fun k hk => .inl hk)
    rc := h.rc, rm := h.rm
    low := fun k hk => by
      rcases hk with hk | hk
      · exact Nat.lt_of_lt_of_le (h.low k hk) f.size
      · exact hT.low k hk
    xp := .inl h.xp, xs := fun k hk => .inr hk
    ps := hns _ h.xp h.ps
    ro := fun k hk => ⟨.inl (h.ro k hk).1, hns k (h.ro k hk).1 (h.ro k hk).2.1, (h.ro k hk).2.2⟩
    rr := fun k hk => ⟨.inl (h.rr k hk).1, hns k (h.rr k hk).1 (h.rr k hk).2.1, (h.rr k hk).2.2⟩
    ru := fun y hy k hk => ⟨.inl (h.ru y hy k hk).1, hns k (h.ru y hy k hk).1 (h.ru y hy k hk).2.1, (h.ru y hy k hk).2.2⟩
    ok := ok, cap := cap, nb := nb, kn := Nat.le_trans h.kn ge, ctn := fun o ho => Nat.le_trans (h.ctn o ho) ge, ol := h.ol, bl := h.bl, rl := h.rl }
end
end Go.Proofs.Ytdgggjeiflllhaa.M
namespace Go.Proofs.Ytdgggjeiflllhaa.M
open Go.ChangeShapes Go.WideShapes Go.ChangeAt Go.RowKit
structure OeM (w0 w : World) (X0 X Z : Nat → Prop) (pe g : Nat) (S : Nat → Prop) (Ao : Option Addr) (co : Nat) (ol : List Ou) (Ar : Option Addr) (cr : Nat) (E1 : Qn) (A8 : Option Addr) (c8 : Nat) (A12 : Option Addr) (c12 : Nat) (A14 : Option Addr) (c14 : Nat) (Wr : Wq) : Prop where
  on : OnM X w pe g S Ao co ol Ar cr { E1 with t := Wr.t }
  ow : OwM w0 w X A8 c8 A12 c12 A14 c14 Wr
  zx : ∀ k, Z k → X k ∧ ¬ S k
  frm : Frm (Own X0 w0) w0 w
  sub : ∀ k, X k → Own X0 w0 k
section
variable {w0 w w' : World} {X0 X Z S S2 : Nat → Prop} {pe g co cr c8 c12 c14 c' bx : Nat} {Ao Ar A8 A12 A14 A' : Option Addr} {ol : List Ou} {E1 : Qn} {Wr : Wq}
theorem OnM.more (h : OnM X w pe g S Ao co ol Ar cr E1) {X2 : Nat → Prop} (hs : ∀ k, X k → X2 k) (hl : ∀ k, X2 k → k < w.heap.size) : OnM X2 w pe g S Ao co ol Ar cr E1 :=
  { h with
    opn := h.opn.mono hs, rest := h.rest.mono hs, low := hl, xp := hs _ h.xp, xs := fun k hk => hs k (h.xs k hk)
    ro := fun k hk => ⟨hs k (h.ro k hk).1, (h.ro k hk).2⟩
    rr := fun k hk => ⟨hs k (h.rr k hk).1, (h.rr k hk).2⟩
    ru := fun y hy k hk => ⟨hs k (h.ru y hy k hk).1, (h.ru y hy k hk).2⟩ }
theorem OeM.fresh (h : OeM w0 w X0 X Z pe g S Ao co ol Ar cr E1 A8 c8 A12 c12 A14 c14 Wr) (f : Frm (New w) w w') : OeM w0 w' X0 X Z pe g S Ao co ol Ar cr E1 A8 c8 A12 c12 A14 c14 Wr :=
  { on := h.on.fresh f, ow := h.ow.fresh f, zx := h.zx, frm := h.frm.then_new (fun _ hk => .inr hk) f, sub := h.sub }
theorem OeM.hold (h : OeM w0 w X0 X Z pe g S Ao co ol Ar cr E1 A8 c8 A12 c12 A14 c14 Wr) (f : Frm (New w) w w') (hb : w.heap.size ≤ bx) (hl : bx < w'.heap.size) : OeM w0 w' X0 (fun k => X k ∨ k = bx) (fun k => Z k ∨ k = bx) pe g S Ao co ol Ar cr E1 A8 c8 A12 c12 A14 c14 Wr :=
  have h' := h.fresh f
  { on := h'.on.more (fun _ hk => .inl hk) (fun k hk => by rcases hk with hk | hk; exact h'.on.low k hk; exact hk ▸ hl)
    ow := { h'.ow with
      d8 := fun k hk => ⟨(h'.ow.d8 k hk).1, (h'.ow.d8 k hk).2.1, fun e => by rcases e with e | e; exact (h'.ow.d8 k hk).2.2.1 e; (have := (h.ow.d8 k hk).2.1; omega), (h'.ow.d8 k hk).2.2.2⟩
      d12 := fun k hk => ⟨(h'.ow.d12 k hk).1, (h'.ow.d12 k hk).2.1, fun e => by rcases e with e | e; exact (h'.ow.d12 k hk).2.2.1 e; (have := (h.ow.d12 k hk).2.1; omega), (h'.ow.d12 k hk).2.2.2⟩
      d14 := fun k hk => ⟨(h'.ow.d14 k hk).1, (h'.ow.d14 k hk).2.1, fun e => by rcases e with e | e; exact (h'.ow.d14 k hk).2.2.1 e; (have := (h.ow.d14 k hk).2.1; omega), (h'.ow.d14 k hk).2.2.2⟩
      lx := fun k hk => by rcases hk with hk | hk; exact h'.ow.lx k hk; exact hk ▸ hl }
    zx := fun k hk => by
      rcases hk with hk | hk
      · exact ⟨.inl (h.zx k hk).1, (h.zx k hk).2⟩
      · exact ⟨.inr hk, fun e => by have := h.on.low k (h.on.xs k e); omega⟩
    frm := h'.frm
    sub := fun k hk => by
      rcases hk with hk | hk
      · exact h.sub k hk
      · exact .inr (Nat.le_trans h.frm.size (hk ▸ hb)) }
theorem OeM.less (h : OeM w0 w X0 X Z pe g S Ao co ol Ar cr E1 A8 c8 A12 c12 A14 c14 Wr) {Z2 : Nat → Prop} (hz : ∀ k, Z2 k → Z k) : OeM w0 w X0 X Z2 pe g S Ao co ol Ar cr E1 A8 c8 A12 c12 A14 c14 Wr :=
  { h with zx := fun k hk => h.zx k (hz k hk) }
theorem OeM.xno (h : OeM w0 w X0 X Z pe g S Ao co ol Ar cr E1 A8 c8 A12 c12 A14 c14 Wr) {A : Option Addr} (hA : ∀ k, M.blk A = some k → ¬ X k) : ∀ k, X k → ¬ (M.blk A = some k ∨ New w k) := fun k hk e => by
  rcases e with e | e
  · exact hA k e hk
  · have := h.on.low k hk; unfold New at e; omega
theorem OeM.zoff (h : OeM w0 w X0 X Z pe g S Ao co ol Ar cr E1 A8 c8 A12 c12 A14 c14 Wr) (k : Nat) (hk : Z k) : (∀ A : Option Addr, (∀ k, M.blk A = some k → ¬ X k) → ¬ (M.blk A = some k ∨ New w k)) ∧ ¬ (k = g ∨ New w k) :=
  ⟨fun _ hA => h.xno hA k (h.zx k hk).1, fun e => by
    rcases e with e | e
    · exact (h.zx k hk).2 (e ▸ h.on.tab.sg)
    · have := h.on.low k (h.zx k hk).1; unfold New at e; omega⟩
theorem OeM.frm2 (h : OeM w0 w X0 X Z pe g S Ao co ol Ar cr E1 A8 c8 A12 c12 A14 c14 Wr) {A : Option Addr} (hA : ∀ k, M.blk A = some k → w0.heap.size ≤ k) (f : Frm (fun k => M.blk A = some k ∨ New w k) w w') : Frm (Own X0 w0) w0 w' :=
  h.frm.trans (f.mono (fun k hk => by
    rcases hk with e | e
    · exact .inr (hA k e)
    · exact .inr (Nat.le_trans h.frm.size e)))
theorem OeM.line (h : OeM w0 w X0 X Z pe g S Ao co ol Ar cr E1 A8 c8 A12 c12 A14 c14 Wr) (x : Lq) (hA : App (fun k => M.blk A14 = some k ∨ New w k) w' 109 4 A' (Wr.lines.length + 1) c' (olC (Wr.lines ++ [x]))) (f : Frm (fun k => M.blk A14 = some k ∨ New w k) w w') :
    OeM w0 w' X0 X Z pe g S Ao co ol Ar cr E1 A8 c8 A12 c12 A' c' { Wr with lines := Wr.lines ++ [x] } :=
  { on := h.on.keep f (h.xno (fun k hk => (h.ow.d14 k hk).2.2.1)), ow := h.ow.line x hA f, zx := h.zx, frm := h.frm2 (fun k hk => (h.ow.d14 k hk).1) f, sub := h.sub }
theorem OeM.useq (h : OeM w0 w X0 X Z pe g S Ao co ol Ar cr E1 A8 c8 A12 c12 A14 c14 Wr) (p ct : Nat) (hA : App (fun k => M.blk A12 = some k ∨ New w k) w' 32 1 A' (Wr.uses.length + 1) c' (nmC (Wr.uses ++ [p]))) (f : Frm (fun k => M.blk A12 = some k ∨ New w k) w w') :
    OeM w0 w' X0 X Z pe g S Ao co ol Ar cr E1 A8 c8 A' c' A14 c14 { Wr with uses := Wr.uses ++ [p], count := ct } :=
  { on := h.on.keep f (h.xno (fun k hk => (h.ow.d12 k hk).2.2.1)), ow := h.ow.useq p ct hA f, zx := h.zx, frm := h.frm2 (fun k hk => (h.ow.d12 k hk).1) f, sub := h.sub }
theorem OeM.outq (h : OeM w0 w X0 X Z pe g S Ao co ol Ar cr E1 A8 c8 A12 c12 A14 c14 Wr) {o : Bytes} (hne : o ≠ []) (hA : App (fun k => M.blk A8 = some k ∨ New w k) w' 5 1 A' o.length c' (bvs o)) (f : Frm (fun k => M.blk A8 = some k ∨ New w k) w w') :
    OeM w0 w' X0 X Z pe g S Ao co ol Ar cr E1 A' c' A12 c12 A14 c14 { Wr with out := o } :=
  { on := h.on.keep f (h.xno (fun k hk => (h.ow.d8 k hk).2.2.1)), ow := h.ow.outq hne hA f, zx := h.zx, frm := h.frm2 (fun k hk => (h.ow.d8 k hk).1) f, sub := h.sub }
theorem OeM.tabq (h : OeM w0 w X0 X Z pe g S Ao co ol Ar cr E1 A8 c8 A12 c12 A14 c14 Wr) {T : Tb} (hT : RTabS S2 w' g T) (f : Frm (fun k => k = g ∨ New w k) w w') (hS : ∀ k, S2 k → Own S w k) (ok : T.Ok) (cap : T.cap ≤ 4096) (nb : T.n ≤ 1152921504606846976) (ge : Wr.t.n ≤ T.n) :
    OeM w0 w' X0 (fun k => X k ∨ S2 k) Z pe g S2 Ao co ol Ar cr E1 A8 c8 A12 c12 A14 c14 { Wr with t := T } :=
  { on := h.on.sett hT f hS ok cap nb ge
    ow := h.ow.tabq (h.on.xs g h.on.tab.sg) h.on.xs f (fun k hk => ⟨hS k hk, hT.low k hk⟩) T
    zx := fun k hk => ⟨.inl (h.zx k hk).1, fun e => by
      rcases hS k e with q | q
      · exact (h.zx k hk).2 q
      · have := h.on.low k (h.zx k hk).1; have q : w.heap.size ≤ k := q; omega⟩
    frm := h.frm.trans (f.mono (fun k hk => by
      rcases hk with e | e
      · exact e ▸ h.sub g (h.on.xs g h.on.tab.sg)
      · exact .inr (Nat.le_trans h.frm.size e)))
    sub := fun k hk => by
      rcases hk with hk | hk
      · exact h.sub k hk
      · rcases hS k hk with e | e
        · exact h.sub k (h.on.xs k e)
        · exact .inr (Nat.le_trans h.frm.size e) }
end
theorem roomGo_both (E : Qn) (T : Tb) (now : List Nat) (n : Nat) : ∀ (l : List Fld) (p left : Nat), roomGo { { E with begun := true } with t := T } now n l p left = roomGo E now n l p left
  | [], _, _ => rfl
  | f :: r, p, left => by
    unfold roomGo
    rw [roomGo_both E T now n r]
    rfl
theorem room_both (E : Qn) (T T2 : Tb) (now : List Nat) (f : Fld) : Qn.room { { E with begun := true } with t := T } T2 now f = E.room T2 now f := by
  unfold Qn.room
  rw [roomGo_both]
def OEncR (X : Nat → Prop) (w : World) (pe g : Nat) (Ar : Option Addr) (cr : Nat) (E' : Qn) (ins b : Bytes) (e : Ending) (w' : World) : Prop :=
  ∃ (A1 : Option Addr) (c1 : Nat) (A2 : Option Addr) (c2 : Nat) (X' S' : Nat → Prop) (Ao' : Option Addr) (co' : Nat) (ol' : List Ou), e = .returned (.tuple #[.slice A1 ins.length c1, .slice A2 b.length c2]) ∧ Rd w' A1 (bvs ins) ∧ ins.length ≤ c1 ∧ Rd w' A2 (bvs b) ∧ b.length ≤ c2 ∧ OnM X' w' pe g S' Ao' co' ol' Ar cr E' ∧ Frm (Own X w) w w' ∧ (∀ k, X' k → Own X w k) ∧
    (∀ k, M.blk A1 = some k ∨ M.blk A2 = some k → New w k ∧ ¬ X' k)
theorem OnM.setbegun {X S : Nat → Prop} {w : World} {pe g co cr : Nat} {Ao Ar : Option Addr} {l : List Ou} {E : Qn} (h : OnM X w pe g S Ao co l Ar cr E) : OnM X (w.setCell ⟨pe, 6, none⟩ (.bool true)) pe g S Ao co l Ar cr { E with begun := true } := by
  have f : Frm (fun k => k = pe) w (w.setCell ⟨pe, 6, none⟩ (.bool true)) := (Frm.refl (fun k => k = pe) w).setCell (p := ⟨pe, 6, none⟩) rfl _
  exact { h with
    blk := by have := h.blk.set_ 6 (.bool true); simpa using this
    tab := h.tab.keep f (fun k hk e => h.ps (e ▸ hk))
    opn := h.opn.keep f (fun k hk e => (h.ro k hk).2.2 e)
    use_ := fun y hy => ⟨(h.use_ y hy).1.keep f (fun k hk e => (h.ru y hy k hk).2.2 e), (h.use_ y hy).2⟩
    rest := h.rest.keep f (fun k hk e => (h.rr k hk).2.2 e)
    low := fun k hk => Nat.lt_of_lt_of_le (h.low k hk) f.size }
end Go.Proofs.Ytdgggjeiflllhaa.M
namespace Go.Proofs.Ytdgggjeiflllhaa.M
open Go.ChangeShapes Go.WideShapes Go.ChangeAt Go.RowKit
theorem osE : Elem Try.prog 49 118 3 40 :=
  ⟨by kernel_rfl, by
    have h : (Try.prog.info? 118).map (fun i => (i.zero, i.size, i.bytes)) = some (some (.agg #[.int .u64 0, .int .u64 0, .slice none 0 0]), 3, 40) := by kernel_rfl
    obtain ⟨i, hi, hz, hs, hb⟩ := info_parts h
    exact ⟨i, _, hi, hz, hs, hb, rfl⟩, by omega, by omega⟩
theorem ocC_append (l k : List Ou) : ocC (l ++ k) = ocC l ++ ocC k := by unfold ocC; rw [List.flatMap_append]
section
variable {X S : Nat → Prop} {w w' : World} {pe g co cr : Nat} {Ao Ar : Option Addr} {l : List Ou} {E : Qn}
theorem OnM.push (h : OnM X w pe g S Ao co l Ar cr E) (y : Ou) {A' : Option Addr} {c' : Nat} (hA : App (New w) w' 118 3 A' (l.length + 1) c' (ocC (l ++ [y]))) (f : Frm (New w) w w')
    (hr : Rd w y.A (nmC y.q.uses)) (hyc : y.q.uses.length ≤ y.c) (hym : y.c ≤ maxLen) (hyb : ∀ k, M.blk y.A = some k → k < w.heap.size ∧ ¬ X k) (hct : y.q.count ≤ E.t.n) (hol : E.opn.length < 1073741824) :
    OnM (fun k => X k ∨ M.blk A' = some k ∨ M.blk y.A = some k) (w'.setCell ⟨pe, 3, none⟩ (.slice A' (l.length + 1) c')) pe g S A' c' (l ++ [y]) Ar cr { E with opn := E.opn ++ [y.q] } := by
  have f2 : Frm (fun k => k = pe) w' (w'.setCell ⟨pe, 3, none⟩ (.slice A' (l.length + 1) c')) := (Frm.refl (fun k => k = pe) w').setCell (p := ⟨pe, 3, none⟩) rfl _
  have h' := h.fresh f
  have hb := h'.blk.set_ 3 (.slice A' (l.length + 1) c')
  have hA'n : ∀ k, M.blk A' = some k → w.heap.size ≤ k := fun k hk => hA.inM k hk
  have hpe := h.low pe h.xp
  have hA2 : App (New w) (w'.setCell ⟨pe, 3, none⟩ (.slice A' (l.length + 1) c')) 118 3 A' (l.length + 1) c' (ocC (l ++ [y])) := hA.keep f2 (fun k hk e => by have := hA'n k hk; omega)
  exact {
    blk := by simpa using hb
    tab := h'.tab.keep f2 (fun k hk e => h.ps (e ▸ hk))
    opn := by
      rw [List.length_append]
      exact { hA2 with
        inM := fun k hk => .inr (.inl hk)
        own := fun hc => by
          obtain ⟨gg, off, cur, a, b2, d, m⟩ := hA2.own hc
          exact ⟨gg, off, cur, a, b2, d, .inr (.inl (by rw [a]; rfl))⟩ }
    oc := by rw [List.length_append]; exact hA.cap
    om := hA.max
    same := by rw [List.map_append, h.same]; rfl
    use_ := fun z hz => by
      rcases List.mem_append.1 hz with hz | hz
      · exact ⟨(h'.use_ z hz).1.keep f2 (fun k hk e => (h.ru z hz k hk).2.2 e), (h.use_ z hz).2⟩
      · rw [List.mem_singleton.1 hz]
        exact ⟨(hr.fresh f).keep f2 (fun k hk e => (hyb k hk).2 (e ▸ h.xp)), hyc, hym⟩
    rest := (h'.rest.keep f2 (fun k hk e => (h.rr k hk).2.2 e)).mono (fun k hk => .inl hk)
    rc := h.rc, rm := h.rm
    low := fun k hk => by
      have hs : w.heap.size ≤ (w'.setCell ⟨pe, 3, none⟩ (.slice A' (l.length + 1) c')).heap.size := Nat.le_trans f.size f2.size
      rcases hk with hk | hk | hk
      · exact Nat.lt_of_lt_of_le (h.low k hk) hs
      · exact app_lt hA2 (by intro e; have := congrArg List.length e; rw [ocC_len] at this; simp at this) k hk
      · exact Nat.lt_of_lt_of_le (hyb k hk).1 hs
    xp := .inl h.xp, xs := fun k hk => .inl (h.xs k hk), ps := h.ps
    ro := fun k hk => ⟨.inr (.inl hk), fun e => by have := h.low k (h.xs k e); have := hA'n k hk; omega, fun e => by have := hA'n k hk; omega⟩
    rr := fun k hk => ⟨.inl (h.rr k hk).1, (h.rr k hk).2⟩
    ru := fun z hz k hk => by
      rcases List.mem_append.1 hz with hz | hz
      · exact ⟨.inl (h.ru z hz k hk).1, (h.ru z hz k hk).2⟩
      · rw [List.mem_singleton.1 hz] at hk
        exact ⟨.inr (.inr hk), fun e => (hyb k hk).2 (h.xs k e), fun e => (hyb k hk).2 (e ▸ h.xp)⟩
    ok := h.ok, cap := h.cap, nb := h.nb, kn := h.kn
    ctn := fun o ho => by
      rcases List.mem_append.1 ho with ho | ho
      · exact h.ctn o ho
      · rw [List.mem_singleton.1 ho]; exact hct
    ol := by show (E.opn ++ [y.q]).length ≤ _; rw [List.length_append]; simp; omega
    bl := h.bl, rl := h.rl }
end
end Go.Proofs.Ytdgggjeiflllhaa.M

