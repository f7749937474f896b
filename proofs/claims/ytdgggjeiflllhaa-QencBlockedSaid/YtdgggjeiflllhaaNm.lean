/- qenc's encoder in memory. -/
import Derived.BigQuiet
import Derived.Deep.CutBlock
import Derived.Lib.Hide
import Derived.IntWalk
import Derived.Deep.LoopGhost
import Derived.Test.YtdgggjeiflllhaaNp
import Derived.Test.YtdgggjeiflllhaaQm
namespace Go.Proofs.Ytdgggjeiflllhaa.M
open Go.ChangeShapes Go.WideShapes Go.ChangeAt Go.RowKit

/-- a section's uses, counted -/
structure UseM (w : World) (b : Nat) (us : List Nat) (ents : List (Nat × Value)) : Prop where
  map : MapIs w b ukey ents
  pos : ∀ x ∈ ents, ∃ v : Int, 0 < v ∧ v ≤ (us.length : Int) ∧ x.2 = .int .i64 v
  mem : ∀ p, p ∈ us ↔ p ∈ ents.map (·.1)
/-- open sections of one stream: a row; with each the block of its uses -/
structure Ro where
  A : Option Addr
  c : Nat
  l : List (Qs × Nat)
def Ro.v (x : Ro) : Value := .slice x.A x.l.length x.c
def secC (l : List (Qs × Nat)) : List Value := l.flatMap fun x => [.int .u64 x.1.count, .map (some x.2)]
theorem secC_len (l : List (Qs × Nat)) : (secC l).length = l.length * 2 := by
  induction l with
  | nil => rfl
  | cons x r ih => unfold secC at ih ⊢; rw [List.flatMap_cons, List.length_append, ih]; simp; omega
def entsR (L : List (Nat × Ro)) : List (Nat × Value) := L.map fun x => (x.1, x.2.v)
structure RoM (X : Nat → Prop) (w : World) (x : Ro) : Prop where
  app : App X w 84 2 x.A x.l.length x.c (secC x.l)
  use_ : ∀ y ∈ x.l, X y.2 ∧ ∃ ents, UseM w y.2 y.1.uses ents
  ne : x.l ≠ []
  small : ∀ y ∈ x.l, y.1.count ≤ 1152921504606846976
/-- an encoder, all its blocks in X -/
structure QnM (X : Nat → Prop) (w : World) (pe g bm : Nat) (S : Nat → Prop) (Ar : Option Addr) (cr : Nat) (L : List (Nat × Ro)) (E : Qn) : Prop where
  blk : Blk w pe 75 #[.pointer (some ⟨g, 0, none⟩), .int .i64 E.blk, .int .u64 E.known, .map (some bm), .slice Ar E.rest.length cr, .bool E.begun, .int .i64 E.err]
  tab : TabS S w g E.t
  map : MapIs w bm ukey (entsR L)
  nd : (L.map (·.1)).Nodup
  rows : ∀ x ∈ L, RoM X w x.2
  same : ∀ x ∈ L, x.2.l.map (·.1) = E.opn.filter fun o => decide (o.stream = x.1)
  all : ∀ o ∈ E.opn, o.stream ∈ L.map (·.1)
  rest : App X w 5 1 Ar E.rest.length cr (bvs E.rest)
  low : ∀ k, X k → k < w.heap.size
  xp : X pe
  xm : X bm
  xs : ∀ k, S k → X k
  ps : ¬ S pe
  ms : ¬ S bm
  mp : pe ≠ bm
  rs : ∀ k, M.blk Ar = some k → ¬ S k ∧ k ≠ pe ∧ k ≠ bm
  ro : ∀ x ∈ L, ∀ k, M.blk x.2.A = some k → ¬ S k ∧ k ≠ pe ∧ k ≠ bm ∧ M.blk Ar ≠ some k
  us : ∀ x ∈ L, ∀ y ∈ x.2.l, ¬ S y.2 ∧ y.2 ≠ pe ∧ y.2 ≠ bm ∧ M.blk Ar ≠ some y.2
  rr : L.Pairwise fun x y => M.blk x.2.A ≠ M.blk y.2.A
  ok : E.t.Ok
  cap : E.t.cap ≤ 4096
  nb : E.t.n ≤ 1152921504606846976
  kn : E.known ≤ E.t.n
  ctn : ∀ o ∈ E.opn, o.count ≤ E.t.n
  bl : E.blk ≤ 9223372036854775807
  rl : E.rest.length ≤ 1099511627776
section
variable {X S : Nat → Prop} {w w' : World} {pe g bm cr : Nat} {Ar : Option Addr} {L : List (Nat × Ro)} {E : Qn}
theorem RoM.keep {N : Nat → Prop} {x : Ro} (h : RoM X w x) (f : Frm N w w') (hN : ∀ k, X k → ¬ N k) : RoM X w' x :=
  { h with
    app := h.app.keep f (fun k hk => hN k (h.app.inM k hk))
    use_ := fun y hy => by
      obtain ⟨h1, ents, h2⟩ := h.use_ y hy
      exact ⟨h1, ents, { h2 with map := h2.map.keep f (hN _ h1) }⟩ }
theorem QnM.keep {N : Nat → Prop} (h : QnM X w pe g bm S Ar cr L E) (f : Frm N w w') (hN : ∀ k, X k → ¬ N k) : QnM X w' pe g bm S Ar cr L E :=
  { h with
    blk := h.blk.keep f (hN _ h.xp)
    tab := h.tab.keep f (fun k hk => hN k (h.xs k hk))
    map := h.map.keep f (hN _ h.xm)
    rows := fun x hx => (h.rows x hx).keep f hN
    rest := h.rest.keep f (fun k hk => hN k (h.rest.inM k hk))
    low := fun k hk => Nat.lt_of_lt_of_le (h.low k hk) f.size }
theorem QnM.fresh (h : QnM X w pe g bm S Ar cr L E) (f : Frm (New w) w w') : QnM X w' pe g bm S Ar cr L E :=
  h.keep f (fun k hk e => by have := h.low k hk; unfold New at e; omega)
end
theorem getE_entsR (s : Nat) : ∀ L : List (Nat × Ro), getE s (entsR L) = (getE s L).map Ro.v
  | [] => rfl
  | x :: r => by
    show getE s ((x.1, x.2.v) :: entsR r) = _
    rw [getE_cons, getE_cons]
    by_cases h : s = x.1
    · rw [if_pos h, if_pos h]; rfl
    · rw [if_neg h, if_neg h, getE_entsR s r]
theorem getE_mem {ν : Type} {s : Nat} {v : ν} : ∀ {L : List (Nat × ν)}, getE s L = some v → (s, v) ∈ L
  | [], h => by cases h
  | x :: r, h => by
    rw [getE_cons] at h
    by_cases e : s = x.1
    · rw [if_pos e] at h
      cases h
      subst e
      exact List.mem_cons_self ..
    · rw [if_neg e] at h
      exact List.mem_cons_of_mem _ (getE_mem h)
theorem getE_not {ν : Type} {s : Nat} : ∀ {L : List (Nat × ν)}, getE s L = none → s ∉ L.map (·.1)
  | [], _ => by simp
  | x :: r, h => by
    rw [getE_cons] at h
    by_cases e : s = x.1
    · rw [if_pos e] at h; cases h
    · rw [if_neg e] at h
      simp only [List.map_cons, List.mem_cons, not_or]
      exact ⟨e, getE_not h⟩
/-- the sections of a stream -/
theorem QnM.secs {X S : Nat → Prop} {w : World} {pe g bm cr : Nat} {Ar : Option Addr} {L : List (Nat × Ro)} {E : Qn} (h : QnM X w pe g bm S Ar cr L E) (s : Nat) :
    match getE s L with
    | none => (E.opn.filter fun o => decide (o.stream = s)) = []
    | some x => RoM X w x ∧ x.l.map (·.1) = E.opn.filter fun o => decide (o.stream = s) := by
  cases hg : getE s L with
  | none =>
    rw [List.filter_eq_nil_iff]
    intro o ho e
    exact getE_not hg (by rw [← of_decide_eq_true e]; exact h.all o ho)
  | some x => exact ⟨h.rows _ (getE_mem hg), h.same _ (getE_mem hg)⟩
theorem stuck_filter (E : Qn) (s : Nat) : E.stuck s = (E.opn.filter fun o => decide (o.stream = s)).any fun o => decide (E.known < o.count) := by
  unfold Qn.stuck
  rw [List.any_filter]
end Go.Proofs.Ytdgggjeiflllhaa.M
