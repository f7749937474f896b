/- Np, Nm, Nc, Nh -/
import Derived.Test.YtdgggjeiflllhaaZyQt
import Derived.Test.YtdgggjeiflllhaaZyEncp
import Derived.BigQuiet
import Derived.Deep.CutBlock
import Derived.Lib.Hide
import Derived.IntWalk
import Derived.Deep.LoopGhost
import Derived.Test.YtdgggjeiflllhaaZyQm
import Derived.Test.YtdgggjeiflllhaaZyGin
import Derived.Test.YtdgggjeiflllhaaZyMap
import Derived.Test.YtdgggjeiflllhaaZyMem
import Derived.Test.YtdgggjeiflllhaaZyQa

namespace Go.Proofs.Ytdgggjeiflllhaa.M
open Go.ChangeShapes Go.WideShapes Go.ChangeAt Go.RowKit
structure Qs where
  stream : Nat
  count : Nat
  uses : List Nat
structure Qn where
  t : Tb
  blk : Nat
  known : Nat
  opn : List Qs
  rest : Bytes
  begun : Bool
  err : Nat
def Qn.stuck (E : Qn) (s : Nat) : Bool := E.opn.any fun o => decide (o.stream = s) && decide (E.known < o.count)
def firsts : List Qs → List Nat → List Nat
  | [], _ => []
  | o :: r, seen => if o.stream ∈ seen then firsts r seen else o.stream :: firsts r (o.stream :: seen)
def Qn.many (E : Qn) : Nat := ((firsts E.opn []).filter E.stuck).length
def Qn.free (E : Qn) (s : Nat) : Bool := E.stuck s || decide (E.many < E.blk)
def Qn.held (E : Qn) (now : List Nat) (p : Nat) : Bool := decide (E.known ≤ p) || (decide (p ∈ now) || E.opn.any fun o => decide (p ∈ o.uses))
def roomGo (E : Qn) (now : List Nat) (n : Nat) : List Fld → Nat → Nat → Bool
  | [], _, left => decide (n ≤ left)
  | f :: r, p, left => if n ≤ left then true else if E.held now p then false else roomGo E now n r (p + 1) (left + fsize f)
def Qn.room (E : Qn) (T : Tb) (now : List Nat) (f : Fld) : Bool :=
  if secret f.1 = true ∨ T.cap / 4 < fsize f then false else roomGo E now (fsize f) T.l T.first (T.cap - fsizes T.l)
structure Lq where
  kind : Nat
  i : Nat
  f : Fld
structure Wq where
  t : Tb
  out : Bytes
  lines : List Lq
  uses : List Nat
  count : Nat
def Wq.use (w : Wq) (f : Fld) (p : Nat) : Wq := { w with lines := w.lines ++ [⟨1, p, f⟩], uses := w.uses ++ [p], count := max w.count (p + 1) }
def insB (q : Nat × Bool × Bool) (f : Fld) : Bytes := (if q.2.1 then pfx 192 6 q.1 else strc 96 64 5 f.1) ++ strc 128 0 7 f.2
def litQn (q : Nat × Bool × Bool) (f : Fld) : Lq := if q.2.1 then ⟨2, q.1, f⟩ else ⟨3, q.1, f⟩
def oneN (E : Qn) (fr : Bool) (w : Wq) (f : Fld) : Wq :=
  if (findS h3tab f).2.2 then { w with lines := w.lines ++ [⟨0, (findS h3tab f).1, f⟩] } else
  if (w.t.find f).2.2 then (if decide ((w.t.find f).1 < E.known) || fr then w.use f (w.t.find f).1 else { w with lines := w.lines ++ [litQn (findS h3tab f) f] }) else
  if E.room w.t w.uses f then
    (if fr then ({ w with t := w.t.add f, out := w.out ++ insB (findS h3tab f) f } : Wq).use f ((w.t.add f).n - 1)
     else { w with t := w.t.add f, out := w.out ++ insB (findS h3tab f) f, lines := w.lines ++ [litQn (findS h3tab f) f] })
  else { w with lines := w.lines ++ [litQn (findS h3tab f) f] }
def allN (E : Qn) (fr : Bool) (w : Wq) (l : List Fld) : Wq := l.foldl (oneN E fr) w
def lineN (count : Nat) (x : Lq) : Bytes :=
  if x.kind = 0 then pfx 192 6 x.i else if x.kind = 1 then pfx 128 6 (count - 1 - x.i) else
  (if x.kind = 2 then pfx (if secret x.f.1 then 112 else 80) 4 x.i else strc (if secret x.f.1 then 56 else 40) (if secret x.f.1 then 48 else 32) 3 x.f.1) ++ strc 128 0 7 x.f.2
def linesN (count : Nat) (l : List Lq) : Bytes := l.flatMap (lineN count)
def Qn.wq (E : Qn) : Wq := ⟨E.t, if E.begun = false ∧ 0 < E.t.cap then pfx 32 5 E.t.cap else [], [], [], 0⟩
def Qn.enc (E : Qn) (s : Nat) (l : List Fld) : (Bytes × Bytes) × Qn :=
  let w := allN E (E.free s) E.wq l
  ((w.out, prefQ w.count w.count E.t.cap ++ linesN w.count w.lines), { E with t := w.t, begun := true, opn := if 0 < w.count then E.opn ++ [⟨s, w.count, w.uses⟩] else E.opn })
def ackGo (s : Nat) : List Qs → Option (Qs × List Qs)
  | [] => none
  | o :: r => if o.stream = s then some (o, r) else (ackGo s r).map fun x => (x.1, o :: x.2)
def Qn.ins (E : Qn) (r : Bytes) : Nat × Nat × Qn :=
  match rdp r (if 128 ≤ (r.headD 0).toNat then 7 else 6) with
  | (n, k, e) => if e ≠ 0 then (e, 0, E) else
    if 128 ≤ (r.headD 0).toNat then (match ackGo n E.opn with | none => (26, k, E) | some (o, r) => (0, k, { E with known := max E.known o.count, opn := r }))
    else if 64 ≤ (r.headD 0).toNat then (0, k, { E with opn := E.opn.filter fun o => decide (o.stream ≠ n) })
    else if n = 0 ∨ E.t.n - E.known < n then (26, k, E) else (0, k, { E with known := E.known + n })
def feedN : Nat → Qn → Bytes → Nat × Qn
  | _, E, [] => (0, { E with rest := [] })
  | 0, E, r => (0, { E with rest := r })
  | f + 1, E, c :: r =>
    match E.ins (c :: r) with
    | (e, k, E2) => if e = 0 then feedN f E2 ((c :: r).drop k) else if e = 20 then (0, { E with rest := c :: r }) else (e, { E with rest := c :: r, err := e })
def Qn.feed (E : Qn) (b : Bytes) : Nat × Qn := if E.err ≠ 0 then (E.err, E) else feedN (E.rest ++ b).length E (E.rest ++ b)
end Go.Proofs.Ytdgggjeiflllhaa.M
namespace Go.Proofs.Ytdgggjeiflllhaa.M
open Go.ChangeShapes Go.WideShapes Go.ChangeAt Go.RowKit
structure Ro where
  A : Option Addr
  c : Nat
  l : List (Qs × Nat)
def Ro.v (x : Ro) : Value := .slice x.A x.l.length x.c
section
variable {X S : Nat → Prop} {w w' : World} {pe g bm cr : Nat} {Ar : Option Addr} {L : List (Nat × Ro)} {E : Qn}
end
end Go.Proofs.Ytdgggjeiflllhaa.M
namespace Go.Proofs.Ytdgggjeiflllhaa.M
open Go.ChangeShapes Go.WideShapes Go.ChangeAt Go.RowKit
end Go.Proofs.Ytdgggjeiflllhaa.M
namespace Go.Proofs.Ytdgggjeiflllhaa.M
open Go.ChangeShapes Go.WideShapes Go.ChangeAt Go.RowKit
end Go.Proofs.Ytdgggjeiflllhaa.M
namespace Go.Proofs.Ytdgggjeiflllhaa.M
open Go.ChangeShapes Go.WideShapes Go.ChangeAt Go.RowKit
theorem wpAnyH_skipC {P : Program} {ops : Array Oper} {Q : Exit → Act → World → Prop} {md : Region.Mode} {S : World → Prop} {i : Nat} {oi : Oper} {d : Option Tmp} {fuel : Nat} {listed : Array Bool} {a : Act} {w : World} (hi : ops[i]? = some oi) (hd : oi.dst = d)
    (hc : (Region.noSelect ops && Region.free md ops listed i && (Region.ready md ops listed).contains i) = true)
    (hQ : ∀ c a w, Q (.panic c) (a.put oi.dst undef) w → Q (.panic c) a w) (hwt : Region.wanted oi (yielded ops a.tmps) = false) (hS : S w)
    (h : wpAnyH P md ops Q S fuel (listed.setIfInBounds i true) (a.put d undef) w) : wpAnyH P md ops Q S (fuel + 1) listed a w := by
  subst hd
  simp only [Bool.and_eq_true] at hc
  exact wpAnyH_take hi hc.1.1 hc.1.2 hc.2 hQ (.inr ⟨hwt, rfl⟩) hS h
end Go.Proofs.Ytdgggjeiflllhaa.M
namespace Go.Proofs.Ytdgggjeiflllhaa.M
open Go.ChangeShapes Go.WideShapes Go.ChangeAt Go.RowKit
section
variable {Y : Nat → Prop} {w w' : World} {pw pe s mu co cl : Nat} {ments : List (Nat × Value)} {Ao Al : Option Addr} {Wr : Wq}
end
end Go.Proofs.Ytdgggjeiflllhaa.M
namespace Go.Proofs.Ytdgggjeiflllhaa.M
open Go.ChangeShapes Go.WideShapes Go.ChangeAt Go.RowKit
section
variable {Y : Nat → Prop} {w w' w2 : World} {pw pe s mu co cl : Nat} {ments : List (Nat × Value)} {Ao Al : Option Addr} {Wr : Wq}
end
end Go.Proofs.Ytdgggjeiflllhaa.M
namespace Go.Proofs.Ytdgggjeiflllhaa.M
open Go.ChangeShapes Go.WideShapes Go.ChangeAt Go.RowKit
section
variable {Y X S S2 : Nat → Prop} {w w' w2 : World} {pw pe s mu co cl g bm cr c2 : Nat} {ments : List (Nat × Value)} {Ao Al Ar A2 : Option Addr} {Wr : Wq} {E : Qn} {L : List (Nat × Ro)} {o2 : Bytes} {T : Tb}
end
theorem Tb.add_ok {T : Tb} (h : T.Ok) {f : Fld} (hf : fsize f ≤ T.cap) : (T.add f).Ok ∧ (T.add f).n = T.n + 1 :=
  ⟨h.add f, by unfold Tb.add; rw [if_pos hf]⟩
theorem strc_pos (a b k : Nat) (l : Bytes) : 0 < (strc a b k l).length := by
  unfold strc
  split
  · have := pfx_pos a k (hlen l); rw [List.length_append]; omega
  · have := pfx_pos b k l.length; rw [List.length_append]; omega
def insN (nm : Bool) (i : Nat) (f : Fld) : Bytes := (if nm then pfx 192 6 i else strc 96 64 5 f.1) ++ strc 128 0 7 f.2
end Go.Proofs.Ytdgggjeiflllhaa.M
namespace Go.Proofs.Ytdgggjeiflllhaa.M
open Go.ChangeShapes Go.WideShapes Go.ChangeAt Go.RowKit
section
variable {Y X S Y2 : Nat → Prop} {w w' w2 : World} {pw pe s mu co cl g bm cr c2 cl2 : Nat} {ments ments2 : List (Nat × Value)} {Ao Al Ar A2 Al2 : Option Addr} {Wr : Wq} {E : Qn} {L : List (Nat × Ro)}
end
theorem find_lt (T : Tb) (hT : T.Ok) (f : Fld) (h : (T.find f).2.2 = true) : (T.find f).1 < T.n := by
  have hle := hT.le
  unfold Tb.find at h ⊢
  cases h1 : lastAt id f T.first T.l with
  | some i =>
    have := lastAt_range id f T.l T.first i h1
    simp only
    unfold Tb.first at this
    omega
  | none =>
    rw [h1] at h
    cases h2 : lastAt Prod.fst f.1 T.first T.l with
    | some i => rw [h2] at h; cases h
    | none => rw [h2] at h; cases h
end Go.Proofs.Ytdgggjeiflllhaa.M

