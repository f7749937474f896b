/- Np -/
import Derived.Test.YtdgggjeiflllhaaZzQt
import Derived.Test.YtdgggjeiflllhaaZzEncp

namespace Go.Proofs.Ytdgggjeiflllhaa.M
open Go.ChangeShapes Go.WideShapes Go.ChangeAt Go.RowKit
structure Qs where
  stream : Nat
  count : Nat
  uses : List Nat
structure Qn where
  t : Tb
  blk : Nat
  known : Nat
  opn : List Qs
  rest : Bytes
  begun : Bool
  err : Nat
def Qn.stuck (E : Qn) (s : Nat) : Bool := E.opn.any fun o => decide (o.stream = s) && decide (E.known < o.count)
def firsts : List Qs → List Nat → List Nat
  | [], _ => []
  | o :: r, seen => if o.stream ∈ seen then firsts r seen else o.stream :: firsts r (o.stream :: seen)
def Qn.many (E : Qn) : Nat := ((firsts E.opn []).filter E.stuck).length
def Qn.free (E : Qn) (s : Nat) : Bool := E.stuck s || decide (E.many < E.blk)
def Qn.held (E : Qn) (now : List Nat) (p : Nat) : Bool := decide (E.known ≤ p) || (decide (p ∈ now) || E.opn.any fun o => decide (p ∈ o.uses))
def roomGo (E : Qn) (now : List Nat) (n : Nat) : List Fld → Nat → Nat → Bool
  | [], _, left => decide (n ≤ left)
  | f :: r, p, left => if n ≤ left then true else if E.held now p then false else roomGo E now n r (p + 1) (left + fsize f)
def Qn.room (E : Qn) (T : Tb) (now : List Nat) (f : Fld) : Bool :=
  if secret f.1 = true ∨ T.cap / 4 < fsize f then false else roomGo E now (fsize f) T.l T.first (T.cap - fsizes T.l)
structure Lq where
  kind : Nat
  i : Nat
  f : Fld
structure Wq where
  t : Tb
  out : Bytes
  lines : List Lq
  uses : List Nat
  count : Nat
def Wq.use (w : Wq) (f : Fld) (p : Nat) : Wq := { w with lines := w.lines ++ [⟨1, p, f⟩], uses := w.uses ++ [p], count := max w.count (p + 1) }
def insB (q : Nat × Bool × Bool) (f : Fld) : Bytes := (if q.2.1 then pfx 192 6 q.1 else strc 96 64 5 f.1) ++ strc 128 0 7 f.2
def litQn (q : Nat × Bool × Bool) (f : Fld) : Lq := if q.2.1 then ⟨2, q.1, f⟩ else ⟨3, q.1, f⟩
def oneN (E : Qn) (fr : Bool) (w : Wq) (f : Fld) : Wq :=
  if (findS h3tab f).2.2 then { w with lines := w.lines ++ [⟨0, (findS h3tab f).1, f⟩] } else
  if (w.t.find f).2.2 then (if decide ((w.t.find f).1 < E.known) || fr then w.use f (w.t.find f).1 else { w with lines := w.lines ++ [litQn (findS h3tab f) f] }) else
  if E.room w.t w.uses f then
    (if fr then ({ w with t := w.t.add f, out := w.out ++ insB (findS h3tab f) f } : Wq).use f ((w.t.add f).n - 1)
     else { w with t := w.t.add f, out := w.out ++ insB (findS h3tab f) f, lines := w.lines ++ [litQn (findS h3tab f) f] })
  else { w with lines := w.lines ++ [litQn (findS h3tab f) f] }
def allN (E : Qn) (fr : Bool) (w : Wq) (l : List Fld) : Wq := l.foldl (oneN E fr) w
def lineN (count : Nat) (x : Lq) : Bytes :=
  if x.kind = 0 then pfx 192 6 x.i else if x.kind = 1 then pfx 128 6 (count - 1 - x.i) else
  (if x.kind = 2 then pfx (if secret x.f.1 then 112 else 80) 4 x.i else strc (if secret x.f.1 then 56 else 40) (if secret x.f.1 then 48 else 32) 3 x.f.1) ++ strc 128 0 7 x.f.2
def linesN (count : Nat) (l : List Lq) : Bytes := l.flatMap (lineN count)
def Qn.wq (E : Qn) : Wq := ⟨E.t, if E.begun = false ∧ 0 < E.t.cap then pfx 32 5 E.t.cap else [], [], [], 0⟩
def Qn.enc (E : Qn) (s : Nat) (l : List Fld) : (Bytes × Bytes) × Qn :=
  let w := allN E (E.free s) E.wq l
  ((w.out, prefQ w.count w.count E.t.cap ++ linesN w.count w.lines), { E with t := w.t, begun := true, opn := if 0 < w.count then E.opn ++ [⟨s, w.count, w.uses⟩] else E.opn })
def ackGo (s : Nat) : List Qs → Option (Qs × List Qs)
  | [] => none
  | o :: r => if o.stream = s then some (o, r) else (ackGo s r).map fun x => (x.1, o :: x.2)
def Qn.ins (E : Qn) (r : Bytes) : Nat × Nat × Qn :=
  match rdp r (if 128 ≤ (r.headD 0).toNat then 7 else 6) with
  | (n, k, e) => if e ≠ 0 then (e, 0, E) else
    if 128 ≤ (r.headD 0).toNat then (match ackGo n E.opn with | none => (26, k, E) | some (o, r) => (0, k, { E with known := max E.known o.count, opn := r }))
    else if 64 ≤ (r.headD 0).toNat then (0, k, { E with opn := E.opn.filter fun o => decide (o.stream ≠ n) })
    else if n = 0 ∨ E.t.n - E.known < n then (26, k, E) else (0, k, { E with known := E.known + n })
def feedN : Nat → Qn → Bytes → Nat × Qn
  | _, E, [] => (0, { E with rest := [] })
  | 0, E, r => (0, { E with rest := r })
  | f + 1, E, c :: r =>
    match E.ins (c :: r) with
    | (e, k, E2) => if e = 0 then feedN f E2 ((c :: r).drop k) else if e = 20 then (0, { E with rest := c :: r }) else (e, { E with rest := c :: r, err := e })
def Qn.feed (E : Qn) (b : Bytes) : Nat × Qn := if E.err ≠ 0 then (E.err, E) else feedN (E.rest ++ b).length E (E.rest ++ b)
end Go.Proofs.Ytdgggjeiflllhaa.M

