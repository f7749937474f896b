/- QPACK's encoder in plain words: what is blocked, what may be used, what fits, a field, a section, the other side's bytes. No condition. -/
import Derived.Test.YtdgggjeiflllhaaQt
import Derived.Test.YtdgggjeiflllhaaEncp
namespace Go.Proofs.Ytdgggjeiflllhaa.M
open Go.ChangeShapes Go.WideShapes Go.ChangeAt Go.RowKit

/-- an open section -/
structure Qs where
  stream : Nat
  count : Nat
  uses : List Nat
/-- an encoder -/
structure Qn where
  t : Tb
  blk : Nat
  known : Nat
  opn : List Qs
  rest : Bytes
  begun : Bool
  err : Nat
/-- is a stream blocked -/
def Qn.stuck (E : Qn) (s : Nat) : Bool := E.opn.any fun o => decide (o.stream = s) && decide (E.known < o.count)
/-- the streams, each once, at its first section -/
def firsts : List Qs → List Nat → List Nat
  | [], _ => []
  | o :: r, seen => if o.stream ∈ seen then firsts r seen else o.stream :: firsts r (o.stream :: seen)
/-- how many streams are blocked -/
def Qn.many (E : Qn) : Nat := ((firsts E.opn []).filter E.stuck).length
/-- may this stream use what isn't known -/
def Qn.free (E : Qn) (s : Nat) : Bool := E.stuck s || decide (E.many < E.blk)
/-- may a place not go -/
def Qn.held (E : Qn) (now : List Nat) (p : Nat) : Bool := decide (E.known ≤ p) || (decide (p ∈ now) || E.opn.any fun o => decide (p ∈ o.uses))
/-- is there room, or may there be made some: entries from the oldest on, the place of the first, what is left -/
def roomGo (E : Qn) (now : List Nat) (n : Nat) : List Fld → Nat → Nat → Bool
  | [], _, left => decide (n ≤ left)
  | f :: r, p, left => if n ≤ left then true else if E.held now p then false else roomGo E now n r (p + 1) (left + fsize f)
def Qn.room (E : Qn) (T : Tb) (now : List Nat) (f : Fld) : Bool :=
  if secret f.1 = true ∨ T.cap / 4 < fsize f then false else roomGo E now (fsize f) T.l T.first (T.cap - fsizes T.l)
/-- a line: 0 static, 1 dynamic, 2 a name's static place, 3 a name; the place; the field -/
structure Lq where
  kind : Nat
  i : Nat
  f : Fld
/-- a section under way: the table, the instructions, the lines, the places in use, the count -/
structure Wq where
  t : Tb
  out : Bytes
  lines : List Lq
  uses : List Nat
  count : Nat
def Wq.use (w : Wq) (f : Fld) (p : Nat) : Wq := { w with lines := w.lines ++ [⟨1, p, f⟩], uses := w.uses ++ [p], count := max w.count (p + 1) }
/-- the instruction for a field -/
def insB (q : Nat × Bool × Bool) (f : Fld) : Bytes := (if q.2.1 then pfx 192 6 q.1 else strc 96 64 5 f.1) ++ strc 128 0 7 f.2
def litQn (q : Nat × Bool × Bool) (f : Fld) : Lq := if q.2.1 then ⟨2, q.1, f⟩ else ⟨3, q.1, f⟩
/-- a field -/
def oneN (E : Qn) (fr : Bool) (w : Wq) (f : Fld) : Wq :=
  if (findS h3tab f).2.2 then { w with lines := w.lines ++ [⟨0, (findS h3tab f).1, f⟩] } else
  if (w.t.find f).2.2 then (if decide ((w.t.find f).1 < E.known) || fr then w.use f (w.t.find f).1 else { w with lines := w.lines ++ [litQn (findS h3tab f) f] }) else
  if E.room w.t w.uses f then
    (if fr then ({ w with t := w.t.add f, out := w.out ++ insB (findS h3tab f) f } : Wq).use f ((w.t.add f).n - 1)
     else { w with t := w.t.add f, out := w.out ++ insB (findS h3tab f) f, lines := w.lines ++ [litQn (findS h3tab f) f] })
  else { w with lines := w.lines ++ [litQn (findS h3tab f) f] }
def allN (E : Qn) (fr : Bool) (w : Wq) (l : List Fld) : Wq := l.foldl (oneN E fr) w
/-- a line's bytes -/
def lineN (count : Nat) (x : Lq) : Bytes :=
  if x.kind = 0 then pfx 192 6 x.i else if x.kind = 1 then pfx 128 6 (count - 1 - x.i) else
  (if x.kind = 2 then pfx (if secret x.f.1 then 112 else 80) 4 x.i else strc (if secret x.f.1 then 56 else 40) (if secret x.f.1 then 48 else 32) 3 x.f.1) ++ strc 128 0 7 x.f.2
def linesN (count : Nat) (l : List Lq) : Bytes := l.flatMap (lineN count)
/-- the section's own state at its beginning -/
def Qn.wq (E : Qn) : Wq := ⟨E.t, if E.begun = false ∧ 0 < E.t.cap then pfx 32 5 E.t.cap else [], [], [], 0⟩
/-- a section: the instructions, its bytes, what is left -/
def Qn.enc (E : Qn) (s : Nat) (l : List Fld) : (Bytes × Bytes) × Qn :=
  let w := allN E (E.free s) E.wq l
  ((w.out, prefQ w.count w.count E.t.cap ++ linesN w.count w.lines), { E with t := w.t, begun := true, opn := if 0 < w.count then E.opn ++ [⟨s, w.count, w.uses⟩] else E.opn })
/-- the first section of a stream goes -/
def ackGo (s : Nat) : List Qs → Option (Qs × List Qs)
  | [] => none
  | o :: r => if o.stream = s then some (o, r) else (ackGo s r).map fun x => (x.1, o :: x.2)
/-- an instruction of the other side's: an error, how many bytes, what is left -/
def Qn.ins (E : Qn) (r : Bytes) : Nat × Nat × Qn :=
  match rdp r (if 128 ≤ (r.headD 0).toNat then 7 else 6) with
  | (n, k, e) => if e ≠ 0 then (e, 0, E) else
    if 128 ≤ (r.headD 0).toNat then (match ackGo n E.opn with | none => (26, k, E) | some (o, r) => (0, k, { E with known := max E.known o.count, opn := r }))
    else if 64 ≤ (r.headD 0).toNat then (0, k, { E with opn := E.opn.filter fun o => decide (o.stream ≠ n) })
    else if n = 0 ∨ E.t.n - E.known < n then (26, k, E) else (0, k, { E with known := E.known + n })
def feedN : Nat → Qn → Bytes → Nat × Qn
  | _, E, [] => (0, { E with rest := [] })
  | 0, E, r => (0, { E with rest := r })
  | f + 1, E, c :: r =>
    match E.ins (c :: r) with
    | (e, k, E2) => if e = 0 then feedN f E2 ((c :: r).drop k) else if e = 20 then (0, { E with rest := c :: r }) else (e, { E with rest := c :: r, err := e })
def Qn.feed (E : Qn) (b : Bytes) : Nat × Qn := if E.err ≠ 0 then (E.err, E) else feedN (E.rest ++ b).length E (E.rest ++ b)

/-- without any word of the other side: at most as many sections need entries as may -/
structure BInv (E : Qn) (i k : Nat) : Prop where
  known : E.known = 0
  blk : E.blk = k
  nd : (E.opn.map (·.stream)).Nodup
  lt : ∀ o ∈ E.opn, o.stream < i ∧ 0 < o.count
  le : E.opn.length ≤ k
theorem firsts_all : ∀ (l : List Qs) (seen : List Nat), (l.map (·.stream)).Nodup → (∀ o ∈ l, o.stream ∉ seen) → firsts l seen = l.map (·.stream)
  | [], _, _, _ => rfl
  | o :: r, seen, hn, hs => by
    simp only [List.map_cons, List.nodup_cons] at hn
    unfold firsts
    rw [if_neg (hs o (List.mem_cons_self ..)), firsts_all r (o.stream :: seen) hn.2 (fun x hx hm => ?_)]
    · rfl
    · rcases List.mem_cons.1 hm with e | e
      · exact hn.1 (List.mem_map.2 ⟨x, hx, e⟩)
      · exact hs x (List.mem_cons_of_mem _ hx) e
theorem BInv.many {E : Qn} {i k : Nat} (h : BInv E i k) : E.many = E.opn.length := by
  unfold Qn.many
  rw [firsts_all E.opn [] h.nd (fun _ _ hm => by cases hm), List.filter_eq_self.2 (fun s hs => ?_), List.length_map]
  obtain ⟨o, ho, rfl⟩ := List.mem_map.1 hs
  unfold Qn.stuck
  rw [List.any_eq_true]
  exact ⟨o, ho, by simp [h.known, (h.lt o ho).2]⟩
theorem BInv.stuck {E : Qn} {i k : Nat} (h : BInv E i k) : E.stuck i = false := by
  unfold Qn.stuck
  rw [List.any_eq_false]
  intro o ho
  have := (h.lt o ho).1
  simp
  intro e
  omega
theorem oneN_zero (E : Qn) (hk : E.known = 0) (w : Wq) (f : Fld) (hw : w.count = 0) : (oneN E false w f).count = 0 := by
  unfold oneN
  simp only [hk, Nat.not_lt_zero, decide_false, Bool.or_false, Bool.false_eq_true, if_false]
  split
  · exact hw
  · split
    · exact hw
    · split <;> exact hw
theorem allN_zero (E : Qn) (hk : E.known = 0) : ∀ (l : List Fld) (w : Wq), w.count = 0 → (allN E false w l).count = 0
  | [], _, h => h
  | f :: r, w, h => allN_zero E hk r _ (oneN_zero E hk w f h)
/-- one more section -/
theorem BInv.step {E : Qn} {i k : Nat} (h : BInv E i k) (l : List Fld) : BInv (E.enc i l).2 (i + 1) k ∧ (E.enc i l).2.opn.length = E.opn.length + (if 0 < (allN E (E.free i) E.wq l).count then 1 else 0) := by
  by_cases hc : 0 < (allN E (E.free i) E.wq l).count
  · have hf : E.opn.length < k := by
      cases hfr : E.free i with
      | false =>
        rw [hfr, allN_zero E h.known l _ rfl] at hc
        omega
      | true =>
        unfold Qn.free at hfr
        rw [h.stuck, Bool.false_or, h.many, h.blk] at hfr
        exact of_decide_eq_true hfr
    have ho : (E.enc i l).2.opn = E.opn ++ [⟨i, (allN E (E.free i) E.wq l).count, (allN E (E.free i) E.wq l).uses⟩] := by unfold Qn.enc; simp only [if_pos hc]
    refine ⟨⟨h.known, h.blk, ?_, ?_, ?_⟩, by rw [ho, if_pos hc]; simp⟩
    · rw [ho, List.map_append, List.nodup_append]
      refine ⟨h.nd, by simp, fun a ha b hb e => ?_⟩
      obtain ⟨o, ho, rfl⟩ := List.mem_map.1 ha
      simp at hb
      have := (h.lt o ho).1
      omega
    · rw [ho]
      intro o hm
      rcases List.mem_append.1 hm with hm | hm
      · have := h.lt o hm; exact ⟨by omega, this.2⟩
      · rw [List.mem_singleton.1 hm]; exact ⟨Nat.lt_succ_self _, hc⟩
    · rw [ho, List.length_append]; simp; omega
  · have ho : (E.enc i l).2.opn = E.opn := by unfold Qn.enc; simp only [if_neg hc]
    refine ⟨⟨h.known, h.blk, by rw [ho]; exact h.nd, fun o hm => ?_, by rw [ho]; exact h.le⟩, by rw [ho, if_neg hc]; rfl⟩
    rw [ho] at hm
    have := h.lt o hm
    exact ⟨by omega, this.2⟩
/-- a section that needs nothing begins with nought -/
theorem enc_head (E : Qn) (i : Nat) (l : List Fld) (hc : (allN E (E.free i) E.wq l).count = 0) : ∃ r, (E.enc i l).1.2 = 0 :: r := by
  unfold Qn.enc prefQ encQ
  simp only [hc]
  refine ⟨_, rfl⟩
end Go.Proofs.Ytdgggjeiflllhaa.M
