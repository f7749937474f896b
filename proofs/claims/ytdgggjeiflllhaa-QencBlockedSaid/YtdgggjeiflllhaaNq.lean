/- qenc: what the other side says: acknowledged, grown. -/
import Derived.BigQuiet
import Derived.Deep.CutBlock
import Derived.Lib.Hide
import Derived.IntWalk
import Derived.StillTailTactics
import Derived.Test.YtdgggjeiflllhaaNo
import Derived.Test.YtdgggjeiflllhaaMem
namespace Go.Proofs.Ytdgggjeiflllhaa.M
open Go.ChangeShapes Go.WideShapes Go.ChangeAt Go.RowKit

theorem ackGo_none (s : Nat) : ∀ l : List Qs, ackGo s l = none → l.filter (fun o => decide (o.stream = s)) = []
  | [], _ => rfl
  | o :: r, h => by
    unfold ackGo at h
    by_cases e : o.stream = s
    · rw [if_pos e] at h; cases h
    · rw [if_neg e] at h
      rw [List.filter_cons_of_neg (by simpa using e)]
      exact ackGo_none s r (by simpa using h)
theorem ackGo_some (s : Nat) : ∀ (l : List Qs) (o : Qs) (r : List Qs), ackGo s l = some (o, r) → o.stream = s ∧ o ∈ l ∧ (∀ q ∈ r, q ∈ l) ∧ l.filter (fun o => decide (o.stream = s)) = o :: r.filter (fun o => decide (o.stream = s)) ∧ ∀ t, t ≠ s → r.filter (fun o => decide (o.stream = t)) = l.filter (fun o => decide (o.stream = t))
  | [], _, _, h => by cases h
  | x :: l, o, r, h => by
    unfold ackGo at h
    by_cases e : x.stream = s
    · rw [if_pos e] at h
      cases h
      refine ⟨e, List.mem_cons_self .., fun q hq => List.mem_cons_of_mem _ hq, List.filter_cons_of_pos (by simpa using e), fun t ht => ?_⟩
      rw [List.filter_cons_of_neg (by simp; omega)]
    · rw [if_neg e] at h
      cases hg : ackGo s l with
      | none => rw [hg] at h; cases h
      | some z =>
        rw [hg] at h
        obtain ⟨o2, r2⟩ := z
        simp only [Option.map_some, Option.some.injEq, Prod.mk.injEq] at h
        obtain ⟨rfl, rfl⟩ := h
        obtain ⟨h1, h2, h3, h4, h5⟩ := ackGo_some s l o2 r2 hg
        refine ⟨h1, List.mem_cons_of_mem _ h2, fun q hq => ?_, ?_, fun t ht => ?_⟩
        · rcases List.mem_cons.1 hq with q1 | q1
          · rw [q1]; exact List.mem_cons_self ..
          · exact List.mem_cons_of_mem _ (h3 q q1)
        · rw [List.filter_cons_of_neg (by simpa using e), List.filter_cons_of_neg (by simpa using e), h4]
        · by_cases q : x.stream = t
          · rw [List.filter_cons_of_pos (by simpa using q), List.filter_cons_of_pos (by simpa using q), h5 t ht]
          · rw [List.filter_cons_of_neg (by simpa using q), List.filter_cons_of_neg (by simpa using q), h5 t ht]
/-- the first section of a stream is acknowledged -/
def Qn.ack (E : Qn) (s : Nat) : Nat × Qn := match ackGo s E.opn with | none => (26, E) | some (o, r) => (0, { E with known := max E.known o.count, opn := r })
/-- so many entries more are known -/
def Qn.grow (E : Qn) (n : Nat) : Nat × Qn := if n = 0 ∨ E.t.n - E.known < n then (26, E) else (0, { E with known := E.known + n })
theorem ins_eq (E : Qn) (r : Bytes) : E.ins r = (if (rdp r (if 128 ≤ (r.headD 0).toNat then 7 else 6)).2.2 ≠ 0 then ((rdp r (if 128 ≤ (r.headD 0).toNat then 7 else 6)).2.2, 0, E) else
    if 128 ≤ (r.headD 0).toNat then ((E.ack (rdp r (if 128 ≤ (r.headD 0).toNat then 7 else 6)).1).1, (rdp r (if 128 ≤ (r.headD 0).toNat then 7 else 6)).2.1, (E.ack (rdp r (if 128 ≤ (r.headD 0).toNat then 7 else 6)).1).2)
    else if 64 ≤ (r.headD 0).toNat then (0, (rdp r (if 128 ≤ (r.headD 0).toNat then 7 else 6)).2.1, { E with opn := E.opn.filter fun o => decide (o.stream ≠ (rdp r (if 128 ≤ (r.headD 0).toNat then 7 else 6)).1) })
    else ((E.grow (rdp r (if 128 ≤ (r.headD 0).toNat then 7 else 6)).1).1, (rdp r (if 128 ≤ (r.headD 0).toNat then 7 else 6)).2.1, (E.grow (rdp r (if 128 ≤ (r.headD 0).toNat then 7 else 6)).1).2)) := by
  unfold Qn.ins
  rcases rdp r (if 128 ≤ (r.headD 0).toNat then 7 else 6) with ⟨n, k, e⟩
  simp only
  split
  · rfl
  split
  · unfold Qn.ack
    cases ackGo n E.opn <;> rfl
  split
  · rfl
  unfold Qn.grow
  split <;> rfl
section
variable {X S : Nat → Prop} {w w' w2 : World} {pe g bm cr c2 : Nat} {Ar A2 : Option Addr} {L L' : List (Nat × Ro)} {E : Qn} {opn' : List Qs} {r : Bytes}
theorem QnM.setpe (h : QnM X w pe g bm S Ar cr L E) (j : Nat) (u : Value) {E2 : Qn} (e1 : E2.t = E.t) (e2 : E2.opn = E.opn) (e3 : E2.rest = E.rest) (e4 : E2.known ≤ E.t.n) (e5 : E2.blk = E.blk)
    (hb : (#[.pointer (some ⟨g, 0, none⟩), .int .i64 E.blk, .int .u64 E.known, .map (some bm), .slice Ar E.rest.length cr, .bool E.begun, .int .i64 E.err] : Array Value).setIfInBounds j u = #[.pointer (some ⟨g, 0, none⟩), .int .i64 E2.blk, .int .u64 E2.known, .map (some bm), .slice Ar E2.rest.length cr, .bool E2.begun, .int .i64 E2.err]) :
    QnM X (w.setCell ⟨pe, j, none⟩ u) pe g bm S Ar cr L E2 := by
  have f : Frm (fun k => k = pe) w (w.setCell ⟨pe, j, none⟩ u) := (Frm.refl (fun k => k = pe) w).setCell (p := ⟨pe, j, none⟩) rfl _
  have hk := h.rows_keep f (fun k hk => .inl hk)
  exact { h with
    blk := by have := h.blk.set_ j u; rw [hb] at this; exact this
    tab := by rw [e1]; exact hk.2
    rows := hk.1
    map := h.map.keep f (fun e => h.mp e.symm)
    same := by rw [e2]; exact h.same
    all := by rw [e2]; exact h.all
    rest := by rw [e3]; exact h.rest.keep f (fun k hk e => (h.rs k hk).2.1 e)
    low := fun k hk => Nat.lt_of_lt_of_le (h.low k hk) f.size
    ok := by rw [e1]; exact h.ok
    cap := by rw [e1]; exact h.cap
    nb := by rw [e1]; exact h.nb
    kn := by rw [e1]; exact e4
    ctn := by rw [e1, e2]; exact h.ctn
    bl := by rw [e5]; exact h.bl
    rl := by rw [e3]; exact h.rl }
theorem QnM.setknown (h : QnM X w pe g bm S Ar cr L E) (n : Nat) (hn : n ≤ E.t.n) : QnM X (w.setCell ⟨pe, 2, none⟩ (.int .u64 (n : Int))) pe g bm S Ar cr L { E with known := n } :=
  h.setpe 2 _ rfl rfl rfl hn rfl (by simp)
theorem QnM.seterr (h : QnM X w pe g bm S Ar cr L E) (n : Nat) : QnM X (w.setCell ⟨pe, 6, none⟩ (.int .i64 (n : Int))) pe g bm S Ar cr L { E with err := n } :=
  h.setpe 6 _ rfl rfl rfl h.kn rfl (by simp)
/-- the map is another one, its rows less -/
theorem QnM.remap (h : QnM X w pe g bm S Ar cr L E) (hm : MapIs w' bm ukey (entsR L')) (f : Frm (· = bm) w w') (nd : (L'.map (·.1)).Nodup)
    (hrow : ∀ x ∈ L', ∃ y ∈ L, y.1 = x.1 ∧ M.blk x.2.A = M.blk y.2.A ∧ RoM X w x.2 ∧ ∀ z ∈ x.2.l, z ∈ y.2.l) (same : ∀ x ∈ L', x.2.l.map (·.1) = opn'.filter fun o => decide (o.stream = x.1))
    (all : ∀ o ∈ opn', o.stream ∈ L'.map (·.1)) (sub : ∀ o ∈ opn', o ∈ E.opn) : QnM X w' pe g bm S Ar cr L' { E with opn := opn' } :=
  { blk := h.blk.keep f h.mp
    tab := h.tab.keep f (fun k hk e => h.ms (e ▸ hk))
    map := hm, nd := nd
    rows := fun x hx => by
      obtain ⟨y, hy, _, hb, hR, hz⟩ := hrow x hx
      exact { hR with
        app := hR.app.keep f (fun k hk e => (h.ro y hy k (hb ▸ hk)).2.2.1 e)
        use_ := fun z hzx => by
          obtain ⟨q1, ents, q2⟩ := hR.use_ z hzx
          exact ⟨q1, ents, { q2 with map := q2.map.keep f (fun e => (h.us y hy z (hz z hzx)).2.2.1 e) }⟩ }
    same := same, all := all
    rest := h.rest.keep f (fun k hk e => (h.rs k hk).2.2 e)
    low := fun k hk => Nat.lt_of_lt_of_le (h.low k hk) f.size
    xp := h.xp, xm := h.xm, xs := h.xs, ps := h.ps, ms := h.ms, mp := h.mp, rs := h.rs
    ro := fun x hx k hk => by
      obtain ⟨y, hy, _, hb, _⟩ := hrow x hx
      exact h.ro y hy k (hb ▸ hk)
    us := fun x hx z hzx => by
      obtain ⟨y, hy, _, _, _, hz⟩ := hrow x hx
      exact h.us y hy z (hz z hzx)
    rr := by
      rw [List.pairwise_iff_getElem]
      intro i j hi hj hij
      obtain ⟨y, hy, hyk, hyb, _⟩ := hrow L'[i] (List.getElem_mem hi)
      obtain ⟨z, hz, hzk, hzb, _⟩ := hrow L'[j] (List.getElem_mem hj)
      rw [hyb, hzb]
      have hne : L'[i].1 ≠ L'[j].1 := by
        have := List.pairwise_iff_getElem.1 nd i j (by simpa using hi) (by simpa using hj) hij
        simpa using this
      obtain ⟨a, ha, rfl⟩ := List.getElem_of_mem hy
      obtain ⟨b, hb, rfl⟩ := List.getElem_of_mem hz
      have hab : a ≠ b := fun e => by subst e; exact hne (hyk.symm.trans hzk)
      rcases Nat.lt_or_gt_of_ne hab with q | q
      · exact List.pairwise_iff_getElem.1 h.rr a b ha hb q
      · exact fun e => List.pairwise_iff_getElem.1 h.rr b a hb ha q e.symm
    ok := h.ok, cap := h.cap, nb := h.nb, kn := h.kn, ctn := fun o ho => h.ctn o (sub o ho), bl := h.bl, rl := h.rl }
end
theorem entsR_del (s : Nat) : ∀ L : List (Nat × Ro), entsR (delE s L) = delE s (entsR L)
  | [] => rfl
  | x :: t => by
    show entsR (delE s (x :: t)) = delE s ((x.1, x.2.v) :: entsR t)
    unfold delE
    simp only
    split
    · rfl
    · show (x.1, x.2.v) :: entsR (delE s t) = _
      rw [entsR_del s t]
theorem del_put {ν : Type} (s : Nat) (r : ν) : ∀ L : List (Nat × ν), s ∈ L.map (·.1) → delE s (putE s r L) = delE s L
  | [], h => by cases h
  | x :: t, h => by
    unfold putE
    by_cases e : s = x.1
    · rw [if_pos e]; unfold delE; rw [if_pos e, if_pos e]
    · rw [if_neg e]; unfold delE; rw [if_neg e, if_neg e, del_put s r t (by simpa [e] using h)]
theorem mem_del_ne {ν : Type} (s : Nat) : ∀ (L : List (Nat × ν)), (L.map (·.1)).Nodup → ∀ x ∈ delE s L, x ∈ L ∧ x.1 ≠ s := fun L hn x hx =>
  ⟨mem_delE s L x hx, fun e => by
    have h1 : x.1 ∈ (delE s L).map (·.1) := List.mem_map.2 ⟨x, hx, rfl⟩
    rw [delE_keys s L hn, List.mem_filter] at h1
    simp [e] at h1⟩
end Go.Proofs.Ytdgggjeiflllhaa.M
