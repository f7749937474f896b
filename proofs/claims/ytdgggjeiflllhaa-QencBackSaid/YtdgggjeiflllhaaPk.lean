/- QencBack: what the encoder writes are right instructions; the encoder and the document's decoder side by side; truths as argument. No condition. QencBack: a round in plain words: what is written is read, what is sent is taken; how great it all is. No condition. QencBack: the walk. No condition. -/
import Derived.BigQuiet
import Derived.Test.YtdgggjeiflllhaaPa
import Derived.Test.YtdgggjeiflllhaaPi
import Derived.Test.YtdgggjeiflllhaaNu
import Derived.IntWalk
import Derived.Deep.CutBlock
import Derived.Deep.LoopGhost
import Derived.Below
namespace Go.Proofs.Ytdgggjeiflllhaa.M
open Go.ChangeShapes Go.WideShapes Go.ChangeAt Go.RowKit

theorem right_ins (lim : Nat) {T T2 : Tb} (f : Fld) (r : Bytes) (h1 : f.1.length ≤ 4096) (h2 : f.2.length ≤ 4096) (hc : fsize f ≤ T.cap) (h : Right lim (T.add f) r T2) : Right lim T (insB (findS h3tab f) f ++ r) T2 := by
  have hg := (findS_get h3tab f).2
  have hq1 := findS_le h3tab f
  rw [h3_len.2.2] at hq1
  generalize findS h3tab f = q at *
  obtain ⟨q1, q2, q3⟩ := q
  simp only at hg hq1
  have hv := strD_strc f.2 r h2
  unfold insB
  cases q2 with
  | true =>
    obtain ⟨⟨g1, g2⟩, hg1, hg2⟩ := hg rfl
    simp only at hg2
    subst hg2
    simp only [if_true]
    rw [List.append_assoc]
    have h3 := rdp_pfx 192 6 q1 (strc 128 0 7 f.2 ++ r) (by omega) (by omega) (by omega)
    have h4 : ((pfx 192 6 q1 ++ (strc 128 0 7 f.2 ++ r)).headD 0).toNat / 64 = 3 := pfx_headD 192 6 q1 (strc 128 0 7 f.2 ++ r) (by omega) (by omega)
    have hd : strD ((pfx 192 6 q1 ++ (strc 128 0 7 f.2 ++ r)).drop (pfx 192 6 q1).length) 7 = (f.2, (strc 128 0 7 f.2).length, 0) := by rw [List.drop_left]; exact hv
    refine .named (by omega) h3 hg1 hd hc ?_
    rw [← List.append_assoc, show (pfx 192 6 q1).length + (strc 128 0 7 f.2).length = (pfx 192 6 q1 ++ strc 128 0 7 f.2).length by rw [List.length_append], List.drop_left]
    exact h
  | false =>
    simp only [Bool.false_eq_true, if_false]
    rw [List.append_assoc]
    have h3 := strD_strc2 96 64 5 (by omega) (by omega) (by omega) (by decide) (by decide) f.1 (strc 128 0 7 f.2 ++ r) h1
    have h4 : 64 ≤ ((strc 96 64 5 f.1 ++ (strc 128 0 7 f.2 ++ r)).headD 0).toNat ∧ ((strc 96 64 5 f.1 ++ (strc 128 0 7 f.2 ++ r)).headD 0).toNat < 128 := by
      generalize strc 128 0 7 f.2 ++ r = t
      unfold strc
      split
      · rw [List.append_assoc]
        have : ((pfx 96 5 (hlen f.1) ++ (hcode f.1 ++ t)).headD 0).toNat / 32 = 3 := pfx_headD 96 5 (hlen f.1) _ (by omega) (by omega)
        omega
      · rw [List.append_assoc]
        have : ((pfx 64 5 f.1.length ++ (f.1 ++ t)).headD 0).toNat / 32 = 2 := pfx_headD 64 5 f.1.length _ (by omega) (by omega)
        omega
    have hd : strD ((strc 96 64 5 f.1 ++ (strc 128 0 7 f.2 ++ r)).drop (strc 96 64 5 f.1).length) 7 = (f.2, (strc 128 0 7 f.2).length, 0) := by rw [List.drop_left]; exact hv
    refine .lit h4.1 h4.2 h3 hd hc ?_
    rw [← List.append_assoc, show (strc 96 64 5 f.1).length + (strc 128 0 7 f.2).length = (strc 96 64 5 f.1 ++ strc 128 0 7 f.2).length by rw [List.length_append], List.drop_left]
    exact h
theorem right_size (lim : Nat) {T T2 : Tb} (c : Nat) (r : Bytes) (hc : c ≤ lim) (hl : lim ≤ 4096) (h : Right lim (T.resize c) r T2) : Right lim T (pfx 32 5 c ++ r) T2 := by
  have h3 := rdp_pfx 32 5 c r (by omega) (by omega) (by omega)
  have h4 : ((pfx 32 5 c ++ r).headD 0).toNat / 32 = 1 := pfx_headD 32 5 c r (by omega) (by omega)
  refine .size (by omega) (by omega) h3 hc ?_
  rw [List.drop_left]
  exact h
/-- the instructions so far are right ones -/
def Rt (W : Wq) (lim : Nat) (T0 : Tb) : Prop := ∀ r T2, Right lim W.t r T2 → Right lim T0 (W.out ++ r) T2
theorem Rt.ins {W : Wq} {lim : Nat} {T0 : Tb} (h : Rt W lim T0) (f : Fld) (h1 : f.1.length ≤ 4096) (h2 : f.2.length ≤ 4096) (hc : fsize f ≤ W.t.cap) (l : List Lq) (u : List Nat) (c : Nat) : Rt ⟨W.t.add f, W.out ++ insB (findS h3tab f) f, l, u, c⟩ lim T0 := fun r T2 hr => by
  show Right lim T0 (W.out ++ insB (findS h3tab f) f ++ r) T2
  rw [List.append_assoc]
  exact h _ _ (right_ins lim f r h1 h2 hc hr)
theorem Rt.one {E : Qn} {W : Wq} {lim : Nat} {T0 : Tb} (h : Rt W lim T0) (fr : Bool) (f : Fld) (h1 : f.1.length ≤ 4096) (h2 : f.2.length ≤ 4096) : Rt (oneN E fr W f) lim T0 := by
  unfold oneN
  by_cases a : (findS h3tab f).2.2 = true
  · rw [if_pos a]; exact h
  rw [if_neg a]
  by_cases b : (W.t.find f).2.2 = true
  · rw [if_pos b]; split <;> exact h
  rw [if_neg b]
  by_cases c : E.room W.t W.uses f = true
  · rw [if_pos c]
    split
    · exact h.ins f h1 h2 (room_cap c) _ _ _
    · exact h.ins f h1 h2 (room_cap c) _ _ _
  · rw [if_neg c]; exact h
theorem Rt.all {E : Qn} {lim : Nat} {T0 : Tb} (fr : Bool) : ∀ (k : List Fld) (W : Wq), Rt W lim T0 → (∀ f ∈ k, Fit f) → Rt (allN E fr W k) lim T0
  | [], _, h, _ => h
  | f :: k, W, h, hF => Rt.all fr k (oneN E fr W f) (h.one fr f (hF f (List.mem_cons_self ..)).1 (hF f (List.mem_cons_self ..)).2) (fun x hx => hF x (List.mem_cons_of_mem _ hx))
theorem Rt.start {E : Qn} {lim : Nat} (hlim : lim ≤ 4096) (hl : E.t.cap ≤ lim) (hf : E.begun = false → E.t = ⟨[], 0, E.t.cap⟩) : Rt E.wq lim E.far := fun r T2 hr => by
  unfold Qn.wq Qn.far at *
  cases hb : E.begun with
  | true => simpa using hr
  | false =>
    have hE := hf hb
    simp only [Bool.false_eq_true, if_false, true_and] at hr ⊢
    by_cases hc : 0 < E.t.cap
    · rw [if_pos hc]
      refine right_size lim E.t.cap r hl hlim ?_
      rw [show (⟨[], 0, 0⟩ : Tb).resize E.t.cap = E.t from hE.symm]
      exact hr
    · rw [if_neg hc, List.nil_append]
      rw [show E.t.cap = 0 by omega] at hE
      rw [← hE]
      exact hr
/-- a section's instructions are right ones -/
theorem Qn.right {E : Qn} {lim : Nat} (hlim : lim ≤ 4096) (hl : E.t.cap ≤ lim) (hf : E.begun = false → E.t = ⟨[], 0, E.t.cap⟩) (s : Nat) (l : List Fld) (hF : ∀ f ∈ l, Fit f) : Right lim E.far (E.enc s l).1.1 (E.enc s l).2.t := by
  have := Rt.all (E := E) (E.free s) l E.wq (Rt.start hlim hl hf) hF [] _ (.nil _)
  rw [List.append_nil] at this
  exact this
/-- the encoder and the document's decoder, both made by the call -/
structure QBk (w0 w : World) (Xe : Nat → Prop) (pe g bm : Nat) (E : Qn) (Xd : Nat → Prop) (pd gd : Nat) (S : Nat → Prop) (Ar : Option Addr) (cr : Nat) (Ao : Option Addr) (co : Nat) (D : Qd) : Prop where
  e : QNt w0 w Xe pe g bm E
  d : RqM Xd w pd gd S Ar cr [] Ao co D
  low : ∀ k, Xd k → w0.heap.size ≤ k
  dis : ∀ k, Xe k → ¬ Xd k
section
variable {w0 w w' : World} {Xe Xe' Xd Xd' S S' : Nat → Prop} {pe g bm pd gd cr cr' co co' : Nat} {E E' : Qn} {Ar Ar' Ao Ao' : Option Addr} {D D' : Qd}
theorem QBk.fresh (h : QBk w0 w Xe pe g bm E Xd pd gd S Ar cr Ao co D) (f : Frm (New w) w w') : QBk w0 w' Xe pe g bm E Xd pd gd S Ar cr Ao co D := ⟨h.e.fresh f, h.d.fresh f, h.low, h.dis⟩
theorem QBk.enc (h : QBk w0 w Xe pe g bm E Xd pd gd S Ar cr Ao co D) (he : QNt w0 w' Xe' pe g bm E') (f : Frm (Own Xe w) w w') (hs : ∀ k, Xe' k → Own Xe w k) : QBk w0 w' Xe' pe g bm E' Xd pd gd S Ar cr Ao co D :=
  ⟨he, h.d.keep f (fun k hk e => by
    rcases e with e | e
    · exact h.dis k e hk
    · have := h.d.low k hk; have e : w.heap.size ≤ k := e; omega) (fun _ _ e => absurd rfl e), h.low, fun k hk hd => by
    rcases hs k hk with e | e
    · exact h.dis k e hd
    · have := h.d.low k hd; have e : w.heap.size ≤ k := e; omega⟩
theorem QBk.dec (h : QBk w0 w Xe pe g bm E Xd pd gd S Ar cr Ao co D) (hd : RqM Xd' w' pd gd S' Ar' cr' [] Ao' co' D') (f : Frm (Own Xd w) w w') (hs : ∀ k, Xd' k → Own Xd w k) : QBk w0 w' Xe pe g bm E Xd' pd gd S' Ar' cr' Ao' co' D' := by
  have hno : ∀ k, Xe k → ¬ Own Xd w k := fun k hk e => by
    rcases e with e | e
    · exact h.dis k hk e
    · have := h.e.blow k hk; have e : w.heap.size ≤ k := e; omega
  have hl : ∀ k, Own Xd w k → New w0 k := fun k hk => by
    rcases hk with e | e
    · exact h.low k e
    · exact Nat.le_trans h.e.frm.size e
  obtain ⟨⟨Se, Are, cre, L, h1⟩, h2, h3⟩ := h.e
  exact ⟨⟨⟨Se, Are, cre, L, h1.keep f hno⟩, h2.trans (f.mono hl), h3⟩, hd, fun k hk => hl k (hs k hk), fun k hk e => hno k hk (hs k e)⟩
end
theorem own_apart {w : World} {Xd : Nat → Prop} {k : Nat} (hk : k < w.heap.size) (hn : ¬ Xd k) : ¬ Own Xd w k := fun e => by
  rcases e with e | e
  · exact hn e
  · have e : w.heap.size ≤ k := e; omega
section
variable {W : World} {H : Type} {en : TypeId × Value → H} {base : Nat} {spare : Nat → Bool} {held : Bool}
theorem bools_trod {fuel : Nat} {v : Value} {x : DataW H × List MemPlace} (h : DataW.trod en Try.prog W base spare held fuel 24 [v] = some x) (hw : ∀ q ∈ x.1.weights Try.prog 24, q ≤ reachBytes) :
    ∃ (A : Option Addr) (n c : Nat) (l : List Bool), v = .slice A n c ∧ AIn W (fun b : Bool => [.bool b]) (fun _ => True) A n c l :=
  rows_trod Try.underlying24 (k := 1) (by kernel_rfl) (by omega) (fun b : Bool => [.bool b]) (fun _ => rfl) (fun _ => True)
    (fun fu cs y hy _ => by
      obtain ⟨b, e, _⟩ := DataW.trod_bool Try.underlying4 hy
      exact ⟨b, e, trivial⟩) h hw
end
end Go.Proofs.Ytdgggjeiflllhaa.M
namespace Go.Proofs.Ytdgggjeiflllhaa.M
open Go.ChangeShapes Go.WideShapes Go.ChangeAt Go.RowKit

theorem SyQ.enc2 {E : Qn} {D : Qd} (h : SyQ E D) (s : Nat) (hs : s ≤ 4611686018427387903) (l : List Fld) (hF : ∀ f ∈ l, Fit f) :
    SyQ (E.enc s l).2 { D with t := (E.enc s l).2.t, out := if 0 < (allN E (E.free s) E.wq l).count then D.out ++ pfx 128 7 s else D.out, told := if 0 < (allN E (E.free s) E.wq l).count then max D.told (allN E (E.free s) E.wq l).count else D.told } := by
  have hS := Qn.sent (lim := D.lim) h.ok h.cap (by rw [h.lim]; exact h.cap) (by rw [h.lim]; exact Nat.le_refl _) h.fresh s l hF
  unfold Qn.enc
  simp only
  generalize hW : allN E (E.free s) E.wq l = W at *
  have h1 := hS.inv.ct
  have h0 := hS.rd.ge
  exact {
    err := h.err, erest := h.erest, bad := h.bad, rest := h.rest
    lim := by show D.lim = W.t.cap; rw [hS.inv.tc]; exact h.lim
    tab := by show W.t = _; rfl
    fresh := fun e => by cases e
    out := by
      show (if 0 < W.count then D.out ++ pfx 128 7 s else D.out) = _
      simp only
      split
      · rw [List.flatMap_append, h.out]; simp
      · exact h.out
    told := by
      show (if 0 < W.count then max D.told W.count else D.told) = _
      simp only
      split
      · rw [List.foldl_append, h.told]; rfl
      · exact h.told
    ok := hS.inv.ok
    cap := by show W.t.cap ≤ 4096; rw [hS.inv.tc]; exact h.cap
    kn := by have := h.kn; show E.known ≤ W.t.n; omega
    ct := fun o ho => by
      have hold : ∀ o ∈ E.opn, o.count ≤ W.t.n ∧ o.stream ≤ 4611686018427387903 := fun o ho => ⟨by have := (h.ct o ho).1; omega, (h.ct o ho).2⟩
      show o.count ≤ W.t.n ∧ _
      simp only at ho
      split at ho
      · rcases List.mem_append.1 ho with ho | ho
        · exact hold o ho
        · rw [List.mem_singleton.1 ho]; exact ⟨h1, hs⟩
      · exact hold o ho }
theorem acks_len : ∀ L : List Qs, (L.flatMap fun o => pfx 128 7 o.stream).length ≤ 12 * L.length
  | [] => Nat.le_refl _
  | o :: L => by
    have := acks_len L
    have := pfx_length 128 7 o.stream
    rw [List.flatMap_cons, List.length_append, List.length_cons]
    omega
theorem SyQ.olen {E : Qn} {D : Qd} (h : SyQ E D) : D.out.length ≤ 12 * E.opn.length := by rw [h.out]; exact acks_len _
theorem linesN_len (ct : Nat) : ∀ l : List Lq, (∀ x ∈ l, x.f.1.length + x.f.2.length ≤ 100000) → (linesN ct l).length ≤ 600000 * l.length
  | [], _ => Nat.le_refl _
  | x :: l, h => by
    have h1 := linesN_len ct l (fun y hy => h y (List.mem_cons_of_mem _ hy))
    have h2 := lineN_le ct x (h x (List.mem_cons_self ..))
    show (lineN ct x ++ linesN ct l).length ≤ _
    rw [List.length_append, List.length_cons]
    omega
/-- a round, up to what is sent back -/
structure Rnd (E : Qn) (D : Qd) (s : Nat) (l : List Fld) (ins sec : Bytes) (E2 : Qn) (W : Wq) : Prop where
  e : E.enc s l = ((ins, sec), E2)
  r : Right D.lim D.t ins E2.t
  se : sec = prefQ W.count W.count D.lim ++ linesN W.count W.lines
  w : W.lines.map (·.f) = l
  c0 : W.count ≤ E2.t.n
  c1 : 0 < W.count → E2.t.n < W.count + mostQ D.lim ∧ 0 < mostQ D.lim
  ok : ∀ x ∈ W.lines, LineOk E2.t W.count x
  n64 : W.lines.length ≤ 64
  sy : SyQ E2 { D with t := E2.t, out := if 0 < W.count then D.out ++ pfx 128 7 s else D.out, told := if 0 < W.count then max D.told W.count else D.told }
  ol : E2.opn.length ≤ E.opn.length + 1
  n : E2.t.n ≤ E.t.n + l.length
  il : ins.length ≤ 1000 + 21000 * l.length
  sl : sec.length ≤ 100 + 600000 * l.length
theorem SyQ.rnd {E : Qn} {D : Qd} (h : SyQ E D) (s : Nat) (hs : s ≤ 4611686018427387903) (l : List Fld) (hl : l.length ≤ 64) (hF : ∀ f ∈ l, Fit f) (hn : E.t.n + l.length ≤ 1152921504606846976) :
    Rnd E D s l (E.enc s l).1.1 (E.enc s l).1.2 (E.enc s l).2 (allN E (E.free s) E.wq l) := by
  have hS := Qn.sent (lim := D.lim) h.ok h.cap (by rw [h.lim]; exact h.cap) (by rw [h.lim]; exact Nat.le_refl _) h.fresh s l hF
  have hr := Qn.right (lim := D.lim) (by rw [h.lim]; exact h.cap) (by rw [h.lim]; exact Nat.le_refl _) h.fresh s l hF
  have ht : (E.enc s l).2.t = (allN E (E.free s) E.wq l).t := rfl
  refine { e := rfl, r := by rw [h.tab]; exact hr, se := by rw [h.lim]; rfl, w := hS.rd.fs, c0 := by rw [ht]; exact hS.inv.ct, c1 := fun e => by rw [ht, h.lim]; exact hS.wind e, ok := by rw [ht]; exact hS.lines hn (fun p f e => e), n64 := by rw [hS.inv.ll]; exact hl, sy := h.enc2 s hs l hF, ol := ?_, n := by rw [ht]; exact hS.inv.tn, il := ?_, sl := ?_ }
  · show (if 0 < (allN E (E.free s) E.wq l).count then E.opn ++ [(⟨s, (allN E (E.free s) E.wq l).count, (allN E (E.free s) E.wq l).uses⟩ : Qs)] else E.opn).length ≤ _
    split
    · rw [List.length_append]; exact Nat.le_refl _
    · omega
  · exact hS.inv.ol
  · show (prefQ _ _ _ ++ linesN _ _).length ≤ _
    have h1 := (prefQ_le (allN E (E.free s) E.wq l).count (allN E (E.free s) E.wq l).count E.t.cap).1
    have h2 := linesN_len (allN E (E.free s) E.wq l).count (allN E (E.free s) E.wq l).lines (fun x hx => by have := hS.inv.lf x hx; unfold Fit at this; omega)
    rw [hS.inv.ll] at h2
    rw [List.length_append]
    omega
theorem light_fit {l : List Fld} (h : light l = true) : ∀ f ∈ l, Fit f := fun f hf => by
  have h1 := lsum_in hf
  have h2 := of_decide_eq_true h
  unfold Fit
  omega
theorem SyQ.new (c b : Nat) (hc : c ≤ 4096) : SyQ (Qn.new c b) (Qd.new c b) :=
  { err := rfl, erest := rfl, bad := rfl, rest := rfl, lim := rfl, tab := rfl, fresh := fun _ => rfl, out := rfl, told := rfl, ok := ⟨Nat.le_refl _, Nat.zero_le _⟩, cap := hc, kn := Nat.le_refl _, ct := fun o ho => by cases ho }
theorem bool_get {W : World} {A : Option Addr} {l : List Bool} (h : Rd W A (l.flatMap fun b : Bool => [.bool b])) (k : Nat) (hk : k < l.length) : ∃ g off, A = some ⟨g, off, none⟩ ∧ W.cell? ⟨g, off + k, none⟩ = some (.bool l[k]) := by
  have h1 := flatL_get (fun b : Bool => [.bool b]) 1 (fun _ => rfl) l k 0 hk (by omega)
  rw [Nat.mul_one, Nat.add_zero] at h1
  exact h k _ h1
end Go.Proofs.Ytdgggjeiflllhaa.M
namespace Go.Proofs.Ytdgggjeiflllhaa.M
open Go.ChangeShapes Go.WideShapes Go.ChangeAt Go.RowKit

theorem SyQ.tn {E : Qn} {D : Qd} (h : SyQ E D) : D.t.n = E.t.n := by
  rw [h.tab]
  unfold Qn.far
  split
  · rfl
  · rename_i hb
    rw [h.fresh (by cases hq : E.begun with | true => exact absurd hq hb | false => rfl)]
theorem SyQ.none {E : Qn} {D : Qd} (h : SyQ E D) (ho : D.out = []) : E.opn = [] := by
  have h1 := h.out
  rw [ho] at h1
  cases hq : E.opn with
  | nil => rfl
  | cons o L =>
    rw [hq, List.flatMap_cons] at h1
    exact absurd (List.append_eq_nil_iff.1 h1.symm).1 (by have := pfx_pos 128 7 o.stream; intro e; rw [e] at this; simp at this)
theorem send_len (D : Qd) : D.send.1.length ≤ D.out.length + 12 := by
  unfold Qd.send
  simp only
  split
  · rw [List.length_append]; have := pfx_length 0 6 (D.t.n - D.told); omega
  · omega
theorem tmod_in (n : Int) (k : Int) (hk : 0 < k) : -k < Int.tmod n k ∧ Int.tmod n k < k := by
  rcases Int.le_total 0 n with h | h
  · rw [Int.tmod_eq_emod_of_nonneg h]
    have h1 := Int.emod_nonneg n (show k ≠ 0 by omega)
    have h2 := Int.emod_lt_of_pos n hk
    omega
  · have h0 : Int.tmod n k = -(Int.tmod (-n) k) := by rw [Int.neg_tmod]; omega
    rw [h0, Int.tmod_eq_emod_of_nonneg (by omega)]
    have h1 := Int.emod_nonneg (-n) (show k ≠ 0 by omega)
    have h2 := Int.emod_lt_of_pos (-n) hk
    omega
set_option maxRecDepth 100000 in
set_option maxHeartbeats 16000000 in
theorem back_walk (n b : Int) (A1 : Option Addr) (n1 c1 : Nat) (L : List (Sl Fld)) (A2 : Option Addr) (n2 c2 : Nat) (St : Bytes) (A3 : Option Addr) (n3 c3 : Nat) (Ak : List Bool) (W : World) (hv : (Lit.int .i64 n).wf = true) (hvb : (Lit.int .i64 b).wf = true)
    (h1 : AIn W Sl.cells (fun s => AIn W fcells FldOk s.A s.l.length s.c s.l) A1 n1 c1 L) (h2 : BIn W A2 n2 c2 St) (h3 : AIn W (fun b : Bool => [.bool b]) (fun _ => True) A3 n3 c3 Ak) :
    Calls Try.prog 3 #[.int .i64 n, .int .i64 b, .slice A1 n1 c1, .slice A2 n2 c2, .slice A3 n3 c3] W fun e w' => e = .returned (.bool true) ∧ Below W.heap.size W w' := by
  obtain ⟨hn1, hR1, hcap1, hmax1, hok1⟩ := h1
  obtain ⟨hn2, hR2, _, _, hcap2, hmax2⟩ := h2
  obtain ⟨hn3, hR3, hcap3, hmax3, _⟩ := h3
  subst hn1 hn2 hn3
  unfold maxLen at hmax1 hmax2 hmax3
  obtain ⟨a0, a1⟩ := bounds_i64 hv
  obtain ⟨b0, b1⟩ := bounds_i64 hvb
  obtain ⟨c, hc⟩ : ∃ c : Nat, c = (min (max (Int.tmod n 5000) 0) 4096).toNat := ⟨_, rfl⟩
  have hc4 : c ≤ 4096 := by omega
  obtain ⟨m, hm⟩ : ∃ m, m = Int.tmod n 5000 := ⟨_, rfl⟩
  have hm5 : -5000 < m ∧ m < 5000 := by rw [hm]; exact tmod_in n 5000 (by omega)
  obtain ⟨d, hd⟩ : ∃ d, d = Int.tmod b 6 := ⟨_, rfl⟩
  have hd6 : -6 < d ∧ d < 6 := by rw [hd]; exact tmod_in b 6 (by omega)
  rw [← hm] at hc
  clear hv hvb
  have hwm : IntKind.i64.wrap m = m := IntWalk.i64_in _ (by omega)
  have hwd : IntKind.i64.wrap d = d := IntWalk.i64_in _ (by omega)
  obtain ⟨kb, hkb⟩ : ∃ kb : Nat, kb = (max d 0).toNat := ⟨_, rfl⟩
  have HR1 := Lib.hid hR1
  have HOK1 := Lib.hid hok1
  have HR2 := Lib.hid hR2
  have HR3 := Lib.hid hR3
  have HC := Lib.hid hc
  have HKB := Lib.hid hkb
  have HM := Lib.hid hm
  have HD := Lib.hid hd
  clear hR1 hok1 hR2 hR3 hc hkb hm hd
  go_enter Try.func3, Try.ntmps3
  go_wp2_with (fail)
  refine (known9_any _).mono ?_
  rintro e w1 ⟨rfl, hF1⟩
  have HF1 := Lib.hid hF1
  clear hF1
  by_cases q1 : 8 < L.length
  · go_wp2
    go_ret
    exact ⟨rfl, HF1.out.below⟩
  by_cases q2 : St.length < L.length
  · go_wp2
    go_ret
    exact ⟨rfl, HF1.out.below⟩
  by_cases q3 : Ak.length < L.length
  · go_wp2
    go_ret
    exact ⟨rfl, HF1.out.below⟩
  go_upto_region 5 with (fail)
  go_cut [0, 1] from 38 to 43 (fun v0 v1 w' => v0 = .int .i64 (c : Int) ∧ v1 = .int .i64 d ∧ w' = w1)
  case first =>
    have hm := HM.out
    have hd := HD.out
    by_cases hm0 : m < 0
    · have e : c = 0 := by have := HC.out; omega
      subst e
      have hz : max m 0 = 0 := by omega
      go_wp2
      all_goals first
        | (exfalso; omega)
        | (go_meet; exact ⟨rfl, by rw [hd], rfl⟩)
    · by_cases hm4 : 4096 < m
      · have e : c = 4096 := by have := HC.out; omega
        subst e
        go_wp2
        all_goals first
          | (exfalso; omega)
          | (go_meet; exact ⟨rfl, by rw [hd], rfl⟩)
      · have e : m = (c : Int) := by have := HC.out; omega
        go_wp2
        all_goals first
          | (exfalso; omega)
          | (go_meet; exact ⟨by rw [← e, hm], by rw [hd], rfl⟩)
  case rest =>
    obtain ⟨rfl, rfl, hw2⟩ := hcut
    rename World => w2
    rw [hw2]
    clear hw2 w2
    go_upto_region 6 with (fail)
    go_cut [11, 12] from 44 to 50 (fun v11 v12 w' => ∃ (Xe : Nat → Prop) (pe g bm : Nat) (Xd : Nat → Prop) (pd gd : Nat) (S : Nat → Prop), v11 = .pointer (some ⟨pe, 0, none⟩) ∧ v12 = .pointer (some ⟨pd, 0, none⟩) ∧ Hid (QBk W w' Xe pe g bm (Qn.new c kb) Xd pd gd S none 0 none 0 (Qd.new c kb)))
    case first =>
      have hlc : lim (c : Int) = c := by unfold lim; omega
      have hkd : (max d 0).toNat = kb := HKB.out.symm
      have hnew := kqn_new (c : Int) d (by omega) (by omega) (by omega) (by omega) W w1 HF1.out
      rw [hlc, hkd] at hnew
      have hdn : ∀ w' v, v = (kb : Int) → Calls Try.prog 12 #[.int .i64 (c : Int), .int .i64 v] w' fun e w2 => ∃ (X : Nat → Prop) (pd g : Nat) (S : Nat → Prop), e = .returned (.pointer (some ⟨pd, 0, none⟩)) ∧ RqM X w2 pd g S none 0 [] none 0 (Qd.new c kb) ∧ Frm (New w') w' w2 ∧ ∀ k, X k → w'.heap.size ≤ k := fun w' v hv => by
        subst hv
        have := dqnew_any (c : Int) (kb : Int) (by omega) (by omega) (by omega) (by have := HKB.out; omega) w'
        rw [hlc, show (max (kb : Int) 0).toNat = kb by omega] at this
        exact this
      have HNEW := Lib.hid hnew
      have HDN := Lib.hid hdn
      clear hnew hdn
      go_wp2_with (fail)
      refine HNEW.out.mono ?_
      rintro e w2 ⟨Xe, pe, g, bm, rfl, hK, hF2, hX2⟩
      have HK := Lib.hid hK
      have HF2 := Lib.hid hF2
      have HX2 := Lib.hid hX2
      clear hK hF2 hX2
      go_wp2_with (fail)
      all_goals
        refine (HDN.out _ _ (by have := HKB.out; omega)).mono ?_
        rintro e w3 ⟨Xd, pd, gd, S, rfl, hD, hF3, hX3⟩
        have hB : QBk W w3 Xe pe g bm (Qn.new c kb) Xd pd gd S none 0 none 0 (Qd.new c kb) :=
          ⟨HK.out.fresh hF3, hD, fun k hk => Nat.le_trans HK.out.frm.size (hX3 k hk), fun k hk e => by have := HK.out.blow k hk; have := hX3 k e; omega⟩
        have HB := Lib.hid hB
        clear hB
        clear hD hF3 hX3
        go_wp2_with (fail)
        go_meet
        exact ⟨Xe, pe, g, bm, Xd, pd, gd, S, rfl, rfl, HB⟩
    case rest =>
      obtain ⟨Xe, pe, g, bm, Xd, pd, gd, S, rfl, rfl, hB⟩ := hcut
      rename World => w3
      have hSy : SyQ (Qn.new c kb) (Qd.new c kb) := SyQ.new c kb hc4
      have HSY := Lib.hid hSy
      clear hSy
      go_wp2_with (fail)
      go_loopg [13] L.length (fun kk v13 wx => ∃ (i : Nat) (Xe : Nat → Prop) (E : Qn) (Xd S : Nat → Prop) (Ar : Option Addr) (cr : Nat) (Ao : Option Addr) (co : Nat) (D : Qd), v13 = .int .i64 (i : Int) ∧ i + kk = L.length ∧ Hid (QBk W wx Xe pe g bm E Xd pd gd S Ar cr Ao co D) ∧ Hid (SyQ E D) ∧ E.t.n ≤ 8 * i ∧ E.opn.length ≤ i)
      case atStart => exact ⟨0, _, _, _, _, _, _, _, _, _, rfl, by omega, hB, HSY, Nat.le_refl _, Nat.le_refl _⟩
      case round =>
        clear hB HSY
        obtain ⟨i, Xe, E, Xd, S, Ar, cr, Ao, co, D, rfl, hi, hB, hSy, hN, hO⟩ := hrel
        rename World => wx
        by_cases hlt : i < L.length
        · have hlti : (i : Int) < (L.length : Int) := by omega
          obtain ⟨ga, oa, rfl, hx1W⟩ := sl_get2 HR1.out i hlt
          have hPI := HOK1.out L[i] (List.getElem_mem hlt)
          generalize L[i] = s at *
          obtain ⟨sA, sc, sl⟩ := s
          simp only at hPI hx1W
          obtain ⟨_, hRs, _, _, hoks⟩ := hPI
          rw [fcells_fvs] at hRs
          have hgaW := World.block_lt_of_cell? _ _ hx1W
          simp only at hgaW
          obtain ⟨gs, os, hgs, hs1W⟩ := HR2.out.at_ (k := i) (by rw [bvs_length]; omega)
          subst hgs
          have hsv : (bvs St)[i]'(by rw [bvs_length]; omega) = .int .u8 ((St[i]'(by omega)).toNat : Int) := by unfold bvs; rw [List.getElem_map]; rfl
          rw [hsv] at hs1W
          have hst8 : (St[i]'(by omega)).toNat < 256 := (St[i]'(by omega)).toNat_lt
          generalize (St[i]'(by omega)).toNat = sv at *
          obtain ⟨gq, ok, hgq, hk1W⟩ := bool_get HR3.out i (by omega)
          subst hgq
          generalize (Ak[i]'(by omega)) = ak at *
          have hgsW := World.block_lt_of_cell? _ _ hs1W
          have hgkW := World.block_lt_of_cell? _ _ hk1W
          simp only at hgsW hgkW
          have hcells : ∀ w', Frm (New W) W w' → w'.cell? ⟨ga, oa + i, none⟩ = some (.slice sA sl.length sc) ∧ w'.cell? ⟨gs, os + i, none⟩ = some (.int .u8 (sv : Int)) ∧ w'.cell? ⟨gq, ok + i, none⟩ = some (.bool ak) ∧ ga < w'.heap.size ∧ gs < w'.heap.size ∧ gq < w'.heap.size := fun w' f => by
            have hs := f.size
            exact ⟨by rw [f.cell (by unfold New; simp only; omega)]; exact hx1W, by rw [f.cell (by unfold New; simp only; omega)]; exact hs1W, by rw [f.cell (by unfold New; simp only; omega)]; exact hk1W, by omega, by omega, by omega⟩
          have hFW := hB.out.e.frm
          have hRw := hRs.fresh hFW
          obtain ⟨hc1, hc2, hc3, hc4, hc5, hc6⟩ := hcells wx hFW
          obtain ⟨st, hst⟩ : ∃ st, st = sv % 5 := ⟨_, rfl⟩
          have hst5 : st < 5 := by omega
          have hsti : (sv : Int) % 5 = (st : Int) := by omega
          have hstw : IntKind.u64.wrap (st : Int) = (st : Int) := IntWalk.u64_in _ (by omega)
          have HCELLS := Lib.hid hcells
          have HRS := Lib.hid hRs
          have HOKS := Lib.hid hoks
          have HFW := Lib.hid hFW
          have HRW := Lib.hid hRw
          have HST := Lib.hid hst
          clear hcells hRs hoks hFW hRw hst
          clear hx1W hs1W hk1W hsv
          by_cases q5 : 8 < sl.length
          · go_wp2
            go_ret
            exact ⟨rfl, HFW.out.below⟩
          cases hli : light sl with
          | false =>
            have hL := light_any sl sA sc wx HRW.out HOKS.out (by omega)
            rw [hli] at hL
            have HL := Lib.hid hL
            have HLI := Lib.hid hli
            clear hL hli
            go_wp2_with (fail)
            refine HL.out.mono ?_
            rintro e w5 ⟨rfl, hF5⟩
            go_wp2
            go_ret
            exact ⟨rfl, (HFW.out.then_new Up.new hF5).below⟩
          | true =>
            have hL := light_any sl sA sc wx HRW.out HOKS.out (by omega)
            rw [hli] at hL
            have hfit := light_fit hli
            have hfl := light_in hli
            have htn := hSy.out.tn
            have hR := hSy.out.rnd st (by omega) sl (by omega) hfit (by omega)
            have hene := enc_ne E st sl
            have HL := Lib.hid hL
            have HLI := Lib.hid hli
            have HR := Lib.hid hR
            have HFL := Lib.hid hfl
            have HENE := Lib.hid hene
            clear hL hli hR hfl hene
            go_wp2_with (fail)
            refine HL.out.mono ?_
            rintro e w5 ⟨rfl, hF5⟩
            have hB5 := hB.out.fresh hF5
            obtain ⟨hc1, hc2, hc3, hc4, hc5, hc6⟩ := HCELLS.out w5 hB5.e.frm
            have hen := kqn_enc hB5.e st sl sA sc (HRS.out.fresh hB5.e.frm) (fun b hb hne e => by
              obtain ⟨gg, off, q, hlt⟩ := HRS.out.lt (by
                cases sl with
                | nil => exact absurd rfl hne
                | cons x r => simp [fvs])
              rw [q] at hb
              have hgb : gg = b := by simpa using hb
              subst hgb
              have := hB5.e.low _ e
              omega) (by omega) HFL.out (by omega) (by omega)
            have hRR := HR.out
            have hsne := HENE.out
            clear HR HENE
            generalize allN E (E.free st) E.wq sl = W0 at *
            generalize E.enc st sl = Q at *
            obtain ⟨⟨ins, sec⟩, E2⟩ := Q
            simp only at hRR hsne hen
            have HB5 := Lib.hid hB5
            have HEN := Lib.hid hen
            have HRR := Lib.hid hRR
            have HSNE := Lib.hid hsne
            clear hB5 hen hRR hsne
            clear hF5
            go_wp2_with (fail)
            refine HEN.out.mono ?_
            rintro e w6 ⟨X6, A5, c5, A6, c6, hK6, rfl, _, hI6, hIc, hsk, hS6, hSc, hF6, hs6, hown6⟩
            replace hsk := hsk HSNE.out
            simp only at hK6 hI6 hIc hS6 hSc hsk
            have hB6 := HB5.out.enc hK6 hF6 hs6
            have hfe := rqfeed_any hB6.d ins A5 c5 hI6 (by have := HRR.out.il; omega) (by have := HRR.out.il; omega) HRR.out.r
            have hsd : ∀ k, M.blk A6 = some k → k < w6.heap.size ∧ ¬ Xd k := fun k hk => by
              refine ⟨(hsk.2 k hk).2, fun e => ?_⟩
              rcases hown6 k (.inr hk) with q | q
              · exact HB5.out.dis k q e
              · have := HB5.out.d.low k e; have q : w5.heap.size ≤ k := q; omega
            have HB6 := Lib.hid hB6
            have HFE := Lib.hid hfe
            have HSD := Lib.hid hsd
            have HS6 := Lib.hid hS6
            clear hB6 hfe hsd hS6
            clear hK6 hI6 hF6 hs6 hown6 hsk hc1 hc2 hc3 hc4 hc5 hc6
            go_wp2_with (fail)
            refine HFE.out.mono ?_
            rintro e w7 ⟨rfl, X7, S7, Ar7, cr7, hD7, hF7, hs7⟩
            have hB7 := HB6.out.dec hD7 hF7 hs7
            have hS7 := HS6.out.keep hF7 (fun k hk => own_apart (HSD.out k hk).1 (HSD.out k hk).2)
            rw [HRR.out.se] at hS7 hSc
            have hsl := HRR.out.sl
            rw [HRR.out.se] at hsl
            have hol : D.out.length ≤ 1073741824 := by have := hSy.out.olen; omega
            have hde := rqdecode_ok hB7.d st (by omega) W0.count W0.lines A6 c6 hS7 (by show (prefQ W0.count W0.count D.lim ++ linesN W0.count W0.lines).length ≤ _; omega) hSc HRR.out.c0 HRR.out.c1 HRR.out.ok HRR.out.n64 hol
            rw [HRR.out.w] at hde
            have hse : (prefQ W0.count W0.count ({ D with t := E2.t } : Qd).lim ++ linesN W0.count W0.lines).length = sec.length := by rw [HRR.out.se]
            rw [hse] at hde
            have HB7 := Lib.hid hB7
            have HDE := Lib.hid hde
            clear hB7 hde
            clear hD7 hF7 hs7 hS7 hSc hsl hse
            go_wp2_with (fail)
            refine HDE.out.mono ?_
            rintro e w8 ⟨A7, c7, X8, Ao8, co8, rfl, hlc, hL8, hD8, hF8, hs8⟩
            have hB8 := HB7.out.dec hD8 hF8 hs8
            obtain ⟨hc1, hc2, hc3, hc4, hc5, hc6⟩ := HCELLS.out w8 hB8.e.frm
            have hfs := fields_eq sl A7 sA c7 sc w8 hL8 (HRS.out.fresh hB8.e.frm) (by omega)
            have HB8 := Lib.hid hB8
            have HFS := Lib.hid hfs
            clear hB8 hfs
            clear hD8 hF8 hs8 hL8
            go_wp2_with (fail)
            refine HFS.out.mono ?_
            rintro e w9 ⟨rfl, n9, rfl⟩
            have hB9 := HB8.out.fresh ((Frm.refl _ _).drewN n9)
            clear hc1 hc2 hc3 hc4 hc5 hc6 HB8
            generalize w8.drewN n9 = w9 at *
            obtain ⟨hc1, hc2, hc3, hc4, hc5, hc6⟩ := HCELLS.out w9 hB9.e.frm
            have hN2 : E2.t.n ≤ 8 * (i + 1) := by have := HRR.out.n; omega
            have hO2 : E2.opn.length ≤ i + 1 := by have := HRR.out.ol; omega
            cases ak with
            | false =>
              have hsy2 := HRR.out.sy
              have HB9 := Lib.hid hB9
              have HSY2 := Lib.hid hsy2
              clear hB9 hsy2
              go_wp2_with (fail)
              go_roundg (gk - 1)
              case measure => omega
              case rel => exact ⟨i + 1, _, _, _, _, _, _, _, _, _, by rw [Int.natCast_add]; rfl, by omega, HB9, HSY2, hN2, hO2⟩
            | true =>
              have hsy2 := HRR.out.sy
              generalize ({ D with t := E2.t, out := if 0 < W0.count then D.out ++ pfx 128 7 st else D.out, told := if 0 < W0.count then max D.told W0.count else D.told } : Qd) = D2 at *
              have hol2 := hsy2.olen
              have hsd2 := rqsend_any hB9.d (by omega)
              have hsl2 := send_len D2
              obtain ⟨hz, hsy3⟩ := hsy2.send (by omega)
              have htn3 := hsy3.tn
              have htn2 := hsy2.tn
              have hon3 := hsy3.none rfl
              have hre := hsy2.erest
              have hts : D2.send.2.t = D2.t := rfl
              rw [hts] at htn3
              generalize D2.send.1 = sb at *
              generalize D2.send.2 = D3 at *
              have HB9 := Lib.hid hB9
              have HSD2 := Lib.hid hsd2
              have HSY3 := Lib.hid hsy3
              have HZ := Lib.hid hz
              have HRE := Lib.hid hre
              clear hB9 hsd2 hsy3 hz hre
              go_wp2_with (fail)
              refine HSD2.out.mono ?_
              rintro e w10 ⟨A8, c8, rfl, hc8, hR8, hown8, hD10, hF10⟩
              have hB10 := HB9.out.dec hD10 hF10 (fun k hk => .inl hk)
              have hkf := kqn_feed hB10.e sb A8 c8 hR8 (by rw [HRE.out]; simp only [List.length_nil]; omega)
              rw [HZ.out] at hkf
              have HB10 := Lib.hid hB10
              have HKF := Lib.hid hkf
              clear hB10 hkf
              clear hD10 hF10 hR8 hown8 hc1 hc2 hc3 hc4 hc5 hc6
              go_wp2_with (fail)
              refine HKF.out.mono ?_
              rintro e w11 ⟨rfl, X11, hK11, hF11, hs11⟩
              have hB11 := HB10.out.enc hK11 hF11 hs11
              have hN3 : (E2.feed sb).2.t.n ≤ 8 * (i + 1) := by omega
              have hO3 : (E2.feed sb).2.opn.length ≤ i + 1 := by rw [hon3]; exact Nat.zero_le _
              clear hK11 hF11 hs11
              have HB11 := Lib.hid hB11
              clear hB11
              go_wp2_with (fail)
              go_roundg (gk - 1)
              case measure => omega
              case rel => exact ⟨i + 1, _, _, _, _, _, _, _, _, _, by rw [Int.natCast_add]; rfl, by omega, HB11, HSY3, hN3, hO3⟩
        · have hlti : ¬ (i : Int) < (L.length : Int) := by omega
          go_wp2
          go_ret
          exact ⟨rfl, hB.out.e.frm.below⟩
end Go.Proofs.Ytdgggjeiflllhaa.M
