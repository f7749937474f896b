/- Po -/
import Derived.Test.YtdgggjeiflllhaaZyPa

namespace Go.Proofs.Ytdgggjeiflllhaa.M
open Go.ChangeShapes Go.WideShapes Go.ChangeAt Go.RowKit
def secB (x : Nat × List Lq) : Bytes := prefQ x.1 x.1 4096 ++ linesN x.1 x.2
def secF (x : Nat × List Lq) : List Fld := x.2.map (·.f)
def needs : Nat → List (Nat × List Lq) → List (Nat × Nat)
  | _, [] => []
  | i, x :: r => if 0 < x.1 then (i, x.1) :: needs (i + 1) r else needs (i + 1) r
theorem needs_snoc (x : Nat × List Lq) : ∀ (l : List (Nat × List Lq)) (i : Nat), needs i (l ++ [x]) = needs i l ++ (if 0 < x.1 then [(i + l.length, x.1)] else [])
  | [], i => by
    show needs i [x] = _
    unfold needs
    split <;> simp [needs]
  | y :: r, i => by
    rw [List.cons_append]
    unfold needs
    rw [needs_snoc x r (i + 1)]
    simp only [List.length_cons]
    rw [show i + 1 + r.length = i + (r.length + 1) by omega]
    split
    · rw [List.cons_append]
    · rfl
theorem needs_mem : ∀ (l : List (Nat × List Lq)) (i : Nat) (o : Nat × Nat), o ∈ needs i l → o.1 < i + l.length ∧ ∃ x ∈ l, x.1 = o.2
  | [], i, o, h => by cases h
  | y :: r, i, o, h => by
    unfold needs at h
    have key : o ∈ needs (i + 1) r → o.1 < i + (y :: r).length ∧ ∃ x ∈ y :: r, x.1 = o.2 := fun h => by
      obtain ⟨h1, x, h2, h3⟩ := needs_mem r (i + 1) o h
      exact ⟨by rw [List.length_cons]; omega, x, List.mem_cons_of_mem _ h2, h3⟩
    split at h
    · rcases List.mem_cons.1 h with e | e
      · subst e
        exact ⟨by rw [List.length_cons]; simp only; omega, y, List.mem_cons_self .., rfl⟩
      · exact key e
    · exact key h
theorem needs_len : ∀ (l : List (Nat × List Lq)) (i : Nat), (needs i l).length ≤ l.length
  | [], _ => Nat.le_refl _
  | y :: r, i => by
    have := needs_len r (i + 1)
    unfold needs
    split <;> simp <;> omega
structure OrdI (E : Qn) (ins : Bytes) (cs : List (Nat × List Lq)) : Prop where
  err : E.err = 0
  rest : E.rest = []
  kn : E.known = 0
  cap : E.t.cap = 4096
  ok : E.t.Ok
  fresh : E.begun = false → E.t = ⟨[], 0, E.t.cap⟩
  bg : cs ≠ [] → E.begun = true
  fd : ∀ r, gQ 4096 ⟨[], 0, 0⟩ (ins ++ r) = gQ 4096 E.far r
  n : E.t.n ≤ 6 * cs.length
  cl : cs.length ≤ 6
  li : ∀ x ∈ cs, (∀ y ∈ x.2, LineOk E.t x.1 y) ∧ x.1 ≤ E.t.n ∧ x.2.length ≤ 6
  sm : ∀ x ∈ cs, ∀ y ∈ x.2, y.f.1.length + y.f.2.length ≤ 100000
  op : E.opn.map (fun o => (o.stream, o.count)) = needs 0 cs
theorem oneN_keep {E : Qn} (hk : E.known = 0) {W : Wq} {n0 o0 cap m : Nat} {F : Fld → Prop} (hI : W.Inv n0 o0 cap m F) (fr : Bool) (f : Fld) {p : Nat} {g : Fld} (h : W.t.at_ p = some g) : (oneN E fr W f).t.at_ p = some g := by
  unfold oneN
  split
  · exact h
  · split
    · split
      · exact h
      · exact h
    · split
      · rename_i hr
        have := room_keep hI.ok hr h (by unfold Qn.held; rw [hk]; simp)
        split
        · exact this
        · exact this
      · exact h
theorem allN_keep {E : Qn} (hk : E.known = 0) {n0 o0 cap : Nat} {F : Fld → Prop} (hc : cap ≤ 4096) (fr : Bool) {p : Nat} {g : Fld} : ∀ (l : List Fld) (W : Wq) (m : Nat), W.Inv n0 o0 cap m F → (∀ f ∈ l, F f) → W.t.at_ p = some g → (allN E fr W l).t.at_ p = some g
  | [], _, _, _, _, h => h
  | f :: r, W, m, hI, hF, h => allN_keep hk hc fr r (oneN E fr W f) (m + 1) (oneN_inv fr f hI (hF f (List.mem_cons_self ..)) hc) (fun x hx => hF x (List.mem_cons_of_mem _ hx)) (oneN_keep hk hI fr f h)
theorem LineOk.later {T T2 : Tb} {c : Nat} {x : Lq} (h : LineOk T c x) (hT : ∀ p f, T.at_ p = some f → T2.at_ p = some f) : LineOk T2 c x := { h with k1 := fun e => ⟨hT _ _ (h.k1 e).1, (h.k1 e).2⟩ }
theorem OrdI.step {E : Qn} {ins : Bytes} {cs : List (Nat × List Lq)} (h : OrdI E ins cs) (l : List Fld) (hl : l.length ≤ 6) (hF : ∀ f ∈ l, Fit f) (hf : ∀ f ∈ l, f.1.length + f.2.length ≤ 100000) (hcl : cs.length < 6) :
    ∃ x, OrdI (E.enc cs.length l).2 (ins ++ (E.enc cs.length l).1.1) (cs ++ [x]) ∧ (E.enc cs.length l).1.2 = secB x ∧ secF x = l ∧ (E.enc cs.length l).1.1.length ≤ 200000 := by
  have hn := h.n
  have hS := Qn.sent (lim := 4096) h.ok (by rw [h.cap]; exact Nat.le_refl _) (Nat.le_refl _) (by rw [h.cap]; exact Nat.le_refl _) h.fresh cs.length l hF
  have hkp : ∀ p g, E.t.at_ p = some g → (allN E (E.free cs.length) E.wq l).t.at_ p = some g := fun p g hg => allN_keep h.kn (by rw [h.cap]; exact Nat.le_refl _) (E.free cs.length) l E.wq 0 (wq_inv E h.ok Fit) hF hg
  have h2 := hS.inv.tn
  have hcn := h.cl
  unfold Qn.enc
  simp only
  generalize allN E (E.free cs.length) E.wq l = W at *
  have hol := hS.inv.ol
  refine ⟨(W.count, W.lines), ?_, by unfold secB; rw [h.cap], hS.rd.fs, by omega⟩
  exact {
    err := h.err, rest := h.rest, kn := h.kn
    cap := hS.inv.tc.trans h.cap
    ok := hS.inv.ok
    fresh := fun e => by cases e
    bg := fun _ => rfl
    fd := fun r => by
      rw [List.append_assoc, h.fd (W.out ++ r), hS.rd.fd r]
      rfl
    n := by show W.t.n ≤ _; rw [List.length_append]; simp; omega
    cl := by rw [List.length_append]; simp; omega
    li := fun x hx => by
      show (∀ y ∈ x.2, LineOk W.t x.1 y) ∧ x.1 ≤ W.t.n ∧ _
      rcases List.mem_append.1 hx with hx | hx
      · obtain ⟨a, b, c⟩ := h.li x hx
        exact ⟨fun y hy => (a y hy).later hkp, Nat.le_trans b hS.rd.ge, c⟩
      · rw [List.mem_singleton.1 hx]
        exact ⟨hS.lines (by omega) (fun p f e => e), hS.inv.ct, by rw [hS.inv.ll]; exact hl⟩
    sm := fun x hx => by
      rcases List.mem_append.1 hx with hx | hx
      · exact h.sm x hx
      · rw [List.mem_singleton.1 hx]
        intro y hy
        exact hf _ (by rw [← hS.rd.fs]; exact List.mem_map.2 ⟨y, hy, rfl⟩)
    op := by
      rw [needs_snoc, Nat.zero_add]
      show (if 0 < W.count then E.opn ++ [⟨cs.length, W.count, W.uses⟩] else E.opn).map _ = _
      split
      · rw [List.map_append, h.op]; rfl
      · rw [h.op, List.append_nil] }
theorem OrdI.ol {E : Qn} {ins : Bytes} {cs : List (Nat × List Lq)} (h : OrdI E ins cs) : E.opn.length ≤ 6 := by
  have h1 := congrArg List.length h.op
  have h2 := needs_len cs 0
  have h3 := h.cl
  rw [List.length_map] at h1
  omega
theorem linesN_le (c : Nat) : ∀ ls : List Lq, (∀ y ∈ ls, y.f.1.length + y.f.2.length ≤ 100000) → (linesN c ls).length ≤ 600000 * ls.length
  | [], _ => Nat.le_refl _
  | y :: r, h => by
    have h1 := lineN_le c y (h y (List.mem_cons_self ..))
    have h2 := linesN_le c r (fun z hz => h z (List.mem_cons_of_mem _ hz))
    rw [show linesN c (y :: r) = lineN c y ++ linesN c r from rfl, List.length_append, List.length_cons]
    omega
theorem OrdI.sl {E : Qn} {ins : Bytes} {cs : List (Nat × List Lq)} (h : OrdI E ins cs) (x : Nat × List Lq) (hx : x ∈ cs) : (secB x).length ≤ 4000000 ∧ x.1 ≤ 36 := by
  have h1 := linesN_le x.1 x.2 (h.sm x hx)
  have h2 := (h.li x hx).2.2
  have h3 := (prefQ_le x.1 x.1 4096).1
  have h4 := (h.li x hx).2.1
  have h5 := h.n
  have h6 := h.cl
  unfold secB
  rw [List.length_append]
  exact ⟨by omega, by omega⟩
theorem secB_head (x : Nat × List Lq) (h : x.1 ≤ 36) : secB x ≠ [] ∧ ((secB x).headD 0).toNat = (if 0 < x.1 then x.1 + 1 else 0) := by
  unfold secB prefQ encQ mostQ pfx
  have e : (4096 / 32 : Nat) = 128 := rfl
  by_cases h0 : x.1 = 0
  · rw [h0]
    simp
  · have h1 : x.1 % (2 * (4096 / 32)) = x.1 := Nat.mod_eq_of_lt (by omega)
    rw [if_neg (show ¬ (x.1 = 0 ∨ 4096 / 32 = 0) by omega), h1, if_pos (by omega), if_pos (show 0 < x.1 by omega)]
    refine ⟨by simp, ?_⟩
    simp
    omega
theorem dec_ahead {D : Qd} {E : Qn} {ins : Bytes} {cs : List (Nat × List Lq)} (h : OrdI E ins cs) (hD : D.bad = false) (ht : D.t = ⟨[], 0, 0⟩) (hl : D.lim = 4096) (hb : D.blk = 9) (hw : D.waits.length < 9) (x : Nat × List Lq) (hx : x ∈ cs) (s : Nat) (hs : s ∉ D.waits) :
    D.decode s (secB x) = if 0 < x.1 then (([], 27), { D with waits := D.waits ++ [s] }) else ((secF x, 0), D) := by
  obtain ⟨h1, h2, h3⟩ := h.li x hx
  have hn := h.n
  have hcl := h.cl
  by_cases h0 : 0 < x.1
  · rw [if_pos h0]
    have hp := pref_back x.1 0 4096 (linesN x.1 x.2) (Nat.le_refl _) (by unfold mostQ; omega) (fun _ => by unfold mostQ; omega) (fun _ => by unfold mostQ; omega) (by omega)
    unfold Qd.decode secB
    rw [hD, if_neg (by simp), ht, hl, hp]
    simp only
    rw [if_neg (by simp), if_pos h0, if_neg hs, if_neg (by omega)]
  · rw [if_neg h0]
    have e0 : x.1 = 0 := by omega
    have hln : ∀ y ∈ x.2, LineOk D.t x.1 y := fun y hy => { h1 y hy with k1 := fun e => by have := ((h1 y hy).k1 e).2; omega }
    have htk := Qd.takes hD (s := s) hl (Nat.le_refl _) (by omega) (by omega) (fun e => absurd e h0) hln (by omega)
    unfold secB
    rw [htk, if_neg h0, if_neg h0]
    have hfg : D.forget s = D := by
      unfold Qd.forget
      rw [List.filter_eq_self.2 (fun y hy => by simp; intro e; exact hs (e ▸ hy))]
    rw [hfg]
    rfl
structure OrdD (D : Qd) (E : Qn) (cs : List (Nat × List Lq)) (ws : List Nat) (k : Nat) : Prop where
  bad : D.bad = false
  rest : D.rest = []
  lim : D.lim = 4096
  t : D.t = E.far
  waits : D.waits = ws.filter fun s => decide (k ≤ s)
  out : D.out = (needs 0 (cs.take k)).flatMap fun o => pfx 128 7 o.1
  told : D.told = (needs 0 (cs.take k)).foldl (fun m o => max m o.2) 0
theorem OrdD.step {D : Qd} {E : Qn} {ins : Bytes} {cs : List (Nat × List Lq)} {ws : List Nat} {k : Nat} (h : OrdI E ins cs) (hd : OrdD D E cs ws k) (hk : k < cs.length) :
    ∃ D2, D.decode k (secB cs[k]) = ((secF cs[k], 0), D2) ∧ OrdD D2 E cs ws (k + 1) := by
  obtain ⟨h1, h2, h3⟩ := h.li cs[k] (List.getElem_mem hk)
  have hn := h.n
  have hcl := h.cl
  have hfar : E.far = E.t := by
    unfold Qn.far
    rw [if_pos (h.bg (fun e => by rw [e] at hk; simp at hk))]
  have ht := hd.t
  rw [hfar] at ht
  have htk := Qd.takes hd.bad (s := k) (count := cs[k].1) (ls := cs[k].2) hd.lim (Nat.le_refl _) (by omega) (by rw [ht]; exact h2) (fun e => by rw [ht]; unfold mostQ; omega) (by rw [ht]; exact h1) (by omega)
  refine ⟨_, htk, ?_⟩
  have htake : cs.take (k + 1) = cs.take k ++ [cs[k]] := by rw [List.take_add_one, List.getElem?_eq_getElem hk]; rfl
  have hnd : needs 0 (cs.take (k + 1)) = needs 0 (cs.take k) ++ (if 0 < cs[k].1 then [(k, cs[k].1)] else []) := by
    rw [htake, needs_snoc, List.length_take, Nat.zero_add, Nat.min_eq_left (by omega)]
  exact {
    bad := hd.bad, rest := hd.rest, lim := hd.lim, t := hd.t
    waits := by
      show (D.waits.filter _) = _
      rw [hd.waits, List.filter_filter]
      congr 1
      funext s
      rw [← Bool.decide_and]
      exact decide_eq_decide.2 (by omega)
    out := by
      show (if 0 < cs[k].1 then D.out ++ pfx 128 7 k else D.out) = _
      rw [hnd, List.flatMap_append, hd.out]
      split <;> simp
    told := by
      show (if 0 < cs[k].1 then max D.told cs[k].1 else D.told) = _
      rw [hnd, List.foldl_append, hd.told]
      split <;> rfl }
theorem foldl_pairs : ∀ (L : List Qs) (m : Nat), L.foldl (fun m o => max m o.count) m = (L.map fun o => (o.stream, o.count)).foldl (fun m o => max m o.2) m
  | [], _ => rfl
  | _ :: r, _ => foldl_pairs r _
theorem OrdD.done {D : Qd} {E : Qn} {ins : Bytes} {cs : List (Nat × List Lq)} {ws : List Nat} (h : OrdI E ins cs) (hd : OrdD D E cs ws cs.length) (hw : ∀ s ∈ ws, s < cs.length) : D.waits = [] ∧ (E.feed D.send.1).1 = 0 := by
  have hn := h.n
  have hcl := h.cl
  refine ⟨?_, ?_⟩
  · rw [hd.waits, List.filter_eq_nil_iff]
    intro s hs
    have := hw s hs
    simp
    omega
  · have hout := hd.out
    have htold := hd.told
    rw [List.take_length, ← h.op] at hout htold
    rw [List.flatMap_map] at hout
    have hD : D = { D with lim := E.t.cap } := by
      obtain ⟨t, lim, blk, waits, rest, out, told, bad⟩ := D
      have := hd.lim
      simp only at this
      rw [h.cap, this]
    refine (SyQ.send (E := E) (D := D) { err := h.err, erest := h.rest, bad := hd.bad, rest := hd.rest, lim := by rw [h.cap]; exact hd.lim, tab := hd.t, fresh := h.fresh, out := hout, told := by rw [h.kn, foldl_pairs]; exact htold, ok := h.ok, cap := by rw [h.cap]; exact Nat.le_refl _, kn := by rw [h.kn]; exact Nat.zero_le _, ct := fun o ho => ?_ } (by omega)).1
    have hm : (o.stream, o.count) ∈ needs 0 cs := by rw [← h.op]; exact List.mem_map.2 ⟨o, ho, rfl⟩
    obtain ⟨h1, x, h2, h3⟩ := needs_mem cs 0 _ hm
    have := (h.li x h2).2.1
    simp only at h1 h3
    exact ⟨by omega, by omega⟩
theorem OrdI.fed {D : Qd} {E : Qn} {ins : Bytes} {cs : List (Nat × List Lq)} (h : OrdI E ins cs) (hb : D.bad = false) (hr : D.rest = []) (hl : D.lim = 4096) (ht : D.t = ⟨[], 0, 0⟩) : D.feed ins = (0, { D with t := E.far }) :=
  Qd.fed hb hr (by rw [hl, ht]; exact h.fd [])
theorem flat_le : ∀ l : List (Nat × Nat), (l.flatMap fun o => pfx 128 7 o.1).length ≤ 12 * l.length
  | [] => Nat.le_refl _
  | o :: r => by
    have h1 := pfx_length 128 7 o.1
    have h2 := flat_le r
    rw [List.flatMap_cons, List.length_append, List.length_cons]
    omega
theorem OrdD.olen {D : Qd} {E : Qn} {ins : Bytes} {cs : List (Nat × List Lq)} {ws : List Nat} {k : Nat} (h : OrdI E ins cs) (hd : OrdD D E cs ws k) : D.out.length ≤ 72 := by
  have h1 := flat_le (needs 0 (cs.take k))
  have h2 := needs_len (cs.take k) 0
  have h3 := h.cl
  rw [List.length_take] at h2
  rw [hd.out]
  omega
theorem OrdD.start {D : Qd} {E : Qn} {cs : List (Nat × List Lq)} (hb : D.bad = false) (hr : D.rest = []) (hl : D.lim = 4096) (ht : D.t = E.far) (ho : D.out = []) (hd : D.told = 0) : OrdD D E cs D.waits 0 :=
  { bad := hb, rest := hr, lim := hl, t := ht, waits := (List.filter_eq_self.2 (fun s _ => decide_eq_true (Nat.zero_le _))).symm, out := by rw [ho]; rfl, told := by rw [hd]; rfl }
theorem sendQ_len (D : Qd) : D.send.1.length ≤ D.out.length + 12 := by
  unfold Qd.send
  simp only
  split
  · rw [List.length_append]; have := pfx_length 0 6 (D.t.n - D.told); omega
  · omega
theorem OrdI.farn {E : Qn} {ins : Bytes} {cs : List (Nat × List Lq)} (h : OrdI E ins cs) : E.far.n ≤ 36 := by
  have h1 := h.n
  have h2 := h.cl
  unfold Qn.far
  split
  · omega
  · exact Nat.zero_le _
theorem turn_ne {n t i j : Nat} (hi : i < n) (hj : j < i) : (j + t) % n ≠ (i + t) % n := fun e => by
  have h1 := Nat.div_add_mod (j + t) n
  have h2 := Nat.div_add_mod (i + t) n
  rw [e] at h1
  have h3 : n * ((i + t) / n) - n * ((j + t) / n) = i - j := by omega
  rw [← Nat.mul_sub] at h3
  cases hq : (i + t) / n - (j + t) / n with
  | zero => rw [hq] at h3; omega
  | succ q =>
    rw [hq, Nat.mul_succ] at h3
    omega
end Go.Proofs.Ytdgggjeiflllhaa.M

