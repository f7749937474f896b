/- qenc: an open section more, in memory. -/
import Derived.BigQuiet
import Derived.Deep.CutBlock
import Derived.Lib.Hide
import Derived.IntWalk
import Derived.Test.YtdgggjeiflllhaaNk
namespace Go.Proofs.Ytdgggjeiflllhaa.M
open Go.ChangeShapes Go.WideShapes Go.ChangeAt Go.RowKit

theorem secE : Elem Try.prog 92 84 2 16 :=
  ⟨by kernel_rfl, by
    have h : (Try.prog.info? 84).map (fun i => (i.zero, i.size, i.bytes)) = some (some (.agg #[.int .u64 0, .map none]), 2, 16) := by kernel_rfl
    obtain ⟨i, hi, hz, hs, hb⟩ := info_parts h
    exact ⟨i, _, hi, hz, hs, hb, rfl⟩, by omega, by omega⟩
theorem entsR_put (s : Nat) (r : Ro) : ∀ L : List (Nat × Ro), entsR (putE s r L) = putE s r.v (entsR L)
  | [] => rfl
  | x :: t => by
    show entsR (putE s r (x :: t)) = putE s r.v ((x.1, x.2.v) :: entsR t)
    unfold putE
    simp only
    split
    · rfl
    · show (x.1, x.2.v) :: entsR (putE s r t) = _
      rw [entsR_put s r t]
theorem mem_put {ν : Type} (s : Nat) (r : ν) : ∀ L : List (Nat × ν), (L.map (·.1)).Nodup → ∀ x ∈ putE s r L, x = (s, r) ∨ (x ∈ L ∧ x.1 ≠ s)
  | [], _, x, hx => by simp [putE] at hx; exact .inl hx
  | y :: t, hn, x, hx => by
    simp only [List.map_cons, List.nodup_cons] at hn
    unfold putE at hx
    split at hx
    · next e =>
      rcases List.mem_cons.1 hx with h | h
      · exact .inl (by rw [h, e])
      · exact .inr ⟨List.mem_cons_of_mem _ h, fun q => hn.1 (by rw [← e, ← q]; exact List.mem_map.2 ⟨x, h, rfl⟩)⟩
    · next e =>
      rcases List.mem_cons.1 hx with h | h
      · subst h; exact .inr ⟨List.mem_cons_self .., fun q => e q.symm⟩
      · rcases mem_put s r t hn.2 x h with q | q
        · exact .inl q
        · exact .inr ⟨List.mem_cons_of_mem _ q.1, q.2⟩
theorem pair_put {ν : Type} {R : Nat × ν → Nat × ν → Prop} (s : Nat) (r : ν) : ∀ L : List (Nat × ν), L.Pairwise R → (L.map (·.1)).Nodup → (∀ x ∈ L, x.1 ≠ s → R x (s, r) ∧ R (s, r) x) → (putE s r L).Pairwise R
  | [], _, _, _ => by simp [putE]
  | y :: t, hp, hn, h => by
    simp only [List.map_cons, List.nodup_cons] at hn
    rw [List.pairwise_cons] at hp
    unfold putE
    split
    · next e =>
      refine List.pairwise_cons.2 ⟨fun x hx => ?_, hp.2⟩
      have h9 := (h x (List.mem_cons_of_mem _ hx) (fun q => hn.1 (by rw [← e, ← q]; exact List.mem_map.2 ⟨x, hx, rfl⟩))).2
      rw [← e]
      exact h9
    · next e =>
      refine List.pairwise_cons.2 ⟨fun x hx => ?_, pair_put s r t hp.2 hn.2 (fun x hx => h x (List.mem_cons_of_mem _ hx))⟩
      rcases mem_put s r t hn.2 x hx with q | q
      · rw [q]; exact (h y (List.mem_cons_self ..) (fun z => e z.symm)).1
      · exact hp.1 x q.1
theorem map_no_cells {w : World} {b : Nat} {ents : List (Nat × Value)} (h : MapIs w b ukey ents) {off : Nat} {xs : List Value} (hr : Rd w (some ⟨b, off, none⟩) xs) (hne : xs ≠ []) : False := by
  cases xs with
  | nil => exact hne rfl
  | cons x r =>
    obtain ⟨g, o, he, hc⟩ := hr 0 x rfl
    cases he
    obtain ⟨es, ck, hb, _, _⟩ := h
    unfold World.cell? at hc
    simp only [hb] at hc
    cases hc
section
variable {X S : Nat → Prop} {w w' w2 w3 : World} {pe g bm cr s mu c c2 : Nat} {Ar A A2 : Option Addr} {L : List (Nat × Ro)} {E : Qn} {ments : List (Nat × Value)} {N : Nat → Prop} {l : List (Qs × Nat)} {o : Qs}
/-- what is changed are the encoder's own cells, its map's, its rest's -/
theorem QnM.rows_keep (h : QnM X w pe g bm S Ar cr L E) (f : Frm N w w') (hN : ∀ k, N k → k = pe ∨ k = bm ∨ M.blk Ar = some k ∨ New w k) : (∀ x ∈ L, RoM X w' x.2) ∧ TabS S w' g E.t := by
  refine ⟨fun x hx => { h.rows x hx with
    app := (h.rows x hx).app.keep f (fun k hk e => by
      have h1 := h.ro x hx k hk
      rcases hN k e with q | q | q | q
      · exact h1.2.1 q
      · exact h1.2.2.1 q
      · exact h1.2.2.2 q
      · have := h.low k ((h.rows x hx).app.inM k hk); unfold New at q; omega)
    use_ := fun y hy => by
      obtain ⟨h1, ents, h2⟩ := (h.rows x hx).use_ y hy
      refine ⟨h1, ents, { h2 with map := h2.map.keep f (fun e => ?_) }⟩
      have h3 := h.us x hx y hy
      rcases hN _ e with q | q | q | q
      · exact h3.2.1 q
      · exact h3.2.2.1 q
      · exact h3.2.2.2 q
      · have := h.low _ h1; unfold New at q; omega }, h.tab.keep f (fun k hk e => ?_)⟩
  rcases hN k e with q | q | q | q
  · exact h.ps (q ▸ hk)
  · exact h.ms (q ▸ hk)
  · exact (h.rs k q).1 hk
  · have := h.low k (h.xs k hk); unfold New at q; omega
theorem QnM.setbegun (h : QnM X w pe g bm S Ar cr L E) : QnM X (w.setCell ⟨pe, 5, none⟩ (.bool true)) pe g bm S Ar cr L { E with begun := true } := by
  have f : Frm (fun k => k = pe) w (w.setCell ⟨pe, 5, none⟩ (.bool true)) := (Frm.refl (fun k => k = pe) w).setCell (p := ⟨pe, 5, none⟩) rfl _
  have hk := h.rows_keep f (fun k hk => .inl hk)
  exact { h with
    blk := by have := h.blk.set_ 5 (.bool true); simpa using this
    tab := hk.2, rows := hk.1
    map := h.map.keep f (fun e => h.mp e.symm)
    rest := h.rest.keep f (fun k hk e => (h.rs k hk).2.1 e)
    low := fun k hk => Nat.lt_of_lt_of_le (h.low k hk) f.size }
/-- how many streams have sections -/
theorem QnM.few (h : QnM X w pe g bm S Ar cr L E) : L.length ≤ E.opn.length := by
  have h1 := nodup_le (L.map (·.1)) (E.opn.map (·.stream)) h.nd (fun s hs => by
    obtain ⟨x, hx, rfl⟩ := List.mem_map.1 hs
    have h1 := h.same x hx
    have h2 := (h.rows x hx).ne
    cases hl : x.2.l with
    | nil => exact absurd hl h2
    | cons y r =>
      rw [hl, List.map_cons] at h1
      have : y.1 ∈ E.opn.filter fun o => decide (o.stream = x.1) := by rw [← h1]; exact List.mem_cons_self ..
      rw [List.mem_filter] at this
      exact List.mem_map.2 ⟨y.1, this.1, of_decide_eq_true this.2⟩)
  simpa using h1
/-- a section more -/
theorem QnM.push (h : QnM X w pe g bm S Ar cr L E) (ho : o.stream = s) (hu : UseM w mu o.uses ments) (hmX : ¬ X mu) (hml : mu < w.heap.size) (hct : o.count ≤ 1152921504606846976) (hcn : o.count ≤ E.t.n)
    (hl : l.map (·.1) = E.opn.filter (fun o => decide (o.stream = s))) (hn : getE s L = none → l = [] ∧ A = none) (hs : ∀ x, getE s L = some x → A = x.A ∧ c = x.c ∧ l = x.l)
    (hA : App (fun k => X k ∧ M.blk A = some k ∨ New w k) w2 84 2 A2 (l.length + 1) c2 (secC (l ++ [(o, mu)]))) (f : Frm (fun k => X k ∧ M.blk A = some k ∨ New w k) w w2) (hm : MapIs w3 bm ukey (putE s (.slice A2 (l.length + 1) c2) (entsR L))) (f3 : Frm (· = bm) w2 w3) :
    QnM (fun k => X k ∨ k = mu ∨ M.blk A2 = some k) w3 pe g bm S Ar cr (putE s ⟨A2, c2, l ++ [(o, mu)]⟩ L) { E with opn := E.opn ++ [o] } := by
  have hrow : ∀ k, M.blk A = some k → ∃ x ∈ L, x.1 = s ∧ M.blk x.2.A = some k := fun k hk => by
    cases hg : getE s L with
    | none => rw [(hn hg).2] at hk; cases hk
    | some x => exact ⟨(s, x), getE_mem hg, rfl, (hs x hg).1 ▸ hk⟩
  have hno : ∀ k, k < w.heap.size → M.blk A ≠ some k → ¬ (X k ∧ M.blk A = some k ∨ New w k) := fun k hk hne e => by
    rcases e with e | e
    · exact hne e.2
    · unfold New at e; omega
  have hfar : ∀ k, M.blk A = some k → ¬ S k ∧ k ≠ pe ∧ k ≠ bm ∧ M.blk Ar ≠ some k := fun k hk => by
    obtain ⟨x, hx, _, hb⟩ := hrow k hk
    exact h.ro x hx k hb
  have hA2 : ∀ k, M.blk A2 = some k → k < w2.heap.size ∧ (X k ∧ M.blk A = some k ∨ New w k) := fun k hk => by
    obtain ⟨gg, off, rfl, hlt⟩ := hA.rd.lt (by
      intro e
      have := congrArg List.length e
      rw [secC_len] at this
      simp at this)
    have hkg : gg = k := by simpa using hk
    subst hkg
    exact ⟨hlt, hA.inM gg rfl⟩
  have h2far : ∀ k, M.blk A2 = some k → ¬ S k ∧ k ≠ pe ∧ k ≠ bm ∧ M.blk Ar ≠ some k := fun k hk => by
    rcases (hA2 k hk).2 with e | e
    · exact hfar k e.2
    · have e : w.heap.size ≤ k := e
      have hpe := h.low pe h.xp
      have hbm := h.low bm h.xm
      refine ⟨fun q => ?_, by omega, by omega, fun q => ?_⟩
      · have := h.low k (h.xs k q); omega
      · have := h.low k (h.rest.inM k q); omega
  have hnb : ∀ k, k ≠ bm → ¬ (k = bm) := fun _ h => h
  have huse : ∀ {b : Nat} {ents : List (Nat × Value)} {us : List Nat}, UseM w b us ents → b < w.heap.size → b ≠ bm → UseM w3 b us ents := fun {b ents us} hU hb hbm => by
    refine { hU with map := (hU.map.keep f (fun e => ?_)).keep f3 hbm }
    rcases e with e | e
    · obtain ⟨x, hx, _, hb2⟩ := hrow b e.2
      have happ := (h.rows x hx).app
      have hne : secC x.2.l ≠ [] := fun q => by
        have := congrArg List.length q
        rw [secC_len] at this
        have h3 := List.length_pos_iff.2 (h.rows x hx).ne
        simp only [List.length_nil] at this
        omega
      obtain ⟨gg, off, hg, _⟩ := happ.rd.lt hne
      rw [hg] at hb2
      have hgb : gg = b := by simpa using hb2
      subst hgb
      exact map_no_cells hU.map (hg ▸ happ.rd) hne
    · unfold New at e; omega
  have hmem := mem_put s (⟨A2, c2, l ++ [(o, mu)]⟩ : Ro) L h.nd
  have hXm : ∀ k, X k → k ≠ mu := fun k hk e => hmX (e ▸ hk)
  have hold : ∀ y ∈ l, X y.2 ∧ (∃ ents, UseM w y.2 y.1.uses ents) ∧ y.1.count ≤ 1152921504606846976 ∧ (¬ S y.2 ∧ y.2 ≠ pe ∧ y.2 ≠ bm ∧ M.blk Ar ≠ some y.2) := fun y hy => by
    cases hg : getE s L with
    | none => rw [(hn hg).1] at hy; cases hy
    | some x =>
      have hx := getE_mem hg
      rw [(hs x hg).2.2] at hy
      obtain ⟨q1, q2⟩ := (h.rows _ hx).use_ y hy
      exact ⟨q1, q2, (h.rows _ hx).small y hy, h.us _ hx y hy⟩
  exact {
    blk := (h.blk.keep f (hno pe (h.low pe h.xp) (fun e => (hfar pe e).2.1 rfl))).keep f3 h.mp
    tab := (h.tab.keep f (fun k hk => hno k (h.low k (h.xs k hk)) (fun e => (hfar k e).1 hk))).keep f3 (fun k hk e => h.ms (e ▸ hk))
    map := by rw [entsR_put]; simpa [Ro.v] using hm
    nd := nodup_put s _ L h.nd
    rows := fun x hx => by
      rcases hmem x hx with rfl | ⟨hx, hxs⟩
      · exact {
          app := by
            show App _ w3 _ 2 A2 (l ++ [(o, mu)]).length c2 _
            rw [List.length_append]
            have h1 := hA.keep f3 (fun k hk e => (h2far k hk).2.2.1 e)
            exact { h1 with
              inM := fun k hk => .inr (.inr hk)
              own := fun hc => by
                obtain ⟨gg, off, cur, a, b2, d, m⟩ := h1.own hc
                exact ⟨gg, off, cur, a, b2, d, .inr (.inr (by rw [a]; rfl))⟩ }
          use_ := fun y hy => by
            rcases List.mem_append.1 hy with e | e
            · obtain ⟨q1, ⟨ents, q2⟩, _, q4⟩ := hold y e
              exact ⟨.inl q1, ents, huse q2 (h.low _ q1) q4.2.2.1⟩
            · rw [List.mem_singleton.1 e]
              exact ⟨.inr (.inl rfl), ments, huse hu hml (fun e => hXm bm h.xm e.symm)⟩
          ne := by simp
          small := fun y hy => by
            rcases List.mem_append.1 hy with e | e
            · exact (hold y e).2.2.1
            · rw [List.mem_singleton.1 e]; exact hct }
      · exact { h.rows x hx with
          app := (((h.rows x hx).app.keep f (fun k hk => hno k (h.low k ((h.rows x hx).app.inM k hk)) (fun e => by
            obtain ⟨z, hz, hzs, hzb⟩ := hrow k e
            rcases List.getElem_of_mem hx with ⟨i, hi, rfl⟩
            rcases List.getElem_of_mem hz with ⟨j, hj, rfl⟩
            have hij : i ≠ j := fun q => by subst q; exact hxs hzs
            rcases Nat.lt_or_gt_of_ne hij with q | q
            · exact (List.pairwise_iff_getElem.1 h.rr i j hi hj q) (hk.trans hzb.symm)
            · exact (List.pairwise_iff_getElem.1 h.rr j i hj hi q) (hzb.trans hk.symm)))).keep f3 (fun k hk e => (h.ro x hx k hk).2.2.1 e)).mono (fun k hk => .inl hk)
          use_ := fun y hy => by
            obtain ⟨q1, ents, q2⟩ := (h.rows x hx).use_ y hy
            exact ⟨.inl q1, ents, huse q2 (h.low _ q1) (h.us x hx y hy).2.2.1⟩ }
    same := fun x hx => by
      show _ = (E.opn ++ [o]).filter _
      rw [List.filter_append]
      rcases hmem x hx with rfl | ⟨hx, hxs⟩
      · rw [List.map_append, hl]
        simp [ho]
      · rw [h.same x hx, show ([o].filter fun o => decide (o.stream = x.1)) = [] from by simp [ho]; exact fun e => hxs e.symm, List.append_nil]
    all := fun q hq => by
      rw [mem_keys_put]
      rcases List.mem_append.1 hq with e | e
      · exact .inr (h.all q e)
      · rw [List.mem_singleton.1 e]; exact .inl ho
    rest := ((h.rest.keep f (fun k hk => hno k (h.low k (h.rest.inM k hk)) (fun e => (hfar k e).2.2.2 hk))).keep f3 (fun k hk e => (h.rs k hk).2.2 e)).mono (fun k hk => .inl hk)
    low := fun k hk => by
      have hs1 := f.size
      have hs2 := f3.size
      rcases hk with hk | hk | hk
      · have := h.low k hk; omega
      · omega
      · have := (hA2 k hk).1; omega
    xp := .inl h.xp, xm := .inl h.xm, xs := fun k hk => .inl (h.xs k hk)
    ps := h.ps, ms := h.ms, mp := h.mp, rs := h.rs
    ro := fun x hx k hk => by
      rcases hmem x hx with rfl | ⟨hx, _⟩
      · exact h2far k hk
      · exact h.ro x hx k hk
    us := fun x hx y hy => by
      rcases hmem x hx with rfl | ⟨hx, _⟩
      · rcases List.mem_append.1 hy with e | e
        · exact (hold y e).2.2.2
        · rw [List.mem_singleton.1 e]
          exact ⟨fun q => hmX (h.xs _ q), fun q => hXm pe h.xp q.symm, fun q => hXm bm h.xm q.symm, fun q => hmX (h.rest.inM _ q)⟩
      · exact h.us x hx y hy
    rr := pair_put s _ L h.rr h.nd (fun x hx hxs => by
      have hne : M.blk x.2.A ≠ M.blk A2 := fun e => by
        have hne : secC x.2.l ≠ [] := fun q => by
          have := congrArg List.length q
          rw [secC_len] at this
          have h3 := List.length_pos_iff.2 (h.rows x hx).ne
          simp only [List.length_nil] at this
          omega
        obtain ⟨gg, off, hg, _⟩ := (h.rows x hx).app.rd.lt hne
        have hk : M.blk x.2.A = some gg := by rw [hg]; rfl
        rcases (hA2 gg (e ▸ hk)).2 with q | q
        · obtain ⟨z, hz, hzs, hzb⟩ := hrow gg q.2
          rcases List.getElem_of_mem hx with ⟨i, hi, rfl⟩
          rcases List.getElem_of_mem hz with ⟨j, hj, rfl⟩
          have hij : i ≠ j := fun q => by subst q; exact hxs hzs
          rcases Nat.lt_or_gt_of_ne hij with q | q
          · exact (List.pairwise_iff_getElem.1 h.rr i j hi hj q) (hk.trans hzb.symm)
          · exact (List.pairwise_iff_getElem.1 h.rr j i hj hi q) (hzb.trans hk.symm)
        · have := h.low gg ((h.rows x hx).app.inM gg hk); unfold New at q; omega
      exact ⟨hne, fun e => hne e.symm⟩)
    ok := h.ok, cap := h.cap, nb := h.nb, kn := h.kn, bl := h.bl, rl := h.rl
    ctn := fun q hq => by
      rcases List.mem_append.1 hq with e | e
      · exact h.ctn q e
      · rw [List.mem_singleton.1 e]; exact hcn }
end
end Go.Proofs.Ytdgggjeiflllhaa.M
