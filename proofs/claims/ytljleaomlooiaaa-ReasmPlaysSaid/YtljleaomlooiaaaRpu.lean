/- A piece more in a buffer. No condition. -/
import Derived.Lib.Hide
import Derived.Test.YtljleaomlooiaaaRat
import Derived.Test.YtljleaomlooiaaaCut
import Derived.Test.YtljleaomlooiaaaRsr
namespace Go.Proofs.Ytljleaomlooiaaa.M
open Go.ChangeShapes Go.WideShapes Go.ChangeAt Go.RowKit

theorem hl_len : ∀ {l : List Pc}, (∀ p ∈ l, p.b ≠ []) → l.length ≤ hl l
  | [], _ => Nat.le_refl _
  | p :: r, h => by
    have h1 := hl_len (l := r) (fun q hq => h q (by simp [hq]))
    have h2 := List.length_pos_iff.2 (h p (by simp))
    simp only [List.length_cons, hl]
    omega
theorem hl_app (a b : List Pc) : hl (a ++ b) = hl a + hl b := by rw [← hl_flat, ← hl_flat, ← hl_flat, flat_append, List.length_append]
theorem news_hl {off : Nat} {b : Bytes} {l : List Pc} {c a : Nat} (hs : Srt c l) (ha : off ≤ a) : hl (news off b (off + b.length) l a) ≤ b.length := by
  rw [← hl_flat, news_flat off b l c a hs ha]
  refine Nat.le_trans (List.length_filter_le _ _) ?_
  rw [row_length]
  exact Nat.le_refl _
theorem RbAt.push {S : Nat → Prop} {w w1 W w6 : World} {p c c1 c4 : Nat} {B : Bf} {A A1 A4 : Option Addr} {pv : List Pv} (h : RbAt S w p B A c pv) (P : Pc) (hP : P.b ≠ []) (hC : App (New w) w1 5 1 A1 P.b.length c1 (bvs P.b)) (F1 : Frm (New w) w w1) (FW : Frm (New w1) w1 W)
    (hA4 : App (fun k => (S k ∧ k ≠ p) ∨ New w k) w6 56 2 A4 (pv.length + 1) c4 (pv.flatMap pvc ++ [.int .u64 P.off, .slice A1 P.b.length c1])) (hb4 : (M.blk A4 = M.blk A ∧ c4 = c) ∨ (M.blk A4 = some W.heap.size ∧ 0 < 1)) (hWr : Frm (Wr A pv.length c W) W w6) :
    ∃ S', RbAt S' (w6.setCell ⟨p, 0, none⟩ (.slice A4 (pv.length + 1) c4)) p { B with l := B.l ++ [P] } A4 c4 (pv ++ [(P.off, A1, P.b.length, c1)]) ∧ Frm (Own S w) w (w6.setCell ⟨p, 0, none⟩ (.slice A4 (pv.length + 1) c4)) ∧ ∀ k, S' k → Own S w k := by
  have hpl := h.low p h.sp
  have hs1 := F1.size
  have hs2 := FW.size
  have hs3 := hWr.size
  have hrow : ∀ k, M.blk A = some k → S k ∧ k ≠ p ∧ k < w.heap.size := fun k hk => ⟨(h.row.inM k hk).1, (h.row.inM k hk).2, h.low k (h.row.inM k hk).1⟩
  have hnp : ¬ Wr A pv.length c W p := fun hk => by
    rcases hk with hk | ⟨_, hk⟩
    · omega
    · exact (hrow p hk).2.1 rfl
  have F16 : Frm (Wr A pv.length c w) w w6 := (F1.mono (fun k hk => .inl hk)).trans ((FW.mono (fun k hk => .inl (Nat.le_trans hs1 hk))).trans (hWr.mono (fun k hk => by
    rcases hk with hk | hk
    · exact .inl (by omega)
    · exact .inr hk)))
  have F67 : Frm (fun k => k = p) w6 (w6.setCell ⟨p, 0, none⟩ (.slice A4 (pv.length + 1) c4)) := (Frm.refl (fun k => k = p) w6).setCell (p := ⟨p, 0, none⟩) rfl _
  have hb6 : Blk w6 p 52 (B.cells A pv.length c) := ((h.blk.fresh F1).fresh FW).keep hWr hnp
  have hb7 := hb6.set_ 0 (.slice A4 (pv.length + 1) c4)
  have hne : (pv.flatMap pvc ++ [.int .u64 P.off, .slice A1 P.b.length c1]) ≠ [] := by simp
  have hA4b : ∀ k, M.blk A4 = some k → k ≠ p := fun k hk e => by
    rcases hA4.inM k hk with hk | hk
    · exact hk.2 e
    · unfold New at hk; omega
  have hA7 := hA4.keep F67 (fun k hk e => hA4b k hk e)
  have hA1 : ∀ k, M.blk A1 = some k → w.heap.size ≤ k ∧ k < w1.heap.size := fun k hk => ⟨hC.inM k hk, by
    obtain ⟨g, o, rfl, hg⟩ := hC.rd.lt (by cases hb : P.b with | nil => exact absurd hb hP | cons x r => simp [bvs])
    cases hk
    exact hg⟩
  refine ⟨fun k => Own S w k ∧ k < (w6.setCell ⟨p, 0, none⟩ (.slice A4 (pv.length + 1) c4)).heap.size, ⟨?_, ?_, ?_, ⟨.inl h.sp, ?_⟩, fun k hk => hk.2⟩, ?_, fun k hk => hk.1⟩
  · simp only [List.length_append, List.length_cons, List.length_nil]
    exact hb7
  · have h9 := (hA7.here hne).mono (M' := fun k => (Own S w k ∧ k < (w6.setCell ⟨p, 0, none⟩ (.slice A4 (pv.length + 1) c4)).heap.size) ∧ k ≠ p) (fun k hk => by
      rcases hk.1 with c | c
      · exact ⟨⟨.inl c.1, hk.2⟩, c.2⟩
      · exact ⟨⟨.inr c, hk.2⟩, fun e => by unfold New at c; omega⟩)
    simp only [List.length_append, List.length_cons, List.length_nil, List.flatMap_append, List.flatMap_cons, List.flatMap_nil, List.append_nil]
    exact h9
  · refine PcsAt.app ?_ ⟨?_, trivial⟩
    · have k1 := h.pcs.keep F16 (fun k hk c => by
        rcases c with c | ⟨_, c⟩
        · have := h.low k hk.1; omega
        · exact hk.2.2 c)
      have k2 := k1.keep F67 (fun k hk e => hk.2.1 e)
      refine k2.mono (fun k hk => ⟨⟨.inl hk.1, ?_⟩, hk.2.1, ?_⟩)
      · have := h.low k hk.1
        have := F67.size
        omega
      · rcases hb4 with ⟨e, _⟩ | ⟨e, _⟩
        · rw [e]; exact hk.2.2
        · rw [e]
          intro c
          injection c with c
          have := h.low k hk.1
          omega
    · refine ⟨rfl, rfl, hC.cap, ?_, hC.nil_, fun k hk => ?_⟩
      · have k1 := (hC.rd.fresh FW).keep hWr (fun k hk c => by
          have h1 := hA1 k hk
          rcases c with c | ⟨_, c⟩
          · omega
          · have := (hrow k c).2.2; omega)
        exact k1.keep F67 (fun k hk e => by have h1 := hA1 k hk; omega)
      · have h1 := hA1 k hk
        refine ⟨⟨.inr h1.1, ?_⟩, by omega, ?_⟩
        · have := F67.size; omega
        · rcases hb4 with ⟨e, _⟩ | ⟨e, _⟩
          · rw [e]
            intro c
            have := (hrow k c).2.2
            omega
          · rw [e]
            intro c
            injection c with c
            omega
  · have := F67.size; omega
  · refine (F16.mono (fun k hk => ?_)).trans (F67.mono (fun k hk => .inl (by rw [hk]; exact h.sp)))
    rcases hk with hk | ⟨_, hk⟩
    · exact .inr hk
    · exact .inl (hrow k hk).1
theorem news_skip {off stop : Nat} {b : Bytes} {p : Pc} {r : List Pc} {a : Nat} (h : p.stop ≤ a) : news off b stop (p :: r) a = news off b stop r a := by
  conv => lhs; unfold news
  rw [if_pos h]
theorem news_gap {off stop : Nat} {b : Bytes} {p : Pc} {r : List Pc} {a : Nat} (h : ¬ p.stop ≤ a) (h1 : a < p.off) (h2 : a < stop) : news off b stop (p :: r) a = ⟨a, (b.drop (a - off)).take (min p.off stop - a)⟩ :: news off b stop r p.stop := by
  conv => lhs; unfold news
  rw [if_neg h, if_pos ⟨h1, h2⟩, show max a p.stop = p.stop by omega]
  rfl
theorem news_over {off stop : Nat} {b : Bytes} {p : Pc} {r : List Pc} {a : Nat} (h : ¬ p.stop ≤ a) (h2 : ¬ (a < p.off ∧ a < stop)) : news off b stop (p :: r) a = news off b stop r p.stop := by
  conv => lhs; unfold news
  rw [if_neg h, if_neg h2, show max a p.stop = p.stop by omega]
  rfl
theorem Rd.subB {w : World} {A : Option Addr} {b : Bytes} (h : Rd w A (bvs b)) {c : Nat} (hc : b.length ≤ c) (i n : Nat) : Rd w (if c = i then A else A.map (·.add (i * 1))) (bvs ((b.drop i).take n)) := by
  have h1 := (cut_rd h (k := 1) (n := b.length) (by simp) hc i).take n
  simpa [bvs, List.map_drop, List.map_take] using h1
theorem Rd.fromB {w : World} {A : Option Addr} {b : Bytes} (h : Rd w A (bvs b)) {c : Nat} (hc : b.length ≤ c) (i : Nat) : Rd w (if c = i then A else A.map (·.add (i * 1))) (bvs (b.drop i)) := by
  have h1 := cut_rd h (k := 1) (n := b.length) (by simp) hc i
  simpa [bvs, List.map_drop] using h1
/-- pieces in another order lie in that order -/
theorem PcsAt.perm {w : World} {M : Nat → Prop} {pv pv' : List Pv} (hp : pv.Perm pv') : ∀ {l : List Pc}, PcsAt w M pv l → ∃ l' : List Pc, l'.Perm l ∧ PcsAt w M pv' l' := by
  induction hp with
  | nil => intro l h; exact ⟨l, .refl _, h⟩
  | cons x _ ih =>
    intro l h
    cases l with
    | nil => exact h.elim
    | cons P r =>
      obtain ⟨l', h1, h2⟩ := ih h.2
      exact ⟨P :: l', h1.cons _, h.1, h2⟩
  | swap x y r =>
    intro l h
    cases l with
    | nil => exact h.elim
    | cons P q =>
      cases q with
      | nil => exact h.2.elim
      | cons P2 q => exact ⟨P2 :: P :: q, List.Perm.swap _ _ _, h.2.1, h.1, h.2.2⟩
  | trans _ _ ih1 ih2 =>
    intro l h
    obtain ⟨l1, h1, h2⟩ := ih1 h
    obtain ⟨l2, h3, h4⟩ := ih2 h2
    exact ⟨l2, h3.trans h1, h4⟩
theorem PcsAt.order {w : World} {M : Nat → Prop} : ∀ {pv : List Pv} {l : List Pc}, PcsAt w M pv l → pv.Pairwise (fun x y => x.1 ≤ y.1) → l.Pairwise (fun x y => x.off ≤ y.off)
  | [], [], _, _ => .nil
  | v :: r, P :: q, h, ho => by
    rw [List.pairwise_cons] at ho ⊢
    refine ⟨fun Q hQ => ?_, PcsAt.order h.2 ho.2⟩
    obtain ⟨k, hk, rfl⟩ := List.mem_iff_getElem.1 hQ
    have hk' : k < r.length := by rw [h.2.len]; exact hk
    have h1 := (h.2.at_ k hk' hk).off
    have h2 := ho.1 r[k] (List.getElem_mem hk')
    have h3 := h.1.off
    omega
  | [], _ :: _, h, _ => h.elim
  | _ :: _, [], h, _ => h.elim
theorem RbAt.sorted {S : Nat → Prop} {w w' : World} {p c : Nat} {B : Bf} {A : Option Addr} {pv pv' : List Pv} (h : RbAt S w p B A c pv) (hp : pv'.Perm pv) (ho : pv'.Pairwise (fun x y => x.1 ≤ y.1)) (hA : App (fun k => S k ∧ k ≠ p) w' 56 2 A pv'.length c (pv'.flatMap pvc))
    (F : Frm (fun k => M.blk A = some k ∨ New w k) w w') : ∃ l', RbAt S w' p { B with l := l' } A c pv' ∧ l'.Perm B.l ∧ l'.Pairwise (fun x y => x.off ≤ y.off) := by
  obtain ⟨l', h1, h2⟩ := h.pcs.perm hp.symm
  refine ⟨l', ⟨?_, hA, h2.keep F (fun k hk c => ?_), h.sp, fun k hk => Nat.lt_of_lt_of_le (h.low k hk) F.size⟩, h1, h2.order ho⟩
  · have h3 := h.blk.keep F (fun c => by
      rcases c with c | c
      · exact (h.row.inM p c).2 rfl
      · have := h.low p h.sp; unfold New at c; omega)
    rw [hp.length_eq]
    exact h3
  · rcases c with c | c
    · exact hk.2.2 c
    · have := h.low k hk.1; unfold New at c; omega
end Go.Proofs.Ytljleaomlooiaaa.M
