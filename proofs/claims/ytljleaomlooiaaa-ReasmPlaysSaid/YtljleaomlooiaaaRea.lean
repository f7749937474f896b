/- What reading does to a buffer, in plain words and in memory. No condition. -/
import Derived.Lib.Hide
import Derived.Test.YtljleaomlooiaaaRad
namespace Go.Proofs.Ytljleaomlooiaaa.M
open Go.ChangeShapes Go.WideShapes Go.ChangeAt Go.RowKit

theorem dropB_cons (k : Nat) (p : Pc) (r : List Pc) : dropB k (p :: r) = if k < p.b.length then ⟨p.off + k, p.b.drop k⟩ :: r else dropB (k - p.b.length) r := by simp only [dropB]
theorem run_cons (p : Pc) (r : List Pc) (a : Nat) : run (p :: r) a = if p.off = a then p.b ++ run r p.stop else [] := by simp only [run]
theorem dropB_add : ∀ (l : List Pc) (i j : Nat), dropB j (dropB i l) = dropB (i + j) l
  | [], i, j => by simp [dropB]
  | p :: r, i, j => by
    rw [dropB_cons i, dropB_cons (i + j)]
    by_cases h : i < p.b.length
    · rw [if_pos h, dropB_cons]
      simp only [List.length_drop]
      by_cases h2 : i + j < p.b.length
      · rw [if_pos (by omega), if_pos h2, List.drop_drop, Nat.add_assoc]
      · rw [if_neg (by omega), if_neg h2, show j - (p.b.length - i) = i + j - p.b.length by omega]
    · rw [if_neg h, if_neg (by omega), dropB_add r, show i - p.b.length + j = i + j - p.b.length by omega]
theorem run_drop : ∀ (l : List Pc) (a k : Nat), Srt a l → k ≤ (run l a).length → run (dropB k l) (a + k) = (run l a).drop k
  | [], a, k, _, _ => by simp [dropB, run]
  | p :: r, a, k, h, hk => by
    rw [run_cons] at hk ⊢
    rw [dropB_cons]
    by_cases ha : p.off = a
    · rw [if_pos ha] at hk ⊢
      rw [List.length_append] at hk
      by_cases hl : k < p.b.length
      · have e : (⟨p.off + k, p.b.drop k⟩ : Pc).stop = p.stop := by
          unfold Pc.stop
          simp only [List.length_drop]
          omega
        rw [if_pos hl, run_cons, if_pos (by show p.off + k = a + k; omega), e, List.drop_append_of_le_length (by omega)]
      · have h1 := run_drop r p.stop (k - p.b.length) h.2.2 (by omega)
        have e : p.stop + (k - p.b.length) = a + k := by unfold Pc.stop; omega
        rw [e] at h1
        rw [if_neg hl, List.drop_append, List.drop_eq_nil_of_le (by omega : p.b.length ≤ k), List.nil_append]
        exact h1
    · rw [if_neg ha] at hk ⊢
      obtain rfl : k = 0 := by simpa using hk
      have hp : 0 < p.b.length := List.length_pos_iff.2 h.2.1
      rw [if_pos hp, run_cons, if_neg (by show ¬ p.off + 0 = a + 0; omega)]
      rfl
/-- what Read makes of a buffer -/
def Bf.reads (B : Bf) (k : Nat) : Bf := { B with l := dropB k B.l, a := B.a + k }
def Bf.many (B : Bf) (n : Int) : Nat := min n.toNat (run B.l B.a).length
theorem dropB_stop : ∀ {l : List Pc} {t : Nat} (k : Nat), (∀ P ∈ l, P.stop ≤ t) → ∀ P ∈ dropB k l, P.stop ≤ t
  | [], t, k, h, P, hP => by simp [dropB] at hP
  | p :: r, t, k, h, P, hP => by
    unfold dropB at hP
    split at hP
    · rename_i hk
      rcases List.mem_cons.1 hP with rfl | hP
      · have := h p (by simp)
        unfold Pc.stop at this ⊢
        simp only [List.length_drop]
        omega
      · exact h P (by simp [hP])
    · exact dropB_stop (k - p.b.length) (fun Q hQ => h Q (by simp [hQ])) P hP
theorem run_stop : ∀ {l : List Pc} {a t : Nat}, (∀ P ∈ l, P.stop ≤ t) → a ≤ t → a + (run l a).length ≤ t
  | [], a, t, _, ha => by simpa [run] using ha
  | p :: r, a, t, h, ha => by
    unfold run
    split
    · rename_i e
      have h1 := h p (by simp)
      have h2 := run_stop (l := r) (a := p.stop) (fun Q hQ => h Q (by simp [hQ])) h1
      rw [List.length_append]
      unfold Pc.stop at h2 ⊢
      omega
    · simpa using ha
theorem Bf.Ok.reads {B : Bf} (h : B.Ok) {k : Nat} (hk : k ≤ (run B.l B.a).length) : (B.reads k).Ok := by
  have h1 := run_stop h.stop h.at_
  refine ⟨dropB_srt B.l B.a k h.srt hk, dropB_stop k h.stop, ?_, h.top, h.win, h.fin, fun hr => ?_⟩
  · show B.a + k ≤ B.top
    omega
  · obtain ⟨h2, h3⟩ := h.gone hr
    refine ⟨h2, ?_⟩
    show dropB k B.l = []
    rw [h3]
    rfl
/-- a row whose first element's cells are written -/
theorem App.set2 {M : Nat → Prop} {w : World} {e n c : Nat} {A : Option Addr} {x y : Value} {r : List Value} (h : App M w e 2 A n c (x :: y :: r)) :
    ∃ g off, A = some ⟨g, off, none⟩ ∧ w.cell? ⟨g, off, none⟩ = some x ∧ w.cell? ⟨g, off + 1, none⟩ = some y ∧ w.frozen? ⟨g, off, none⟩ = false ∧ w.frozen? ⟨g, off + 1, none⟩ = false ∧ M g ∧ g < w.heap.size ∧
      ∀ u v w', Frm (fun k => k ≠ g) w w' → App M ((w'.setCell ⟨g, off, none⟩ u).setCell ⟨g, off + 1, none⟩ v) e 2 A n c (u :: v :: r) := by
  have hl := h.len
  simp only [List.length_cons] at hl
  have hcap := h.cap
  obtain ⟨g, off, cur, rfl, hb, hsz, hM⟩ := h.own (by omega)
  have hB : Blk w g e cur := hb
  have hc : ∀ j u, (x :: y :: r)[j]? = some u → w.cell? ⟨g, off + j, none⟩ = some u := fun j u hu => by
    obtain ⟨g2, off2, e2, hc⟩ := h.rd j u hu
    simp only [Option.some.injEq, Addr.mk.injEq] at e2
    obtain ⟨rfl, rfl, _⟩ := e2
    exact hc
  refine ⟨g, off, rfl, hc 0 x rfl, hc 1 y rfl, hB.frozen _, hB.frozen _, hM, hB.lt, fun u v w' F => ?_⟩
  have hS := ((hB.keep F (fun c => c rfl)).set_ off u).set_ (off + 1) v
  refine ⟨h.len, h.cap, h.max, h.nil_, ?_, h.inM, fun hn => ⟨g, off, _, rfl, hS, by simpa using hsz, hM⟩⟩
  intro i z hz
  refine ⟨g, off, rfl, ?_⟩
  rw [hS.cell]
  have hcs : c * 2 ≥ 2 := by omega
  match i, hz with
  | 0, hz =>
    simp only [List.getElem?_cons_zero, Option.some.injEq] at hz
    subst hz
    have : off < cur.size := by omega
    simp [this]
  | 1, hz =>
    simp only [List.getElem?_cons_succ, List.getElem?_cons_zero, Option.some.injEq] at hz
    subst hz
    have : off + 1 < cur.size := by omega
    simp [this]
  | j + 2, hz =>
    have h1 := hc (j + 2) z (by simpa using hz)
    rw [hB.cell] at h1
    rw [← h1, Array.getElem?_setIfInBounds_ne (by omega), Array.getElem?_setIfInBounds_ne (by omega)]
/-- the first piece loses its first bytes -/
theorem RbAt.eat {S : Nat → Prop} {w : World} {p c : Nat} {B : Bf} {A : Option Addr} {v : Pv} {pr : List Pv} {P : Pc} {r : List Pc} (h : RbAt S w p B A c (v :: pr)) (hB : B.l = P :: r) (k : Nat) (hk : k ≤ P.b.length) (hc : Blk w p 52 (B.cells A (pr.length + 1) c)) :
    ∃ g off, A = some ⟨g, off, none⟩ ∧ w.cell? ⟨g, off, none⟩ = some (.int .u64 P.off) ∧ w.cell? ⟨g, off + 1, none⟩ = some (.slice v.2.1 P.b.length v.2.2.2) ∧ w.frozen? ⟨g, off, none⟩ = false ∧ w.frozen? ⟨g, off + 1, none⟩ = false ∧ g ≠ p ∧ S g ∧ g < w.heap.size ∧ P.b.length ≤ v.2.2.2 ∧
      Rd w v.2.1 (bvs P.b) ∧ (v.2.1 = none → v.2.2.2 = 0) ∧
      ∀ A2, (if v.2.2.2 = k then v.2.1 else v.2.1.map (·.add (k * 1))) = A2 → ∀ a2 : Nat, RbAt S (((w.setCell ⟨p, 1, none⟩ (.int .u64 a2)).setCell ⟨g, off, none⟩ (.int .u64 a2)).setCell ⟨g, off + 1, none⟩ (.slice A2 (P.b.length - k) (v.2.2.2 - k))) p { B with l := ⟨a2, P.b.drop k⟩ :: r, a := a2 } A c ((a2, A2, P.b.length - k, v.2.2.2 - k) :: pr) ∧
        Frm S w (((w.setCell ⟨p, 1, none⟩ (.int .u64 a2)).setCell ⟨g, off, none⟩ (.int .u64 a2)).setCell ⟨g, off + 1, none⟩ (.slice A2 (P.b.length - k) (v.2.2.2 - k))) := by
  have hrow := h.row
  simp only [List.flatMap_cons, pvc, List.cons_append, List.nil_append] at hrow
  have hpcs := h.pcs
  rw [hB] at hpcs
  obtain ⟨hP, hr⟩ := hpcs
  obtain ⟨g, off, rfl, hx, hy, hfx, hfy, hM, hg, hset⟩ := hrow.set2
  have hlen := hP.len
  have hcap := hP.cap
  rw [hP.off] at hx
  rw [hlen] at hy
  refine ⟨g, off, rfl, hx, hy, hfx, hfy, hM.2, hM.1, hg, by omega, hP.rd, hP.nil_, fun A2 hA2 a2 => ?_⟩
  have F1 : Frm (fun q => q = p) w (w.setCell ⟨p, 1, none⟩ (.int .u64 a2)) := (Frm.refl (fun q => q = p) w).setCell (p := ⟨p, 1, none⟩) rfl _
  have F1' : Frm (fun q => q ≠ g) w (w.setCell ⟨p, 1, none⟩ (.int .u64 a2)) := F1.mono (fun q e => by rw [e]; exact fun c => hM.2 c.symm)
  have F : Frm (fun q => q = p ∨ q = g) w (((w.setCell ⟨p, 1, none⟩ (.int .u64 a2)).setCell ⟨g, off, none⟩ (.int .u64 a2)).setCell ⟨g, off + 1, none⟩ (.slice A2 (P.b.length - k) (v.2.2.2 - k))) :=
    ((F1.mono (fun q e => .inl e)).setCell (p := ⟨g, off, none⟩) (.inr rfl) _).setCell (p := ⟨g, off + 1, none⟩) (.inr rfl) _
  refine ⟨⟨?_, ?_, ⟨⟨rfl, ?_, ?_, ?_, ?_, ?_⟩, ?_⟩, h.sp, fun q hq => Nat.lt_of_lt_of_le (h.low q hq) F.size⟩, F.mono (fun q e => by rcases e with e | e; rw [e]; exact h.sp; rw [e]; exact hM.1)⟩
  · have h1 := ((hc.set_ 1 (.int .u64 a2)).far (p := ⟨g, off, none⟩) (fun e => hM.2 e.symm) (.int .u64 a2)).far (p := ⟨g, off + 1, none⟩) (fun e => hM.2 e.symm) (.slice A2 (P.b.length - k) (v.2.2.2 - k))
    simp only [List.length_cons]
    exact h1
  · have h1 := hset (.int .u64 a2) (.slice A2 (P.b.length - k) (v.2.2.2 - k)) _ F1'
    simp only [List.flatMap_cons, pvc, List.cons_append, List.nil_append, List.length_cons]
    exact h1
  · simp
  · show P.b.length - k ≤ v.2.2.2 - k
    omega
  · have h1 := (hP.rd.fromB (by omega : P.b.length ≤ v.2.2.2) k)
    rw [hA2] at h1
    refine h1.keep F (fun q hq e => ?_)
    rw [← hA2, cut_blk] at hq
    have h2 := hP.inM q hq
    rcases e with e | e
    · exact h2.2.1 e
    · exact h2.2.2 (by rw [e]; rfl)
  · intro e
    rw [← hA2] at e
    have := hP.nil_ (cut_none e)
    show v.2.2.2 - k = 0
    omega
  · intro q hq
    rw [← hA2, cut_blk] at hq
    exact hP.inM q hq
  · exact hr.keep F (fun q hq e => by
      rcases e with e | e
      · exact hq.2.1 e
      · exact hq.2.2 (by rw [e]; rfl))
/-- the first piece goes -/
theorem RbAt.pop {S : Nat → Prop} {w : World} {p c : Nat} {B : Bf} {A : Option Addr} {v : Pv} {pr : List Pv} {P : Pc} {r : List Pc} (h : RbAt S w p B A c (v :: pr)) (hB : B.l = P :: r) {A2 : Option Addr} (hA2 : (if c = 1 then A else A.map (·.add (1 * 2))) = A2) :
    RbAt S (w.setCell ⟨p, 0, none⟩ (.slice A2 pr.length (c - 1))) p { B with l := r } A2 (c - 1) pr ∧ Frm S w (w.setCell ⟨p, 0, none⟩ (.slice A2 pr.length (c - 1))) := by
  have F : Frm (fun q => q = p) w (w.setCell ⟨p, 0, none⟩ (.slice A2 pr.length (c - 1))) := (Frm.refl (fun q => q = p) w).setCell (p := ⟨p, 0, none⟩) rfl _
  have hpcs := h.pcs
  rw [hB] at hpcs
  have hcap := h.row.cap
  have hbl : M.blk A2 = M.blk A := by rw [← hA2]; exact cut_blk
  refine ⟨⟨h.blk.set_ 0 _, ?_, ?_, h.sp, fun q hq => Nat.lt_of_lt_of_le (h.low q hq) F.size⟩, F.mono (fun q e => by rw [e]; exact h.sp)⟩
  · have h1 := (h.row.from_ 1 (by simp)).keep F (fun q hq e => by
      rw [cut_blk] at hq
      exact (h.row.inM q hq).2 e)
    rw [hA2] at h1
    simpa [pvc] using h1
  · rw [hbl]
    exact hpcs.2.keep F (fun q hq e => hq.2.1 e)
end Go.Proofs.Ytljleaomlooiaaa.M
