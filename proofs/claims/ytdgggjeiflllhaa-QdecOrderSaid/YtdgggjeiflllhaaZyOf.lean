/- Of -/
import Derived.BigQuiet
import Derived.Deep.CutBlock
import Derived.Lib.Hide
import Derived.IntWalk
import Derived.Deep.LoopGhost
import Derived.Test.YtdgggjeiflllhaaZyOc
import Derived.Test.YtdgggjeiflllhaaZyNo

namespace Go.Proofs.Ytdgggjeiflllhaa.M
open Go.ChangeShapes Go.WideShapes Go.ChangeAt Go.RowKit
section
variable {X S : Nat → Prop} {w w' : World} {pe g co cr : Nat} {Ao Ar A' : Option Addr} {l : List Ou} {E : Qn}
theorem OnM.setr (h : OnM X w pe g S Ao co l Ar cr E) {r2 : Bytes} {c' : Nat} {Y : Nat → Prop} (hA : App Y w 5 1 A' r2.length c' (bvs r2)) (hY : ∀ k, M.blk A' = some k → k < w.heap.size ∧ ¬ S k ∧ k ≠ pe) (hl : r2.length ≤ 1099511627776) :
    OnM (fun k => X k ∨ M.blk A' = some k) (w.setCell ⟨pe, 4, none⟩ (.slice A' r2.length c')) pe g S Ao co l A' c' { E with rest := r2 } := by
  have f : Frm (fun k => k = pe) w (w.setCell ⟨pe, 4, none⟩ (.slice A' r2.length c')) := (Frm.refl (fun k => k = pe) w).setCell (p := ⟨pe, 4, none⟩) rfl _
  have hA2 := hA.keep f (fun k hk e => (hY k hk).2.2 e)
  exact { h with
    blk := by have := h.blk.set_ 4 (.slice A' r2.length c'); simpa using this
    tab := h.tab.keep f (fun k hk e => h.ps (e ▸ hk))
    opn := (h.opn.keep f (fun k hk e => (h.ro k hk).2.2 e)).mono (fun k hk => .inl hk)
    use_ := fun y hy => ⟨(h.use_ y hy).1.keep f (fun k hk e => (h.ru y hy k hk).2.2 e), (h.use_ y hy).2⟩
    rest := { hA2 with
      inM := fun k hk => .inr hk
      own := fun hc => by
        obtain ⟨gg, off, cur, a, b2, d, m⟩ := hA2.own hc
        exact ⟨gg, off, cur, a, b2, d, .inr (by rw [a]; rfl)⟩ }
    rc := hA.cap, rm := hA.max
    low := fun k hk => by
      rcases hk with hk | hk
      · exact Nat.lt_of_lt_of_le (h.low k hk) f.size
      · exact Nat.lt_of_lt_of_le (hY k hk).1 f.size
    xp := .inl h.xp, xs := fun k hk => .inl (h.xs k hk)
    ro := fun k hk => ⟨.inl (h.ro k hk).1, (h.ro k hk).2⟩
    rr := fun k hk => ⟨.inr hk, (hY k hk).2⟩
    ru := fun y hy k hk => ⟨.inl (h.ru y hy k hk).1, (h.ru y hy k hk).2⟩
    rl := hl }
theorem OnM.seterr (h : OnM X w pe g S Ao co l Ar cr E) (n : Nat) : OnM X (w.setCell ⟨pe, 5, none⟩ (.int .i64 (n : Int))) pe g S Ao co l Ar cr { E with err := n } := by
  have f : Frm (fun k => k = pe) w (w.setCell ⟨pe, 5, none⟩ (.int .i64 (n : Int))) := (Frm.refl (fun k => k = pe) w).setCell (p := ⟨pe, 5, none⟩) rfl _
  exact { h with
    blk := by have := h.blk.set_ 5 (.int .i64 (n : Int)); simpa using this
    tab := h.tab.keep f (fun k hk e => h.ps (e ▸ hk))
    opn := h.opn.keep f (fun k hk e => (h.ro k hk).2.2 e)
    use_ := fun y hy => ⟨(h.use_ y hy).1.keep f (fun k hk e => (h.ru y hy k hk).2.2 e), (h.use_ y hy).2⟩
    rest := h.rest.keep f (fun k hk e => (h.rr k hk).2.2 e)
    low := fun k hk => Nat.lt_of_lt_of_le (h.low k hk) f.size }
theorem OnM.setknown (h : OnM X w pe g S Ao co l Ar cr E) (n : Nat) (hn : n ≤ E.t.n) : OnM X (w.setCell ⟨pe, 2, none⟩ (.int .u64 (n : Int))) pe g S Ao co l Ar cr { E with known := n } := by
  have f : Frm (fun k => k = pe) w (w.setCell ⟨pe, 2, none⟩ (.int .u64 (n : Int))) := (Frm.refl (fun k => k = pe) w).setCell (p := ⟨pe, 2, none⟩) rfl _
  exact { h with
    blk := by have := h.blk.set_ 2 (.int .u64 (n : Int)); simpa using this
    tab := h.tab.keep f (fun k hk e => h.ps (e ▸ hk))
    opn := h.opn.keep f (fun k hk e => (h.ro k hk).2.2 e)
    use_ := fun y hy => ⟨(h.use_ y hy).1.keep f (fun k hk e => (h.ru y hy k hk).2.2 e), (h.use_ y hy).2⟩
    rest := h.rest.keep f (fun k hk e => (h.rr k hk).2.2 e)
    low := fun k hk => Nat.lt_of_lt_of_le (h.low k hk) f.size
    kn := hn }
theorem OnM.seto (h : OnM X w pe g S Ao co l Ar cr E) {c' : Nat} {l2 : List Ou} {o2 : List Qs} {Y : Nat → Prop} (hA : App Y w 118 3 A' l2.length c' (ocC l2)) (hY : ∀ k, M.blk A' = some k → k < w.heap.size ∧ ¬ S k ∧ k ≠ pe) (hs : l2.map (·.q) = o2) (hl : ∀ y ∈ l2, y ∈ l) (hn : o2.length ≤ E.opn.length) :
    OnM (fun k => X k ∨ M.blk A' = some k) (w.setCell ⟨pe, 3, none⟩ (.slice A' l2.length c')) pe g S A' c' l2 Ar cr { E with opn := o2 } := by
  have f : Frm (fun k => k = pe) w (w.setCell ⟨pe, 3, none⟩ (.slice A' l2.length c')) := (Frm.refl (fun k => k = pe) w).setCell (p := ⟨pe, 3, none⟩) rfl _
  have hA2 := hA.keep f (fun k hk e => (hY k hk).2.2 e)
  exact { h with
    blk := by have := h.blk.set_ 3 (.slice A' l2.length c'); simpa using this
    tab := h.tab.keep f (fun k hk e => h.ps (e ▸ hk))
    opn := { hA2 with
      inM := fun k hk => .inr hk
      own := fun hc => by
        obtain ⟨gg, off, cur, a, b2, d, m⟩ := hA2.own hc
        exact ⟨gg, off, cur, a, b2, d, .inr (by rw [a]; rfl)⟩ }
    oc := hA.cap, om := hA.max, same := hs
    use_ := fun y hy => ⟨(h.use_ y (hl y hy)).1.keep f (fun k hk e => (h.ru y (hl y hy) k hk).2.2 e), (h.use_ y (hl y hy)).2⟩
    rest := (h.rest.keep f (fun k hk e => (h.rr k hk).2.2 e)).mono (fun k hk => .inl hk)
    low := fun k hk => by
      rcases hk with hk | hk
      · exact Nat.lt_of_lt_of_le (h.low k hk) f.size
      · exact Nat.lt_of_lt_of_le (hY k hk).1 f.size
    xp := .inl h.xp, xs := fun k hk => .inl (h.xs k hk)
    ro := fun k hk => ⟨.inr hk, (hY k hk).2⟩
    rr := fun k hk => ⟨.inl (h.rr k hk).1, (h.rr k hk).2⟩
    ru := fun y hy k hk => ⟨.inl (h.ru y (hl y hy) k hk).1, (h.ru y (hl y hy) k hk).2⟩
    ctn := fun o ho => by
      rw [← hs] at ho
      obtain ⟨y, hy, rfl⟩ := List.mem_map.1 ho
      exact h.ctn _ (by rw [← h.same]; exact List.mem_map.2 ⟨y, hl y hy, rfl⟩)
    ol := Nat.le_trans hn h.ol }
end
theorem ackGo_at {s : Nat} : ∀ (l : List Qs) (i : Nat) (hi : i < l.length), l[i].stream = s → (∀ j (hj : j < i), (l[j]'(by omega)).stream ≠ s) → ackGo s l = some (l[i], l.take i ++ l.drop (i + 1))
  | [], i, hi, _, _ => by simp at hi
  | o :: r, 0, hi, h, _ => by
    unfold ackGo
    rw [if_pos (show o.stream = s from h)]
    rfl
  | o :: r, i + 1, hi, h, hj => by
    have h0 : ¬ o.stream = s := hj 0 (by omega)
    unfold ackGo
    rw [if_neg h0, ackGo_at r i (by simpa using hi) h (fun j hjj => hj (j + 1) (by omega))]
    rfl
end Go.Proofs.Ytdgggjeiflllhaa.M

