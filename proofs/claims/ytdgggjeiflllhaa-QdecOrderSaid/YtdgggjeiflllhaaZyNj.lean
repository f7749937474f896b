/- Nj -/
import Derived.BigQuiet
import Derived.Deep.CutBlock
import Derived.Lib.Hide
import Derived.IntWalk
import Derived.Deep.LoopGhost
import Derived.Test.YtdgggjeiflllhaaZyNp
import Derived.Test.YtdgggjeiflllhaaZyMem

namespace Go.Proofs.Ytdgggjeiflllhaa.M
open Go.ChangeShapes Go.WideShapes Go.ChangeAt Go.RowKit
end Go.Proofs.Ytdgggjeiflllhaa.M
namespace Go.Proofs.Ytdgggjeiflllhaa.M
open Go.ChangeShapes Go.WideShapes Go.ChangeAt Go.RowKit
structure Wq.Inv (W : Wq) (n0 o0 cap m : Nat) (F : Fld → Prop) : Prop where
  ll : W.lines.length = m
  ul : W.uses.length ≤ m
  ol : W.out.length ≤ o0 + 21000 * m
  tn : W.t.n ≤ n0 + m
  tc : W.t.cap = cap
  ok : W.t.Ok
  ct : W.count ≤ W.t.n
  li : ∀ x ∈ W.lines, (x.kind = 1 → x.i < W.count) ∧ (x.i ≤ 99 ∨ x.i < W.t.n)
  lf : ∀ x ∈ W.lines, F x.f
section
variable {W : Wq} {n0 o0 cap m : Nat} {F : Fld → Prop}
theorem Wq.Inv.lit (h : W.Inv n0 o0 cap m F) (x : Lq) (hk : x.kind ≠ 1) (hi : x.i ≤ 99) (hF : F x.f) : ({ W with lines := W.lines ++ [x] } : Wq).Inv n0 o0 cap (m + 1) F :=
  { ll := by have := h.ll; simp [this]
    ul := Nat.le_succ_of_le h.ul
    ol := Nat.le_trans h.ol (by omega)
    tn := Nat.le_succ_of_le h.tn
    tc := h.tc, ok := h.ok, ct := h.ct
    li := fun y hy => by
      rcases List.mem_append.1 hy with e | e
      · exact h.li y e
      · rw [List.mem_singleton.1 e]; exact ⟨fun q => absurd q hk, .inl hi⟩
    lf := fun y hy => by
      rcases List.mem_append.1 hy with e | e
      · exact h.lf y e
      · rw [List.mem_singleton.1 e]; exact hF }
theorem Wq.Inv.use (h : W.Inv n0 o0 cap m F) (f : Fld) (p : Nat) (hp : p < W.t.n) (hF : F f) : (W.use f p).Inv n0 o0 cap (m + 1) F :=
  { ll := by have := h.ll; simp [Wq.use, this]
    ul := by have := h.ul; simp [Wq.use, this]
    ol := Nat.le_trans h.ol (by omega)
    tn := Nat.le_succ_of_le h.tn
    tc := h.tc, ok := h.ok
    ct := by have := h.ct; show max W.count (p + 1) ≤ W.t.n; omega
    li := fun y hy => by
      rcases List.mem_append.1 hy with e | e
      · have := h.li y e
        refine ⟨fun q => ?_, this.2⟩
        have h1 := this.1 q
        show y.i < max W.count (p + 1)
        omega
      · rw [List.mem_singleton.1 e]
        refine ⟨fun _ => ?_, .inr hp⟩
        show p < max W.count (p + 1)
        omega
    lf := fun y hy => by
      rcases List.mem_append.1 hy with e | e
      · exact h.lf y e
      · rw [List.mem_singleton.1 e]; exact hF }
theorem insN_le (nm : Bool) (i : Nat) (f : Fld) (hf : fsize f ≤ 4096) : (insN nm i f).length ≤ 21000 := by
  have h1 := pfx_length 192 6 i
  have h2 := strc_le 96 64 5 f.1
  have h3 := strc_le 128 0 7 f.2
  unfold fsize at hf
  unfold insN
  rw [List.length_append]
  cases nm
  · show (strc 96 64 5 f.1).length + _ ≤ _; omega
  · show (pfx 192 6 i).length + _ ≤ _; omega
end
theorem oneN_inv {E : Qn} {W : Wq} {n0 o0 cap m : Nat} {F : Fld → Prop} (fr : Bool) (f : Fld) (h : W.Inv n0 o0 cap m F) (hF : F f) (hc : cap ≤ 4096) : (oneN E fr W f).Inv n0 o0 cap (m + 1) F := by
  have hq1 := findS_le h3tab f
  rw [h3_len.2.2] at hq1
  have hfl := find_lt W.t h.ok f
  have hl : (litQn (findS h3tab f) f).kind ≠ 1 ∧ (litQn (findS h3tab f) f).i ≤ 99 ∧ (litQn (findS h3tab f) f).f = f := by
    unfold litQn
    split
    · exact ⟨by simp, hq1, rfl⟩
    · exact ⟨by simp, hq1, rfl⟩
  unfold oneN
  split
  · exact h.lit ⟨0, _, f⟩ (by simp) hq1 hF
  split
  · next hz =>
    split
    · exact h.use f _ (hfl hz) hF
    · exact h.lit _ hl.1 hl.2.1 (by rw [hl.2.2]; exact hF)
  split
  · next hr =>
    have hfc : fsize f ≤ W.t.cap := by
      unfold Qn.room at hr
      by_cases hc : secret f.1 = true ∨ W.t.cap / 4 < fsize f
      · rw [if_pos hc] at hr; cases hr
      · omega
    obtain ⟨hok, hn⟩ := Tb.add_ok h.ok hfc
    have hil : (insB (findS h3tab f) f).length ≤ 21000 := insN_le (findS h3tab f).2.1 (findS h3tab f).1 f (by have := h.tc; omega)
    have hW : ∀ (ls : List Lq) (us : List Nat) (ct : Nat), ls.length = m + 1 → us.length ≤ m + 1 → ct ≤ W.t.n + 1 → (∀ x ∈ ls, (x.kind = 1 → x.i < ct) ∧ (x.i ≤ 99 ∨ x.i < W.t.n + 1)) → (∀ x ∈ ls, F x.f) → (⟨W.t.add f, W.out ++ insB (findS h3tab f) f, ls, us, ct⟩ : Wq).Inv n0 o0 cap (m + 1) F := fun ls us ct h1 h2 h3 h4 h5 =>
      { ll := h1, ul := h2
        ol := by have := h.ol; show (W.out ++ insB (findS h3tab f) f).length ≤ _; rw [List.length_append]; omega
        tn := by have := h.tn; show (W.t.add f).n ≤ _; omega
        tc := by rw [Tb.add_cap]; exact h.tc
        ok := hok
        ct := by show ct ≤ (W.t.add f).n; omega
        li := fun x hx => by
          have := h4 x hx
          refine ⟨this.1, ?_⟩
          show x.i ≤ 99 ∨ x.i < (W.t.add f).n
          omega
        lf := h5 }
    split
    · refine hW _ _ _ ?_ ?_ ?_ ?_ ?_
      · have := h.ll; simp [this]
      · have := h.ul; simp [this]
      · have := h.ct; show max W.count ((W.t.add f).n - 1 + 1) ≤ _; omega
      · intro x hx
        have hct := h.ct
        rcases List.mem_append.1 hx with e | e
        · have h9 := h.li x e
          refine ⟨fun q => ?_, by omega⟩
          have h8 := h9.1 q
          show x.i < max W.count ((W.t.add f).n - 1 + 1)
          omega
        · rw [List.mem_singleton.1 e]
          refine ⟨fun _ => ?_, ?_⟩
          · show (W.t.add f).n - 1 < max W.count ((W.t.add f).n - 1 + 1); omega
          · show (W.t.add f).n - 1 ≤ 99 ∨ (W.t.add f).n - 1 < W.t.n + 1; omega
      · intro x hx
        rcases List.mem_append.1 hx with e | e
        · exact h.lf x e
        · rw [List.mem_singleton.1 e]; exact hF
    · refine hW _ _ _ ?_ ?_ ?_ ?_ ?_
      · have := h.ll; simp [this]
      · exact Nat.le_succ_of_le h.ul
      · have := h.ct; show W.count ≤ _; omega
      · intro x hx
        rcases List.mem_append.1 hx with e | e
        · have h9 := h.li x e
          exact ⟨h9.1, by omega⟩
        · rw [List.mem_singleton.1 e]
          exact ⟨fun q => absurd q hl.1, .inl hl.2.1⟩
      · intro x hx
        rcases List.mem_append.1 hx with e | e
        · exact h.lf x e
        · rw [List.mem_singleton.1 e, hl.2.2]; exact hF
  · exact h.lit _ hl.1 hl.2.1 (by rw [hl.2.2]; exact hF)
theorem lineN_le (count : Nat) (x : Lq) (h : x.f.1.length + x.f.2.length ≤ 100000) : (lineN count x).length ≤ 600000 := by
  have h1 := pfx_length 192 6 x.i
  have h2 := pfx_length 128 6 (count - 1 - x.i)
  have h3 := fun a => pfx_length a 4 x.i
  have h4 := fun a b => strc_le a b 3 x.f.1
  have h5 := strc_le 128 0 7 x.f.2
  unfold lineN
  split
  · omega
  split
  · omega
  rw [List.length_append]
  split
  · have := h3 (if secret x.f.1 then 112 else 80); omega
  · have := h4 (if secret x.f.1 then 56 else 40) (if secret x.f.1 then 48 else 32); omega
end Go.Proofs.Ytdgggjeiflllhaa.M
namespace Go.Proofs.Ytdgggjeiflllhaa.M
open Go.ChangeShapes Go.WideShapes Go.ChangeAt Go.RowKit
section
variable {X S : Nat → Prop} {w w' w2 w3 : World} {pe g bm cr s mu c c2 : Nat} {Ar A A2 : Option Addr} {L : List (Nat × Ro)} {E : Qn} {ments : List (Nat × Value)} {N : Nat → Prop} {l : List (Qs × Nat)} {o : Qs}
end
end Go.Proofs.Ytdgggjeiflllhaa.M

