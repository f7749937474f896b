/- A buffer in memory. No condition. -/
import Derived.Lib.Hide
import Derived.Test.YtljleaomlooiaaaRm4
namespace Go.Proofs.Ytljleaomlooiaaa.M
open Go.ChangeShapes Go.WideShapes Go.ChangeAt Go.RowKit

/-- a piece as it lies: its place; its slice -/
abbrev Pv := Nat × Option Addr × Nat × Nat
def pvc (x : Pv) : List Value := [.int .u64 x.1, .slice x.2.1 x.2.2.1 x.2.2.2]

/-- a piece as it lies; its bytes in blocks of M -/
structure PcAt (w : World) (M : Nat → Prop) (v : Pv) (P : Pc) : Prop where
  off : v.1 = P.off
  len : v.2.2.1 = P.b.length
  cap : v.2.2.1 ≤ v.2.2.2
  rd : Rd w v.2.1 (bvs P.b)
  nil_ : v.2.1 = none → v.2.2.2 = 0
  inM : ∀ k, blk v.2.1 = some k → M k
/-- one by one -/
def PcsAt (w : World) (M : Nat → Prop) : List Pv → List Pc → Prop
  | [], [] => True
  | v :: r, P :: q => PcAt w M v P ∧ PcsAt w M r q
  | _, _ => False
structure RbAt (S : Nat → Prop) (w : World) (p : Nat) (B : Bf) (A : Option Addr) (c : Nat) (pv : List Pv) : Prop where
  blk : Blk w p 52 (B.cells A pv.length c)
  row : App (fun k => S k ∧ k ≠ p) w 56 2 A pv.length c (pv.flatMap pvc)
  pcs : PcsAt w (fun k => S k ∧ k ≠ p ∧ _root_.Go.Proofs.Ytljleaomlooiaaa.M.blk A ≠ some k) pv B.l
  sp : S p
  low : ∀ k, S k → k < w.heap.size
/-- the blocks of S, and all new ones -/
def Own (S : Nat → Prop) (w : World) (k : Nat) : Prop := S k ∨ w.heap.size ≤ k
theorem Own.up (S : Nat → Prop) (w : World) : Up (Own S w) w := fun _ h => .inr h
/-- cells that lie elsewhere -/
structure Ext (S : Nat → Prop) (w : World) (A : Option Addr) (xs : List Value) : Prop where
  rd : Rd w A xs
  far : xs ≠ [] → ∀ k, M.blk A = some k → ¬ S k ∧ k < w.heap.size
theorem Ext.off {S M' : Nat → Prop} {w w' : World} {A : Option Addr} {xs : List Value} (h : Ext S w A xs) (F : Frm M' w w') (hM : ∀ k, M' k → S k ∨ w.heap.size ≤ k) : Rd w' A xs := by
  by_cases hn : xs = []
  · subst hn; exact Rd.nil
  · refine h.rd.keep F (fun k hk c => ?_)
    have h3 := h.far hn k hk
    rcases hM k c with c | c
    · exact h3.1 c
    · omega
theorem Ext.step {S S' : Nat → Prop} {w w' : World} {A : Option Addr} {xs : List Value} (h : Ext S w A xs) (F : Frm (Own S w) w w') (hS : ∀ k, S' k → Own S w k) : Ext S' w' A xs := by
  refine ⟨h.off F (fun k hk => hk), fun hn k hk => ⟨fun c => ?_, Nat.lt_of_lt_of_le (h.far hn k hk).2 F.size⟩⟩
  rcases hS k c with c | c
  · exact (h.far hn k hk).1 c
  · have := (h.far hn k hk).2; omega
theorem Ext.fresh {S : Nat → Prop} {w w' : World} {A : Option Addr} {xs : List Value} (h : Ext S w A xs) (F : Frm (New w) w w') : Ext S w' A xs := ⟨h.rd.fresh F, fun hn k hk => ⟨(h.far hn k hk).1, Nat.lt_of_lt_of_le (h.far hn k hk).2 F.size⟩⟩
theorem Own.trans {S S' : Nat → Prop} {w w' : World} (hS : ∀ k, S' k → Own S w k) (hs : w.heap.size ≤ w'.heap.size) : ∀ k, Own S' w' k → Own S w k := fun k hk => by
  rcases hk with c | c
  · exact hS k c
  · exact .inr (Nat.le_trans hs c)
/-- what holds of a buffer -/
structure Bf.Ok (B : Bf) : Prop where
  srt : Srt B.a B.l
  stop : ∀ P ∈ B.l, P.stop ≤ B.top
  at_ : B.a ≤ B.top
  top : B.top ≤ B.win
  win : B.win ≤ 4611686018427387903
  fin : B.known = true → B.top = B.fin
  gone : B.reset = true → B.known = true ∧ B.l = []
theorem pvl : ∀ pv : List Pv, (pv.flatMap pvc).length = pv.length * 2
  | [] => rfl
  | v :: r => by rw [List.flatMap_cons, List.length_append, pvl r]; simp [pvc]; omega
theorem pvone (pv : List Pv) : ∀ u ∈ pv.flatMap pvc, u.oneCell' = true := fun u hu => by
  obtain ⟨v, _, hv⟩ := List.mem_flatMap.1 hu
  simp only [pvc, List.mem_cons, List.not_mem_nil, or_false] at hv
  rcases hv with rfl | rfl <;> rfl
theorem pvat : ∀ (pv : List Pv) (k : Nat) (hk : k < pv.length), (pv.flatMap pvc)[k * 2]? = some (.int .u64 pv[k].1) ∧ (pv.flatMap pvc)[k * 2 + 1]? = some (.slice pv[k].2.1 pv[k].2.2.1 pv[k].2.2.2)
  | [], k, hk => by simp at hk
  | v :: r, 0, _ => ⟨rfl, rfl⟩
  | v :: r, k + 1, hk => by
    have h := pvat r k (by simpa using hk)
    have e1 : (k + 1) * 2 = k * 2 + 1 + 1 := by omega
    have e2 : (k + 1) * 2 + 1 = k * 2 + 1 + 1 + 1 := by omega
    rw [e2, e1]
    exact h
theorem pvcells {w : World} {A : Option Addr} {pv : List Pv} (h : Rd w A (pv.flatMap pvc)) (k : Nat) (hk : k < pv.length) : ∃ g o, A = some ⟨g, o, none⟩ ∧ w.cell? ⟨g, o + k * 2, none⟩ = some (.int .u64 pv[k].1) ∧
    w.cell? ⟨g, o + k * 2 + 1, none⟩ = some (.slice pv[k].2.1 pv[k].2.2.1 pv[k].2.2.2) := by
  obtain ⟨h1, h2⟩ := pvat pv k hk
  obtain ⟨g, o, rfl, hc⟩ := h _ _ h1
  obtain ⟨g', o', e, hc'⟩ := h _ _ h2
  injection e with e
  injection e with e1 e2
  subst e1 e2
  exact ⟨g, o, rfl, hc, hc'⟩
theorem zPc : (Try.prog.info? 56).map (·.zero) = some (some (.agg #[.int .u64 0, .slice none 0 0])) := by kernel_rfl
/-- how many bytes -/
def hl : List Pc → Nat
  | [] => 0
  | p :: r => p.b.length + hl r
theorem hl_flat : ∀ l : List Pc, (flat l).length = hl l
  | [] => rfl
  | p :: r => by rw [flat_cons, List.length_append, row_length, hl_flat r]; rfl
theorem hl_take : ∀ (l : List Pc) (k : Nat) (hk : k < l.length), hl (l.take (k + 1)) = hl (l.take k) + l[k].b.length
  | [], k, hk => by simp at hk
  | p :: r, 0, _ => by simp [hl]
  | p :: r, k + 1, hk => by
    have h := hl_take r k (by simpa using hk)
    simp only [List.take_succ_cons, hl, List.getElem_cons_succ] at h ⊢
    omega
theorem hl_le : ∀ {l : List Pc} {a win : Nat}, Srt a l → (∀ P ∈ l, P.stop ≤ win) → l ≠ [] → a + hl l ≤ win
  | [], _, _, _, _, h => absurd rfl h
  | p :: r, a, win, hs, hf, _ => by
    have h1 := hs.1
    have h2 := hf p (by simp)
    by_cases hr : r = []
    · subst hr
      unfold Pc.stop at h2
      simp only [hl]
      omega
    · have h3 := hl_le hs.2.2 (fun P hP => hf P (by simp [hP])) hr
      unfold Pc.stop at h3
      simp only [hl]
      omega
theorem hl_mono (l : List Pc) (k : Nat) : hl (l.take k) ≤ hl l := by
  rw [← hl_flat, ← hl_flat]
  conv => rhs; rw [← List.take_append_drop k l, flat_append, List.length_append]
  omega
section
variable {w w' : World} {M M' : Nat → Prop} {pv : List Pv} {l : List Pc}
theorem PcAt.keep {v : Pv} {P : Pc} (h : PcAt w M v P) (f : Frm M' w w') (hf : ∀ k, M k → ¬ M' k) : PcAt w' M v P := { h with rd := h.rd.keep f (fun k hk => hf k (h.inM k hk)) }
theorem PcAt.mono {v : Pv} {P : Pc} (h : PcAt w M v P) (hm : ∀ k, M k → M' k) : PcAt w M' v P := { h with inM := fun k hk => hm k (h.inM k hk) }
theorem PcAt.fresh {v : Pv} {P : Pc} (h : PcAt w M v P) (f : Frm (New w) w w') : PcAt w' M v P := { h with rd := h.rd.fresh f }
theorem PcsAt.keep : ∀ {pv : List Pv} {l : List Pc}, PcsAt w M pv l → Frm M' w w' → (∀ k, M k → ¬ M' k) → PcsAt w' M pv l
  | [], [], _, _, _ => trivial
  | _ :: _, _ :: _, h, f, hf => ⟨h.1.keep f hf, PcsAt.keep h.2 f hf⟩
  | [], _ :: _, h, _, _ => h.elim
  | _ :: _, [], h, _, _ => h.elim
theorem PcsAt.mono : ∀ {pv : List Pv} {l : List Pc}, PcsAt w M pv l → (∀ k, M k → M' k) → PcsAt w M' pv l
  | [], [], _, _ => trivial
  | _ :: _, _ :: _, h, f => ⟨h.1.mono f, PcsAt.mono h.2 f⟩
  | [], _ :: _, h, _ => h.elim
  | _ :: _, [], h, _ => h.elim
theorem PcsAt.fresh : ∀ {pv : List Pv} {l : List Pc}, PcsAt w M pv l → Frm (New w) w w' → PcsAt w' M pv l
  | [], [], _, _ => trivial
  | _ :: _, _ :: _, h, f => ⟨h.1.fresh f, PcsAt.fresh h.2 f⟩
  | [], _ :: _, h, _ => h.elim
  | _ :: _, [], h, _ => h.elim
theorem PcsAt.len : ∀ {pv : List Pv} {l : List Pc}, PcsAt w M pv l → pv.length = l.length
  | [], [], _ => rfl
  | _ :: _, _ :: _, h => by simp [PcsAt.len h.2]
  | [], _ :: _, h => h.elim
  | _ :: _, [], h => h.elim
theorem PcsAt.at_ : ∀ {pv : List Pv} {l : List Pc}, PcsAt w M pv l → ∀ (k : Nat) (h1 : k < pv.length) (h2 : k < l.length), PcAt w M pv[k] l[k]
  | [], [], _, k, h1, _ => by simp at h1
  | _ :: _, _ :: _, h, 0, _, _ => h.1
  | _ :: _, _ :: _, h, k + 1, h1, h2 => PcsAt.at_ h.2 k (by simpa using h1) (by simpa using h2)
  | [], _ :: _, h, _, _, _ => h.elim
  | _ :: _, [], h, _, _, _ => h.elim
theorem PcsAt.app : ∀ {pv pv2 : List Pv} {l l2 : List Pc}, PcsAt w M pv l → PcsAt w M pv2 l2 → PcsAt w M (pv ++ pv2) (l ++ l2)
  | [], _, [], _, _, h2 => h2
  | _ :: _, _, _ :: _, _, h, h2 => ⟨h.1, PcsAt.app h.2 h2⟩
  | [], _, _ :: _, _, h, _ => h.elim
  | _ :: _, _, [], _, h, _ => h.elim
theorem RbAt.keep {S : Nat → Prop} {p c : Nat} {B : Bf} {A : Option Addr} (h : RbAt S w p B A c pv) (f : Frm M' w w') (hM : ∀ k, S k → ¬ M' k) : RbAt S w' p B A c pv :=
  { h with
    blk := h.blk.keep f (hM _ h.sp)
    row := h.row.keep f (fun k hk => hM k (h.row.inM k hk).1)
    pcs := h.pcs.keep f (fun k hk => hM k hk.1)
    low := fun k hk => Nat.lt_of_lt_of_le (h.low k hk) f.size }
theorem RbAt.fresh {S : Nat → Prop} {p c : Nat} {B : Bf} {A : Option Addr} (h : RbAt S w p B A c pv) (f : Frm (New w) w w') : RbAt S w' p B A c pv :=
  h.keep f (fun k hk c => by have := h.low k hk; unfold New at c; omega)
end
end Go.Proofs.Ytljleaomlooiaaa.M
