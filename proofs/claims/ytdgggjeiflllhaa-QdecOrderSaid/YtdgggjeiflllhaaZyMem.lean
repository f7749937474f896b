/- Mem -/
import Derived.WalkKit
import Derived.ProofKit
import Derived.OpenShut
import Derived.Laws.Externs
import Derived.Laws.AppendOwn
import Derived.Laws.OwnMore
import Derived.Deep.QuietTactic
import Derived.Deep.AppendLies
import Derived.BigQuiet
import Derived.Lib.Hide
import Derived.Below
import Derived.Test.YtdgggjeiflllhaaRows
import Derived.IntWalk
import Derived.OrdersHeld
import Derived.Deep.RegionHeld

namespace Go.Proofs.Ytdgggjeiflllhaa.M
open Go.ChangeShapes Go.WideShapes Go.ChangeAt Go.RowKit
theorem ret_int {k : IntKind} {a b : Int} (h : a = b) : Ending.returned (.int k a) = .returned (.int k b) := by rw [h]
theorem ret_bool {a b : Bool} (h : a = b) : Ending.returned (.bool a) = .returned (.bool b) := by rw [h]
theorem ret_ib {k : IntKind} {a b : Int} {c d : Bool} (h : a = b) (h2 : c = d) : Ending.returned (.tuple #[.int k a, .bool c]) = .returned (.tuple #[.int k b, .bool d]) := by rw [h, h2]
theorem ret_ii {k l : IntKind} {a b c d : Int} (h : a = b) (h2 : c = d) : Ending.returned (.tuple #[.int k a, .int l c]) = .returned (.tuple #[.int k b, .int l d]) := by rw [h, h2]
def blk (A : Option Addr) : Option Nat := A.map (·.block)
@[simp] theorem blk_none : blk none = none := rfl
@[simp] theorem blk_some (a : Addr) : blk (some a) = some a.block := rfl
structure Frm (M : Nat → Prop) (w w' : World) : Prop where
  os : w'.os = w.os
  tape : w'.tape = w.tape
  output : w'.output = w.output
  size : w.heap.size ≤ w'.heap.size
  block : ∀ k, ¬ M k → w'.heap[k]? = w.heap[k]?
def New (w : World) (k : Nat) : Prop := w.heap.size ≤ k
def Up (M : Nat → Prop) (w : World) : Prop := ∀ k, w.heap.size ≤ k → M k
section
variable {M M' : Nat → Prop} {w w' w'' : World}
theorem Up.new : Up (New w) w := fun _ h => h
theorem Up.of (h : Up M w) (hs : w.heap.size ≤ w'.heap.size) : Up M w' := fun k hk => h k (Nat.le_trans hs hk)
theorem Up.frm (h : Up M w) (f : Frm M' w w') : Up M w' := h.of f.size
theorem Frm.refl (M : Nat → Prop) (w : World) : Frm M w w := ⟨rfl, rfl, rfl, Nat.le_refl _, fun _ _ => rfl⟩
theorem Frm.trans (h : Frm M w w') (k : Frm M w' w'') : Frm M w w'' :=
  ⟨k.os.trans h.os, k.tape.trans h.tape, k.output.trans h.output, Nat.le_trans h.size k.size, fun i hi => (k.block i hi).trans (h.block i hi)⟩
theorem Frm.mono (h : Frm M w w') (hm : ∀ k, M k → M' k) : Frm M' w w' := ⟨h.os, h.tape, h.output, h.size, fun i hi => h.block i (fun c => hi (hm i c))⟩
theorem Frm.up (h : Frm (New w) w w') (hu : Up M w) : Frm M w w' := h.mono hu
theorem Frm.then_new (h : Frm M w w') (hu : Up M w) (k : Frm (New w') w' w'') : Frm M w w'' := h.trans (k.mono (hu.of h.size))
theorem Frm.drew (h : Frm M w w') : Frm M w w'.drew := ⟨h.os, h.tape, h.output, h.size, h.block⟩
theorem Frm.drewN (h : Frm M w w') (n : Nat) : Frm M w (w'.drewN n) := ⟨h.os, h.tape, h.output, h.size, h.block⟩
theorem Frm.alloc (h : Frm M w w') (hu : Up M w) (o : Obj) : Frm M w (w'.alloc o) :=
  h.trans ⟨rfl, rfl, rfl, by simp, fun k hk => by
    show (w'.heap.push o)[k]? = _
    rw [Array.getElem?_push, if_neg (fun e => hk (hu k (by rw [e]; exact h.size)))]⟩
theorem Frm.setCell (h : Frm M w w') {p : Addr} (hp : M p.block) (u : Value) : Frm M w (w'.setCell p u) :=
  h.trans ⟨rfl, rfl, rfl, by simp, fun k hk => by
    simp only [World.setCell, Array.getElem?_modify]
    rw [if_neg (fun e => hk (by rw [← e]; exact hp))]⟩
theorem Frm.below (h : Frm (New w) w w') : Below w.heap.size w w' := ⟨h.os, h.tape, h.output, h.size, fun k hk => h.block k (by unfold New; omega)⟩
theorem Frm.cell (h : Frm M w w') {p : Addr} (hp : ¬ M p.block) : w'.cell? p = w.cell? p := by simp only [World.cell?, h.block _ hp]
theorem Frm.frozen (h : Frm M w w') {p : Addr} (hp : ¬ M p.block) : w'.frozen? p = w.frozen? p := by simp only [World.frozen?, h.block _ hp]
end
def Rd (w : World) (A : Option Addr) (xs : List Value) : Prop :=
  ∀ j u, xs[j]? = some u → ∃ g off, A = some ⟨g, off, none⟩ ∧ w.cell? ⟨g, off + j, none⟩ = some u
def Far (M : Nat → Prop) (A : Option Addr) : Prop := ∀ k, blk A = some k → ¬ M k
section
variable {M M' : Nat → Prop} {w w' w'' : World} {A : Option Addr} {xs : List Value}
theorem Rd.nil : Rd w A [] := fun j u h => by simp at h
theorem Rd.keep (h : Rd w A xs) (f : Frm M w w') (hf : Far M A) : Rd w' A xs := fun j u hu => by
  obtain ⟨g, off, rfl, hc⟩ := h j u hu
  exact ⟨g, off, rfl, by rw [f.cell (hf g rfl)]; exact hc⟩
theorem Rd.lt (h : Rd w A xs) (hn : xs ≠ []) : ∃ g off, A = some ⟨g, off, none⟩ ∧ g < w.heap.size := by
  cases xs with
  | nil => exact absurd rfl hn
  | cons x r =>
    obtain ⟨g, off, rfl, hc⟩ := h 0 x rfl
    exact ⟨g, off, rfl, World.block_lt_of_cell? _ _ hc⟩
theorem Rd.fresh (h : Rd w A xs) (f : Frm (New w) w w') : Rd w' A xs := fun j u hu => by
  obtain ⟨g, off, rfl, hc⟩ := h j u hu
  have := World.block_lt_of_cell? _ _ hc
  exact ⟨g, off, rfl, by rw [f.cell (by unfold New; simp at this ⊢; omega)]; exact hc⟩
theorem Rd.alloc (h : Rd w A xs) (o : Obj) : Rd (w.alloc o) A xs := h.fresh ((Frm.refl _ _).alloc Up.new o)
theorem Rd.drew (h : Rd w A xs) : Rd w.drew A xs := h
theorem Rd.drewN (h : Rd w A xs) (n : Nat) : Rd (w.drewN n) A xs := h
theorem Rd.new (w : World) (cs : Array Value) (t : TypeId) : Rd (w.alloc (.cells cs t)) (some ⟨w.heap.size, 0, none⟩) cs.toList := fun j u hu =>
  ⟨_, _, rfl, by rw [World.cell?_alloc_at _ _ _ _ rfl]; simpa using hu⟩
theorem Rd.at_ (h : Rd w A xs) {k : Nat} (hk : k < xs.length) : ∃ g off, A = some ⟨g, off, none⟩ ∧ w.cell? ⟨g, off + k, none⟩ = some xs[k] := h k _ (List.getElem?_eq_getElem hk)
theorem Rd.cut (h : Rd w A xs) (k c : Nat) (hk : c = k → xs.length ≤ k) : Rd w (if c = k then A else A.map (·.add k)) (xs.drop k) := fun j u hu => by
  rw [List.getElem?_drop] at hu
  obtain ⟨g, off, rfl, hc⟩ := h _ u hu
  by_cases e : c = k
  · have : k + j < xs.length := (List.getElem?_eq_some_iff.1 hu).1
    have := hk e
    omega
  · rw [if_neg e]
    exact ⟨g, off + k, by simp [Addr.add_lit], by rw [Nat.add_assoc]; exact hc⟩
theorem Rd.take (h : Rd w A xs) (k : Nat) : Rd w A (xs.take k) := fun j u hu => by
  rw [List.getElem?_take] at hu
  split at hu
  · exact h j u hu
  · cases hu
theorem Rd.add (h : Rd w A xs) (k : Nat) : Rd w (A.map (·.add k)) (xs.drop k) := fun j u hu => by
  rw [List.getElem?_drop] at hu
  obtain ⟨g, off, rfl, hc⟩ := h _ u hu
  exact ⟨g, off + k, by simp [Addr.add_lit], by rw [Nat.add_assoc]; exact hc⟩
end
structure App (M : Nat → Prop) (w : World) (e size : Nat) (A : Option Addr) (n c : Nat) (xs : List Value) : Prop where
  len : xs.length = n * size
  cap : n ≤ c
  max : c ≤ maxLen
  nil_ : A = none → c = 0
  rd : Rd w A xs
  inM : ∀ k, blk A = some k → M k
  own : 0 < c → ∃ g off cur, A = some ⟨g, off, none⟩ ∧ w.heap[g]? = some (.cells cur e (0, 0)) ∧ off + c * size ≤ cur.size ∧ M g
section
variable {M M' : Nat → Prop} {w w' w'' : World} {A : Option Addr} {xs : List Value} {e size n c : Nat}
theorem App.none_ : App M w e size none 0 0 [] := ⟨by simp, Nat.le_refl _, Nat.zero_le _, fun _ => rfl, Rd.nil, fun k h => by (cases h), fun h => absurd h (by omega)⟩
theorem App.mono (h : App M w e size A n c xs) (hm : ∀ k, M k → M' k) : App M' w e size A n c xs :=
  { h with
    inM := fun k hk => hm k (h.inM k hk)
    own := fun hn => by obtain ⟨g, off, cur, a, b, d, f⟩ := h.own hn; exact ⟨g, off, cur, a, b, d, hm _ f⟩ }
theorem App.fresh (h : App M w e size A n c xs) (f : Frm (New w) w w') : App M w' e size A n c xs :=
  { h with
    rd := h.rd.fresh f
    own := fun hn => by
      obtain ⟨g, off, cur, a, b, d, m⟩ := h.own hn
      have hg : g < w.heap.size := (Array.getElem?_eq_some_iff.1 b).1
      exact ⟨g, off, cur, a, by rw [f.block g (by unfold New; omega)]; exact b, d, m⟩ }
theorem App.keep (h : App M w e size A n c xs) (f : Frm M' w w') (hf : Far M' A) : App M w' e size A n c xs :=
  { h with
    rd := h.rd.keep f hf
    own := fun hn => by
      obtain ⟨g, off, cur, a, b, d, m⟩ := h.own hn
      exact ⟨g, off, cur, a, by rw [f.block g (hf g (by rw [a]; rfl))]; exact b, d, m⟩ }
theorem App.alloc (h : App M w e size A n c xs) (o : Obj) : App M (w.alloc o) e size A n c xs := h.fresh ((Frm.refl _ _).alloc Up.new o)
theorem App.drew (h : App M w e size A n c xs) : App M w.drew e size A n c xs := ⟨h.len, h.cap, h.max, h.nil_, h.rd, h.inM, h.own⟩
theorem App.drewN (h : App M w e size A n c xs) (k : Nat) : App M (w.drewN k) e size A n c xs := ⟨h.len, h.cap, h.max, h.nil_, h.rd, h.inM, h.own⟩
theorem App.full (hr : Rd w A xs) (hl : xs.length = n * size) (hm : n ≤ maxLen) (hn : A = none → n = 0) (hM : ∀ k, blk A = some k → M k)
    (ho : 0 < n → ∃ g off cur, A = some ⟨g, off, none⟩ ∧ w.heap[g]? = some (.cells cur e (0, 0)) ∧ off + n * size ≤ cur.size ∧ M g) : App M w e size A n n xs :=
  ⟨hl, Nat.le_refl _, hm, hn, hr, hM, ho⟩
theorem App.made (w : World) (cs : Array Value) (e size n c : Nat) (hM : M w.heap.size) (hc : cs.size = c * size) (hn : n ≤ c) (hm : c ≤ maxLen) :
    App M (w.alloc (.cells cs e)) e size (some ⟨w.heap.size, 0, none⟩) n c (cs.toList.take (n * size)) :=
  ⟨by rw [List.length_take, Array.length_toList, hc, Nat.min_eq_left (Nat.mul_le_mul_right _ hn)], hn, hm, fun h => (by cases h), (Rd.new w cs e).take _, fun k hk => by (cases hk; exact hM),
    fun _ => ⟨_, 0, cs, rfl, heap_alloc_new w _, by rw [hc]; omega, hM⟩⟩
end
def Wr (A : Option Addr) (n c : Nat) (w : World) (k : Nat) : Prop := w.heap.size ≤ k ∨ (n < c ∧ blk A = some k)
section
variable {P : Program} {M : Nat → Prop}
theorem rd_addr {w : World} {a : Addr} {xs : List Value} (h : Rd w (some a) xs) : ∀ j u, xs[j]? = some u → w.cell? (a.add j) = some u := fun j u hu => by
  obtain ⟨g, off, e, hc⟩ := h j u hu
  injection e with e
  subst e
  rw [Addr.add_lit]
  exact hc
theorem run_first (w : World) (size m d : Nat) (B : Option Addr) (news : List Value) (hl : news.length = m * size) (h : Rd w B news) :
    (Builtin.firstCells size m (.slice B m d)).run P w = .ok news.toArray w := by
  cases B with
  | none =>
    have : news = [] := by
      cases news with
      | nil => rfl
      | cons x r => obtain ⟨g, off, e, _⟩ := h 0 x rfl; cases e
    subst this
    simp [Builtin.firstCells]
  | some b => exact run_firstCells_some w size m b m d news hl (rd_addr h)
theorem take_mid (l news : List Value) (off k : Nat) (h : off + k + news.length ≤ l.length) :
    ((l.take (off + k) ++ news ++ l.drop (off + k + news.length)).drop off).take (k + news.length) = (l.drop off).take k ++ news := by
  rw [List.append_assoc, List.drop_append_of_le_length (by rw [List.length_take]; omega), List.drop_take]
  have e : (List.take (off + k - off) (List.drop off l)).length = k := by rw [List.length_take, List.length_drop]; omega
  rw [show k + news.length = (List.take (off + k - off) (List.drop off l)).length + news.length from by rw [e], List.take_length_add_append]
  rw [List.take_left' rfl, show off + k - off = k from by omega]
theorem run_append (w : World) (t ty e : TypeId) (i : TypeInfo) (z : Value) (size bytes : Nat) (ht : P.underlying t = some (.slice e)) (hi : P.info? e = some i) (hz : i.zero = some z)
    (hsize : i.size = size) (hby : i.bytes = bytes) (hzs : z.cells.size = size) (hsz : 0 < size)
    (A : Option Addr) (n c : Nat) (xs : List Value) (hA : App M w e size A n c xs) (hu : Up M w)
    (u : TypeId) (x : Value) (m : Nat) (news : List Value) (hl : news.length = m * size) (h1 : ∀ u ∈ news, u.oneCell' = true)
    (hdu : (∃ e', P.underlying u = some (.slice e')) ∨ P.underlying u = some .string)
    (hxl : ∀ w', (Builtin.lenOf x).run P w' = .ok m w') (hxc : ∀ w', w'.heap = w.heap → (Builtin.firstCells size m x).run P w' = .ok news.toArray w')
    (h63 : n + m ≤ maxLen) (hbytes : (n + m) * bytes ≤ 140737488355328) :
    ∃ A' c' w', (Builtin.append_ #[t, u] ty #[.slice A n c, x]).run P w = .ok (.slice A' (n + m) c') w' ∧ App M w' e size A' (n + m) c' (xs ++ news) ∧ Frm M w w' ∧
      ((blk A' = blk A ∧ c' = c) ∨ (blk A' = some w.heap.size ∧ 0 < m)) ∧ Frm (Wr A n c w) w w' := by
  subst hsize
  subst hby
  have hsmall : n + m ≤ 9223372036854775807 := by simp only [maxLen] at h63; omega
  have hlen : (xs ++ news).length = (n + m) * i.size := by rw [List.length_append, hA.len, hl, Nat.add_mul]
  by_cases hroom : n + m ≤ c
  · by_cases hm : m = 0
    · subst hm
      have hn : news = [] := List.eq_nil_of_length_eq_zero (by simpa using hl)
      subst hn
      refine ⟨A, c, w, ?_, by simpa using hA, Frm.refl _ _, .inl ⟨rfl, rfl⟩, Frm.refl _ _⟩
      have hxc' := hxc w rfl
      have hxl' := hxl w
      have hcap := hA.cap
      rcases hdu with ⟨e', hdu⟩ | hdu <;> cases A <;> simp [Builtin.append_, run_underlying ht, run_underlying hdu, sizeOf, typeInfo, hi, hcap, hxl', hxc', storeCells]
    · obtain ⟨g, off, cur, rfl, hg, hcur, hMg⟩ := hA.own (by omega)
      have hcs : (n + m) * i.size ≤ c * i.size := Nat.mul_le_mul_right _ hroom
      have hfit : off + n * i.size + news.length ≤ cur.size := by rw [hl]; rw [Nat.add_mul] at hcs; omega
      have hst := run_storeCells_at P g (off + n * i.size) e news 0 cur w hg (by simpa using hfit) h1
      simp only [Nat.add_zero] at hst
      refine ⟨some ⟨g, off, none⟩, c, w.setRow g (cur.toList.take (off + n * i.size) ++ news ++ cur.toList.drop (off + n * i.size + news.length)).toArray, ?_, ?_, ?_, .inl ⟨rfl, rfl⟩, ⟨rfl, rfl, rfl, by simp, fun k hk => setRow_other w g k _ (fun e => hk (.inr ⟨by omega, by rw [e]; rfl⟩))⟩⟩
      · have hxc' := hxc w rfl
        have hxl' := hxl w
        rcases hdu with ⟨e', hdu⟩ | hdu <;> simp [Builtin.append_, run_underlying ht, run_underlying hdu, sizeOf, typeInfo, hi, hroom, hxl', hxc', Addr.add_lit, hst]
      · have hheap := setRow_heap w g cur (cur.toList.take (off + n * i.size) ++ news ++ cur.toList.drop (off + n * i.size + news.length)).toArray e _ hg
        have hsz' : (cur.toList.take (off + n * i.size) ++ news ++ cur.toList.drop (off + n * i.size + news.length)).toArray.size = cur.size := by
          simp only [List.size_toArray, List.length_append, List.length_take, List.length_drop, Array.length_toList]; omega
        have hxs : xs = (cur.toList.drop off).take (n * i.size) := by
          apply List.ext_getElem?
          intro j
          rw [List.getElem?_take, List.getElem?_drop]
          by_cases hj : j < n * i.size
          · rw [if_pos hj]
            have hj' : j < xs.length := by rw [hA.len]; exact hj
            obtain ⟨g', off', e', hc'⟩ := hA.rd j _ (List.getElem?_eq_getElem hj')
            simp only [Option.some.injEq, Addr.mk.injEq] at e'
            obtain ⟨rfl, rfl, _⟩ := e'
            rw [cell_of_row w g _ cur e (0, 0) hg] at hc'
            rw [List.getElem?_eq_getElem hj', ← hc']
            simp
          · rw [if_neg hj, List.getElem?_eq_none (by rw [hA.len]; omega)]
        refine ⟨hlen, hroom, hA.max, fun h => (by cases h), fun j u hu => ⟨g, off, rfl, ?_⟩, fun k hk => by (cases hk; exact hMg), fun _ => ⟨g, off, _, rfl, hheap, by rw [hsz']; exact hcur, hMg⟩⟩
        rw [cell_of_row _ g _ _ e (0, 0) hheap]
        have htm := take_mid cur.toList news off (n * i.size) (by rw [Array.length_toList]; exact hfit)
        rw [← hxs] at htm
        rw [← htm, List.getElem?_take] at hu
        split at hu
        · rw [List.getElem?_drop] at hu
          simpa using hu
        · cases hu
      · exact ⟨rfl, rfl, rfl, by simp, fun k hk => setRow_other w g k _ (fun e => hk (e ▸ hMg))⟩
  · have hm : 0 < m := by have := hA.cap; omega
    have hfit : Builtin.nextslicecap (n + m) c * i.bytes ≤ 281474976710656 := growslice_fits (by omega) hbytes
    have hge := grownCap_ge w (n + m) c e
    have hcm : grownCap w (n + m) c e ≤ maxLen := grownCap_le_maxLen w (n + m) c e h63
    refine ⟨some ⟨w.heap.size, 0, none⟩, grownCap w (n + m) c e, w.drew.alloc (.cells (xs.toArray ++ news.toArray ++ Builtin.zeroCells z.cells (grownCap w (n + m) c e - (n + m))) e), ?_, ?_, ?_, .inr ⟨rfl, hm⟩, (Frm.refl _ w).drew.alloc (fun k hk => .inl hk) _⟩
    · have h63' : ¬ (9223372036854775807 < ((n : Int) + (m : Int))) := by omega
      have h48' : ¬ (281474976710656 < Builtin.nextslicecap (n + m) c * i.bytes) := by omega
      have hxc' := hxc w.drew rfl
      have hxl' := hxl w
      have hfo : (Builtin.firstCells i.size n (.slice A n c)).run P w.drew = .ok xs.toArray w.drew := run_first w.drew i.size n c A xs hA.len hA.rd.drew
      have hnr : ¬ (n + m ≤ c) := hroom
      rcases hdu with ⟨e', hdu⟩ | hdu <;> simp [Builtin.append_, run_underlying ht, run_underlying hdu, sizeOf, typeInfo, zeroValue, hi, hz, Question.forced, newRow, grownCap, hnr, h63', h48', hxl', hxc', hfo] <;> (congr 2; apply Array.ext'; simp [List.append_assoc])
    · have htl : (xs.toArray ++ news.toArray ++ Builtin.zeroCells z.cells (grownCap w (n + m) c e - (n + m))).toList.take ((n + m) * i.size) = xs ++ news := by
        simp only [Array.toList_append, List.append_assoc]
        rw [← List.append_assoc, ← hlen]
        exact List.take_left
      have hsz2 : (xs.toArray ++ news.toArray ++ Builtin.zeroCells z.cells (grownCap w (n + m) c e - (n + m))).size = grownCap w (n + m) c e * i.size := by
        simp only [Array.size_append, List.size_toArray, size_zeroCells, hzs, hA.len, hl, ← Nat.add_mul]
        congr 1
        omega
      have := App.made (M := M) w.drew (xs.toArray ++ news.toArray ++ Builtin.zeroCells z.cells (grownCap w (n + m) c e - (n + m))) e i.size (n + m) (grownCap w (n + m) c e) (hu _ (Nat.le_refl _)) hsz2 hge hcm
      rw [htl] at this
      exact this
    · exact (Frm.refl M w).drew.alloc hu _
end
structure Elem (P : Program) (t e : TypeId) (size bytes : Nat) : Prop where
  ht : P.underlying t = some (.slice e)
  info : ∃ i z, P.info? e = some i ∧ i.zero = some z ∧ i.size = size ∧ i.bytes = bytes ∧ z.cells.size = size
  pos : 0 < size
  bpos : 0 < bytes
section
variable {P : Program} {M : Nat → Prop} {t e : TypeId} {size bytes : Nat}
theorem Elem.max (E : Elem P t e size bytes) {n : Nat} (h : n * bytes ≤ 140737488355328) : n ≤ maxLen := by
  have := Nat.le_trans (Nat.le_mul_of_pos_right n E.bpos) h
  simp only [maxLen]; omega
theorem run_append_slice (E : Elem P t e size bytes) (w : World) (ty : TypeId) {A : Option Addr} {n c : Nat} {xs : List Value} (hA : App M w e size A n c xs) (hu : Up M w)
    {B : Option Addr} {m d : Nat} {news : List Value} (hB : Rd w B news) (hl : news.length = m * size) (h1 : ∀ u ∈ news, u.oneCell' = true) (hbytes : (n + m) * bytes ≤ 140737488355328) :
    ∃ A' c' w', (Builtin.append_ #[t, t] ty #[.slice A n c, .slice B m d]).run P w = .ok (.slice A' (n + m) c') w' ∧ App M w' e size A' (n + m) c' (xs ++ news) ∧ Frm M w w' ∧
      ((blk A' = blk A ∧ c' = c) ∨ (blk A' = some w.heap.size ∧ 0 < m)) ∧ Frm (Wr A n c w) w w' := by
  obtain ⟨i, z, hi, hz, hs, hb, hzs⟩ := E.info
  exact run_append w t ty e i z size bytes E.ht hi hz hs hb hzs E.pos A n c xs hA hu t _ m news hl h1 (.inl ⟨e, E.ht⟩) (fun _ => rfl)
    (fun w' hw' => run_first w' size m d B news hl (fun j u hu => by
      obtain ⟨g, off, e, hc⟩ := hB j u hu
      exact ⟨g, off, e, by simp only [World.cell?, hw'] at hc ⊢; exact hc⟩)) (E.max hbytes) hbytes
theorem run_append_string (E : Elem P t e 1 bytes) (w : World) (ty u : TypeId) (hus : P.underlying u = some .string) {A : Option Addr} {n c : Nat} {xs : List Value} (hA : App M w e 1 A n c xs) (hu : Up M w)
    (s : ByteArray) (hbytes : (n + s.size) * bytes ≤ 140737488355328) :
    ∃ A' c' w', (Builtin.append_ #[t, u] ty #[.slice A n c, .string s]).run P w = .ok (.slice A' (n + s.size) c') w' ∧
      App M w' e 1 A' (n + s.size) c' (xs ++ s.data.toList.map (fun b => Value.int .u8 (b.toNat : Int))) ∧ Frm M w w' ∧
      ((blk A' = blk A ∧ c' = c) ∨ (blk A' = some w.heap.size ∧ 0 < s.size)) ∧ Frm (Wr A n c w) w w' := by
  obtain ⟨i, z, hi, hz, hs, hb, hzs⟩ := E.info
  refine run_append w t ty e i z 1 bytes E.ht hi hz hs hb hzs E.pos A n c xs hA hu u _ s.size _ (by rw [List.length_map, Nat.mul_one]; rfl) (fun v hv => ?_) (.inr hus) (fun _ => rfl)
    (fun w' hw' => ?_) (E.max hbytes) hbytes
  · obtain ⟨b, _, rfl⟩ := List.mem_map.1 hv
    rfl
  · simp only [Builtin.firstCells, ByteArray.extract_zero_size]
    show Result.ok _ w' = _
    congr 1
    apply Array.ext'
    simp
section
variable {ops : Array Oper} {rest : List Oper} {o : Oper} {a : Act} {Q : Exit → Act → World → Prop} {w : World}
theorem wpList_append (E : Elem P t e size bytes) (hgd : o.guard = none) {s x : Operand} (ho : o.op = .call { callee := .builtin .append, args := #[s, x], argTypes := #[t, t] })
    {A : Option Addr} {n c : Nat} {xs : List Value} (hs : a.eval s = .slice A n c) (hA : App M w e size A n c xs) (hu : Up M w)
    {B : Option Addr} {m d : Nat} {news : List Value} (hx : a.eval x = .slice B m d) (hB : Rd w B news) (hl : news.length = m * size) (h1 : ∀ u ∈ news, u.oneCell' = true) (hbytes : (n + m) * bytes ≤ 140737488355328)
    (h : ∀ A' c' w', App M w' e size A' (n + m) c' (xs ++ news) → Frm M w w' → ((blk A' = blk A ∧ c' = c) ∨ (blk A' = some w.heap.size ∧ 0 < m)) → Frm (Wr A n c w) w w' → wpList P ops Q rest (a.put o.dst (.slice A' (n + m) c')) w') :
    wpList P ops Q (o :: rest) a w := by
  refine wpList_plain hgd fun _ hK => ?_
  obtain ⟨A', c', w', hr, h2, h3, h4, h5⟩ := run_append_slice E w o.type hA hu hB hl h1 hbytes (d := d)
  unfold Oper.wp execOp
  simp only [ho, resolve, invoke, builtin, Sem.run_bind, Sem.run_pure, Result.andThen_ok, List.map_toArray, List.map_cons, List.map_nil, hs, hx, hr]
  exact hK _ _ (h _ _ _ h2 h3 h4 h5)
theorem wpList_append_string (E : Elem P t e 1 bytes) (hgd : o.guard = none) {u : TypeId} (hus : P.underlying u = some .string) {s x : Operand} (ho : o.op = .call { callee := .builtin .append, args := #[s, x], argTypes := #[t, u] })
    {A : Option Addr} {n c : Nat} {xs : List Value} (hs : a.eval s = .slice A n c) (hA : App M w e 1 A n c xs) (hu : Up M w)
    {y : ByteArray} (hx : a.eval x = .string y) (hbytes : (n + y.size) * bytes ≤ 140737488355328)
    (h : ∀ A' c' w', App M w' e 1 A' (n + y.size) c' (xs ++ y.data.toList.map (fun b => Value.int .u8 (b.toNat : Int))) → Frm M w w' → ((blk A' = blk A ∧ c' = c) ∨ (blk A' = some w.heap.size ∧ 0 < y.size)) → Frm (Wr A n c w) w w' →
      wpList P ops Q rest (a.put o.dst (.slice A' (n + y.size) c')) w') :
    wpList P ops Q (o :: rest) a w := by
  refine wpList_plain hgd fun _ hK => ?_
  obtain ⟨A', c', w', hr, h2, h3, h4, h5⟩ := run_append_string E w o.type u hus hA hu y hbytes
  unfold Oper.wp execOp
  simp only [ho, resolve, invoke, builtin, Sem.run_bind, Sem.run_pure, Result.andThen_ok, List.map_toArray, List.map_cons, List.map_nil, hs, hx, hr]
  exact hK _ _ (h _ _ _ h2 h3 h4 h5)
theorem wpList_append_lit (E : Elem P t e size bytes) (hgd : o.guard = none) {s x : Operand} (ho : o.op = .call { callee := .builtin .append, args := #[s, x], argTypes := #[t, t] })
    {A : Option Addr} {n c : Nat} {xs : List Value} (hs : a.eval s = .slice A n c) (hA : App M w e size A n c xs) (hu : Up M w)
    {cs : Array Value} {e' : TypeId} {m d : Nat} (hx : a.eval x = .slice (some ⟨w.heap.size, 0, none⟩) m d) (hl : cs.size = m * size) (h1 : ∀ u ∈ cs.toList, u.oneCell' = true) (hbytes : (n + m) * bytes ≤ 140737488355328)
    (h : ∀ A' c' w', App M w' e size A' (n + m) c' (xs ++ cs.toList) → Frm M w w' → ((blk A' = blk A ∧ c' = c) ∨ (blk A' = some (w.heap.size + 1) ∧ 0 < m)) → Frm (Wr A n c w) w w' → wpList P ops Q rest (a.put o.dst (.slice A' (n + m) c')) w') :
    wpList P ops Q (o :: rest) a (w.alloc (.cells cs e')) := by
  refine wpList_append E hgd ho hs (hA.alloc _) (hu.of (by simp)) hx (Rd.new w cs e') (by simpa using hl) h1 hbytes fun A' c' w' h2 h3 h4 h5 => h A' c' w' h2 (((Frm.refl M w).alloc hu _).trans h3) (by simpa using h4)
    (((Frm.refl _ w).alloc (fun k hk => .inl hk) _).trans (h5.mono (fun k hk => by rcases hk with hk | hk; exact .inl (by simp at hk; omega); exact .inr hk)))
end
end
end Go.Proofs.Ytdgggjeiflllhaa.M
namespace Go.Proofs.Ytdgggjeiflllhaa.M
open Go.ChangeShapes Go.WideShapes Go.ChangeAt Go.RowKit
def bv (b : UInt8) : Value := .int .u8 (b.toNat : Int)
def bvs (l : List UInt8) : List Value := l.map bv
@[simp] theorem bvs_length (l : List UInt8) : (bvs l).length = l.length := by simp [bvs]
@[simp] theorem bvs_nil : bvs [] = [] := rfl
theorem bvs_append (l k : List UInt8) : bvs (l ++ k) = bvs l ++ bvs k := by simp [bvs]
theorem bvs_one (l : List UInt8) : ∀ u ∈ bvs l, u.oneCell' = true := fun u hu => by
  obtain ⟨b, _, rfl⟩ := List.mem_map.1 hu
  rfl
theorem bv_of (n : Int) (h0 : 0 ≤ n) (h1 : n ≤ 255) : Value.int .u8 n = bv (UInt8.ofNat n.toNat) := by
  obtain ⟨m, rfl⟩ := Int.eq_ofNat_of_zero_le h0
  simp only [bv, Int.toNat_natCast, UInt8.toNat_ofNat']
  rw [Nat.mod_eq_of_lt (by omega)]
theorem u8s : Elem Try.prog 23 5 1 1 :=
  ⟨by kernel_rfl, by
    have h : (Try.prog.info? 5).map (fun i => (i.zero, i.size, i.bytes)) = some (some (.int .u8 0), 1, 1) := by kernel_rfl
    obtain ⟨i, hi, hz, hs, hb⟩ := info_parts h
    exact ⟨i, _, hi, hz, hs, hb, rfl⟩, by omega, by omega⟩
def more : Nat → Nat → List UInt8
  | 0, v => [UInt8.ofNat v]
  | f + 1, v => if v < 128 then [UInt8.ofNat v] else UInt8.ofNat (v % 128 + 128) :: more f (v / 128)
def pfx (f k v : Nat) : List UInt8 :=
  if v < 2 ^ k - 1 then [UInt8.ofNat (f / 2 ^ k * 2 ^ k + v)] else UInt8.ofNat (f / 2 ^ k * 2 ^ k + (2 ^ k - 1)) :: more 10 (v - (2 ^ k - 1))
def RetB (w : World) (l : List UInt8) (e : Ending) (w' : World) : Prop :=
  ∃ A c, e = .returned (.slice A l.length c) ∧ App (New w) w' 5 1 A l.length c (bvs l) ∧ Frm (New w) w w'
theorem more_length (f : Nat) : ∀ v, (more f v).length ≤ f + 1 := by
  induction f with
  | zero => intro v; simp [more]
  | succ f ih => intro v; unfold more; split <;> simp; exact ih _
theorem pfx_length (f k v : Nat) : (pfx f k v).length ≤ 12 := by
  unfold pfx; split
  · simp
  · have := more_length 10 (v - (2 ^ k - 1)); simp; omega
theorem and_not (x p : Nat) (j : Nat) (hp : p = 2 ^ j) (hx : x < 256) (hj : j ≤ 8) : bits .andNot .u8 (x : Int) ((p - 1 : Nat) : Int) = ((x / p * p : Nat) : Int) := by
  subst hp
  have key : ∀ j : Fin 9, ∀ x : Fin 256, bits .andNot .u8 (x.val : Int) ((2 ^ j.val - 1 : Nat) : Int) = ((x.val / 2 ^ j.val * 2 ^ j.val : Nat) : Int) := by decide +kernel
  exact key ⟨j, by omega⟩ ⟨x, hx⟩
theorem or_low (x y j : Nat) (hx : x < 256) (hy : y < 2 ^ j) (hj : j ≤ 8) : bits .or .u8 ((x / 2 ^ j * 2 ^ j : Nat) : Int) (y : Int) = ((x / 2 ^ j * 2 ^ j + y : Nat) : Int) := by
  have hp : 2 ^ j ≤ 2 ^ 8 := Nat.pow_le_pow_right (by decide) hj
  have h1 : x / 2 ^ j * 2 ^ j ≤ x := Nat.div_mul_le_self _ _
  have := bits_join .u8 8 (by decide) wraps_u8 j ((x / 2 ^ j * 2 ^ j : Nat) : Int) (y : Int) (by omega) (by
    rw [show ((2 : Int) ^ j) = ((2 ^ j : Nat) : Int) from by simp]
    exact_mod_cast Nat.mul_mod_left _ _) (by omega) (by omega) (by
    rw [show ((2 : Int) ^ j) = ((2 ^ j : Nat) : Int) from by simp]
    exact_mod_cast hy) (by omega)
  rw [this]; simp
theorem or_128 (x : Nat) : bits .or .u8 ((x : Int) % 256) 128 = ((x % 128 + 128 : Nat) : Int) := by
  have key : ∀ x : Fin 256, bits .or .u8 (x.val : Int) 128 = ((x.val % 128 + 128 : Nat) : Int) := by decide +kernel
  have := key ⟨x % 256, by omega⟩
  simp only at this
  rw [show ((x : Int) % 256) = ((x % 256 : Nat) : Int) from by omega, this]
  congr 2
  omega
theorem bitsOf_any (b : Int) (w : World) (h0 : 1 ≤ b) (h1 : b ≤ 8) :
    Calls Try.prog 71 #[.int .i64 b] w fun e w' => e = .returned (.int .u64 b) ∧ w = w' := by
  go_enter Try.func71, Try.ntmps71
  go_wp2
  all_goals go_ret
  all_goals exact ⟨rfl, rfl⟩
theorem pow_bd (k : Nat) (k0 : 1 ≤ k) (k1 : k ≤ 8) : 2 ≤ 2 ^ k ∧ 2 ^ k ≤ 256 := by
  have h1 : 2 ^ 1 ≤ 2 ^ k := Nat.pow_le_pow_right (by decide) k0
  have h2 : 2 ^ k ≤ 2 ^ 8 := Nat.pow_le_pow_right (by decide) k1
  omega
theorem head_le (f k v : Nat) (hf : f ≤ 255) (k1 : k ≤ 8) (hv : v < 2 ^ k) : f / 2 ^ k * 2 ^ k + v ≤ 255 := by
  have h1 : 2 ^ k * (f / 2 ^ k) ≤ f := Nat.mul_div_le _ _
  have h2 : f / 2 ^ k < 2 ^ (8 - k) := Nat.div_lt_of_lt_mul (by rw [← Nat.pow_add, show k + (8 - k) = 8 from by omega]; omega)
  have h3 : (f / 2 ^ k + 1) * 2 ^ k ≤ 2 ^ (8 - k) * 2 ^ k := Nat.mul_le_mul_right _ h2
  rw [← Nat.pow_add, show 8 - k + k = 8 from by omega, Nat.add_mul] at h3
  omega
theorem one_cell (x : Value) (h : x.oneCell' = true) : ∀ u ∈ (#[x] : Array Value).toList, u.oneCell' = true := fun u hu => by
  simp at hu; subst hu; exact h
set_option maxHeartbeats 1000000 in
theorem prefix_small (l : List UInt8) (A : Option Addr) (c : Nat) (f k v : Nat) (w : World) (hR : Rd w A (bvs l)) (hl : l.length ≤ 70368744177664)
    (f1 : f ≤ 255) (k0 : 1 ≤ k) (k1 : k ≤ 8) (hv : v < 2 ^ k - 1) :
    Calls Try.prog 43 #[.slice A l.length c, .int .u8 f, .int .i64 k, .int .u64 v] w fun e w' => ∃ A' c', e = .returned (.slice A' (l.length + 1) c') ∧
      App (New w) w' 5 1 A' (l.length + 1) c' (bvs l ++ [.int .u8 ((f / 2 ^ k * 2 ^ k : Nat) + v : Int)]) ∧ Frm (New w) w w' := by
  obtain ⟨p2, p256⟩ := pow_bd k k0 k1
  have hAN := and_not f (2 ^ k) k rfl (by omega) k1
  have hO1 := or_low f v k (by omega) (by omega) k1
  have hh := head_le f k v f1 k1 (by omega)
  have hpw : (2 : Int) ^ k = ((2 ^ k : Nat) : Int) := by simp
  generalize 2 ^ k = p at *
  generalize f / p * p = h0 at *
  have hAN' : bits .andNot .u8 (f : Int) ((p : Int) - 1) = (h0 : Int) := by rw [← hAN]; congr 1; omega
  clear hAN
  have hkb : (1 : Int) ≤ k := by omega
  have hkb2 : (k : Int) ≤ 8 := by omega
  have hAp : App (New w) w 5 1 none 0 0 [] := App.none_
  go_enter Try.func43, Try.ntmps43
  go_wp2_with (first
    | (go_at_call 71; refine (bitsOf_any _ _ hkb hkb2).mono ?_; rintro e w' ⟨rfl, rfl⟩)
    | (at_builtin; refine wpList_append u8s rfl rfl rfl hAp Up.new rfl hR (by simp) (bvs_one _) (by omega) ?_; intro A1 c1 w1 hA1 hF1 _ _; clear hAp; simp only [Nat.zero_add, List.nil_append] at hA1)
    | (at_builtin; refine wpList_append_lit u8s rfl rfl rfl hA1 (Up.new.of hF1.size) rfl rfl (one_cell _ rfl) (by omega) ?_; intro A2 c2 w2 hA2 hF2 _ _; clear hA1))
  go_ret
  exact ⟨A2, c2, rfl, hA2, hF1.trans hF2⟩
def PreLoop (w0 : World) (l : List UInt8) (hd : Value) (x0 : Nat) (v o : Value) (w : World) : Prop :=
  ∃ (x : Nat) (A : Option Addr) (c : Nat) (done : List UInt8) (fu : Nat), v = .int .u64 x ∧ o = .slice A (l.length + 1 + done.length) c ∧ x < 18446744073709551616 ∧ x < 128 ^ (fu + 1) ∧
    App (New w0) w 5 1 A (l.length + 1 + done.length) c (bvs l ++ [hd] ++ bvs done) ∧ Frm (New w0) w0 w ∧ more 10 x0 = done ++ more fu x
set_option maxRecDepth 100000 in
set_option maxHeartbeats 1000000 in
theorem prefix_great (l : List UInt8) (A : Option Addr) (c : Nat) (f k v : Nat) (w : World) (hR : Rd w A (bvs l)) (hl : l.length ≤ 70368744177664)
    (f1 : f ≤ 255) (k0 : 1 ≤ k) (k1 : k ≤ 8) (hv : 2 ^ k - 1 ≤ v) (v1 : v < 18446744073709551616) :
    Calls Try.prog 43 #[.slice A l.length c, .int .u8 f, .int .i64 k, .int .u64 v] w fun e w' => ∃ A' c', e = .returned (.slice A' (l.length + 1 + (more 10 (v - (2 ^ k - 1))).length) c') ∧
      App (New w) w' 5 1 A' (l.length + 1 + (more 10 (v - (2 ^ k - 1))).length) c' (bvs l ++ [.int .u8 ((f / 2 ^ k * 2 ^ k : Nat) + ((2 ^ k : Nat) - 1) : Int)] ++ bvs (more 10 (v - (2 ^ k - 1)))) ∧ Frm (New w) w w' := by
  obtain ⟨p2, p256⟩ := pow_bd k k0 k1
  have hAN := and_not f (2 ^ k) k rfl (by omega) k1
  have hO1 := or_low f (2 ^ k - 1) k (by omega) (by omega) k1
  have hh := head_le f k (2 ^ k - 1) f1 k1 (by omega)
  have hpw : (2 : Int) ^ k = ((2 ^ k : Nat) : Int) := by simp
  generalize 2 ^ k = p at *
  generalize f / p * p = h0 at *
  have hAN' : bits .andNot .u8 (f : Int) ((p : Int) - 1) = (h0 : Int) := by rw [← hAN]; congr 1; omega
  have hO2 : bits .or .u8 (h0 : Int) ((p : Int) - 1) = (h0 : Int) + ((p : Int) - 1) := by
    rw [show ((p : Int) - 1) = ((p - 1 : Nat) : Int) from by omega, hO1]; omega
  clear hAN hO1
  have hkb : (1 : Int) ≤ k := by omega
  have hkb2 : (k : Int) ≤ 8 := by omega
  have hAp : App (New w) w 5 1 none 0 0 [] := App.none_
  have hnv : ¬ ((v : Int) < (p : Int) - 1) := by omega
  go_enter Try.func43, Try.ntmps43
  go_wp2_with (first
    | (go_at_call 71; refine (bitsOf_any _ _ hkb hkb2).mono ?_; rintro e w' ⟨rfl, rfl⟩)
    | (at_builtin; refine wpList_append u8s rfl rfl rfl hAp Up.new rfl hR (by simp) (bvs_one _) (by omega) ?_; intro A1 c1 w1 hA1 hF1 _ _; clear hAp; simp only [Nat.zero_add, List.nil_append] at hA1)
    | (at_builtin; refine wpList_append_lit u8s rfl rfl rfl hA1 (Up.new.of hF1.size) rfl rfl (one_cell _ rfl) (by omega) ?_; intro A2 c2 w2 hA2 hF2 _ _; clear hA1))
  have HF : Hid (Frm (New w) w w2) := hF1.trans hF2
  clear hF1 hF2 hAN' hO2 hpw
  generalize hx0 : v - (p - 1) = x0
  have hx0' : ((v : Int) - ((p : Int) - 1)) = (x0 : Int) := by omega
  simp only [hx0']
  have hfu : x0 < 128 ^ 11 := by have : (128 : Nat) ^ 11 = 151115727451828646838272 := by decide
                                 omega
  have hxx : x0 < 18446744073709551616 := by omega
  have HX0 : Hid (v - (p - 1) = x0) := hx0
  clear hx0' hx0 hnv
  clear hR hv hh hkb hkb2 p2 p256 k0 k1 f1
  go_loopw [3, 11] (fun x o wr => PreLoop w l (.int .u8 ((h0 : Int) + ((p : Int) - 1))) x0 x o wr) (fun x _ _ => (intOf x).toNat)
  case atStart => exact ⟨x0, A2, c2, [], 10, rfl, by simp, hxx, by simpa using hfu, by simpa using hA2, HF.out, by simp⟩
  case round =>
    obtain ⟨x, A3, c3, done, fu, rfl, rfl, hx1, hx2, hA3, hF3, hmore⟩ := hrel
    clear hA2 HF
    by_cases hlt : 128 ≤ x
    · obtain ⟨fu, rfl⟩ : ∃ g, fu = g + 1 := by
        cases fu with
        | zero => simp at hx2; omega
        | succ g => exact ⟨g, rfl⟩
      have hm : more (fu + 1) x = UInt8.ofNat (x % 128 + 128) :: more fu (x / 128) := by rw [more, if_neg (by omega)]
      have hdl : done.length ≤ 11 := by
        have h1 := more_length 10 x0
        rw [hmore] at h1; simp at h1; omega
      have hor := or_128 x
      have hbv := bv_of ((x % 128 + 128 : Nat) : Int) (by omega) (by omega)
      have HM : Hid (more 10 x0 = (done ++ [UInt8.ofNat (x % 128 + 128)]) ++ more fu (x / 128)) := by
        show _ = _
        rw [hmore, hm]; simp
      have HB : Hid (Value.int .u8 ((x % 128 + 128 : Nat) : Int) = bv (UInt8.ofNat (x % 128 + 128))) := by
        show _ = _
        rw [hbv, Int.toNat_natCast]
      have HX : Hid (x < 128 ^ (fu + 1 + 1)) := hx2
      clear hm hmore hbv hx2
      go_wp2_with (at_builtin; refine wpList_append_lit u8s rfl rfl rfl hA3 (Up.new.of hF3.size) rfl rfl (one_cell _ rfl) (by omega) ?_; intro A4 c4 w4 hA4 hF4 _ _; clear hA3)
      go_roundw
      case rel =>
        refine ⟨x / 128, A4, c4, done ++ [UInt8.ofNat (x % 128 + 128)], fu, by go_num, by simp [Nat.add_assoc], by omega, ?_, ?_, hF3.trans hF4, HM.out⟩
        · have hx2 := HX.out
          exact Nat.div_lt_of_lt_mul (by rw [Nat.pow_succ, Nat.mul_comm] at hx2; exact hx2)
        · rw [bvs_append, ← List.append_assoc, List.length_append, ← Nat.add_assoc]
          have : bvs [UInt8.ofNat (x % 128 + 128)] = [Value.int .u8 ((x % 128 + 128 : Nat) : Int)] := by rw [HB.out]; rfl
          rw [this]
          simpa using hA4
      case measure => simp [intOf]; omega
    · have hm : more fu x = [UInt8.ofNat x] := by
        cases fu with
        | zero => rfl
        | succ g => rw [more, if_pos (by omega)]
      have hdl : done.length ≤ 11 := by
        have h1 := more_length 10 x0
        rw [hmore] at h1; simp at h1; omega
      have HM : Hid (more 10 x0 = (done ++ [UInt8.ofNat x])) := by
        show _ = _
        rw [hmore, hm]
      have HB : Hid (Value.int .u8 (x : Int) = bv (UInt8.ofNat x)) := by
        show _ = _
        rw [bv_of (x : Int) (by omega) (by omega), Int.toNat_natCast]
      clear hm hmore hx2
      go_wp2_with (at_builtin; refine wpList_append_lit u8s rfl rfl rfl hA3 (Up.new.of hF3.size) rfl rfl (one_cell _ rfl) (by omega) ?_; intro A4 c4 w4 hA4 hF4 _ _; clear hA3)
      go_ret
      rw [HX0.out, HM.out]
      refine ⟨A4, c4, ?_, ?_, hF3.trans hF4⟩
      · show Ending.returned (.slice A4 (l.length + 1 + done.length + 1) c4) = _
        simp [Nat.add_assoc]
      · rw [bvs_append, List.length_append, ← Nat.add_assoc]
        have : bvs [UInt8.ofNat x] = [Value.int .u8 (x : Int)] := by rw [HB.out]; rfl
        rw [this]
        simpa using hA4
theorem prefix_any (l : List UInt8) (A : Option Addr) (c : Nat) (f k v : Int) (w : World) (hR : Rd w A (bvs l)) (hl : l.length ≤ 70368744177664)
    (f0 : 0 ≤ f) (f1 : f ≤ 255) (k0 : 1 ≤ k) (k1 : k ≤ 8) (v0 : 0 ≤ v) (v1 : v ≤ 18446744073709551615) :
    Calls Try.prog 43 #[.slice A l.length c, .int .u8 f, .int .i64 k, .int .u64 v] w (RetB w (l ++ pfx f.toNat k.toNat v.toNat)) := by
  obtain ⟨f, rfl⟩ := Int.eq_ofNat_of_zero_le f0
  obtain ⟨k, rfl⟩ := Int.eq_ofNat_of_zero_le (a := k) (by omega)
  obtain ⟨v, rfl⟩ := Int.eq_ofNat_of_zero_le v0
  simp only [Int.toNat_natCast]
  have hp := pow_bd k (by omega) (by omega)
  by_cases hv : v < 2 ^ k - 1
  · have hh := head_le f k v (by omega) (by omega) (by omega)
    refine (prefix_small l A c f k v w hR hl (by omega) (by omega) (by omega) hv).mono ?_
    rintro e w' ⟨A', c', rfl, hA, hF⟩
    have e1 : pfx f k v = [UInt8.ofNat (f / 2 ^ k * 2 ^ k + v)] := by rw [pfx, if_pos hv]
    have e2 := bv_of ((f / 2 ^ k * 2 ^ k : Nat) + v : Int) (by omega) (by omega)
    rw [show ((f / 2 ^ k * 2 ^ k : Nat) + v : Int) = ((f / 2 ^ k * 2 ^ k + v : Nat) : Int) from by omega, Int.toNat_natCast] at e2
    refine ⟨A', c', by rw [e1]; simp, ?_, hF⟩
    rw [e1, bvs_append, List.length_append]
    have : bvs [UInt8.ofNat (f / 2 ^ k * 2 ^ k + v)] = [Value.int .u8 ((f / 2 ^ k * 2 ^ k : Nat) + v : Int)] := by
      rw [show ((f / 2 ^ k * 2 ^ k : Nat) + v : Int) = ((f / 2 ^ k * 2 ^ k + v : Nat) : Int) from by omega, e2]; rfl
    rw [this]
    exact hA
  · have hh := head_le f k (2 ^ k - 1) (by omega) (by omega) (by omega)
    refine (prefix_great l A c f k v w hR hl (by omega) (by omega) (by omega) (by omega) (by omega)).mono ?_
    rintro e w' ⟨A', c', rfl, hA, hF⟩
    have e1 : pfx f k v = [UInt8.ofNat (f / 2 ^ k * 2 ^ k + (2 ^ k - 1))] ++ more 10 (v - (2 ^ k - 1)) := by rw [pfx, if_neg hv]; rfl
    have e2 := bv_of ((f / 2 ^ k * 2 ^ k + (2 ^ k - 1) : Nat) : Int) (by omega) (by omega)
    rw [Int.toNat_natCast] at e2
    have e3 : bvs [UInt8.ofNat (f / 2 ^ k * 2 ^ k + (2 ^ k - 1))] = [Value.int .u8 ((f / 2 ^ k * 2 ^ k : Nat) + ((2 ^ k : Nat) - 1) : Int)] := by
      rw [show ((f / 2 ^ k * 2 ^ k : Nat) + ((2 ^ k : Nat) - 1) : Int) = ((f / 2 ^ k * 2 ^ k + (2 ^ k - 1) : Nat) : Int) from by omega, e2]; rfl
    have e4 : (l ++ pfx f k v).length = l.length + 1 + (more 10 (v - (2 ^ k - 1))).length := by rw [e1]; simp; omega
    refine ⟨A', c', by rw [e4], ?_, hF⟩
    rw [e4, e1, bvs_append, bvs_append, e3, ← List.append_assoc]
    exact hA
end Go.Proofs.Ytdgggjeiflllhaa.M
namespace Go.Proofs.Ytdgggjeiflllhaa.M
open Go.ChangeShapes Go.WideShapes Go.ChangeAt Go.RowKit
def rdMore : Nat → Nat → Nat → List UInt8 → Nat × Nat × Nat
  | 0, _, _, _ => (0, 0, 21)
  | _ + 1, _, _, [] => (0, 0, 20)
  | f + 1, i, v, b :: r =>
    if (4611686018427387903 - v) / 2 ^ (7 * (i - 1)) < b.toNat % 128 then (0, 0, 21) else
    if b.toNat < 128 then (v + b.toNat % 128 * 2 ^ (7 * (i - 1)), i + 1, 0) else rdMore f (i + 1) (v + b.toNat % 128 * 2 ^ (7 * (i - 1))) r
def rdp (l : List UInt8) (k : Nat) : Nat × Nat × Nat :=
  match l with
  | [] => (0, 0, 20)
  | b :: r => if b.toNat % 2 ^ k < 2 ^ k - 1 then (b.toNat % 2 ^ k, 1, 0) else rdMore 10 1 (2 ^ k - 1) r
def Ret3 (w : World) (x : Nat × Nat × Nat) (e : Ending) (w' : World) : Prop :=
  e = .returned (.tuple #[.int .u64 (x.1 : Int), .int .i64 (x.2.1 : Int), .int .i64 (x.2.2 : Int)]) ∧ ∃ n, w' = w.drewN n
theorem and_low (x k : Nat) (hx : x < 256) (hk : k ≤ 8) : bits .and .u64 (x : Int) ((2 ^ k - 1 : Nat) : Int) = ((x % 2 ^ k : Nat) : Int) := by
  have key : ∀ j : Fin 9, ∀ x : Fin 256, bits .and .u64 (x.val : Int) ((2 ^ j.val - 1 : Nat) : Int) = ((x.val % 2 ^ j.val : Nat) : Int) := by decide +kernel
  exact key ⟨k, by omega⟩ ⟨x, hx⟩
theorem and_127 (x : Nat) (hx : x < 256) : bits .and .u8 (x : Int) 127 = ((x % 128 : Nat) : Int) := by
  have key : ∀ x : Fin 256, bits .and .u8 (x.val : Int) 127 = ((x.val % 128 : Nat) : Int) := by decide +kernel
  exact key ⟨x, hx⟩
theorem rdp_nil (A : Option Addr) (c : Nat) (k : Nat) (w : World) : Calls Try.prog 91 #[.slice A 0 c, .int .i64 k] w (Ret3 w (0, 0, 20)) := by
  go_enter Try.func91, Try.ntmps91
  go_wp2
  go_ret3
  exact ⟨rfl, 0, rfl⟩
set_option maxRecDepth 100000 in
set_option maxHeartbeats 1000000 in
theorem rdp_cons (b : UInt8) (r : List UInt8) (g off c : Nat) (k : Nat) (w : World) (hR : Rd w (some ⟨g, off, none⟩) (bvs (b :: r))) (hl : (b :: r).length ≤ 140737488355328) (k0 : 1 ≤ k) (k1 : k ≤ 8) :
    Calls Try.prog 91 #[.slice (some ⟨g, off, none⟩) (b :: r).length c, .int .i64 k] w (Ret3 w (rdp (b :: r) k)) := by
  obtain ⟨p2, p256⟩ := pow_bd k k0 k1
  have hb : b.toNat < 256 := b.toNat_lt
  have hAN := and_low b.toNat k hb k1
  obtain ⟨_, _, e, hc0⟩ := hR.at_ (k := 0) (by simp)
  simp only [Option.some.injEq, Addr.mk.injEq] at e
  obtain ⟨rfl, rfl, _⟩ := e
  simp only [Nat.add_zero, bvs, List.map_cons, List.getElem_cons_zero, bv] at hc0
  have hpw : (2 : Int) ^ k = ((2 ^ k : Nat) : Int) := by simp
  have hbl : b.toNat % 2 ^ k < 2 ^ k := Nat.mod_lt _ (by omega)
  have hrd : rdp (b :: r) k = if b.toNat % 2 ^ k < 2 ^ k - 1 then (b.toNat % 2 ^ k, 1, 0) else rdMore 10 1 (2 ^ k - 1) r := rfl
  have HB : Hid (Rd w (some ⟨g, off, none⟩) (bvs (b :: r))) := hR
  rw [hrd]; clear hrd hR
  generalize 2 ^ k = p at *
  have hAN' : bits .and .u64 (b.toNat : Int) ((p : Int) - 1) = ((b.toNat % p : Nat) : Int) := by rw [← hAN]; congr 1; omega
  clear hAN
  generalize b.toNat % p = v at *
  have hkb : (1 : Int) ≤ k := by omega
  have hkb2 : (k : Int) ≤ 8 := by omega
  generalize hn : (b :: r).length = n at *
  have HN : Hid ((b :: r).length = n) := hn
  have hn1 : 1 ≤ n := by rw [← hn]; simp
  clear hn
  by_cases hv : v < p - 1
  · rw [if_pos hv]
    have hv' : (v : Int) < (p : Int) - 1 := by omega
    go_enter Try.func91, Try.ntmps91
    go_wp2_with (go_at_call 71; refine (bitsOf_any _ _ hkb hkb2).mono ?_; rintro e w' ⟨rfl, rfl⟩)
    go_ret3
    exact ⟨rfl, 0, rfl⟩
  · rw [if_neg hv]
    have hv' : ¬ ((v : Int) < (p : Int) - 1) := by omega
    go_enter Try.func91, Try.ntmps91
    go_wp2_with (go_at_call 71; refine (bitsOf_any _ _ hkb hkb2).mono ?_; rintro e w' ⟨rfl, rfl⟩)
    have hv0 : (v : Int) = ((p - 1 : Nat) : Int) := by omega
    clear hAN' hpw hc0 hbl
    go_loop [8, 9] (fun v i => ∃ (x j f : Nat), v = .int .u64 x ∧ i = .int .i64 j ∧ j + f = 11 ∧ 1 ≤ j ∧ x ≤ 4611686018427387903 ∧ rdMore 10 1 (p - 1) r = rdMore f j x (r.drop (j - 1))) (fun _ i => (11 - intOf i).toNat)
    case atStart => exact ⟨p - 1, 1, 10, by rw [hv0], rfl, rfl, by omega, by omega, by simp⟩
    case round =>
      obtain ⟨x, j, f, rfl, rfl, hjf, hj1, hx, hm⟩ := hrel
      have HM : Hid _ := hm
      clear hm
      cases f with
      | zero =>
        go_wp2
        go_ret3
        rw [HM.out]
        exact ⟨rfl, 0, rfl⟩
      | succ f =>
        by_cases hjn : n ≤ j
        · go_wp2
          go_ret3
          rw [HM.out, show r.drop (j - 1) = [] from List.drop_eq_nil_of_le (by have := HN.out; simp at this; omega)]
          exact ⟨rfl, 0, rfl⟩
        · obtain ⟨_, _, e, hcj⟩ := HB.out.at_ (k := j) (by rw [bvs_length, HN.out]; omega)
          simp only [Option.some.injEq, Addr.mk.injEq] at e
          obtain ⟨rfl, rfl, _⟩ := e
          obtain ⟨j, rfl⟩ : ∃ i, j = i + 1 := ⟨j - 1, by omega⟩
          have hjr : j < r.length := by have := HN.out; simp at this; omega
          have e2 : (bvs (b :: r))[j + 1]'(by simpa using hjr) = .int .u8 (r[j].toNat : Int) := by simp [bvs, bv]
          rw [e2] at hcj
          have e3 : r.drop j = r[j] :: r.drop (j + 1) := List.drop_eq_getElem_cons hjr
          have hy : r[j].toNat < 256 := r[j].toNat_lt
          generalize r[j] = y at *
          have h127 := and_127 y.toNat hy
          clear e2
          have E3 : Hid _ := e3
          clear e3
          have hP : (2 : Int) ^ (7 * j) = ((2 ^ (7 * j) : Nat) : Int) := by simp
          have hP1 : 1 ≤ 2 ^ (7 * j) := Nat.one_le_two_pow
          have hstep : rdMore (f + 1) (j + 1) x (r.drop (j + 1 - 1)) = if (4611686018427387903 - x) / 2 ^ (7 * j) < y.toNat % 128 then (0, 0, 21) else
              if y.toNat < 128 then (x + y.toNat % 128 * 2 ^ (7 * j), j + 1 + 1, 0) else rdMore f (j + 1 + 1) (x + y.toNat % 128 * 2 ^ (7 * j)) (r.drop (j + 1)) := by
            rw [Nat.add_sub_cancel, E3.out]; rfl
          have HM2 := Lib.hid (HM.out.trans hstep)
          clear hstep HM
          generalize 2 ^ (7 * j) = P at *
          have hq : (4611686018427387903 - (x : Int)) / (P : Int) = (((4611686018427387903 - x) / P : Nat) : Int) := by
            rw [show (4611686018427387903 - (x : Int)) = ((4611686018427387903 - x : Nat) : Int) from by omega]; exact (Int.natCast_ediv _ _).symm
          by_cases hd : (4611686018427387903 - x) / P < y.toNat % 128
          · have hM := HM2.out
            rw [if_pos hd] at hM
            have HM3 := Lib.hid hM
            clear hM HM2
            generalize (4611686018427387903 - x) / P = q at *
            have hd' : (q : Int) < (y.toNat : Int) % 128 := by omega
            go_wp2
            go_ret3
            rw [HM3.out]
            exact ⟨rfl, 0, rfl⟩
          · have hM := HM2.out
            rw [if_neg hd] at hM
            have HM3 := Lib.hid hM
            clear hM HM2
            have hs : y.toNat % 128 * P ≤ 4611686018427387903 - x := Nat.le_trans (Nat.mul_le_mul_right _ (Nat.le_of_not_lt hd)) (Nat.div_mul_le_self _ _)
            have hsw : IntKind.u64.wrap ((y.toNat : Int) % 128 * (P : Int)) = ((y.toNat % 128 * P : Nat) : Int) := by
              rw [show ((y.toNat : Int) % 128 * (P : Int)) = ((y.toNat % 128 * P : Nat) : Int) from by push_cast; rfl]
              exact IntWalk.u64_in _ (by omega)
            generalize (4611686018427387903 - x) / P = q at *
            generalize y.toNat % 128 * P = s at *
            have hd' : ¬ (q : Int) < (y.toNat : Int) % 128 := by omega
            by_cases hy2 : y.toNat < 128
            · have hy3 : ((y.toNat : Int) / 128 == 0) = true := by rw [beq_iff_eq]; omega
              have hM := HM3.out
              rw [if_pos hy2] at hM
              have HM4 := Lib.hid hM
              clear hM HM3
              go_wp2
              go_ret3
              rw [HM4.out]
              exact ⟨rfl, 0, rfl⟩
            · have hy3 : ((y.toNat : Int) / 128 == 0) = false := by rw [beq_eq_false_iff_ne]; omega
              have hM := HM3.out
              rw [if_neg hy2] at hM
              have HM4 := Lib.hid hM
              clear hM HM3
              go_wp2
              go_round
              case rel => exact ⟨x + s, j + 1 + 1, f, by go_num, by go_num, by omega, by omega, by omega, HM4.out⟩
              case measure => simp [intOf]; omega
end Go.Proofs.Ytdgggjeiflllhaa.M
namespace Go.Proofs.Ytdgggjeiflllhaa.M
open Go.ChangeShapes Go.WideShapes Go.ChangeAt Go.RowKit
section
variable {P : Program} {ops : Array Oper} {Q : Exit → Act → World → Prop} {md : Region.Mode} {S0 : World → Prop} {q : Nat}
def Til (S0 : World → Prop) (q : Nat) (listed : Array Bool) (w : World) : Prop := listed.getD q false = true ∨ S0 w
def wpAnyT (P : Program) (md : Region.Mode) (ops : Array Oper) (Q : Exit → Act → World → Prop) (S0 : World → Prop) (q : Nat) : Nat → Array Bool → Act → World → Prop
  | 0, listed, a, w => Region.ready md ops listed = [] ∧ Q .normal a w
  | fuel + 1, listed, a, w =>
    (Region.ready md ops listed = [] → Q .normal a w) ∧
    ∀ i ∈ Region.ready md ops listed, wpOp P ops Q i (fun a' w' => Til S0 q (listed.setIfInBounds i true) w' ∧ wpAnyT P md ops Q S0 q fuel (listed.setIfInBounds i true) a' w') a w
theorem wpAny_of_til : ∀ (fuel : Nat) (listed : Array Bool) (a : Act) (w : World), wpAnyT P md ops Q S0 q fuel listed a w → wpAny P md ops Q fuel listed a w
  | 0, _, _, _, h => h
  | fuel + 1, _, _, _, h => ⟨h.1, fun i hi => wpOp_mono (fun a' w' h' => wpAny_of_til fuel _ a' w' h'.2) (h.2 i hi)⟩
theorem wpAnyT_first {i : Nat} {oi : Oper} {v : Value} (hi : ops[i]? = some oi) (hsel : ∀ (j : Nat) (o : Oper) cs b, ops[j]? = some o → o.op ≠ .select cs b)
    (hQ : ∀ c a w, Q (.panic c) (a.put oi.dst v) w → Q (.panic c) a w) (hiq : i ≠ q) (hw : ∀ listed : Array Bool, listed.getD i true = false → q ∉ Region.ready md ops listed) :
    ∀ (fuel : Nat) (listed : Array Bool) (a : Act) (w : World),
      (∀ j oj, ops[j]? = some oj → j ≠ i → listed.getD j true = false → (∀ e ∈ oj.after, Region.binds md e = true → e.on ≠ i) → oi.apart ops oj = true) →
      i ∈ Region.ready md ops listed → YieldsIf P ops S0 oi v a → listed.getD q false = false → S0 w →
      wpAnyT P md ops Q S0 q fuel (listed.setIfInBounds i true) (a.put oi.dst v) w → wpAnyT P md ops Q S0 q (fuel + 1) listed a w := by
  intro fuel
  induction fuel with
  | zero =>
    intro listed a w _ hr hy hq hS H
    refine ⟨fun h => (by rw [h] at hr; cases hr), fun j hj => ?_⟩
    by_cases hji : j = i
    · subst hji; exact hy.wpOp hi hS ⟨.inr hS, H⟩
    · have := ready_mono hj hji
      rw [H.1] at this
      cases this
  | succ fuel ih =>
    intro listed a w hfree hr hy hq hS H
    refine ⟨fun h => (by rw [h] at hr; cases hr), fun j hj => ?_⟩
    by_cases hji : j = i
    · subst hji; exact hy.wpOp hi hS ⟨.inr hS, H⟩
    · have hjq : j ≠ q := fun e => hw listed (mem_ready.1 hr).1 (e ▸ hj)
      have h1 := H.2 j (ready_mono hj hji)
      obtain ⟨hjun, oj, hoj, hall⟩ := mem_ready.1 hj
      have hnot : ∀ e ∈ oj.after, Region.binds md e = true → e.on ≠ i := fun e he hb heq => by
        have h1 := hall e he hb
        have h0 := (mem_ready.1 hr).1
        rw [heq] at h1
        rcases Nat.lt_or_ge i listed.size with h' | h'
        · simp [h'] at h0 h1; rw [h0] at h1; cases h1
        · simp [Array.getElem?_eq_none h'] at h1
      have h2 := wpOp_putIf hoj (hfree j oj hoj hji hjun hnot) (fun cs b => hsel i oi cs b hi) (fun cs b => hsel j oj cs b hoj) hQ hy h1
      have hfree' : ∀ k ok, ops[k]? = some ok → k ≠ i → (listed.setIfInBounds j true).getD k true = false →
          (∀ e ∈ ok.after, Region.binds md e = true → e.on ≠ i) → oi.apart ops ok = true := fun k ok hk hki hun hno => by
        refine hfree k ok hk hki ?_ hno
        by_cases hjk : j = k
        · subst hjk; exact hjun
        · rw [getD_set_ne true hjk] at hun; exact hun
      have hq' : (listed.setIfInBounds j true).getD q false = false := by rw [getD_set_ne false hjq]; exact hq
      refine wpOp_mono (fun a' w' h3 => ?_) h2
      have hS' : S0 w' := by
        rcases h3.2.1 with h4 | h4
        · rw [getD_set_ne false hjq, getD_set_ne false hiq, hq] at h4; cases h4
        · exact h4
      refine ⟨.inr hS', ih (listed.setIfInBounds j true) a' w' hfree' (ready_mono hr (Ne.symm hji)) h3.1 hq' hS' ?_⟩
      rw [Array.setIfInBounds_comm _ _ hji]
      exact h3.2.2
def waitsB (md : Region.Mode) (ops : Array Oper) (q i : Nat) : Bool := (((ops[q]?).map fun o => o.after.any fun e => Region.binds md e && e.on == i)).getD false
theorem waits_ready {i : Nat} (h : waitsB md ops q i = true) (listed : Array Bool) (hl : listed.getD i true = false) : q ∉ Region.ready md ops listed := fun hr => by
  obtain ⟨_, oq, hoq, hall⟩ := mem_ready.1 hr
  unfold waitsB at h
  rw [hoq] at h
  obtain ⟨e, he, hb⟩ := Array.any_eq_true'.1 (show (oq.after.any fun e => Region.binds md e && e.on == i) = true from h)
  simp only [Bool.and_eq_true, beq_iff_eq] at hb
  have h1 := hall e he hb.1
  rw [hb.2] at h1
  rcases Nat.lt_or_ge i listed.size with h' | h'
  · simp [h'] at hl h1; rw [hl] at h1; cases h1
  · simp [Array.getElem?_eq_none h'] at h1
theorem wpAnyT_take {i : Nat} {oi : Oper} {v : Value} {d : Option Tmp} {fuel : Nat} {listed : Array Bool} {a : Act} {w : World} (hi : ops[i]? = some oi) (hd : oi.dst = d)
    (hc : (Region.noSelect ops && Region.free md ops listed i && (Region.ready md ops listed).contains i && waitsB md ops q i && decide (i ≠ q) && !listed.getD q false) = true)
    (hQ : ∀ c a w, Q (.panic c) (a.put oi.dst v) w → Q (.panic c) a w) (hwt : Region.wanted oi (yielded ops a.tmps) = true) (hS : S0 w) (hy : ∀ w, S0 w → (execOp a.eval oi).run P w = .ok (.value v) w)
    (h : wpAnyT P md ops Q S0 q fuel (listed.setIfInBounds i true) (a.put d v) w) : wpAnyT P md ops Q S0 q (fuel + 1) listed a w := by
  subst hd
  simp only [Bool.and_eq_true, decide_eq_true_eq, Bool.not_eq_true'] at hc
  obtain ⟨⟨⟨⟨⟨hs, hf⟩, hr⟩, hw⟩, hq⟩, hl⟩ := hc
  exact wpAnyT_first hi (Region.noSelect_spec hs) hQ hq (fun l h => waits_ready hw l h) fuel listed a w (Region.free_spec hi hf) (by simpa using hr) (.inl ⟨hwt, hy⟩) hl hS h
theorem wpAnyT_one {i : Nat} {o : Oper} {fuel : Nat} {listed : Array Bool} {a : Act} {w : World} (hi : ops[i]? = some o) (hr : Region.ready md ops listed = [i])
    (h : ∀ K' : Act → World → Prop, Shut (∀ a w, Til S0 q (listed.setIfInBounds i true) w → wpAnyT P md ops Q S0 q fuel (listed.setIfInBounds i true) a w → K' a w) →
      if Region.wanted o (yielded ops a.tmps) = true then Oper.wp P o a w K' Q else K' (a.put o.dst undef) w) : wpAnyT P md ops Q S0 q (fuel + 1) listed a w := by
  refine ⟨fun h0 => by (rw [h0] at hr; cases hr), fun j hj => ?_⟩
  rw [hr] at hj
  obtain rfl : j = i := by simpa using hj
  exact wpOp_step hi (fun K' hK => h K' (fun a w hT hW => hK a w ⟨hT, hW⟩))
theorem wpAnyT_done {listed : Array Bool} {a : Act} {w : World} (hr : Region.ready md ops listed = []) (h : Q .normal a w) : ∀ fuel, wpAnyT P md ops Q S0 q fuel listed a w
  | 0 => ⟨hr, h⟩
  | _ + 1 => ⟨fun _ => h, by rw [hr]; simp⟩
theorem wp_region_til {id : Nat} {a : Act} {w : World} (hm : P.follows .mixedOrders = true) (S0 : World → Prop) (q : Nat)
    (h : wpAnyT P .any ops Q S0 q ops.size (Array.replicate ops.size false) a w.drew) : (Code.region id ops true).wp P Q a w :=
  wp_region_any hm (wpAny_of_til _ _ _ _ h)
end
end Go.Proofs.Ytdgggjeiflllhaa.M
namespace Go.Proofs.Ytdgggjeiflllhaa.M
open Go.ChangeShapes Go.WideShapes Go.ChangeAt Go.RowKit
section
variable {P : Program} {ops : Array Oper} {Q : Exit → Act → World → Prop} {md : Region.Mode} {S S1 : World → Prop}
theorem wpAnyH_takeB {i : Nat} {oi : Oper} {v : Value} {d : Option Tmp} {fuel : Nat} {listed : Array Bool} {a : Act} {w : World} (hi : ops[i]? = some oi) (hd : oi.dst = d)
    (hc : (Region.noSelect ops && Region.free md ops listed i && (Region.ready md ops listed).contains i) = true)
    (hQ : ∀ c a w, Q (.panic c) (a.put oi.dst v) w → Q (.panic c) a w) (hwt : Region.wanted oi (yielded ops a.tmps) = true) (hS : S w) (hy : ∀ w, S w → (execOp a.eval oi).run P w = .ok (.value v) w)
    (h : wpAnyH P md ops Q S fuel (listed.setIfInBounds i true) (a.put d v) w) : wpAnyH P md ops Q S (fuel + 1) listed a w := by
  subst hd
  simp only [Bool.and_eq_true] at hc
  exact wpAnyH_take hi hc.1.1 hc.1.2 hc.2 hQ (.inl ⟨hwt, hy⟩) hS h
theorem wpAnyH_oneB {i : Nat} {o : Oper} {fuel : Nat} {listed : Array Bool} {a : Act} {w : World} (hi : ops[i]? = some o) (hr : Region.ready md ops listed = [i])
    (h : ∀ K' : Act → World → Prop, Shut (∀ a w, S w → wpAnyH P md ops Q S fuel (listed.setIfInBounds i true) a w → K' a w) →
      if Region.wanted o (yielded ops a.tmps) = true then Oper.wp P o a w K' Q else K' (a.put o.dst undef) w) : wpAnyH P md ops Q S (fuel + 1) listed a w := by
  refine ⟨fun h0 => (by rw [h0] at hr; cases hr), fun j hj => ?_⟩
  rw [hr] at hj
  obtain rfl : j = i := by simpa using hj
  exact wpOp_step hi (fun K' hK => h K' (fun a w hT hW => hK a w ⟨hT, hW⟩))
theorem wpAnyH_twoB {i j : Nat} {o o2 : Oper} {fuel : Nat} {listed : Array Bool} {a : Act} {w : World} (hi : ops[i]? = some o) (hj : ops[j]? = some o2) (hr : Region.ready md ops listed = [i, j])
    (h : ∀ K' : Act → World → Prop, Shut (∀ a w, S w → wpAnyH P md ops Q S fuel (listed.setIfInBounds i true) a w → K' a w) →
      if Region.wanted o (yielded ops a.tmps) = true then Oper.wp P o a w K' Q else K' (a.put o.dst undef) w)
    (h2 : ∀ K' : Act → World → Prop, Shut (∀ a w, S w → wpAnyH P md ops Q S fuel (listed.setIfInBounds j true) a w → K' a w) →
      if Region.wanted o2 (yielded ops a.tmps) = true then Oper.wp P o2 a w K' Q else K' (a.put o2.dst undef) w) : wpAnyH P md ops Q S (fuel + 1) listed a w := by
  refine ⟨fun h0 => (by rw [h0] at hr; cases hr), fun k hk => ?_⟩
  rw [hr] at hk
  rcases (by simpa using hk : k = i ∨ k = j) with rfl | rfl
  · exact wpOp_step hi (fun K' hK => h K' (fun a w hT hW => hK a w ⟨hT, hW⟩))
  · exact wpOp_step hj (fun K' hK => h2 K' (fun a w hT hW => hK a w ⟨hT, hW⟩))
end
end Go.Proofs.Ytdgggjeiflllhaa.M

