/- Words for memory, over any program: cells that lie at an address, slices that may be appended to, worlds that differ in few blocks; the laws of append. No condition. -/
import Derived.WalkKit
import Derived.ProofKit
import Derived.OpenShut
import Derived.Laws.Externs
import Derived.Laws.AppendOwn
import Derived.Laws.OwnMore
import Derived.Deep.QuietTactic
import Derived.Deep.AppendLies
import Derived.BigQuiet
import Derived.Lib.Hide
import Derived.Below
namespace Go.Proofs.YtpojejdddgdjdaaGreatDoor.M
open Go.ChangeShapes Go.WideShapes Go.ChangeAt Go.RowKit

theorem ret_int {k : IntKind} {a b : Int} (h : a = b) : Ending.returned (.int k a) = .returned (.int k b) := by rw [h]
theorem ret_bool {a b : Bool} (h : a = b) : Ending.returned (.bool a) = .returned (.bool b) := by rw [h]
theorem ret_ib {k : IntKind} {a b : Int} {c d : Bool} (h : a = b) (h2 : c = d) : Ending.returned (.tuple #[.int k a, .bool c]) = .returned (.tuple #[.int k b, .bool d]) := by rw [h, h2]
theorem ret_ii {k l : IntKind} {a b c d : Int} (h : a = b) (h2 : c = d) : Ending.returned (.tuple #[.int k a, .int l c]) = .returned (.tuple #[.int k b, .int l d]) := by rw [h, h2]

def blk (A : Option Addr) : Option Nat := A.map (·.block)
@[simp] theorem blk_none : blk none = none := rfl
@[simp] theorem blk_some (a : Addr) : blk (some a) = some a.block := rfl

/-- only blocks of M differ, and no block has gone -/
structure Frm (M : Nat → Prop) (w w' : World) : Prop where
  os : w'.os = w.os
  tape : w'.tape = w.tape
  output : w'.output = w.output
  size : w.heap.size ≤ w'.heap.size
  block : ∀ k, ¬ M k → w'.heap[k]? = w.heap[k]?

/-- the blocks that are new to a world -/
def New (w : World) (k : Nat) : Prop := w.heap.size ≤ k
/-- M holds all that is new -/
def Up (M : Nat → Prop) (w : World) : Prop := ∀ k, w.heap.size ≤ k → M k

section
variable {M M' : Nat → Prop} {w w' w'' : World}
theorem Up.new : Up (New w) w := fun _ h => h
theorem Up.of (h : Up M w) (hs : w.heap.size ≤ w'.heap.size) : Up M w' := fun k hk => h k (Nat.le_trans hs hk)
theorem Up.frm (h : Up M w) (f : Frm M' w w') : Up M w' := h.of f.size
theorem Frm.refl (M : Nat → Prop) (w : World) : Frm M w w := ⟨rfl, rfl, rfl, Nat.le_refl _, fun _ _ => rfl⟩
theorem Frm.trans (h : Frm M w w') (k : Frm M w' w'') : Frm M w w'' :=
  ⟨k.os.trans h.os, k.tape.trans h.tape, k.output.trans h.output, Nat.le_trans h.size k.size, fun i hi => (k.block i hi).trans (h.block i hi)⟩
theorem Frm.mono (h : Frm M w w') (hm : ∀ k, M k → M' k) : Frm M' w w' := ⟨h.os, h.tape, h.output, h.size, fun i hi => h.block i (fun c => hi (hm i c))⟩
theorem Frm.up (h : Frm (New w) w w') (hu : Up M w) : Frm M w w' := h.mono hu
/-- one step more, by a callee that writes to what is new alone -/
theorem Frm.then_new (h : Frm M w w') (hu : Up M w) (k : Frm (New w') w' w'') : Frm M w w'' := h.trans (k.mono (hu.of h.size))
theorem Frm.drew (h : Frm M w w') : Frm M w w'.drew := ⟨h.os, h.tape, h.output, h.size, h.block⟩
theorem Frm.drewN (h : Frm M w w') (n : Nat) : Frm M w (w'.drewN n) := ⟨h.os, h.tape, h.output, h.size, h.block⟩
theorem Frm.alloc (h : Frm M w w') (hu : Up M w) (o : Obj) : Frm M w (w'.alloc o) :=
  h.trans ⟨rfl, rfl, rfl, by simp, fun k hk => by
    show (w'.heap.push o)[k]? = _
    rw [Array.getElem?_push, if_neg (fun e => hk (hu k (by rw [e]; exact h.size)))]⟩
theorem Frm.setCell (h : Frm M w w') {p : Addr} (hp : M p.block) (u : Value) : Frm M w (w'.setCell p u) :=
  h.trans ⟨rfl, rfl, rfl, by simp, fun k hk => by
    simp only [World.setCell, Array.getElem?_modify]
    rw [if_neg (fun e => hk (by rw [← e]; exact hp))]⟩
theorem Frm.below (h : Frm (New w) w w') : Below w.heap.size w w' := ⟨h.os, h.tape, h.output, h.size, fun k hk => h.block k (by unfold New; omega)⟩
theorem Frm.of_below {B : Nat} (h : Below B w w') : Frm (B ≤ ·) w w' := ⟨h.os, h.tape, h.output, h.size, fun k hk => h.block k (by omega)⟩
theorem Frm.cell (h : Frm M w w') {p : Addr} (hp : ¬ M p.block) : w'.cell? p = w.cell? p := by simp only [World.cell?, h.block _ hp]
theorem Frm.frozen (h : Frm M w w') {p : Addr} (hp : ¬ M p.block) : w'.frozen? p = w.frozen? p := by simp only [World.frozen?, h.block _ hp]
end

/-- the cells xs lie at A -/
def Rd (w : World) (A : Option Addr) (xs : List Value) : Prop :=
  ∀ j u, xs[j]? = some u → ∃ g off, A = some ⟨g, off, none⟩ ∧ w.cell? ⟨g, off + j, none⟩ = some u

/-- none of A is in M -/
def Far (M : Nat → Prop) (A : Option Addr) : Prop := ∀ k, blk A = some k → ¬ M k

section
variable {M M' : Nat → Prop} {w w' w'' : World} {A : Option Addr} {xs : List Value}
theorem Rd.nil : Rd w A [] := fun j u h => by simp at h
theorem Rd.keep (h : Rd w A xs) (f : Frm M w w') (hf : Far M A) : Rd w' A xs := fun j u hu => by
  obtain ⟨g, off, rfl, hc⟩ := h j u hu
  exact ⟨g, off, rfl, by rw [f.cell (hf g rfl)]; exact hc⟩
theorem Rd.lt (h : Rd w A xs) (hn : xs ≠ []) : ∃ g off, A = some ⟨g, off, none⟩ ∧ g < w.heap.size := by
  cases xs with
  | nil => exact absurd rfl hn
  | cons x r =>
    obtain ⟨g, off, rfl, hc⟩ := h 0 x rfl
    exact ⟨g, off, rfl, World.block_lt_of_cell? _ _ hc⟩
/-- what is written is new alone: all that lay is kept -/
theorem Rd.fresh (h : Rd w A xs) (f : Frm (New w) w w') : Rd w' A xs := fun j u hu => by
  obtain ⟨g, off, rfl, hc⟩ := h j u hu
  have := World.block_lt_of_cell? _ _ hc
  exact ⟨g, off, rfl, by rw [f.cell (by unfold New; simp at this ⊢; omega)]; exact hc⟩
theorem Rd.alloc (h : Rd w A xs) (o : Obj) : Rd (w.alloc o) A xs := h.fresh ((Frm.refl _ _).alloc Up.new o)
theorem Rd.drew (h : Rd w A xs) : Rd w.drew A xs := h
theorem Rd.drewN (h : Rd w A xs) (n : Nat) : Rd (w.drewN n) A xs := h
theorem Rd.new (w : World) (cs : Array Value) (t : TypeId) : Rd (w.alloc (.cells cs t)) (some ⟨w.heap.size, 0, none⟩) cs.toList := fun j u hu =>
  ⟨_, _, rfl, by rw [World.cell?_alloc_at _ _ _ _ rfl]; simpa using hu⟩
theorem Rd.at_ (h : Rd w A xs) {k : Nat} (hk : k < xs.length) : ∃ g off, A = some ⟨g, off, none⟩ ∧ w.cell? ⟨g, off + k, none⟩ = some xs[k] := h k _ (List.getElem?_eq_getElem hk)
/-- a slice that is cut at its beginning: at its whole capacity Go keeps the place -/
theorem Rd.cut (h : Rd w A xs) (k c : Nat) (hk : c = k → xs.length ≤ k) : Rd w (if c = k then A else A.map (·.add k)) (xs.drop k) := fun j u hu => by
  rw [List.getElem?_drop] at hu
  obtain ⟨g, off, rfl, hc⟩ := h _ u hu
  by_cases e : c = k
  · have : k + j < xs.length := (List.getElem?_eq_some_iff.1 hu).1
    have := hk e
    omega
  · rw [if_neg e]
    exact ⟨g, off + k, by simp [Addr.add_lit], by rw [Nat.add_assoc]; exact hc⟩
theorem Rd.take (h : Rd w A xs) (k : Nat) : Rd w A (xs.take k) := fun j u hu => by
  rw [List.getElem?_take] at hu
  split at hu
  · exact h j u hu
  · cases hu
theorem Rd.add (h : Rd w A xs) (k : Nat) : Rd w (A.map (·.add k)) (xs.drop k) := fun j u hu => by
  rw [List.getElem?_drop] at hu
  obtain ⟨g, off, rfl, hc⟩ := h _ u hu
  exact ⟨g, off + k, by simp [Addr.add_lit], by rw [Nat.add_assoc]; exact hc⟩
end

/-- A slice value (A, n, c) that may be read as xs and appended to, where only blocks of M are written. -/
structure App (M : Nat → Prop) (w : World) (e size : Nat) (A : Option Addr) (n c : Nat) (xs : List Value) : Prop where
  len : xs.length = n * size
  cap : n ≤ c
  max : c ≤ maxLen
  nil_ : A = none → c = 0
  rd : Rd w A xs
  inM : ∀ k, blk A = some k → M k
  own : 0 < c → ∃ g off cur, A = some ⟨g, off, none⟩ ∧ w.heap[g]? = some (.cells cur e (0, 0)) ∧ off + c * size ≤ cur.size ∧ M g

section
variable {M M' : Nat → Prop} {w w' w'' : World} {A : Option Addr} {xs : List Value} {e size n c : Nat}
theorem App.none_ : App M w e size none 0 0 [] := ⟨by simp, Nat.le_refl _, Nat.zero_le _, fun _ => rfl, Rd.nil, fun k h => by (cases h), fun h => absurd h (by omega)⟩
theorem App.mono (h : App M w e size A n c xs) (hm : ∀ k, M k → M' k) : App M' w e size A n c xs :=
  { h with
    inM := fun k hk => hm k (h.inM k hk)
    own := fun hn => by obtain ⟨g, off, cur, a, b, d, f⟩ := h.own hn; exact ⟨g, off, cur, a, b, d, hm _ f⟩ }
theorem App.fresh (h : App M w e size A n c xs) (f : Frm (New w) w w') : App M w' e size A n c xs :=
  { h with
    rd := h.rd.fresh f
    own := fun hn => by
      obtain ⟨g, off, cur, a, b, d, m⟩ := h.own hn
      have hg : g < w.heap.size := (Array.getElem?_eq_some_iff.1 b).1
      exact ⟨g, off, cur, a, by rw [f.block g (by unfold New; omega)]; exact b, d, m⟩ }
theorem App.keep (h : App M w e size A n c xs) (f : Frm M' w w') (hf : Far M' A) : App M w' e size A n c xs :=
  { h with
    rd := h.rd.keep f hf
    own := fun hn => by
      obtain ⟨g, off, cur, a, b, d, m⟩ := h.own hn
      exact ⟨g, off, cur, a, by rw [f.block g (hf g (by rw [a]; rfl))]; exact b, d, m⟩ }
theorem App.alloc (h : App M w e size A n c xs) (o : Obj) : App M (w.alloc o) e size A n c xs := h.fresh ((Frm.refl _ _).alloc Up.new o)
theorem App.drew (h : App M w e size A n c xs) : App M w.drew e size A n c xs := ⟨h.len, h.cap, h.max, h.nil_, h.rd, h.inM, h.own⟩
theorem App.drewN (h : App M w e size A n c xs) (k : Nat) : App M (w.drewN k) e size A n c xs := ⟨h.len, h.cap, h.max, h.nil_, h.rd, h.inM, h.own⟩
/-- a full slice of anything that can be read -/
theorem App.full (hr : Rd w A xs) (hl : xs.length = n * size) (hm : n ≤ maxLen) (hn : A = none → n = 0) (hM : ∀ k, blk A = some k → M k)
    (ho : 0 < n → ∃ g off cur, A = some ⟨g, off, none⟩ ∧ w.heap[g]? = some (.cells cur e (0, 0)) ∧ off + n * size ≤ cur.size ∧ M g) : App M w e size A n n xs :=
  ⟨hl, Nat.le_refl _, hm, hn, hr, hM, ho⟩
theorem App.made (w : World) (cs : Array Value) (e size n c : Nat) (hM : M w.heap.size) (hc : cs.size = c * size) (hn : n ≤ c) (hm : c ≤ maxLen) :
    App M (w.alloc (.cells cs e)) e size (some ⟨w.heap.size, 0, none⟩) n c (cs.toList.take (n * size)) :=
  ⟨by rw [List.length_take, Array.length_toList, hc, Nat.min_eq_left (Nat.mul_le_mul_right _ hn)], hn, hm, fun h => (by cases h), (Rd.new w cs e).take _, fun k hk => by (cases hk; exact hM),
    fun _ => ⟨_, 0, cs, rfl, heap_alloc_new w _, by rw [hc]; omega, hM⟩⟩
end

/-- the blocks that an append may write: new ones, and the slice's own where it has room -/
def Wr (A : Option Addr) (n c : Nat) (w : World) (k : Nat) : Prop := w.heap.size ≤ k ∨ (n < c ∧ blk A = some k)

section
variable {P : Program} {M : Nat → Prop}

theorem rd_addr {w : World} {a : Addr} {xs : List Value} (h : Rd w (some a) xs) : ∀ j u, xs[j]? = some u → w.cell? (a.add j) = some u := fun j u hu => by
  obtain ⟨g, off, e, hc⟩ := h j u hu
  injection e with e
  subst e
  rw [Addr.add_lit]
  exact hc

theorem run_first (w : World) (size m d : Nat) (B : Option Addr) (news : List Value) (hl : news.length = m * size) (h : Rd w B news) :
    (Builtin.firstCells size m (.slice B m d)).run P w = .ok news.toArray w := by
  cases B with
  | none =>
    have : news = [] := by
      cases news with
      | nil => rfl
      | cons x r => obtain ⟨g, off, e, _⟩ := h 0 x rfl; cases e
    subst this
    simp [Builtin.firstCells]
  | some b => exact run_firstCells_some w size m b m d news hl (rd_addr h)

theorem take_mid (l news : List Value) (off k : Nat) (h : off + k + news.length ≤ l.length) :
    ((l.take (off + k) ++ news ++ l.drop (off + k + news.length)).drop off).take (k + news.length) = (l.drop off).take k ++ news := by
  rw [List.append_assoc, List.drop_append_of_le_length (by rw [List.length_take]; omega), List.drop_take]
  have e : (List.take (off + k - off) (List.drop off l)).length = k := by rw [List.length_take, List.length_drop]; omega
  rw [show k + news.length = (List.take (off + k - off) (List.drop off l)).length + news.length from by rw [e], List.take_length_add_append]
  rw [List.take_left' rfl, show off + k - off = k from by omega]

/-- append: in place where there is room, else in a new block -/
theorem run_append (w : World) (t ty e : TypeId) (i : TypeInfo) (z : Value) (size bytes : Nat) (ht : P.underlying t = some (.slice e)) (hi : P.info? e = some i) (hz : i.zero = some z)
    (hsize : i.size = size) (hby : i.bytes = bytes) (hzs : z.cells.size = size) (hsz : 0 < size)
    (A : Option Addr) (n c : Nat) (xs : List Value) (hA : App M w e size A n c xs) (hu : Up M w)
    (u : TypeId) (x : Value) (m : Nat) (news : List Value) (hl : news.length = m * size) (h1 : ∀ u ∈ news, u.oneCell' = true)
    (hdu : (∃ e', P.underlying u = some (.slice e')) ∨ P.underlying u = some .string)
    (hxl : ∀ w', (Builtin.lenOf x).run P w' = .ok m w') (hxc : ∀ w', w'.heap = w.heap → (Builtin.firstCells size m x).run P w' = .ok news.toArray w')
    (h63 : n + m ≤ maxLen) (hbytes : (n + m) * bytes ≤ 140737488355328) :
    ∃ A' c' w', (Builtin.append_ #[t, u] ty #[.slice A n c, x]).run P w = .ok (.slice A' (n + m) c') w' ∧ App M w' e size A' (n + m) c' (xs ++ news) ∧ Frm M w w' ∧
      ((blk A' = blk A ∧ c' = c) ∨ (blk A' = some w.heap.size ∧ 0 < m)) ∧ Frm (Wr A n c w) w w' := by
  subst hsize
  subst hby
  have hsmall : n + m ≤ 9223372036854775807 := by simp only [maxLen] at h63; omega
  have hlen : (xs ++ news).length = (n + m) * i.size := by rw [List.length_append, hA.len, hl, Nat.add_mul]
  by_cases hroom : n + m ≤ c
  · by_cases hm : m = 0
    · subst hm
      have hn : news = [] := List.eq_nil_of_length_eq_zero (by simpa using hl)
      subst hn
      refine ⟨A, c, w, ?_, by simpa using hA, Frm.refl _ _, .inl ⟨rfl, rfl⟩, Frm.refl _ _⟩
      have hxc' := hxc w rfl
      have hxl' := hxl w
      have hcap := hA.cap
      rcases hdu with ⟨e', hdu⟩ | hdu <;> cases A <;> simp [Builtin.append_, run_underlying ht, run_underlying hdu, sizeOf, typeInfo, hi, hcap, hxl', hxc', storeCells]
    · obtain ⟨g, off, cur, rfl, hg, hcur, hMg⟩ := hA.own (by omega)
      have hcs : (n + m) * i.size ≤ c * i.size := Nat.mul_le_mul_right _ hroom
      have hfit : off + n * i.size + news.length ≤ cur.size := by rw [hl]; rw [Nat.add_mul] at hcs; omega
      have hst := run_storeCells_at P g (off + n * i.size) e news 0 cur w hg (by simpa using hfit) h1
      simp only [Nat.add_zero] at hst
      refine ⟨some ⟨g, off, none⟩, c, w.setRow g (cur.toList.take (off + n * i.size) ++ news ++ cur.toList.drop (off + n * i.size + news.length)).toArray, ?_, ?_, ?_, .inl ⟨rfl, rfl⟩, ⟨rfl, rfl, rfl, by simp, fun k hk => setRow_other w g k _ (fun e => hk (.inr ⟨by omega, by rw [e]; rfl⟩))⟩⟩
      · have hxc' := hxc w rfl
        have hxl' := hxl w
        rcases hdu with ⟨e', hdu⟩ | hdu <;> simp [Builtin.append_, run_underlying ht, run_underlying hdu, sizeOf, typeInfo, hi, hroom, hxl', hxc', Addr.add_lit, hst]
      · have hheap := setRow_heap w g cur (cur.toList.take (off + n * i.size) ++ news ++ cur.toList.drop (off + n * i.size + news.length)).toArray e _ hg
        have hsz' : (cur.toList.take (off + n * i.size) ++ news ++ cur.toList.drop (off + n * i.size + news.length)).toArray.size = cur.size := by
          simp only [List.size_toArray, List.length_append, List.length_take, List.length_drop, Array.length_toList]; omega
        have hxs : xs = (cur.toList.drop off).take (n * i.size) := by
          apply List.ext_getElem?
          intro j
          rw [List.getElem?_take, List.getElem?_drop]
          by_cases hj : j < n * i.size
          · rw [if_pos hj]
            have hj' : j < xs.length := by rw [hA.len]; exact hj
            obtain ⟨g', off', e', hc'⟩ := hA.rd j _ (List.getElem?_eq_getElem hj')
            simp only [Option.some.injEq, Addr.mk.injEq] at e'
            obtain ⟨rfl, rfl, _⟩ := e'
            rw [cell_of_row w g _ cur e (0, 0) hg] at hc'
            rw [List.getElem?_eq_getElem hj', ← hc']
            simp
          · rw [if_neg hj, List.getElem?_eq_none (by rw [hA.len]; omega)]
        refine ⟨hlen, hroom, hA.max, fun h => (by cases h), fun j u hu => ⟨g, off, rfl, ?_⟩, fun k hk => by (cases hk; exact hMg), fun _ => ⟨g, off, _, rfl, hheap, by rw [hsz']; exact hcur, hMg⟩⟩
        rw [cell_of_row _ g _ _ e (0, 0) hheap]
        have htm := take_mid cur.toList news off (n * i.size) (by rw [Array.length_toList]; exact hfit)
        rw [← hxs] at htm
        rw [← htm, List.getElem?_take] at hu
        split at hu
        · rw [List.getElem?_drop] at hu
          simpa using hu
        · cases hu
      · exact ⟨rfl, rfl, rfl, by simp, fun k hk => setRow_other w g k _ (fun e => hk (e ▸ hMg))⟩
  · have hm : 0 < m := by have := hA.cap; omega
    have hfit : Builtin.nextslicecap (n + m) c * i.bytes ≤ 281474976710656 := growslice_fits (by omega) hbytes
    have hge := grownCap_ge w (n + m) c e
    have hcm : grownCap w (n + m) c e ≤ maxLen := grownCap_le_maxLen w (n + m) c e h63
    refine ⟨some ⟨w.heap.size, 0, none⟩, grownCap w (n + m) c e, w.drew.alloc (.cells (xs.toArray ++ news.toArray ++ Builtin.zeroCells z.cells (grownCap w (n + m) c e - (n + m))) e), ?_, ?_, ?_, .inr ⟨rfl, hm⟩, (Frm.refl _ w).drew.alloc (fun k hk => .inl hk) _⟩
    · have h63' : ¬ (9223372036854775807 < ((n : Int) + (m : Int))) := by omega
      have h48' : ¬ (281474976710656 < Builtin.nextslicecap (n + m) c * i.bytes) := by omega
      have hxc' := hxc w.drew rfl
      have hxl' := hxl w
      have hfo : (Builtin.firstCells i.size n (.slice A n c)).run P w.drew = .ok xs.toArray w.drew := run_first w.drew i.size n c A xs hA.len hA.rd.drew
      have hnr : ¬ (n + m ≤ c) := hroom
      rcases hdu with ⟨e', hdu⟩ | hdu <;> simp [Builtin.append_, run_underlying ht, run_underlying hdu, sizeOf, typeInfo, zeroValue, hi, hz, Question.forced, newRow, grownCap, hnr, h63', h48', hxl', hxc', hfo] <;> (congr 2; apply Array.ext'; simp [List.append_assoc])
    · have htl : (xs.toArray ++ news.toArray ++ Builtin.zeroCells z.cells (grownCap w (n + m) c e - (n + m))).toList.take ((n + m) * i.size) = xs ++ news := by
        simp only [Array.toList_append, List.append_assoc]
        rw [← List.append_assoc, ← hlen]
        exact List.take_left
      have hsz2 : (xs.toArray ++ news.toArray ++ Builtin.zeroCells z.cells (grownCap w (n + m) c e - (n + m))).size = grownCap w (n + m) c e * i.size := by
        simp only [Array.size_append, List.size_toArray, size_zeroCells, hzs, hA.len, hl, ← Nat.add_mul]
        congr 1
        omega
      have := App.made (M := M) w.drew (xs.toArray ++ news.toArray ++ Builtin.zeroCells z.cells (grownCap w (n + m) c e - (n + m))) e i.size (n + m) (grownCap w (n + m) c e) (hu _ (Nat.le_refl _)) hsz2 hge hcm
      rw [htl] at this
      exact this
    · exact (Frm.refl M w).drew.alloc hu _
end

/-- what a program's tables say of a slice type t and its element type e -/
structure Elem (P : Program) (t e : TypeId) (size bytes : Nat) : Prop where
  ht : P.underlying t = some (.slice e)
  info : ∃ i z, P.info? e = some i ∧ i.zero = some z ∧ i.size = size ∧ i.bytes = bytes ∧ z.cells.size = size
  pos : 0 < size
  bpos : 0 < bytes

section
variable {P : Program} {M : Nat → Prop} {t e : TypeId} {size bytes : Nat}

theorem Elem.not_int (E : Elem P t e size bytes) (k : IntKind) : P.underlying t ≠ some (.int k) := by rw [E.ht]; simp
theorem Elem.max (E : Elem P t e size bytes) {n : Nat} (h : n * bytes ≤ 140737488355328) : n ≤ maxLen := by
  have := Nat.le_trans (Nat.le_mul_of_pos_right n E.bpos) h
  simp only [maxLen]; omega

theorem run_append_slice (E : Elem P t e size bytes) (w : World) (ty : TypeId) {A : Option Addr} {n c : Nat} {xs : List Value} (hA : App M w e size A n c xs) (hu : Up M w)
    {B : Option Addr} {m d : Nat} {news : List Value} (hB : Rd w B news) (hl : news.length = m * size) (h1 : ∀ u ∈ news, u.oneCell' = true) (hbytes : (n + m) * bytes ≤ 140737488355328) :
    ∃ A' c' w', (Builtin.append_ #[t, t] ty #[.slice A n c, .slice B m d]).run P w = .ok (.slice A' (n + m) c') w' ∧ App M w' e size A' (n + m) c' (xs ++ news) ∧ Frm M w w' ∧
      ((blk A' = blk A ∧ c' = c) ∨ (blk A' = some w.heap.size ∧ 0 < m)) ∧ Frm (Wr A n c w) w w' := by
  obtain ⟨i, z, hi, hz, hs, hb, hzs⟩ := E.info
  exact run_append w t ty e i z size bytes E.ht hi hz hs hb hzs E.pos A n c xs hA hu t _ m news hl h1 (.inl ⟨e, E.ht⟩) (fun _ => rfl)
    (fun w' hw' => run_first w' size m d B news hl (fun j u hu => by
      obtain ⟨g, off, e, hc⟩ := hB j u hu
      exact ⟨g, off, e, by simp only [World.cell?, hw'] at hc ⊢; exact hc⟩)) (E.max hbytes) hbytes

theorem run_append_string (E : Elem P t e 1 bytes) (w : World) (ty u : TypeId) (hus : P.underlying u = some .string) {A : Option Addr} {n c : Nat} {xs : List Value} (hA : App M w e 1 A n c xs) (hu : Up M w)
    (s : ByteArray) (hbytes : (n + s.size) * bytes ≤ 140737488355328) :
    ∃ A' c' w', (Builtin.append_ #[t, u] ty #[.slice A n c, .string s]).run P w = .ok (.slice A' (n + s.size) c') w' ∧
      App M w' e 1 A' (n + s.size) c' (xs ++ s.data.toList.map (fun b => Value.int .u8 (b.toNat : Int))) ∧ Frm M w w' ∧
      ((blk A' = blk A ∧ c' = c) ∨ (blk A' = some w.heap.size ∧ 0 < s.size)) ∧ Frm (Wr A n c w) w w' := by
  obtain ⟨i, z, hi, hz, hs, hb, hzs⟩ := E.info
  refine run_append w t ty e i z 1 bytes E.ht hi hz hs hb hzs E.pos A n c xs hA hu u _ s.size _ (by rw [List.length_map, Nat.mul_one]; rfl) (fun v hv => ?_) (.inr hus) (fun _ => rfl)
    (fun w' hw' => ?_) (E.max hbytes) hbytes
  · obtain ⟨b, _, rfl⟩ := List.mem_map.1 hv
    rfl
  · simp only [Builtin.firstCells, ByteArray.extract_zero_size]
    show Result.ok _ w' = _
    congr 1
    apply Array.ext'
    simp

section
variable {ops : Array Oper} {rest : List Oper} {o : Oper} {a : Act} {Q : Exit → Act → World → Prop} {w : World}

/-- out = append(out, xs...) -/
theorem wpList_append (E : Elem P t e size bytes) (hgd : o.guard = none) {s x : Operand} (ho : o.op = .call { callee := .builtin .append, args := #[s, x], argTypes := #[t, t] })
    {A : Option Addr} {n c : Nat} {xs : List Value} (hs : a.eval s = .slice A n c) (hA : App M w e size A n c xs) (hu : Up M w)
    {B : Option Addr} {m d : Nat} {news : List Value} (hx : a.eval x = .slice B m d) (hB : Rd w B news) (hl : news.length = m * size) (h1 : ∀ u ∈ news, u.oneCell' = true) (hbytes : (n + m) * bytes ≤ 140737488355328)
    (h : ∀ A' c' w', App M w' e size A' (n + m) c' (xs ++ news) → Frm M w w' → ((blk A' = blk A ∧ c' = c) ∨ (blk A' = some w.heap.size ∧ 0 < m)) → Frm (Wr A n c w) w w' → wpList P ops Q rest (a.put o.dst (.slice A' (n + m) c')) w') :
    wpList P ops Q (o :: rest) a w := by
  refine wpList_plain hgd fun _ hK => ?_
  obtain ⟨A', c', w', hr, h2, h3, h4, h5⟩ := run_append_slice E w o.type hA hu hB hl h1 hbytes (d := d)
  unfold Oper.wp execOp
  simp only [ho, resolve, invoke, builtin, Sem.run_bind, Sem.run_pure, Result.andThen_ok, List.map_toArray, List.map_cons, List.map_nil, hs, hx, hr]
  exact hK _ _ (h _ _ _ h2 h3 h4 h5)

/-- out = append(out, s...), s a string -/
theorem wpList_append_string (E : Elem P t e 1 bytes) (hgd : o.guard = none) {u : TypeId} (hus : P.underlying u = some .string) {s x : Operand} (ho : o.op = .call { callee := .builtin .append, args := #[s, x], argTypes := #[t, u] })
    {A : Option Addr} {n c : Nat} {xs : List Value} (hs : a.eval s = .slice A n c) (hA : App M w e 1 A n c xs) (hu : Up M w)
    {y : ByteArray} (hx : a.eval x = .string y) (hbytes : (n + y.size) * bytes ≤ 140737488355328)
    (h : ∀ A' c' w', App M w' e 1 A' (n + y.size) c' (xs ++ y.data.toList.map (fun b => Value.int .u8 (b.toNat : Int))) → Frm M w w' → ((blk A' = blk A ∧ c' = c) ∨ (blk A' = some w.heap.size ∧ 0 < y.size)) → Frm (Wr A n c w) w w' →
      wpList P ops Q rest (a.put o.dst (.slice A' (n + y.size) c')) w') :
    wpList P ops Q (o :: rest) a w := by
  refine wpList_plain hgd fun _ hK => ?_
  obtain ⟨A', c', w', hr, h2, h3, h4, h5⟩ := run_append_string E w o.type u hus hA hu y hbytes
  unfold Oper.wp execOp
  simp only [ho, resolve, invoke, builtin, Sem.run_bind, Sem.run_pure, Result.andThen_ok, List.map_toArray, List.map_cons, List.map_nil, hs, hx, hr]
  exact hK _ _ (h _ _ _ h2 h3 h4 h5)

/-- out = append(out, x, y, ..): the elements have just been laid in a new block -/
theorem wpList_append_lit (E : Elem P t e size bytes) (hgd : o.guard = none) {s x : Operand} (ho : o.op = .call { callee := .builtin .append, args := #[s, x], argTypes := #[t, t] })
    {A : Option Addr} {n c : Nat} {xs : List Value} (hs : a.eval s = .slice A n c) (hA : App M w e size A n c xs) (hu : Up M w)
    {cs : Array Value} {e' : TypeId} {m d : Nat} (hx : a.eval x = .slice (some ⟨w.heap.size, 0, none⟩) m d) (hl : cs.size = m * size) (h1 : ∀ u ∈ cs.toList, u.oneCell' = true) (hbytes : (n + m) * bytes ≤ 140737488355328)
    (h : ∀ A' c' w', App M w' e size A' (n + m) c' (xs ++ cs.toList) → Frm M w w' → ((blk A' = blk A ∧ c' = c) ∨ (blk A' = some (w.heap.size + 1) ∧ 0 < m)) → Frm (Wr A n c w) w w' → wpList P ops Q rest (a.put o.dst (.slice A' (n + m) c')) w') :
    wpList P ops Q (o :: rest) a (w.alloc (.cells cs e')) := by
  refine wpList_append E hgd ho hs (hA.alloc _) (hu.of (by simp)) hx (Rd.new w cs e') (by simpa using hl) h1 hbytes fun A' c' w' h2 h3 h4 h5 => h A' c' w' h2 (((Frm.refl M w).alloc hu _).trans h3) (by simpa using h4)
    (((Frm.refl _ w).alloc (fun k hk => .inl hk) _).trans (h5.mono (fun k hk => by rcases hk with hk | hk; exact .inl (by simp at hk; omega); exact .inr hk)))
end
end
end Go.Proofs.YtpojejdddgdjdaaGreatDoor.M
