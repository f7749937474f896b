/- Om -/
import Derived.BigQuiet
import Derived.Deep.CutBlock
import Derived.Lib.Hide
import Derived.IntWalk
import Derived.Deep.LoopGhost
import Derived.Test.YtdgggjeiflllhaaZyNp
import Derived.Test.YtdgggjeiflllhaaZyRtab
import Derived.Test.YtdgggjeiflllhaaZyRtabf
import Derived.Test.YtdgggjeiflllhaaZyKey
import Derived.Test.YtdgggjeiflllhaaZyMem

namespace Go.Proofs.Ytdgggjeiflllhaa.M
open Go.ChangeShapes Go.WideShapes Go.ChangeAt Go.RowKit
structure Ou where
  q : Qs
  A : Option Addr
  c : Nat
def ouC (x : Ou) : List Value := [.int .u64 x.q.stream, .int .u64 x.q.count, .slice x.A x.q.uses.length x.c]
def ocC (l : List Ou) : List Value := l.flatMap ouC
theorem ocC_len (l : List Ou) : (ocC l).length = l.length * 3 := by
  induction l with
  | nil => rfl
  | cons x r ih => unfold ocC at ih ⊢; rw [List.flatMap_cons, List.length_append, ih]; simp [ouC]; omega
def nmC (l : List Nat) : List Value := l.map fun (n : Nat) => Value.int .u64 (n : Int)
theorem nmC_len (l : List Nat) : (nmC l).length = l.length := by unfold nmC; rw [List.length_map]
structure OnM (X : Nat → Prop) (w : World) (pe g : Nat) (S : Nat → Prop) (Ao : Option Addr) (co : Nat) (l : List Ou) (Ar : Option Addr) (cr : Nat) (E : Qn) : Prop where
  blk : Blk w pe 51 #[.pointer (some ⟨g, 0, none⟩), .int .i64 E.blk, .int .u64 E.known, .slice Ao l.length co, .slice Ar E.rest.length cr, .int .i64 E.err, .bool E.begun]
  tab : RTabS S w g E.t
  opn : App X w 118 3 Ao l.length co (ocC l)
  oc : l.length ≤ co
  om : co ≤ maxLen
  same : l.map (·.q) = E.opn
  use_ : ∀ y ∈ l, Rd w y.A (nmC y.q.uses) ∧ y.q.uses.length ≤ y.c ∧ y.c ≤ maxLen
  rest : App X w 5 1 Ar E.rest.length cr (bvs E.rest)
  rc : E.rest.length ≤ cr
  rm : cr ≤ maxLen
  low : ∀ k, X k → k < w.heap.size
  xp : X pe
  xs : ∀ k, S k → X k
  ps : ¬ S pe
  ro : ∀ k, M.blk Ao = some k → X k ∧ ¬ S k ∧ k ≠ pe
  rr : ∀ k, M.blk Ar = some k → X k ∧ ¬ S k ∧ k ≠ pe
  ru : ∀ y ∈ l, ∀ k, M.blk y.A = some k → X k ∧ ¬ S k ∧ k ≠ pe
  ok : E.t.Ok
  cap : E.t.cap ≤ 4096
  nb : E.t.n ≤ 1152921504606846976
  kn : E.known ≤ E.t.n
  ctn : ∀ o ∈ E.opn, o.count ≤ E.t.n
  ol : E.opn.length ≤ 1073741824
  bl : E.blk ≤ 9223372036854775807
  rl : E.rest.length ≤ 1099511627776
section
variable {X S : Nat → Prop} {w w' : World} {pe g co cr : Nat} {Ao Ar : Option Addr} {l : List Ou} {E : Qn}
theorem OnM.keep {N : Nat → Prop} (h : OnM X w pe g S Ao co l Ar cr E) (f : Frm N w w') (hN : ∀ k, X k → ¬ N k) : OnM X w' pe g S Ao co l Ar cr E :=
  { h with
    blk := h.blk.keep f (hN _ h.xp)
    tab := h.tab.keep f (fun k hk => hN k (h.xs k hk))
    opn := h.opn.keep f (fun k hk => hN k (h.ro k hk).1)
    use_ := fun y hy => ⟨(h.use_ y hy).1.keep f (fun k hk => hN k (h.ru y hy k hk).1), (h.use_ y hy).2⟩
    rest := h.rest.keep f (fun k hk => hN k (h.rr k hk).1)
    low := fun k hk => Nat.lt_of_lt_of_le (h.low k hk) f.size }
theorem OnM.fresh (h : OnM X w pe g S Ao co l Ar cr E) (f : Frm (New w) w w') : OnM X w' pe g S Ao co l Ar cr E :=
  h.keep f (fun k hk e => by have := h.low k hk; unfold New at e; omega)
theorem OnM.len (h : OnM X w pe g S Ao co l Ar cr E) : l.length = E.opn.length := by rw [← h.same, List.length_map]
theorem ou_cells {oA : Nat} {gA : Nat} (h : Rd w (some ⟨gA, oA, none⟩) (ocC l)) (i : Nat) (hi : i < l.length) :
    w.cell? ⟨gA, oA + i * 3, none⟩ = some (.int .u64 (l[i].q.stream : Int)) ∧ w.cell? ⟨gA, oA + i * 3 + 1, none⟩ = some (.int .u64 (l[i].q.count : Int)) ∧ w.cell? ⟨gA, oA + i * 3 + 2, none⟩ = some (.slice l[i].A l[i].q.uses.length l[i].c) := by
  have key : ∀ c u, c < 3 → (ouC l[i])[c]? = some u → w.cell? ⟨gA, oA + i * 3 + c, none⟩ = some u := fun c u hc hu => by
    have hfl : (ocC l)[i * 3 + c]? = (ouC l[i])[c]? := by
      have hgen : ∀ (l : List Ou) (i : Nat) (hi : i < l.length), (ocC l)[i * 3 + c]? = (ouC l[i])[c]? := fun l => by
        induction l with
        | nil => intro i hi; simp at hi
        | cons x r ih =>
          intro i hi
          unfold ocC at ih ⊢
          rw [List.flatMap_cons]
          cases i with
          | zero =>
            rw [Nat.zero_mul, Nat.zero_add, List.getElem?_append_left (by show c < 3; exact hc)]
            rfl
          | succ i =>
            rw [List.getElem?_append_right (by show 3 ≤ _; omega), show (i + 1) * 3 + c - (ouC x).length = i * 3 + c by show _ - 3 = _; omega]
            exact ih i (by simpa using hi)
      exact hgen l i hi
    rw [hu] at hfl
    obtain ⟨g1, o1, e1, c1⟩ := h _ _ hfl
    simp only [Option.some.injEq, Addr.mk.injEq] at e1
    obtain ⟨rfl, rfl, _⟩ := e1
    rw [Nat.add_assoc]
    exact c1
  exact ⟨key 0 _ (by omega) rfl, key 1 _ (by omega) rfl, key 2 _ (by omega) rfl⟩
end
end Go.Proofs.Ytdgggjeiflllhaa.M
namespace Go.Proofs.Ytdgggjeiflllhaa.M
open Go.ChangeShapes Go.WideShapes Go.ChangeAt Go.RowKit
theorem any_take {α : Type} (p : α → Bool) (l : List α) (h : ∀ y ∈ l, ¬ p y = true) : l.any p = false := List.any_eq_false.2 h
set_option maxRecDepth 100000 in
set_option maxHeartbeats 4000000 in
theorem oblocked_any {X S : Nat → Prop} {w : World} {pe g co cr : Nat} {Ao Ar : Option Addr} {l : List Ou} {E : Qn} (h : OnM X w pe g S Ao co l Ar cr E) (s : Nat) :
    Calls Try.prog 53 #[.pointer (some ⟨pe, 0, none⟩), .int .u64 (s : Int)] w fun e w' => e = .returned (.bool (E.stuck s)) ∧ ∃ n, w' = w.drewN n := by
  have hst : E.stuck s = l.any fun y => decide (y.q.stream = s) && decide (E.known < y.q.count) := by
    unfold Qn.stuck
    rw [← h.same, List.any_map]
    rfl
  have hlm := Nat.le_trans h.oc h.om
  simp only [maxLen] at hlm
  have hR := h.opn.rd
  have H := Lib.hid h
  have HST := Lib.hid hst
  have HR := Lib.hid hR
  clear h hst hR
  go_enter Try.func53, Try.ntmps53
  go_wp2_with (fail)
  go_loopg [5] l.length (fun kk v wx => ∃ i : Nat, v = .int .i64 (i : Int) ∧ i + kk = l.length ∧ Hid (∀ y ∈ l.take i, ¬ (decide (y.q.stream = s) && decide (E.known < y.q.count)) = true) ∧ ∃ n, wx = w.drewN n)
  case atStart => exact ⟨0, rfl, by omega, Lib.hid (fun y hy => by cases hy), 0, rfl⟩
  case round =>
    obtain ⟨i, rfl, hi, hno, nq, rfl⟩ := hrel
    have hb := (H.out.fresh ((Frm.refl (New w) w).drewN nq)).blk
    have hy2 := hb.cell 2
    have hy3 := hb.cell 3
    simp only [List.getElem?_toArray, List.getElem?_cons_zero, List.getElem?_cons_succ] at hy2 hy3
    have hpl := hb.lt
    have hRx := HR.out.drewN nq
    by_cases hil : i < l.length
    · have hili : (i : Int) < (l.length : Int) := by omega
      obtain ⟨gA, oA, rfl, hjunk⟩ := hRx.at_ (k := i * 3) (by rw [ocC_len]; omega)
      clear hjunk
      obtain ⟨hc0, hc1, _⟩ := ou_cells hRx i hil
      have hgl := World.block_lt_of_cell? _ _ hc0
      simp only at hgl
      have htk : l.take (i + 1) = l.take i ++ [l[i]] := by rw [List.take_add_one, List.getElem?_eq_getElem hil]; rfl
      have hmem := List.getElem_mem hil
      generalize l[i] = y at *
      obtain ⟨⟨ys, yc, yu⟩, yA, yn⟩ := y
      simp only at hc0 hc1
      have HRX := Lib.hid hRx
      have HTK := Lib.hid htk
      have HMEM := Lib.hid hmem
      have HNO := Lib.hid hno
      have HB := Lib.hid hb
      clear hRx htk hmem hno hb
      go_upto_region 4 with (fail)
      have hS0 : (w.drewN nq).drew.cell? ⟨pe, 2, none⟩ = some (.int .u64 (E.known : Int)) ∧ (w.drewN nq).drew.cell? ⟨pe, 3, none⟩ = some (.slice (some ⟨gA, oA, none⟩) l.length co) ∧ pe < (w.drewN nq).drew.heap.size ∧ gA < (w.drewN nq).drew.heap.size ∧ (w.drewN nq).drew.cell? ⟨gA, oA + i * 3, none⟩ = some (.int .u64 (ys : Int)) ∧ (w.drewN nq).drew.cell? ⟨gA, oA + i * 3 + 1, none⟩ = some (.int .u64 (yc : Int)) := ⟨hy2, hy3, hpl, hgl, hc0, hc1⟩
      refine wp_region_held (by kernel_rfl) (S := fun w' => w'.cell? ⟨pe, 2, none⟩ = some (.int .u64 (E.known : Int)) ∧ w'.cell? ⟨pe, 3, none⟩ = some (.slice (some ⟨gA, oA, none⟩) l.length co) ∧ pe < w'.heap.size ∧ gA < w'.heap.size ∧ w'.cell? ⟨gA, oA + i * 3, none⟩ = some (.int .u64 (ys : Int)) ∧ w'.cell? ⟨gA, oA + i * 3 + 1, none⟩ = some (.int .u64 (yc : Int))) ?_
      change wpAnyH _ _ _ _ _ _ _ _ (w.drewN nq).drew
      refine wpAnyH_takeB (i := 0) (v := ?_) (d := some 15) rfl (by rfl) (by kernel_rfl) (fun _ _ _ h => h) (by rfl) hS0 (fun w hSw => ?_) ?_
      rotate_left
      · (try dsimp only at hSw); (try subst hSw); go_simp; first | done | (with_reducible rfl)
      simp only [Act.put, List.setIfInBounds_toArray, List.set_cons_zero, List.set_cons_succ]
      refine wpAnyH_takeB (i := 1) (v := ?_) (d := some 16) rfl (by rfl) (by kernel_rfl) (fun _ _ _ h => h) (by rfl) hS0 (fun w hSw => ?_) ?_
      rotate_left
      · (try dsimp only at hSw); (try subst hSw); go_simp; first | done | (with_reducible rfl)
      simp only [Act.put, List.setIfInBounds_toArray, List.set_cons_zero, List.set_cons_succ]
      refine wpAnyH_takeB (i := 2) (v := ?_) (d := some 17) rfl (by rfl) (by kernel_rfl) (fun _ _ _ h => h) (by rfl) hS0 (fun w hSw => ?_) ?_
      rotate_left
      · (try dsimp only at hSw); (try subst hSw); go_simp; first | done | (with_reducible rfl)
      simp only [Act.put, List.setIfInBounds_toArray, List.set_cons_zero, List.set_cons_succ]
      refine wpAnyH_takeB (i := 3) (v := ?_) (d := some 18) rfl (by rfl) (by kernel_rfl) (fun _ _ _ h => h) (by rfl) hS0 (fun w hSw => ?_) ?_
      rotate_left
      · (try dsimp only at hSw); (try subst hSw); go_simp; first | done | (with_reducible rfl)
      simp only [Act.put, List.setIfInBounds_toArray, List.set_cons_zero, List.set_cons_succ]
      refine wpAnyH_takeB (i := 4) (v := ?_) (d := some 19) rfl (by rfl) (by kernel_rfl) (fun _ _ _ h => h) (by rfl) hS0 (fun w hSw => ?_) ?_
      rotate_left
      · (try dsimp only at hSw); (try subst hSw); go_simp; first | done | (with_reducible rfl)
      simp only [Act.put, List.setIfInBounds_toArray, List.set_cons_zero, List.set_cons_succ]
      refine wpAnyH_takeB (i := 5) (v := ?_) (d := some 20) rfl (by rfl) (by kernel_rfl) (fun _ _ _ h => h) (by rfl) hS0 (fun w hSw => ?_) ?_
      rotate_left
      · (try dsimp only at hSw); (try subst hSw); go_simp; first | done | (with_reducible rfl)
      simp only [Act.put, List.setIfInBounds_toArray, List.set_cons_zero, List.set_cons_succ]
      refine wpAnyH_takeB (i := 6) (v := ?_) (d := some 21) rfl (by rfl) (by kernel_rfl) (fun _ _ _ h => h) (by rfl) hS0 (fun w hSw => ?_) ?_
      rotate_left
      · (try dsimp only at hSw); (try subst hSw); go_simp; first | done | (with_reducible rfl)
      simp only [Act.put, List.setIfInBounds_toArray, List.set_cons_zero, List.set_cons_succ]
      refine wpAnyH_takeB (i := 7) (v := ?_) (d := some 22) rfl (by rfl) (by kernel_rfl) (fun _ _ _ h => h) (by rfl) hS0 (fun w hSw => ?_) ?_
      rotate_left
      · (try dsimp only at hSw); (try subst hSw); go_simp; first | done | (with_reducible rfl)
      simp only [Act.put, List.setIfInBounds_toArray, List.set_cons_zero, List.set_cons_succ]
      refine wpAnyH_takeB (i := 8) (v := ?_) (d := some 23) rfl (by rfl) (by kernel_rfl) (fun _ _ _ h => h) (by rfl) hS0 (fun w hSw => ?_) ?_
      rotate_left
      · (try dsimp only at hSw); (try subst hSw); go_simp; first | done | (with_reducible rfl)
      simp only [Act.put, List.setIfInBounds_toArray, List.set_cons_zero, List.set_cons_succ]
      by_cases h1 : ys = s
      · subst h1
        refine wpAnyH_takeB (i := 9) (v := .bool true) (d := some 24) rfl (by rfl) (by kernel_rfl) (fun _ _ _ h => h) (by rfl) hS0 (fun w hSw => by go_simp) ?_
        simp only [Act.put, List.setIfInBounds_toArray, List.set_cons_zero, List.set_cons_succ]
        refine wpAnyH_takeB (i := 10) (v := ?_) (d := some 25) rfl (by rfl) (by kernel_rfl) (fun _ _ _ h => h) (by rfl) hS0 (fun w hSw => ?_) ?_
        rotate_left
        · (try dsimp only at hSw); (try subst hSw); go_simp; first | done | (with_reducible rfl)
        simp only [Act.put, List.setIfInBounds_toArray, List.set_cons_zero, List.set_cons_succ]
        refine wpAnyH_takeB (i := 11) (v := ?_) (d := some 26) rfl (by rfl) (by kernel_rfl) (fun _ _ _ h => h) (by rfl) hS0 (fun w hSw => ?_) ?_
        rotate_left
        · (try dsimp only at hSw); (try subst hSw); go_simp; first | done | (with_reducible rfl)
        simp only [Act.put, List.setIfInBounds_toArray, List.set_cons_zero, List.set_cons_succ]
        refine wpAnyH_takeB (i := 12) (v := ?_) (d := some 27) rfl (by rfl) (by kernel_rfl) (fun _ _ _ h => h) (by rfl) hS0 (fun w hSw => ?_) ?_
        rotate_left
        · (try dsimp only at hSw); (try subst hSw); go_simp; first | done | (with_reducible rfl)
        simp only [Act.put, List.setIfInBounds_toArray, List.set_cons_zero, List.set_cons_succ]
        refine wpAnyH_takeB (i := 13) (v := ?_) (d := some 28) rfl (by rfl) (by kernel_rfl) (fun _ _ _ h => h) (by rfl) hS0 (fun w hSw => ?_) ?_
        rotate_left
        · (try dsimp only at hSw); (try subst hSw); go_simp; first | done | (with_reducible rfl)
        simp only [Act.put, List.setIfInBounds_toArray, List.set_cons_zero, List.set_cons_succ]
        refine wpAnyH_takeB (i := 14) (v := ?_) (d := some 29) rfl (by rfl) (by kernel_rfl) (fun _ _ _ h => h) (by rfl) hS0 (fun w hSw => ?_) ?_
        rotate_left
        · (try dsimp only at hSw); (try subst hSw); go_simp; first | done | (with_reducible rfl)
        simp only [Act.put, List.setIfInBounds_toArray, List.set_cons_zero, List.set_cons_succ]
        refine wpAnyH_takeB (i := 15) (v := ?_) (d := some 30) rfl (by rfl) (by kernel_rfl) (fun _ _ _ h => h) (by rfl) hS0 (fun w hSw => ?_) ?_
        rotate_left
        · (try dsimp only at hSw); (try subst hSw); go_simp; first | done | (with_reducible rfl)
        simp only [Act.put, List.setIfInBounds_toArray, List.set_cons_zero, List.set_cons_succ]
        refine wpAnyH_takeB (i := 16) (v := ?_) (d := some 31) rfl (by rfl) (by kernel_rfl) (fun _ _ _ h => h) (by rfl) hS0 (fun w hSw => ?_) ?_
        rotate_left
        · (try dsimp only at hSw); (try subst hSw); go_simp; first | done | (with_reducible rfl)
        simp only [Act.put, List.setIfInBounds_toArray, List.set_cons_zero, List.set_cons_succ]
        refine wpAnyH_takeB (i := 17) (v := ?_) (d := some 32) rfl (by rfl) (by kernel_rfl) (fun _ _ _ h => h) (by rfl) hS0 (fun w hSw => ?_) ?_
        rotate_left
        · (try dsimp only at hSw); (try subst hSw); go_simp; first | done | (with_reducible rfl)
        simp only [Act.put, List.setIfInBounds_toArray, List.set_cons_zero, List.set_cons_succ]
        refine wpAnyH_takeB (i := 18) (v := ?_) (d := some 33) rfl (by rfl) (by kernel_rfl) (fun _ _ _ h => h) (by rfl) hS0 (fun w hSw => ?_) ?_
        rotate_left
        · (try dsimp only at hSw); (try subst hSw); go_simp; first | done | (with_reducible rfl)
        simp only [Act.put, List.setIfInBounds_toArray, List.set_cons_zero, List.set_cons_succ]
        refine wpAnyH_takeB (i := 19) (v := ?_) (d := some 34) rfl (by rfl) (by kernel_rfl) (fun _ _ _ h => h) (by rfl) hS0 (fun w hSw => ?_) ?_
        rotate_left
        · (try dsimp only at hSw); (try subst hSw); go_simp; first | done | (with_reducible rfl)
        simp only [Act.put, List.setIfInBounds_toArray, List.set_cons_zero, List.set_cons_succ]
        refine wpAnyH_takeB (i := 20) (v := ?_) (d := some 35) rfl (by rfl) (by kernel_rfl) (fun _ _ _ h => h) (by rfl) hS0 (fun w hSw => ?_) ?_
        rotate_left
        · (try dsimp only at hSw); (try subst hSw); go_simp; first | done | (with_reducible rfl)
        simp only [Act.put, List.setIfInBounds_toArray, List.set_cons_zero, List.set_cons_succ]
        refine wpAnyH_takeB (i := 21) (v := ?_) (d := some 36) rfl (by rfl) (by kernel_rfl) (fun _ _ _ h => h) (by rfl) hS0 (fun w hSw => ?_) ?_
        rotate_left
        · (try dsimp only at hSw); (try subst hSw); go_simp; first | done | (with_reducible rfl)
        simp only [Act.put, List.setIfInBounds_toArray, List.set_cons_zero, List.set_cons_succ]
        refine wpAnyH_takeB (i := 22) (v := ?_) (d := some 37) rfl (by rfl) (by kernel_rfl) (fun _ _ _ h => h) (by rfl) hS0 (fun w hSw => ?_) ?_
        rotate_left
        · (try dsimp only at hSw); (try subst hSw); go_simp; first | done | (with_reducible rfl)
        simp only [Act.put, List.setIfInBounds_toArray, List.set_cons_zero, List.set_cons_succ]
        by_cases h2 : E.known < yc
        · have h2i : (E.known : Int) < (yc : Int) := by omega
          refine wpAnyH_takeB (i := 23) (v := .bool true) (d := some 38) rfl (by rfl) (by kernel_rfl) (fun _ _ _ h => h) (by rfl) hS0 (fun w hSw => by go_simp) ?_
          simp only [Act.put, List.setIfInBounds_toArray, List.set_cons_zero, List.set_cons_succ]
          refine wpAnyH_takeB (i := 24) (v := ?_) (d := some 39) rfl (by rfl) (by kernel_rfl) (fun _ _ _ h => h) (by rfl) hS0 (fun w hSw => ?_) ?_
          rotate_left
          · (try dsimp only at hSw); (try subst hSw); go_simp; first | done | (with_reducible rfl)
          simp only [Act.put, List.setIfInBounds_toArray, List.set_cons_zero, List.set_cons_succ]
          refine wpAnyH_done (by kernel_rfl) ?_ _
          go_wp2
          go_ret
          refine ⟨?_, nq + 1, rfl⟩
          rw [HST.out, show (l.any fun y => decide (y.q.stream = ys) && decide (E.known < y.q.count)) = true from List.any_eq_true.2 ⟨_, HMEM.out, by simp [h2]⟩]
          rfl
        · have h2i : ¬ (E.known : Int) < (yc : Int) := by omega
          refine wpAnyH_takeB (i := 23) (v := .bool false) (d := some 38) rfl (by rfl) (by kernel_rfl) (fun _ _ _ h => h) (by rfl) hS0 (fun w hSw => by go_simp) ?_
          simp only [Act.put, List.setIfInBounds_toArray, List.set_cons_zero, List.set_cons_succ]
          refine wpAnyH_takeB (i := 24) (v := ?_) (d := some 39) rfl (by rfl) (by kernel_rfl) (fun _ _ _ h => h) (by rfl) hS0 (fun w hSw => ?_) ?_
          rotate_left
          · (try dsimp only at hSw); (try subst hSw); go_simp; first | done | (with_reducible rfl)
          simp only [Act.put, List.setIfInBounds_toArray, List.set_cons_zero, List.set_cons_succ]
          refine wpAnyH_done (by kernel_rfl) ?_ _
          go_wp2
          go_roundg (gk - 1)
          case measure => omega
          case rel =>
            refine ⟨i + 1, ?_, by omega, ?_, nq + 1, rfl⟩
            · rw [Int.natCast_add]; rfl
            · refine Lib.hid ?_
              rw [HTK.out]
              intro z hz
              rcases List.mem_append.1 hz with q | q
              · exact HNO.out z q
              · rw [List.mem_singleton.1 q]; simp [h2] 
      · have h1i : ¬ (ys : Int) = (s : Int) := by omega
        refine wpAnyH_takeB (i := 9) (v := .bool false) (d := some 24) rfl (by rfl) (by kernel_rfl) (fun _ _ _ h => h) (by rfl) hS0 (fun w hSw => by go_simp) ?_
        simp only [Act.put, List.setIfInBounds_toArray, List.set_cons_zero, List.set_cons_succ]
        refine wpAnyH_takeB (i := 10) (v := ?_) (d := some 25) rfl (by rfl) (by kernel_rfl) (fun _ _ _ h => h) (by rfl) hS0 (fun w hSw => ?_) ?_
        rotate_left
        · (try dsimp only at hSw); (try subst hSw); go_simp; first | done | (with_reducible rfl)
        simp only [Act.put, List.setIfInBounds_toArray, List.set_cons_zero, List.set_cons_succ]
        refine wpAnyH_skipC (i := 11) (d := some 26) rfl (by rfl) (by kernel_rfl) (fun _ _ _ h => h) (by rfl) hS0 ?_
        simp only [Act.put, List.setIfInBounds_toArray, List.set_cons_zero, List.set_cons_succ]
        refine wpAnyH_skipC (i := 12) (d := some 27) rfl (by rfl) (by kernel_rfl) (fun _ _ _ h => h) (by rfl) hS0 ?_
        simp only [Act.put, List.setIfInBounds_toArray, List.set_cons_zero, List.set_cons_succ]
        refine wpAnyH_skipC (i := 13) (d := some 28) rfl (by rfl) (by kernel_rfl) (fun _ _ _ h => h) (by rfl) hS0 ?_
        simp only [Act.put, List.setIfInBounds_toArray, List.set_cons_zero, List.set_cons_succ]
        refine wpAnyH_skipC (i := 14) (d := some 29) rfl (by rfl) (by kernel_rfl) (fun _ _ _ h => h) (by rfl) hS0 ?_
        simp only [Act.put, List.setIfInBounds_toArray, List.set_cons_zero, List.set_cons_succ]
        refine wpAnyH_skipC (i := 15) (d := some 30) rfl (by rfl) (by kernel_rfl) (fun _ _ _ h => h) (by rfl) hS0 ?_
        simp only [Act.put, List.setIfInBounds_toArray, List.set_cons_zero, List.set_cons_succ]
        refine wpAnyH_skipC (i := 16) (d := some 31) rfl (by rfl) (by kernel_rfl) (fun _ _ _ h => h) (by rfl) hS0 ?_
        simp only [Act.put, List.setIfInBounds_toArray, List.set_cons_zero, List.set_cons_succ]
        refine wpAnyH_skipC (i := 17) (d := some 32) rfl (by rfl) (by kernel_rfl) (fun _ _ _ h => h) (by rfl) hS0 ?_
        simp only [Act.put, List.setIfInBounds_toArray, List.set_cons_zero, List.set_cons_succ]
        refine wpAnyH_skipC (i := 18) (d := some 33) rfl (by rfl) (by kernel_rfl) (fun _ _ _ h => h) (by rfl) hS0 ?_
        simp only [Act.put, List.setIfInBounds_toArray, List.set_cons_zero, List.set_cons_succ]
        refine wpAnyH_skipC (i := 19) (d := some 34) rfl (by rfl) (by kernel_rfl) (fun _ _ _ h => h) (by rfl) hS0 ?_
        simp only [Act.put, List.setIfInBounds_toArray, List.set_cons_zero, List.set_cons_succ]
        refine wpAnyH_skipC (i := 20) (d := some 35) rfl (by rfl) (by kernel_rfl) (fun _ _ _ h => h) (by rfl) hS0 ?_
        simp only [Act.put, List.setIfInBounds_toArray, List.set_cons_zero, List.set_cons_succ]
        refine wpAnyH_skipC (i := 21) (d := some 36) rfl (by rfl) (by kernel_rfl) (fun _ _ _ h => h) (by rfl) hS0 ?_
        simp only [Act.put, List.setIfInBounds_toArray, List.set_cons_zero, List.set_cons_succ]
        refine wpAnyH_skipC (i := 22) (d := some 37) rfl (by rfl) (by kernel_rfl) (fun _ _ _ h => h) (by rfl) hS0 ?_
        simp only [Act.put, List.setIfInBounds_toArray, List.set_cons_zero, List.set_cons_succ]
        refine wpAnyH_skipC (i := 23) (d := some 38) rfl (by rfl) (by kernel_rfl) (fun _ _ _ h => h) (by rfl) hS0 ?_
        simp only [Act.put, List.setIfInBounds_toArray, List.set_cons_zero, List.set_cons_succ]
        refine wpAnyH_takeB (i := 24) (v := ?_) (d := some 39) rfl (by rfl) (by kernel_rfl) (fun _ _ _ h => h) (by rfl) hS0 (fun w hSw => ?_) ?_
        rotate_left
        · (try dsimp only at hSw); (try subst hSw); go_simp; first | done | (with_reducible rfl)
        simp only [Act.put, List.setIfInBounds_toArray, List.set_cons_zero, List.set_cons_succ]
        refine wpAnyH_done (by kernel_rfl) ?_ _
        go_wp2
        go_roundg (gk - 1)
        case measure => omega
        case rel =>
          refine ⟨i + 1, ?_, by omega, ?_, nq + 1, rfl⟩
          · rw [Int.natCast_add]; rfl
          · refine Lib.hid ?_
            rw [HTK.out]
            intro z hz
            rcases List.mem_append.1 hz with q | q
            · exact HNO.out z q
            · rw [List.mem_singleton.1 q]; simp [h1] 
    · have hili : ¬ (i : Int) < (l.length : Int) := by omega
      obtain rfl : i = l.length := by omega
      go_wp2
      go_ret
      refine ⟨?_, nq, rfl⟩
      have hh := hno.out
      rw [List.take_length] at hh
      rw [HST.out, any_take _ _ hh]
      rfl
theorem firsts_snoc (o : Qs) : ∀ (l : List Qs) (seen : List Nat), firsts (l ++ [o]) seen = firsts l seen ++ (if o.stream ∈ seen ∨ o.stream ∈ l.map (·.stream) then [] else [o.stream])
  | [], seen => by
    show (if o.stream ∈ seen then firsts [] seen else o.stream :: firsts [] (o.stream :: seen)) = _
    by_cases h : o.stream ∈ seen
    · rw [if_pos h, if_pos (.inl h)]; rfl
    · rw [if_neg h, if_neg (by simpa using h)]; rfl
  | x :: r, seen => by
    rw [List.cons_append]
    unfold firsts
    by_cases h : x.stream ∈ seen
    · rw [if_pos h, if_pos h, firsts_snoc o r seen]
      congr 1
      by_cases h2 : o.stream ∈ seen ∨ o.stream ∈ r.map (·.stream)
      · rw [if_pos h2, if_pos (by rcases h2 with h2 | h2; exact .inl h2; exact .inr (List.mem_cons_of_mem _ h2))]
      · rw [if_neg h2, if_neg (fun q => h2 (by
          rcases q with q | q
          · exact .inl q
          · rw [List.map_cons] at q
            rcases List.mem_cons.1 q with q | q
            · exact .inl (q ▸ h)
            · exact .inr q))]
    · rw [if_neg h, if_neg h, firsts_snoc o r (x.stream :: seen), List.cons_append]
      congr 2
      by_cases h2 : o.stream ∈ x.stream :: seen ∨ o.stream ∈ r.map (·.stream)
      · rw [if_pos h2, if_pos (by
          rw [List.map_cons]
          rcases h2 with h2 | h2
          · rcases List.mem_cons.1 h2 with h2 | h2
            · exact .inr (h2 ▸ List.mem_cons_self ..)
            · exact .inl h2
          · exact .inr (List.mem_cons_of_mem _ h2))]
      · rw [if_neg h2, if_neg (fun q => h2 (by
          rcases q with q | q
          · exact .inl (List.mem_cons_of_mem _ q)
          · rw [List.map_cons] at q
            rcases List.mem_cons.1 q with q | q
            · exact .inl (q ▸ List.mem_cons_self ..)
            · exact .inr q))]
def manyTo (E : Qn) (l : List Ou) : Nat := ((firsts (l.map (·.q)) []).filter E.stuck).length
theorem manyTo_snoc (E : Qn) (l : List Ou) (y : Ou) : manyTo E (l ++ [y]) = manyTo E l + (if (l.any fun z => decide (z.q.stream = y.q.stream)) = true then 0 else if E.stuck y.q.stream then 1 else 0) := by
  unfold manyTo
  rw [List.map_append, List.map_cons, List.map_nil, firsts_snoc, List.filter_append, List.length_append]
  congr 1
  have hm : (y.q.stream ∈ ([] : List Nat) ∨ y.q.stream ∈ (l.map (·.q)).map (·.stream)) ↔ (l.any fun z => decide (z.q.stream = y.q.stream)) = true := by
    rw [List.any_eq_true]
    simp only [List.not_mem_nil, false_or, List.map_map, List.mem_map, Function.comp_apply, decide_eq_true_eq]
  by_cases h : (l.any fun z => decide (z.q.stream = y.q.stream)) = true
  · rw [if_pos (hm.2 h), if_pos h]; rfl
  · rw [if_neg (fun q => h (hm.1 q)), if_neg h, List.filter_cons]
    split <;> rfl
theorem manyTo_le (E : Qn) : ∀ l : List Ou, manyTo E l ≤ l.length := fun l => by
  unfold manyTo
  refine Nat.le_trans (List.length_filter_le _ _) ?_
  have h : ∀ (l : List Qs) (seen : List Nat), (firsts l seen).length ≤ l.length := fun l => by
    induction l with
    | nil => intro _; exact Nat.le_refl _
    | cons x r ih =>
      intro seen
      unfold firsts
      split
      · have := ih seen; simp; omega
      · have := ih (x.stream :: seen); simp; omega
  have := h (l.map (·.q)) []
  rwa [List.length_map] at this
set_option maxRecDepth 100000 in
set_option maxHeartbeats 4000000 in
theorem omany_any {X S : Nat → Prop} {w : World} {pe g co cr : Nat} {Ao Ar : Option Addr} {l : List Ou} {E : Qn} (h : OnM X w pe g S Ao co l Ar cr E) :
    Calls Try.prog 54 #[.pointer (some ⟨pe, 0, none⟩)] w fun e w' => e = .returned (.int .i64 (E.many : Nat)) ∧ ∃ n, w' = w.drewN n := by
  have hst : E.many = manyTo E l := by
    unfold Qn.many manyTo
    rw [h.same]
  have hll : l.length ≤ 1073741824 := by rw [h.len]; exact h.ol
  have hR := h.opn.rd
  have hmt := manyTo_le E
  have hbl : ∀ n s, Calls Try.prog 53 #[.pointer (some ⟨pe, 0, none⟩), .int .u64 ((s : Nat) : Int)] (w.drewN n) fun e w' => e = .returned (.bool (E.stuck s)) ∧ ∃ m, w' = (w.drewN n).drewN m := fun n s => oblocked_any (h.fresh ((Frm.refl _ w).drewN n)) s
  have H := Lib.hid h
  have HST := Lib.hid hst
  have HR := Lib.hid hR
  have HMT := Lib.hid hmt
  have HBL := Lib.hid hbl
  clear h hst hR hmt hbl
  go_enter Try.func54, Try.ntmps54
  go_wp2_with (fail)
  go_loopg [3, 4] l.length (fun kk v3 v4 wx => ∃ i c : Nat, v3 = .int .i64 (c : Int) ∧ v4 = .int .i64 (i : Int) ∧ i + kk = l.length ∧ c ≤ i ∧ Hid (c = manyTo E (l.take i)) ∧ ∃ n, wx = w.drewN n)
  case atStart => exact ⟨0, 0, rfl, rfl, by omega, Nat.le_refl _, Lib.hid rfl, 0, rfl⟩
  case round =>
    obtain ⟨i, c, rfl, rfl, hi, hci, hcm, nq, rfl⟩ := hrel
    have hb := (H.out.fresh ((Frm.refl (New w) w).drewN nq)).blk
    have hy3 := hb.cell 3
    simp only [List.getElem?_toArray, List.getElem?_cons_zero, List.getElem?_cons_succ] at hy3
    have hpl := hb.lt
    by_cases hil : i < l.length
    · have hili : (i : Int) < (l.length : Int) := by omega
      obtain ⟨gA, oA, rfl, hjunk⟩ := (HR.out.drewN nq).at_ (k := i * 3) (by rw [ocC_len]; omega)
      clear hjunk
      have htk : manyTo E (l.take (i + 1)) = manyTo E (l.take i ++ [l[i]]) := by rw [List.take_add_one, List.getElem?_eq_getElem hil]; rfl
      rw [manyTo_snoc] at htk
      obtain ⟨si, hsi⟩ : ∃ si, si = l[i].q.stream := ⟨_, rfl⟩
      rw [← hsi] at htk
      obtain ⟨gko, hgko⟩ : ∃ m, m = gk := ⟨_, rfl⟩
      rw [← hgko] at hi
      have HTK := Lib.hid htk
      have HB := Lib.hid hb
      have HSI := Lib.hid hsi
      clear htk hb hsi
      go_wp2_with (fail)
      go_loopg [5, 6] i (fun kk v5 v6 wz => ∃ (j : Nat) (fb : Bool), v5 = .bool fb ∧ v6 = .int .i64 (j : Int) ∧ j + kk = i ∧ Hid (fb = !((l.take j).any fun z => decide (z.q.stream = si))) ∧ ∃ n, wz = w.drewN n)
      case atStart => exact ⟨0, true, rfl, rfl, by omega, Lib.hid rfl, nq, rfl⟩
      case round =>
        clear HB hy3 hpl
        clear nq
        obtain ⟨j, fb, rfl, rfl, hj, hfb, nq, rfl⟩ := hrel
        have hb := (H.out.fresh ((Frm.refl (New w) w).drewN nq)).blk
        have hy3 := hb.cell 3
        simp only [List.getElem?_toArray, List.getElem?_cons_zero, List.getElem?_cons_succ] at hy3
        have hpl := hb.lt
        have hRx := HR.out.drewN nq
        obtain ⟨hci0, _, _⟩ := ou_cells hRx i hil
        rw [← HSI.out] at hci0
        have hgl := World.block_lt_of_cell? _ _ hci0
        simp only at hgl
        by_cases hji : j < i
        · have hjii : (j : Int) < (i : Int) := by omega
          have hjl : j < l.length := by omega
          have hjli : (j : Int) < (l.length : Int) := by omega
          obtain ⟨hcj0, _, _⟩ := ou_cells hRx j (by omega)
          have hfb2 : (!((l.take (j + 1)).any fun z => decide (z.q.stream = si))) = (fb && !(decide ((l[j]'(by omega)).q.stream = si))) := by
            rw [hfb.out, List.take_add_one, List.getElem?_eq_getElem (by omega : j < l.length), List.any_append]
            simp
          generalize (l[j]'(by omega)).q.stream = sj at *
          have HB := Lib.hid hb
          have HRX := Lib.hid hRx
          have HFB2 := Lib.hid hfb2
          clear hb hRx hfb2
          go_upto_region 9 with (fail)
          have hS0 : (w.drewN nq).drew.cell? ⟨pe, 3, none⟩ = some (.slice (some ⟨gA, oA, none⟩) (List.length l) co) ∧ pe < (w.drewN nq).drew.heap.size ∧ gA < (w.drewN nq).drew.heap.size ∧ (w.drewN nq).drew.cell? ⟨gA, oA + j * 3, none⟩ = some (.int .u64 (sj : Int)) ∧ (w.drewN nq).drew.cell? ⟨gA, oA + i * 3, none⟩ = some (.int .u64 (si : Int)) := ⟨hy3, hpl, hgl, hcj0, hci0⟩
          refine wp_region_held (by kernel_rfl) (S := fun w' => w'.cell? ⟨pe, 3, none⟩ = some (.slice (some ⟨gA, oA, none⟩) (List.length l) co) ∧ pe < w'.heap.size ∧ gA < w'.heap.size ∧ w'.cell? ⟨gA, oA + j * 3, none⟩ = some (.int .u64 (sj : Int)) ∧ w'.cell? ⟨gA, oA + i * 3, none⟩ = some (.int .u64 (si : Int))) ?_
          change wpAnyH _ _ _ _ _ _ _ _ (w.drewN nq).drew
          cases fb with
          | false =>
            refine wpAnyH_takeB (i := 0) (v := ?_) (d := some 21) rfl (by rfl) (by kernel_rfl) (fun _ _ _ h => h) (by rfl) hS0 (fun w hSw => ?_) ?_
            rotate_left
            · (try dsimp only at hSw); (try subst hSw); go_simp; first | done | (with_reducible rfl)
            simp only [Act.put, List.setIfInBounds_toArray, List.set_cons_zero, List.set_cons_succ]
            refine wpAnyH_takeB (i := 1) (v := ?_) (d := some 22) rfl (by rfl) (by kernel_rfl) (fun _ _ _ h => h) (by rfl) hS0 (fun w hSw => ?_) ?_
            rotate_left
            · (try dsimp only at hSw); (try subst hSw); go_simp; first | done | (with_reducible rfl)
            simp only [Act.put, List.setIfInBounds_toArray, List.set_cons_zero, List.set_cons_succ]
            refine wpAnyH_skipC (i := 2) (d := some 23) rfl (by rfl) (by kernel_rfl) (fun _ _ _ h => h) (by rfl) hS0 ?_
            simp only [Act.put, List.setIfInBounds_toArray, List.set_cons_zero, List.set_cons_succ]
            refine wpAnyH_skipC (i := 3) (d := some 24) rfl (by rfl) (by kernel_rfl) (fun _ _ _ h => h) (by rfl) hS0 ?_
            simp only [Act.put, List.setIfInBounds_toArray, List.set_cons_zero, List.set_cons_succ]
            refine wpAnyH_skipC (i := 4) (d := some 25) rfl (by rfl) (by kernel_rfl) (fun _ _ _ h => h) (by rfl) hS0 ?_
            simp only [Act.put, List.setIfInBounds_toArray, List.set_cons_zero, List.set_cons_succ]
            refine wpAnyH_skipC (i := 5) (d := some 26) rfl (by rfl) (by kernel_rfl) (fun _ _ _ h => h) (by rfl) hS0 ?_
            simp only [Act.put, List.setIfInBounds_toArray, List.set_cons_zero, List.set_cons_succ]
            refine wpAnyH_skipC (i := 6) (d := some 27) rfl (by rfl) (by kernel_rfl) (fun _ _ _ h => h) (by rfl) hS0 ?_
            simp only [Act.put, List.setIfInBounds_toArray, List.set_cons_zero, List.set_cons_succ]
            refine wpAnyH_skipC (i := 7) (d := some 28) rfl (by rfl) (by kernel_rfl) (fun _ _ _ h => h) (by rfl) hS0 ?_
            simp only [Act.put, List.setIfInBounds_toArray, List.set_cons_zero, List.set_cons_succ]
            refine wpAnyH_skipC (i := 8) (d := some 29) rfl (by rfl) (by kernel_rfl) (fun _ _ _ h => h) (by rfl) hS0 ?_
            simp only [Act.put, List.setIfInBounds_toArray, List.set_cons_zero, List.set_cons_succ]
            refine wpAnyH_skipC (i := 9) (d := some 30) rfl (by rfl) (by kernel_rfl) (fun _ _ _ h => h) (by rfl) hS0 ?_
            simp only [Act.put, List.setIfInBounds_toArray, List.set_cons_zero, List.set_cons_succ]
            refine wpAnyH_skipC (i := 10) (d := some 31) rfl (by rfl) (by kernel_rfl) (fun _ _ _ h => h) (by rfl) hS0 ?_
            simp only [Act.put, List.setIfInBounds_toArray, List.set_cons_zero, List.set_cons_succ]
            refine wpAnyH_skipC (i := 11) (d := some 32) rfl (by rfl) (by kernel_rfl) (fun _ _ _ h => h) (by rfl) hS0 ?_
            simp only [Act.put, List.setIfInBounds_toArray, List.set_cons_zero, List.set_cons_succ]
            refine wpAnyH_skipC (i := 12) (d := some 33) rfl (by rfl) (by kernel_rfl) (fun _ _ _ h => h) (by rfl) hS0 ?_
            simp only [Act.put, List.setIfInBounds_toArray, List.set_cons_zero, List.set_cons_succ]
            refine wpAnyH_skipC (i := 13) (d := some 34) rfl (by rfl) (by kernel_rfl) (fun _ _ _ h => h) (by rfl) hS0 ?_
            simp only [Act.put, List.setIfInBounds_toArray, List.set_cons_zero, List.set_cons_succ]
            refine wpAnyH_skipC (i := 14) (d := some 35) rfl (by rfl) (by kernel_rfl) (fun _ _ _ h => h) (by rfl) hS0 ?_
            simp only [Act.put, List.setIfInBounds_toArray, List.set_cons_zero, List.set_cons_succ]
            refine wpAnyH_skipC (i := 15) (d := some 36) rfl (by rfl) (by kernel_rfl) (fun _ _ _ h => h) (by rfl) hS0 ?_
            simp only [Act.put, List.setIfInBounds_toArray, List.set_cons_zero, List.set_cons_succ]
            refine wpAnyH_skipC (i := 16) (d := some 37) rfl (by rfl) (by kernel_rfl) (fun _ _ _ h => h) (by rfl) hS0 ?_
            simp only [Act.put, List.setIfInBounds_toArray, List.set_cons_zero, List.set_cons_succ]
            refine wpAnyH_skipC (i := 17) (d := some 38) rfl (by rfl) (by kernel_rfl) (fun _ _ _ h => h) (by rfl) hS0 ?_
            simp only [Act.put, List.setIfInBounds_toArray, List.set_cons_zero, List.set_cons_succ]
            refine wpAnyH_skipC (i := 18) (d := some 39) rfl (by rfl) (by kernel_rfl) (fun _ _ _ h => h) (by rfl) hS0 ?_
            simp only [Act.put, List.setIfInBounds_toArray, List.set_cons_zero, List.set_cons_succ]
            refine wpAnyH_takeB (i := 19) (v := ?_) (d := some 40) rfl (by rfl) (by kernel_rfl) (fun _ _ _ h => h) (by rfl) hS0 (fun w hSw => ?_) ?_
            rotate_left
            · (try dsimp only at hSw); (try subst hSw); go_simp; first | done | (with_reducible rfl)
            simp only [Act.put, List.setIfInBounds_toArray, List.set_cons_zero, List.set_cons_succ]
            refine wpAnyH_oneB (i := 20) rfl (by kernel_rfl) (fun K hK => ?_)
            refine Eq.mpr (if_pos (by rfl)) ?_
            go_simp
            refine hK.out _ _ (hS0) ?_
            clear hK K
            try simp only [Act.put, List.setIfInBounds_toArray, List.set_cons_zero, List.set_cons_succ]
            refine wpAnyH_done (by kernel_rfl) ?_ _
            go_wp2
            go_roundg (gk - 1)
            case measure => omega
            case rel => exact ⟨j + 1, false, rfl, by rw [Int.natCast_add]; rfl, by omega, Lib.hid (by rw [HFB2.out]; rfl), nq + 1, rfl⟩
          | true =>
            refine wpAnyH_takeB (i := 0) (v := ?_) (d := some 21) rfl (by rfl) (by kernel_rfl) (fun _ _ _ h => h) (by rfl) hS0 (fun w hSw => ?_) ?_
            rotate_left
            · (try dsimp only at hSw); (try subst hSw); go_simp; first | done | (with_reducible rfl)
            simp only [Act.put, List.setIfInBounds_toArray, List.set_cons_zero, List.set_cons_succ]
            refine wpAnyH_takeB (i := 1) (v := ?_) (d := some 22) rfl (by rfl) (by kernel_rfl) (fun _ _ _ h => h) (by rfl) hS0 (fun w hSw => ?_) ?_
            rotate_left
            · (try dsimp only at hSw); (try subst hSw); go_simp; first | done | (with_reducible rfl)
            simp only [Act.put, List.setIfInBounds_toArray, List.set_cons_zero, List.set_cons_succ]
            refine wpAnyH_takeB (i := 2) (v := ?_) (d := some 23) rfl (by rfl) (by kernel_rfl) (fun _ _ _ h => h) (by rfl) hS0 (fun w hSw => ?_) ?_
            rotate_left
            · (try dsimp only at hSw); (try subst hSw); go_simp; first | done | (with_reducible rfl)
            simp only [Act.put, List.setIfInBounds_toArray, List.set_cons_zero, List.set_cons_succ]
            refine wpAnyH_takeB (i := 3) (v := ?_) (d := some 24) rfl (by rfl) (by kernel_rfl) (fun _ _ _ h => h) (by rfl) hS0 (fun w hSw => ?_) ?_
            rotate_left
            · (try dsimp only at hSw); (try subst hSw); go_simp; first | done | (with_reducible rfl)
            simp only [Act.put, List.setIfInBounds_toArray, List.set_cons_zero, List.set_cons_succ]
            refine wpAnyH_takeB (i := 4) (v := ?_) (d := some 25) rfl (by rfl) (by kernel_rfl) (fun _ _ _ h => h) (by rfl) hS0 (fun w hSw => ?_) ?_
            rotate_left
            · (try dsimp only at hSw); (try subst hSw); go_simp; first | done | (with_reducible rfl)
            simp only [Act.put, List.setIfInBounds_toArray, List.set_cons_zero, List.set_cons_succ]
            refine wpAnyH_takeB (i := 5) (v := ?_) (d := some 26) rfl (by rfl) (by kernel_rfl) (fun _ _ _ h => h) (by rfl) hS0 (fun w hSw => ?_) ?_
            rotate_left
            · (try dsimp only at hSw); (try subst hSw); go_simp; first | done | (with_reducible rfl)
            simp only [Act.put, List.setIfInBounds_toArray, List.set_cons_zero, List.set_cons_succ]
            refine wpAnyH_takeB (i := 6) (v := ?_) (d := some 27) rfl (by rfl) (by kernel_rfl) (fun _ _ _ h => h) (by rfl) hS0 (fun w hSw => ?_) ?_
            rotate_left
            · (try dsimp only at hSw); (try subst hSw); go_simp; first | done | (with_reducible rfl)
            simp only [Act.put, List.setIfInBounds_toArray, List.set_cons_zero, List.set_cons_succ]
            refine wpAnyH_takeB (i := 7) (v := ?_) (d := some 28) rfl (by rfl) (by kernel_rfl) (fun _ _ _ h => h) (by rfl) hS0 (fun w hSw => ?_) ?_
            rotate_left
            · (try dsimp only at hSw); (try subst hSw); go_simp; first | done | (with_reducible rfl)
            simp only [Act.put, List.setIfInBounds_toArray, List.set_cons_zero, List.set_cons_succ]
            refine wpAnyH_takeB (i := 8) (v := ?_) (d := some 29) rfl (by rfl) (by kernel_rfl) (fun _ _ _ h => h) (by rfl) hS0 (fun w hSw => ?_) ?_
            rotate_left
            · (try dsimp only at hSw); (try subst hSw); go_simp; first | done | (with_reducible rfl)
            simp only [Act.put, List.setIfInBounds_toArray, List.set_cons_zero, List.set_cons_succ]
            refine wpAnyH_takeB (i := 9) (v := ?_) (d := some 30) rfl (by rfl) (by kernel_rfl) (fun _ _ _ h => h) (by rfl) hS0 (fun w hSw => ?_) ?_
            rotate_left
            · (try dsimp only at hSw); (try subst hSw); go_simp; first | done | (with_reducible rfl)
            simp only [Act.put, List.setIfInBounds_toArray, List.set_cons_zero, List.set_cons_succ]
            refine wpAnyH_takeB (i := 10) (v := ?_) (d := some 31) rfl (by rfl) (by kernel_rfl) (fun _ _ _ h => h) (by rfl) hS0 (fun w hSw => ?_) ?_
            rotate_left
            · (try dsimp only at hSw); (try subst hSw); go_simp; first | done | (with_reducible rfl)
            simp only [Act.put, List.setIfInBounds_toArray, List.set_cons_zero, List.set_cons_succ]
            refine wpAnyH_takeB (i := 11) (v := ?_) (d := some 32) rfl (by rfl) (by kernel_rfl) (fun _ _ _ h => h) (by rfl) hS0 (fun w hSw => ?_) ?_
            rotate_left
            · (try dsimp only at hSw); (try subst hSw); go_simp; first | done | (with_reducible rfl)
            simp only [Act.put, List.setIfInBounds_toArray, List.set_cons_zero, List.set_cons_succ]
            refine wpAnyH_takeB (i := 12) (v := ?_) (d := some 33) rfl (by rfl) (by kernel_rfl) (fun _ _ _ h => h) (by rfl) hS0 (fun w hSw => ?_) ?_
            rotate_left
            · (try dsimp only at hSw); (try subst hSw); go_simp; first | done | (with_reducible rfl)
            simp only [Act.put, List.setIfInBounds_toArray, List.set_cons_zero, List.set_cons_succ]
            refine wpAnyH_takeB (i := 13) (v := ?_) (d := some 34) rfl (by rfl) (by kernel_rfl) (fun _ _ _ h => h) (by rfl) hS0 (fun w hSw => ?_) ?_
            rotate_left
            · (try dsimp only at hSw); (try subst hSw); go_simp; first | done | (with_reducible rfl)
            simp only [Act.put, List.setIfInBounds_toArray, List.set_cons_zero, List.set_cons_succ]
            refine wpAnyH_takeB (i := 14) (v := ?_) (d := some 35) rfl (by rfl) (by kernel_rfl) (fun _ _ _ h => h) (by rfl) hS0 (fun w hSw => ?_) ?_
            rotate_left
            · (try dsimp only at hSw); (try subst hSw); go_simp; first | done | (with_reducible rfl)
            simp only [Act.put, List.setIfInBounds_toArray, List.set_cons_zero, List.set_cons_succ]
            refine wpAnyH_takeB (i := 15) (v := ?_) (d := some 36) rfl (by rfl) (by kernel_rfl) (fun _ _ _ h => h) (by rfl) hS0 (fun w hSw => ?_) ?_
            rotate_left
            · (try dsimp only at hSw); (try subst hSw); go_simp; first | done | (with_reducible rfl)
            simp only [Act.put, List.setIfInBounds_toArray, List.set_cons_zero, List.set_cons_succ]
            refine wpAnyH_takeB (i := 16) (v := ?_) (d := some 37) rfl (by rfl) (by kernel_rfl) (fun _ _ _ h => h) (by rfl) hS0 (fun w hSw => ?_) ?_
            rotate_left
            · (try dsimp only at hSw); (try subst hSw); go_simp; first | done | (with_reducible rfl)
            simp only [Act.put, List.setIfInBounds_toArray, List.set_cons_zero, List.set_cons_succ]
            refine wpAnyH_takeB (i := 17) (v := ?_) (d := some 38) rfl (by rfl) (by kernel_rfl) (fun _ _ _ h => h) (by rfl) hS0 (fun w hSw => ?_) ?_
            rotate_left
            · (try dsimp only at hSw); (try subst hSw); go_simp; first | done | (with_reducible rfl)
            simp only [Act.put, List.setIfInBounds_toArray, List.set_cons_zero, List.set_cons_succ]
            by_cases h1 : sj = si
            · subst h1
              refine wpAnyH_takeB (i := 18) (v := .bool false) (d := some 39) rfl (by rfl) (by kernel_rfl) (fun _ _ _ h => h) (by rfl) hS0 (fun w hSw => by go_simp) ?_
              simp only [Act.put, List.setIfInBounds_toArray, List.set_cons_zero, List.set_cons_succ]
              refine wpAnyH_takeB (i := 19) (v := ?_) (d := some 40) rfl (by rfl) (by kernel_rfl) (fun _ _ _ h => h) (by rfl) hS0 (fun w hSw => ?_) ?_
              rotate_left
              · (try dsimp only at hSw); (try subst hSw); go_simp; first | done | (with_reducible rfl)
              simp only [Act.put, List.setIfInBounds_toArray, List.set_cons_zero, List.set_cons_succ]
              refine wpAnyH_oneB (i := 20) rfl (by kernel_rfl) (fun K hK => ?_)
              refine Eq.mpr (if_pos (by rfl)) ?_
              go_simp
              refine hK.out _ _ (hS0) ?_
              clear hK K
              try simp only [Act.put, List.setIfInBounds_toArray, List.set_cons_zero, List.set_cons_succ]
              refine wpAnyH_done (by kernel_rfl) ?_ _
              go_wp2
              go_roundg (gk - 1)
              case measure => omega
              case rel => exact ⟨j + 1, false, rfl, by rw [Int.natCast_add]; rfl, by omega, Lib.hid (by rw [HFB2.out]; simp), nq + 1, rfl⟩
            · have h1i : ¬ (sj : Int) = (si : Int) := by omega
              refine wpAnyH_takeB (i := 18) (v := .bool true) (d := some 39) rfl (by rfl) (by kernel_rfl) (fun _ _ _ h => h) (by rfl) hS0 (fun w hSw => by go_simp) ?_
              simp only [Act.put, List.setIfInBounds_toArray, List.set_cons_zero, List.set_cons_succ]
              refine wpAnyH_takeB (i := 19) (v := ?_) (d := some 40) rfl (by rfl) (by kernel_rfl) (fun _ _ _ h => h) (by rfl) hS0 (fun w hSw => ?_) ?_
              rotate_left
              · (try dsimp only at hSw); (try subst hSw); go_simp; first | done | (with_reducible rfl)
              simp only [Act.put, List.setIfInBounds_toArray, List.set_cons_zero, List.set_cons_succ]
              refine wpAnyH_oneB (i := 20) rfl (by kernel_rfl) (fun K hK => ?_)
              refine Eq.mpr (if_pos (by rfl)) ?_
              go_simp
              refine hK.out _ _ (hS0) ?_
              clear hK K
              try simp only [Act.put, List.setIfInBounds_toArray, List.set_cons_zero, List.set_cons_succ]
              refine wpAnyH_done (by kernel_rfl) ?_ _
              go_wp2
              go_roundg (gk - 1)
              case measure => omega
              case rel => exact ⟨j + 1, true, rfl, by rw [Int.natCast_add]; rfl, by omega, Lib.hid (by rw [HFB2.out]; simp [h1]), nq + 1, rfl⟩
        · have hjii : ¬ (j : Int) < (i : Int) := by omega
          obtain rfl : j = i := by omega
          have hfbe := hfb.out
          generalize (l.take j).any (fun z => decide (z.q.stream = si)) = an at *
          clear hfb
          cases fb with
          | false =>
            have hmt2 : manyTo E (l.take (j + 1)) = c := by
              rw [HTK.out, ← hcm.out]
              cases an with
              | true => rfl
              | false => cases hfbe
            clear hfbe
            have HMT2 := Lib.hid hmt2
            have HB := Lib.hid hb
            clear hmt2 hb
            go_wp2
            go_roundg (gko - 1)
            case measure => omega
            case rel => exact ⟨j + 1, c, rfl, by rw [Int.natCast_add]; rfl, by omega, by omega, Lib.hid HMT2.out.symm, nq, rfl⟩
          | true =>
            have han : an = false := by cases an with | false => rfl | true => cases hfbe
            subst han
            clear hfbe
            have hbs := HBL.out nq si
            have htk2 := HTK.out
            rw [if_neg (by simp), ← hcm.out] at htk2
            cases hsk : E.stuck si with
            | true =>
              rw [hsk] at hbs htk2
              rw [if_pos rfl] at htk2
              have HBS := Lib.hid hbs
              have HTK2 := Lib.hid htk2
              have HB := Lib.hid hb
              clear hbs htk2 hb
              go_wp2_with (fail)
              refine HBS.out.mono ?_
              rintro e w9 ⟨rfl, m, rfl⟩
              go_wp2
              go_roundg (gko - 1)
              case measure => omega
              case rel => exact ⟨j + 1, c + 1, by rw [Int.natCast_add]; rfl, by rw [Int.natCast_add]; rfl, by omega, by omega, Lib.hid HTK2.out.symm, nq + m, rfl⟩
            | false =>
              rw [hsk] at hbs htk2
              rw [if_neg (by simp), Nat.add_zero] at htk2
              have HBS := Lib.hid hbs
              have HTK2 := Lib.hid htk2
              have HB := Lib.hid hb
              clear hbs htk2 hb
              go_wp2_with (fail)
              refine HBS.out.mono ?_
              rintro e w9 ⟨rfl, m, rfl⟩
              go_wp2
              go_roundg (gko - 1)
              case measure => omega
              case rel => exact ⟨j + 1, c, rfl, by rw [Int.natCast_add]; rfl, by omega, by omega, Lib.hid HTK2.out.symm, nq + m, rfl⟩
    · have hili : ¬ (i : Int) < (l.length : Int) := by omega
      obtain rfl : i = l.length := by omega
      go_wp2
      go_ret
      refine ⟨?_, nq, rfl⟩
      have hh := hcm.out
      rw [List.take_length] at hh
      rw [HST.out, ← hh]
      rfl
end Go.Proofs.Ytdgggjeiflllhaa.M
namespace Go.Proofs.Ytdgggjeiflllhaa.M
open Go.ChangeShapes Go.WideShapes Go.ChangeAt Go.RowKit
theorem nm_get {w : World} {A : Option Addr} {l : List Nat} (h : Rd w A (nmC l)) (k : Nat) (hk : k < l.length) : ∃ g off, A = some ⟨g, off, none⟩ ∧ w.cell? ⟨g, off + k, none⟩ = some (.int .u64 (l[k] : Int)) := by
  obtain ⟨g, off, hA, hc⟩ := h.at_ (k := k) (by rw [nmC_len]; exact hk)
  refine ⟨g, off, hA, ?_⟩
  rw [hc]
  unfold nmC
  rw [List.getElem_map]
theorem not_in_take {l : List Nat} {p i : Nat} (h : ∀ y ∈ l.take i, y ≠ p) (hi : i < l.length) (hn : l[i] ≠ p) : ∀ y ∈ l.take (i + 1), y ≠ p := fun y hy => by
  rw [List.take_add_one, List.getElem?_eq_getElem hi] at hy
  rcases List.mem_append.1 hy with q | q
  · exact h y q
  · simp at q; rw [q]; exact hn
set_option maxRecDepth 100000 in
set_option maxHeartbeats 4000000 in
theorem opinned_any {X S : Nat → Prop} {w : World} {pe g co cr : Nat} {Ao Ar : Option Addr} {l : List Ou} {E : Qn} (h : OnM X w pe g S Ao co l Ar cr E) (p : Nat) (now : List Nat) (An : Option Addr) (cn : Nat) (hRn : Rd w An (nmC now)) (hnl : now.length ≤ 9223372036854775807) :
    Calls Try.prog 95 #[.pointer (some ⟨pe, 0, none⟩), .int .u64 (p : Int), .slice An now.length cn] w fun e w' => e = .returned (.bool (E.held now p)) ∧ w' = w := by
  obtain ⟨q, hq⟩ : ∃ q, q = E.held now p := ⟨_, rfl⟩
  rw [← hq]
  unfold Qn.held at hq
  have hb := h.blk
  have hy2 := hb.cell 2
  have hy3 := hb.cell 3
  simp only [List.getElem?_toArray, List.getElem?_cons_zero, List.getElem?_cons_succ] at hy2 hy3
  have hpl := hb.lt
  have hlm := Nat.le_trans h.oc h.om
  simp only [maxLen] at hlm
  have H := Lib.hid h
  have HB := Lib.hid hb
  have HQ := Lib.hid hq
  have HRN := Lib.hid hRn
  clear h hb hq hRn
  go_enter Try.func95, Try.ntmps95
  by_cases h1 : E.known ≤ p
  · have h1i : (E.known : Int) ≤ (p : Int) := by omega
    go_wp2
    go_ret
    refine ⟨?_, rfl⟩
    rw [HQ.out, decide_eq_true h1]
    rfl
  have h1i : ¬ (E.known : Int) ≤ (p : Int) := by omega
  go_wp2_with (fail)
  go_loopg [7] now.length (fun kk v wx => ∃ i : Nat, v = .int .i64 (i : Int) ∧ i + kk = now.length ∧ Hid (∀ y ∈ now.take i, y ≠ p) ∧ w = wx)
  case atStart => exact ⟨0, rfl, by omega, Lib.hid (fun y hy => by cases hy), rfl⟩
  case round =>
    obtain ⟨i, rfl, hi, hno, rfl⟩ := hrel
    by_cases hil : i < now.length
    · have hili : (i : Int) < (now.length : Int) := by omega
      obtain ⟨gA, oA, rfl, hc0⟩ := nm_get HRN.out i hil
      have hgl := World.block_lt_of_cell? _ _ hc0
      simp only at hgl
      by_cases hk : now[i] = p
      · have hmem : p ∈ now := hk ▸ List.getElem_mem hil
        rw [hk] at hc0
        clear hk
        have HMEM := Lib.hid hmem
        clear hmem
        go_wp2
        go_ret
        refine ⟨?_, rfl⟩
        rw [HQ.out, decide_eq_true HMEM.out, Bool.true_or, Bool.or_true]
        rfl
      · have hno2 := not_in_take hno.out hil hk
        generalize now[i] = y at *
        have hki : ¬ (y : Int) = (p : Int) := by omega
        have HNO2 := Lib.hid hno2
        clear hno2
        go_wp2
        go_roundg (gk - 1)
        case measure => omega
        case rel => exact ⟨i + 1, by rw [Int.natCast_add]; rfl, by omega, HNO2, rfl⟩
    · have hili : ¬ (i : Int) < (now.length : Int) := by omega
      obtain rfl : i = now.length := by omega
      have hno2 : p ∉ now := by
        have hh := hno.out
        rw [List.take_length] at hh
        exact fun e => hh p e rfl
      have hqq : q = l.any fun y => decide (p ∈ y.q.uses) := by
        rw [HQ.out, decide_eq_false h1, decide_eq_false hno2, Bool.false_or, Bool.false_or, ← H.out.same, List.any_map]
        rfl
      clear hno hno2 HQ hi
      have HQQ := Lib.hid hqq
      clear hqq
      go_wp2_with (fail)
      go_loopg [8] l.length (fun kk v wx => ∃ i : Nat, v = .int .i64 (i : Int) ∧ i + kk = l.length ∧ Hid (∀ y ∈ l.take i, p ∉ y.q.uses) ∧ w = wx)
      case atStart => exact ⟨0, rfl, by omega, Lib.hid (fun y hy => by cases hy), rfl⟩
      case round =>
        obtain ⟨i, rfl, hi, hno, rfl⟩ := hrel
        by_cases hil : i < l.length
        · have hili : (i : Int) < (l.length : Int) := by omega
          obtain ⟨gA, oA, rfl, hjunk⟩ := H.out.opn.rd.at_ (k := i * 3) (by rw [ocC_len]; omega)
          clear hjunk
          obtain ⟨_, _, hc2⟩ := ou_cells H.out.opn.rd i hil
          have hgl := World.block_lt_of_cell? _ _ hc2
          simp only at hgl
          have hus := H.out.use_ l[i] (List.getElem_mem hil)
          have htk : l.take (i + 1) = l.take i ++ [l[i]] := by rw [List.take_add_one, List.getElem?_eq_getElem hil]; rfl
          have hmem := List.getElem_mem hil
          generalize l[i] = y at *
          obtain ⟨⟨ys, yc, yu⟩, yA, yn⟩ := y
          simp only at hc2 hus
          obtain ⟨hRu, hul, hum⟩ := hus
          have hulm : yu.length ≤ 9223372036854775807 := by simp only [maxLen] at hum; omega
          obtain ⟨gko, hgko⟩ : ∃ m, m = gk := ⟨_, rfl⟩
          rw [← hgko] at hi
          clear hul hum
          have HTK := Lib.hid htk
          have HMEM := Lib.hid hmem
          have HRU := Lib.hid hRu
          have HNO := Lib.hid hno
          clear htk hmem hRu hno
          go_wp2_with (fail)
          go_loopg [9] yu.length (fun kk v wx => ∃ j : Nat, v = .int .i64 (j : Int) ∧ j + kk = yu.length ∧ Hid (∀ z ∈ yu.take j, z ≠ p) ∧ w = wx)
          case atStart => exact ⟨0, rfl, by omega, Lib.hid (fun y hy => by cases hy), rfl⟩
          case round =>
            obtain ⟨j, rfl, hj, hnz, rfl⟩ := hrel
            by_cases hjl : j < yu.length
            · have hjli : (j : Int) < (yu.length : Int) := by omega
              obtain ⟨gB, oB, rfl, hd0⟩ := nm_get HRU.out j hjl
              have hgm := World.block_lt_of_cell? _ _ hd0
              simp only at hgm
              by_cases hk : yu[j] = p
              · have hpm : p ∈ yu := hk ▸ List.getElem_mem hjl
                rw [hk] at hd0
                clear hk
                have HPM := Lib.hid hpm
                clear hpm
                go_wp2
                go_ret
                refine ⟨?_, rfl⟩
                suffices hs : (l.any fun y => decide (p ∈ y.q.uses)) = true by rw [HQQ.out, hs]; rfl
                exact List.any_eq_true.2 ⟨_, HMEM.out, decide_eq_true HPM.out⟩
              · have hnz2 := not_in_take hnz.out hjl hk
                generalize yu[j] = z at *
                have hki : ¬ (z : Int) = (p : Int) := by omega
                have HNZ2 := Lib.hid hnz2
                clear hnz2
                go_wp2
                go_roundg (gk - 1)
                case measure => omega
                case rel => exact ⟨j + 1, by rw [Int.natCast_add]; rfl, by omega, HNZ2, rfl⟩
            · have hjli : ¬ (j : Int) < (yu.length : Int) := by omega
              obtain rfl : j = yu.length := by omega
              have hno2 : ∀ z ∈ l.take (i + 1), p ∉ z.q.uses := fun z hz => by
                rw [HTK.out] at hz
                rcases List.mem_append.1 hz with q | q
                · exact HNO.out z q
                · rw [List.mem_singleton.1 q]
                  have hh := hnz.out
                  rw [List.take_length] at hh
                  exact fun e => hh p e rfl
              clear hnz hj
              have HNO2 := Lib.hid hno2
              clear hno2
              go_wp2
              go_roundg (gko - 1)
              case measure => omega
              case rel => exact ⟨i + 1, by rw [Int.natCast_add]; rfl, by omega, HNO2, rfl⟩
        · have hili : ¬ (i : Int) < (l.length : Int) := by omega
          obtain rfl : i = l.length := by omega
          go_wp2
          go_ret
          refine ⟨?_, rfl⟩
          have hh := hno.out
          rw [List.take_length] at hh
          rw [HQQ.out, any_take _ _ (fun y hy => by simpa using hh y hy)]
          rfl
theorem fldSize : (Try.prog.info? 71).map (·.size) = some 2 := by kernel_rfl
theorem run_cutf {o : Oper} {a : Act} {w : World} {x lo hi : Operand} {A : Option Addr} {n c i j : Nat} {u v : Int} (ho : o.op = .slice 30 x (some lo) (some hi) none) (hx : a.eval x = .slice A n c)
    (hlo : a.eval lo = .int .i64 u) (hhi : a.eval hi = .int .i64 v) (hu : u = (i : Int)) (hv : v = (j : Int)) (hij : i ≤ j) (hj : j ≤ c) :
    (execOp a.eval o).run Try.prog w = .ok (.value (.slice (if c = i then A else A.map (·.add (i * 2))) (j - i) (c - i))) w := by
  subst hu
  subst hv
  cases hi : Try.prog.info? 71 with
  | none => have := fldSize; rw [hi] at this; cases this
  | some q =>
    have hs := fldSize
    rw [hi] at hs
    have hs' : q.size = 2 := by simpa using hs
    unfold execOp
    have h3 : (0 : Int) ≤ (i : Int) := by omega
    have h4 : (0 : Int) ≤ (j : Int) := by omega
    simp only [ho, Option.map_some, Option.map_none, hlo, hhi, hx]
    simp [Instr.sliceAt, Instr.slice, Instr.sliceBounds, Instr.sliceBound, run_underlying Try.underlying30, sizeOf, typeInfo, hi, hs', asIntOf, h3, h4, hij, hj]
theorem rd_one {w : World} {g off : Nat} {l : List Fld} (h : Rd w (some ⟨g, off, none⟩) (fvs l)) (i : Nat) (hi : i < l.length) : Rd w (some ⟨g, off + i * 2, none⟩) (fvs [l[i]]) := by
  obtain ⟨h1, h2⟩ := fld_cells h i hi
  intro j u hu
  have hj : j = 0 ∨ j = 1 := by
    have := (List.getElem?_eq_some_iff.1 hu).1
    rw [fvs_length] at this
    simp at this
    omega
  rcases hj with rfl | rfl
  · refine ⟨g, off + i * 2, rfl, ?_⟩
    have : (fvs [l[i]])[0]? = some (str l[i].1) := rfl
    rw [this] at hu
    rw [← Option.some.inj hu]
    exact h1
  · refine ⟨g, off + i * 2, rfl, ?_⟩
    have : (fvs [l[i]])[1]? = some (str l[i].2) := rfl
    rw [this] at hu
    rw [← Option.some.inj hu]
    exact h2
set_option maxRecDepth 100000 in
set_option maxHeartbeats 4000000 in
theorem oroom_any {X S : Nat → Prop} {w : World} {pe g co cr : Nat} {Ao Ar : Option Addr} {l : List Ou} {E : Qn} (h : OnM X w pe g S Ao co l Ar cr E) (f : Fld) (hf : fsize f ≤ 1152921504606846976) (now : List Nat) (An : Option Addr) (cn : Nat) (hRn : Rd w An (nmC now)) (hnl : now.length ≤ 9223372036854775807) :
    Calls Try.prog 58 #[.pointer (some ⟨pe, 0, none⟩), fld f, .slice An now.length cn] w fun e w' => e = .returned (.bool (E.room E.t now f)) ∧ Frm (New w) w w' := by
  have hpi : ∀ w', Frm (New w) w w' → ∀ p : Nat, Calls Try.prog 95 #[.pointer (some ⟨pe, 0, none⟩), .int .u64 (p : Int), .slice An now.length cn] w' fun e w2 => e = .returned (.bool (E.held now p)) ∧ w2 = w' := fun w' fr p => opinned_any (h.fresh fr) p now An cn (hRn.fresh fr) hnl
  have hok := h.ok
  have hcp := h.cap
  have hnb := h.nb
  have hfs : ∀ w', Frm (New w) w w' → Calls Try.prog 94 #[.pointer (some ⟨g, 0, none⟩)] w' fun e w2 => e = .returned (.int .u64 (E.t.first : Nat)) ∧ ∃ k, w2 = w'.drewN k := fun w' fr => rtfirst_any w' (h.tab.fresh fr)
  obtain ⟨At, ct, hT⟩ := h.tab
  have hpw : ∀ w', Frm (New w) w w' → w'.cell? ⟨pe, 0, none⟩ = some (.pointer (some ⟨g, 0, none⟩)) ∧ w'.cell? ⟨g, 0, none⟩ = some (.slice At E.t.l.length ct) ∧ w'.cell? ⟨g, 1, none⟩ = some (.int .i64 E.t.cap) ∧ pe < w'.heap.size ∧ g < w'.heap.size := fun w' fr => ⟨(h.blk.fresh fr).cell 0, (hT.blk.fresh fr).cell 0, (hT.blk.fresh fr).cell 1, (h.blk.fresh fr).lt, (hT.blk.fresh fr).lt⟩
  have hRt : ∀ w', Frm (New w) w w' → Rd w' At (fvs E.t.l) := fun w' fr => hT.app.rd.fresh fr
  have hct : E.t.l.length ≤ ct := hT.app.cap
  obtain ⟨Q, hQ⟩ : ∃ Q, Q = E.room E.t now f := ⟨_, rfl⟩
  rw [← hQ]
  unfold Qn.room at hQ
  obtain ⟨f1, f2⟩ := f
  obtain ⟨fz, hfz⟩ : ∃ fz, fz = fsize (f1, f2) := ⟨_, rfl⟩
  have hsz : ∀ (x : Fld) (n : Nat) (g2 o2 c2 : Nat) w', n = fsize x → n ≤ 1152921504606846976 → Rd w' (some ⟨g2, o2, none⟩) (fvs [x]) → Calls Try.prog 86 #[.slice (some ⟨g2, o2, none⟩) 1 c2] w' fun e w2 => e = .returned (.int .i64 (n : Nat)) ∧ Frm (New w') w' w2 := fun x n g2 o2 c2 w' hn hl hr => by
    have h1 : fsizes [x] = n := by rw [hn]; simp [fsizes]
    have h2 := rsize_any [x] (some ⟨g2, o2, none⟩) c2 w' hr (by omega) (by simp)
    rw [h1] at h2
    refine h2.mono ?_
    rintro e w2 ⟨he, m, rfl⟩
    exact ⟨he, (Frm.refl _ _).drewN m⟩
  have hle := hok.le
  have hfit := hok.fits
  have hl32 := len_fsizes E.t.l
  have hsz0 : ∀ w', Frm (New w) w w' → Calls Try.prog 86 #[.slice At E.t.l.length ct] w' fun e w2 => e = .returned (.int .i64 (fsizes E.t.l : Nat)) ∧ Frm (New w') w' w2 := fun w' fr => by
    refine (rsize_any E.t.l At ct w' (hRt w' fr) (by omega) (by omega)).mono ?_
    rintro e w2 ⟨he, m, rfl⟩
    exact ⟨he, (Frm.refl _ _).drewN m⟩
  rw [← hfz] at hQ hf
  obtain ⟨sc, hsc⟩ : ∃ sc, sc = secret f1 := ⟨_, rfl⟩
  have hsa : ∀ w, Calls Try.prog 61 #[.string ⟨f1.toArray⟩] w fun e w' => e = .returned (.bool sc) ∧ w' = w := fun w => by rw [hsc]; exact rsecret_any f1 w
  simp only at hQ
  rw [← hsc] at hQ
  simp only [fld, str]
  obtain ⟨T, hT'⟩ : ∃ T, T = E.t := ⟨_, rfl⟩
  rw [← hT'] at hQ hok hcp hnb hfs hpw hRt hct hle hfit hl32 hsz0
  obtain ⟨fi, hfi⟩ : ∃ fi, fi = T.first := ⟨_, rfl⟩
  have hfn : fi + T.l.length = T.n := by rw [hfi]; unfold Tb.first; omega
  rw [← hfi] at hQ hfs
  obtain ⟨l, n, cap⟩ := T
  simp only at hQ hcp hnb hpw hRt hct hle hfit hl32 hsz0 hfn
  have hdv : Int.tdiv (cap : Int) 4 = ((cap / 4 : Nat) : Int) := by rw [Int.tdiv_eq_ediv_of_nonneg (by omega)]; omega
  obtain ⟨c4, hc4⟩ : ∃ c4, c4 = cap / 4 := ⟨_, rfl⟩
  have hc4l : c4 ≤ cap := by omega
  have hQ2 : Q = if sc = true ∨ c4 < fz then false else roomGo E now fz l fi (cap - fsizes l) := by rw [hQ, hc4]
  rw [← hc4] at hdv
  have hwc : IntKind.i64.wrap (c4 : Int) = c4 := IntWalk.i64_in _ (by omega)
  clear hQ
  have H := Lib.hid h
  have HPI := Lib.hid hpi
  have HOK := Lib.hid hok
  have HFS := Lib.hid hfs
  have HT := Lib.hid hT
  have HPW := Lib.hid hpw
  have HRT := Lib.hid hRt
  have HSZ := Lib.hid hsz
  have HSZ0 := Lib.hid hsz0
  have HSA := Lib.hid hsa
  have HFZ := Lib.hid hfz
  have HSC := Lib.hid hsc
  have HT' := Lib.hid hT'
  have HFI := Lib.hid hfi
  have HC4 := Lib.hid hc4
  have HQ2 := Lib.hid hQ2
  clear h hpi hok hfs hT hpw hRt hsz hsz0 hsa hfz hsc hT' hfi hc4 hQ2
  go_enter Try.func58, Try.ntmps58
  go_upto_region 1 with (fail)
  have hB1 := Blk.new w 71 #[.string ⟨f1.toArray⟩, .string ⟨f2.toArray⟩]
  have hF1 : Frm (New w) w (w.alloc (Obj.cells #[.string ⟨f1.toArray⟩, .string ⟨f2.toArray⟩] 71)) := (Frm.refl _ _).alloc Up.new _
  generalize w.alloc (Obj.cells #[.string ⟨f1.toArray⟩, .string ⟨f2.toArray⟩] 71) = w1 at *
  obtain ⟨bx, hbx⟩ : ∃ bx, bx = w.heap.size := ⟨_, rfl⟩
  rw [← hbx] at hB1 ⊢
  clear hbx
  have hx0 := hB1.cell 0
  have hx1 := hB1.cell 1
  simp only [List.getElem?_toArray, List.getElem?_cons_zero, List.getElem?_cons_succ] at hx0 hx1
  have hbl := hB1.lt
  have HB1 := Lib.hid hB1
  have HF1 := Lib.hid hF1
  clear hB1 hF1
  go_wp2_with (fail)
  have hF2 : Frm (New w1) w1 (w1.alloc (.cells #[.string ⟨f1.toArray⟩, .string ⟨f2.toArray⟩] 71)) := (Frm.refl (New w1) w1).alloc Up.new _
  have hR2 : Rd (w1.alloc (.cells #[.string ⟨f1.toArray⟩, .string ⟨f2.toArray⟩] 71)) (some ⟨w1.heap.size, 0, none⟩) (fvs [(f1, f2)]) := Rd.new w1 #[.string ⟨f1.toArray⟩, .string ⟨f2.toArray⟩] 71
  refine (HSZ.out (f1, f2) fz _ _ 1 _ HFZ.out hf hR2).mono ?_
  rintro e w3 ⟨rfl, hF3⟩
  have hF13 := hF2.then_new Up.new hF3
  have hF03 := HF1.out.then_new Up.new hF13
  have hB3 := HB1.out.fresh hF13
  clear hF2 hR2 hF3 hF13 HB1 HF1 hx0 hx1 hbl
  have hx0 := hB3.cell 0
  simp only [List.getElem?_toArray, List.getElem?_cons_zero] at hx0
  have hbl := hB3.lt
  obtain ⟨hp0, hp1, hp2, hpl, hel⟩ := HPW.out w3 hF03
  have HB3 := Lib.hid hB3
  have HF03 := Lib.hid hF03
  clear hB3 hF03
  go_wp2_with (fail)
  refine (HSA.out w3).mono ?_
  rintro e w4 ⟨rfl, hw4⟩
  rw [hw4]
  clear hw4 w4
  cases sc with
  | true =>
    go_wp2
    go_ret
    refine ⟨?_, HF03.out⟩
    rw [HQ2.out, if_pos (by simp)]
    rfl
  | false =>
    by_cases hq : c4 < fz
    · have hqi : (c4 : Int) < (fz : Int) := by omega
      go_wp2
      go_ret
      refine ⟨?_, HF03.out⟩
      rw [HQ2.out, if_pos (.inr hq)]
      rfl
    have hqi : ¬ (c4 : Int) < (fz : Int) := by omega
    have hR : Q = roomGo E now fz l fi (cap - fsizes l) := by rw [HQ2.out, if_neg (by simp [hq])]
    clear HQ2
    have HR := Lib.hid hR
    clear hR
    go_wp2_with (fail)
    refine (HSZ0.out w3 HF03.out).mono ?_
    rintro e w5 ⟨rfl, hF5⟩
    have hF05 := HF03.out.then_new Up.new hF5
    clear hF5 hp0 hp1 hp2 hpl hel hx0 hbl HB3 HF03 hqi
    have HF05 := Lib.hid hF05
    clear hF05
    go_wp2_with (fail)
    go_loopg [8, 9] l.length (fun kk v8 v9 wx => ∃ (i hv : Nat), v8 = .int .i64 (hv : Int) ∧ v9 = .int .i64 (i : Int) ∧ i + kk = l.length ∧ hv ≤ cap ∧ Hid (hv = fsizes (l.drop i)) ∧ Hid (Q = roomGo E now fz (l.drop i) (fi + i) (cap - hv)) ∧ Hid (Frm (New w) w wx))
    case atStart => exact ⟨0, fsizes l, rfl, rfl, by omega, hfit, Lib.hid (by rw [List.drop_zero]), Lib.hid (by rw [List.drop_zero, Nat.add_zero]; exact HR.out), HF05⟩
    case round =>
      clear HF05 HR HSZ0
      obtain ⟨i, hv, rfl, rfl, hi, hvc, hve, hRi, hF⟩ := hrel
      rename World => wx
      obtain ⟨hp0, hp1, hp2, hpl, hel⟩ := HPW.out wx hF.out
      have hws : IntKind.i64.wrap ((hv : Int) + (fz : Int)) = ((hv + fz : Nat) : Int) := by rw [IntWalk.i64_in _ (by omega)]; omega
      obtain ⟨sm, hsm⟩ : ∃ sm, sm = hv + fz := ⟨_, rfl⟩
      rw [← hsm] at hws
      by_cases hlt : cap < sm
      · have hlti : (cap : Int) < (sm : Int) := by omega
        have hil : i < l.length := by
          rcases Nat.lt_or_ge i l.length with q | q
          · exact q
          · exfalso
            have h1 := hve.out
            rw [List.drop_eq_nil_of_le q, fsizes_nil] at h1
            omega
        have hdr : l.drop i = l[i] :: l.drop (i + 1) := List.drop_eq_getElem_cons hil
        have hve2 := hve.out
        have hRi2 := hRi.out
        rw [hdr, fsizes_cons] at hve2
        rw [hdr, show ∀ x r, roomGo E now fz (x :: r) (fi + i) (cap - hv) = (if fz ≤ cap - hv then true else if E.held now (fi + i) then false else roomGo E now fz r (fi + i + 1) (cap - hv + fsize x)) from fun _ _ => rfl, if_neg (by omega)] at hRi2
        have hRx := HRT.out wx hF.out
        obtain ⟨gA, oA, rfl, hjunk⟩ := hRx.at_ (k := i * 2) (by rw [fvs_length]; omega)
        clear hjunk
        have hwi : IntKind.u64.wrap (i : Int) = (i : Int) := IntWalk.u64_in _ (by omega)
        have hwp : IntKind.u64.wrap ((fi : Int) + (i : Int)) = ((fi + i : Nat) : Int) := by rw [IntWalk.u64_in _ (by omega)]; omega
        have hwi1 : IntKind.i64.wrap ((i : Int) + 1) = ((i + 1 : Nat) : Int) := by rw [IntWalk.i64_in _ (by omega)]; omega
        obtain ⟨p, hp⟩ : ∃ p, p = fi + i := ⟨_, rfl⟩
        rw [← hp] at hRi2 hwp
        have hr1 : ∀ w', Frm (New w) w w' → Rd w' (some ⟨gA, oA + i * 2, none⟩) (fvs [l[i]]) := fun w' fr => rd_one (HRT.out w' fr) i hil
        obtain ⟨xz, hxz⟩ : ∃ xz, xz = fsize l[i] := ⟨_, rfl⟩
        rw [← hxz] at hRi2 hve2
        have hcut : (if ct = i then (some ⟨gA, oA, none⟩ : Option Addr) else (some ⟨gA, oA, none⟩ : Option Addr).map (·.add (i * 2))) = some ⟨gA, oA + i * 2, none⟩ := by
          rw [if_neg (by omega)]
          simp [Addr.add_lit]
        have hwh : IntKind.i64.wrap ((hv : Int) - (xz : Int)) = ((hv - xz : Nat) : Int) := by rw [IntWalk.i64_in _ (by omega)]; omega
        obtain ⟨hv2, hh2⟩ : ∃ m, m = hv - xz := ⟨_, rfl⟩
        rw [← hh2] at hwh
        have hv3 : hv2 = fsizes (l.drop (i + 1)) := by omega
        have hv4 : hv2 ≤ cap := by omega
        rw [show cap - hv + xz = cap - hv2 by omega, show p + 1 = fi + (i + 1) by omega] at hRi2
        have hxl : xz ≤ 1152921504606846976 := by omega
        clear hdr hRi hve hve2 hRx
        have HRI2 := Lib.hid hRi2
        have HR1 := Lib.hid hr1
        have HXZ := Lib.hid hxz
        have HH2 := Lib.hid hh2
        have HV3 := Lib.hid hv3
        have HP := Lib.hid hp
        have HSM := Lib.hid hsm
        have HCUT := Lib.hid hcut
        have HF := Lib.hid hF
        clear hRi2 hr1 hxz hh2 hv3 hp hsm hcut hF
        go_wp2_with (fail)
        refine (HFS.out wx HF.out).mono ?_
        rintro e w6 ⟨rfl, m6, hw6⟩
        have hF6 : Frm (New w) w w6 := by rw [hw6]; exact HF.out.drewN m6
        clear hw6 hp0 hp1 hp2 hpl hel
        obtain ⟨hp0, hp1, hp2, hpl, hel⟩ := HPW.out w6 hF6
        have HF6 := Lib.hid hF6
        clear hF6
        go_wp2_with (fail)
        refine (HPI.out w6 HF6.out p).mono ?_
        rintro e w7 ⟨rfl, hw7⟩
        rw [hw7]
        clear hw7 w7
        cases hhd : E.held now p with
        | true =>
          have HHD := Lib.hid hhd
          clear hhd
          go_wp2
          go_ret
          refine ⟨?_, HF6.out⟩
          rw [HRI2.out, HHD.out]
          rfl
        | false =>
          have HHD := Lib.hid hhd
          clear hhd
          go_wp2_with (refine wpList_val rfl (.slice (some ⟨gA, oA + i * 2, none⟩) 1 (ct - i)) (by rw [← HCUT.out, show (1 : Nat) = (i + 1) - i by omega]; exact run_cutf rfl rfl rfl rfl rfl rfl (by omega) (by omega)) ?_)
          refine (HSZ.out l[i] xz gA (oA + i * 2) (ct - i) w6 HXZ.out hxl (HR1.out w6 HF6.out)).mono ?_
          rintro e w9 ⟨rfl, hF9⟩
          have hF09 := HF6.out.then_new Up.new hF9
          have hq9 : Q = roomGo E now fz (l.drop (i + 1)) (fi + (i + 1)) (cap - hv2) := by rw [HRI2.out, HHD.out]; rfl
          clear hF9 hp0 hp1 hp2 hpl hel
          have HF09 := Lib.hid hF09
          have HQ9 := Lib.hid hq9
          clear hF09 hq9
          go_wp2
          go_roundg (gk - 1)
          case measure => omega
          case rel => exact ⟨i + 1, hv2, rfl, by rw [Int.natCast_add]; rfl, by omega, hv4, HV3, HQ9, HF09⟩
      · have hlti : ¬ (cap : Int) < (sm : Int) := by omega
        have hR0 : Q = true := by
          rw [hRi.out]
          cases l.drop i with
          | nil => exact decide_eq_true (by omega)
          | cons x r =>
            show (if fz ≤ cap - hv then true else _) = true
            rw [if_pos (by omega)]
        clear hRi hve
        have HR0 := Lib.hid hR0
        have HSM := Lib.hid hsm
        have HF := Lib.hid hF
        clear hR0 hsm hF
        go_wp2
        go_ret
        exact ⟨by rw [HR0.out]; rfl, HF.out⟩
end Go.Proofs.Ytdgggjeiflllhaa.M

