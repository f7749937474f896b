/- dyn.Table in memory. No condition. -/
import Derived.Test.YtcebckkpablagaaTabp
import Derived.Test.YtcebckkpablagaaMapb
namespace Go.Proofs.Ytcebckkpablagaa.M
open Go.ChangeShapes Go.WideShapes Go.ChangeAt Go.RowKit

/-- the blocks of S, and all new ones -/
def Own (S : Nat → Prop) (w : World) (k : Nat) : Prop := S k ∨ w.heap.size ≤ k
theorem Own.up (S : Nat → Prop) (w : World) : Up (Own S w) w := fun _ h => .inr h

/-- a table at block g; its blocks all lie in S -/
structure TabAt (S : Nat → Prop) (w : World) (g : Nat) (l : List Fld) (n cap : Nat) (A : Option Addr) (c a b : Nat) (ew : List (Fld × Value)) (en : List (Bytes × Value)) : Prop where
  blk : Blk w g 103 #[.slice A l.length c, .int .u64 n, .int .i64 cap, .int .i64 (fsizes l : Nat), .map (some a), .map (some b)]
  mw : MapIs w a fld ew
  mn : MapIs w b str en
  app : App S w 30 2 A l.length c (fvs l)
  sg : S g
  sa : S a
  sb : S b
  low : ∀ k, S k → k < w.heap.size
  ab : a ≠ b
  ga : g ≠ a
  gb : g ≠ b
  gA : ∀ k, M.blk A = some k → k ≠ g ∧ k ≠ a ∧ k ≠ b
  iw : MapInv id (n - l.length) l ew
  im : MapInv Prod.fst (n - l.length) l en
  le : l.length ≤ n
  nb : n ≤ 1152921504606846976
  cb : cap ≤ 1152921504606846976
  fb : fsizes l ≤ 1152921504606846976

section
variable {S R M : Nat → Prop} {w w' : World} {g n cap c a b : Nat} {l : List Fld} {A : Option Addr} {ew : List (Fld × Value)} {en : List (Bytes × Value)}
/-- what writes elsewhere leaves a table -/
theorem TabAt.keep (h : TabAt S w g l n cap A c a b ew en) (f : Frm M w w') (hM : ∀ k, S k → ¬ M k) : TabAt S w' g l n cap A c a b ew en :=
  { h with
    blk := h.blk.keep f (hM _ h.sg)
    mw := h.mw.keep f (hM _ h.sa)
    mn := h.mn.keep f (hM _ h.sb)
    app := h.app.keep f (fun k hk => hM k (h.app.inM k hk))
    low := fun k hk => Nat.lt_of_lt_of_le (h.low k hk) f.size }
theorem TabAt.fresh (h : TabAt S w g l n cap A c a b ew en) (f : Frm (New w) w w') : TabAt S w' g l n cap A c a b ew en :=
  h.keep f (fun k hk c => by have := h.low k hk; unfold New at c; omega)
theorem TabAt.far (h : TabAt R w g l n cap A c a b ew en) (f : Frm (Own S w) w w') (hS : ∀ k, R k → ¬ S k) : TabAt R w' g l n cap A c a b ew en :=
  h.keep f (fun k hk c => by
    rcases c with c | c
    · exact hS k hk c
    · have := h.low k hk; omega)
theorem TabAt.drewN (h : TabAt S w g l n cap A c a b ew en) (k : Nat) : TabAt S (w.drewN k) g l n cap A c a b ew en := h.fresh ((Frm.refl _ _).drewN k)
theorem TabAt.drew (h : TabAt S w g l n cap A c a b ew en) : TabAt S w.drew g l n cap A c a b ew en := h.fresh ((Frm.refl _ _).drew)
end

/-- a slice without its first element -/
theorem App.tail {M : Nat → Prop} {w : World} {e size n c : Nat} {A : Option Addr} {xs : List Value} (h : App M w e size A (n + 1) c xs) :
    App M w e size (if c = 1 then A else A.map (·.add size)) n (c - 1) (xs.drop size) := by
  have hc := h.cap
  have hm := h.max
  refine ⟨by rw [List.length_drop, h.len, Nat.add_mul]; omega, by omega, by omega, fun hA => ?_, ?_, fun k hk => ?_, fun hn => ?_⟩
  · have : A = none := by
      split at hA
      · exact hA
      · cases A with
        | none => rfl
        | some x => cases hA
    have := h.nil_ this
    omega
  · intro j u hu
    rw [List.getElem?_drop] at hu
    obtain ⟨g, off, rfl, hx⟩ := h.rd _ u hu
    have h1 : size + j < xs.length := (List.getElem?_eq_some_iff.1 hu).1
    rw [h.len, Nat.add_mul, Nat.one_mul] at h1
    have hn0 : n ≠ 0 := fun e => by subst e; omega
    rw [if_neg (by omega)]
    exact ⟨g, off + size, by simp [Addr.add_lit], by rw [Nat.add_assoc]; exact hx⟩
  · refine h.inM k ?_
    split at hk
    · exact hk
    · cases A with
      | none => cases hk
      | some x =>
        have e : (x.add size).block = x.block := by unfold Addr.add; split <;> rfl
        rw [← hk]; exact congrArg some e.symm
  · obtain ⟨g, off, cur, rfl, h2, h3, h4⟩ := h.own (by omega)
    rw [if_neg (by omega)]
    refine ⟨g, off + size, cur, by simp [Addr.add_lit], h2, ?_, h4⟩
    rw [Nat.add_assoc, Nat.add_comm size, ← Nat.succ_mul]
    rw [show Nat.succ (c - 1) = c from by omega]
    exact h3

/-- x[1:] -/
theorem run_tail {P : Program} {o : Oper} {a : Act} {w : World} {t e : TypeId} {x : Operand} {A : Option Addr} {n c size : Nat} (ho : o.op = .slice t x (some (.const (.int .i64 1))) none none) (hx : a.eval x = .slice A (n + 1) c) (hc : n + 1 ≤ c)
    (ht : P.underlying t = some (.slice e)) (hs : (P.info? e).map (·.size) = some size) :
    (execOp a.eval o).run P w = .ok (.value (.slice (if c = 1 then A else A.map (·.add size)) n (c - 1))) w := by
  cases hi : P.info? e with
  | none => rw [hi] at hs; cases hs
  | some i =>
    rw [hi] at hs
    have hs' : i.size = size := by simpa using hs
    subst hs'
    unfold execOp
    have h1 : (1 : Int) ≤ c := by omega
    have h2 : (1 : Int) ≤ n + 1 := by omega
    have hk : a.eval (.const (.int .i64 1)) = .int .i64 1 := rfl
    simp only [ho, Option.map_some, Option.map_none, hk, hx]
    simp [Instr.sliceAt, Instr.slice, Instr.sliceBounds, Instr.sliceBound, run_underlying ht, sizeOf, typeInfo, hi, asIntOf, h2]

set_option maxRecDepth 100000 in
set_option maxHeartbeats 1000000 in
theorem tfirst_any (A : Option Addr) (g m c n : Nat) (w : World) (hd0 : w.cell? ⟨g, 0, none⟩ = some (.slice A m c)) (hd1 : w.cell? ⟨g, 1, none⟩ = some (.int .u64 n)) (hm : m ≤ n) (hn : n ≤ 1152921504606846976) :
    Calls Try.prog 95 #[.pointer (some ⟨g, 0, none⟩)] w fun e w' => e = .returned (.int .u64 ((n - m : Nat) : Int)) ∧ ∃ k, w' = w.drewN k := by
  have hl : g < w.heap.size := World.block_lt_of_cell? _ _ hd0
  go_enter Try.func95, Try.ntmps95
  go_wp2
  go_quiet (fail)
  go_wp2
  go_ret
  refine ⟨?_, _, rfl⟩
  refine ret_int ?_
  omega
end Go.Proofs.Ytcebckkpablagaa.M
