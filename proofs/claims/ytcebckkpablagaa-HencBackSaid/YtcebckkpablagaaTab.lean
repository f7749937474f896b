/- dyn.Table in memory. No condition. dyn.Table's readers: Find, Newest, Cap, Len, Count. No condition. dyn.New: a table that holds nothing. No condition but a size. -/
import Derived.Test.YtcebckkpablagaaTabp
import Derived.Test.YtcebckkpablagaaMap
import Derived.Test.YtcebckkpablagaaDyn
namespace Go.Proofs.Ytcebckkpablagaa.M
open Go.ChangeShapes Go.WideShapes Go.ChangeAt Go.RowKit

/-- the blocks of S, and all new ones -/
def Own (S : Nat → Prop) (w : World) (k : Nat) : Prop := S k ∨ w.heap.size ≤ k
theorem Own.up (S : Nat → Prop) (w : World) : Up (Own S w) w := fun _ h => .inr h

/-- a table at block g; its blocks all lie in S -/
structure TabAt (S : Nat → Prop) (w : World) (g : Nat) (l : List Fld) (n cap : Nat) (A : Option Addr) (c a b : Nat) (ew : List (Fld × Value)) (en : List (Bytes × Value)) : Prop where
  blk : Blk w g 103 #[.slice A l.length c, .int .u64 n, .int .i64 cap, .int .i64 (fsizes l : Nat), .map (some a), .map (some b)]
  mw : MapIs w a fld ew
  mn : MapIs w b str en
  app : App S w 30 2 A l.length c (fvs l)
  sg : S g
  sa : S a
  sb : S b
  low : ∀ k, S k → k < w.heap.size
  ab : a ≠ b
  ga : g ≠ a
  gb : g ≠ b
  gA : ∀ k, M.blk A = some k → k ≠ g ∧ k ≠ a ∧ k ≠ b
  iw : MapInv id (n - l.length) l ew
  im : MapInv Prod.fst (n - l.length) l en
  le : l.length ≤ n
  nb : n ≤ 1152921504606846976
  cb : cap ≤ 1152921504606846976
  fb : fsizes l ≤ 1152921504606846976

section
variable {S R M : Nat → Prop} {w w' : World} {g n cap c a b : Nat} {l : List Fld} {A : Option Addr} {ew : List (Fld × Value)} {en : List (Bytes × Value)}
/-- what writes elsewhere leaves a table -/
theorem TabAt.keep (h : TabAt S w g l n cap A c a b ew en) (f : Frm M w w') (hM : ∀ k, S k → ¬ M k) : TabAt S w' g l n cap A c a b ew en :=
  { h with
    blk := h.blk.keep f (hM _ h.sg)
    mw := h.mw.keep f (hM _ h.sa)
    mn := h.mn.keep f (hM _ h.sb)
    app := h.app.keep f (fun k hk => hM k (h.app.inM k hk))
    low := fun k hk => Nat.lt_of_lt_of_le (h.low k hk) f.size }
theorem TabAt.fresh (h : TabAt S w g l n cap A c a b ew en) (f : Frm (New w) w w') : TabAt S w' g l n cap A c a b ew en :=
  h.keep f (fun k hk c => by have := h.low k hk; unfold New at c; omega)
theorem TabAt.far (h : TabAt R w g l n cap A c a b ew en) (f : Frm (Own S w) w w') (hS : ∀ k, R k → ¬ S k) : TabAt R w' g l n cap A c a b ew en :=
  h.keep f (fun k hk c => by
    rcases c with c | c
    · exact hS k hk c
    · have := h.low k hk; omega)
theorem TabAt.drewN (h : TabAt S w g l n cap A c a b ew en) (k : Nat) : TabAt S (w.drewN k) g l n cap A c a b ew en := h.fresh ((Frm.refl _ _).drewN k)
theorem TabAt.drew (h : TabAt S w g l n cap A c a b ew en) : TabAt S w.drew g l n cap A c a b ew en := h.fresh ((Frm.refl _ _).drew)
end

/-- a slice without its first element -/
theorem App.tail {M : Nat → Prop} {w : World} {e size n c : Nat} {A : Option Addr} {xs : List Value} (h : App M w e size A (n + 1) c xs) :
    App M w e size (if c = 1 then A else A.map (·.add size)) n (c - 1) (xs.drop size) := by
  have hc := h.cap
  have hm := h.max
  refine ⟨by rw [List.length_drop, h.len, Nat.add_mul]; omega, by omega, by omega, fun hA => ?_, ?_, fun k hk => ?_, fun hn => ?_⟩
  · have : A = none := by
      split at hA
      · exact hA
      · cases A with
        | none => rfl
        | some x => cases hA
    have := h.nil_ this
    omega
  · intro j u hu
    rw [List.getElem?_drop] at hu
    obtain ⟨g, off, rfl, hx⟩ := h.rd _ u hu
    have h1 : size + j < xs.length := (List.getElem?_eq_some_iff.1 hu).1
    rw [h.len, Nat.add_mul, Nat.one_mul] at h1
    have hn0 : n ≠ 0 := fun e => by subst e; omega
    rw [if_neg (by omega)]
    exact ⟨g, off + size, by simp [Addr.add_lit], by rw [Nat.add_assoc]; exact hx⟩
  · refine h.inM k ?_
    split at hk
    · exact hk
    · cases A with
      | none => cases hk
      | some x =>
        have e : (x.add size).block = x.block := by unfold Addr.add; split <;> rfl
        rw [← hk]; exact congrArg some e.symm
  · obtain ⟨g, off, cur, rfl, h2, h3, h4⟩ := h.own (by omega)
    rw [if_neg (by omega)]
    refine ⟨g, off + size, cur, by simp [Addr.add_lit], h2, ?_, h4⟩
    rw [Nat.add_assoc, Nat.add_comm size, ← Nat.succ_mul]
    rw [show Nat.succ (c - 1) = c from by omega]
    exact h3

/-- x[1:] -/
theorem run_tail {P : Program} {o : Oper} {a : Act} {w : World} {t e : TypeId} {x : Operand} {A : Option Addr} {n c size : Nat} (ho : o.op = .slice t x (some (.const (.int .i64 1))) none none) (hx : a.eval x = .slice A (n + 1) c) (hc : n + 1 ≤ c)
    (ht : P.underlying t = some (.slice e)) (hs : (P.info? e).map (·.size) = some size) :
    (execOp a.eval o).run P w = .ok (.value (.slice (if c = 1 then A else A.map (·.add size)) n (c - 1))) w := by
  cases hi : P.info? e with
  | none => rw [hi] at hs; cases hs
  | some i =>
    rw [hi] at hs
    have hs' : i.size = size := by simpa using hs
    subst hs'
    unfold execOp
    have h1 : (1 : Int) ≤ c := by omega
    have h2 : (1 : Int) ≤ n + 1 := by omega
    have hk : a.eval (.const (.int .i64 1)) = .int .i64 1 := rfl
    simp only [ho, Option.map_some, Option.map_none, hk, hx]
    simp [Instr.sliceAt, Instr.slice, Instr.sliceBounds, Instr.sliceBound, run_underlying ht, sizeOf, typeInfo, hi, asIntOf, h2]

set_option maxRecDepth 100000 in
set_option maxHeartbeats 1000000 in
theorem tfirst_any (A : Option Addr) (g m c n : Nat) (w : World) (hd0 : w.cell? ⟨g, 0, none⟩ = some (.slice A m c)) (hd1 : w.cell? ⟨g, 1, none⟩ = some (.int .u64 n)) (hm : m ≤ n) (hn : n ≤ 1152921504606846976) :
    Calls Try.prog 95 #[.pointer (some ⟨g, 0, none⟩)] w fun e w' => e = .returned (.int .u64 ((n - m : Nat) : Int)) ∧ ∃ k, w' = w.drewN k := by
  have hl : g < w.heap.size := World.block_lt_of_cell? _ _ hd0
  go_enter Try.func95, Try.ntmps95
  go_wp2
  go_quiet (fail)
  go_wp2
  go_ret
  refine ⟨?_, _, rfl⟩
  refine ret_int ?_
  omega
end Go.Proofs.Ytcebckkpablagaa.M
namespace Go.Proofs.Ytcebckkpablagaa.M
open Go.ChangeShapes Go.WideShapes Go.ChangeAt Go.RowKit

section
variable {S : Nat → Prop} {g n cap c a b : Nat} {l : List Fld} {A : Option Addr} {ew : List (Fld × Value)} {en : List (Bytes × Value)}

set_option maxRecDepth 100000 in
theorem tcap_any (w : World) (h : TabAt S w g l n cap A c a b ew en) :
    Calls Try.prog 29 #[.pointer (some ⟨g, 0, none⟩)] w fun e w' => e = .returned (.int .i64 cap) ∧ w' = w := by
  have hd := h.blk.cell 2
  have hl : g < w.heap.size := h.blk.lt
  simp only [List.getElem?_toArray, List.getElem?_cons_zero, List.getElem?_cons_succ] at hd
  clear h
  go_enter Try.func29, Try.ntmps29
  go_wp2
  go_ret
  exact ⟨rfl, rfl⟩
set_option maxRecDepth 100000 in
theorem tcount_any (w : World) (h : TabAt S w g l n cap A c a b ew en) :
    Calls Try.prog 28 #[.pointer (some ⟨g, 0, none⟩)] w fun e w' => e = .returned (.int .u64 n) ∧ w' = w := by
  have hd := h.blk.cell 1
  have hl : g < w.heap.size := h.blk.lt
  simp only [List.getElem?_toArray, List.getElem?_cons_zero, List.getElem?_cons_succ] at hd
  clear h
  go_enter Try.func28, Try.ntmps28
  go_wp2
  go_ret
  exact ⟨rfl, rfl⟩
set_option maxRecDepth 100000 in
theorem tlen_any (w : World) (h : TabAt S w g l n cap A c a b ew en) :
    Calls Try.prog 23 #[.pointer (some ⟨g, 0, none⟩)] w fun e w' => e = .returned (.int .i64 (l.length : Nat)) ∧ w' = w := by
  have hd := h.blk.cell 0
  have hl : g < w.heap.size := h.blk.lt
  simp only [List.getElem?_toArray, List.getElem?_cons_zero] at hd
  clear h
  go_enter Try.func23, Try.ntmps23
  go_wp2
  go_ret
  exact ⟨rfl, rfl⟩

set_option maxRecDepth 100000 in
set_option maxHeartbeats 1000000 in
theorem tfind_any (f : Fld) (w : World) (h : TabAt S w g l n cap A c a b ew en) :
    Calls Try.prog 94 #[.pointer (some ⟨g, 0, none⟩), fld f] w fun e w' =>
      e = .returned (.tuple #[.int .u64 (Tb.find ⟨l, n, cap⟩ f).1, .bool (Tb.find ⟨l, n, cap⟩ f).2.1, .bool (Tb.find ⟨l, n, cap⟩ f).2.2]) ∧ Frm (New w) w w' := by
  obtain ⟨f1, f2⟩ := f
  have hgw := h.iw.2 (f1, f2)
  have hgn := h.im.2 f1
  have HE : Hid (Tb.find ⟨l, n, cap⟩ (f1, f2) = (match lastAt id (f1, f2) (n - l.length) l with
    | some i => (i, true, true)
    | none => match lastAt Prod.fst f1 (n - l.length) l with
      | some i => (i, true, false)
      | none => (0, false, false))) := rfl
  generalize Tb.find ⟨l, n, cap⟩ (f1, f2) = R at *
  generalize lastAt id (f1, f2) (n - l.length) l = o1 at *
  generalize lastAt Prod.fst f1 (n - l.length) l = o2 at *
  have H := Lib.hid h
  have HW := Lib.hid hgw
  have HN := Lib.hid hgn
  clear h hgw hgn
  simp only [fld, str]
  go_enter Try.func94, Try.ntmps94
  go_wp2
  have HB : Blk (w.alloc (Obj.cells #[Value.string { data := List.toArray f1 }, Value.string { data := List.toArray f2 }] 30)) w.heap.size 30 #[Value.string { data := List.toArray f1 }, Value.string { data := List.toArray f2 }] := Blk.new w _ _
  have H0 : Frm (New w) w (w.alloc (Obj.cells #[Value.string { data := List.toArray f1 }, Value.string { data := List.toArray f2 }] 30)) := (Frm.refl _ _).alloc Up.new _
  have H1 := H.out.fresh H0
  generalize w.alloc (Obj.cells #[Value.string { data := List.toArray f1 }, Value.string { data := List.toArray f2 }] 30) = w1 at *
  generalize hb : w.heap.size = bx at *
  have hx1 := HB.cell 0
  have hx2 := HB.cell 1
  have hb1 : bx < w1.heap.size := HB.lt
  have hd4 := H1.blk.cell 4
  have hd5 := H1.blk.cell 5
  have hl : g < w1.heap.size := H1.blk.lt
  simp only [List.getElem?_toArray, List.getElem?_cons_zero, List.getElem?_cons_succ] at hd4 hd5 hx1 hx2
  have hlw := fun q : Nat => run_lookup fkey (M := 100) (E := 41) Try.underlying100 (z := .int .u64 0) (by kernel_rfl) (H1.mw.fresh ((Frm.refl _ _).drewN q)) (f1, f2) true
  have hln := fun q : Nat => run_lookup skey (M := 101) (E := 41) Try.underlying101 (z := .int .u64 0) (by kernel_rfl) (H1.mn.fresh ((Frm.refl _ _).drewN q)) f1 true
  simp only [fld, str, HW.out, if_true] at hlw
  simp only [str, HN.out, if_true] at hln
  have H0 := Lib.hid H0
  clear HB H1 H HW HN hb
  cases o1 with
  | some i =>
    clear hln
    simp only [Option.bind_eq_bind, Option.bind_some, Option.pure_def, Option.map_some, Option.getD_some, Option.isSome_some] at hlw
    have HR : Hid (R = (i, true, true)) := HE.out
    clear HE
    go_quiet (fail)
    go_wp2
    refine bodyPost_ret (v := .tuple #[.int .u64 i, .bool true, .bool true]) (by simp [results, Try.results94, go_sem]) rfl ?_
    rw [HR.out]
    exact ⟨rfl, H0.out.drewN _⟩
  | none =>
    simp only [Option.bind_eq_bind, Option.bind_none, Option.map_none, Option.getD_none, Option.isSome_none] at hlw
    cases o2 with
    | some i =>
      simp only [Option.bind_eq_bind, Option.bind_some, Option.pure_def, Option.map_some, Option.getD_some, Option.isSome_some] at hln
      have HR : Hid (R = (i, true, false)) := HE.out
      clear HE
      go_quiet (fail)
      go_wp2
      go_quiet (fail)
      go_wp2
      refine bodyPost_ret (v := .tuple #[.int .u64 i, .bool true, .bool false]) (by simp [results, Try.results94, go_sem]) rfl ?_
      rw [HR.out]
      exact ⟨rfl, (H0.out.drewN _).drewN _⟩
    | none =>
      simp only [Option.bind_eq_bind, Option.bind_none, Option.map_none, Option.getD_none, Option.isSome_none] at hln
      have HR : Hid (R = (0, false, false)) := HE.out
      clear HE
      go_quiet (fail)
      go_wp2
      go_quiet (fail)
      go_wp2
      refine bodyPost_ret (v := .tuple #[.int .u64 0, .bool false, .bool false]) (by simp [results, Try.results94, go_sem]) rfl ?_
      rw [HR.out]
      exact ⟨rfl, (H0.out.drewN _).drewN _⟩
end
end Go.Proofs.Ytcebckkpablagaa.M
namespace Go.Proofs.Ytcebckkpablagaa.M
open Go.ChangeShapes Go.WideShapes Go.ChangeAt Go.RowKit

theorem tnew_any (c : Nat) (hc : c ≤ 1152921504606846976) (w : World) :
    Calls Try.prog 50 #[.int .i64 c] w fun e w' => ∃ (S : Nat → Prop) (g a b : Nat), e = .returned (.pointer (some ⟨g, 0, none⟩)) ∧ TabAt S w' g [] 0 c none 0 a b [] [] ∧ Frm (New w) w w' ∧ ∀ k, S k → w.heap.size ≤ k := by
  refine (dnew_any c (by omega) w).mono ?_
  rintro e w' ⟨g, a, b, rfl, h1, h2, h3, hb, hm, hn, hF⟩
  refine ⟨fun k => k = g ∨ k = a ∨ k = b, g, a, b, rfl, ⟨hb, hm, hn, App.none_, .inl rfl, .inr (.inl rfl), .inr (.inr rfl), ?_, by omega, by omega, by omega, fun k hk => (by cases hk), MapInv.nil _ _, MapInv.nil _ _, Nat.le_refl _, Nat.zero_le _, hc, Nat.zero_le _⟩, hF, ?_⟩
  · rintro k (rfl | rfl | rfl)
    · exact hb.lt
    · exact hm.lt
    · exact hn.lt
  · rintro k (rfl | rfl | rfl) <;> omega
end Go.Proofs.Ytcebckkpablagaa.M
