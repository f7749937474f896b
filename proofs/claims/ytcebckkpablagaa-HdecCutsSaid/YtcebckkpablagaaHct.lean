/- bifoldlaw6.HdecCuts: for every input it tells true. No condition. -/
import Derived.Deep.CutBlock
import Derived.BigQuiet
import Derived.Test.YtcebckkpablagaaTwo
import Derived.Test.YtcebckkpablagaaKn6
import Derived.Test.YtcebckkpablagaaHpl
import Derived.Test.YtcebckkpablagaaBy
import Derived.Test.YtcebckkpablagaaPin
import Derived.Test.YtcebckkpablagaaHzs
import Derived.Test.YtcebckkpablagaaMap
namespace Go.Proofs.Ytcebckkpablagaa.M
open Go.ChangeShapes Go.WideShapes Go.ChangeAt Go.RowKit

theorem check_int (P : Program) (T : TypeId) (n : Nat) (e : Bool) (q : Int) (w : World) (h : P.underlying T = some (.int .i64)) : (Instr.checkKey e (n + 1) T (.int .i64 q)).run P w = .ok () w := by
  simp [Instr.checkKey, run_underlying h]
theorem ikey : KeyLaw Try.prog 3 (fun q : Nat => Value.int .i64 (q : Int)) where
  check := fun e k w => check_int _ _ 9999 e k w Try.underlying3
  find := find_now (enc := fun q : Nat => Value.int .i64 (q : Int)) Try.underlying3 (fun a b => by
    simp only [Instr.sameNow]
    by_cases h : a = b
    · subst h; simp
    · have h2 : ¬ ((a : Int) = (b : Int)) := by omega
      simp [h, h2])
  same := fun k => by
    show ((IntKind.i64 == IntKind.i64) && ((k : Int) == (k : Int))) = true
    simp
section
variable {κ : Type} [DecidableEq κ] {P : Program} {enc : κ → Value} {T : TypeId} {w : World} {b : Nat} {ents : List (κ × Value)} {ops : Array Oper} {rest : List Oper} {o : Oper} {a : Act} {Q : Exit → Act → World → Prop}
/-- a pair of a map's literal -/
theorem wpList_insert (K : KeyLaw P T enc) {M E : TypeId} (hM : P.underlying M = some (.map T E)) (hgd : o.guard = none) {x y v : Operand} (ho : o.op = .insert M x y v)
    (hx : a.eval x = .map (some b)) {k : κ} (hy : a.eval y = enc k) (h : MapIs w b enc ents)
    (hK : ∀ w', MapIs w' b enc (putE k (a.eval v) ents) → Frm (· = b) w w' → w'.heap.size = w.heap.size → wpList P ops Q rest (a.put o.dst undef) w') : wpList P ops Q (o :: rest) a w := by
  refine wpList_plain hgd fun _ hKK => ?_
  obtain ⟨w', hr, h1, h2, h3⟩ := run_update K hM h k (a.eval v)
  unfold Oper.wp execOp
  simp only [ho, hx, hy, Sem.run_bind, hr, Result.andThen_ok, Sem.run_pure]
  exact hKK _ _ (hK _ h1 h2 h3)
end
/-- x[:j] of bytes -/
theorem run_to {o : Oper} {a : Act} {w : World} {x hi : Operand} {A : Option Addr} {n c j : Nat} {v : Int} (ho : o.op = .slice 22 x none (some hi) none) (hx : a.eval x = .slice A n c)
    (hhi : a.eval hi = .int .i64 v) (hv : v = (j : Int)) (hj : j ≤ c) :
    (execOp a.eval o).run Try.prog w = .ok (.value (.slice A j c)) w := by
  subst hv
  cases hi : Try.prog.info? 5 with
  | none => have := u8size; rw [hi] at this; cases this
  | some q =>
    unfold execOp
    have h4 : (0 : Int) ≤ (j : Int) := by omega
    have hA : A.map (·.add 0) = A := by cases A <;> simp [Addr.add]
    simp only [ho, Option.map_some, Option.map_none, hhi, hx]
    by_cases hc : c = 0
    · subst hc
      obtain rfl : j = 0 := by omega
      simp [Instr.sliceAt, Instr.slice, Instr.sliceBounds, Instr.sliceBound, run_underlying Try.underlying22, sizeOf, typeInfo, hi, asIntOf]
    · simp [Instr.sliceAt, Instr.slice, Instr.sliceBounds, Instr.sliceBound, run_underlying Try.underlying22, sizeOf, typeInfo, hi, asIntOf, h4, hj, hA, hc]
theorem zbool : (Try.prog.info? 4).map (·.zero) = some (some (.bool false)) := by kernel_rfl
/-- a part's line in a cut block -/
def lnOf (x : Pt) : Ln := ⟨fK (2 + x.k % 4), kK (2 + x.k % 4), x.n, x.v, x.h⟩
theorem lnOf_B (x : Pt) : (lnOf x).B = ptB ⟨2 + x.k % 4, 0, x.n, x.v, x.h⟩ := by
  unfold ptB Ln.B lnOf
  simp only
  have h8 : (2 + x.k % 4) % 8 = 2 + x.k % 4 := by omega
  rw [h8, if_neg (by omega), if_neg (by omega)]
theorem lnOf_ok (x : Pt) (h : x.n.length + x.v.length ≤ 100) : (lnOf x).Ok := by
  refine ⟨?_, by show x.n.length ≤ 100; omega, by show x.v.length ≤ 100; omega⟩
  show LK (fK (2 + x.k % 4)) (kK (2 + x.k % 4))
  obtain h | h | h | h : x.k % 4 = 0 ∨ x.k % 4 = 1 ∨ x.k % 4 = 2 ∨ x.k % 4 = 3 := by omega
  all_goals rw [h]
  · exact .inl ⟨rfl, rfl⟩
  · exact .inl ⟨rfl, rfl⟩
  · exact .inr (.inl ⟨rfl, rfl⟩)
  · exact .inr (.inr ⟨rfl, rfl⟩)
/-- the bytes of the first k parts -/
def ctB (l : List Pt) (k : Nat) : Bytes := ((l.map lnOf).take k).flatMap Ln.B
theorem ctB_succ (l : List Pt) (k : Nat) (h : k < l.length) : ctB l (k + 1) = ctB l k ++ ptB ⟨2 + l[k].k % 4, 0, l[k].n, l[k].v, l[k].h⟩ := by
  unfold ctB
  rw [List.take_succ_eq_append_getElem (by simpa using h), List.flatMap_append, List.flatMap_cons, List.flatMap_nil, List.append_nil, ← lnOf_B]
  simp
/-- the ends that the law keeps -/
def ctE (l : List Pt) : Nat → List (Nat × Value)
  | 0 => [(0, .bool true)]
  | k + 1 => putE (ctB l (k + 1)).length (.bool true) (ctE l k)
theorem ctE_get (l : List Pt) (q : Nat) : ∀ k, getE q (ctE l k) = if (∃ i, i ≤ k ∧ q = (ctB l i).length) then some (.bool true) else none
  | 0 => by
    show getE q [(0, Value.bool true)] = _
    rw [getE_cons, getE_nil]
    by_cases h : q = 0
    · rw [if_pos h, if_pos ⟨0, Nat.le_refl _, by rw [h]; simp [ctB]⟩]
    · rw [if_neg h, if_neg]
      rintro ⟨i, hi, e⟩
      obtain rfl : i = 0 := by omega
      rw [show (ctB l 0).length = 0 by simp [ctB]] at e
      exact h e
  | k + 1 => by
    show getE q (putE _ _ (ctE l k)) = _
    rw [getE_put, ctE_get l q k]
    by_cases h : q = (ctB l (k + 1)).length
    · rw [if_pos h, if_pos ⟨k + 1, Nat.le_refl _, h⟩]
    · rw [if_neg h]
      by_cases h2 : ∃ i, i ≤ k ∧ q = (ctB l i).length
      · obtain ⟨i, hi, e⟩ := h2
        rw [if_pos ⟨i, hi, e⟩, if_pos ⟨i, by omega, e⟩]
      · rw [if_neg h2, if_neg]
        rintro ⟨i, hi, e⟩
        by_cases hik : i = k + 1
        · rw [hik] at e; exact h e
        · exact h2 ⟨i, by omega, e⟩
theorem ctB_le (l : List Pt) : ∀ k, k ≤ l.length → (∀ x ∈ l.take k, x.n.length + x.v.length ≤ 100) → (ctB l k).length ≤ 460 * k
  | 0, _, _ => by simp [ctB]
  | k + 1, h, hx => by
    rw [List.take_succ_eq_append_getElem (by omega)] at hx
    have h1 := ctB_le l k (by omega) (fun x hm => hx x (List.mem_append_left _ hm))
    have h2 := hx l[k] (List.mem_append_right _ (by simp))
    have h3 := ptB_length ⟨2 + l[k].k % 4, 0, l[k].n, l[k].v, l[k].h⟩
    rw [ctB_succ l k (by omega), List.length_append]
    simp only at h3
    omega

theorem ctB_pos (l : List Pt) (k : Nat) (h : k < l.length) (hx : l[k].n.length + l[k].v.length ≤ 100) : bvs (ctB l (k + 1)) ≠ [] := fun c => by
  have := congrArg List.length c
  have h1 := lnOf_B l[k]
  obtain ⟨y, t, e, _⟩ := lit_head (i := 0) (n := l[k].n) (v := l[k].v) l[k].h [] (lnOf_ok l[k] hx).k
  rw [List.append_nil] at e
  have h2 : (lnOf l[k]).B = y :: t := e
  rw [bvs_length, ctB_succ l k h, ← h1, h2, List.length_append] at this
  simp at this
theorem zPt : (Try.prog.info? 83).map (·.zero) = some (some (.agg #[.int .u8 0, .int .u64 0, .string ⟨#[]⟩, .string ⟨#[]⟩, .bool false])) := by kernel_rfl
theorem pcells_one (x : Pt) : ∀ u ∈ x.cells.toArray.toList, u.oneCell' = true := fun u hu => by
  simp only [Pt.cells, List.mem_cons, List.not_mem_nil, or_false] at hu
  rcases hu with rfl | rfl | rfl | rfl | rfl <;> rfl
set_option maxRecDepth 100000 in
set_option maxHeartbeats 4000000 in
theorem hcuts_walk (A : Option Addr) (n c : Nat) (l : List Pt) (at_ : Int) (W : World) (h : PIn W A n c l) (hat : (Lit.int .u16 at_).wf = true) :
    Calls Try.prog 11 #[.slice A n c, .int .u16 at_] W fun e w' => e = .returned (.bool true) ∧ Below W.heap.size W w' := by
  obtain ⟨hn, hR, hcap, hmax, hok⟩ := h
  subst hn
  have hat : 0 ≤ at_ ∧ at_ ≤ 65535 := by
    simp only [Lit.wf, decide_eq_true_eq, Bool.and_eq_true] at hat; exact hat
  obtain ⟨at_, rfl⟩ : ∃ u : Nat, at_ = u := ⟨at_.toNat, by omega⟩
  have hll : l.length ≤ 9223372036854775807 := Nat.le_trans hcap hmax
  clear hmax
  have HR := Lib.hid hR
  have HOK := Lib.hid hok
  clear hR hok
  go_enter Try.func11, Try.ntmps11
  go_wp2_with (fail)
  refine (known6_any _).mono ?_
  rintro e w1 ⟨rfl, hF1⟩
  have HF1 := Lib.hid hF1
  clear hF1
  by_cases q1 : 8 < l.length
  · go_wp2
    go_ret
    exact ⟨rfl, HF1.out.below⟩
  go_wp2
  rw [run_makeMap]
  have hM2 := MapIs.new w1 (fun q : Nat => Value.int .i64 (q : Int))
  have hF2 : Frm (New w1) w1 (w1.alloc (Obj.map #[] 0)) := (Frm.refl _ _).alloc Up.new _
  go_wp2_with (refine wpList_insert ikey Try.underlying81 rfl rfl rfl (k := 0) rfl hM2 ?_; intro w3 hM3 hF3 hs3; clear hM2)
  replace hM3 : MapIs w3 w1.heap.size (fun q : Nat => Value.int .i64 (q : Int)) (ctE l 0) := hM3
  have hW1 := HF1.out.size
  have hs13 : w3.heap.size = w1.heap.size + 1 := by rw [hs3]; simp
  obtain ⟨mp, hmp⟩ : ∃ mp, mp = w1.heap.size := ⟨_, rfl⟩
  rw [← hmp] at hM3 hF3 hs13 hW1 ⊢
  have hFW3 : Frm (New W) W w3 := (HF1.out.then_new Up.new hF2).trans (hF3.mono (fun k e => by rw [e]; exact hW1))
  have HM3 := Lib.hid hM3
  have HFW3 := Lib.hid hFW3
  have HS13 := Lib.hid hs13
  clear hM3 hFW3 hs13
  clear hF2 hF3 hs3 hmp HF1
  go_loopw [5, 7] (fun vb vi wr => ∃ (k : Nat) (A5 : Option Addr) (c5 : Nat), k ≤ l.length ∧ vb = .slice A5 (ctB l k).length c5 ∧ vi = .int .i64 k ∧ Hid (∀ x ∈ l.take k, x.n.length + x.v.length ≤ 100) ∧ Hid (App (New w3) wr 5 1 A5 (ctB l k).length c5 (bvs (ctB l k))) ∧
    Hid (Frm (fun q => q = mp ∨ New w3 q) w3 wr) ∧ Hid (MapIs wr mp (fun q : Nat => Value.int .i64 (q : Int)) (ctE l k)) ∧ Hid (∀ q, blk A5 = some q → q < wr.heap.size)) (fun _ vi _ => l.length - (intOf vi).toNat)
  case atStart => exact ⟨0, none, 0, Nat.zero_le _, rfl, rfl, fun x hx => by simp at hx, App.none_, Frm.refl _ _, HM3, fun q hq => by cases hq⟩
  case round =>
    obtain ⟨k, A5, c5, hk, rfl, rfl, hsm, hA5, hF5, hM5, hB5⟩ := hrel
    clear HM3
    have hFWr : Frm (New W) W wr := HFW3.out.trans (hF5.out.mono (fun q hq => by
      have := HFW3.out.size
      rcases hq with e | e
      · rw [e]; exact hW1
      · exact Nat.le_trans this e))
    by_cases hlt : k < l.length
    · obtain ⟨gA, oA, rfl, hgA⟩ := HR.out.lt (fun c => by have := congrArg List.length c; rw [flatL_length Pt.cells 5 pcells_len] at this; simp at this; omega)
      have hRw := HR.out.keep hFWr (fun q hq c => by
        have hq2 : gA = q := by simpa using hq
        unfold New at c
        omega)
      obtain ⟨hx0, hx1, hx2, hx3, hx4⟩ := part_cells hRw k hlt
      obtain ⟨⟨xk1, xk2⟩, xn, xv⟩ := HOK.out l[k] (List.getElem_mem hlt)
      have hCS := ctB_succ l k hlt
      have hTk : l.take (k + 1) = l.take k ++ [l[k]] := List.take_succ_eq_append_getElem hlt
      have hCE : ctE l (k + 1) = putE (ctB l (k + 1)).length (.bool true) (ctE l k) := rfl
      have hcl := ctB_le l k hk hsm.out
      have hcp := ctB_pos l k hlt
      generalize l[k] = x at *
      simp only [str] at hx2 hx3
      have hgw := World.block_lt_of_cell? _ _ hx0
      have e1 := str_size x.n
      have e2 := str_size x.v
      have hw1 : IntKind.i64.wrap ((x.n.length : Int) + (x.v.length : Int)) = ((x.n.length + x.v.length : Nat) : Int) := by
        rw [show ((x.n.length : Int) + (x.v.length : Int)) = ((x.n.length + x.v.length : Nat) : Int) from by omega]
        exact IntWalk.i64_in _ (by omega)
      have HCS := Lib.hid hCS
      have HTK := Lib.hid hTk
      have HCE := Lib.hid hCE
      have HFWR := Lib.hid hFWr
      have HRW := Lib.hid hRw
      have HCP := Lib.hid hcp
      clear hCS hTk hCE hFWr hRw hcp
      go_upto_region 10 with (fail)
      go_quiet (fail)
      by_cases q2 : 100 < x.n.length + x.v.length
      · go_wp2
        go_ret
        exact ⟨rfl, (HFWR.out.drewN _).below⟩
      · go_upto_region 12 with (fail)
        have hF5n : Frm (New wr) wr (wr.drewN nq) := (Frm.refl _ _).drewN nq
        have hx0 : (wr.drewN nq).cell? ⟨gA, oA + k * 5, none⟩ = _ := hx0
        have hx1 : (wr.drewN nq).cell? ⟨gA, oA + k * 5 + 1, none⟩ = _ := hx1
        have hx2 : (wr.drewN nq).cell? ⟨gA, oA + k * 5 + 2, none⟩ = _ := hx2
        have hx3 : (wr.drewN nq).cell? ⟨gA, oA + k * 5 + 3, none⟩ = _ := hx3
        have hx4 : (wr.drewN nq).cell? ⟨gA, oA + k * 5 + 4, none⟩ = _ := hx4
        have hgw : gA < (wr.drewN nq).heap.size := hgw
        have hB5n : ∀ q, blk A5 = some q → q < (wr.drewN nq).heap.size := hB5.out
        have hA5n := hA5.out.fresh hF5n
        have hM5n := hM5.out.fresh hF5n
        have hFn := hF5.out.trans (hF5n.mono (fun q hq => .inr (Nat.le_trans hF5.out.size hq)))
        have hz5 : w3.heap.size ≤ (wr.drewN nq).heap.size := hFn.size
        generalize wr.drewN nq = w5 at *
        have HF5N := Lib.hid hF5n
        have HB5N := Lib.hid hB5n
        have HA5N := Lib.hid hA5n
        have HM5N := Lib.hid hM5n
        have HFN := Lib.hid hFn
        clear hF5n hB5n hA5n hM5n hFn
        go_upto_region 13 with (first
          | (refine wpList_new rfl rfl zPt rfl ?_; intro w6 hb6 hF6 hs6)
          | (refine wpList_store_agg rfl rfl rfl (cs := x.cells.toArray) rfl hb6 rfl (pcells_one x) (by kernel_rfl) ?_; intro w7 hb7 hF7 hs7))
        obtain ⟨bx, hbx⟩ : ∃ bx, bx = w5.heap.size := ⟨_, rfl⟩
        rw [← hbx] at hb6 hb7 hs6 hF7 ⊢
        have hb7 : Blk w7 bx 83 #[.int .u8 x.k, .int .u64 x.i, .string ⟨x.n.toArray⟩, .string ⟨x.v.toArray⟩, .bool x.h] := hb7
        obtain ⟨r, hr⟩ : ∃ r, r = x.k % 4 := ⟨_, rfl⟩
        have mr : (x.k : Int) % 4 = (r : Int) := by omega
        have mr2 : Int.tmod (x.k : Int) 4 = (r : Int) := by rw [Int.tmod_eq_emod_of_nonneg (by omega)]; omega
        have hr4 : r < 4 := by omega
        obtain ⟨q5, hq5⟩ : ∃ q5, q5 = 2 + r := ⟨_, rfl⟩
        have hw2 : IntKind.u8.wrap (2 + (r : Int)) = (q5 : Int) := by
          rw [show (2 + (r : Int)) = (q5 : Int) from by omega]
          exact IntWalk.u8_in _ (by omega)
        rw [← hr, ← hq5] at HCS
        have hq56 : q5 ≤ 5 := by omega
        have hF57 : Frm (New w5) w5 w7 := hF6.trans (hF7.mono (fun q e => by
          have e2 : q = bx := e
          unfold New; omega))
        have hFx : Frm (fun q => q = bx) w7 ((w7.setCell ⟨bx, 0, none⟩ (.int .u8 (q5 : Int))).setCell ⟨bx, 1, none⟩ (.int .u64 0)) := ((Frm.refl (fun q => q = bx) w7).setCell (p := ⟨bx, 0, none⟩) rfl _).setCell (p := ⟨bx, 1, none⟩) rfl _
        have hb9 := (hb7.set_ 0 (.int .u8 (q5 : Int))).set_ 1 (.int .u64 0)
        have hF59 : Frm (New w5) w5 ((w7.setCell ⟨bx, 0, none⟩ (.int .u8 (q5 : Int))).setCell ⟨bx, 1, none⟩ (.int .u64 0)) := hF57.trans (hFx.mono (fun q e => by unfold New; omega))
        clear hx0 hx1 hx2 hx3 hx4
        have hx0 := hb7.cell 0
        have hx1 := hb7.cell 1
        simp only [List.getElem?_toArray, List.getElem?_cons_zero, List.getElem?_cons_succ] at hx0 hx1
        have hz0 := hb7.frozen 0
        have hz1 := hb7.frozen 1
        have hl7 := hb7.lt
        have HB7 := Lib.hid hb7
        have HF57 := Lib.hid hF57
        have HF6 := Lib.hid hF6
        have HF7 := Lib.hid hF7
        have HFX := Lib.hid hFx
        have HB9 := Lib.hid hb9
        have HF59 := Lib.hid hF59
        have HS6 := Lib.hid hs6
        have HS7 := Lib.hid hs7
        have HBX := Lib.hid hbx
        have HR := Lib.hid hr
        have HQ5 := Lib.hid hq5
        clear hb7 hF57 hF6 hF7 hFx hb9 hF59 hs6 hs7 hbx hr hq5
        clear hb6
        go_upto_region 14 with (fail)
        generalize ((w7.setCell ⟨bx, 0, none⟩ (.int .u8 (q5 : Int))).setCell ⟨bx, 1, none⟩ (.int .u64 0)) = w9 at *
        have hc9 : Blk w9 bx 83 #[.int .u8 (q5 : Int), .int .u64 0, .string ⟨x.n.toArray⟩, .string ⟨x.v.toArray⟩, .bool x.h] := HB9.out
        clear hx0 hx1 hz0 hz1 hl7
        have hx0 := hc9.cell 0
        have hx1 := hc9.cell 1
        have hx2 := hc9.cell 2
        have hx3 := hc9.cell 3
        have hx4 := hc9.cell 4
        simp only [List.getElem?_toArray, List.getElem?_cons_zero, List.getElem?_cons_succ] at hx0 hx1 hx2 hx3 hx4
        have hl9 := hc9.lt
        have hp : Calls Try.prog 41 #[.slice A5 (ctB l k).length c5, .agg #[.int .u8 (q5 : Int), .int .u64 0, .string ⟨x.n.toArray⟩, .string ⟨x.v.toArray⟩, .bool x.h]] w9 (RetA (New w3) w9 (ctB l k ++ ptB ⟨q5, 0, x.n, x.v, x.h⟩)) :=
          bytes_any (New w3) (ctB l k) A5 c5 ⟨q5, 0, x.n, x.v, x.h⟩ w9 ⟨by show q5 ≤ 255; omega, by show 0 ≤ _; omega⟩ (Up.new.of (Nat.le_trans hz5 HF59.out.size)) (HA5N.out.fresh HF59.out) (fun q hq => Nat.lt_of_lt_of_le (HB5N.out q hq) HF59.out.size) (by omega) ⟨by show x.n.length ≤ 1000; omega, by show x.v.length ≤ 1000; omega⟩
        have HC9 := Lib.hid hc9
        have HP := Lib.hid hp
        clear hc9 hp
        go_wp2_with (fail)
        refine HP.out.mono ?_
        rintro e w10 ⟨A10, c10, rfl, hA10, hF10⟩
        rw [← HCS.out] at hA10 ⊢
        have hM10 := (HM5N.out.fresh HF59.out).keep hF10 (fun c => by have := HS13.out; unfold New at c; omega)
        go_wp2_with (refine wpList_update ikey Try.underlying81 rfl rfl rfl (k := (ctB l (k + 1)).length) rfl hM10 ?_; intro w11 hM11 hF11 hs11)
        replace hM11 : MapIs w11 mp (fun q : Nat => Value.int .i64 (q : Int)) (ctE l (k + 1)) := hM11
        go_roundw
        case rel =>
          refine ⟨k + 1, A10, c10, by omega, rfl, by go_num, fun y hy => ?_, hA10.keep hF11 (fun q hq e => ?_), ?_, hM11, fun q hq => ?_⟩
          · rw [HTK.out] at hy
            rcases List.mem_append.1 hy with hy | hy
            · exact hsm.out y hy
            · rw [List.mem_singleton] at hy
              rw [hy]
              omega
          · have h1 := hA10.inM q hq
            have := HS13.out
            unfold New at h1
            omega
          · exact ((HFN.out.trans (HF59.out.mono (fun q hq => .inr (Nat.le_trans hz5 hq)))).trans (hF10.mono (fun q hq => .inr hq))).trans (hF11.mono (fun q e => .inl e))
          · rw [hs11]
            exact App.lt hA10 (HCP.out (by omega)) q hq
        case measure => simp [intOf]; omega
    · obtain rfl : k = l.length := by omega
      have hcl := ctB_le l l.length hk hsm.out
      have hcuts : ∀ q, q ≤ (ctB l l.length).length → ((deN.run ((ctB l l.length).take q)).isSome = true ↔ ∃ i, i ≤ l.length ∧ q = (ctB l i).length) := fun q hq => by
        have e : ctB l l.length = (l.map lnOf).flatMap Ln.B := by unfold ctB; rw [List.take_of_length_le (by simp)]
        rw [e] at hq ⊢
        have := cuts_all (l.map lnOf) q (fun y hy => by
          obtain ⟨x, hx, rfl⟩ := List.mem_map.1 hy
          exact lnOf_ok x (hsm.out x (by rw [List.take_length]; exact hx))) (by simp; omega) hq
        rw [List.length_map] at this
        exact this
      obtain ⟨b, hb⟩ : ∃ b, b = ctB l l.length := ⟨_, rfl⟩
      rw [← hb] at hcuts hA5 hcl ⊢
      obtain ⟨q, hq⟩ : ∃ q, q = at_ % (b.length + 1) := ⟨_, rfl⟩
      have hqb : q ≤ b.length := by have := Nat.mod_lt at_ (show 0 < b.length + 1 by omega); omega
      have wat : IntKind.i64.wrap (at_ : Int) = at_ := IntWalk.i64_in _ (by omega)
      have wbl : IntKind.i64.wrap ((b.length : Int) + 1) = ((b.length + 1 : Nat) : Int) := by
        rw [show ((b.length : Int) + 1) = ((b.length + 1 : Nat) : Int) from by omega]; exact IntWalk.i64_in _ (by omega)
      have mq2 : Int.tmod (at_ : Int) ((b.length : Int) + 1) = (q : Int) := by
        rw [show ((b.length : Int) + 1) = ((b.length + 1 : Nat) : Int) from by omega, Int.tmod_eq_emod_of_nonneg (by omega), hq]; rfl
      have mq : (at_ : Int) % ((b.length : Int) + 1) = (q : Int) := by
        rw [show ((b.length : Int) + 1) = ((b.length + 1 : Nat) : Int) from by omega, hq]; rfl
      have HB := Lib.hid hb
      have HQ := Lib.hid hq
      have HCUTS := Lib.hid hcuts
      have HFWR := Lib.hid hFWr
      clear hb hq hcuts hFWr
      go_wp2_with (fail)
      refine (hdnew_any 4096 (by omega) (by omega) _).mono ?_
      rintro e w6 ⟨S, pd, g, rfl, hE6, hF6, hS6, hp6⟩
      rw [show lim 4096 = 4096 from rfl] at hE6
      go_wp2_with (fail)
      refine (rdnew_any 4096 (by omega) (by omega) _).mono ?_
      rintro e w7 ⟨S2, p2, g2, rfl, hE7, hF7, hS7, hp7⟩
      rw [show lim 4096 = 4096 from rfl] at hE7
      have hD7 := DSt.both (Frm.refl (New wr) wr) hE6 hF6 hS6 hp6 hE7 hF7 hS7 hp7
      have hfA := DFar.low hD7 hB5.out
      have hmpl := hM5.out.lt
      have hfM : DFar w7 S pd S2 p2 (some ⟨mp, 0, none⟩) := DFar.low hD7 (fun k hk => by
        have hk2 : mp = k := by simpa using hk
        omega)
      have hM7 := hM5.out.fresh hD7.frm
      have hc5 := hA5.out.cap
      obtain ⟨b2, hb2⟩ : ∃ b2, b2 = b.take q := ⟨_, rfl⟩
      have hl2 : b2.length = q := by rw [hb2, List.length_take]; omega
      have hRb : Rd w7 A5 (bvs b2) := by
        have := (hA5.out.rd.fresh hD7.frm).take q
        rw [hb2]
        simpa [bvs, List.map_take] using this
      have hcq := HCUTS.out q hqb
      rw [← hb2] at hcq
      have hge := ctE_get l q l.length
      subst hl2
      have hb24 : b2.length ≤ 4000 := by omega
      have HD7 := Lib.hid hD7
      have HFA := Lib.hid hfA
      have HFM := Lib.hid hfM
      have HM7 := Lib.hid hM7
      have HRB := Lib.hid hRb
      have HCQ := Lib.hid hcq
      have HGE := Lib.hid hge
      have HB2 := Lib.hid hb2
      clear hD7 hfA hfM hM7 hRb hcq hge hb2
      clear hE6 hF6 hS6 hp6 hE7 hF7 hS7 hp7 hM5 HCUTS hA5 HR
      go_wp2_with (refine wpList_val rfl (.slice A5 b2.length c5) (run_to rfl rfl rfl rfl (by omega)) ?_)
      refine (hstep HD7.out b2 A5 c5 HRB.out (by omega) HFA.out (by omega) (fun _ => by show 0 + _ ≤ _; omega)).mono ?_
      rintro e w8 ⟨S8, D8, A8, c8, rfl, hS8, hK8, hd8, hF8, hO8, _⟩
      have hR8 := HRB.out.keep hF8 HFA.out.not_h
      have hfA8 := HFA.out.hdec hF8 hO8
      have hfM8 := HFM.out.hdec hF8 hO8
      have hM8 := HM7.out.keep hF8 (HFM.out.not_h mp rfl)
      have HS8 := Lib.hid hS8
      have HK8 := Lib.hid hK8
      have HR8 := Lib.hid hR8
      have HFA8 := Lib.hid hfA8
      have HFM8 := Lib.hid hfM8
      have HM8 := Lib.hid hM8
      clear hS8 hK8 hR8 hfA8 hfM8 hM8
      clear hd8 hF8 hO8
      go_wp2_with (refine wpList_val rfl (.slice A5 b2.length c5) (run_to rfl rfl rfl rfl (by omega)) ?_)
      refine (rstep HS8.out b2 A5 c5 HR8.out (by omega) HFA8.out (by omega) (fun _ => by show 0 + _ ≤ _; omega)).mono ?_
      rintro e w9 ⟨S9, D9, A9, c9, rfl, hS9, hK9, hd9, hF9, hO9, _⟩
      have hK89 := HK8.out.rdec hF9 hO9
      have hM9 := HM8.out.keep hF9 (HFM8.out.not_r mp rfl)
      have hll := run_le deN b2
      replace hK89 : DKept w9 S8 pd S9 p2 A8 (fvs (oL (deN.run b2))) := hK89
      replace hK9 : DKept w9 S8 pd S9 p2 A9 (fvs (oL (deN.run b2))) := hK9
      rw [show (De.mk ⟨[], 0, 4096⟩ 4096 false false) = deN from rfl]
      have HS9 := Lib.hid hS9
      have HK9 := Lib.hid hK9
      have HK89 := Lib.hid hK89
      clear hS9 hK9 hK89
      clear hd9 hF9 hO9
      by_cases hs : (deN.run b2).isSome = true
      · have h1 : getE b2.length (ctE l l.length) = some (.bool true) := by rw [HGE.out, if_pos (HCQ.out.1 hs)]
        have h2 : oE (deN.run b2) = 0 := by
          cases hr : deN.run b2 with
          | none => rw [hr] at hs; cases hs
          | some _ => rfl
        rw [h2]
        generalize oL (deN.run b2) = ls at *
        have HG1 := Lib.hid h1
        clear h1
        clear h2
        go_wp2_with (go_at_call 31; refine (fields_eq ls _ _ _ _ _ HK89.out.rd HK9.out.rd (by omega)).mono ?_; rintro e w7 ⟨rfl, n7, hw7⟩; rw [hw7]; clear hw7)
        have hlk : (Instr.lookup 81 (.map (some mp)) (.int .i64 (b2.length : Int)) false).run Try.prog (w9.drewN n7) = .ok (.bool true) (w9.drewN n7) := by
          have h := run_lookup ikey Try.underlying81 zbool (hM9.fresh ((Frm.refl (New w9) w9).drewN n7)) b2.length false
          rw [HG1.out] at h
          exact h
        rw [hlk]
        clear hlk
        go_wp2
        go_ret
        exact ⟨rfl, (HFWR.out.then_new Up.new (HS9.out.frm.drewN _)).below⟩
      · have h1 : getE b2.length (ctE l l.length) = none := by rw [HGE.out, if_neg (fun c => hs (HCQ.out.2 c))]
        have h2 : oE (deN.run b2) = 26 := by
          cases hr : deN.run b2 with
          | none => rfl
          | some _ => rw [hr] at hs; exact absurd rfl hs
        rw [h2]
        generalize oL (deN.run b2) = ls at *
        have HG1 := Lib.hid h1
        clear h1
        clear h2
        go_wp2_with (go_at_call 31; refine (fields_eq ls _ _ _ _ _ HK89.out.rd HK9.out.rd (by omega)).mono ?_; rintro e w7 ⟨rfl, n7, hw7⟩; rw [hw7]; clear hw7)
        have hlk : (Instr.lookup 81 (.map (some mp)) (.int .i64 (b2.length : Int)) false).run Try.prog (w9.drewN n7) = .ok (.bool false) (w9.drewN n7) := by
          have h := run_lookup ikey Try.underlying81 zbool (hM9.fresh ((Frm.refl (New w9) w9).drewN n7)) b2.length false
          rw [HG1.out] at h
          exact h
        rw [hlk]
        clear hlk
        go_wp2
        go_ret
        exact ⟨rfl, (HFWR.out.then_new Up.new (HS9.out.frm.drewN _)).below⟩
end Go.Proofs.Ytcebckkpablagaa.M
