/- What is too large, on both sides; what may be asked. The sizes together are below 2^62. -/
import Derived.BigQuiet
import Derived.Deep.CutBlock
import Derived.Lib.Hide
import Derived.IntWalk
import Derived.Test.YtpojejdddgdjdaaGreatDoorSf
namespace Go.Proofs.YtpojejdddgdjdaaGreatDoor.M
open Go.ChangeShapes Go.WideShapes Go.ChangeAt Go.RowKit

/-- a message as it lies: fields, body, trailers -/
structure MV where
  A1 : Option Addr
  c1 : Nat
  fs : List Fld
  A2 : Option Addr
  c2 : Nat
  b : Bytes
  A3 : Option Addr
  c3 : Nat
  ts : List Fld
def MV.cells (m : MV) : Array Value := #[.slice m.A1 m.fs.length m.c1, .slice m.A2 m.b.length m.c2, .slice m.A3 m.ts.length m.c3]
structure MIn (w : World) (m : MV) : Prop where
  r1 : Rd w m.A1 (fvs m.fs)
  r2 : Rd w m.A2 (bvs m.b)
  r3 : Rd w m.A3 (fvs m.ts)
theorem MIn.fresh {w w' : World} {m : MV} (h : MIn w m) (f : Frm (New w) w w') : MIn w' m := ⟨h.r1.fresh f, h.r2.fresh f, h.r3.fresh f⟩
/-- its sizes -/
structure MSz (m : MV) : Prop where
  s1 : fsizes m.fs ≤ 4611686018427387903
  l1 : m.fs.length ≤ 4611686018427387903
  s3 : fsizes m.ts ≤ 4611686018427387903
  l3 : m.ts.length ≤ 4611686018427387903
  l2 : m.b.length ≤ 9223372036854775807
def lrg (l : List Fld) : Bool := decide (64 < l.length) || decide (4096 < fsizes l)
def lrgM (m : MV) : Bool := lrg m.fs || (lrg m.ts || decide (8192 < m.b.length))
set_option maxRecDepth 100000 in
set_option maxHeartbeats 4000000 in
theorem rLarge_any (m : MV) (w : World) (hm : MIn w m) (hz : MSz m) :
    Calls Tryz.prog 25 #[.agg m.cells] w fun e w' => e = .returned (.bool (lrgM m)) ∧ Frm (New w) w w' := by
  have hL : Hid (lrgM m = (lrg m.fs || (lrg m.ts || decide (8192 < m.b.length)))) := rfl
  have hl1 : Hid (lrg m.fs = (decide (64 < m.fs.length) || decide (4096 < fsizes m.fs))) := rfl
  have hl3 : Hid (lrg m.ts = (decide (64 < m.ts.length) || decide (4096 < fsizes m.ts))) := rfl
  have h1 : ∀ w', Frm (New w) w w' → Calls Tryz.prog 43 #[.slice m.A1 m.fs.length m.c1] w' fun e w2 => e = .returned (.int .i64 (fsizes m.fs : Nat)) ∧ Frm (New w') w' w2 := fun w' f => (rsize_any m.fs m.A1 m.c1 w' (hm.r1.fresh f) hz.s1 hz.l1).mono (by rintro e w2 ⟨rfl, q, rfl⟩; exact ⟨rfl, (Frm.refl _ _).drewN q⟩)
  have h3 : ∀ w', Frm (New w) w w' → Calls Tryz.prog 43 #[.slice m.A3 m.ts.length m.c3] w' fun e w2 => e = .returned (.int .i64 (fsizes m.ts : Nat)) ∧ Frm (New w') w' w2 := fun w' f => (rsize_any m.ts m.A3 m.c3 w' (hm.r3.fresh f) hz.s3 hz.l3).mono (by rintro e w2 ⟨rfl, q, rfl⟩; exact ⟨rfl, (Frm.refl _ _).drewN q⟩)
  have hb := hz.l2
  have hb1z := hz.s1
  have hb3z := hz.s3
  have hbl1 := hz.l1
  have hbl3 := hz.l3
  clear hm hz
  obtain ⟨A1, c1, fs, A2, c2, b, A3, c3, ts⟩ := m
  simp only [MV.cells] at *
  have hfr : ∀ (w : World) t cs, Frm (New w) w (w.alloc (.cells cs t)) := fun w t cs => (Frm.refl _ w).alloc Up.new _
  obtain ⟨r, hr⟩ : ∃ r, r = lrgM ⟨A1, c1, fs, A2, c2, b, A3, c3, ts⟩ := ⟨_, rfl⟩
  rw [← hr] at hL ⊢
  have hR : Hid (r = ((decide (64 < fs.length) || decide (4096 < fsizes fs)) || ((decide (64 < ts.length) || decide (4096 < fsizes ts)) || decide (8192 < b.length)))) := by
    show _ = _
    rw [hL.out, hl1.out, hl3.out]
  clear hr hL hl1 hl3
  generalize fsizes fs = z1 at *
  generalize fsizes ts = z3 at *
  have H1 := Lib.hid h1
  have H3 := Lib.hid h3
  have HFR := Lib.hid hfr
  clear h1 h3 hfr
  go_enter Tryz.func25, Tryz.ntmps25
  go_upto_region 1 with (fail)
  have hb1 := Blk.new w 30 #[.slice A1 fs.length c1, .slice A2 b.length c2, .slice A3 ts.length c3]
  have hF1 := HFR.out w 30 #[.slice A1 fs.length c1, .slice A2 b.length c2, .slice A3 ts.length c3]
  generalize w.alloc (.cells #[.slice A1 fs.length c1, .slice A2 b.length c2, .slice A3 ts.length c3] 30) = w1 at *
  have hbW : w.heap.size < w1.heap.size := hb1.lt
  generalize hbx : w.heap.size = bx at *
  have hc1 := H1.out w1 hF1
  have hy0 := hb1.cell 0
  have hy2 := hb1.cell 2
  simp only [List.getElem?_toArray, List.getElem?_cons_zero, List.getElem?_cons_succ] at hy0 hy2
  have HB1 := Lib.hid hb1
  have HF1 := Lib.hid hF1
  have HC1 := Lib.hid hc1
  clear hc1
  clear hb1 hF1 hbx
  by_cases p1 : (64 : Int) < fs.length
  · have hrt : Hid (r = true) := by show _ = _; rw [hR.out, decide_eq_true (show 64 < fs.length by omega)]; rfl
    go_wp2_with (fail)
    go_ret
    exact ⟨ret_bool hrt.out.symm, HF1.out⟩
  by_cases p3 : (64 : Int) < ts.length
  · have hrt : Hid (r = true) := by show _ = _; rw [hR.out, decide_eq_true (show 64 < ts.length by omega)]; simp
    go_wp2_with (fail)
    go_ret
    exact ⟨ret_bool hrt.out.symm, HF1.out⟩
  have hR2 : Hid (r = (decide (4096 < z1) || (decide (4096 < z3) || decide (8192 < b.length)))) := by
    show _ = _
    rw [hR.out, decide_eq_false (show ¬ 64 < fs.length by omega), decide_eq_false (show ¬ 64 < ts.length by omega)]
    simp
  clear hR
  go_wp2_with (fail)
  refine HC1.out.mono ?_
  rintro e w2 ⟨rfl, hF2⟩
  have hb2 := HB1.out.fresh hF2
  have hF02 := HF1.out.then_new Up.new hF2
  have hc3 := H3.out w2 hF02
  have hbl2 := hb2.lt
  clear hF2 hy0 hy2
  have hy1 := hb2.cell 1
  have hy2 := hb2.cell 2
  simp only [List.getElem?_toArray, List.getElem?_cons_zero, List.getElem?_cons_succ] at hy1 hy2
  have HB2 := Lib.hid hb2
  have HF02 := Lib.hid hF02
  have HC3 := Lib.hid hc3
  clear hb2 hF02 hc3
  by_cases q1 : (4096 : Int) < z1
  · have hrt : Hid (r = true) := by show _ = _; rw [hR2.out, decide_eq_true (show 4096 < z1 by omega)]; rfl
    go_wp2_with (fail)
    go_ret
    exact ⟨ret_bool hrt.out.symm, HF02.out⟩
  go_wp2_with (fail)
  refine HC3.out.mono ?_
  rintro e w3 ⟨rfl, hF3⟩
  have hb3 := HB2.out.fresh hF3
  have hF03 := HF02.out.then_new Up.new hF3
  have hbl33 := hb3.lt
  clear hF3 hy1 hy2
  have hy1 := hb3.cell 1
  simp only [List.getElem?_toArray, List.getElem?_cons_zero, List.getElem?_cons_succ] at hy1
  have HB3 := Lib.hid hb3
  have HF03 := Lib.hid hF03
  clear hb3 hF03
  by_cases q3 : (4096 : Int) < z3
  · have hrt : Hid (r = true) := by show _ = _; rw [hR2.out, decide_eq_true (show 4096 < z3 by omega)]; simp
    go_wp2_with (fail)
    go_ret
    exact ⟨ret_bool hrt.out.symm, HF03.out⟩
  by_cases q2 : (8192 : Int) < b.length
  · have hrt : Hid (r = true) := by show _ = _; rw [hR2.out, decide_eq_true (show 8192 < b.length by omega)]; simp
    go_wp2_with (fail)
    go_ret
    exact ⟨ret_bool hrt.out.symm, HF03.out⟩
  · have hrt : Hid (r = false) := by
      show _ = _
      rw [hR2.out, decide_eq_false (show ¬ 4096 < z1 by omega), decide_eq_false (show ¬ 4096 < z3 by omega), decide_eq_false (show ¬ 8192 < b.length by omega)]
      rfl
    go_wp2_with (fail)
    go_ret
    exact ⟨ret_bool (by rw [hrt.out]; simp; omega), HF03.out⟩
end Go.Proofs.YtpojejdddgdjdaaGreatDoor.M
