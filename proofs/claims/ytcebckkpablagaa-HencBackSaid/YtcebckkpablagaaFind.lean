/- static.find, FindH2: what they tell. No condition but a length. -/
import Derived.Test.YtcebckkpablagaaKey
import Derived.Deep.RegionWith
namespace Go.Proofs.Ytcebckkpablagaa.M
open Go.ChangeShapes Go.WideShapes Go.ChangeAt Go.RowKit

/-- where the name first stands -/
def nameAt (l : List Fld) (n : Bytes) : Option Nat := l.findIdx? fun x => decide (x.1 = n)
def fldAt (l : List Fld) (f : Fld) : Option Nat := l.findIdx? fun x => decide (x = f)
/-- static.find's answer -/
def findS (l : List Fld) (f : Fld) : Nat × Bool × Bool :=
  match fldAt l f with
  | some i => (i, true, true)
  | none => match nameAt l f.1 with
    | some i => (i, true, false)
    | none => (0, false, false)
def named (l : List Fld) (n : Bytes) : Nat × Bool := match nameAt l n with | some i => (i, true) | none => (0, false)
theorem named_succ (l : List Fld) (n : Bytes) (k : Nat) (h : k < l.length) :
    named (l.take (k + 1)) n = if l[k].1 = n ∧ (named (l.take k) n).2 = false then (k, true) else named (l.take k) n := by
  unfold named nameAt
  rw [List.take_succ_eq_append_getElem h, List.findIdx?_append]
  cases hq : (l.take k).findIdx? (fun x => decide (x.1 = n)) with
  | some i => simp
  | none =>
    have hl : (l.take k).length = k := by simp; omega
    by_cases hn : l[k].1 = n
    · simp [List.findIdx?_cons, hn, hl]
    · simp [List.findIdx?_cons, hn]
theorem fldAt_none (l : List Fld) (f : Fld) (k : Nat) (h : k < l.length) (h0 : fldAt (l.take k) f = none) :
    (l[k] = f → fldAt l f = some k) ∧ (l[k] ≠ f → fldAt (l.take (k + 1)) f = none) := by
  unfold fldAt at *
  have hl : (l.take k).length = k := by simp; omega
  constructor
  · intro e
    have hs : l = l.take k ++ l[k] :: l.drop (k + 1) := by simp
    rw [hs, List.findIdx?_append, h0]
    simp [List.findIdx?_cons, e]; omega
  · intro e
    rw [List.take_succ_eq_append_getElem h, List.findIdx?_append, h0]
    simp [List.findIdx?_cons, e]

set_option maxRecDepth 100000 in
set_option maxHeartbeats 1000000 in
theorem find_any (l : List Fld) (f : Fld) (A : Option Addr) (c : Nat) (w : World) (hR : Rd w A (fvs l)) (hl : l.length ≤ 4611686018427387903) :
    Calls Try.prog 100 #[.slice A l.length c, fld f] w fun e w' => e = .returned (.tuple #[.int .u64 (findS l f).1, .bool (findS l f).2.1, .bool (findS l f).2.2]) ∧ Frm (New w) w w' := by
  obtain ⟨f1, f2⟩ := f
  simp only [fld, str]
  go_enter Try.func100, Try.ntmps100
  go_wp2
  have HB : Blk (w.alloc (Obj.cells #[Value.string { data := List.toArray f1 }, Value.string { data := List.toArray f2 }] 30)) w.heap.size 30 #[Value.string { data := List.toArray f1 }, Value.string { data := List.toArray f2 }] := Blk.new w _ _
  have HR : Rd (w.alloc (Obj.cells #[Value.string { data := List.toArray f1 }, Value.string { data := List.toArray f2 }] 30)) A (fvs l) := hR.alloc _
  have H0 : Frm (New w) w (w.alloc (Obj.cells #[Value.string { data := List.toArray f1 }, Value.string { data := List.toArray f2 }] 30)) := (Frm.refl _ _).alloc Up.new _
  have H2 : w.heap.size ≤ w.heap.size := Nat.le_refl _
  generalize w.alloc (Obj.cells #[Value.string { data := List.toArray f1 }, Value.string { data := List.toArray f2 }] 30) = w1 at *
  generalize hb : w.heap.size = b at *
  have HB := Lib.hid HB
  have HR := Lib.hid HR
  have H0 := Lib.hid H0
  clear hR H2
  go_loopw [7, 8, 13] (fun at_ nm i wr => ∃ k : Nat, k ≤ l.length ∧ i = .int .i64 k ∧ at_ = .int .i64 (named (l.take k) f1).1 ∧ nm = .bool (named (l.take k) f1).2 ∧ (named (l.take k) f1).1 ≤ k ∧ Hid (fldAt (l.take k) (f1, f2) = none) ∧ Hid (Frm (New w1) w1 wr)) (fun _ _ i _ => l.length - (intOf i).toNat)
  case atStart => exact ⟨0, Nat.zero_le _, rfl, rfl, rfl, Nat.le_refl _, rfl, Frm.refl _ _⟩
  case round =>
    obtain ⟨k, hk, rfl, rfl, rfl, hle, hN, hF⟩ := hrel
    by_cases hlt : k < l.length
    · have hRd := HR.out.fresh hF.out
      have hbx := HB.out.fresh hF.out
      obtain ⟨g, off, rfl, hx⟩ := hRd.at_ (k := k * 2) (by rw [fvs_length]; omega)
      clear hx
      obtain ⟨hc1, hc2⟩ := fld_cells hRd k hlt
      have hd1 := hbx.cell 0
      have hd2 := hbx.cell 1
      have hb1 : b < wr.heap.size := hbx.lt
      have HX := Lib.hid hRd
      have HY := Lib.hid hbx
      clear hRd hbx
      have HS := Lib.hid (named_succ l f1 k hlt)
      have HT := Lib.hid (fldAt_none l (f1, f2) k hlt hN.out)
      generalize hf : l[k] = f at *
      obtain ⟨x1, x2⟩ := f
      simp only [str] at hc1 hc2
      generalize hnm : named (l.take k) f1 = nm at *
      obtain ⟨n0, nb⟩ := nm
      simp only at hle
      clear hf hnm
      go_wp2
      case _ =>
        rename_i e1 e2
        have h1 := HT.out.1 (by rw [e1, e2])
        refine bodyPost_ret (v := .tuple #[.int .u64 k, .bool true, .bool true]) (by simp [results, Try.results100, go_sem]) rfl ?_
        simp only [findS, h1]
        refine ⟨by first | rfl | trivial, (H0.out.then_new Up.new hF.out).alloc Up.new _⟩
      all_goals
        have hne : (x1, x2) ≠ (f1, f2) := fun h => by
          simp only [Prod.mk.injEq] at h
          obtain ⟨h1, h2⟩ := h
          simp_all only [not_true_eq_false]
        have hn2 : Hid (fldAt (List.take (k + 1) l) (f1, f2) = none) := HT.out.2 hne
        clear hne
      all_goals go_roundw
      all_goals try (case measure => simp [intOf]; omega)
      all_goals refine ⟨k + 1, by omega, by go_num, ?_, ?_, ?_, hn2, hF.out.alloc Up.new _⟩
      all_goals rw [HS.out]
      all_goals clear HS hn2 HT hc1 hc2 hd1 hd2 HX HY HR HB
      all_goals cases nb
      all_goals first
        | (simp_all; done)
        | (simp_all; omega)
        | (split <;> simp <;> omega)
    · obtain rfl : k = l.length := by omega
      simp only [List.take_length] at hN hle ⊢
      generalize hq : named l f1 = q at *
      obtain ⟨q1, q2⟩ := q
      simp only at hle
      have hN1 := hN.out
      have hfin : findS l (f1, f2) = (q1, q2, false) := by
        unfold findS
        rw [hN1]
        unfold named at hq
        cases hc : nameAt l f1 <;> simp [hc] at hq ⊢ <;> exact hq
      have HQ := Lib.hid hfin
      clear hfin hq hN1
      go_wp2
      refine bodyPost_ret (v := .tuple #[.int .u64 q1, .bool q2, .bool false]) (by simp [results, Try.results100, go_sem]) rfl ?_
      rw [HQ.out]
      exact ⟨rfl, H0.out.then_new Up.new hF.out⟩

theorem findS_le (l : List Fld) (f : Fld) : (findS l f).1 ≤ l.length := by
  unfold findS
  cases h1 : fldAt l f with
  | some i => obtain ⟨h, _⟩ := List.findIdx?_eq_some_iff_getElem.1 h1; simp; omega
  | none =>
    cases h2 : nameAt l f.1 with
    | some i => obtain ⟨h, _⟩ := List.findIdx?_eq_some_iff_getElem.1 h2; simp; omega
    | none => simp

/-- static.FindH2's answer -/
def h2S (f : Fld) : Nat × Bool × Bool := if (findS h2tab f).2.1 then ((findS h2tab f).1 + 1, true, (findS h2tab f).2.2) else (0, false, false)

set_option maxRecDepth 100000 in
set_option maxHeartbeats 1000000 in
theorem findh2_any (f : Fld) (w : World) :
    Calls Try.prog 93 #[fld f] w fun e w' => e = .returned (.tuple #[.int .u64 (h2S f).1, .bool (h2S f).2.1, .bool (h2S f).2.2]) ∧ Frm (New w) w w' := by
  obtain ⟨f1, f2⟩ := f
  simp only [fld, str]
  go_enter Try.func93, Try.ntmps93
  go_wp2
  have HB : Blk (w.alloc (Obj.cells #[Value.string { data := List.toArray f1 }, Value.string { data := List.toArray f2 }] 30)) w.heap.size 30 #[Value.string { data := List.toArray f1 }, Value.string { data := List.toArray f2 }] := Blk.new w _ _
  have H0 : Frm (New w) w (w.alloc (Obj.cells #[Value.string { data := List.toArray f1 }, Value.string { data := List.toArray f2 }] 30)) := (Frm.refl _ _).alloc Up.new _
  generalize w.alloc (Obj.cells #[Value.string { data := List.toArray f1 }, Value.string { data := List.toArray f2 }] 30) = w1 at *
  generalize hb : w.heap.size = b at *
  have hd1 := HB.cell 0
  have hd2 := HB.cell 1
  have hb1 : b < w1.heap.size := HB.lt
  have HB := Lib.hid HB
  have H0 := Lib.hid H0
  go_region_with (first
    | (go_at_call 101
       refine (one_any _).mono ?_
       rintro e w2 ⟨g, rfl, hg, hG, hF⟩
       have hB2 : Blk w2 b 30 #[Value.string { data := List.toArray f1 }, Value.string { data := List.toArray f2 }] := Blk.fresh (w := w1.drew) HB.out hF
       have hd3 := hB2.cell 0
       have hd4 := hB2.cell 1
       have hb2 : b < w2.heap.size := hB2.lt
       clear hB2
       have HG := Lib.hid hG
       have HF := Lib.hid hF
       clear hG hF hg)
    | (go_at_call 100
       refine (find_any h2tab (f1, f2) _ _ _ HG.out.rd (by decide)).mono ?_
       rintro e w3 ⟨rfl, hF3⟩
       have HF3 := Lib.hid hF3
       clear hF3))
  all_goals
    have hle := findS_le h2tab (f1, f2)
    have HE : h2S (f1, f2) = if (findS h2tab (f1, f2)).2.1 then ((findS h2tab (f1, f2)).1 + 1, true, (findS h2tab (f1, f2)).2.2) else (0, false, false) := rfl
    generalize findS h2tab (f1, f2) = q at *
    obtain ⟨q1, q2, q3⟩ := q
    have HE := Lib.hid HE
    have hle2 : q1 ≤ 61 := hle
    clear hle
    have HZ : Frm (New w) w w3 := (H0.out.then_new Up.new (Frm.trans (w' := w1.drew) ((Frm.refl _ _).drew) HF.out)).then_new Up.new HF3.out
    have HZ := Lib.hid HZ
    cases q2
  all_goals go_wp2
  all_goals first
    | (refine bodyPost_ret (v := .tuple #[.int .u64 0, .bool false, .bool false]) (by simp [results, Try.results93, go_sem]) rfl ?_
       exact ⟨by first | rfl | trivial, HZ.out⟩)
    | (refine bodyPost_ret (v := .tuple #[.int .u64 ((q1 : Int) + 1), .bool true, .bool q3]) (by simp [results, Try.results93, go_sem]) rfl ?_
       exact ⟨by first | rfl | trivial, HZ.out⟩)
    | go_goals
end Go.Proofs.Ytcebckkpablagaa.M
