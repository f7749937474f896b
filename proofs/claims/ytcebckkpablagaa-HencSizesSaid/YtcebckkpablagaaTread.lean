/- dyn.Table's readers: Find, Newest, Cap, Len, Count. No condition. -/
import Derived.Test.YtcebckkpablagaaTab
namespace Go.Proofs.Ytcebckkpablagaa.M
open Go.ChangeShapes Go.WideShapes Go.ChangeAt Go.RowKit

section
variable {S : Nat → Prop} {g n cap c a b : Nat} {l : List Fld} {A : Option Addr} {ew : List (Fld × Value)} {en : List (Bytes × Value)}

set_option maxRecDepth 100000 in
theorem tcap_any (w : World) (h : TabAt S w g l n cap A c a b ew en) :
    Calls Try.prog 29 #[.pointer (some ⟨g, 0, none⟩)] w fun e w' => e = .returned (.int .i64 cap) ∧ w' = w := by
  have hd := h.blk.cell 2
  have hl : g < w.heap.size := h.blk.lt
  simp only [List.getElem?_toArray, List.getElem?_cons_zero, List.getElem?_cons_succ] at hd
  clear h
  go_enter Try.func29, Try.ntmps29
  go_wp2
  go_ret
  exact ⟨rfl, rfl⟩
set_option maxRecDepth 100000 in
theorem tcount_any (w : World) (h : TabAt S w g l n cap A c a b ew en) :
    Calls Try.prog 28 #[.pointer (some ⟨g, 0, none⟩)] w fun e w' => e = .returned (.int .u64 n) ∧ w' = w := by
  have hd := h.blk.cell 1
  have hl : g < w.heap.size := h.blk.lt
  simp only [List.getElem?_toArray, List.getElem?_cons_zero, List.getElem?_cons_succ] at hd
  clear h
  go_enter Try.func28, Try.ntmps28
  go_wp2
  go_ret
  exact ⟨rfl, rfl⟩
set_option maxRecDepth 100000 in
theorem tlen_any (w : World) (h : TabAt S w g l n cap A c a b ew en) :
    Calls Try.prog 23 #[.pointer (some ⟨g, 0, none⟩)] w fun e w' => e = .returned (.int .i64 (l.length : Nat)) ∧ w' = w := by
  have hd := h.blk.cell 0
  have hl : g < w.heap.size := h.blk.lt
  simp only [List.getElem?_toArray, List.getElem?_cons_zero] at hd
  clear h
  go_enter Try.func23, Try.ntmps23
  go_wp2
  go_ret
  exact ⟨rfl, rfl⟩

set_option maxRecDepth 100000 in
set_option maxHeartbeats 1000000 in
theorem tfind_any (f : Fld) (w : World) (h : TabAt S w g l n cap A c a b ew en) :
    Calls Try.prog 94 #[.pointer (some ⟨g, 0, none⟩), fld f] w fun e w' =>
      e = .returned (.tuple #[.int .u64 (Tb.find ⟨l, n, cap⟩ f).1, .bool (Tb.find ⟨l, n, cap⟩ f).2.1, .bool (Tb.find ⟨l, n, cap⟩ f).2.2]) ∧ Frm (New w) w w' := by
  obtain ⟨f1, f2⟩ := f
  have hgw := h.iw.2 (f1, f2)
  have hgn := h.im.2 f1
  have HE : Hid (Tb.find ⟨l, n, cap⟩ (f1, f2) = (match lastAt id (f1, f2) (n - l.length) l with
    | some i => (i, true, true)
    | none => match lastAt Prod.fst f1 (n - l.length) l with
      | some i => (i, true, false)
      | none => (0, false, false))) := rfl
  generalize Tb.find ⟨l, n, cap⟩ (f1, f2) = R at *
  generalize lastAt id (f1, f2) (n - l.length) l = o1 at *
  generalize lastAt Prod.fst f1 (n - l.length) l = o2 at *
  have H := Lib.hid h
  have HW := Lib.hid hgw
  have HN := Lib.hid hgn
  clear h hgw hgn
  simp only [fld, str]
  go_enter Try.func94, Try.ntmps94
  go_wp2
  have HB : Blk (w.alloc (Obj.cells #[Value.string { data := List.toArray f1 }, Value.string { data := List.toArray f2 }] 30)) w.heap.size 30 #[Value.string { data := List.toArray f1 }, Value.string { data := List.toArray f2 }] := Blk.new w _ _
  have H0 : Frm (New w) w (w.alloc (Obj.cells #[Value.string { data := List.toArray f1 }, Value.string { data := List.toArray f2 }] 30)) := (Frm.refl _ _).alloc Up.new _
  have H1 := H.out.fresh H0
  generalize w.alloc (Obj.cells #[Value.string { data := List.toArray f1 }, Value.string { data := List.toArray f2 }] 30) = w1 at *
  generalize hb : w.heap.size = bx at *
  have hx1 := HB.cell 0
  have hx2 := HB.cell 1
  have hb1 : bx < w1.heap.size := HB.lt
  have hd4 := H1.blk.cell 4
  have hd5 := H1.blk.cell 5
  have hl : g < w1.heap.size := H1.blk.lt
  simp only [List.getElem?_toArray, List.getElem?_cons_zero, List.getElem?_cons_succ] at hd4 hd5 hx1 hx2
  have hlw := fun q : Nat => run_lookup fkey (M := 100) (E := 41) Try.underlying100 (z := .int .u64 0) (by kernel_rfl) (H1.mw.fresh ((Frm.refl _ _).drewN q)) (f1, f2) true
  have hln := fun q : Nat => run_lookup skey (M := 101) (E := 41) Try.underlying101 (z := .int .u64 0) (by kernel_rfl) (H1.mn.fresh ((Frm.refl _ _).drewN q)) f1 true
  simp only [fld, str, HW.out, if_true] at hlw
  simp only [str, HN.out, if_true] at hln
  have H0 := Lib.hid H0
  clear HB H1 H HW HN hb
  cases o1 with
  | some i =>
    clear hln
    simp only [Option.bind_eq_bind, Option.bind_some, Option.pure_def, Option.map_some, Option.getD_some, Option.isSome_some] at hlw
    have HR : Hid (R = (i, true, true)) := HE.out
    clear HE
    go_quiet (fail)
    go_wp2
    refine bodyPost_ret (v := .tuple #[.int .u64 i, .bool true, .bool true]) (by simp [results, Try.results94, go_sem]) rfl ?_
    rw [HR.out]
    exact ⟨rfl, H0.out.drewN _⟩
  | none =>
    simp only [Option.bind_eq_bind, Option.bind_none, Option.map_none, Option.getD_none, Option.isSome_none] at hlw
    cases o2 with
    | some i =>
      simp only [Option.bind_eq_bind, Option.bind_some, Option.pure_def, Option.map_some, Option.getD_some, Option.isSome_some] at hln
      have HR : Hid (R = (i, true, false)) := HE.out
      clear HE
      go_quiet (fail)
      go_wp2
      go_quiet (fail)
      go_wp2
      refine bodyPost_ret (v := .tuple #[.int .u64 i, .bool true, .bool false]) (by simp [results, Try.results94, go_sem]) rfl ?_
      rw [HR.out]
      exact ⟨rfl, (H0.out.drewN _).drewN _⟩
    | none =>
      simp only [Option.bind_eq_bind, Option.bind_none, Option.map_none, Option.getD_none, Option.isSome_none] at hln
      have HR : Hid (R = (0, false, false)) := HE.out
      clear HE
      go_quiet (fail)
      go_wp2
      go_quiet (fail)
      go_wp2
      refine bodyPost_ret (v := .tuple #[.int .u64 0, .bool false, .bool false]) (by simp [results, Try.results94, go_sem]) rfl ?_
      rw [HR.out]
      exact ⟨rfl, (H0.out.drewN _).drewN _⟩
end
end Go.Proofs.Ytcebckkpablagaa.M
