/- henc: an encoder in memory; place: where a field stands. Sizes below 2^60. -/
import Derived.Test.YtcebckkpablagaaTadd
import Derived.Test.YtcebckkpablagaaTread
import Derived.Test.YtcebckkpablagaaTnew
import Derived.Test.YtcebckkpablagaaEnca
namespace Go.Proofs.Ytcebckkpablagaa.M
open Go.ChangeShapes Go.WideShapes Go.ChangeAt Go.RowKit

/-- a table, whatever its parts -/
def TabS (S : Nat → Prop) (w : World) (g : Nat) (T : Tb) : Prop := ∃ A c a b ew en, TabAt S w g T.l T.n T.cap A c a b ew en
section
variable {S M : Nat → Prop} {w w' : World} {g : Nat} {T : Tb}
theorem TabS.keep (h : TabS S w g T) (f : Frm M w w') (hM : ∀ k, S k → ¬ M k) : TabS S w' g T := by
  obtain ⟨A, c, a, b, ew, en, h⟩ := h
  exact ⟨A, c, a, b, ew, en, h.keep f hM⟩
theorem TabS.fresh (h : TabS S w g T) (f : Frm (New w) w w') : TabS S w' g T := by
  obtain ⟨A, c, a, b, ew, en, h⟩ := h
  exact ⟨A, c, a, b, ew, en, h.fresh f⟩
theorem TabS.low (h : TabS S w g T) : ∀ k, S k → k < w.heap.size := by
  obtain ⟨A, c, a, b, ew, en, h⟩ := h
  exact h.low
theorem TabS.sg (h : TabS S w g T) : S g := by
  obtain ⟨A, c, a, b, ew, en, h⟩ := h
  exact h.sg
theorem TabS.nb (h : TabS S w g T) : T.l.length ≤ T.n ∧ T.n ≤ 1152921504606846976 := by
  obtain ⟨A, c, a, b, ew, en, h⟩ := h
  exact ⟨h.le, h.nb⟩
end

/-- an encoder at block p: its table at g; the cells changed, least -/
structure EnAt (S : Nat → Prop) (w : World) (p g : Nat) (E : En) (ch : Bool) (ls : Nat) : Prop where
  blk : Blk w p 97 #[.pointer (some ⟨g, 0, none⟩), .bool ch, .int .i64 ls]
  tab : TabS S w g E.t
  out : ¬ S p
  ok : E.t.Ok
  cap : E.t.cap ≤ 4096
  lst : E.least = if ch then some ls else none
  lle : ls ≤ 4096
section
variable {S M : Nat → Prop} {w w' : World} {p g ls : Nat} {E : En} {ch : Bool}
theorem EnAt.keep (h : EnAt S w p g E ch ls) (f : Frm M w w') (hM : ∀ k, S k → ¬ M k) (hp : ¬ M p) : EnAt S w' p g E ch ls :=
  { h with blk := h.blk.keep f hp, tab := h.tab.keep f hM }
theorem EnAt.fresh (h : EnAt S w p g E ch ls) (f : Frm (New w) w w') : EnAt S w' p g E ch ls :=
  { h with blk := h.blk.fresh f, tab := h.tab.fresh f }
end

set_option maxRecDepth 100000 in
set_option maxHeartbeats 1000000 in
theorem place_any {S : Nat → Prop} {p g ls : Nat} {E : En} {ch : Bool} (f : Fld) (w : World) (h : EnAt S w p g E ch ls) :
    Calls Try.prog 76 #[.pointer (some ⟨p, 0, none⟩), fld f] w fun e w' =>
      e = .returned (.tuple #[.int .u64 (placeS E.t f).1, .bool (placeS E.t f).2]) ∧ Frm (New w) w w' := by
  have hi := h2S_le f
  obtain ⟨hnl, hnb⟩ := h.tab.nb
  have hk := Tb.find_le E.t f hnl
  have HE : Hid (placeS E.t f = match h2S f, E.t.find f with
    | (i, ok, whole), (k, there, all) =>
      if whole then (i, true) else if all then (61 + E.t.n - k, true) else if ok then (i, false) else if there then (61 + E.t.n - k, false) else (0, false)) := rfl
  have hc1 : ∀ w, Calls Try.prog 93 #[fld f] w fun e w' => e = .returned (.tuple #[.int .u64 (h2S f).1, .bool (h2S f).2.1, .bool (h2S f).2.2]) ∧ Frm (New w) w w' := findh2_any f
  have hc2 : ∀ w, TabS S w g E.t → Calls Try.prog 94 #[.pointer (some ⟨g, 0, none⟩), fld f] w fun e w' => e = .returned (.tuple #[.int .u64 (E.t.find f).1, .bool (E.t.find f).2.1, .bool (E.t.find f).2.2]) ∧ Frm (New w) w w' := fun w hw => by
    obtain ⟨A, c, a, b, ew, en, hw⟩ := hw
    exact tfind_any f w hw
  have hc3 : ∀ w, TabS S w g E.t → Calls Try.prog 28 #[.pointer (some ⟨g, 0, none⟩)] w fun e w' => e = .returned (.int .u64 E.t.n) ∧ w' = w := fun w hw => by
    obtain ⟨A, c, a, b, ew, en, hw⟩ := hw
    exact tcount_any w hw
  generalize h2S f = q at *
  obtain ⟨i, ok, whole⟩ := q
  generalize E.t.find f = r at *
  obtain ⟨k, there, all⟩ := r
  obtain ⟨f1, f2⟩ := f
  simp only [fld, str] at hc1 hc2 hi hk ⊢
  generalize hn : E.t.n = n at *
  have HC1 := Lib.hid hc1
  have HC2 := Lib.hid hc2
  have HC3 := Lib.hid hc3
  have H := Lib.hid h
  clear hc1 hc2 hc3 h hn
  go_enter Try.func76, Try.ntmps76
  go_upto_region 1 with (fail)
  have HB : Blk (w.alloc (Obj.cells #[Value.string { data := List.toArray f1 }, Value.string { data := List.toArray f2 }] 30)) w.heap.size 30 #[Value.string { data := List.toArray f1 }, Value.string { data := List.toArray f2 }] := Blk.new w _ _
  have H0 : Frm (New w) w (w.alloc (Obj.cells #[Value.string { data := List.toArray f1 }, Value.string { data := List.toArray f2 }] 30)) := (Frm.refl _ _).alloc Up.new _
  have H1 := H.out.fresh H0
  generalize w.alloc (Obj.cells #[Value.string { data := List.toArray f1 }, Value.string { data := List.toArray f2 }] 30) = w1 at *
  generalize hb : w.heap.size = b at *
  have hx1 := HB.cell 0
  have hx2 := HB.cell 1
  have hb1 : b < w1.heap.size := HB.lt
  simp only [List.getElem?_toArray, List.getElem?_cons_zero, List.getElem?_cons_succ] at hx1 hx2
  have HB := Lib.hid HB
  have H0 := Lib.hid H0
  have H1 := Lib.hid H1
  clear hb H
  go_upto_region 2 with (first
    | (go_at_call 93
       refine (HC1.out _).mono ?_
       rintro e w2 ⟨rfl, hF2⟩
       have hx3 := (HB.out.fresh hF2).cell 0
       have hx4 := (HB.out.fresh hF2).cell 1
       have hb2 : b < w2.heap.size := (HB.out.fresh hF2).lt
       have hpt := (H1.out.fresh hF2).blk.cell 0
       have hp : p < w2.heap.size := (H1.out.fresh hF2).blk.lt
       simp only [List.getElem?_toArray, List.getElem?_cons_zero, List.getElem?_cons_succ] at hx3 hx4 hpt
       have H2 := Lib.hid (H1.out.fresh hF2)
       have hF2 : Hid (Frm (New w) w w2) := H0.out.then_new Up.new hF2
       clear hx1 hx2 hb1))
  cases whole with
  | true =>
    go_wp2
    refine bodyPost_ret (v := .tuple #[.int .u64 i, .bool true]) (by simp [results, Try.results76, go_sem]) rfl ?_
    rw [HE.out]
    exact ⟨rfl, hF2.out⟩
  | false =>
    go_upto_region 4 with (fail)
    go_region_with (first
      | (go_at_call 94
         refine (HC2.out _ (by first | exact H2.out.tab | exact H2.out.tab.fresh ((Frm.refl _ _).drew))).mono ?_
         rintro e w3 ⟨rfl, hF3⟩
         have hF3 : Frm (New w2) w2 w3 := Frm.trans ((Frm.refl _ _).drew) hF3
         have H3 := Lib.hid (H2.out.fresh hF3)
         have hpt3 := H3.out.blk.cell 0
         have hp3 : p < w3.heap.size := H3.out.blk.lt
         simp only [List.getElem?_toArray, List.getElem?_cons_zero] at hpt3
         have hF3 : Hid (Frm (New w) w w3) := hF2.out.then_new Up.new hF3
         clear hF2))
    all_goals clear hx3 hx4 hb2
    all_goals rcases all with _ | _
    all_goals try rcases ok with _ | _
    all_goals try rcases there with _ | _
    all_goals go_wp2_with (first
      | (go_at_call 28
         refine (HC3.out _ H3.out.tab).mono ?_
         rintro e w4 ⟨rfl, rfl⟩))
    all_goals first
      | (refine bodyPost_ret (v := .tuple #[.int .u64 (61 + (n : Int) - k), .bool true]) (by simp [results, Try.results76, go_sem]; done) rfl ?_
         refine ⟨?_, hF3.out⟩
         rw [HE.out]
         exact ret_ib (by simp; omega) rfl)
      | (refine bodyPost_ret (v := .tuple #[.int .u64 i, .bool false]) (by simp [results, Try.results76, go_sem]; done) rfl ?_
         refine ⟨?_, hF3.out⟩
         rw [HE.out]
         exact ret_ib rfl rfl)
      | (refine bodyPost_ret (v := .tuple #[.int .u64 (61 + (n : Int) - k), .bool false]) (by simp [results, Try.results76, go_sem]; done) rfl ?_
         refine ⟨?_, hF3.out⟩
         rw [HE.out]
         exact ret_ib (by simp; omega) rfl)
      | (refine bodyPost_ret (v := .tuple #[.int .u64 0, .bool false]) (by simp [results, Try.results76, go_sem]; done) rfl ?_
         refine ⟨?_, hF3.out⟩
         rw [HE.out]
         exact ret_ib rfl rfl)
      | go_goals
end Go.Proofs.Ytcebckkpablagaa.M
