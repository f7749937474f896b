/- henc.limited, Secret: what they tell. No condition. henc: an encoder in memory; place: where a field stands. Sizes below 2^60. henc: size, one: what they write. Sizes below 2^39. -/
import Derived.Test.YtcebckkpablagaaEncp
import Derived.Test.YtcebckkpablagaaTadd
import Derived.Test.YtcebckkpablagaaTab
namespace Go.Proofs.Ytcebckkpablagaa.M
open Go.ChangeShapes Go.WideShapes Go.ChangeAt Go.RowKit

set_option maxRecDepth 100000 in
set_option maxHeartbeats 1000000 in
theorem limited_any (n : Int) (h0 : -9223372036854775808 ≤ n) (h1 : n ≤ 9223372036854775807) (w : World) :
    Calls Try.prog 51 #[.int .i64 n] w fun e w' => e = .returned (.int .i64 (lim n : Nat)) ∧ w' = w := by
  have hl : ((lim n : Nat) : Int) = min (max n 0) 4096 := by unfold lim; omega
  have HL := Lib.hid hl
  clear hl
  go_enter Try.func51, Try.ntmps51
  go_wp2
  all_goals go_ret
  all_goals refine ⟨ret_int ?_, rfl⟩
  all_goals have hq := HL.out
  all_goals rename_i hh
  all_goals first
    | (rw [if_neg (by omega)] at hh; omega)
    | (rw [if_pos (by omega)] at hh; omega)

set_option maxRecDepth 100000 in
set_option maxHeartbeats 1000000 in
theorem secret_any (s : Bytes) (w : World) :
    Calls Try.prog 77 #[str s] w fun e w' => e = .returned (.bool (secret s)) ∧ w' = w := by
  simp only [str]
  have HS : Hid (secret s = (decide (s = bAuth) || (decide (s = bCookie) || decide (s = bSetCookie)))) := rfl
  have e1 : (⟨s.toArray⟩ : ByteArray).toList = s := mk_toList s
  by_cases h1 : s = bAuth
  · subst h1
    go_enter Try.func77, Try.ntmps77
    go_wp2
    go_ret
    exact ⟨rfl, rfl⟩
  · by_cases h2 : s = bCookie
    · subst h2
      go_enter Try.func77, Try.ntmps77
      go_wp2
      go_ret
      exact ⟨rfl, rfl⟩
    · by_cases h3 : s = bSetCookie
      · subst h3
        go_enter Try.func77, Try.ntmps77
        go_wp2
        go_ret
        exact ⟨rfl, rfl⟩
      · have hr : secret s = false := by rw [HS.out, decide_eq_false h1, decide_eq_false h2, decide_eq_false h3]; rfl
        have HR := Lib.hid hr
        clear hr HS
        go_enter Try.func77, Try.ntmps77
        go_wp2
        go_ret
        refine ⟨ret_bool ?_, rfl⟩
        rw [HR.out]
        simp only [Bool.or_eq_false_iff, beq_eq_false_iff_ne, ne_eq]
        exact ⟨⟨h1, h2⟩, h3⟩
end Go.Proofs.Ytcebckkpablagaa.M
namespace Go.Proofs.Ytcebckkpablagaa.M
open Go.ChangeShapes Go.WideShapes Go.ChangeAt Go.RowKit

/-- a table, whatever its parts -/
def TabS (S : Nat → Prop) (w : World) (g : Nat) (T : Tb) : Prop := ∃ A c a b ew en, TabAt S w g T.l T.n T.cap A c a b ew en
section
variable {S M : Nat → Prop} {w w' : World} {g : Nat} {T : Tb}
theorem TabS.keep (h : TabS S w g T) (f : Frm M w w') (hM : ∀ k, S k → ¬ M k) : TabS S w' g T := by
  obtain ⟨A, c, a, b, ew, en, h⟩ := h
  exact ⟨A, c, a, b, ew, en, h.keep f hM⟩
theorem TabS.fresh (h : TabS S w g T) (f : Frm (New w) w w') : TabS S w' g T := by
  obtain ⟨A, c, a, b, ew, en, h⟩ := h
  exact ⟨A, c, a, b, ew, en, h.fresh f⟩
theorem TabS.low (h : TabS S w g T) : ∀ k, S k → k < w.heap.size := by
  obtain ⟨A, c, a, b, ew, en, h⟩ := h
  exact h.low
theorem TabS.sg (h : TabS S w g T) : S g := by
  obtain ⟨A, c, a, b, ew, en, h⟩ := h
  exact h.sg
theorem TabS.nb (h : TabS S w g T) : T.l.length ≤ T.n ∧ T.n ≤ 1152921504606846976 := by
  obtain ⟨A, c, a, b, ew, en, h⟩ := h
  exact ⟨h.le, h.nb⟩
end

/-- an encoder at block p: its table at g; the cells changed, least -/
structure EnAt (S : Nat → Prop) (w : World) (p g : Nat) (E : En) (ch : Bool) (ls : Nat) : Prop where
  blk : Blk w p 97 #[.pointer (some ⟨g, 0, none⟩), .bool ch, .int .i64 ls]
  tab : TabS S w g E.t
  out : ¬ S p
  ok : E.t.Ok
  cap : E.t.cap ≤ 4096
  lst : E.least = if ch then some ls else none
  lle : ls ≤ 4096
section
variable {S M : Nat → Prop} {w w' : World} {p g ls : Nat} {E : En} {ch : Bool}
theorem EnAt.keep (h : EnAt S w p g E ch ls) (f : Frm M w w') (hM : ∀ k, S k → ¬ M k) (hp : ¬ M p) : EnAt S w' p g E ch ls :=
  { h with blk := h.blk.keep f hp, tab := h.tab.keep f hM }
theorem EnAt.fresh (h : EnAt S w p g E ch ls) (f : Frm (New w) w w') : EnAt S w' p g E ch ls :=
  { h with blk := h.blk.fresh f, tab := h.tab.fresh f }
end

set_option maxRecDepth 100000 in
set_option maxHeartbeats 1000000 in
theorem place_any {S : Nat → Prop} {p g ls : Nat} {E : En} {ch : Bool} (f : Fld) (w : World) (h : EnAt S w p g E ch ls) :
    Calls Try.prog 76 #[.pointer (some ⟨p, 0, none⟩), fld f] w fun e w' =>
      e = .returned (.tuple #[.int .u64 (placeS E.t f).1, .bool (placeS E.t f).2]) ∧ Frm (New w) w w' := by
  have hi := h2S_le f
  obtain ⟨hnl, hnb⟩ := h.tab.nb
  have hk := Tb.find_le E.t f hnl
  have HE : Hid (placeS E.t f = match h2S f, E.t.find f with
    | (i, ok, whole), (k, there, all) =>
      if whole then (i, true) else if all then (61 + E.t.n - k, true) else if ok then (i, false) else if there then (61 + E.t.n - k, false) else (0, false)) := rfl
  have hc1 : ∀ w, Calls Try.prog 93 #[fld f] w fun e w' => e = .returned (.tuple #[.int .u64 (h2S f).1, .bool (h2S f).2.1, .bool (h2S f).2.2]) ∧ Frm (New w) w w' := findh2_any f
  have hc2 : ∀ w, TabS S w g E.t → Calls Try.prog 94 #[.pointer (some ⟨g, 0, none⟩), fld f] w fun e w' => e = .returned (.tuple #[.int .u64 (E.t.find f).1, .bool (E.t.find f).2.1, .bool (E.t.find f).2.2]) ∧ Frm (New w) w w' := fun w hw => by
    obtain ⟨A, c, a, b, ew, en, hw⟩ := hw
    exact tfind_any f w hw
  have hc3 : ∀ w, TabS S w g E.t → Calls Try.prog 28 #[.pointer (some ⟨g, 0, none⟩)] w fun e w' => e = .returned (.int .u64 E.t.n) ∧ w' = w := fun w hw => by
    obtain ⟨A, c, a, b, ew, en, hw⟩ := hw
    exact tcount_any w hw
  generalize h2S f = q at *
  obtain ⟨i, ok, whole⟩ := q
  generalize E.t.find f = r at *
  obtain ⟨k, there, all⟩ := r
  obtain ⟨f1, f2⟩ := f
  simp only [fld, str] at hc1 hc2 hi hk ⊢
  generalize hn : E.t.n = n at *
  have HC1 := Lib.hid hc1
  have HC2 := Lib.hid hc2
  have HC3 := Lib.hid hc3
  have H := Lib.hid h
  clear hc1 hc2 hc3 h hn
  go_enter Try.func76, Try.ntmps76
  go_upto_region 1 with (fail)
  have HB : Blk (w.alloc (Obj.cells #[Value.string { data := List.toArray f1 }, Value.string { data := List.toArray f2 }] 30)) w.heap.size 30 #[Value.string { data := List.toArray f1 }, Value.string { data := List.toArray f2 }] := Blk.new w _ _
  have H0 : Frm (New w) w (w.alloc (Obj.cells #[Value.string { data := List.toArray f1 }, Value.string { data := List.toArray f2 }] 30)) := (Frm.refl _ _).alloc Up.new _
  have H1 := H.out.fresh H0
  generalize w.alloc (Obj.cells #[Value.string { data := List.toArray f1 }, Value.string { data := List.toArray f2 }] 30) = w1 at *
  generalize hb : w.heap.size = b at *
  have hx1 := HB.cell 0
  have hx2 := HB.cell 1
  have hb1 : b < w1.heap.size := HB.lt
  simp only [List.getElem?_toArray, List.getElem?_cons_zero, List.getElem?_cons_succ] at hx1 hx2
  have HB := Lib.hid HB
  have H0 := Lib.hid H0
  have H1 := Lib.hid H1
  clear hb H
  go_upto_region 2 with (first
    | (go_at_call 93
       refine (HC1.out _).mono ?_
       rintro e w2 ⟨rfl, hF2⟩
       have hx3 := (HB.out.fresh hF2).cell 0
       have hx4 := (HB.out.fresh hF2).cell 1
       have hb2 : b < w2.heap.size := (HB.out.fresh hF2).lt
       have hpt := (H1.out.fresh hF2).blk.cell 0
       have hp : p < w2.heap.size := (H1.out.fresh hF2).blk.lt
       simp only [List.getElem?_toArray, List.getElem?_cons_zero, List.getElem?_cons_succ] at hx3 hx4 hpt
       have H2 := Lib.hid (H1.out.fresh hF2)
       have hF2 : Hid (Frm (New w) w w2) := H0.out.then_new Up.new hF2
       clear hx1 hx2 hb1))
  cases whole with
  | true =>
    go_wp2
    refine bodyPost_ret (v := .tuple #[.int .u64 i, .bool true]) (by simp [results, Try.results76, go_sem]) rfl ?_
    rw [HE.out]
    exact ⟨rfl, hF2.out⟩
  | false =>
    go_upto_region 4 with (fail)
    go_region_with (first
      | (go_at_call 94
         refine (HC2.out _ (by first | exact H2.out.tab | exact H2.out.tab.fresh ((Frm.refl _ _).drew))).mono ?_
         rintro e w3 ⟨rfl, hF3⟩
         have hF3 : Frm (New w2) w2 w3 := Frm.trans ((Frm.refl _ _).drew) hF3
         have H3 := Lib.hid (H2.out.fresh hF3)
         have hpt3 := H3.out.blk.cell 0
         have hp3 : p < w3.heap.size := H3.out.blk.lt
         simp only [List.getElem?_toArray, List.getElem?_cons_zero] at hpt3
         have hF3 : Hid (Frm (New w) w w3) := hF2.out.then_new Up.new hF3
         clear hF2))
    all_goals clear hx3 hx4 hb2
    all_goals rcases all with _ | _
    all_goals try rcases ok with _ | _
    all_goals try rcases there with _ | _
    all_goals go_wp2_with (first
      | (go_at_call 28
         refine (HC3.out _ H3.out.tab).mono ?_
         rintro e w4 ⟨rfl, rfl⟩))
    all_goals first
      | (refine bodyPost_ret (v := .tuple #[.int .u64 (61 + (n : Int) - k), .bool true]) (by simp [results, Try.results76, go_sem]; done) rfl ?_
         refine ⟨?_, hF3.out⟩
         rw [HE.out]
         exact ret_ib (by simp; omega) rfl)
      | (refine bodyPost_ret (v := .tuple #[.int .u64 i, .bool false]) (by simp [results, Try.results76, go_sem]; done) rfl ?_
         refine ⟨?_, hF3.out⟩
         rw [HE.out]
         exact ret_ib rfl rfl)
      | (refine bodyPost_ret (v := .tuple #[.int .u64 (61 + (n : Int) - k), .bool false]) (by simp [results, Try.results76, go_sem]; done) rfl ?_
         refine ⟨?_, hF3.out⟩
         rw [HE.out]
         exact ret_ib (by simp; omega) rfl)
      | (refine bodyPost_ret (v := .tuple #[.int .u64 0, .bool false]) (by simp [results, Try.results76, go_sem]; done) rfl ?_
         refine ⟨?_, hF3.out⟩
         rw [HE.out]
         exact ret_ib rfl rfl)
      | go_goals
end Go.Proofs.Ytcebckkpablagaa.M
namespace Go.Proofs.Ytcebckkpablagaa.M
open Go.ChangeShapes Go.WideShapes Go.ChangeAt Go.RowKit

set_option maxRecDepth 100000 in
set_option maxHeartbeats 1000000 in
theorem size0_any {S : Nat → Prop} {p g ls : Nat} {E : En} {ch : Bool} (w : World) (h : EnAt S w p g E ch ls) :
    Calls Try.prog 52 #[.pointer (some ⟨p, 0, none⟩), .slice none 0 0] w fun e w' =>
      ∃ A c, e = .returned (.slice A E.sizeB.length c) ∧ App (New w) w' 5 1 A E.sizeB.length c (bvs E.sizeB) ∧ EnAt S w' p g ⟨E.t, none⟩ false ls ∧ Frm (fun k => k = p ∨ New w k) w w' := by
  have hc3 : ∀ w, TabS S w g E.t → Calls Try.prog 29 #[.pointer (some ⟨g, 0, none⟩)] w fun e w' => e = .returned (.int .i64 E.t.cap) ∧ w' = w := fun w hw => by
    obtain ⟨A, c, a, b, ew, en, hw⟩ := hw
    exact tcap_any w hw
  have hb := h.blk
  have hd0 := hb.cell 0
  have hd1 := hb.cell 1
  have hd2 := hb.cell 2
  have hz1 := hb.frozen 1
  have hp : p < w.heap.size := hb.lt
  have hcap := h.cap
  have hls := h.lle
  simp only [List.getElem?_toArray, List.getElem?_cons_zero, List.getElem?_cons_succ] at hd0 hd1 hd2
  have HL : Hid (E.least = if ch then some ls else none) := h.lst
  have HS : Hid (E.sizeB = match E.least with
    | none => []
    | some m => (if m < E.t.cap then pfx 32 5 m else []) ++ pfx 32 5 E.t.cap) := rfl
  have H := Lib.hid h
  have HC3 := Lib.hid hc3
  have HB := Lib.hid hb
  clear hc3 h hb
  generalize hcc : E.t.cap = cap at *
  have HCC := Lib.hid hcc
  clear hcc
  cases ch with
  | false =>
    have hs : Hid (E.sizeB = []) := by show _ = _; rw [HS.out, HL.out]; rfl
    go_enter Try.func52, Try.ntmps52
    go_wp2
    go_ret
    rw [hs.out]
    have h := H.out
    exact ⟨none, 0, rfl, App.none_, { h with lst := rfl }, Frm.refl _ _⟩
  | true =>
    have hs : Hid (E.sizeB = (if ls < cap then pfx 32 5 ls else []) ++ pfx 32 5 cap) := by show _ = _; rw [HS.out, HL.out]; rfl
    clear HS HL
    go_enter Try.func52, Try.ntmps52
    go_upto_region 4 with (fail)
    have hb1 := HB.out.set_ 1 (.bool false)
    have hF1 : Frm (fun k => k = p ∨ New w k) w (w.setCell ⟨p, 1, none⟩ (.bool false)) := (Frm.refl _ w).setCell (.inl rfl) _
    have hT1 := H.out.tab.keep ((Frm.refl (fun k => k = p) w).setCell (p := ⟨p, 1, none⟩) rfl (.bool false)) (fun k hk c => H.out.out (by rw [← c]; exact hk))
    clear hd0 hd1 hd2 hz1 hp
    have hs1 : (w.setCell ⟨p, 1, none⟩ (.bool false)).heap.size = w.heap.size := by simp
    generalize w.setCell ⟨p, 1, none⟩ (.bool false) = w1 at *
    have H1 : Hid (EnAt S w1 p g ⟨E.t, none⟩ false ls) := ⟨hb1, hT1, H.out.out, H.out.ok, H.out.cap, rfl, H.out.lle⟩
    have hd0 := hb1.cell 0
    have hd2 := hb1.cell 2
    have hp : p < w1.heap.size := hb1.lt
    simp only [List.getElem?_toArray, List.getElem?_cons_zero, List.getElem?_cons_succ, List.setIfInBounds_toArray, List.set_cons_zero, List.set_cons_succ] at hd0 hd2
    have HF1 := Lib.hid hF1
    have HT1 := Lib.hid hT1
    have HS1 := Lib.hid hs1
    clear hb1 hF1 hT1 hs1 HB
    by_cases hq : ls < cap
    · have hs2 : Hid (E.sizeB = ([] ++ pfx 32 5 ls) ++ pfx 32 5 cap) := by show _ = _; rw [hs.out, if_pos hq]; rfl
      clear hs
      go_quiet ((go_at_call 29; refine Calls.quiet_of_same (HC3.out _ ?_); exact HT1.out.fresh ((Frm.refl _ _).drewN _)))
      have H2 := Lib.hid (H1.out.fresh ((Frm.refl _ w1).drewN nq))
      have hF2 : Hid (Frm (fun k => k = p ∨ New w k) w (w1.drewN nq)) := HF1.out.drewN nq
      have hs2' : Hid ((w1.drewN nq).heap.size = w.heap.size) := HS1.out
      replace hd0 : (w1.drewN nq).cell? ⟨p, 0, none⟩ = some (.pointer (some ⟨g, 0, none⟩)) := hd0
      replace hd2 : (w1.drewN nq).cell? ⟨p, 2, none⟩ = some (.int .i64 ls) := hd2
      replace hp : p < (w1.drewN nq).heap.size := hp
      clear H1 HF1 HT1 HS1
      generalize w1.drewN nq = w2 at *
      have t1 := trivial
      have t2 := trivial
      have hpl := pfx_length 32 5 ls
      go_upto_region 6 with (first
        | (go_at_call 75
           refine (prefix_nat [] none 0 32 5 ls _ Rd.nil (by simp) (by omega) (by omega) (by omega) (by omega)).mono ?_
           rintro e w3 ⟨A3, c3, rfl, hA3, hF3⟩
           have H3 := Lib.hid (H2.out.fresh hF3)
           have hF3' : Hid (Frm (fun k => k = p ∨ New w k) w w3) := hF2.out.trans (hF3.mono (fun k hk => .inr (by have := hs2'.out; unfold New at hk ⊢; omega)))
           have hd3 := H3.out.blk.cell 0
           have hp3 : p < w3.heap.size := H3.out.blk.lt
           simp only [List.getElem?_toArray, List.getElem?_cons_zero] at hd3
           have hln : ([] ++ pfx 32 5 ls).length ≤ 12 := hpl
           have hsz := hF3.size
           have hA3 := Lib.hid hA3
           clear hd0 hd2 hp H2 hF3 hF2
           generalize [] ++ pfx 32 5 ls = l3 at *))
      go_wp2_with (first
        | (go_at_call 29; refine (HC3.out _ (H3.out.tab)).mono ?_; rintro e w4 ⟨rfl, rfl⟩)
        | (go_at_call 75
           refine (prefix_nat l3 A3 c3 32 5 cap _ hA3.out.rd (by omega) (by omega) (by omega) (by omega) (by omega)).mono ?_
           rintro e w5 ⟨A5, c5, rfl, hA5, hF5⟩
           have H5 := Lib.hid (H3.out.fresh hF5)
           have hsz5 := hF5.size
           have hw2 := hs2'.out
           have hF5 : Hid (Frm (fun k => k = p ∨ New w k) w w5) := hF3'.out.trans (hF5.mono (fun k hk => .inr (by unfold New at hk ⊢; omega)))
           have hA5 : Hid (App (New w) w5 5 1 A5 (l3 ++ pfx 32 5 cap).length c5 (bvs (l3 ++ pfx 32 5 cap))) := hA5.mono (fun k hk => by unfold New at hk ⊢; omega)))
      go_ret
      rw [hs2.out]
      exact ⟨A5, c5, by simp, hA5.out, H5.out, hF5.out⟩
    · have hs2 : Hid (E.sizeB = [] ++ pfx 32 5 cap) := by show _ = _; rw [hs.out, if_neg hq]
      clear hs
      go_quiet ((go_at_call 29; refine Calls.quiet_of_same (HC3.out _ ?_); exact HT1.out.fresh ((Frm.refl _ _).drewN _)))
      have H2 := Lib.hid (H1.out.fresh ((Frm.refl _ w1).drewN nq))
      have hF2 : Hid (Frm (fun k => k = p ∨ New w k) w (w1.drewN nq)) := HF1.out.drewN nq
      have hs2' : Hid ((w1.drewN nq).heap.size = w.heap.size) := HS1.out
      replace hd0 : (w1.drewN nq).cell? ⟨p, 0, none⟩ = some (.pointer (some ⟨g, 0, none⟩)) := hd0
      replace hp : p < (w1.drewN nq).heap.size := hp
      clear H1 HF1 HT1 HS1 hd2
      generalize w1.drewN nq = w2 at *
      go_wp2_with (first
        | (go_at_call 29; refine (HC3.out _ (H2.out.tab)).mono ?_; rintro e w4 ⟨rfl, rfl⟩)
        | (go_at_call 75
           refine (prefix_nat [] none 0 32 5 cap _ Rd.nil (by simp) (by omega) (by omega) (by omega) (by omega)).mono ?_
           rintro e w5 ⟨A5, c5, rfl, hA5, hF5⟩
           have H5 := Lib.hid (H2.out.fresh hF5)
           have hsz5 := hF5.size
           have hw2 := hs2'.out
           have hF5 : Hid (Frm (fun k => k = p ∨ New w k) w w5) := hF2.out.trans (hF5.mono (fun k hk => .inr (by unfold New at hk ⊢; omega)))
           have hA5 : Hid (App (New w) w5 5 1 A5 ([] ++ pfx 32 5 cap).length c5 (bvs ([] ++ pfx 32 5 cap))) := hA5.mono (fun k hk => by unfold New at hk ⊢; omega)))
      go_ret
      rw [hs2.out]
      exact ⟨A5, c5, rfl, hA5.out, H5.out, hF5.out⟩
end Go.Proofs.Ytcebckkpablagaa.M
