/- henc: size, one: what they write. Sizes below 2^39. -/
import Derived.Test.YtcebckkpablagaaEncb
namespace Go.Proofs.Ytcebckkpablagaa.M
open Go.ChangeShapes Go.WideShapes Go.ChangeAt Go.RowKit

set_option maxRecDepth 100000 in
set_option maxHeartbeats 1000000 in
theorem size0_any {S : Nat → Prop} {p g ls : Nat} {E : En} {ch : Bool} (w : World) (h : EnAt S w p g E ch ls) :
    Calls Try.prog 52 #[.pointer (some ⟨p, 0, none⟩), .slice none 0 0] w fun e w' =>
      ∃ A c, e = .returned (.slice A E.sizeB.length c) ∧ App (New w) w' 5 1 A E.sizeB.length c (bvs E.sizeB) ∧ EnAt S w' p g ⟨E.t, none⟩ false ls ∧ Frm (fun k => k = p ∨ New w k) w w' := by
  have hc3 : ∀ w, TabS S w g E.t → Calls Try.prog 29 #[.pointer (some ⟨g, 0, none⟩)] w fun e w' => e = .returned (.int .i64 E.t.cap) ∧ w' = w := fun w hw => by
    obtain ⟨A, c, a, b, ew, en, hw⟩ := hw
    exact tcap_any w hw
  have hb := h.blk
  have hd0 := hb.cell 0
  have hd1 := hb.cell 1
  have hd2 := hb.cell 2
  have hz1 := hb.frozen 1
  have hp : p < w.heap.size := hb.lt
  have hcap := h.cap
  have hls := h.lle
  simp only [List.getElem?_toArray, List.getElem?_cons_zero, List.getElem?_cons_succ] at hd0 hd1 hd2
  have HL : Hid (E.least = if ch then some ls else none) := h.lst
  have HS : Hid (E.sizeB = match E.least with
    | none => []
    | some m => (if m < E.t.cap then pfx 32 5 m else []) ++ pfx 32 5 E.t.cap) := rfl
  have H := Lib.hid h
  have HC3 := Lib.hid hc3
  have HB := Lib.hid hb
  clear hc3 h hb
  generalize hcc : E.t.cap = cap at *
  have HCC := Lib.hid hcc
  clear hcc
  cases ch with
  | false =>
    have hs : Hid (E.sizeB = []) := by show _ = _; rw [HS.out, HL.out]; rfl
    go_enter Try.func52, Try.ntmps52
    go_wp2
    go_ret
    rw [hs.out]
    have h := H.out
    exact ⟨none, 0, rfl, App.none_, { h with lst := rfl }, Frm.refl _ _⟩
  | true =>
    have hs : Hid (E.sizeB = (if ls < cap then pfx 32 5 ls else []) ++ pfx 32 5 cap) := by show _ = _; rw [HS.out, HL.out]; rfl
    clear HS HL
    go_enter Try.func52, Try.ntmps52
    go_upto_region 4 with (fail)
    have hb1 := HB.out.set_ 1 (.bool false)
    have hF1 : Frm (fun k => k = p ∨ New w k) w (w.setCell ⟨p, 1, none⟩ (.bool false)) := (Frm.refl _ w).setCell (.inl rfl) _
    have hT1 := H.out.tab.keep ((Frm.refl (fun k => k = p) w).setCell (p := ⟨p, 1, none⟩) rfl (.bool false)) (fun k hk c => H.out.out (by rw [← c]; exact hk))
    clear hd0 hd1 hd2 hz1 hp
    have hs1 : (w.setCell ⟨p, 1, none⟩ (.bool false)).heap.size = w.heap.size := by simp
    generalize w.setCell ⟨p, 1, none⟩ (.bool false) = w1 at *
    have H1 : Hid (EnAt S w1 p g ⟨E.t, none⟩ false ls) := ⟨hb1, hT1, H.out.out, H.out.ok, H.out.cap, rfl, H.out.lle⟩
    have hd0 := hb1.cell 0
    have hd2 := hb1.cell 2
    have hp : p < w1.heap.size := hb1.lt
    simp only [List.getElem?_toArray, List.getElem?_cons_zero, List.getElem?_cons_succ, List.setIfInBounds_toArray, List.set_cons_zero, List.set_cons_succ] at hd0 hd2
    have HF1 := Lib.hid hF1
    have HT1 := Lib.hid hT1
    have HS1 := Lib.hid hs1
    clear hb1 hF1 hT1 hs1 HB
    by_cases hq : ls < cap
    · have hs2 : Hid (E.sizeB = ([] ++ pfx 32 5 ls) ++ pfx 32 5 cap) := by show _ = _; rw [hs.out, if_pos hq]; rfl
      clear hs
      go_quiet ((go_at_call 29; refine Calls.quiet_of_same (HC3.out _ ?_); exact HT1.out.fresh ((Frm.refl _ _).drewN _)))
      have H2 := Lib.hid (H1.out.fresh ((Frm.refl _ w1).drewN nq))
      have hF2 : Hid (Frm (fun k => k = p ∨ New w k) w (w1.drewN nq)) := HF1.out.drewN nq
      have hs2' : Hid ((w1.drewN nq).heap.size = w.heap.size) := HS1.out
      replace hd0 : (w1.drewN nq).cell? ⟨p, 0, none⟩ = some (.pointer (some ⟨g, 0, none⟩)) := hd0
      replace hd2 : (w1.drewN nq).cell? ⟨p, 2, none⟩ = some (.int .i64 ls) := hd2
      replace hp : p < (w1.drewN nq).heap.size := hp
      clear H1 HF1 HT1 HS1
      generalize w1.drewN nq = w2 at *
      have t1 := trivial
      have t2 := trivial
      have hpl := pfx_length 32 5 ls
      go_upto_region 6 with (first
        | (go_at_call 75
           refine (prefix_nat [] none 0 32 5 ls _ Rd.nil (by simp) (by omega) (by omega) (by omega) (by omega)).mono ?_
           rintro e w3 ⟨A3, c3, rfl, hA3, hF3⟩
           have H3 := Lib.hid (H2.out.fresh hF3)
           have hF3' : Hid (Frm (fun k => k = p ∨ New w k) w w3) := hF2.out.trans (hF3.mono (fun k hk => .inr (by have := hs2'.out; unfold New at hk ⊢; omega)))
           have hd3 := H3.out.blk.cell 0
           have hp3 : p < w3.heap.size := H3.out.blk.lt
           simp only [List.getElem?_toArray, List.getElem?_cons_zero] at hd3
           have hln : ([] ++ pfx 32 5 ls).length ≤ 12 := hpl
           have hsz := hF3.size
           have hA3 := Lib.hid hA3
           clear hd0 hd2 hp H2 hF3 hF2
           generalize [] ++ pfx 32 5 ls = l3 at *))
      go_wp2_with (first
        | (go_at_call 29; refine (HC3.out _ (H3.out.tab)).mono ?_; rintro e w4 ⟨rfl, rfl⟩)
        | (go_at_call 75
           refine (prefix_nat l3 A3 c3 32 5 cap _ hA3.out.rd (by omega) (by omega) (by omega) (by omega) (by omega)).mono ?_
           rintro e w5 ⟨A5, c5, rfl, hA5, hF5⟩
           have H5 := Lib.hid (H3.out.fresh hF5)
           have hsz5 := hF5.size
           have hw2 := hs2'.out
           have hF5 : Hid (Frm (fun k => k = p ∨ New w k) w w5) := hF3'.out.trans (hF5.mono (fun k hk => .inr (by unfold New at hk ⊢; omega)))
           have hA5 : Hid (App (New w) w5 5 1 A5 (l3 ++ pfx 32 5 cap).length c5 (bvs (l3 ++ pfx 32 5 cap))) := hA5.mono (fun k hk => by unfold New at hk ⊢; omega)))
      go_ret
      rw [hs2.out]
      exact ⟨A5, c5, by simp, hA5.out, H5.out, hF5.out⟩
    · have hs2 : Hid (E.sizeB = [] ++ pfx 32 5 cap) := by show _ = _; rw [hs.out, if_neg hq]
      clear hs
      go_quiet ((go_at_call 29; refine Calls.quiet_of_same (HC3.out _ ?_); exact HT1.out.fresh ((Frm.refl _ _).drewN _)))
      have H2 := Lib.hid (H1.out.fresh ((Frm.refl _ w1).drewN nq))
      have hF2 : Hid (Frm (fun k => k = p ∨ New w k) w (w1.drewN nq)) := HF1.out.drewN nq
      have hs2' : Hid ((w1.drewN nq).heap.size = w.heap.size) := HS1.out
      replace hd0 : (w1.drewN nq).cell? ⟨p, 0, none⟩ = some (.pointer (some ⟨g, 0, none⟩)) := hd0
      replace hp : p < (w1.drewN nq).heap.size := hp
      clear H1 HF1 HT1 HS1 hd2
      generalize w1.drewN nq = w2 at *
      go_wp2_with (first
        | (go_at_call 29; refine (HC3.out _ (H2.out.tab)).mono ?_; rintro e w4 ⟨rfl, rfl⟩)
        | (go_at_call 75
           refine (prefix_nat [] none 0 32 5 cap _ Rd.nil (by simp) (by omega) (by omega) (by omega) (by omega)).mono ?_
           rintro e w5 ⟨A5, c5, rfl, hA5, hF5⟩
           have H5 := Lib.hid (H2.out.fresh hF5)
           have hsz5 := hF5.size
           have hw2 := hs2'.out
           have hF5 : Hid (Frm (fun k => k = p ∨ New w k) w w5) := hF2.out.trans (hF5.mono (fun k hk => .inr (by unfold New at hk ⊢; omega)))
           have hA5 : Hid (App (New w) w5 5 1 A5 ([] ++ pfx 32 5 cap).length c5 (bvs ([] ++ pfx 32 5 cap))) := hA5.mono (fun k hk => by unfold New at hk ⊢; omega)))
      go_ret
      rw [hs2.out]
      exact ⟨A5, c5, rfl, hA5.out, H5.out, hF5.out⟩
end Go.Proofs.Ytcebckkpablagaa.M
