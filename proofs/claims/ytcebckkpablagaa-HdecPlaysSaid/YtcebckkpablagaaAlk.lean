/- The document's Limit; bifoldlaw6.alike of two decoders that are alike. No condition. -/
import Derived.Deep.CutBlock
import Derived.BigQuiet
import Derived.Deep.RegionHeld3
import Derived.Test.YtcebckkpablagaaTwo
import Derived.Test.YtcebckkpablagaaNewest
import Derived.Test.YtcebckkpablagaaRtab
namespace Go.Proofs.Ytcebckkpablagaa.M
open Go.ChangeShapes Go.WideShapes Go.ChangeAt Go.RowKit

section
variable {S : Nat → Prop} {w w' : World} {p g : Nat} {D : De}
theorem RDeAt.setmax (h : RDeAt S w p g D) (c : Nat) (hc : c ≤ 4096) : RDeAt S (w.setCell ⟨p, 1, none⟩ (.int .i64 c)) p g { D with max := c } := by
  have hF : Frm (fun k => k = p) w (w.setCell ⟨p, 1, none⟩ (.int .i64 c)) := (Frm.refl (fun k => k = p) w).setCell (p := ⟨p, 1, none⟩) rfl _
  have hb := h.blk.set_ 1 (.int .i64 c)
  exact { h with blk := by simpa using hb, tab := h.tab.keep hF (fun k hk e => h.out (by rw [← e]; exact hk)), max := hc }
theorem RDeAt.setmust (h : RDeAt S w p g D) (m : Bool) : RDeAt S (w.setCell ⟨p, 2, none⟩ (.bool m)) p g { D with must := m } := by
  have hF : Frm (fun k => k = p) w (w.setCell ⟨p, 2, none⟩ (.bool m)) := (Frm.refl (fun k => k = p) w).setCell (p := ⟨p, 2, none⟩) rfl _
  have hb := h.blk.set_ 2 (.bool m)
  exact { h with blk := by simpa using hb, tab := h.tab.keep hF (fun k hk e => h.out (by rw [← e]; exact hk)) }
theorem RDeAt.resized {c : Nat} (h : RDeAt S w p g D) (hT : RTabS S w' g (D.t.resize c)) (f : Frm (fun k => k = g) w w') (hc : c ≤ 4096) : RDeAt S w' p g { D with t := D.t.resize c } :=
  { h with blk := h.blk.keep f (fun q => h.out (by rw [q]; exact h.tab.sg)), tab := hT, cap := hc, ok := h.ok.resize c }
end

set_option maxRecDepth 100000 in
set_option maxHeartbeats 2000000 in
theorem rdlimit_any {S : Nat → Prop} {p g : Nat} {D : De} (n : Int) (h0 : -9223372036854775808 ≤ n) (h1 : n ≤ 9223372036854775807) (w : World) (h : RDeAt S w p g D) :
    Calls Try.prog 47 #[.pointer (some ⟨p, 0, none⟩), .int .i64 n] w fun e w' => e = .returned (.tuple #[]) ∧ RDeAt S w' p g (D.limit n) ∧ Frm (Wrt w S p) w w' := by
  have hlim := lim_le n
  have hc := fun w => clamp_any n h0 h1 w
  have HE : Hid (D.limit n = if lim n < D.t.cap then ⟨D.t.resize (lim n), lim n, true, D.bad⟩ else { D with max := lim n }) := rfl
  generalize lim n = c at *
  have hM1 := h.setmax c hlim
  have hF1 : Frm (Wrt w S p) w (w.setCell ⟨p, 1, none⟩ (.int .i64 c)) := (Frm.refl _ w).setCell (p := ⟨p, 1, none⟩) (.inl rfl) _
  have hs1 : (w.setCell ⟨p, 1, none⟩ (.int .i64 c)).heap.size = w.heap.size := by simp
  have hb := h.blk
  have hd1 := hb.cell 1
  simp only [List.getElem?_toArray, List.getElem?_cons_zero, List.getElem?_cons_succ] at hd1
  have hz1 := hb.frozen 1
  have hp := hb.lt
  have HB := Lib.hid hb
  have H := Lib.hid h
  have HC := Lib.hid hc
  have HM1 := Lib.hid hM1
  have HF1 := Lib.hid hF1
  have HS1 := Lib.hid hs1
  clear hb h hc hM1 hF1 hs1
  go_enter Try.func47, Try.ntmps47
  go_upto_region 1 with (go_at_call 55; refine (HC.out _).mono ?_; rintro e w1 ⟨rfl, hw1⟩; rw [hw1]; clear hw1 w1)
  generalize w.setCell ⟨p, 1, none⟩ (.int .i64 c) = w1 at *
  clear hd1 hz1
  have hb := HM1.out.blk
  have hd0 := hb.cell 0
  have hd1 := hb.cell 1
  simp only [List.getElem?_toArray, List.getElem?_cons_zero, List.getElem?_cons_succ] at hd0 hd1
  have hp := hb.lt
  obtain ⟨A, cA, hT⟩ := HM1.out.tab
  have hbg := hT.blk
  have hg1 := hbg.cell 1
  simp only [List.getElem?_toArray, List.getElem?_cons_zero, List.getElem?_cons_succ] at hg1
  have hgl := hbg.lt
  have HB := Lib.hid hb
  have HT := Lib.hid hT
  have HBG := Lib.hid hbg
  clear hb hT hbg
  by_cases hlt : c < D.t.cap
  · have hgt : decide ((c : Int) < (D.t.cap : Int)) = true := decide_eq_true (by omega)
    have HLT := Lib.hid hlt
    clear hlt
    go_quiet (fail)
    have hfn : Frm (New w1) w1 (w1.drewN nq) := (Frm.refl _ _).drewN _
    have hM2 := HM1.out.fresh hfn
    have hF2 : Frm (Wrt w S p) w (w1.drewN nq) := HF1.out.trans (hfn.mono (fun k hk => .inr (.inr (by have := HS1.out; unfold New at hk; omega))))
    generalize w1.drewN nq = w2 at *
    clear hfn hd0 hd1 hp hg1 hgl
    go_upto_region 2 with (fail)
    have hb := hM2.blk
    have hd0 := hb.cell 0
    have hd1 := hb.cell 1
    simp only [List.getElem?_toArray, List.getElem?_cons_zero, List.getElem?_cons_succ] at hd0 hd1
    have hp := hb.lt
    have HB := Lib.hid hb
    have HM2 := Lib.hid hM2
    have HF2 := Lib.hid hF2
    clear hb hM2 hF2
    go_cut [] from 4 (fun w5 => ∃ w3, w5 = w3 ∧ Hid (RTabS S w3 g (D.t.resize c)) ∧ Hid (Frm (fun k => k = g) w2 w3))
    case first =>
      go_region_held3 (fun w' => w'.cell? ⟨p, 0, none⟩ = some (.pointer (some ⟨g, 0, none⟩)) ∧ w'.cell? ⟨p, 1, none⟩ = some (.int .i64 c))
        (first
          | exact HS11.out
          | exact ⟨hd0, hd1⟩
          | go_keep)
        (first
          | (go_at_call 62
             refine (rtresize_any c _ (HM2.out.tab.fresh (Frm.refl _ _).drew) (by omega)).mono ?_
             rintro e w5 ⟨⟨m, rfl⟩, hT5, hF5⟩
             have hF5' : Frm (fun k => k = g) w2 w5 := Frm.trans ((Frm.refl (fun k => k = g) w2).drew) hF5
             have HT5 := Lib.hid hT5
             have HF5 := Lib.hid hF5'
             have HS11 : Hid (w5.cell? ⟨p, 0, none⟩ = some (.pointer (some ⟨g, 0, none⟩)) ∧ w5.cell? ⟨p, 1, none⟩ = some (.int .i64 c)) := ⟨(HM2.out.resized hT5 hF5' hlim).blk.cell 0, (HM2.out.resized hT5 hF5' hlim).blk.cell 1⟩
             clear hT5 hF5 hF5')
          | fail)
      go_wp2
      go_meet
      exact ⟨_, rfl, HT5, HF5⟩
    case rest =>
      obtain ⟨w3, rfl, hT5, hF5⟩ := hcut
      rename World => w3
      have hM3 := HM2.out.resized hT5.out hF5.out hlim
      have hb := hM3.blk
      have hd2 := hb.cell 2
      simp only [List.getElem?_toArray, List.getElem?_cons_zero, List.getElem?_cons_succ] at hd2
      have hz2 := hb.frozen 2
      have hp := hb.lt
      have hM4 := hM3.setmust true
      have hsg := HM2.out.tab.sg
      have HB := Lib.hid hb
      have HM3 := Lib.hid hM3
      have HM4 := Lib.hid hM4
      clear hb hM3 hM4
      go_wp2
      go_end0
      refine ⟨rfl, ?_, ?_⟩
      · rw [HE.out, if_pos HLT.out]
        exact HM4.out
      · exact (HF2.out.trans (hF5.out.mono (fun k hk => .inr (.inl (by rw [hk]; exact hsg))))).setCell (p := ⟨p, 2, none⟩) (.inl rfl) _
  · have hgt : decide ((c : Int) < (D.t.cap : Int)) = false := decide_eq_false (by omega)
    have HLT := Lib.hid hlt
    clear hlt
    go_quiet (fail)
    have hfn : Frm (New w1) w1 (w1.drewN nq) := (Frm.refl _ _).drewN _
    have hM2 := HM1.out.fresh hfn
    have hF2 : Frm (Wrt w S p) w (w1.drewN nq) := HF1.out.trans (hfn.mono (fun k hk => .inr (.inr (by have := HS1.out; unfold New at hk; omega))))
    have HM2 := Lib.hid hM2
    have HF2 := Lib.hid hF2
    have HFN := Lib.hid hfn
    clear hM2 hF2 hfn
    go_wp2
    go_end0
    refine ⟨rfl, ?_, HF2.out⟩
    rw [HE.out, if_neg HLT.out]
    exact HM2.out

set_option maxRecDepth 100000 in
set_option maxHeartbeats 2000000 in
theorem alike_any {W w : World} {S S2 : Nat → Prop} {pd g p2 g2 : Nat} {D D2 : De} (h : DSt W w S pd g D S2 p2 g2 D2) (ht : D.t = D2.t) :
    Calls Try.prog 46 #[.pointer (some ⟨pd, 0, none⟩), .pointer (some ⟨p2, 0, none⟩)] w fun e w' => e = .returned (.bool true) ∧ Frm (New w) w w' := by
  obtain ⟨A, cA, a, b, ew, en, hT⟩ := h.de.tab
  obtain ⟨A2, cA2, hT2⟩ := h.rd.tab
  have hle := h.de.ok.le
  have hnb := hT2.nb
  have hTS := h.de.tab
  have hTS2 := h.rd.tab
  rw [← ht] at hT2 hTS2 hnb
  have hc1 : ∀ w', Frm (New w) w w' → Calls Try.prog 29 #[.pointer (some ⟨g, 0, none⟩)] w' fun e w2 => e = .returned (.int .i64 D.t.cap) ∧ w2 = w' := fun w' f => tcap_any w' (hT.fresh f)
  have hc2 : ∀ w', Frm (New w) w w' → Calls Try.prog 23 #[.pointer (some ⟨g, 0, none⟩)] w' fun e w2 => e = .returned (.int .i64 (D.t.l.length : Nat)) ∧ w2 = w' := fun w' f => tlen_any w' (hT.fresh f)
  have hc3 : ∀ w', Frm (New w) w w' → Calls Try.prog 28 #[.pointer (some ⟨g, 0, none⟩)] w' fun e w2 => e = .returned (.int .u64 D.t.n) ∧ w2 = w' := fun w' f => tcount_any w' (hT.fresh f)
  have hc0 := htable_any w h.de
  have hbp := h.rd.blk
  have hbg := hT2.blk
  clear hT hT2 ht
  generalize D.t = T at *
  have HC0 := Lib.hid hc0
  have HC1 := Lib.hid hc1
  have HC2 := Lib.hid hc2
  have HC3 := Lib.hid hc3
  have HBP := Lib.hid hbp
  have HBG := Lib.hid hbg
  have HTS := Lib.hid hTS
  have HTS2 := Lib.hid hTS2
  have H := Lib.hid h
  clear hc0 hc1 hc2 hc3 hbp hbg hTS hTS2 h
  have hbp := HBP.out
  have hbg := HBG.out
  have hp0 := hbp.cell 0
  simp only [List.getElem?_toArray, List.getElem?_cons_zero] at hp0
  have hg0 := hbg.cell 0
  have hg1 := hbg.cell 1
  have hg2 := hbg.cell 2
  simp only [List.getElem?_toArray, List.getElem?_cons_zero, List.getElem?_cons_succ] at hg0 hg1 hg2
  have hpl := hbp.lt
  have hgl := hbg.lt
  have HX1 := Lib.hid hbp
  have HX2 := Lib.hid hbg
  clear hbp hbg
  go_enter Try.func46, Try.ntmps46
  go_upto_region 2 with (go_at_call 44; refine HC0.out.mono ?_; rintro e w1 ⟨rfl, hw1⟩; rw [hw1]; clear hw1 w1)
  go_quiet (first
    | (go_at_call 29; refine Calls.quiet_of_same (HC1.out _ ?_); exact (Frm.refl _ _).drewN _)
    | (go_at_call 23; refine Calls.quiet_of_same (HC2.out _ ?_); exact (Frm.refl _ _).drewN _)
    | (go_at_call 28; refine Calls.quiet_of_same (HC3.out _ ?_); exact (Frm.refl _ _).drewN _))
  go_wp2
  clear hp0 hg0 hg1 hg2 hpl hgl
  have hF0 : Frm (New w) w (w.drewN nq) := (Frm.refl _ _).drewN _
  have HF0 := Lib.hid hF0
  clear hF0
  go_loopw [6] (fun i wr => ∃ k : Nat, k ≤ T.l.length ∧ i = .int .i64 k ∧ Hid (Frm (New w) w wr)) (fun i _ => T.l.length - (intOf i).toNat)
  case atStart => exact ⟨0, Nat.zero_le _, rfl, HF0⟩
  case round =>
    obtain ⟨k, hk, rfl, hF⟩ := hrel
    clear HF0
    have hb1 := HX1.out.fresh hF.out
    have hb2 := HX2.out.fresh hF.out
    have hp0 := hb1.cell 0
    simp only [List.getElem?_toArray, List.getElem?_cons_zero] at hp0
    have hg0 := hb2.cell 0
    simp only [List.getElem?_toArray, List.getElem?_cons_zero] at hg0
    have hpl := hb1.lt
    have hgl := hb2.lt
    have HB1 := Lib.hid hb1
    have HB2 := Lib.hid hb2
    clear hb1 hb2
    by_cases hlt : k < T.l.length
    · have hwk : IntKind.u64.wrap (k : Int) = k := IntWalk.u64_in _ (by omega)
      have hn1 := fun w' f => tnewest_any k w' (HTS.out.fresh (w' := w') f) (by omega)
      have hn2 := fun w' f => rnewest_any k w' (HTS2.out.fresh (w' := w') f) (by omega)
      generalize newestS T.l k = nf at *
      obtain ⟨⟨f1, f2⟩, bb⟩ := nf
      simp only [fld, str] at hn1 hn2
      have HN1 := Lib.hid hn1
      have HN2 := Lib.hid hn2
      clear hn1 hn2
      go_wp2_with (fail)
      refine (HN1.out wr hF.out).mono ?_
      rintro e w3 ⟨rfl, hF3⟩
      have hF4 := hF3.alloc Up.new (Obj.cells #[.string ⟨f1.toArray⟩, .string ⟨f2.toArray⟩] 30)
      have hB4 := Blk.new w3 30 #[.string ⟨f1.toArray⟩, .string ⟨f2.toArray⟩]
      clear hp0 hg0 hpl hgl
      have HF4 := Lib.hid hF4
      have HB4 := Lib.hid hB4
      clear hF4 hB4
      clear hF3
      go_upto_region 8 with (fail)
      generalize w3.alloc (Obj.cells #[.string ⟨f1.toArray⟩, .string ⟨f2.toArray⟩] 30) = w4 at *
      generalize w3.heap.size = bx at *
      have hb1 := HB1.out.fresh HF4.out
      have hb2 := HB2.out.fresh HF4.out
      clear HB1 HB2
      have hp0 := hb1.cell 0
      simp only [List.getElem?_toArray, List.getElem?_cons_zero] at hp0
      have hg0 := hb2.cell 0
      simp only [List.getElem?_toArray, List.getElem?_cons_zero] at hg0
      have hpl := hb1.lt
      have hgl := hb2.lt
      have HB1 := Lib.hid hb1
      have HB2 := Lib.hid hb2
      clear hb1 hb2
      have hF24 := hF.out.then_new Up.new HF4.out
      have HF24 := Lib.hid hF24
      clear hF24
      go_wp2_with (fail)
      refine (HN2.out w4 HF24.out).mono ?_
      rintro e w5 ⟨rfl, hF5⟩
      have hF6 := hF5.alloc Up.new (Obj.cells #[.string ⟨f1.toArray⟩, .string ⟨f2.toArray⟩] 30)
      have hB6 := Blk.new w5 30 #[.string ⟨f1.toArray⟩, .string ⟨f2.toArray⟩]
      have hB46 := HB4.out.fresh hF6
      clear hp0 hg0 hpl hgl
      have HF6 := Lib.hid hF6
      have HB6 := Lib.hid hB6
      have HB46 := Lib.hid hB46
      clear hF6 hB6 hB46
      clear hF5
      go_upto_region 9 with (fail)
      generalize w5.alloc (Obj.cells #[.string ⟨f1.toArray⟩, .string ⟨f2.toArray⟩] 30) = w6 at *
      generalize w5.heap.size = by_ at *
      have hb6 := HB6.out
      have hb46 := HB46.out
      have hx0 := hb6.cell 0
      have hx1 := hb6.cell 1
      simp only [List.getElem?_toArray, List.getElem?_cons_zero, List.getElem?_cons_succ] at hx0 hx1
      have hy0 := hb46.cell 0
      have hy1 := hb46.cell 1
      simp only [List.getElem?_toArray, List.getElem?_cons_zero, List.getElem?_cons_succ] at hy0 hy1
      have hl6 := hb6.lt
      have hl46 := hb46.lt
      have hF26 := HF24.out.then_new Up.new HF6.out
      have HX6 := Lib.hid hb6
      have HX46 := Lib.hid hb46
      have HF26 := Lib.hid hF26
      clear hb6 hb46 hF26
      go_wp2
      go_roundw
      case rel => exact ⟨k + 1, by omega, by go_num, HF26⟩
      case measure => simp [intOf]; omega
    · obtain rfl : k = T.l.length := by omega
      go_wp2
      go_ret
      exact ⟨rfl, hF.out⟩
end Go.Proofs.Ytcebckkpablagaa.M
