/- The document's answer, plain, Bad; light; known: what they return. No condition but sizes. -/
import Derived.BigQuiet
import Derived.Deep.CutBlock
import Derived.Lib.Hide
import Derived.IntWalk
import Derived.Test.YtpojejdddgdjdaaGreatDoorHaj
import Derived.Test.YtpojejdddgdjdaaGreatDoorSlh
import Derived.Test.YtpojejdddgdjdaaGreatDoorSli
namespace Go.Proofs.YtpojejdddgdjdaaGreatDoor.M
open Go.ChangeShapes Go.WideShapes Go.ChangeAt Go.RowKit

def RaR (w : World) (fs : List Fld) (v2 v3 : Value) (e : Ending) (w' : World) : Prop := ∃ A1 c1, e = .returned (.agg #[.slice A1 fs.length c1, v2, v3]) ∧ Rd w' A1 (fvs fs) ∧ (∀ k, blk A1 = some k → w.heap.size ≤ k) ∧ Frm (New w) w w'
set_option maxRecDepth 100000 in
set_option maxHeartbeats 4000000 in
theorem ranswer_any (st n : Nat) (hst : st ≤ 999) (hn : n ≤ 1099511627776) (A2 : Option Addr) (n2 c2 : Nat) (B : Option Addr) (d : Nat) (more : List Fld) (A3 : Option Addr) (n3 c3 : Nat) (w : World) (hM : Rd w B (fvs more)) (hm : more.length ≤ 1099511627776) :
    Calls Tryz.prog 36 #[.int .i64 (st : Int), .int .i64 (n : Int), .slice A2 n2 c2, .slice B more.length d, .slice A3 n3 c3] w (RaR w (ansF st n more) (.slice A2 n2 c2) (.slice A3 n3 c3)) := by
  have hfr : ∀ (w : World) t cs, Frm (New w) w (w.alloc (.cells cs t)) := fun w t cs => (Frm.refl _ w).alloc Up.new _
  have hd1 := fun w' => rdec_any st w' (by omega)
  have hd2 := fun w' => rdec_any n w' (by omega)
  have HFR := Lib.hid hfr
  have HM := Lib.hid hM
  have HD1 := Lib.hid hd1
  have HD2 := Lib.hid hd2
  clear hfr hM hd1 hd2
  go_enter Tryz.func36, Tryz.ntmps36
  go_upto_region 1 with (refine wpList_new rfl rfl zMsg rfl ?_; intro w1 hb1 hF1 hs1)
  obtain ⟨g, hg⟩ : ∃ g, g = w.heap.size := ⟨_, rfl⟩
  rw [← hg] at hb1 ⊢
  have hgl := hb1.lt
  have hgw : w.heap.size ≤ g := by omega
  clear hg hs1
  have HB1 := Lib.hid hb1
  clear hb1
  go_wp2_with (fail)
  refine (HD1.out _).mono ?_
  rintro e w' ⟨rfl, hw⟩
  rw [← hw]
  clear hw w'
  go_wp2_with (fail)
  refine (HD2.out _).mono ?_
  rintro e w' ⟨rfl, hw⟩
  rw [← hw]
  clear hw w'
  have hA0 : App (New w1) (w1.alloc (.cells #[.string ⟨#[58, 115, 116, 97, 116, 117, 115]⟩, .string ⟨(decB st).toArray⟩, .string ⟨#[99, 111, 110, 116, 101, 110, 116, 45, 108, 101, 110, 103, 116, 104]⟩, .string ⟨(decB n).toArray⟩] 38)) 38 2 (some ⟨w1.heap.size, 0, none⟩) 2 2 (fvs [(bSt, decB st), (bCL, decB n)]) :=
    App.full (Rd.new w1 #[.string ⟨#[58, 115, 116, 97, 116, 117, 115]⟩, .string ⟨(decB st).toArray⟩, .string ⟨#[99, 111, 110, 116, 101, 110, 116, 45, 108, 101, 110, 103, 116, 104]⟩, .string ⟨(decB n).toArray⟩] 38) rfl (by decide) (fun c => by cases c) (fun k hk => by cases hk; exact Nat.le_refl _) (fun _ => ⟨w1.heap.size, 0, _, rfl, Blk.new w1 _ _, by simp, Nat.le_refl _⟩)
  have hF4 := HFR.out w1 38 #[.string ⟨#[58, 115, 116, 97, 116, 117, 115]⟩, .string ⟨(decB st).toArray⟩, .string ⟨#[99, 111, 110, 116, 101, 110, 116, 45, 108, 101, 110, 103, 116, 104]⟩, .string ⟨(decB n).toArray⟩]
  go_upto_region 2 with (fail)
  generalize w1.alloc (.cells #[.string ⟨#[58, 115, 116, 97, 116, 117, 115]⟩, .string ⟨(decB st).toArray⟩, .string ⟨#[99, 111, 110, 116, 101, 110, 116, 45, 108, 101, 110, 103, 116, 104]⟩, .string ⟨(decB n).toArray⟩] 38) = w4 at *
  obtain ⟨g3, hg3⟩ : ∃ g3, g3 = w1.heap.size := ⟨_, rfl⟩
  rw [← hg3] at hA0 ⊢
  clear hg3
  have hF04 := hF1.then_new Up.new hF4
  have hM4 := HM.out.fresh hF04
  have hU4 : Up (New w1) w4 := Up.new.frm hF4
  have hml : (fvs more).length = more.length * 2 := by rw [fvs_length]; omega
  have hcat : fvs [(bSt, decB st), (bCL, decB n)] ++ fvs more ++ [.string ⟨#[97, 108, 116, 45, 115, 118, 99]⟩, .string ⟨#[104, 51, 61, 34, 58, 52, 52, 51, 34]⟩] = fvs (ansF st n more) := by
    unfold ansF
    rw [fvs_append, fvs_append]
    rfl
  have hnl : 2 + more.length + 1 = (ansF st n more).length := by simp [ansF]; omega
  have HA0 := Lib.hid hA0
  have HF04 := Lib.hid hF04
  have HM4 := Lib.hid hM4
  have HU4 := Lib.hid hU4
  have HML := Lib.hid hml
  have HCAT := Lib.hid hcat
  have HF4 := Lib.hid hF4
  have HNL := Lib.hid hnl
  have HF1 := Lib.hid hF1
  clear hA0 hF04 hM4 hU4 hml hcat hF4 hnl hF1
  go_wp2_with (first
    | (at_builtin; refine wpList_append flds rfl rfl rfl HA0.out HU4.out rfl HM4.out HML.out (fvs_one _) (by omega) ?_; intro A5 c5 w5 hA5 hF5 _ _; have HA5 := Lib.hid hA5; have HF5 := Lib.hid hF5; have HU5 := Lib.hid (HU4.out.frm hF5); clear hA5 hF5)
    | (at_builtin; refine wpList_append_lit flds rfl rfl rfl HA5.out HU5.out rfl rfl (fld_one _ _) (by omega) ?_; intro A6 c6 w6 hA6 hF6 _ _; have HA6 := Lib.hid hA6; have hF16 : Frm (New w1) w1 w6 := HF4.out.trans (HF5.out.trans hF6); have hbx := HB1.out.fresh hF16; have HB6 := Lib.hid hbx; have HF6 := Lib.hid (HF1.out.then_new Up.new hF16); clear hA6 hF6 hF16 hbx)
    | (refine wpList_store_agg rfl rfl rfl rfl HB6.out rfl (msg_one _ _ _ _ _ _ _ _ _) (by kernel_rfl) ?_; intro w8 hb8 hF8 hs8))
  refine bodyPost_ret (results_agg agM rfl rfl hb8 rfl) rfl ?_
  have hA6 := HA6.out
  rw [HCAT.out] at hA6
  have h1s := HF1.out.size
  refine ⟨A6, c6, by rw [← HNL.out], hA6.rd.keep2 hF8 (fun hn k hk e => ?_), fun k hk => ?_, HF6.out.trans (hF8.mono (fun k hk => by subst hk; exact hgw))⟩
  · have h1 := hA6.inM k hk
    unfold New at h1
    have e2 : k = g := e
    omega
  · have h1 := hA6.inM k hk
    unfold New at h1
    omega
theorem rplain_any (st : Nat) (hst : st ≤ 999) (w : World) : Calls Tryz.prog 30 #[.int .i64 (st : Int)] w (AnR w (ans st [] [])) := by
  have hc := fun (w' : World) => ranswer_any st 0 hst (Nat.zero_le _) none 0 0 none 0 [] none 0 0 w' Rd.nil (Nat.zero_le _)
  simp only [List.length_nil] at hc
  have HC := Lib.hid hc
  clear hc
  go_enter Tryz.func30, Tryz.ntmps30
  go_wp2_with (first
    | (refine wpList_new rfl rfl zMsg rfl ?_; intro w1 hb1 hF1 hs1)
    | (go_at_call 36; refine (HC.out _).mono ?_; rintro e w2 ⟨A1, c1, rfl, hR1, hN1, hF2⟩)
    | (refine wpList_store_agg rfl rfl rfl rfl (hb1.fresh hF2) rfl (msg_one _ _ _ _ _ _ _ _ _) (by kernel_rfl) ?_; intro w3 hb3 hF3 hs3))
  refine bodyPost_ret (results_agg agM rfl rfl hb3 rfl) rfl ?_
  have hm : AnM w1 w2 ⟨A1, c1, ansF st 0 [], none, 0, [], none, 0, []⟩ (ans st [] []) := ⟨⟨hR1, Rd.nil, Rd.nil⟩, rfl, rfl, rfl, fun _ k hk => hN1 k hk, fun h => absurd rfl h, fun h => absurd rfl h, hF2⟩
  exact ⟨_, rfl, hm.done hF1 (Nat.le_refl _) (by omega) hF3⟩
set_option maxRecDepth 100000 in
set_option maxHeartbeats 4000000 in
theorem rbad_any (c : Int) (w : World) : Calls Tryz.prog 15 #[.int .i64 c] w (AnR w (hBad c)) := by
  have hc : ∀ (st : Nat) (_ : st ≤ 999) (w' : World), Calls Tryz.prog 30 #[.int .i64 (st : Int)] w' (AnR w' (ans st [] [])) := fun st h w' => rplain_any st h w'
  by_cases h1 : c = 1
  · subst h1
    have hq : hBad 1 = ans 400 [] [] := rfl
    rw [hq]
    have hc1 := hc 400 (by decide)
    clear hc hq
    have HC1 := Lib.hid hc1
    clear hc1
    go_enter Tryz.func15, Tryz.ntmps15
    go_wp2_with (first
      | (refine wpList_new rfl rfl zMsg rfl ?_; intro w1 hb1 hF1 hs1)
      | (go_at_call 30; refine (HC1.out _).mono ?_; rintro e w2 ⟨m, rfl, hm⟩)
      | (refine wpList_store_agg rfl rfl rfl rfl (hb1.fresh hm.frm) rfl (msg_one _ _ _ _ _ _ _ _ _) (by kernel_rfl) ?_; intro w3 hb3 hF3 hs3))
    refine bodyPost_ret (results_agg agM rfl rfl hb3 rfl) rfl ?_
    exact ⟨m, rfl, hm.done hF1 (Nat.le_refl _) (by omega) hF3⟩
  · by_cases h2 : c = 2
    · subst h2
      have hq : hBad 2 = ans 431 [] [] := rfl
      rw [hq]
      have hc1 := hc 431 (by decide)
      clear hc hq h1
      have HC1 := Lib.hid hc1
      clear hc1
      go_enter Tryz.func15, Tryz.ntmps15
      go_wp2_with (first
        | (refine wpList_new rfl rfl zMsg rfl ?_; intro w1 hb1 hF1 hs1)
        | (go_at_call 30; refine (HC1.out _).mono ?_; rintro e w2 ⟨m, rfl, hm⟩)
        | (refine wpList_store_agg rfl rfl rfl rfl (hb1.fresh hm.frm) rfl (msg_one _ _ _ _ _ _ _ _ _) (by kernel_rfl) ?_; intro w3 hb3 hF3 hs3))
      refine bodyPost_ret (results_agg agM rfl rfl hb3 rfl) rfl ?_
      exact ⟨m, rfl, hm.done hF1 (Nat.le_refl _) (by omega) hF3⟩
    · have hq : hBad c = ans 500 [] [] := by unfold hBad; rw [if_neg h1, if_neg h2]
      rw [hq]
      have hc1 := hc 500 (by decide)
      have e1 : (c == 1) = false := beq_eq_false_iff_ne.2 h1
      have e2 : (c == 2) = false := beq_eq_false_iff_ne.2 h2
      clear hc hq
      have HC1 := Lib.hid hc1
      clear hc1
      go_enter Tryz.func15, Tryz.ntmps15
      go_wp2_with (first
        | (refine wpList_new rfl rfl zMsg rfl ?_; intro w1 hb1 hF1 hs1)
        | (go_at_call 30; refine (HC1.out _).mono ?_; rintro e w2 ⟨m, rfl, hm⟩)
        | (refine wpList_store_agg rfl rfl rfl rfl (hb1.fresh hm.frm) rfl (msg_one _ _ _ _ _ _ _ _ _) (by kernel_rfl) ?_; intro w3 hb3 hF3 hs3))
      refine bodyPost_ret (results_agg agM rfl rfl hb3 rfl) rfl ?_
      exact ⟨m, rfl, hm.done hF1 (Nat.le_refl _) (by omega) hF3⟩
def LtR (w : World) (e : Ending) (w' : World) : Prop := ∃ v, e = .returned (.bool v) ∧ Frm (New w) w w'
set_option maxRecDepth 100000 in
set_option maxHeartbeats 4000000 in
theorem hlight_any (r : RV) (w : World) (hr : RIn w r) (h1 : ∀ f ∈ r.fs, FldOk f) (h3 : ∀ f ∈ r.ts, FldOk f) (s1 : r.me.length ≤ 1125899906842624) (s2 : r.sc.length ≤ 1125899906842624) (s3 : r.au.length ≤ 1125899906842624) (s4 : r.pa.length ≤ 1125899906842624) (sb : r.b.length ≤ 1125899906842624) :
    Calls Tryz.prog 9 #[.agg r.cells] w (LtR w) := by
  obtain ⟨me, sc, au, pa, A1, c1, fs, A2, c2, b, A3, c3, ts⟩ := r
  have hl1 : ∀ w', Frm (New w) w w' → Calls Tryz.prog 24 #[.slice A1 fs.length c1] w' fun e w2 => e = .returned (.bool (light fs)) ∧ ∃ n, w2 = w'.drewN n := fun w' f => light_any fs A1 c1 w' (hr.r1.fresh f) h1
  have hl3 : ∀ w', Frm (New w) w w' → Calls Tryz.prog 24 #[.slice A3 ts.length c3] w' fun e w2 => e = .returned (.bool (light ts)) ∧ ∃ n, w2 = w'.drewN n := fun w' f => light_any ts A3 c3 w' (hr.r3.fresh f) h3
  simp only [RV.cells] at *
  clear hr h1 h3
  generalize light fs = lf at *
  generalize light ts = lt at *
  have HL1 := Lib.hid hl1
  have HL3 := Lib.hid hl3
  clear hl1 hl3
  go_enter Tryz.func9, Tryz.ntmps9
  go_upto_region 1 with (fail)
  have hb1 := Blk.new w 32 #[.string ⟨me.toArray⟩, .string ⟨sc.toArray⟩, .string ⟨au.toArray⟩, .string ⟨pa.toArray⟩, .slice A1 fs.length c1, .slice A2 b.length c2, .slice A3 ts.length c3]
  have hF1 := (Frm.refl (New w) w).alloc Up.new (.cells #[.string ⟨me.toArray⟩, .string ⟨sc.toArray⟩, .string ⟨au.toArray⟩, .string ⟨pa.toArray⟩, .slice A1 fs.length c1, .slice A2 b.length c2, .slice A3 ts.length c3] 32)
  generalize w.alloc (.cells #[.string ⟨me.toArray⟩, .string ⟨sc.toArray⟩, .string ⟨au.toArray⟩, .string ⟨pa.toArray⟩, .slice A1 fs.length c1, .slice A2 b.length c2, .slice A3 ts.length c3] 32) = w1 at *
  obtain ⟨g, hg⟩ : ∃ g, g = w.heap.size := ⟨_, rfl⟩
  rw [← hg] at hb1 ⊢
  clear hg
  have hlg := hb1.lt
  have hy0 := hb1.cell 0
  have hy1 := hb1.cell 1
  have hy2 := hb1.cell 2
  have hy3 := hb1.cell 3
  have hy4 := hb1.cell 4
  have hy5 := hb1.cell 5
  have hy6 := hb1.cell 6
  simp only [List.getElem?_toArray, List.getElem?_cons_zero, List.getElem?_cons_succ] at hy0 hy1 hy2 hy3 hy4 hy5 hy6
  have hl1b := HL1.out w1 hF1
  have hl3b := fun q => HL3.out (w1.drewN q) (hF1.drewN q)
  clear hb1 HL1 HL3
  have HF1 := Lib.hid hF1
  have HL1B := Lib.hid hl1b
  have HL3B := Lib.hid hl3b
  clear hF1 hl1b hl3b
  have t1 := trivial
  by_cases hs : me.length + pa.length + sc.length + au.length ≤ 300
  · have hsi : (me.length : Int) + pa.length + sc.length + au.length ≤ 300 := by omega
    cases lf with
    | false =>
      go_wp2_with (go_at_call 24; refine HL1B.out.mono ?_; rintro e w2 ⟨rfl, q, rfl⟩)
      go_ret
      exact ⟨_, rfl, HF1.out.drewN q⟩
    | true =>
      cases lt with
      | false =>
        go_wp2_with (first
          | (clear t1; go_at_call 24; refine HL1B.out.mono ?_; rintro e w2 ⟨rfl, q, rfl⟩)
          | (go_at_call 24; refine (HL3B.out q).mono ?_; rintro e w2 ⟨rfl, q2, rfl⟩))
        go_ret
        exact ⟨_, rfl, HF1.out.drewN (q + q2)⟩
      | true =>
        by_cases hb9 : (b.length : Int) ≤ 9000
        · go_wp2_with (first
            | (clear t1; go_at_call 24; refine HL1B.out.mono ?_; rintro e w2 ⟨rfl, q, rfl⟩)
            | (go_at_call 24; refine (HL3B.out q).mono ?_; rintro e w2 ⟨rfl, q2, rfl⟩))
          go_ret
          exact ⟨_, rfl, HF1.out.drewN (q + q2)⟩
        · go_wp2_with (first
            | (clear t1; go_at_call 24; refine HL1B.out.mono ?_; rintro e w2 ⟨rfl, q, rfl⟩)
            | (go_at_call 24; refine (HL3B.out q).mono ?_; rintro e w2 ⟨rfl, q2, rfl⟩))
          go_ret
          exact ⟨_, rfl, HF1.out.drewN (q + q2)⟩
  · have hsi : ¬ (me.length : Int) + pa.length + sc.length + au.length ≤ 300 := by omega
    go_wp2_with (fail)
    go_ret
    exact ⟨_, rfl, HF1.out⟩
end Go.Proofs.YtpojejdddgdjdaaGreatDoor.M
