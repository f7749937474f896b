/- bifoldref26.Message: the message of a request. At most 2^40 fields. -/
import Derived.BigQuiet
import Derived.Deep.RegionHeldLaw
import Derived.Deep.RegionHeld3
import Derived.Deep.CutBlock
import Derived.Lib.Hide
import Derived.IntWalk
import Derived.Test.YtpojejdddgdjdaaDoorSof
namespace Go.Proofs.YtpojejdddgdjdaaDoor.M
open Go.ChangeShapes Go.WideShapes Go.ChangeAt Go.RowKit

set_option maxRecDepth 100000 in
set_option maxHeartbeats 4000000 in
theorem rmessage_any (r : RV) (w : World) (hr : RIn w r) (l1 : r.fs.length ≤ 1099511627776) (l2 : r.b.length ≤ 1099511627776) (l3 : r.ts.length ≤ 1099511627776) :
    Calls Tryd.prog 27 #[.agg r.cells] w (OfR w r) := by
  generalize hQ : OfR w r = Q
  have HQ := Lib.hid hQ
  clear hQ
  obtain ⟨me, sc, au, pa, A1, c1, fs, A2, c2, b, A3, c3, ts⟩ := r
  simp only [RV.cells] at *
  have hfr : ∀ (w : World) t cs, Frm (New w) w (w.alloc (.cells cs t)) := fun w t cs => (Frm.refl _ w).alloc Up.new _
  have hs1 : ∀ (w : World) (t : TypeId) cs, (w.alloc (.cells cs t)).heap.size = w.heap.size + 1 := fun w t cs => by simp
  have HFR := Lib.hid hfr
  have HS1 := Lib.hid hs1
  have HRR := Lib.hid hr
  clear hfr hs1 hr
  obtain ⟨CA, hCA⟩ : ∃ CA, CA = (#[.string ⟨me.toArray⟩, .string ⟨sc.toArray⟩, .string ⟨au.toArray⟩, .string ⟨pa.toArray⟩, .slice A1 fs.length c1, .slice A2 b.length c2, .slice A3 ts.length c3] : Array Value) := ⟨_, rfl⟩
  go_enter Tryd.func27, Tryd.ntmps27
  go_upto_region 1 with (fail)
  rw [← hCA]
  have hb1 := Blk.new w 29 CA
  have hF1 := HFR.out w 29 CA
  have hz1 := HS1.out w 29 CA
  generalize w.alloc (.cells CA 29) = w1 at *
  have hb2 := Blk.new w1 25 #[.slice none 0 0, .slice none 0 0, .slice none 0 0]
  have hF2 := HFR.out w1 25 #[.slice none 0 0, .slice none 0 0, .slice none 0 0]
  have hz2 := HS1.out w1 25 #[.slice none 0 0, .slice none 0 0, .slice none 0 0]
  generalize w1.alloc (.cells #[.slice none 0 0, .slice none 0 0, .slice none 0 0] 25) = w2 at *
  have hb12 := hb1.fresh hF2
  have hF02 := hF1.then_new Up.new hF2
  rw [hz1] at hb2
  rw [hCA] at hb12
  obtain ⟨ba, hba⟩ : ∃ ba, ba = w.heap.size := ⟨_, rfl⟩
  rw [← hba] at hb12 hb2 ⊢
  obtain ⟨gm, hgm⟩ : ∃ gm, gm = ba + 1 := ⟨_, rfl⟩
  rw [← hgm] at hb2 ⊢
  have hw2 : gm < w2.heap.size := by omega
  have hgw : w.heap.size ≤ gm := by omega
  have hgb : ba < gm := by omega
  have hba2 : w.heap.size ≤ ba := by omega
  have hla := hb12.lt
  have hy0 := hb12.cell 0
  have hy1 := hb12.cell 1
  simp only [List.getElem?_toArray, List.getElem?_cons_zero, List.getElem?_cons_succ] at hy0 hy1
  have HBA := Lib.hid hb12
  have HBM := Lib.hid hb2
  clear hb1 hF1 hF2 hz1 hz2 hb12 hb2 hgm hba hCA
  have HF02 := Lib.hid hF02
  clear hF02
  go_upto_region 2 with (fail)
  have hA3 : App (New w2) (w2.alloc (.cells #[.string ⟨bMe.toArray⟩, .string ⟨me.toArray⟩, .string ⟨bSc.toArray⟩, .string ⟨sc.toArray⟩] 34)) 34 2 (some ⟨w2.heap.size, 0, none⟩) 2 2 (fvs [(bMe, me), (bSc, sc)]) :=
    App.full (Rd.new w2 #[.string ⟨bMe.toArray⟩, .string ⟨me.toArray⟩, .string ⟨bSc.toArray⟩, .string ⟨sc.toArray⟩] 34) rfl (by decide) (fun c => by cases c) (fun k hk => by simp at hk; unfold New; omega) (fun _ => ⟨_, 0, _, rfl, heap_alloc_new w2 _, by simp, Nat.le_refl _⟩)
  have hF23 := HFR.out w2 34 #[.string ⟨bMe.toArray⟩, .string ⟨me.toArray⟩, .string ⟨bSc.toArray⟩, .string ⟨sc.toArray⟩]
  simp only [bMe, bSc] at hA3 hF23
  generalize w2.alloc (.cells #[.string ⟨List.toArray [58, 109, 101, 116, 104, 111, 100]⟩, .string ⟨me.toArray⟩, .string ⟨List.toArray [58, 115, 99, 104, 101, 109, 101]⟩, .string ⟨sc.toArray⟩] 34) = w3 at *
  have hb13 := HBA.out.fresh hF23
  have hla3 := hb13.lt
  clear hy0 hy1 hla
  have hy2 := hb13.cell 2
  simp only [List.getElem?_toArray, List.getElem?_cons_zero, List.getElem?_cons_succ] at hy2
  have HB13 := Lib.hid hb13
  have HA3 := Lib.hid hA3
  have HF23 := Lib.hid hF23
  clear hb13 hA3 hF23
  go_upto_if 13 with (fail)
  go_cut [3] from 14 (fun v3 w' => ∃ A n c, v3 = .slice A n c ∧ n ≤ 3 ∧ Hid (App (New w2) w' 34 2 A n c (fvs ([(bMe, me), (bSc, sc)] ++ auL au))) ∧ Hid (Frm (New w2) w2 w'))
  case first =>
    cases au with
    | nil =>
      go_wp2_with (fail)
      go_meet
      exact ⟨_, 2, 2, rfl, by omega, HA3, HF23⟩
    | cons a1 ar =>
      go_wp2_with (at_builtin; refine wpList_append_lit flds rfl rfl rfl HA3.out (Up.new.frm HF23.out) rfl rfl (fld_one _ _) (by decide) ?_; intro A9 c9 w9 hA9 hF9 _ _; have HA9 := Lib.hid hA9; have HF9 := Lib.hid hF9; clear hA9 hF9)
      go_meet
      exact ⟨A9, 3, c9, rfl, by omega, HA9, Lib.hid (HF23.out.trans HF9.out)⟩
  case rest =>
    obtain ⟨A4, n4, c4, rfl, hn4, HA4, HF24⟩ := hcut
    rename World => w4
    have hb14 := HBA.out.fresh HF24.out
    have hla4 := hb14.lt
    have hy3 := hb14.cell 3
    simp only [List.getElem?_toArray, List.getElem?_cons_zero, List.getElem?_cons_succ] at hy3
    have HB14 := Lib.hid hb14
    clear hb14 HB13 hy2 hla3 HA3 HF23
    go_upto_region 5 with (at_builtin; refine wpList_append_lit flds rfl rfl rfl HA4.out (Up.new.frm HF24.out) rfl rfl (fld_one _ _) (by omega) ?_; intro A5 c5 w5 hA5 hF5 _ _)
    have hA5b : App (New w2) w5 34 2 A5 (n4 + 1) c5 (fvs ([(bMe, me), (bSc, sc)] ++ auL au ++ [(bPa, pa)])) := by
      rw [fvs_append]
      exact hA5
    have hF25 := HF24.out.trans hF5
    have hF05 := HF02.out.then_new Up.new hF25
    have hb15 := HBA.out.fresh hF25
    have hbm5 := HBM.out.fresh hF25
    have hr5 := HRR.out.fresh hF05
    have hr51 := hr5.r1
    have hr52 := hr5.r2
    have hr53 := hr5.r3
    simp only at hr51 hr52 hr53
    have hla5 := hb15.lt
    have hlm5 := hbm5.lt
    have hy4 := hb15.cell 4
    have hy5 := hb15.cell 5
    have hy6 := hb15.cell 6
    simp only [List.getElem?_toArray, List.getElem?_cons_zero, List.getElem?_cons_succ] at hy4 hy5 hy6
    have hstep : ∀ w', Frm (New w2) w2 w' → w'.cell? ⟨ba, 4, none⟩ = some (.slice A1 fs.length c1) ∧ w'.cell? ⟨ba, 5, none⟩ = some (.slice A2 b.length c2) ∧ w'.cell? ⟨ba, 6, none⟩ = some (.slice A3 ts.length c3) := fun w' f => ⟨(HBA.out.fresh f).cell 4, (HBA.out.fresh f).cell 5, (HBA.out.fresh f).cell 6⟩
    have hgm2 : ∀ k, New w2 k → k ≠ gm := fun k h e => by unfold New at h; omega
    clear hA5 hF5 HA4 HF24 HB14 hy3 hla4 hb15 hr5
    have HA5 := Lib.hid hA5b
    clear hA5b
    have HF25 := Lib.hid hF25
    have HF05 := Lib.hid hF05
    have HBM5 := Lib.hid hbm5
    have HR51 := Lib.hid hr51
    have HR52 := Lib.hid hr52
    have HR53 := Lib.hid hr53
    have HSTEP := Lib.hid hstep
    have HGM2 := Lib.hid hgm2
    clear hF25 hF05 hbm5 hr51 hr52 hr53 hstep hgm2

    go_region_held_law (fun w' => w'.cell? ⟨ba, 4, none⟩ = some (.slice A1 fs.length c1) ∧ w'.cell? ⟨ba, 5, none⟩ = some (.slice A2 b.length c2) ∧ w'.cell? ⟨ba, 6, none⟩ = some (.slice A3 ts.length c3))
      (first
        | exact HS6.out
        | exact ⟨((HBA.out.fresh HF26.out).keep (HBM6.out.put3 _ _ _).2 (by show ¬ (ba = gm); omega)).cell 4, ((HBA.out.fresh HF26.out).keep (HBM6.out.put3 _ _ _).2 (by show ¬ (ba = gm); omega)).cell 5, ((HBA.out.fresh HF26.out).keep (HBM6.out.put3 _ _ _).2 (by show ¬ (ba = gm); omega)).cell 6⟩
        | exact ⟨hy4, hy5, hy6⟩
        | go_keep)
      (first
        | (refine step_append (M := New w2) flds rfl rfl rfl (HA5.out.drew) (Up.new.frm HF25.out.drew) rfl (HR51.out.drew) (by rw [fvs_length]; omega) (fvs_one _) (by omega) ?_; intro A6 c6 w6 hA6 hF6 _
           have hFc : Frm (New w2) w2 w6 := (HF25.out.drew).trans hF6
           have HA6 := Lib.hid hA6; have HF26 := Lib.hid hFc
           have HS6 := Lib.hid (HSTEP.out _ hFc); have hla6 := (HBA.out.fresh hFc).lt
           have HBM6 := Lib.hid (HBM.out.fresh hFc); have hlm6 := HBM6.out.lt
           obtain ⟨⟨_, _, _⟩, ⟨_, _, _⟩⟩ := HBM6.out.all3
           clear hA6 hF6 hFc))
    have hp := HBM6.out.put3 (.slice A6 (n4 + 1 + fs.length) c6) (.slice A2 b.length c2) (.slice A3 ts.length c3)
    generalize (((w6.setCell ⟨gm, 0, none⟩ (.slice A6 (n4 + 1 + fs.length) c6)).setCell ⟨gm, 1, none⟩ (.slice A2 b.length c2)).setCell ⟨gm, 2, none⟩ (.slice A3 ts.length c3)) = w9 at *
    have HP1 := Lib.hid hp.1
    have HP2 := Lib.hid hp.2
    clear hp
    go_wp2_with (fail)
    refine bodyPost_ret (results_agg agM rfl rfl HP1.out rfl) rfl ?_
    rw [← HQ.out]
    have hfl : fvs ([(bMe, me), (bSc, sc)] ++ auL au ++ [(bPa, pa)]) ++ fvs fs = fvs (ofL ⟨me, sc, au, pa, fs, b, ts⟩) := by
      unfold ofL
      simp only [fvs_append]
    have hA6' := HA6.out
    rw [hfl] at hA6'
    have hln : n4 + 1 + fs.length = (ofL ⟨me, sc, au, pa, fs, b, ts⟩).length := by
      have h := hA6'.len
      rw [fvs_length] at h
      omega
    have hFe : Frm (New w) w w9 := (HF02.out.then_new Up.new HF26.out).trans (HP2.out.mono (fun k hk => by subst hk; exact hgw))
    refine ⟨⟨A6, c6, ofL ⟨me, sc, au, pa, fs, b, ts⟩, A2, c2, b, A3, c3, ts⟩, by rw [hln]; rfl, ⟨?_, ?_, ?_⟩, rfl, rfl, rfl, hFe⟩
    · exact hA6'.rd.keep HP2.out (fun k hk e => HGM2.out k (HA6.out.inM k hk) e)
    · exact (HRR.out.fresh hFe).r2
    · exact (HRR.out.fresh hFe).r3
end Go.Proofs.YtpojejdddgdjdaaDoor.M
