/- sem.Of: the message of a request. At most 2^40 fields. -/
import Derived.BigQuiet
import Derived.Deep.RegionHeldLaw
import Derived.Deep.RegionHeld3
import Derived.Deep.CutBlock
import Derived.Lib.Hide
import Derived.IntWalk
import Derived.Test.YtpojejdddgdjdaaDoorSrv
namespace Go.Proofs.YtpojejdddgdjdaaDoor.M
open Go.ChangeShapes Go.WideShapes Go.ChangeAt Go.RowKit

theorem Blk.all3 {w : World} {g : Nat} {t : TypeId} {a b c : Value} (H : Blk w g t #[a, b, c]) :
    (w.cell? ⟨g, 0, none⟩ = some a ∧ w.cell? ⟨g, 1, none⟩ = some b ∧ w.cell? ⟨g, 2, none⟩ = some c) ∧
    (w.frozen? ⟨g, 0, none⟩ = false ∧ w.frozen? ⟨g, 1, none⟩ = false ∧ w.frozen? ⟨g, 2, none⟩ = false) :=
  ⟨⟨H.cell 0, H.cell 1, H.cell 2⟩, ⟨H.frozen 0, H.frozen 1, H.frozen 2⟩⟩
theorem Blk.put3 {w : World} {g : Nat} {t : TypeId} {a b c : Value} (H : Blk w g t #[a, b, c]) (a' b' c' : Value) :
    Blk (((w.setCell ⟨g, 0, none⟩ a').setCell ⟨g, 1, none⟩ b').setCell ⟨g, 2, none⟩ c') g t #[a', b', c'] ∧
    Frm (· = g) w (((w.setCell ⟨g, 0, none⟩ a').setCell ⟨g, 1, none⟩ b').setCell ⟨g, 2, none⟩ c') := by
  have k0 := H.set_ 0 a'
  have f0 : Frm (· = g) w (w.setCell ⟨g, 0, none⟩ a') := Frm.setCell (M := fun q => q = g) (Frm.refl _ w) (p := ⟨g, 0, none⟩) rfl _
  simp only [List.setIfInBounds_toArray, List.set_cons_zero] at k0
  generalize w.setCell ⟨g, 0, none⟩ a' = w0 at *
  have k1 := k0.set_ 1 b'
  have f1 := f0.setCell (p := ⟨g, 1, none⟩) rfl b'
  simp only [List.setIfInBounds_toArray, List.set_cons_zero, List.set_cons_succ] at k1
  generalize w0.setCell ⟨g, 1, none⟩ b' = w1 at *
  have k2 := k1.set_ 2 c'
  have f2 := f1.setCell (p := ⟨g, 2, none⟩) rfl c'
  simp only [List.setIfInBounds_toArray, List.set_cons_zero, List.set_cons_succ] at k2
  exact ⟨k2, f2⟩
def auL (au : Bytes) : List Fld := match au with
  | [] => []
  | c :: t => [(bAu, c :: t)]
/-- a request's fields, as a message's -/
def ofL (q : RQ) : List Fld := [(bMe, q.me), (bSc, q.sc)] ++ auL q.au ++ [(bPa, q.pa)] ++ q.fs
/-- its message -/
def OfR (w : World) (r : RV) (e : Ending) (w' : World) : Prop :=
  ∃ m : MV, e = .returned (.agg m.cells) ∧ MIn w' m ∧ m.fs = ofL r.q ∧ m.b = r.b ∧ m.ts = r.ts ∧ Frm (New w) w w'
def OfC (w : World) (r : RV) (e : Ending) (w' : World) : Prop :=
  ∃ m : MV, e = .returned (.agg m.cells) ∧ MIn w' m ∧ m.fs = ofL r.q ∧ m.b = r.b ∧ m.ts = r.ts ∧ Frm (New w) w w' ∧ App (New w) w' 34 2 m.A1 m.fs.length m.c1 (fvs m.fs) ∧ App (New w) w' 34 2 m.A3 m.ts.length m.c3 (fvs m.ts)

set_option maxRecDepth 100000 in
set_option maxHeartbeats 4000000 in
theorem of_any (r : RV) (w : World) (hr : RIn w r) (l1 : r.fs.length ≤ 1099511627776) (l2 : r.b.length ≤ 1099511627776) (l3 : r.ts.length ≤ 1099511627776) :
    Calls Tryd.prog 25 #[.agg r.cells] w (OfC w r) := by
  generalize hQ : OfC w r = Q
  have HQ := Lib.hid hQ
  clear hQ
  obtain ⟨me, sc, au, pa, A1, c1, fs, A2, c2, b, A3, c3, ts⟩ := r
  simp only [RV.cells] at *
  have hfr : ∀ (w : World) t cs, Frm (New w) w (w.alloc (.cells cs t)) := fun w t cs => (Frm.refl _ w).alloc Up.new _
  have hs1 : ∀ (w : World) (t : TypeId) cs, (w.alloc (.cells cs t)).heap.size = w.heap.size + 1 := fun w t cs => by simp
  have HFR := Lib.hid hfr
  have HS1 := Lib.hid hs1
  have HRR := Lib.hid hr
  clear hfr hs1 hr
  obtain ⟨CA, hCA⟩ : ∃ CA, CA = (#[.string ⟨me.toArray⟩, .string ⟨sc.toArray⟩, .string ⟨au.toArray⟩, .string ⟨pa.toArray⟩, .slice A1 fs.length c1, .slice A2 b.length c2, .slice A3 ts.length c3] : Array Value) := ⟨_, rfl⟩
  go_enter Tryd.func25, Tryd.ntmps25
  go_upto_region 1 with (fail)
  rw [← hCA]
  have hb1 := Blk.new w 29 CA
  have hF1 := HFR.out w 29 CA
  have hz1 := HS1.out w 29 CA
  generalize w.alloc (.cells CA 29) = w1 at *
  have hb2 := Blk.new w1 25 #[.slice none 0 0, .slice none 0 0, .slice none 0 0]
  have hF2 := HFR.out w1 25 #[.slice none 0 0, .slice none 0 0, .slice none 0 0]
  have hz2 := HS1.out w1 25 #[.slice none 0 0, .slice none 0 0, .slice none 0 0]
  generalize w1.alloc (.cells #[.slice none 0 0, .slice none 0 0, .slice none 0 0] 25) = w2 at *
  have hb12 := hb1.fresh hF2
  have hF02 := hF1.then_new Up.new hF2
  rw [hz1] at hb2
  rw [hCA] at hb12
  obtain ⟨ba, hba⟩ : ∃ ba, ba = w.heap.size := ⟨_, rfl⟩
  rw [← hba] at hb12 hb2 ⊢
  obtain ⟨gm, hgm⟩ : ∃ gm, gm = ba + 1 := ⟨_, rfl⟩
  rw [← hgm] at hb2 ⊢
  have hw2 : gm < w2.heap.size := by omega
  have hgw : w.heap.size ≤ gm := by omega
  have hgb : ba < gm := by omega
  have hba2 : w.heap.size ≤ ba := by omega
  have hla := hb12.lt
  have hy0 := hb12.cell 0
  have hy1 := hb12.cell 1
  simp only [List.getElem?_toArray, List.getElem?_cons_zero, List.getElem?_cons_succ] at hy0 hy1
  have HBA := Lib.hid hb12
  have HBM := Lib.hid hb2
  clear hb1 hF1 hF2 hz1 hz2 hb12 hb2 hgm hba hCA
  have HF02 := Lib.hid hF02
  clear hF02
  go_upto_region 2 with (fail)
  have hA3 : App (New w2) (w2.alloc (.cells #[.string ⟨bMe.toArray⟩, .string ⟨me.toArray⟩, .string ⟨bSc.toArray⟩, .string ⟨sc.toArray⟩] 34)) 34 2 (some ⟨w2.heap.size, 0, none⟩) 2 2 (fvs [(bMe, me), (bSc, sc)]) :=
    App.full (Rd.new w2 #[.string ⟨bMe.toArray⟩, .string ⟨me.toArray⟩, .string ⟨bSc.toArray⟩, .string ⟨sc.toArray⟩] 34) rfl (by decide) (fun c => by cases c) (fun k hk => by simp at hk; unfold New; omega) (fun _ => ⟨_, 0, _, rfl, heap_alloc_new w2 _, by simp, Nat.le_refl _⟩)
  have hF23 := HFR.out w2 34 #[.string ⟨bMe.toArray⟩, .string ⟨me.toArray⟩, .string ⟨bSc.toArray⟩, .string ⟨sc.toArray⟩]
  simp only [bMe, bSc] at hA3 hF23
  generalize w2.alloc (.cells #[.string ⟨List.toArray [58, 109, 101, 116, 104, 111, 100]⟩, .string ⟨me.toArray⟩, .string ⟨List.toArray [58, 115, 99, 104, 101, 109, 101]⟩, .string ⟨sc.toArray⟩] 34) = w3 at *
  have hb13 := HBA.out.fresh hF23
  have hla3 := hb13.lt
  clear hy0 hy1 hla
  have hy2 := hb13.cell 2
  simp only [List.getElem?_toArray, List.getElem?_cons_zero, List.getElem?_cons_succ] at hy2
  have HB13 := Lib.hid hb13
  have HA3 := Lib.hid hA3
  have HF23 := Lib.hid hF23
  clear hb13 hA3 hF23
  go_upto_if 13 with (fail)
  go_cut [3] from 14 (fun v3 w' => ∃ A n c, v3 = .slice A n c ∧ n ≤ 3 ∧ Hid (App (New w2) w' 34 2 A n c (fvs ([(bMe, me), (bSc, sc)] ++ auL au))) ∧ Hid (Frm (New w2) w2 w'))
  case first =>
    cases au with
    | nil =>
      go_wp2_with (fail)
      go_meet
      exact ⟨_, 2, 2, rfl, by omega, HA3, HF23⟩
    | cons a1 ar =>
      go_wp2_with (at_builtin; refine wpList_append_lit flds rfl rfl rfl HA3.out (Up.new.frm HF23.out) rfl rfl (fld_one _ _) (by decide) ?_; intro A9 c9 w9 hA9 hF9 _ _; have HA9 := Lib.hid hA9; have HF9 := Lib.hid hF9; clear hA9 hF9)
      go_meet
      exact ⟨A9, 3, c9, rfl, by omega, HA9, Lib.hid (HF23.out.trans HF9.out)⟩
  case rest =>
    obtain ⟨A4, n4, c4, rfl, hn4, HA4, HF24⟩ := hcut
    rename World => w4
    have hb14 := HBA.out.fresh HF24.out
    have hla4 := hb14.lt
    have hy3 := hb14.cell 3
    simp only [List.getElem?_toArray, List.getElem?_cons_zero, List.getElem?_cons_succ] at hy3
    have HB14 := Lib.hid hb14
    clear hb14 HB13 hy2 hla3 HA3 HF23
    go_upto_region 5 with (at_builtin; refine wpList_append_lit flds rfl rfl rfl HA4.out (Up.new.frm HF24.out) rfl rfl (fld_one _ _) (by omega) ?_; intro A5 c5 w5 hA5 hF5 _ _)
    have hA5b : App (New w2) w5 34 2 A5 (n4 + 1) c5 (fvs ([(bMe, me), (bSc, sc)] ++ auL au ++ [(bPa, pa)])) := by
      rw [fvs_append]
      exact hA5
    have hF25 := HF24.out.trans hF5
    have hF05 := HF02.out.then_new Up.new hF25
    have hb15 := HBA.out.fresh hF25
    have hbm5 := HBM.out.fresh hF25
    have hr5 := HRR.out.fresh hF05
    have hr51 := hr5.r1
    have hr52 := hr5.r2
    have hr53 := hr5.r3
    simp only at hr51 hr52 hr53
    have hla5 := hb15.lt
    have hlm5 := hbm5.lt
    have hy4 := hb15.cell 4
    have hy5 := hb15.cell 5
    have hy6 := hb15.cell 6
    simp only [List.getElem?_toArray, List.getElem?_cons_zero, List.getElem?_cons_succ] at hy4 hy5 hy6
    have hstep : ∀ w', Frm (New w2) w2 w' → w'.cell? ⟨ba, 4, none⟩ = some (.slice A1 fs.length c1) ∧ w'.cell? ⟨ba, 5, none⟩ = some (.slice A2 b.length c2) ∧ w'.cell? ⟨ba, 6, none⟩ = some (.slice A3 ts.length c3) := fun w' f => ⟨(HBA.out.fresh f).cell 4, (HBA.out.fresh f).cell 5, (HBA.out.fresh f).cell 6⟩
    have hgm2 : ∀ k, New w2 k → k ≠ gm := fun k h e => by unfold New at h; omega
    clear hA5 hF5 HA4 HF24 HB14 hy3 hla4 hb15 hr5
    have HA5 := Lib.hid hA5b
    clear hA5b
    have HF25 := Lib.hid hF25
    have HF05 := Lib.hid hF05
    have HBM5 := Lib.hid hbm5
    have HR51 := Lib.hid hr51
    have HR52 := Lib.hid hr52
    have HR53 := Lib.hid hr53
    have HSTEP := Lib.hid hstep
    have HGM2 := Lib.hid hgm2
    clear hF25 hF05 hbm5 hr51 hr52 hr53 hstep hgm2

    go_region_held_law (fun w' => w'.cell? ⟨ba, 4, none⟩ = some (.slice A1 fs.length c1) ∧ w'.cell? ⟨ba, 5, none⟩ = some (.slice A2 b.length c2) ∧ w'.cell? ⟨ba, 6, none⟩ = some (.slice A3 ts.length c3))
      (first
        | exact HS8.out
        | exact ⟨((HBA.out.fresh HF28.out).keep (HBM8.out.put3 _ _ _).2 (by show ¬ (ba = gm); omega)).cell 4, ((HBA.out.fresh HF28.out).keep (HBM8.out.put3 _ _ _).2 (by show ¬ (ba = gm); omega)).cell 5, ((HBA.out.fresh HF28.out).keep (HBM8.out.put3 _ _ _).2 (by show ¬ (ba = gm); omega)).cell 6⟩
        | exact HS7.out
        | exact HS6.out
        | exact ⟨hy4, hy5, hy6⟩
        | go_keep)
      (first
        | (refine step_append (M := New w2) flds rfl rfl rfl (HA5.out.drew) (Up.new.frm HF25.out.drew) rfl (HR51.out.drew) (by rw [fvs_length]; omega) (fvs_one _) (by omega) ?_; intro A6 c6 w6 hA6 hF6 _
           have hFc : Frm (New w2) w2 w6 := (HF25.out.drew).trans hF6
           have hFd : Frm (New w2) w5 w6 := Frm.trans ((Frm.refl (New w2) w5).drew) hF6
           have HA6 := Lib.hid hA6; have HF26 := Lib.hid hFc; have HF56 := Lib.hid hFd
           have HS6 := Lib.hid (HSTEP.out _ hFc); have hla6 := (HBA.out.fresh hFc).lt
           clear hA6 hF6 hFc hFd)
        | (refine step_append (M := New w6) u8s rfl rfl rfl App.none_ Up.new rfl (show Rd _ A2 (bvs b) from (HRR.out.fresh (HF02.out.then_new Up.new HF26.out)).r2) (by simp) (bvs_one _) (by omega) ?_; intro A7 c7 w7 hA7 hF7 _
           have hFc : Frm (New w2) w2 w7 := HF26.out.then_new Up.new hF7
           have HA7 := Lib.hid hA7; have HF27 := Lib.hid hFc; have HF67 := Lib.hid hF7
           have HS7 := Lib.hid (HSTEP.out _ hFc); have hla7 := (HBA.out.fresh hFc).lt
           clear hA7 hF7 hFc)
        | (refine step_append (M := New w7) flds rfl rfl rfl App.none_ Up.new rfl (show Rd _ A3 (fvs ts) from (HRR.out.fresh (HF02.out.then_new Up.new HF27.out)).r3) (by rw [fvs_length]; omega) (fvs_one _) (by omega) ?_; intro A8 c8 w8 hA8 hF8 _
           have hFc : Frm (New w2) w2 w8 := HF27.out.then_new Up.new hF8
           have HA8 := Lib.hid hA8; have HF28 := Lib.hid hFc; have HF78 := Lib.hid hF8
           have HS8 := Lib.hid (HSTEP.out _ hFc); have hla8 := (HBA.out.fresh hFc).lt
           have HBM8 := Lib.hid (HBM.out.fresh hFc); have hlm8 := HBM8.out.lt
           obtain ⟨⟨_, _, _⟩, ⟨_, _, _⟩⟩ := HBM8.out.all3
           clear hA8 hF8 hFc))
    have hp := HBM8.out.put3 (.slice A6 (n4 + 1 + fs.length) c6) (.slice A7 b.length c7) (.slice A8 ts.length c8)
    generalize (((w8.setCell ⟨gm, 0, none⟩ (.slice A6 (n4 + 1 + fs.length) c6)).setCell ⟨gm, 1, none⟩ (.slice A7 b.length c7)).setCell ⟨gm, 2, none⟩ (.slice A8 ts.length c8)) = w9 at *
    have HP1 := Lib.hid hp.1
    have HP2 := Lib.hid hp.2
    clear hp
    go_wp2_with (fail)
    refine bodyPost_ret (results_agg agM rfl rfl HP1.out rfl) rfl ?_
    rw [← HQ.out]
    have hfl : fvs ([(bMe, me), (bSc, sc)] ++ auL au ++ [(bPa, pa)]) ++ fvs fs = fvs (ofL ⟨me, sc, au, pa, fs, b, ts⟩) := by
      unfold ofL
      simp only [fvs_append]
    have hA6' := HA6.out
    rw [hfl] at hA6'
    have hln : n4 + 1 + fs.length = (ofL ⟨me, sc, au, pa, fs, b, ts⟩).length := by
      have h := hA6'.len
      rw [fvs_length] at h
      omega
    have hne : ∀ k, w2.heap.size ≤ k → k ≠ gm := fun k hk e => by omega
    have h27 := HF27.out.size
    have h26 := HF26.out.size
    have h68 : Frm (New w6) w6 w8 := HF67.out.then_new Up.new HF78.out
    have hA6w : App (New w2) w9 34 2 A6 (n4 + 1 + fs.length) c6 (fvs (ofL ⟨me, sc, au, pa, fs, b, ts⟩)) := (hA6'.fresh h68).keep HP2.out (fun k hk e => HGM2.out k (HA6.out.inM k hk) e)
    have hA8w : App (New w7) w9 34 2 A8 (0 + ts.length) c8 (fvs ts) := HA8.out.keep HP2.out (fun k hk e => hne k (by have := HA8.out.inM k hk; unfold New at this; omega) e)
    have hw2 := HF02.out.size
    refine ⟨⟨A6, c6, ofL ⟨me, sc, au, pa, fs, b, ts⟩, A7, c7, b, A8, c8, ts⟩, by rw [hln]; rfl, ⟨hA6w.rd, ?_, hA8w.rd⟩, rfl, rfl, rfl, ?_, ?_, ?_⟩
    · exact ((HA7.out.rd).fresh HF78.out).keep HP2.out (fun k hk e => hne k (by have := HA7.out.inM k hk; unfold New at this; omega) e)
    · exact (HF02.out.then_new Up.new HF28.out).trans (HP2.out.mono (fun k hk => by subst hk; exact hgw))
    · show App (New w) w9 34 2 A6 (ofL ⟨me, sc, au, pa, fs, b, ts⟩).length c6 (fvs (ofL ⟨me, sc, au, pa, fs, b, ts⟩))
      rw [← hln]
      exact hA6w.mono (fun k hk => by unfold New at hk ⊢; omega)
    · have h8 := hA8w.mono (M' := New w) (fun k hk => by unfold New at hk ⊢; omega)
      rw [Nat.zero_add] at h8
      exact h8
end Go.Proofs.YtpojejdddgdjdaaDoor.M
