/- SemRequests: the walk. No condition. -/
import Derived.BigQuiet
import Derived.Deep.RegionHeld3
import Derived.Deep.CutBlock
import Derived.Lib.Hide
import Derived.IntWalk
import Derived.Test.YtpojejdddgdjdaaDoorSkn
import Derived.Test.YtpojejdddgdjdaaDoorSro
import Derived.Test.YtpojejdddgdjdaaDoorSrq
import Derived.Test.YtpojejdddgdjdaaDoorSlh
import Derived.Test.YtpojejdddgdjdaaDoorSar
namespace Go.Proofs.YtpojejdddgdjdaaDoor.M
open Go.ChangeShapes Go.WideShapes Go.ChangeAt Go.RowKit

theorem rq_len {m : MV} (h : lightM m = true) : (rq m).fs.length ≤ 70 ∧ (rq m).ts.length ≤ 70 := by
  obtain ⟨_, _, h3, h4⟩ := lightM_sz h
  unfold rq
  split
  · refine ⟨?_, h3⟩
    have e : spS m.fs ++ spR m.fs = m.fs := sp_app _
    have := congrArg List.length e
    rw [List.length_append] at this
    show (spR m.fs).length ≤ 70
    omega
  · exact ⟨by decide, by decide⟩
set_option maxRecDepth 100000 in
set_option maxHeartbeats 4000000 in
theorem requests_walk (m : MV) (W : World) (hm : MArg W m) :
    Calls Tryd.prog 3 #[.agg m.cells] W fun e w' => e = .returned (.bool true) ∧ Below W.heap.size W w' := by
  have hk := known_any W
  have hfr : ∀ (w : World) t cs, Frm (New w) w (w.alloc (.cells cs t)) := fun w t cs => (Frm.refl _ w).alloc Up.new _
  have hli : ∀ w', Frm (New W) W w' → Calls Tryd.prog 12 #[.agg m.cells] w' fun e w2 => e = .returned (.bool (lightM m)) ∧ Frm (New w') w' w2 := fun w' f => lightM_any m w' (hm.rd.fresh f) hm.ok
  have hrq : lightM m = true → ∀ w', Frm (New W) W w' → Calls Tryd.prog 13 #[.agg m.cells] w' (RqR w' m) := fun h w' f => request_any m w' (hm.rd.fresh f) (lightM_sz h).1 (by have := (lightM_sz h).2; omega) (by have := (lightM_sz h).2; omega)
  have hof : lightM m = true → ∀ w', Frm (New W) W w' → Calls Tryd.prog 14 #[.agg m.cells] w' (RqR w' m) := fun h w' f => rof_any m w' (hm.rd.fresh f) (lightM_sz h).1
  have hla : lightM m = true → ∀ w', Frm (New W) W w' → Calls Tryd.prog 16 #[.agg m.cells] w' fun e w2 => e = .returned (.bool (lrgM m)) ∧ Frm (New w') w' w2 := fun h w' f => Large_any m w' (hm.rd.fresh f) (lightM_sz h).1
  have hrl : lightM m = true → ∀ w', Frm (New W) W w' → Calls Tryd.prog 17 #[.agg m.cells] w' fun e w2 => e = .returned (.bool (lrgM m)) ∧ Frm (New w') w' w2 := fun h w' f => rLarge_any m w' (hm.rd.fresh f) (lightM_sz h).1
  have hln : lightM m = true → (rq m).fs.length ≤ 70 ∧ (rq m).ts.length ≤ 70 := rq_len
  obtain ⟨x1, x2, x3, hx⟩ : ∃ x1 x2 x3, m.cells = #[x1, x2, x3] := ⟨_, _, _, rfl⟩
  rw [hx] at hli hrq hof hla hrl ⊢
  generalize lightM m = lm at *
  generalize lrgM m = lg at *
  clear hm hx
  have HK := Lib.hid hk
  have HFR := Lib.hid hfr
  have HLI := Lib.hid hli
  have HREQ := Lib.hid hrq
  have HOF := Lib.hid hof
  have HLA := Lib.hid hla
  have HRL := Lib.hid hrl
  have HLN := Lib.hid hln
  clear hk hfr hli hrq hof hla hrl hln
  go_enter Tryd.func3, Tryd.ntmps3
  go_upto_region 1 with (fail)
  have hb1 := Blk.new W 25 #[x1, x2, x3]
  have hF1 := HFR.out W 25 #[x1, x2, x3]
  have hz1 : W.heap.size < (W.alloc (.cells #[x1, x2, x3] 25)).heap.size := hb1.lt
  have hk1 := known_any (W.alloc (.cells #[x1, x2, x3] 25))
  generalize W.alloc (.cells #[x1, x2, x3] 25) = w1 at *
  obtain ⟨bm, hbm⟩ : ∃ bm, bm = W.heap.size := ⟨_, rfl⟩
  rw [← hbm] at hb1 ⊢
  clear HK hbm
  have HB1 := Lib.hid hb1
  have HF1 := Lib.hid hF1
  have HK1 := Lib.hid hk1
  clear hk1
  clear hb1 hF1 hz1
  go_upto_region 3 with (go_at_call 11; refine HK1.out.mono ?_; rintro e w2 ⟨rfl, hF2⟩)
  have hb2 := HB1.out.fresh hF2
  have hF02 := HF1.out.then_new Up.new hF2
  have hl2 := HLI.out w2 hF02
  clear HB1 HF1 HK1 hF2
  have HB2 := Lib.hid hb2
  have HF02 := Lib.hid hF02
  have HL2 := Lib.hid hl2
  clear hb2 hF02 hl2
  cases lm with
  | false =>
    go_wp2_with (first
      | (refine wpList_load_agg agM rfl rfl rfl HB2.out rfl ?_)
      | (go_at_call 12; refine HL2.out.mono ?_; rintro e w3 ⟨rfl, hF3⟩))
    go_ret
    exact ⟨rfl, (HF02.out.then_new Up.new hF3).below⟩
  | true =>
    go_upto_region 5 with (first
      | (refine wpList_load_agg agM rfl rfl rfl HB2.out rfl ?_)
      | (go_at_call 12; refine HL2.out.mono ?_; rintro e w3 ⟨rfl, hF3⟩))
    have hb3 := HB2.out.fresh hF3
    have hF03 := HF02.out.then_new Up.new hF3
    have hq3 := HREQ.out (by trivial) w3 hF03
    clear HB2 HF02 HL2 hF3 HLI
    have HB3 := Lib.hid hb3
    have HF03 := Lib.hid hF03
    have HQ3 := Lib.hid hq3
    clear hb3 hF03 hq3
    go_upto_region 6 with (first
      | (refine wpList_load_agg agM rfl rfl rfl HB3.out rfl ?_)
      | (go_at_call 13; refine HQ3.out.mono ?_; intro e w4 hR; obtain ⟨⟨p1, p2, p3, p4, a1, c1, f, a2, c2, b, a3, c3, t⟩, rfl, hin, hq, hF4⟩ := hR; simp only [RV.cells])
      | (refine wpList_new rfl rfl zReq rfl ?_; intro w5 hb5 hF5 hs5)
      | (refine wpList_store_agg rfl rfl rfl rfl hb5 rfl (req_one _ _ _ _ _ _ _ _ _ _ _ _ _) (by kernel_rfl) ?_; intro w6 hb6 hF6 hs6))
    obtain ⟨g3, hg3⟩ : ∃ g3, g3 = w4.heap.size := ⟨_, rfl⟩
    rw [← hg3] at hb6 hb5 hF6 ⊢
    have hF46 : Frm (New w4) w4 w6 := hF5.trans (hF6.mono (fun k hk => by subst hk; unfold New; omega))
    have hb36 := (HB3.out.fresh hF4).fresh hF46
    have hF06 := (HF03.out.then_new Up.new hF4).then_new Up.new hF46
    have hin6 := hin.fresh hF46
    have hq6 := HOF.out (by trivial) w6 hF06
    clear hg3 hb5 hF5 hs5 hF6 hs6 hF46 hF4 hin HB3 HF03 HQ3 HREQ HOF
    have HG6 := Lib.hid hb6
    clear hb6
    have HB36 := Lib.hid hb36
    have HF06 := Lib.hid hF06
    have HQ6 := Lib.hid hq6
    have HIN6 := Lib.hid hin6
    have HQA := Lib.hid hq
    clear hb36 hF06 hq6 hin6 hq
    go_upto_region 7 with (first
      | (refine wpList_load_agg agM rfl rfl rfl HB36.out rfl ?_)
      | (go_at_call 14; refine HQ6.out.mono ?_; intro e w7 hR; obtain ⟨⟨q1, q2, q3, q4, a4, c4, f', a5, c5, b', a6, c6, t'⟩, rfl, hin, hq, hF7⟩ := hR; simp only [RV.cells])
      | (refine wpList_new rfl rfl zReq rfl ?_; intro w8 hb8 hF8 hs8)
      | (refine wpList_store_agg rfl rfl rfl rfl hb8 rfl (req_one _ _ _ _ _ _ _ _ _ _ _ _ _) (by kernel_rfl) ?_; intro w9 hb9 hF9 hs9))
    obtain ⟨g5, hg5⟩ : ∃ g5, g5 = w7.heap.size := ⟨_, rfl⟩
    rw [← hg5] at hb9 hb8 hF9 ⊢
    have hF79 : Frm (New w7) w7 w9 := hF8.trans (hF9.mono (fun k hk => by subst hk; unfold New; omega))
    have hF69 := hF7.trans (hF79.mono (fun k hk => by have := hF7.size; unfold New at hk ⊢; omega))
    have hb39 := HB36.out.fresh hF69
    have hg39 := HG6.out.fresh hF69
    have hF09 := HF06.out.then_new Up.new hF69
    have hina := HIN6.out.fresh hF69
    have hinb := hin.fresh hF79
    have hHR : ∀ w', Frm (New w9) w9 w' → Calls Tryd.prog 15 #[.agg #[.string ⟨p1.toArray⟩, .string ⟨p2.toArray⟩, .string ⟨p3.toArray⟩, .string ⟨p4.toArray⟩, .slice a1 f.length c1, .slice a2 b.length c2, .slice a3 t.length c3], .agg #[.string ⟨q1.toArray⟩, .string ⟨q2.toArray⟩, .string ⟨q3.toArray⟩, .string ⟨q4.toArray⟩, .slice a4 f'.length c4, .slice a5 b'.length c5, .slice a6 t'.length c6]] w' fun e w2 => e = .returned (.bool true) ∧ Frm (New w') w' w2 := fun w' fr => by
      have hl := HLN.out (by trivial)
      have e1 : f = (rq m).fs := by rw [← HQA.out]; rfl
      have e3 : t = (rq m).ts := by rw [← HQA.out]; rfl
      exact hrequest_eq ⟨p1, p2, p3, p4, a1, c1, f, a2, c2, b, a3, c3, t⟩ ⟨q1, q2, q3, q4, a4, c4, f', a5, c5, b', a6, c6, t'⟩ w' (hina.fresh fr) (hinb.fresh fr) (hq.trans HQA.out.symm) (by show f.length ≤ _; rw [e1]; omega) (by show t.length ≤ _; rw [e3]; omega)
    have hLA : ∀ w', Frm (New w9) w9 w' → Calls Tryd.prog 16 #[.agg #[x1, x2, x3]] w' fun e w2 => e = .returned (.bool lg) ∧ Frm (New w') w' w2 := fun w' fr => HLA.out (by trivial) w' (hF09.then_new Up.new fr)
    have hLB : ∀ w', Frm (New w9) w9 w' → Calls Tryd.prog 17 #[.agg #[x1, x2, x3]] w' fun e w2 => e = .returned (.bool lg) ∧ Frm (New w') w' w2 := fun w' fr => HRL.out (by trivial) w' (hF09.then_new Up.new fr)
    have HG9 := Lib.hid hb9
    clear hb9 hg5 hb8 hF8 hs8 hF9 hs9 hF79 hF69 hF7 hin hina hinb hq HB36 HG6 HF06 HQ6 HIN6 HLA HRL HLN HQA
    have HB39 := Lib.hid hb39
    have HG39 := Lib.hid hg39
    have HF09 := Lib.hid hF09
    have CHR := Lib.hid hHR
    have CLA := Lib.hid hLA
    have CLB := Lib.hid hLB
    clear hb39 hg39 hF09 hHR hLA hLB
    generalize rcls m = rc at *
    have hst : ∀ w', Frm (New w9) w9 w' → w'.cell? ⟨bm, 0, none⟩ = some (x1) ∧ w'.cell? ⟨bm, 1, none⟩ = some (x2) ∧ w'.cell? ⟨bm, 2, none⟩ = some (x3) ∧ w'.cell? ⟨g3, 0, none⟩ = some (.string ⟨p1.toArray⟩) ∧ w'.cell? ⟨g3, 1, none⟩ = some (.string ⟨p2.toArray⟩) ∧ w'.cell? ⟨g3, 2, none⟩ = some (.string ⟨p3.toArray⟩) ∧ w'.cell? ⟨g3, 3, none⟩ = some (.string ⟨p4.toArray⟩) ∧ w'.cell? ⟨g3, 4, none⟩ = some (.slice a1 f.length c1) ∧ w'.cell? ⟨g3, 5, none⟩ = some (.slice a2 b.length c2) ∧ w'.cell? ⟨g3, 6, none⟩ = some (.slice a3 t.length c3) ∧ w'.cell? ⟨g5, 0, none⟩ = some (.string ⟨q1.toArray⟩) ∧ w'.cell? ⟨g5, 1, none⟩ = some (.string ⟨q2.toArray⟩) ∧ w'.cell? ⟨g5, 2, none⟩ = some (.string ⟨q3.toArray⟩) ∧ w'.cell? ⟨g5, 3, none⟩ = some (.string ⟨q4.toArray⟩) ∧ w'.cell? ⟨g5, 4, none⟩ = some (.slice a4 f'.length c4) ∧ w'.cell? ⟨g5, 5, none⟩ = some (.slice a5 b'.length c5) ∧ w'.cell? ⟨g5, 6, none⟩ = some (.slice a6 t'.length c6) := fun w' h => ⟨(HB39.out.fresh h).cell 0, (HB39.out.fresh h).cell 1, (HB39.out.fresh h).cell 2, (HG39.out.fresh h).cell 0, (HG39.out.fresh h).cell 1, (HG39.out.fresh h).cell 2, (HG39.out.fresh h).cell 3, (HG39.out.fresh h).cell 4, (HG39.out.fresh h).cell 5, (HG39.out.fresh h).cell 6, (HG9.out.fresh h).cell 0, (HG9.out.fresh h).cell 1, (HG9.out.fresh h).cell 2, (HG9.out.fresh h).cell 3, (HG9.out.fresh h).cell 4, (HG9.out.fresh h).cell 5, (HG9.out.fresh h).cell 6⟩
    have h0 := hst w9 (Frm.refl _ _)
    have HS0 := Lib.hid h0
    have hlts : bm < w9.heap.size ∧ g3 < w9.heap.size ∧ g5 < w9.heap.size := ⟨HB39.out.lt, HG39.out.lt, HG9.out.lt⟩
    obtain ⟨hlt1, hlt2, hlt3⟩ := hlts
    clear h0
    have HST := Lib.hid hst
    clear hst
    go_cut [2] from 22 (fun v2 w' => v2 = .bool true ∧ Hid (Frm (New w9) w9 w'))
    case first =>
      go_region_held3 (fun w' => w'.cell? ⟨bm, 0, none⟩ = some (x1) ∧ w'.cell? ⟨bm, 1, none⟩ = some (x2) ∧ w'.cell? ⟨bm, 2, none⟩ = some (x3) ∧ w'.cell? ⟨g3, 0, none⟩ = some (.string ⟨p1.toArray⟩) ∧ w'.cell? ⟨g3, 1, none⟩ = some (.string ⟨p2.toArray⟩) ∧ w'.cell? ⟨g3, 2, none⟩ = some (.string ⟨p3.toArray⟩) ∧ w'.cell? ⟨g3, 3, none⟩ = some (.string ⟨p4.toArray⟩) ∧ w'.cell? ⟨g3, 4, none⟩ = some (.slice a1 f.length c1) ∧ w'.cell? ⟨g3, 5, none⟩ = some (.slice a2 b.length c2) ∧ w'.cell? ⟨g3, 6, none⟩ = some (.slice a3 t.length c3) ∧ w'.cell? ⟨g5, 0, none⟩ = some (.string ⟨q1.toArray⟩) ∧ w'.cell? ⟨g5, 1, none⟩ = some (.string ⟨q2.toArray⟩) ∧ w'.cell? ⟨g5, 2, none⟩ = some (.string ⟨q3.toArray⟩) ∧ w'.cell? ⟨g5, 3, none⟩ = some (.string ⟨q4.toArray⟩) ∧ w'.cell? ⟨g5, 4, none⟩ = some (.slice a4 f'.length c4) ∧ w'.cell? ⟨g5, 5, none⟩ = some (.slice a5 b'.length c5) ∧ w'.cell? ⟨g5, 6, none⟩ = some (.slice a6 t'.length c6))
        (first
          | exact HS12.out
          | exact HS11.out
          | exact HS10.out
          | exact HS0.out)
        (first
          | (go_at_call 15
             refine (CHR.out _ (by first | exact (Frm.refl (New w9) w9).drew | exact Frm.refl (New w9) w9)).mono ?_
             rintro e w10 ⟨rfl, hF10⟩
             have HF10 : Hid (Frm (New w9) w9 w10) := Lib.hid (Frm.trans ((Frm.refl (New w9) w9).drew) hF10)
             have HS10 := Lib.hid (HST.out _ HF10.out)
             clear hF10)
          | (go_at_call 16
             refine (CLA.out _ (by first | exact HF12.out | exact HF10.out)).mono ?_
             rintro e w11 ⟨rfl, hF11⟩
             have HF11 : Hid (Frm (New w9) w9 w11) := Lib.hid (Frm.then_new (by first | exact HF12.out | exact HF10.out) Up.new hF11)
             have HS11 := Lib.hid (HST.out _ HF11.out)
             clear hF11)
          | (go_at_call 17
             refine (CLB.out _ (by first | exact HF11.out | exact HF10.out)).mono ?_
             rintro e w12 ⟨rfl, hF12⟩
             have HF12 : Hid (Frm (New w9) w9 w12) := Lib.hid (Frm.then_new (by first | exact HF11.out | exact HF10.out) Up.new hF12)
             have HS12 := Lib.hid (HST.out _ HF12.out)
             clear hF12)
          | fail)
      all_goals go_wp2_with (fail)
      all_goals go_meet
      all_goals first
        | exact ⟨rfl, HF12⟩
        | exact ⟨rfl, HF11⟩
    case rest =>
      obtain ⟨rfl, hF⟩ := hcut
      go_wp2_with (fail)
      go_ret
      exact ⟨rfl, (HF09.out.then_new Up.new hF.out).below⟩
end Go.Proofs.YtpojejdddgdjdaaDoor.M
