/- bifoldref26.Of: the document's request and the class. The sizes together are below 2^62. -/
import Derived.BigQuiet
import Derived.StillTailTactics
import Derived.Deep.CutBlock
import Derived.Lib.Hide
import Derived.IntWalk
import Derived.Test.YtpojejdddgdjdaaGreatDoorSrv
import Derived.Test.YtpojejdddgdjdaaGreatDoorSsw
namespace Go.Proofs.YtpojejdddgdjdaaGreatDoor.M
open Go.ChangeShapes Go.WideShapes Go.ChangeAt Go.RowKit

set_option maxRecDepth 100000 in
set_option maxHeartbeats 1500000 in
theorem rof_any (m : MV) (w : World) (hm : MIn w m) (hz : MSz m) :
    Calls Tryz.prog 8 #[.agg m.cells] w (RqR w m) := by
  have hLc : ∀ w', Frm (New w) w w' → Calls Tryz.prog 25 #[.agg m.cells] w' fun e w2 => e = .returned (.bool (lrgM m)) ∧ Frm (New w') w' w2 := fun w' f => rLarge_any m w' (hm.fresh f) hz
  have hSh : lrgM m = false → ∀ w', Frm (New w) w w' → Calls Tryz.prog 26 #[.agg m.cells, .slice (some ⟨w'.heap.size, 0, none⟩) 4 4] (w'.alloc (.cells #[str bMe, str bSc, str bAu, str bPa] 9)) (ShapeR (w'.alloc (.cells #[str bMe, str bSc, str bAu, str bPa] 9)) names4 m) := fun h w' f =>
    shape_any names4 _ 4 m _ (Rd.new w' #[str bMe, str bSc, str bAu, str bPa] 9) (by decide) (by decide) (hm.fresh (f.alloc Up.new _)) hz (lrg64 h)
  have hfr : ∀ (w : World) t cs, Frm (New w) w (w.alloc (.cells cs t)) := fun w t cs => (Frm.refl _ w).alloc Up.new _
  generalize hQ : RqR w m = Q
  obtain ⟨lg, hlg⟩ : ∃ lg, lg = lrgM m := ⟨_, rfl⟩
  rw [← hlg] at hLc hSh
  have hx : m.cells = #[.slice m.A1 m.fs.length m.c1, .slice m.A2 m.b.length m.c2, .slice m.A3 m.ts.length m.c3] := rfl
  obtain ⟨x1, hx1⟩ : ∃ x1, x1 = Value.slice m.A1 m.fs.length m.c1 := ⟨_, rfl⟩
  have hNo : ∀ c w', rcls m = c → c ≠ 0 → Frm (New w) w w' → Q (.returned (.tuple #[.agg RV.nil.cells, .int .i64 (c : Int)])) w' := fun c w' h1 h2 h3 => by
    rw [← hQ]
    exact RqR.no h1 h2 h3
  simp only [RV.nil, RV.cells] at hNo
  have HQ := Lib.hid hQ
  clear hQ
  rw [← hx1] at hx
  rw [hx] at hLc hSh ⊢
  have HLC := Lib.hid hLc
  have HSH := Lib.hid hSh
  have HFR := Lib.hid hfr
  have HM := Lib.hid hm
  have HX := Lib.hid hx
  have HLG := Lib.hid hlg
  have HX1 := Lib.hid hx1
  have HNO := Lib.hid hNo
  clear hLc hSh hfr hm hx hlg hx1 hNo
  clear hz
  go_enter Tryz.func8, Tryz.ntmps8
  go_upto_region 1 with (fail)
  have hb1 := Blk.new w 30 #[x1, .slice m.A2 m.b.length m.c2, .slice m.A3 m.ts.length m.c3]
  have hF1 := HFR.out w 30 #[x1, .slice m.A2 m.b.length m.c2, .slice m.A3 m.ts.length m.c3]
  have hs1 : (w.alloc (.cells #[x1, .slice m.A2 m.b.length m.c2, .slice m.A3 m.ts.length m.c3] 30)).heap.size = w.heap.size + 1 := by simp
  generalize w.alloc (.cells #[x1, .slice m.A2 m.b.length m.c2, .slice m.A3 m.ts.length m.c3] 30) = w1 at *
  have hr1 := Blk.new w1 32 #[.string ⟨#[]⟩, .string ⟨#[]⟩, .string ⟨#[]⟩, .string ⟨#[]⟩, .slice none 0 0, .slice none 0 0, .slice none 0 0]
  have hF2 := HFR.out w1 32 #[.string ⟨#[]⟩, .string ⟨#[]⟩, .string ⟨#[]⟩, .string ⟨#[]⟩, .slice none 0 0, .slice none 0 0, .slice none 0 0]
  generalize w1.alloc (.cells #[.string ⟨#[]⟩, .string ⟨#[]⟩, .string ⟨#[]⟩, .string ⟨#[]⟩, .slice none 0 0, .slice none 0 0, .slice none 0 0] 32) = w2 at *
  have hb2 := hb1.fresh hF2
  have hF02 := hF1.then_new Up.new hF2
  obtain ⟨bm, hbm⟩ : ∃ bm, bm = w.heap.size := ⟨_, rfl⟩
  rw [← hbm] at hb1 hb2 hs1 ⊢
  obtain ⟨gr, hgr⟩ : ∃ gr, gr = bm + 1 := ⟨_, rfl⟩
  rw [hs1, ← hgr] at hr1
  rw [← hgr]
  have hbg : bm < gr := by have := hb1.lt; omega
  have hgrw : w.heap.size ≤ gr := by omega
  have hgl := hr1.lt
  have hc2 := HLC.out w2 hF02
  clear hb1 hF1 hF2 hbm hgr hs1
  have HB2 := Lib.hid hb2
  have HR2 := Lib.hid hr1
  have HF02 := Lib.hid hF02
  clear hb2 hr1 hF02
  have HC2 := Lib.hid hc2
  clear hc2
  cases lg with
  | true =>
    have hq2 : rcls m = 2 := by unfold rcls; rw [if_pos HLG.out.symm]
    have HQ2 := Lib.hid hq2
    clear hq2
    go_wp2_with (first
      | (refine wpList_load_agg agM rfl rfl rfl HB2.out rfl ?_)
      | (go_at_call 25; refine HC2.out.mono ?_; rintro e w3 ⟨rfl, hF3⟩)
      | (refine wpList_store_agg rfl rfl rfl (cs := #[.string ⟨#[]⟩, .string ⟨#[]⟩, .string ⟨#[]⟩, .string ⟨#[]⟩, .slice none 0 0, .slice none 0 0, .slice none 0 0]) rfl (HR2.out.fresh hF3) rfl (req_one _ _ _ _ _ _ _ _ _ _ _ _ _) (by kernel_rfl) ?_; intro w4 hb4 hF4 hs4))
    refine bodyPost_ret (results_agg_tmp agR rfl rfl rfl hb4 rfl) rfl ?_
    exact HNO.out 2 _ HQ2.out (by decide) ((HF02.out.then_new Up.new hF3).trans (hF4.mono (fun k hk => by subst hk; exact hgrw)))
  | false =>
    go_upto_region 3 with (first
      | (refine wpList_load_agg agM rfl rfl rfl HB2.out rfl ?_)
      | (go_at_call 25; refine HC2.out.mono ?_; rintro e w3 ⟨rfl, hF3⟩))
    have hb3 := HB2.out.fresh hF3
    have hr3 := HR2.out.fresh hF3
    have hF03 := HF02.out.then_new Up.new hF3
    have hsh3 := HSH.out (by trivial) w3 hF03
    have hF04 := hF03.alloc Up.new (.cells #[str bMe, str bSc, str bAu, str bPa] 9)
    have hr4 := hr3.alloc (.cells #[str bMe, str bSc, str bAu, str bPa] 9)
    simp only [str] at hsh3 hF04 hr4
    clear HB2 HR2 HF02 hF3 HC2 HLC HSH
    have HB3 := Lib.hid hb3
    have HR3 := Lib.hid hr3
    have HF03 := Lib.hid hF03
    have HSH3 := Lib.hid hsh3
    have HF04 := Lib.hid hF04
    have HR4 := Lib.hid hr4
    clear hb3 hr3 hF03 hsh3 hF04 hr4
    go_upto_region 4 with (first
      | (refine wpList_load_agg agM rfl rfl rfl HB3.out rfl ?_)
      | (go_at_call 26; refine HSH3.out.mono ?_; intro e w4 hR; obtain ⟨hF4, V, k, A, n, c, rfl, hR4⟩ := hR.out))
    have hgr4 := HR4.out.fresh hF4
    have hbm4 := (HB3.out.alloc _).fresh hF4
    have hmb := (HM.out.fresh (HF04.out.then_new Up.new hF4)).r2
    have hmt := (HM.out.fresh (HF04.out.then_new Up.new hF4)).r3
    have hF0 := HF04.out.then_new Up.new hF4
    have hcl : rcls m = if okF names4 m && rokV (val (spS m.fs) bMe) (val (spS m.fs) bSc) (val (spS m.fs) bPa) then 0 else 1 := by
      unfold rcls
      rw [if_neg (by rw [← HLG.out]; exact Bool.false_ne_true)]
    have hrq : rcls m = 0 → rq m = ⟨val (spS m.fs) bMe, val (spS m.fs) bSc, val (spS m.fs) bAu, val (spS m.fs) bPa, spR m.fs, m.b, m.ts⟩ := fun h => by unfold rq; rw [if_pos h]
    have hva : (valsA names4 (spS m.fs)).toList = [str (val (spS m.fs) bMe), str (val (spS m.fs) bSc), str (val (spS m.fs) bAu), str (val (spS m.fs) bPa)] := rfl
    rw [hva] at hR4
    have hAb : okF names4 m = true → App (New w) w4 38 2 A n c (fvs (spR m.fs)) := fun h => (hR4 h).2.2.1.mono (fun k hk => by have := HF04.out.size; unfold New at hk ⊢; omega)
    have hAg : okF names4 m = true → ∀ k, blk A = some k → k ≠ gr := fun h k hk => by
      have h1 := (hR4 h).2.2.1.inM k hk
      have h2 := HR4.out.lt
      unfold New at h1
      omega
    have hR5 : okF names4 m = true → k = 4 ∧ n = (spR m.fs).length ∧ Rd w4 V [str (val (spS m.fs) bMe), str (val (spS m.fs) bSc), str (val (spS m.fs) bAu), str (val (spS m.fs) bPa)] := fun h => ⟨(hR4 h).1, (hR4 h).2.1, (hR4 h).2.2.2⟩
    clear hR hR4 hF4 HF04 HR4 HSH3 HF03 HR3 hva
    generalize val (spS m.fs) bMe = me at *
    generalize val (spS m.fs) bSc = sc at *
    generalize val (spS m.fs) bAu = au at *
    generalize val (spS m.fs) bPa = pa at *
    generalize okF names4 m = ok at *
    have hfin : ∀ w', Frm (· = gr) w4 w' → (ok && rokV me sc pa) = false → Q (.returned (.tuple #[.agg #[.string ⟨#[]⟩, .string ⟨#[]⟩, .string ⟨#[]⟩, .string ⟨#[]⟩, .slice none 0 0, .slice none 0 0, .slice none 0 0], .int .i64 ((1 : Nat) : Int)])) w' := fun w' f h => by
      refine HNO.out 1 _ (by rw [hcl, h]; rfl) (by decide) (hF0.trans (f.mono (fun k hk => ?_)))
      subst hk; exact hgrw
    have HFIN := Lib.hid hfin
    have HGR4 := Lib.hid hgr4
    have HF04 := Lib.hid hF0
    have HCL := Lib.hid hcl
    have HRQ := Lib.hid hrq
    have HBM4 := Lib.hid hbm4
    have HMB := Lib.hid hmb
    have HMT := Lib.hid hmt
    have HAB := Lib.hid hAb
    have HAG := Lib.hid hAg
    clear hfin hgr4 hF0 hcl hrq hbm4 hmb hmt hAb hAg
    cases ok with
    | false =>
      go_wp2_with (refine wpList_store_agg rfl rfl rfl (cs := #[.string ⟨#[]⟩, .string ⟨#[]⟩, .string ⟨#[]⟩, .string ⟨#[]⟩, .slice none 0 0, .slice none 0 0, .slice none 0 0]) rfl HGR4.out rfl (req_one _ _ _ _ _ _ _ _ _ _ _ _ _) (by kernel_rfl) ?_; intro w12 hb12 hF12 hs12)
      refine bodyPost_ret (results_agg_tmp agR rfl rfl rfl hb12 rfl) rfl ?_
      exact HFIN.out _ hF12 (by rfl)
    | true =>
    obtain ⟨rfl, rfl, hV⟩ := hR5 rfl
    clear hR5
    obtain ⟨gV, oV, rfl, hv0⟩ := hV.at_ (k := 0) (by simp)
    obtain ⟨_, _, e1, hv1⟩ := hV.at_ (k := 1) (by simp)
    simp only [Option.some.injEq, Addr.mk.injEq, and_true] at e1
    obtain ⟨rfl, rfl⟩ := e1
    obtain ⟨_, _, e1, hv2⟩ := hV.at_ (k := 2) (by simp)
    simp only [Option.some.injEq, Addr.mk.injEq, and_true] at e1
    obtain ⟨rfl, rfl⟩ := e1
    obtain ⟨_, _, e1, hv3⟩ := hV.at_ (k := 3) (by simp)
    simp only [Option.some.injEq, Addr.mk.injEq, and_true] at e1
    obtain ⟨rfl, rfl⟩ := e1
    simp only [str, List.getElem_cons_zero, List.getElem_cons_succ, Nat.add_zero] at hv0 hv1 hv2 hv3
    have hvl := World.block_lt_of_cell? _ _ hv0
    simp only at hvl
    have hbml := HBM4.out.lt
    have hm1 := HBM4.out.cell 1
    have hm2 := HBM4.out.cell 2
    simp only [List.getElem?_toArray, List.getElem?_cons_zero, List.getElem?_cons_succ] at hm1 hm2
    have hgood : ∀ w', Frm (· = gr) w4.drew w' → rokV me sc pa = true → Q (.returned (.tuple #[.agg #[.string ⟨me.toArray⟩, .string ⟨sc.toArray⟩, .string ⟨au.toArray⟩, .string ⟨pa.toArray⟩, .slice A (spR m.fs).length c, .slice m.A2 m.b.length m.c2, .slice m.A3 m.ts.length m.c3], .int .i64 ((0 : Nat) : Int)])) w' := fun w' f h => by
      have h0 : rcls m = 0 := by rw [HCL.out, h]; rfl
      have hf : Frm (fun k => k = gr) w4 w' := ((Frm.refl (fun k => k = gr) w4).drew).trans f
      rw [← HQ.out]
      refine ⟨⟨me, sc, au, pa, A, c, spR m.fs, m.A2, m.c2, m.b, m.A3, m.c3, m.ts⟩, by rw [h0]; rfl, ⟨(HAB.out (by trivial)).rd.keep hf (fun k hk e => HAG.out (by trivial) k hk e), (HM.out.fresh (HF04.out.trans (hf.mono (fun k hk => by subst hk; exact hgrw)))).r2, (HM.out.fresh (HF04.out.trans (hf.mono (fun k hk => by subst hk; exact hgrw)))).r3⟩, (HRQ.out h0).symm, HF04.out.trans (hf.mono (fun k hk => ?_))⟩
      subst hk; exact hgrw
    have HGOOD := Lib.hid hgood
    have HV := Lib.hid hV
    clear hgood hV
    cases me with
    | nil =>
      go_wp2_with (refine wpList_store_agg rfl rfl rfl (cs := #[.string ⟨#[]⟩, .string ⟨#[]⟩, .string ⟨#[]⟩, .string ⟨#[]⟩, .slice none 0 0, .slice none 0 0, .slice none 0 0]) rfl HGR4.out rfl (req_one _ _ _ _ _ _ _ _ _ _ _ _ _) (by kernel_rfl) ?_; intro w12 hb12 hF12 hs12)
      refine bodyPost_ret (results_agg_tmp agR rfl rfl rfl hb12 rfl) rfl ?_
      exact HFIN.out _ hF12 (by unfold rokV; rfl)
    | cons m1 mr =>
    cases sc with
    | nil =>
      go_wp2_with (refine wpList_store_agg rfl rfl rfl (cs := #[.string ⟨#[]⟩, .string ⟨#[]⟩, .string ⟨#[]⟩, .string ⟨#[]⟩, .slice none 0 0, .slice none 0 0, .slice none 0 0]) rfl HGR4.out rfl (req_one _ _ _ _ _ _ _ _ _ _ _ _ _) (by kernel_rfl) ?_; intro w12 hb12 hF12 hs12)
      refine bodyPost_ret (results_agg_tmp agR rfl rfl rfl hb12 rfl) rfl ?_
      exact HFIN.out _ hF12 (by unfold rokV; rfl)
    | cons s1 sr =>
    cases pa with
    | nil =>
      go_wp2_with (refine wpList_store_agg rfl rfl rfl (cs := #[.string ⟨#[]⟩, .string ⟨#[]⟩, .string ⟨#[]⟩, .string ⟨#[]⟩, .slice none 0 0, .slice none 0 0, .slice none 0 0]) rfl HGR4.out rfl (req_one _ _ _ _ _ _ _ _ _ _ _ _ _) (by kernel_rfl) ?_; intro w12 hb12 hF12 hs12)
      refine bodyPost_ret (results_agg_tmp agR rfl rfl rfl hb12 rfl) rfl ?_
      exact HFIN.out _ hF12 (by unfold rokV; rfl)
    | cons p1 pr =>
    by_cases hp : p1 = 47
    · subst hp
      clear HFIN
      go_upto_region 6 with (fail)
      go_still_tail 18, (by kernel_rfl)
      change wpList _ _ _ _ _ w4.drew
      have hgd := HGR4.out.drew
      have hgo := HGOOD.out
      generalize w4.drew = w5 at *
      have HGD := Lib.hid hgd
      have HGO := Lib.hid hgo
      clear hgd hgo
      go_wp2_with (refine wpList_store_agg rfl rfl rfl rfl HGD.out rfl (req_one _ _ _ _ _ _ _ _ _ _ _ _ _) (by kernel_rfl) ?_; intro w12 hb12 hF12 hs12)
      refine bodyPost_ret (results_agg_tmp agR rfl rfl rfl hb12 rfl) rfl ?_
      exact HGO.out _ hF12 (by unfold rokV; simp)
    · have hpn : ¬ (p1.toNat : Int) = 47 := fun h => hp (UInt8.toNat_inj.1 (by simp; omega))
      by_cases hst : p1 :: pr = [42]
      · obtain ⟨rfl, rfl⟩ : p1 = 42 ∧ pr = [] := by simpa using hst
        by_cases ho : m1 :: mr = bOpt
        · obtain ⟨rfl, rfl⟩ : m1 = 79 ∧ mr = [80, 84, 73, 79, 78, 83] := by simpa [bOpt] using ho
          have hor : Hid (rokV [79, 80, 84, 73, 79, 78, 83] (s1 :: sr) [42] = true) := by show _ = _; unfold rokV; simp [bOpt]
          clear ho
          go_upto_region 6 with (fail)
          go_still_tail 18, (by kernel_rfl)
          change wpList _ _ _ _ _ w4.drew
          have hgd := HGR4.out.drew
          have hgo := HGOOD.out
          generalize w4.drew = w5 at *
          have HGD := Lib.hid hgd
          have HGO := Lib.hid hgo
          clear hgd hgo
          go_wp2_with (refine wpList_store_agg rfl rfl rfl rfl HGD.out rfl (req_one _ _ _ _ _ _ _ _ _ _ _ _ _) (by kernel_rfl) ?_; intro w12 hb12 hF12 hs12)
          refine bodyPost_ret (results_agg_tmp agR rfl rfl rfl hb12 rfl) rfl ?_
          exact HGO.out _ hF12 hor.out
        · have hor : Hid (rokV (m1 :: mr) (s1 :: sr) [42] = false) := by show _ = _; unfold rokV; rw [decide_eq_false ho]; simp
          have ho1 : (m1 :: mr == [79, 80, 84, 73, 79, 78, 83]) = false := by rw [beq_eq_false_iff_ne]; exact ho
          have ho2 : ¬ m1 :: mr = [79, 80, 84, 73, 79, 78, 83] := ho
          have HO := Lib.hid ho
          clear ho
          go_wp2_with (refine wpList_store_agg rfl rfl rfl (cs := #[.string ⟨#[]⟩, .string ⟨#[]⟩, .string ⟨#[]⟩, .string ⟨#[]⟩, .slice none 0 0, .slice none 0 0, .slice none 0 0]) rfl HGR4.out rfl (req_one _ _ _ _ _ _ _ _ _ _ _ _ _) (by kernel_rfl) ?_; intro w12 hb12 hF12 hs12)
          refine bodyPost_ret (results_agg_tmp agR rfl rfl rfl hb12 rfl) rfl ?_
          exact HFIN.out _ hF12 (by rw [hor.out]; rfl)
      · have hor : Hid (rokV (m1 :: mr) (s1 :: sr) (p1 :: pr) = false) := by show _ = _; unfold rokV; rw [decide_eq_false hst]; simp [hp]
        have ho1 : (p1 :: pr == [42]) = false := by rw [beq_eq_false_iff_ne]; exact hst
        have ho2 : ¬ p1 :: pr = [42] := hst
        have HST := Lib.hid hst
        have HP := Lib.hid hp
        clear hst hp
        go_wp2_with (refine wpList_store_agg rfl rfl rfl (cs := #[.string ⟨#[]⟩, .string ⟨#[]⟩, .string ⟨#[]⟩, .string ⟨#[]⟩, .slice none 0 0, .slice none 0 0, .slice none 0 0]) rfl HGR4.out rfl (req_one _ _ _ _ _ _ _ _ _ _ _ _ _) (by kernel_rfl) ?_; intro w12 hb12 hF12 hs12)
        refine bodyPost_ret (results_agg_tmp agR rfl rfl rfl hb12 rfl) rfl ?_
        exact HFIN.out _ hF12 (by rw [hor.out]; rfl)
end Go.Proofs.YtpojejdddgdjdaaGreatDoor.M
