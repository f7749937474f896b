/- SemBack: the walk. No condition. -/
import Derived.BigQuiet
import Derived.Deep.RegionHeld3
import Derived.Deep.CutBlock
import Derived.Lib.Hide
import Derived.IntWalk
import Derived.Test.YtpojejdddgdjdaaDoorSkn
import Derived.Test.YtpojejdddgdjdaaDoorSro
import Derived.Test.YtpojejdddgdjdaaDoorSrq
import Derived.Test.YtpojejdddgdjdaaDoorSlh
import Derived.Test.YtpojejdddgdjdaaDoorSar
import Derived.Test.YtpojejdddgdjdaaDoorSbp
namespace Go.Proofs.YtpojejdddgdjdaaDoor.M
open Go.ChangeShapes Go.WideShapes Go.ChangeAt Go.RowKit

theorem zMsg : (Tryd.prog.info? 25).map (·.zero) = some (some (.agg #[.slice none 0 0, .slice none 0 0, .slice none 0 0])) := by kernel_rfl
theorem msg_one (A1 A2 A3 : Option Addr) (n1 n2 n3 c1 c2 c3 : Nat) : ∀ u ∈ #[Value.slice A1 n1 c1, Value.slice A2 n2 c2, Value.slice A3 n3 c3].toList, u.oneCell' = true := fun u hu => by
  simp only [List.mem_cons, List.not_mem_nil, or_false] at hu
  rcases hu with rfl | rfl | rfl <;> rfl
theorem rq_sz {m : MV} (h : lightM m = true) : (rq m).fs.length ≤ 70 ∧ (rq m).b.length ≤ 20000 ∧ (rq m).ts.length ≤ 70 := by
  obtain ⟨_, h2, h3, h4⟩ := lightM_sz h
  unfold rq
  split
  · refine ⟨?_, h2, h3⟩
    have e : spS m.fs ++ spR m.fs = m.fs := sp_app _
    have := congrArg List.length e
    rw [List.length_append] at this
    show (spR m.fs).length ≤ 70
    omega
  · exact ⟨by decide, by decide, by decide⟩
theorem lrg_sz {o : MV} (h : lrgM o = false) : MSz o ∧ o.b.length ≤ 1099511627776 ∧ o.ts.length ≤ 1099511627776 := by
  unfold lrgM lrg at h
  simp only [Bool.or_eq_false_iff, decide_eq_false_iff_not] at h
  obtain ⟨⟨a1, a2⟩, ⟨b1, b2⟩, c⟩ := h
  exact ⟨⟨by omega, by omega, by omega, by omega, by omega⟩, by omega, by omega⟩
set_option maxRecDepth 100000 in
set_option maxHeartbeats 4000000 in
theorem back_walk (m : MV) (W : World) (hm : MArg W m) :
    Calls Tryd.prog 10 #[.agg m.cells] W fun e w' => e = .returned (.bool true) ∧ Below W.heap.size W w' := by
  have hfr : ∀ (w : World) t cs, Frm (New w) w (w.alloc (.cells cs t)) := fun w t cs => (Frm.refl _ w).alloc Up.new _
  have hli : ∀ w', Frm (New W) W w' → Calls Tryd.prog 12 #[.agg m.cells] w' fun e w2 => e = .returned (.bool (lightM m)) ∧ Frm (New w') w' w2 := fun w' f => lightM_any m w' (hm.rd.fresh f) hm.ok
  have hof : lightM m = true → ∀ w', Frm (New W) W w' → Calls Tryd.prog 14 #[.agg m.cells] w' (RqR w' m) := fun h w' f => rof_any m w' (hm.rd.fresh f) (lightM_sz h).1
  have hsz : lightM m = true → (rq m).fs.length ≤ 70 ∧ (rq m).b.length ≤ 20000 ∧ (rq m).ts.length ≤ 70 := rq_sz
  have hbk : ∀ o : MV, rcls m = 0 → o.fs = ofL (rq m) → o.b = m.b → o.ts = m.ts → lrgM o = false ∧ rcls o = 0 ∧ rq o = rq m := fun o h e1 e2 e3 => back_rq h e1 e2 e3
  have hbt : rcls m = 0 → (rq m).b = m.b ∧ (rq m).ts = m.ts := fun h => by unfold rq; rw [if_pos h]; exact ⟨rfl, rfl⟩
  obtain ⟨x1, x2, x3, hx⟩ : ∃ x1 x2 x3, m.cells = #[x1, x2, x3] := ⟨_, _, _, rfl⟩
  rw [hx] at hli hof ⊢
  generalize lightM m = lm at *
  clear hm hx
  have HFR := Lib.hid hfr
  have HLI := Lib.hid hli
  have HOF := Lib.hid hof
  have HSZ := Lib.hid hsz
  have HBK := Lib.hid hbk
  have HBT := Lib.hid hbt
  clear hfr hli hof hsz hbk hbt
  go_enter Tryd.func10, Tryd.ntmps10
  go_upto_region 1 with (fail)
  have hb1 := Blk.new W 25 #[x1, x2, x3]
  have hF1 := HFR.out W 25 #[x1, x2, x3]
  have hk1 := known_any (W.alloc (.cells #[x1, x2, x3] 25))
  generalize W.alloc (.cells #[x1, x2, x3] 25) = w1 at *
  obtain ⟨bm, hbm⟩ : ∃ bm, bm = W.heap.size := ⟨_, rfl⟩
  rw [← hbm] at hb1 ⊢
  clear hbm
  have HB1 := Lib.hid hb1
  have HF1 := Lib.hid hF1
  have HK1 := Lib.hid hk1
  clear hk1
  clear hb1 hF1
  go_upto_region 3 with (go_at_call 11; refine HK1.out.mono ?_; rintro e w2 ⟨rfl, hF2⟩)
  have hb2 := HB1.out.fresh hF2
  have hF02 := HF1.out.then_new Up.new hF2
  have hl2 := HLI.out w2 hF02
  clear HB1 HF1 HK1 hF2
  have HB2 := Lib.hid hb2
  have HF02 := Lib.hid hF02
  have HL2 := Lib.hid hl2
  clear hb2 hF02 hl2
  cases lm with
  | false =>
    go_wp2_with (first
      | (refine wpList_load_agg agM rfl rfl rfl HB2.out rfl ?_)
      | (go_at_call 12; refine HL2.out.mono ?_; rintro e w3 ⟨rfl, hF3⟩))
    go_ret
    exact ⟨rfl, (HF02.out.then_new Up.new hF3).below⟩
  | true =>
    go_upto_region 5 with (first
      | (refine wpList_load_agg agM rfl rfl rfl HB2.out rfl ?_)
      | (go_at_call 12; refine HL2.out.mono ?_; rintro e w3 ⟨rfl, hF3⟩))
    have hb3 := HB2.out.fresh hF3
    have hF03 := HF02.out.then_new Up.new hF3
    have hq3 := HOF.out (by trivial) w3 hF03
    clear HB2 HF02 HL2 hF3 HLI
    have HB3 := Lib.hid hb3
    have HF03 := Lib.hid hF03
    have HQ3 := Lib.hid hq3
    clear hb3 hF03 hq3
    go_upto_region 6 with (first
      | (refine wpList_load_agg agM rfl rfl rfl HB3.out rfl ?_)
      | (go_at_call 14; refine HQ3.out.mono ?_; intro e w4 hR; obtain ⟨⟨p1, p2, p3, p4, a1, c1, f, a2, c2, b, a3, c3, t⟩, rfl, hin, hq, hF4⟩ := hR; simp only [RV.cells])
      | (refine wpList_new rfl rfl zReq rfl ?_; intro w5 hb5 hF5 hs5)
      | (refine wpList_store_agg rfl rfl rfl rfl hb5 rfl (req_one _ _ _ _ _ _ _ _ _ _ _ _ _) (by kernel_rfl) ?_; intro w6 hb6 hF6 hs6))
    obtain ⟨g3, hg3⟩ : ∃ g3, g3 = w4.heap.size := ⟨_, rfl⟩
    rw [← hg3] at hb6 hb5 hF6 ⊢
    have hF46 : Frm (New w4) w4 w6 := hF5.trans (hF6.mono (fun k hk => by subst hk; unfold New; omega))
    have hF06 := (HF03.out.then_new Up.new hF4).then_new Up.new hF46
    have hin6 := hin.fresh hF46
    clear hg3 hb5 hF5 hs5 hF6 hs6 hF46 hF4 hin HB3 HF03 HQ3 HOF
    have HG6 := Lib.hid hb6
    clear hb6
    obtain ⟨hz1, hz2, hz3⟩ := HSZ.out (by trivial)
    clear HSZ
    generalize hrc : rcls m = rc at *
    have HF06 := Lib.hid hF06
    have HIN6 := Lib.hid hin6
    have HQA := Lib.hid hq
    have HRC := Lib.hid hrc
    clear hF06 hin6 hq hrc
    by_cases h0 : (rc : Int) = 0
    · obtain rfl : rc = 0 := by omega
      clear h0
      have ef : f = (rq m).fs := by rw [← HQA.out]; rfl
      have eb : b = (rq m).b := by rw [← HQA.out]; rfl
      have et : t = (rq m).ts := by rw [← HQA.out]; rfl
      have hlf : f.length ≤ 70 := by rw [ef]; exact hz1
      have hlb : b.length ≤ 20000 := by rw [eb]; exact hz2
      have hlt : t.length ≤ 70 := by rw [et]; exact hz3
      have hofc := of_any ⟨p1, p2, p3, p4, a1, c1, f, a2, c2, b, a3, c3, t⟩ w6 HIN6.out (by show f.length ≤ _; omega) (by show b.length ≤ _; omega) (by show t.length ≤ _; omega)
      simp only [RV.cells] at hofc
      obtain ⟨ebm, etm⟩ := HBT.out (by trivial)
      have HOFC := Lib.hid hofc
      have EF := Lib.hid ef
      have EB := Lib.hid eb
      have ET := Lib.hid et
      have EBM := Lib.hid ebm
      have ETM := Lib.hid etm
      clear hofc ef eb et ebm etm
      rw [show ((0 : Nat) : Int) = 0 from rfl]
      go_upto_region 9 with (first
        | (refine wpList_load_agg agR rfl rfl rfl HG6.out rfl ?_)
        | (go_at_call 25; refine HOFC.out.mono ?_; intro e w7 hR; obtain ⟨o, rfl, hino, eo1, eo2, eo3, hF7, _⟩ := hR; simp only [MV.cells])
        | (refine wpList_new rfl rfl zMsg rfl ?_; intro w8 hb8 hF8 hs8)
        | (refine wpList_store_agg rfl rfl rfl rfl hb8 rfl (msg_one _ _ _ _ _ _ _ _ _) (by kernel_rfl) ?_; intro w9 hb9 hF9 hs9))
      obtain ⟨g5, hg5⟩ : ∃ g5, g5 = w7.heap.size := ⟨_, rfl⟩
      rw [← hg5] at hb9 hb8 hF9 ⊢
      have hF79 : Frm (New w7) w7 w9 := hF8.trans (hF9.mono (fun k hk => by subst hk; unfold New; omega))
      have hF69 := hF7.trans (hF79.mono (fun k hk => by have := hF7.size; unfold New at hk ⊢; omega))
      have hg69 := HG6.out.fresh hF69
      have hF09 := HF06.out.then_new Up.new hF69
      have hin9 := HIN6.out.fresh hF69
      have hino9 := hino.fresh hF79
      have eqq : (⟨p1, p2, p3, p4, a1, c1, f, a2, c2, b, a3, c3, t⟩ : RV).q = rq m := HQA.out
      obtain ⟨hlo, hco, hro⟩ := HBK.out o (by trivial) (by rw [eo1, eqq]) (by rw [eo2]; exact EB.out.trans EBM.out) (by rw [eo3]; exact ET.out.trans ETM.out)
      obtain ⟨hzo, hbo, hto⟩ := lrg_sz hlo
      have hla := rLarge_any o w9 hino9 hzo
      rw [hlo] at hla
      have hrqo : ∀ w', Frm (New w9) w9 w' → Calls Tryd.prog 13 #[.agg o.cells] w' (RqR w' o) := fun w' fr => request_any o w' (hino9.fresh fr) hzo hbo hto
      simp only [MV.cells] at hla hrqo
      have HG9 := Lib.hid hb9
      clear hb9 hg5 hb8 hF8 hs8 hF9 hs9 hF79 hF69 hF7 hino hino9 eo1 eo2 eo3 eqq hlo hzo hbo hto HBK HBT EB ET EBM ETM HRC HG6 HF06 HIN6 HOFC
      have HG69 := Lib.hid hg69
      have HF09 := Lib.hid hF09
      have HIN9 := Lib.hid hin9
      have HLA := Lib.hid hla
      have HRQO := Lib.hid hrqo
      have HCO := Lib.hid hco
      have HRO := Lib.hid hro
      clear hg69 hF09 hin9 hla hrqo hco hro
      go_upto_region 11 with (first
        | (refine wpList_load_agg agM rfl rfl rfl HG9.out rfl ?_)
        | (go_at_call 17; refine HLA.out.mono ?_; rintro e w10 ⟨rfl, hF10⟩))
      have hg10 := HG9.out.fresh hF10
      have hg610 := HG69.out.fresh hF10
      have hF010 := HF09.out.then_new Up.new hF10
      have hin10 := HIN9.out.fresh hF10
      have hrq10 := HRQO.out w10 hF10
      clear HG9 HG69 HF09 HIN9 HLA HRQO hF10
      have HG10 := Lib.hid hg10
      have HG610 := Lib.hid hg610
      have HF010 := Lib.hid hF010
      have HIN10 := Lib.hid hin10
      have HRQ10 := Lib.hid hrq10
      clear hg10 hg610 hF010 hin10 hrq10
      go_upto_region 12 with (first
        | (refine wpList_load_agg agM rfl rfl rfl HG10.out rfl ?_)
        | (go_at_call 13; refine HRQ10.out.mono ?_; intro e w11 hR; obtain ⟨⟨q1, q2, q3, q4, a4, c4, f', a5, c5, b', a6, c6, t'⟩, rfl, hinq, hqq, hF11⟩ := hR; simp only [RV.cells]; rw [HCO.out, show ((0 : Nat) : Int) = 0 from rfl])
        | (refine wpList_new rfl rfl zReq rfl ?_; intro w12 hb12 hF12 hs12)
        | (refine wpList_store_agg rfl rfl rfl rfl hb12 rfl (req_one _ _ _ _ _ _ _ _ _ _ _ _ _) (by kernel_rfl) ?_; intro w13 hb13 hF13 hs13))
      obtain ⟨g7, hg7⟩ : ∃ g7, g7 = w11.heap.size := ⟨_, rfl⟩
      rw [← hg7] at hb13 hb12 hF13 ⊢
      have hF1113 : Frm (New w11) w11 w13 := hF12.trans (hF13.mono (fun k hk => by subst hk; unfold New; omega))
      have hF1013 := hF11.trans (hF1113.mono (fun k hk => by have := hF11.size; unfold New at hk ⊢; omega))
      have hg613 := HG610.out.fresh hF1013
      have hF013 := HF010.out.then_new Up.new hF1013
      have hinA := HIN10.out.fresh hF1013
      have hinB := hinq.fresh hF1113
      have hRE := hrequest_eq ⟨q1, q2, q3, q4, a4, c4, f', a5, c5, b', a6, c6, t'⟩ ⟨p1, p2, p3, p4, a1, c1, f, a2, c2, b, a3, c3, t⟩ w13 hinB hinA (HQA.out.trans (HRO.out.symm.trans hqq.symm))
        (by have e : f' = f := by
              have h := hqq.trans (HRO.out.trans HQA.out.symm)
              simp only [RV.q, RQ.mk.injEq] at h
              exact h.2.2.2.2.1
            show f'.length ≤ _; rw [e]; omega)
        (by have e : t' = t := by
              have h := hqq.trans (HRO.out.trans HQA.out.symm)
              simp only [RV.q, RQ.mk.injEq] at h
              exact h.2.2.2.2.2.2
            show t'.length ≤ _; rw [e]; omega)
      simp only [RV.cells] at hRE
      obtain ⟨⟨k0, k1, k2, k3, k4, k5, k6⟩, _⟩ := hg613.all7
      obtain ⟨⟨l0, l1, l2, l3, l4, l5, l6⟩, _⟩ := hb13.all7
      have hlt1 := hg613.lt
      have hlt2 := hb13.lt
      clear hb13 hg7 hb12 hF12 hs12 hF13 hs13 hF1113 hF1013 hF11 hinq hinA hinB hqq HG10 HG610 HF010 HIN10 HRQ10 HCO HRO HQA hg613
      have HF013 := Lib.hid hF013
      have HRE := Lib.hid hRE
      clear hF013 hRE
      go_wp2_with (go_at_call 15; refine HRE.out.mono ?_; rintro e w14 ⟨rfl, hF14⟩)
      go_ret
      exact ⟨rfl, (HF013.out.then_new Up.new hF14).below⟩
    · go_wp2_with (fail)
      go_ret
      exact ⟨rfl, HF06.out.below⟩
end Go.Proofs.YtpojejdddgdjdaaDoor.M
