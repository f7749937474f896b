/- sem.Response: the status and the class. The sizes together are below 2^62. -/
import Derived.BigQuiet
import Derived.Deep.CutBlock
import Derived.Lib.Hide
import Derived.IntWalk
import Derived.Test.YtpojejdddgdjdaaDoorSr
namespace Go.Proofs.YtpojejdddgdjdaaDoor.M
open Go.ChangeShapes Go.WideShapes Go.ChangeAt Go.RowKit

set_option maxRecDepth 100000 in
set_option maxHeartbeats 4000000 in
theorem response_any (m : MV) (w : World) (hm : MIn w m) (hz : MSz m) :
    Calls Tryd.prog 18 #[.agg m.cells] w fun e w' => e = .returned (.tuple #[.int .i64 ((resp m).1 : Nat), .int .i64 ((resp m).2 : Nat)]) ∧ Frm (New w) w w' := by
  have hLc : ∀ w', Frm (New w) w w' → Calls Tryd.prog 16 #[.agg m.cells] w' fun e w2 => e = .returned (.bool (lrgM m)) ∧ Frm (New w') w' w2 := fun w' f => Large_any m w' (hm.fresh f) hz
  have hfr : ∀ (w : World) t cs, Frm (New w) w (w.alloc (.cells cs t)) := fun w t cs => (Frm.refl _ w).alloc Up.new _
  obtain ⟨q, hq⟩ : ∃ q, q = resp m := ⟨_, rfl⟩
  obtain ⟨lg, hlg⟩ : ∃ lg, lg = lrgM m := ⟨_, rfl⟩
  rw [← hq]
  rw [← hlg] at hLc
  have hl64 : lg = false → m.fs.length ≤ 64 := fun h => lrg64 (hlg.symm.trans h)
  obtain ⟨x1, x2, x3, hx⟩ : ∃ x1 x2 x3, m.cells = #[x1, x2, x3] := ⟨_, _, _, rfl⟩
  rw [hx] at hLc ⊢
  have HLC := Lib.hid hLc
  have HFR := Lib.hid hfr
  have HM := Lib.hid hm
  have HZ := Lib.hid hz
  have HX := Lib.hid hx
  have HQQ := Lib.hid hq
  have HLG := Lib.hid hlg
  have HL64 := Lib.hid hl64
  clear hLc hfr hm hz hx hq hlg hl64
  go_enter Tryd.func18, Tryd.ntmps18
  go_upto_region 1 with (fail)
  have hb1 := Blk.new w 25 #[x1, x2, x3]
  have hF1 := HFR.out w 25 #[x1, x2, x3]
  generalize w.alloc (.cells #[x1, x2, x3] 25) = w1 at *
  have hbW : w.heap.size < w1.heap.size := hb1.lt
  generalize hbx : w.heap.size = bx at *
  have hc1 := HLC.out w1 hF1
  have HB1 := Lib.hid hb1
  have HF1 := Lib.hid hF1
  have HC1 := Lib.hid hc1
  clear hc1
  clear hb1 hF1
  cases lg with
  | true =>
    go_wp2_with (first
      | (refine wpList_load_agg agM rfl rfl rfl HB1.out rfl ?_)
      | (go_at_call 16; refine HC1.out.mono ?_; rintro e w2 ⟨rfl, hF2⟩; have HF2 := Lib.hid hF2; clear hF2))
    go_ret2
    refine ⟨?_, HF1.out.then_new Up.new HF2.out⟩
    rw [HQQ.out]
    unfold resp
    rw [if_pos HLG.out.symm]
    rfl
  | false =>
    have hl := HL64.out rfl
    go_upto_region 3 with (first
      | (refine wpList_load_agg agM rfl rfl rfl HB1.out rfl ?_)
      | (go_at_call 16; refine HC1.out.mono ?_; rintro e w2 ⟨rfl, hF2⟩; have HF2 := Lib.hid hF2; clear hF2))
    go_upto_region 4 with (fail)
    have hbs := Blk.new w2 9 #[.string ⟨#[]⟩]
    have hF3 := HFR.out w2 9 #[.string ⟨#[]⟩]
    generalize w2.alloc (.cells #[.string ⟨#[]⟩] 9) = w3 at *
    obtain ⟨g, hg⟩ : ∃ g, g = w2.heap.size := ⟨_, rfl⟩
    rw [← hg] at hbs ⊢
    have hF03 := HF1.out.then_new Up.new (HF2.out.then_new Up.new hF3)
    have hb2 := (HB1.out.fresh HF2.out).fresh hF3
    have hs12 := HF2.out.size
    have hgw : bx < g := by omega
    have HBS := Lib.hid hbs
    have HF03 := Lib.hid hF03
    have HB2 := Lib.hid hb2
    clear hbs hF03 hb2
    clear hF3 HF2 HF1 HB1
    have hg2 := HBS.out.lt
    obtain ⟨b, hb⟩ : ∃ b, b = w3.heap.size := ⟨_, rfl⟩
    have hbg : b ≠ g := by omega
    have hbx2 : b ≠ bx := by omega
    have hgW : w.heap.size ≤ g := by omega
    have hfa : ∀ w5, MapIs w5 b str (ptrs g [(bSt, 0)]) → Blk w5 g 9 #[str []] → Frm (New w) w w5 → Calls Tryd.prog 28 #[.map (some b), .agg #[x1, x2, x3]] w5 (FieldsR w5 g 9 (fun S => #[str (val S bSt)]) [bSt] m) := fun w5 h1 h2 h3 => by
      rw [← HX.out]
      refine fields_any [(bSt, 0)] g b _ (fun S => #[str (val S bSt)]) m w5 h1 h2 hbg (fun S f i hi hn => ?_) (fun w' f => HM.out.fresh (h3.trans (f.mono (fun k hk => ?_)))) HZ.out hl
      · simp only [List.mem_singleton, Prod.mk.injEq] at hi
        obtain ⟨h, rfl⟩ := hi
        refine ⟨?_, by simp⟩
        show #[str (val (S ++ [f]) bSt)] = #[str f.2]
        rw [val_snoc S f bSt hn, if_pos h]
      · rcases hk with rfl | hk
        · exact hgW
        · unfold New at hk ⊢; have := h3.size; omega
    have h45 : ∀ w4 w5, Frm (New w3) w3 w4 → Frm (fun x => x = b) w4 w5 → Blk w5 bx 25 #[x1, x2, x3] ∧ Blk w5 g 9 #[str []] ∧ Frm (New w) w w5 := fun w4 w5 f4 f5 => by
      refine ⟨(HB2.out.fresh f4).keep f5 (fun h => hbx2 h.symm), (HBS.out.fresh f4).keep f5 (fun h => hbg h.symm), (HF03.out.then_new Up.new f4).trans (f5.mono (fun k hk => ?_))⟩
      subst hk
      unfold New; omega
    have HG := Lib.hid hg
    have HBB := Lib.hid hb
    have HFA := Lib.hid hfa
    have H45 := Lib.hid h45
    clear hg hb hfa h45
    go_upto_region 5 with (first
      | (refine wpList_makeMap str rfl rfl ?_; intro w4 hM4 hF4 hs4; rw [← HBB.out] at hM4 ⊢)
      | (refine wpList_insert skey uPs rfl rfl rfl (k := bSt) rfl hM4 ?_; intro w5 hM5 hF5 hs5)
      | (refine wpList_load_agg agM rfl rfl rfl (H45.out _ _ hF4 hF5).1 rfl ?_)
      | (go_at_call 28; refine (HFA.out _ hM5 (H45.out _ _ hF4 hF5).2.1 (H45.out _ _ hF4 hF5).2.2).mono ?_; intro e w6 hR; obtain ⟨hF6, A, n, c, rfl, hR6⟩ := hR.out))
    have hF06 : Frm (New w) w w6 := (H45.out _ _ hF4 hF5).2.2.trans (hF6.mono (fun k hk => by
      rcases hk with rfl | hk
      · exact hgW
      · unfold New at hk ⊢; have := (H45.out _ _ hF4 hF5).2.2.size; omega))
    have hres : Hid (q = if okF [bSt] m && stOk (val (spS m.fs) bSt) then (numF 0 (val (spS m.fs) bSt), 0) else (0, 1)) := by
      show _ = _
      rw [HQQ.out]
      unfold resp
      rw [if_neg (by rw [← HLG.out]; exact Bool.false_ne_true)]
    have hR7 : okF [bSt] m = true → Blk w6 g 9 #[str (val (spS m.fs) bSt)] := fun h => (hR6 h).2.2
    generalize val (spS m.fs) bSt = s at *
    clear hR hR6 hF6 hF5 hF4 hM5 hM4 hs5 hs4 HFA H45 HBS HF03 HB2 HBB HG
    generalize okF [bSt] m = ok at *
    have HF06 := Lib.hid hF06
    clear hF06
    clear hl HL64 HC1 HLC HQQ HLG HX hs12 HFR
    cases ok with
    | false =>
      go_wp2_with (fail)
      go_ret2
      exact ⟨by rw [hres.out]; rfl, HF06.out⟩
    | true =>
    have hbs := hR7 rfl
    clear hR7
    simp only [Bool.true_and] at hres
    have hy0 := hbs.cell 0
    simp only [List.getElem?_toArray, List.getElem?_cons_zero] at hy0
    have hbl := hbs.lt
    simp only [str] at hy0
    have hno : stOk s = false → q = (0, 1) := fun h => by rw [hres.out, h]; rfl
    have HNO := Lib.hid hno
    have HBS := Lib.hid hbs
    clear hno hbs
    by_cases h3 : (s.length : Int) = 3
    · have h3n : s.length = 3 := by omega
      have hsl : s ≠ [] := fun h => by rw [h] at h3n; cases h3n
      cases hd : s.all dig with
      | false =>
        have hT := fun w => trim_no s w (by omega) hd
        have HT := Lib.hid hT
        have HD := Lib.hid hd
        have HSL := Lib.hid hsl
        clear hT hd hsl
        go_wp2_with (go_at_call 33; refine (HT.out _).mono ?_; rintro e w7 ⟨⟨c0, r0, rfl⟩, hF7⟩; have HF7 := Lib.hid hF7; clear hF7)
        go_ret2
        refine ⟨?_, HF06.out.then_new Up.new HF7.out⟩
        rw [HNO.out (by unfold stOk; rw [HD.out]; simp)]
        rfl
      | true =>
        have hT := fun w => trim_yes s w (by omega) hd
        have hA := fun w => atoi_any s w hsl (by omega) hd
        have hnl := numF_lt s 0 hd
        rw [h3n] at hnl
        have hst : Hid (stOk s = (decide (100 ≤ numF 0 s) && decide (numF 0 s ≤ 599))) := by show _ = _; unfold stOk; rw [decide_eq_true h3n, hd]; rfl
        generalize numF 0 s = v at *
        have HT := Lib.hid hT
        have HD := Lib.hid hd
        have HSL := Lib.hid hsl
        have HA := Lib.hid hA
        clear hT hd hsl hA
        go_upto_region 7 with (go_at_call 33; refine (HT.out _).mono ?_; rintro e w7 ⟨rfl, hF7⟩)
        have hbs7 := HBS.out.fresh hF7
        have hF07 := HF06.out.then_new Up.new hF7
        clear hy0
        have hy0 := hbs7.cell 0
        simp only [List.getElem?_toArray, List.getElem?_cons_zero] at hy0
        have hbl7 := hbs7.lt
        have HBS7 := Lib.hid hbs7
        have HF07 := Lib.hid hF07
        clear hbs7 hF07
        clear hF7
        by_cases q1 : (v : Int) < 100
        · go_wp2_with (go_at_call 34; refine (HA.out _).mono ?_; rintro e w8 ⟨rfl, hF8⟩; have HF8 := Lib.hid hF8; clear hF8)
          go_ret2
          refine ⟨?_, HF07.out.then_new Up.new HF8.out⟩
          rw [HNO.out (by rw [hst.out, decide_eq_false (by omega)]; rfl)]
          rfl
        by_cases q2 : (599 : Int) < v
        · go_wp2_with (go_at_call 34; refine (HA.out _).mono ?_; rintro e w8 ⟨rfl, hF8⟩; have HF8 := Lib.hid hF8; clear hF8)
          go_ret2
          refine ⟨?_, HF07.out.then_new Up.new HF8.out⟩
          rw [HNO.out (by rw [hst.out, decide_eq_false (show ¬ v ≤ 599 by omega)]; simp)]
          rfl
        go_wp2_with (go_at_call 34; refine (HA.out _).mono ?_; rintro e w8 ⟨rfl, hF8⟩; have HF8 := Lib.hid hF8; clear hF8)
        go_ret2
        refine ⟨?_, HF07.out.then_new Up.new HF8.out⟩
        rw [hres.out, hst.out, decide_eq_true (show 100 ≤ v by omega), decide_eq_true (show v ≤ 599 by omega)]
        rfl
    · go_wp2_with (fail)
      go_ret2
      refine ⟨?_, HF06.out⟩
      rw [HNO.out (by unfold stOk; rw [decide_eq_false (by omega)]; rfl)]
      rfl
end Go.Proofs.YtpojejdddgdjdaaDoor.M
