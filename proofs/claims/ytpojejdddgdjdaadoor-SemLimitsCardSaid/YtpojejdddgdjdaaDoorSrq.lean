/- sem.Request: the request and the class. The sizes together are below 2^62. -/
import Derived.BigQuiet
import Derived.Deep.CutBlock
import Derived.Lib.Hide
import Derived.IntWalk
import Derived.Test.YtpojejdddgdjdaaDoorSrv
namespace Go.Proofs.YtpojejdddgdjdaaDoor.M
open Go.ChangeShapes Go.WideShapes Go.ChangeAt Go.RowKit

set_option maxRecDepth 100000 in
set_option maxHeartbeats 4000000 in
theorem request_any (m : MV) (w : World) (hm : MIn w m) (hz : MSz m) (hb20 : m.b.length ≤ 1099511627776) (hts : m.ts.length ≤ 1099511627776) :
    Calls Tryd.prog 13 #[.agg m.cells] w (RqR w m) := by
  have hLc : ∀ w', Frm (New w) w w' → Calls Tryd.prog 16 #[.agg m.cells] w' fun e w2 => e = .returned (.bool (lrgM m)) ∧ Frm (New w') w' w2 := fun w' f => Large_any m w' (hm.fresh f) hz
  have hfr : ∀ (w : World) t cs, Frm (New w) w (w.alloc (.cells cs t)) := fun w t cs => (Frm.refl _ w).alloc Up.new _
  generalize hQ : RqR w m = Q
  obtain ⟨lg, hlg⟩ : ∃ lg, lg = lrgM m := ⟨_, rfl⟩
  rw [← hlg] at hLc
  have hl64 : lg = false → m.fs.length ≤ 64 := fun h => lrg64 (hlg.symm.trans h)
  have hx : m.cells = #[.slice m.A1 m.fs.length m.c1, .slice m.A2 m.b.length m.c2, .slice m.A3 m.ts.length m.c3] := rfl
  obtain ⟨x1, hx1⟩ : ∃ x1, x1 = Value.slice m.A1 m.fs.length m.c1 := ⟨_, rfl⟩
  have hNo : ∀ c w', rcls m = c → c ≠ 0 → Frm (New w) w w' → Q (.returned (.tuple #[.agg RV.nil.cells, .int .i64 (c : Int)])) w' := fun c w' h1 h2 h3 => by
    rw [← hQ]
    exact RqR.no h1 h2 h3
  simp only [RV.nil, RV.cells] at hNo
  have HQ := Lib.hid hQ
  clear hQ
  rw [← hx1] at hx
  rw [hx] at hLc ⊢
  have HLC := Lib.hid hLc
  have HFR := Lib.hid hfr
  have HM := Lib.hid hm
  have HZ := Lib.hid hz
  have HX := Lib.hid hx
  have HLG := Lib.hid hlg
  have HL64 := Lib.hid hl64
  have HX1 := Lib.hid hx1
  have HNO := Lib.hid hNo
  clear hLc hfr hm hz hx hlg hl64 hx1 hNo
  go_enter Tryd.func13, Tryd.ntmps13
  go_upto_region 1 with (fail)
  have hb1 := Blk.new w 25 #[x1, .slice m.A2 m.b.length m.c2, .slice m.A3 m.ts.length m.c3]
  have hF1 := HFR.out w 25 #[x1, .slice m.A2 m.b.length m.c2, .slice m.A3 m.ts.length m.c3]
  have hs1 : (w.alloc (.cells #[x1, .slice m.A2 m.b.length m.c2, .slice m.A3 m.ts.length m.c3] 25)).heap.size = w.heap.size + 1 := by simp
  generalize w.alloc (.cells #[x1, .slice m.A2 m.b.length m.c2, .slice m.A3 m.ts.length m.c3] 25) = w1 at *
  have hr1 := Blk.new w1 29 #[.string ⟨#[]⟩, .string ⟨#[]⟩, .string ⟨#[]⟩, .string ⟨#[]⟩, .slice none 0 0, .slice none 0 0, .slice none 0 0]
  have hF2 := HFR.out w1 29 #[.string ⟨#[]⟩, .string ⟨#[]⟩, .string ⟨#[]⟩, .string ⟨#[]⟩, .slice none 0 0, .slice none 0 0, .slice none 0 0]
  generalize w1.alloc (.cells #[.string ⟨#[]⟩, .string ⟨#[]⟩, .string ⟨#[]⟩, .string ⟨#[]⟩, .slice none 0 0, .slice none 0 0, .slice none 0 0] 29) = w2 at *
  have hb2 := hb1.fresh hF2
  have hF02 := hF1.then_new Up.new hF2
  obtain ⟨bm, hbm⟩ : ∃ bm, bm = w.heap.size := ⟨_, rfl⟩
  rw [← hbm] at hb1 hb2 hs1 ⊢
  obtain ⟨gr, hgr⟩ : ∃ gr, gr = bm + 1 := ⟨_, rfl⟩
  rw [hs1, ← hgr] at hr1
  rw [← hgr]
  have hbg : bm < gr := by have := hb1.lt; omega
  have hbw : w.heap.size ≤ bm := by omega
  have hgl := hr1.lt
  have hc2 := HLC.out w2 hF02
  clear hb1 hF1 hF2 hbm hgr hs1
  have HB2 := Lib.hid hb2
  have HR2 := Lib.hid hr1
  have HF02 := Lib.hid hF02
  clear hb2 hr1 hF02
  have HC2 := Lib.hid hc2
  clear hc2
  cases lg with
  | true =>
    have hq2 : rcls m = 2 := by unfold rcls; rw [if_pos HLG.out.symm]
    have HQ2 := Lib.hid hq2
    clear hq2
    go_wp2_with (first
      | (refine wpList_load_agg agM rfl rfl rfl HB2.out rfl ?_)
      | (go_at_call 16; refine HC2.out.mono ?_; rintro e w3 ⟨rfl, hF3⟩)
      | (refine wpList_store_agg rfl rfl rfl (cs := #[.string ⟨#[]⟩, .string ⟨#[]⟩, .string ⟨#[]⟩, .string ⟨#[]⟩, .slice none 0 0, .slice none 0 0, .slice none 0 0]) rfl (HR2.out.fresh hF3) rfl (req_one _ _ _ _ _ _ _ _ _ _ _ _ _) (by kernel_rfl) ?_; intro w4 hb4 hF4 hs4))
    refine bodyPost_ret (results_agg_tmp agR rfl rfl rfl hb4 rfl) rfl ?_
    exact HNO.out 2 _ HQ2.out (by decide) ((HF02.out.then_new Up.new hF3).trans (hF4.mono (fun k hk => by subst hk; unfold New; omega)))
  | false =>
    have hl := HL64.out rfl
    go_upto_region 3 with (first
      | (refine wpList_load_agg agM rfl rfl rfl HB2.out rfl ?_)
      | (go_at_call 16; refine HC2.out.mono ?_; rintro e w3 ⟨rfl, hF3⟩))
    have hb3 := HB2.out.fresh hF3
    have hr3 := HR2.out.fresh hF3
    have hF03 := HF02.out.then_new Up.new hF3
    have hR3b := (HM.out.fresh hF03).r2
    have hR3t := (HM.out.fresh hF03).r3
    have hbl3 := hb3.lt
    clear HB2 HR2 HF02 hF3 HC2 HLC
    have hy1 := hb3.cell 1
    have hy2 := hb3.cell 2
    simp only [List.getElem?_toArray, List.getElem?_cons_zero, List.getElem?_cons_succ] at hy1 hy2
    have HB3 := Lib.hid hb3
    have HR3 := Lib.hid hr3
    have HF03 := Lib.hid hF03
    have HR3B := Lib.hid hR3b
    have HR3T := Lib.hid hR3t
    clear hb3 hr3 hF03 hR3b hR3t
    have hstep : ∀ w', Frm (New w3) w3 w' → w'.cell? ⟨bm, 1, none⟩ = some (.slice m.A2 m.b.length m.c2) ∧ w'.cell? ⟨bm, 2, none⟩ = some (.slice m.A3 m.ts.length m.c3) := fun w' f => ⟨(HB3.out.fresh f).cell 1, (HB3.out.fresh f).cell 2⟩
    have HSTEP := Lib.hid hstep
    clear hstep
    go_cut [4] from 5 (fun v4 w5 => ∃ g4 A4 c4 A5 c5, v4 = .pointer (some ⟨g4, 0, none⟩) ∧ w3.heap.size ≤ g4 ∧ Hid (Blk w5 g4 29 #[.string ⟨#[]⟩, .string ⟨#[]⟩, .string ⟨#[]⟩, .string ⟨#[]⟩, .slice none 0 0, .slice A4 m.b.length c4, .slice A5 m.ts.length c5]) ∧ Hid (Frm (New w3) w3 w5) ∧ Hid (Rd w5 A4 (bvs m.b)) ∧ Hid (Rd w5 A5 (fvs m.ts)) ∧ Hid (bvs m.b ≠ [] → ∀ k, blk A4 = some k → k ≠ g4 ∧ w3.heap.size ≤ k) ∧ Hid (fvs m.ts ≠ [] → ∀ k, blk A5 = some k → k ≠ g4 ∧ w3.heap.size ≤ k))
    case first =>
      go_region_law (first
        | (refine step_append (M := New _) u8s rfl rfl rfl App.none_ Up.new rfl (HR3B.out.fresh (by first | exact HFT.out | exact HFT.out.alloc Up.new _ | exact (Frm.refl (New w3) w3).drew | exact ((Frm.refl (New w3) w3).drew).alloc Up.new _)) (by simp) (bvs_one _) (by omega) ?_; intro A4 c4 w4 hA4 hF4 _
           have hFc : Frm (New w3) w3 w4 := Frm.then_new (by first | exact HFT.out | exact HFT.out.alloc Up.new _ | exact (Frm.refl (New w3) w3).drew | exact ((Frm.refl (New w3) w3).drew).alloc Up.new _) Up.new hF4
           have HAB := Lib.hid hA4.rd; have HIB := Lib.hid hA4.inM; have HFB := Lib.hid hFc; have HNB := Lib.hid hF4
           obtain ⟨hyb1, hyb2⟩ := HSTEP.out _ hFc; have hbl4 := (HB3.out.fresh hFc).lt
           (try (have HZ4 := Lib.hid (show Blk w4 w3.heap.size 29 #[.string ⟨#[]⟩, .string ⟨#[]⟩, .string ⟨#[]⟩, .string ⟨#[]⟩, .slice none 0 0, .slice none 0 0, .slice none 0 0] from (Blk.new w3.drew 29 #[.string ⟨#[]⟩, .string ⟨#[]⟩, .string ⟨#[]⟩, .string ⟨#[]⟩, .slice none 0 0, .slice none 0 0, .slice none 0 0]).fresh hF4); obtain ⟨⟨_, _, _, _, _, _, _⟩, ⟨_, _, _, _, _, _, _⟩⟩ := HZ4.out.all7))
           clear hA4 hF4 hFc)
        | (refine step_append (M := New _) flds rfl rfl rfl App.none_ Up.new rfl (HR3T.out.fresh (by first | exact HFB.out | exact HFB.out.alloc Up.new _ | exact (Frm.refl (New w3) w3).drew | exact ((Frm.refl (New w3) w3).drew).alloc Up.new _)) (by rw [fvs_length]; omega) (fvs_one _) (by omega) ?_; intro A5 c5 w5 hA5 hF5 _
           have hFc : Frm (New w3) w3 w5 := Frm.then_new (by first | exact HFB.out | exact HFB.out.alloc Up.new _ | exact (Frm.refl (New w3) w3).drew | exact ((Frm.refl (New w3) w3).drew).alloc Up.new _) Up.new hF5
           have HAT := Lib.hid hA5.rd; have HIT := Lib.hid hA5.inM; have HFT := Lib.hid hFc; have HNT := Lib.hid hF5
           obtain ⟨hyt1, hyt2⟩ := HSTEP.out _ hFc; have hbl5 := (HB3.out.fresh hFc).lt
           have HAB5 : Hid (Rd w5 A4 (bvs m.b)) := by first | exact Lib.hid (HAB.out.fresh hF5) | exact Lib.hid ((HAB.out.alloc _).fresh hF5)
           (try (have HZ5 := Lib.hid ((Blk.new w4 29 #[.string ⟨#[]⟩, .string ⟨#[]⟩, .string ⟨#[]⟩, .string ⟨#[]⟩, .slice none 0 0, .slice none 0 0, .slice none 0 0]).fresh hF5); obtain ⟨⟨_, _, _, _, _, _, _⟩, ⟨_, _, _, _, _, _, _⟩⟩ := HZ5.out.all7))
           (try (have HZ5 := Lib.hid (HZ4.out.fresh hF5); obtain ⟨⟨_, _, _, _, _, _, _⟩, ⟨_, _, _, _, _, _, _⟩⟩ := HZ5.out.all7))
           clear hA5 hF5 hFc))
      all_goals go_wp2_with (fail)
      all_goals go_meet
      all_goals first
        | exact ⟨_, A4, c4, A5, c5, rfl, HFT.out.size, Lib.hid (Blk.new w5 29 _), Lib.hid (HFT.out.alloc Up.new _), Lib.hid (HAB5.out.alloc _), Lib.hid (HAT.out.alloc _),
            Lib.hid (fun hn k hk => ⟨by have := HAB5.out.blk_lt hn hk; omega, by have := HIB.out k hk; unfold New at this; (try simp at this); omega⟩),
            Lib.hid (fun hn k hk => ⟨by have := HAT.out.blk_lt hn hk; omega, by have h1 := HIT.out k hk; have h2 := HFB.out.size; unfold New at h1; (try simp at h1); omega⟩)⟩
        | (have hp := HZ5.out.put7 (.string ⟨#[]⟩) (.string ⟨#[]⟩) (.string ⟨#[]⟩) (.string ⟨#[]⟩) (.slice none 0 0) (.slice A4 m.b.length c4) (.slice A5 m.ts.length c5)
           refine ⟨_, A4, c4, A5, c5, rfl, ?_, Lib.hid hp.1, Lib.hid (HFT.out.trans (hp.2.mono (fun k hk => ?_))), Lib.hid ?_, Lib.hid (HAT.out.keep hp.2 (fun k hk e => ?_)), Lib.hid (fun hn k hk => ⟨?_, ?_⟩), Lib.hid (fun hn k hk => ⟨?_, ?_⟩)⟩
           · first | exact HFB.out.size | exact Nat.le_refl _
           · subst hk; unfold New; first | exact HFB.out.size | exact Nat.le_refl _
           · first
              | exact HAB.out.fresh (((Frm.refl (New w4) w4).alloc Up.new _).trans ((HNT.out.mono (fun k hk => by unfold New at hk ⊢; simp at hk; omega)).trans (hp.2.mono (fun k hk => by subst hk; unfold New; exact Nat.le_refl _))))
              | exact HAB5.out.keep hp.2 (fun k hk e => by have := HIB.out k hk; unfold New at this; (try simp at this); omega)
           · have h1 := HIT.out k hk
             unfold New at h1
             have h2 := HNB.out.size
             (try simp at h1)
             (try simp at h2)
             omega
           · first
              | (have := HAB.out.blk_lt hn hk; omega)
              | (have := HIB.out k hk; unfold New at this; (try simp at this); omega)
           · have := HIB.out k hk; unfold New at this; (try simp at this); omega
           · have h1 := HIT.out k hk
             unfold New at h1
             have h2 := HNB.out.size
             (try simp at h1)
             (try simp at h2)
             omega
           · have h1 := HIT.out k hk
             unfold New at h1
             have h2 := HFB.out.size
             (try simp at h1)
             omega)
    case rest =>
      obtain ⟨g4, A4, c4, A5, c5, rfl, hg4, hB5, hF35, hRb, hRt, hfb, hft⟩ := hcut
      rename World => w5
      have hbm5 := HB3.out.fresh hF35.out
      have hgr5 := HR3.out.fresh hF35.out
      have hF05 := HF03.out.then_new Up.new hF35.out
      have hg4l := hB5.out.lt
      have hgr4 : gr ≠ g4 := by have := HR3.out.lt; omega
      have hbm4 : bm ≠ g4 := by omega
      have hs03 := HF03.out.size
      have hgw : w.heap.size ≤ g4 := by omega
      have hgr3l := HR3.out.lt
      clear HB3 HR3 HF03 hy1 hy2 HR3B HR3T HSTEP hF35
      have HBM5 := Lib.hid hbm5
      have HGR5 := Lib.hid hgr5
      have HF05 := Lib.hid hF05
      clear hbm5 hgr5 hF05
      obtain ⟨b, hb⟩ : ∃ b, b = w5.heap.size := ⟨_, rfl⟩
      have hbg : b ≠ g4 := by omega
      have hbbm : b ≠ bm := by have := HBM5.out.lt; omega
      have hbgr : b ≠ gr := by have := HGR5.out.lt; omega
      have hfa : ∀ w', MapIs w' b str (ptrs g4 pl4) → Blk w' g4 29 (cells4 A4 m.b.length c4 A5 m.ts.length c5 []) → Frm (New w) w w' → Calls Tryd.prog 28 #[.map (some b), .agg #[x1, .slice m.A2 m.b.length m.c2, .slice m.A3 m.ts.length m.c3]] w' (FieldsR w' g4 29 (cells4 A4 m.b.length c4 A5 m.ts.length c5) names4 m) := fun w' h1 h2 h3 => by
        rw [← HX.out]
        refine fields_any pl4 g4 b _ (cells4 A4 m.b.length c4 A5 m.ts.length c5) m w' h1 h2 hbg (fun S f i hi hn => cells4_more _ _ _ _ _ _ S f i hi hn) (fun w2 f => HM.out.fresh (h3.trans (f.mono (fun k hk => ?_)))) HZ.out hl
        rcases hk with rfl | hk
        · exact hgw
        · unfold New at hk ⊢; have := h3.size; omega
      have h5 : ∀ w6 w', Frm (New w5) w5 w6 → Frm (fun x => x = b) w6 w' → Blk w' bm 25 #[x1, .slice m.A2 m.b.length m.c2, .slice m.A3 m.ts.length m.c3] ∧ Blk w' g4 29 (cells4 A4 m.b.length c4 A5 m.ts.length c5 []) ∧ Blk w' gr 29 #[.string ⟨#[]⟩, .string ⟨#[]⟩, .string ⟨#[]⟩, .string ⟨#[]⟩, .slice none 0 0, .slice none 0 0, .slice none 0 0] ∧ Frm (New w) w w' ∧ Frm (New w5) w5 w' := fun w6 w' f4 f5 => by
        have hf : Frm (New w5) w5 w' := f4.trans (f5.mono (fun k hk => by subst hk; unfold New; omega))
        exact ⟨HBM5.out.fresh hf, hB5.out.fresh hf, HGR5.out.fresh hf, HF05.out.then_new Up.new hf, hf⟩
      have HBB := Lib.hid hb
      have HFA := Lib.hid hfa
      have H5 := Lib.hid h5
      clear hb hfa h5
      go_upto_region 5 with (first
        | (refine wpList_makeMap str rfl rfl ?_; intro w6 hM6 hF6 hs6; rw [← HBB.out] at hM6 ⊢)
        | (refine wpList_insert skey uPs rfl rfl rfl (k := bMe) rfl hM6 ?_; intro w7 hM7 hF7 hs7; replace hM7 : MapIs w7 b str (ptrs g4 [(bMe, 0)]) := hM7)
        | (refine wpList_insert skey uPs rfl rfl rfl (k := bSc) rfl hM7 ?_; intro w8 hM8 hF8 hs8; replace hM8 : MapIs w8 b str (ptrs g4 [(bMe, 0), (bSc, 1)]) := hM8)
        | (refine wpList_insert skey uPs rfl rfl rfl (k := bAu) rfl hM8 ?_; intro w9 hM9 hF9 hs9; replace hM9 : MapIs w9 b str (ptrs g4 [(bMe, 0), (bSc, 1), (bAu, 2)]) := hM9)
        | (refine wpList_insert skey uPs rfl rfl rfl (k := bPa) rfl hM9 ?_; intro w10 hM10 hF10 hs10; replace hM10 : MapIs w10 b str (ptrs g4 pl4) := hM10; have h10 := H5.out _ _ hF6 (((hF7.trans hF8).trans hF9).trans hF10))
        | (refine wpList_load_agg agM rfl rfl rfl h10.1 rfl ?_)
        | (go_at_call 28; refine (HFA.out _ hM10 h10.2.1 h10.2.2.2.1).mono ?_; intro e w11 hR; obtain ⟨hF11, A, n, c, rfl, hR11⟩ := hR.out))
      have hF511 : Frm (fun k => k = g4 ∨ New w5 k) w5 w11 := (h10.2.2.2.2.mono (fun k hk => .inr hk)).trans (hF11.mono (fun k hk => by
        rcases hk with rfl | hk
        · exact .inl rfl
        · right; unfold New at hk ⊢; have := h10.2.2.2.2.size; omega))
      have hF011 : Frm (New w) w w11 := HF05.out.trans (hF511.mono (fun k hk => by
        rcases hk with rfl | hk
        · exact hgw
        · unfold New at hk ⊢; have := HF05.out.size; omega))
      have hgr11 : Blk w11 gr 29 #[.string ⟨#[]⟩, .string ⟨#[]⟩, .string ⟨#[]⟩, .string ⟨#[]⟩, .slice none 0 0, .slice none 0 0, .slice none 0 0] := HGR5.out.keep hF511 (fun h => by
        rcases h with h | h
        · exact hgr4 h
        · have := HGR5.out.lt; unfold New at h; omega)
      have hrb : Rd w11 A4 (bvs m.b) := hRb.out.keep2 hF511 (fun hn k hk h => by
        rcases h with h | h
        · exact (hfb.out hn k hk).1 h
        · have := hRb.out.blk_lt hn hk; unfold New at h; omega)
      have hrt : Rd w11 A5 (fvs m.ts) := hRt.out.keep2 hF511 (fun hn k hk h => by
        rcases h with h | h
        · exact (hft.out hn k hk).1 h
        · have := hRt.out.blk_lt hn hk; unfold New at h; omega)
      have hgrw : w.heap.size ≤ gr := by omega
      have hgr3 : gr < w3.heap.size := hgr3l
      have hcl : rcls m = if okF names4 m && rokV (val (spS m.fs) bMe) (val (spS m.fs) bSc) (val (spS m.fs) bPa) then 0 else 1 := by
        unfold rcls
        rw [if_neg (by rw [← HLG.out]; exact Bool.false_ne_true)]
      have hrq : rcls m = 0 → rq m = ⟨val (spS m.fs) bMe, val (spS m.fs) bSc, val (spS m.fs) bAu, val (spS m.fs) bPa, spR m.fs, m.b, m.ts⟩ := fun h => by unfold rq; rw [if_pos h]
      have hs510 := h10.2.2.2.2.size
      have hg410 : g4 < w10.heap.size := by omega
      have hgr10 : gr < w10.heap.size := by omega
      clear hR hF11 hM10 hM9 hM8 hM7 hM6 hF10 hF9 hF8 hF7 hF6 hs10 hs9 hs8 hs7 hs6 h10 HFA H5 HBM5 HGR5 HF05 hB5 hF511 hRb hRt
      simp only [cells4, str] at hR11
      generalize val (spS m.fs) bMe = me at *
      generalize val (spS m.fs) bSc = sc at *
      generalize val (spS m.fs) bAu = au at *
      generalize val (spS m.fs) bPa = pa at *
      generalize okF names4 m = ok at *
      have hfin : ∀ w', Frm (· = gr) w11 w' → (ok && rokV me sc pa) = false → Q (.returned (.tuple #[.agg #[.string ⟨#[]⟩, .string ⟨#[]⟩, .string ⟨#[]⟩, .string ⟨#[]⟩, .slice none 0 0, .slice none 0 0, .slice none 0 0], .int .i64 ((1 : Nat) : Int)])) w' := fun w' f h => by
        refine HNO.out 1 _ (by rw [hcl, h]; rfl) (by decide) (hF011.trans (f.mono (fun k hk => ?_)))
        subst hk; exact hgrw
      have HFIN := Lib.hid hfin
      have HGR11 := Lib.hid hgr11
      have HF011 := Lib.hid hF011
      have HRB := Lib.hid hrb
      have HRT := Lib.hid hrt
      have HCL := Lib.hid hcl
      have HRQ := Lib.hid hrq
      clear hfin hgr11 hF011 hrb hrt hcl hrq
      cases ok with
      | false =>
        go_wp2_with (refine wpList_store_agg rfl rfl rfl (cs := #[.string ⟨#[]⟩, .string ⟨#[]⟩, .string ⟨#[]⟩, .string ⟨#[]⟩, .slice none 0 0, .slice none 0 0, .slice none 0 0]) rfl HGR11.out rfl (req_one _ _ _ _ _ _ _ _ _ _ _ _ _) (by kernel_rfl) ?_; intro w12 hb12 hF12 hs12)
        refine bodyPost_ret (results_agg_tmp agR rfl rfl rfl hb12 rfl) rfl ?_
        exact HFIN.out _ hF12 (by rfl)
      | true =>
      obtain ⟨rfl, hAp, hbs⟩ := hR11 rfl
      clear hR11
      have hv0 := hbs.cell 0
      have hv1 := hbs.cell 1
      have hv2 := hbs.cell 2
      have hv3 := hbs.cell 3
      have hv4 := hbs.cell 4
      simp only [List.getElem?_toArray, List.getElem?_cons_zero, List.getElem?_cons_succ] at hv0 hv1 hv2 hv3 hv4
      have hvf := hbs.frozen 4
      have hvl := hbs.lt
      have hgood : ∀ w', Frm (· = gr) (w11.setCell ⟨g4, 4, none⟩ (.slice A (spR m.fs).length c)) w' → rokV me sc pa = true → Q (.returned (.tuple #[.agg #[.string ⟨me.toArray⟩, .string ⟨sc.toArray⟩, .string ⟨au.toArray⟩, .string ⟨pa.toArray⟩, .slice A (spR m.fs).length c, .slice A4 m.b.length c4, .slice A5 m.ts.length c5], .int .i64 ((0 : Nat) : Int)])) w' := fun w' f h => by
        have h0 : rcls m = 0 := by rw [HCL.out, h]; rfl
        have hf : Frm (fun k => k = g4 ∨ k = gr) w11 w' := ((Frm.setCell (M := fun k => k = g4) (Frm.refl _ w11) (p := ⟨g4, 4, none⟩) rfl (.slice A (spR m.fs).length c)).mono (fun k hk => .inl hk)).trans (f.mono (fun k hk => .inr hk))
        rw [← HQ.out]
        refine ⟨⟨me, sc, au, pa, A, c, spR m.fs, A4, c4, m.b, A5, c5, m.ts⟩, by rw [h0]; rfl, ⟨hAp.rd.keep hf (fun k hk e => ?_), HRB.out.keep2 hf (fun hn k hk e => ?_), HRT.out.keep2 hf (fun hn k hk e => ?_)⟩, (HRQ.out h0).symm, HF011.out.trans (hf.mono (fun k hk => ?_))⟩
        · have := hAp.inM k hk
          unfold New at this
          rcases e with e | e <;> omega
        · have := hfb.out hn k hk
          rcases e with e | e <;> omega
        · have := hft.out hn k hk
          rcases e with e | e <;> omega
        · rcases hk with rfl | rfl
          · exact hgw
          · exact hgrw
      have hset : Blk (w11.setCell ⟨g4, 4, none⟩ (.slice A (spR m.fs).length c)) g4 29 #[.string ⟨me.toArray⟩, .string ⟨sc.toArray⟩, .string ⟨au.toArray⟩, .string ⟨pa.toArray⟩, .slice A (spR m.fs).length c, .slice A4 m.b.length c4, .slice A5 m.ts.length c5] := by
        have h := hbs.set_ 4 (.slice A (spR m.fs).length c)
        simp only [List.setIfInBounds_toArray, List.set_cons_zero, List.set_cons_succ] at h
        exact h
      have hgrs := HGR11.out.far (p := ⟨g4, 4, none⟩) hgr4 (.slice A (spR m.fs).length c)
      have HSET := Lib.hid hset
      have HGRS := Lib.hid hgrs
      clear hset hgrs
      have HGOOD := Lib.hid hgood
      clear hgood
      clear hbs hAp hgr4
      cases me with
      | nil =>
        go_wp2_with (refine wpList_store_agg rfl rfl rfl (cs := #[.string ⟨#[]⟩, .string ⟨#[]⟩, .string ⟨#[]⟩, .string ⟨#[]⟩, .slice none 0 0, .slice none 0 0, .slice none 0 0]) rfl HGR11.out rfl (req_one _ _ _ _ _ _ _ _ _ _ _ _ _) (by kernel_rfl) ?_; intro w12 hb12 hF12 hs12)
        refine bodyPost_ret (results_agg_tmp agR rfl rfl rfl hb12 rfl) rfl ?_
        exact HFIN.out _ hF12 (by unfold rokV; rfl)
      | cons m1 mr =>
      cases sc with
      | nil =>
        go_wp2_with (refine wpList_store_agg rfl rfl rfl (cs := #[.string ⟨#[]⟩, .string ⟨#[]⟩, .string ⟨#[]⟩, .string ⟨#[]⟩, .slice none 0 0, .slice none 0 0, .slice none 0 0]) rfl HGR11.out rfl (req_one _ _ _ _ _ _ _ _ _ _ _ _ _) (by kernel_rfl) ?_; intro w12 hb12 hF12 hs12)
        refine bodyPost_ret (results_agg_tmp agR rfl rfl rfl hb12 rfl) rfl ?_
        exact HFIN.out _ hF12 (by unfold rokV; rfl)
      | cons s1 sr =>
      cases pa with
      | nil =>
        go_wp2_with (refine wpList_store_agg rfl rfl rfl (cs := #[.string ⟨#[]⟩, .string ⟨#[]⟩, .string ⟨#[]⟩, .string ⟨#[]⟩, .slice none 0 0, .slice none 0 0, .slice none 0 0]) rfl HGR11.out rfl (req_one _ _ _ _ _ _ _ _ _ _ _ _ _) (by kernel_rfl) ?_; intro w12 hb12 hF12 hs12)
        refine bodyPost_ret (results_agg_tmp agR rfl rfl rfl hb12 rfl) rfl ?_
        exact HFIN.out _ hF12 (by unfold rokV; rfl)
      | cons p1 pr =>
      by_cases hp : p1 = 47
      · subst hp
        clear HFIN
        go_upto_region 10 with (fail)
        have hsgs := HSET.out
        have hsgr := HGRS.out
        have hsgg := HGOOD.out
        generalize w11.setCell ⟨g4, 4, none⟩ (.slice A (spR m.fs).length c) = w13 at *
        have HSGS := Lib.hid hsgs
        have HSGR := Lib.hid hsgr
        have HSGG := Lib.hid hsgg
        clear hsgs hsgr hsgg
        clear HSET HGRS HGOOD
        go_wp2_with (first
          | (refine wpList_load_agg agR rfl rfl rfl HSGS.out rfl ?_)
          | (refine wpList_store_agg rfl rfl rfl rfl HSGR.out rfl (req_one _ _ _ _ _ _ _ _ _ _ _ _ _) (by kernel_rfl) ?_; intro w12 hb12 hF12 hs12))
        refine bodyPost_ret (results_agg_tmp agR rfl rfl rfl hb12 rfl) rfl ?_
        exact HSGG.out _ hF12 (by unfold rokV; simp)
      · have hpn : ¬ (p1.toNat : Int) = 47 := fun h => hp (UInt8.toNat_inj.1 (by simp; omega))
        by_cases hst : p1 :: pr = [42]
        · obtain ⟨rfl, rfl⟩ : p1 = 42 ∧ pr = [] := by simpa using hst
          by_cases ho : m1 :: mr = bOpt
          · have hor : Hid (rokV (m1 :: mr) (s1 :: sr) [42] = true) := by show _ = _; rw [ho]; unfold rokV; simp; decide
            have ho1 : (m1 :: mr == [79, 80, 84, 73, 79, 78, 83]) = true := by rw [beq_iff_eq]; exact ho
            have ho2 : m1 :: mr = [79, 80, 84, 73, 79, 78, 83] := ho
            have HO := Lib.hid ho
            clear ho
            go_upto_region 10 with (fail)
            have hsgs := HSET.out
            have hsgr := HGRS.out
            have hsgg := HGOOD.out
            generalize w11.setCell ⟨g4, 4, none⟩ (.slice A (spR m.fs).length c) = w13 at *
            have HSGS := Lib.hid hsgs
            have HSGR := Lib.hid hsgr
            have HSGG := Lib.hid hsgg
            clear hsgs hsgr hsgg
            clear HSET HGRS HGOOD
            go_wp2_with (first
              | (refine wpList_load_agg agR rfl rfl rfl HSGS.out rfl ?_)
              | (refine wpList_store_agg rfl rfl rfl rfl HSGR.out rfl (req_one _ _ _ _ _ _ _ _ _ _ _ _ _) (by kernel_rfl) ?_; intro w12 hb12 hF12 hs12))
            refine bodyPost_ret (results_agg_tmp agR rfl rfl rfl hb12 rfl) rfl ?_
            exact HSGG.out _ hF12 hor.out
          · have hor : Hid (rokV (m1 :: mr) (s1 :: sr) [42] = false) := by show _ = _; unfold rokV; rw [decide_eq_false ho]; simp
            have ho1 : (m1 :: mr == [79, 80, 84, 73, 79, 78, 83]) = false := by rw [beq_eq_false_iff_ne]; exact ho
            have ho2 : ¬ m1 :: mr = [79, 80, 84, 73, 79, 78, 83] := ho
            have HO := Lib.hid ho
            clear ho
            go_wp2_with (refine wpList_store_agg rfl rfl rfl (cs := #[.string ⟨#[]⟩, .string ⟨#[]⟩, .string ⟨#[]⟩, .string ⟨#[]⟩, .slice none 0 0, .slice none 0 0, .slice none 0 0]) rfl HGR11.out rfl (req_one _ _ _ _ _ _ _ _ _ _ _ _ _) (by kernel_rfl) ?_; intro w12 hb12 hF12 hs12)
            refine bodyPost_ret (results_agg_tmp agR rfl rfl rfl hb12 rfl) rfl ?_
            exact HFIN.out _ hF12 (by rw [hor.out]; rfl)
        · have hor : Hid (rokV (m1 :: mr) (s1 :: sr) (p1 :: pr) = false) := by show _ = _; unfold rokV; rw [decide_eq_false hst]; simp [hp]
          have ho1 : (p1 :: pr == [42]) = false := by rw [beq_eq_false_iff_ne]; exact hst
          have ho2 : ¬ p1 :: pr = [42] := hst
          have HST := Lib.hid hst
          have HP := Lib.hid hp
          clear hst hp
          go_wp2_with (refine wpList_store_agg rfl rfl rfl (cs := #[.string ⟨#[]⟩, .string ⟨#[]⟩, .string ⟨#[]⟩, .string ⟨#[]⟩, .slice none 0 0, .slice none 0 0, .slice none 0 0]) rfl HGR11.out rfl (req_one _ _ _ _ _ _ _ _ _ _ _ _ _) (by kernel_rfl) ?_; intro w12 hb12 hF12 hs12)
          refine bodyPost_ret (results_agg_tmp agR rfl rfl rfl hb12 rfl) rfl ?_
          exact HFIN.out _ hF12 (by rw [hor.out]; rfl)
end Go.Proofs.YtpojejdddgdjdaaDoor.M
