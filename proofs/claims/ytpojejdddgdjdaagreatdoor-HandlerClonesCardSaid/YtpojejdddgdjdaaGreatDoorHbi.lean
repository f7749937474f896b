/- The document's Handle: what it leaves of the store. Bodies, paths, lists below 2^40. -/
import Derived.BigQuiet
import Derived.Deep.CutBlock
import Derived.Lib.Hide
import Derived.IntWalk
import Derived.Test.YtpojejdddgdjdaaGreatDoorHbh
namespace Go.Proofs.YtpojejdddgdjdaaGreatDoor.M
open Go.ChangeShapes Go.WideShapes Go.ChangeAt Go.RowKit
theorem cut_str (s : Bytes) (k : Nat) : (⟨s.toArray⟩ : ByteArray).extract k s.length = ⟨(s.drop k).toArray⟩ := by
  apply ByteArray.ext
  simp [List.take_of_length_le]
set_option maxRecDepth 100000 in
set_option maxHeartbeats 8000000 in
theorem rhandle_any (r : RV) (w : World) (p c : Nat) (A : Option Addr) (L : List (Bytes × SV)) (hK : RAt w p A c L) (hr : RIn w r) (hl1 : r.fs.length ≤ 1099511627776) (hl2 : r.b.length ≤ 1099511627776) (hl3 : r.ts.length ≤ 1099511627776) (hpl : r.pa.length ≤ 1099511627776) :
    Calls Tryz.prog 16 #[.pointer (some ⟨p, 0, none⟩), .agg r.cells] w (RSR w p A L (rhandle (sto L) r.q)) := by
  obtain ⟨me, sc, au, pa, A1, c1, fs, A2, c2, b, A3, c3, ts⟩ := r
  simp only [RV.cells, RV.q] at *
  have hfr : ∀ (w : World) t cs, Frm (New w) w (w.alloc (.cells cs t)) := fun w t cs => (Frm.refl _ w).alloc Up.new _
  have hs1 : ∀ (w : World) (t : TypeId) cs, (w.alloc (.cells cs t)).heap.size = w.heap.size + 1 := fun w t cs => by simp
  have hpl_ : ∀ (st : Nat) (_ : st ≤ 999) (w' : World), Calls Tryz.prog 30 #[.int .i64 (st : Int)] w' (RAny w') := fun st h w' => (rplain_any st h w').mono (fun e w2 h => h.any)
  have hal : ∀ (st : Nat) (_ : st ≤ 999) (a : Bytes) (w' : World), Calls Tryz.prog 33 #[.int .i64 (st : Int), .string ⟨a.toArray⟩] w' (RAny w') := fun st h a w' => rallow_any st h a w'
  have han : ∀ (st n : Nat) (_ : st ≤ 999) (_ : n ≤ 1099511627776) (X : Option Addr) (n2 d2 : Nat) (B : Option Addr) (d : Nat) (more : List Fld) (Y : Option Addr) (n3 d3 : Nat) (w' : World), Rd w' B (fvs more) → more.length ≤ 1099511627776 → Calls Tryz.prog 36 #[.int .i64 (st : Int), .int .i64 (n : Int), .slice X n2 d2, .slice B more.length d, .slice Y n3 d3] w' (RAny w') := fun st n h1 h2 X n2 d2 B d more Y n3 d3 w' hM hm => (ranswer_any st n h1 h2 X n2 d2 B d more Y n3 d3 w' hM hm).mono (fun e w2 h => h.any)
  have hbo : ∀ (w' : World) (B : Option Addr) (n d : Nat) (C : Option Addr) (e0 : Nat) (more : List Fld), Rd w' C (fvs more) → more.length ≤ 1099511627776 → n ≤ 1099511627776 → Calls Tryz.prog 34 #[.agg #[.string ⟨me.toArray⟩, .string ⟨sc.toArray⟩, .string ⟨au.toArray⟩, .string ⟨pa.toArray⟩, .slice A1 fs.length c1, .slice A2 b.length c2, .slice A3 ts.length c3], .slice B n d, .slice C more.length e0] w' (RAny w') := fun w' B n d C e0 more h1 h2 h3 => rbody_any ⟨me, sc, au, pa, A1, c1, fs, A2, c2, b, A3, c3, ts⟩ B n d C e0 more w' h1 h2 h3
  have hkv : ∀ (w' : World) (x : Bytes), Frm (New w) w w' → x.length ≤ 1099511627776 → Calls Tryz.prog 37 #[.pointer (some ⟨p, 0, none⟩), .agg #[.string ⟨me.toArray⟩, .string ⟨sc.toArray⟩, .string ⟨au.toArray⟩, .string ⟨pa.toArray⟩, .slice A1 fs.length c1, .slice A2 b.length c2, .slice A3 ts.length c3], .string ⟨x.toArray⟩] w' (RSR w' p A L (rkv (sto L) me b x)) := fun w' x f h => rkv_any ⟨me, sc, au, pa, A1, c1, fs, A2, c2, b, A3, c3, ts⟩ x w' p c A L (hK.fresh f) (hr.fresh f).r2 hl2 h
  have hbg : ∀ (q : Bytes) (w' : World), Calls Tryz.prog 31 #[.string ⟨pa.toArray⟩, .string ⟨q.toArray⟩] w' fun e w2 => e = .returned (.bool (Lib.hasPrefix pa q)) ∧ w' = w2 := fun q w' => begins_any pa q w'
  have hfi : ∀ (nm : Bytes) (w' : World), Frm (New w) w w' → Calls Tryz.prog 35 #[.slice A1 fs.length c1, .string ⟨nm.toArray⟩] w' (FiR w' (findF fs nm)) := fun nm w' f => rfind_any fs A1 c1 nm w' (hr.fresh f).r1 hl1
  have hrd := fun w' => rread_any ⟨me, sc, au, pa, A1, c1, fs, A2, c2, b, A3, c3, ts⟩ w'
  have hrB : ∀ w', Frm (New w) w w' → Rd w' A2 (bvs b) := fun w' f => (hr.fresh f).r2
  have hrT : ∀ w', Frm (New w) w w' → Rd w' A3 (fvs ts) := fun w' f => (hr.fresh f).r3
  simp only [RV.cells] at hrd
  obtain ⟨res, hres⟩ : ∃ res, res = rhandle (sto L) ⟨me, sc, au, pa, fs, b, ts⟩ := ⟨_, rfl⟩
  rw [← hres]
  unfold rhandle at hres
  simp only at hres
  have HFR := Lib.hid hfr
  have HS1 := Lib.hid hs1
  have HR := Lib.hid hr
  have HK := Lib.hid hK
  have HPL := Lib.hid hpl_
  have HAL := Lib.hid hal
  have HAN := Lib.hid han
  have HBO := Lib.hid hbo
  have HKV := Lib.hid hkv
  have HFI := Lib.hid hfi
  have HRD := Lib.hid hrd
  have HRB := Lib.hid hrB
  have HRT := Lib.hid hrT
  clear hfr hs1 hr hK hpl_ hal han hbo hkv hfi hrd hrB hrT
  by_cases h1 : Lib.hasPrefix pa bStat = true
  · have hl1 : Lib.hasPrefix pa [47, 115, 116, 97, 116, 105, 99, 47] = true := h1
    rw [if_pos h1] at hres
    have hl8 : (8 : Int) ≤ pa.length := by
      have := (List.isPrefixOf_iff_prefix.1 h1).length_le
      have e : bStat.length = 8 := rfl
      omega
    obtain ⟨x, hxd⟩ : ∃ x, x = pa.drop 8 := ⟨_, rfl⟩
    have hex := cut_str pa 8
    rw [← hxd] at hex
    clear h1 hxd
    have HBG := Lib.hid hbg
    clear hbg
    by_cases hbRed : x = bRed
    · subst hbRed
      cases hme : hReads me with
      | false =>
        have hrm := fun w' => HRD.out w'
        rw [hme] at hrm
        clear hme
        have HRM := Lib.hid hrm
        clear hrm
        obtain ⟨CA, hCA⟩ : ∃ CA, CA = (#[.string ⟨me.toArray⟩, .string ⟨sc.toArray⟩, .string ⟨au.toArray⟩, .string ⟨pa.toArray⟩, .slice A1 fs.length c1, .slice A2 b.length c2, .slice A3 ts.length c3] : Array Value) := ⟨_, rfl⟩
        go_enter Tryz.func16, Tryz.ntmps16
        go_upto_region 1 with (fail)
        rw [← hCA]
        have hb1 := Blk.new w 32 CA
        have hF1 := HFR.out w 32 CA
        have hz1 := HS1.out w 32 CA
        generalize w.alloc (.cells CA 32) = w1 at *
        have hb2 := Blk.new w1 30 #[.slice none 0 0, .slice none 0 0, .slice none 0 0]
        have hF2 := HFR.out w1 30 #[.slice none 0 0, .slice none 0 0, .slice none 0 0]
        generalize w1.alloc (.cells #[.slice none 0 0, .slice none 0 0, .slice none 0 0] 30) = w2 at *
        have hbr := hb1.fresh hF2
        have hF02 := hF1.then_new Up.new hF2
        rw [hz1] at hb2
        rw [hCA] at hbr
        obtain ⟨gr, hgr⟩ : ∃ gr, gr = w.heap.size := ⟨_, rfl⟩
        rw [← hgr] at hbr hb2 hz1 ⊢
        obtain ⟨gm, hgm⟩ : ∃ gm, gm = gr + 1 := ⟨_, rfl⟩
        rw [← hgm] at hb2
        try rw [hz1]
        try rw [← hgm]
        have hgw : w.heap.size ≤ gm := by omega
        have hgrw : w.heap.size ≤ gr := by omega
        have hlm := hb2.lt
        have hlr := hbr.lt
        clear hb1 hF1 hF2 hgr hgm hz1 hCA
        have hy0 := hbr.cell 0
        have hy3 := hbr.cell 3
        simp only [List.getElem?_toArray, List.getElem?_cons_zero, List.getElem?_cons_succ] at hy0 hy3
        have HBR := Lib.hid hbr
        have HB2 := Lib.hid hb2
        have HF02 := Lib.hid hF02
        clear hbr hb2 hF02
        go_wp2_with (first
          | (go_at_call 31; refine (HBG.out _ _).mono ?_; rintro e w' ⟨rfl, hw⟩; rw [← hw]; clear hw w')
          | (refine wpList_load_agg agR rfl rfl rfl HBR.out rfl ?_)
          | (go_at_call 32; refine (HRM.out _).mono ?_; rintro e w3 ⟨rfl, hF3⟩; have HF03 := Lib.hid (HF02.out.then_new Up.new hF3); have HBR3 := Lib.hid (HBR.out.fresh hF3); have HB3 := Lib.hid (HB2.out.fresh hF3); have hlm3 := HB3.out.lt; clear hF3)
          | (go_at_call 33; refine (HAL.out 405 (by decide) _ _).mono ?_; rintro e w9 ⟨X1, X2, X3, n1, n2, n3, k1, k2, k3, rfl, hF9⟩; have hbx := HB3.out.fresh hF9)
          | (refine wpList_store_agg rfl rfl rfl rfl hbx rfl (msg_one _ _ _ _ _ _ _ _ _) (by kernel_rfl) ?_; intro w10 hb10 hF10 hs10))
        refine bodyPost_ret (results_agg agM rfl rfl hb10 rfl) rfl ?_
        exact RSR.same HK.out (HF03.out.newg hF9 hgw hF10) hres
      | true =>
        have hrm := fun w' => HRD.out w'
        rw [hme] at hrm
        clear hme
        have HRM := Lib.hid hrm
        clear hrm
        obtain ⟨y, hy⟩ : ∃ y, y = bRed ++ bColour := ⟨_, rfl⟩
        have hyl : y.length ≤ 100 := by rw [hy]; decide
        have hcat : (⟨List.toArray bRed⟩ : ByteArray) ++ ⟨#[32, 105, 115, 32, 97, 32, 99, 111, 108, 111, 117, 114]⟩ = ⟨y.toArray⟩ := by rw [hy]; rfl
        have hcat2 : (⟨#[114, 101, 100]⟩ : ByteArray) ++ ⟨#[32, 105, 115, 32, 97, 32, 99, 111, 108, 111, 117, 114]⟩ = ⟨y.toArray⟩ := by rw [hy]; rfl
        have HY := Lib.hid hy
        clear hy
        obtain ⟨CA, hCA⟩ : ∃ CA, CA = (#[.string ⟨me.toArray⟩, .string ⟨sc.toArray⟩, .string ⟨au.toArray⟩, .string ⟨pa.toArray⟩, .slice A1 fs.length c1, .slice A2 b.length c2, .slice A3 ts.length c3] : Array Value) := ⟨_, rfl⟩
        go_enter Tryz.func16, Tryz.ntmps16
        go_upto_region 1 with (fail)
        rw [← hCA]
        have hb1 := Blk.new w 32 CA
        have hF1 := HFR.out w 32 CA
        have hz1 := HS1.out w 32 CA
        generalize w.alloc (.cells CA 32) = w1 at *
        have hb2 := Blk.new w1 30 #[.slice none 0 0, .slice none 0 0, .slice none 0 0]
        have hF2 := HFR.out w1 30 #[.slice none 0 0, .slice none 0 0, .slice none 0 0]
        generalize w1.alloc (.cells #[.slice none 0 0, .slice none 0 0, .slice none 0 0] 30) = w2 at *
        have hbr := hb1.fresh hF2
        have hF02 := hF1.then_new Up.new hF2
        rw [hz1] at hb2
        rw [hCA] at hbr
        obtain ⟨gr, hgr⟩ : ∃ gr, gr = w.heap.size := ⟨_, rfl⟩
        rw [← hgr] at hbr hb2 hz1 ⊢
        obtain ⟨gm, hgm⟩ : ∃ gm, gm = gr + 1 := ⟨_, rfl⟩
        rw [← hgm] at hb2
        try rw [hz1]
        try rw [← hgm]
        have hgw : w.heap.size ≤ gm := by omega
        have hgrw : w.heap.size ≤ gr := by omega
        have hlm := hb2.lt
        have hlr := hbr.lt
        clear hb1 hF1 hF2 hgr hgm hz1 hCA
        have hy0 := hbr.cell 0
        have hy3 := hbr.cell 3
        simp only [List.getElem?_toArray, List.getElem?_cons_zero, List.getElem?_cons_succ] at hy0 hy3
        have HBR := Lib.hid hbr
        have HB2 := Lib.hid hb2
        have HF02 := Lib.hid hF02
        clear hbr hb2 hF02
        go_upto_region 8 with (first
          | (go_at_call 31; refine (HBG.out _ _).mono ?_; rintro e w' ⟨rfl, hw⟩; rw [← hw]; clear hw w')
          | (refine wpList_load_agg agR rfl rfl rfl HBR.out rfl ?_)
          | (go_at_call 32; refine (HRM.out _).mono ?_; rintro e w3 ⟨rfl, hF3⟩; have HF03 := Lib.hid (HF02.out.then_new Up.new hF3); have HBR3 := Lib.hid (HBR.out.fresh hF3); have HB3 := Lib.hid (HB2.out.fresh hF3); have hlm3 := HB3.out.lt; clear hF3))
        go_wp2_with (first
          | (refine wpList_load_agg agR rfl rfl rfl HBR3.out rfl ?_)
          | (refine wpList_tobytes rfl rfl (s := y) (by first | rfl | (show Value.string _ = _; first | rw [hcat] | rw [hcat2])) ?_; intro cb w4 hRb hF4; have HF04 := Lib.hid (HF03.out.then_new Up.new hF4); have HB4 := Lib.hid (HB3.out.fresh hF4); have hFl := hF4; clear hRb hF4)
          | (go_at_call 34; refine (HBO.out _ _ y.length cb _ 1 [(bCT, bTP)] (Rd.new w4 #[.string ⟨#[99, 111, 110, 116, 101, 110, 116, 45, 116, 121, 112, 101]⟩, .string ⟨#[116, 101, 120, 116, 47, 112, 108, 97, 105, 110]⟩] 38) (by simp) (by omega)).mono ?_; rintro e w9 ⟨X1, X2, X3, n1, n2, n3, k1, k2, k3, rfl, hF9⟩; have hbx := (HB4.out.alloc _).fresh hF9)
          | (refine wpList_store_agg rfl rfl rfl rfl hbx rfl (msg_one _ _ _ _ _ _ _ _ _) (by kernel_rfl) ?_; intro w10 hb10 hF10 hs10))
        refine bodyPost_ret (results_agg agM rfl rfl hb10 rfl) rfl ?_
        exact RSR.same HK.out ((HF04.out.alloc Up.new _).newg hF9 hgw hF10) hres
    by_cases hbGreen : x = bGreen
    · subst hbGreen
      cases hme : hReads me with
      | false =>
        have hrm := fun w' => HRD.out w'
        rw [hme] at hrm
        clear hme
        have HRM := Lib.hid hrm
        clear hrm
        obtain ⟨CA, hCA⟩ : ∃ CA, CA = (#[.string ⟨me.toArray⟩, .string ⟨sc.toArray⟩, .string ⟨au.toArray⟩, .string ⟨pa.toArray⟩, .slice A1 fs.length c1, .slice A2 b.length c2, .slice A3 ts.length c3] : Array Value) := ⟨_, rfl⟩
        go_enter Tryz.func16, Tryz.ntmps16
        go_upto_region 1 with (fail)
        rw [← hCA]
        have hb1 := Blk.new w 32 CA
        have hF1 := HFR.out w 32 CA
        have hz1 := HS1.out w 32 CA
        generalize w.alloc (.cells CA 32) = w1 at *
        have hb2 := Blk.new w1 30 #[.slice none 0 0, .slice none 0 0, .slice none 0 0]
        have hF2 := HFR.out w1 30 #[.slice none 0 0, .slice none 0 0, .slice none 0 0]
        generalize w1.alloc (.cells #[.slice none 0 0, .slice none 0 0, .slice none 0 0] 30) = w2 at *
        have hbr := hb1.fresh hF2
        have hF02 := hF1.then_new Up.new hF2
        rw [hz1] at hb2
        rw [hCA] at hbr
        obtain ⟨gr, hgr⟩ : ∃ gr, gr = w.heap.size := ⟨_, rfl⟩
        rw [← hgr] at hbr hb2 hz1 ⊢
        obtain ⟨gm, hgm⟩ : ∃ gm, gm = gr + 1 := ⟨_, rfl⟩
        rw [← hgm] at hb2
        try rw [hz1]
        try rw [← hgm]
        have hgw : w.heap.size ≤ gm := by omega
        have hgrw : w.heap.size ≤ gr := by omega
        have hlm := hb2.lt
        have hlr := hbr.lt
        clear hb1 hF1 hF2 hgr hgm hz1 hCA
        have hy0 := hbr.cell 0
        have hy3 := hbr.cell 3
        simp only [List.getElem?_toArray, List.getElem?_cons_zero, List.getElem?_cons_succ] at hy0 hy3
        have HBR := Lib.hid hbr
        have HB2 := Lib.hid hb2
        have HF02 := Lib.hid hF02
        clear hbr hb2 hF02
        go_wp2_with (first
          | (go_at_call 31; refine (HBG.out _ _).mono ?_; rintro e w' ⟨rfl, hw⟩; rw [← hw]; clear hw w')
          | (refine wpList_load_agg agR rfl rfl rfl HBR.out rfl ?_)
          | (go_at_call 32; refine (HRM.out _).mono ?_; rintro e w3 ⟨rfl, hF3⟩; have HF03 := Lib.hid (HF02.out.then_new Up.new hF3); have HBR3 := Lib.hid (HBR.out.fresh hF3); have HB3 := Lib.hid (HB2.out.fresh hF3); have hlm3 := HB3.out.lt; clear hF3)
          | (go_at_call 33; refine (HAL.out 405 (by decide) _ _).mono ?_; rintro e w9 ⟨X1, X2, X3, n1, n2, n3, k1, k2, k3, rfl, hF9⟩; have hbx := HB3.out.fresh hF9)
          | (refine wpList_store_agg rfl rfl rfl rfl hbx rfl (msg_one _ _ _ _ _ _ _ _ _) (by kernel_rfl) ?_; intro w10 hb10 hF10 hs10))
        refine bodyPost_ret (results_agg agM rfl rfl hb10 rfl) rfl ?_
        exact RSR.same HK.out (HF03.out.newg hF9 hgw hF10) hres
      | true =>
        have hrm := fun w' => HRD.out w'
        rw [hme] at hrm
        clear hme
        have HRM := Lib.hid hrm
        clear hrm
        obtain ⟨y, hy⟩ : ∃ y, y = bGreen ++ bColour := ⟨_, rfl⟩
        have hyl : y.length ≤ 100 := by rw [hy]; decide
        have hcat : (⟨List.toArray bGreen⟩ : ByteArray) ++ ⟨#[32, 105, 115, 32, 97, 32, 99, 111, 108, 111, 117, 114]⟩ = ⟨y.toArray⟩ := by rw [hy]; rfl
        have hcat2 : (⟨#[103, 114, 101, 101, 110]⟩ : ByteArray) ++ ⟨#[32, 105, 115, 32, 97, 32, 99, 111, 108, 111, 117, 114]⟩ = ⟨y.toArray⟩ := by rw [hy]; rfl
        have HY := Lib.hid hy
        clear hy
        obtain ⟨CA, hCA⟩ : ∃ CA, CA = (#[.string ⟨me.toArray⟩, .string ⟨sc.toArray⟩, .string ⟨au.toArray⟩, .string ⟨pa.toArray⟩, .slice A1 fs.length c1, .slice A2 b.length c2, .slice A3 ts.length c3] : Array Value) := ⟨_, rfl⟩
        go_enter Tryz.func16, Tryz.ntmps16
        go_upto_region 1 with (fail)
        rw [← hCA]
        have hb1 := Blk.new w 32 CA
        have hF1 := HFR.out w 32 CA
        have hz1 := HS1.out w 32 CA
        generalize w.alloc (.cells CA 32) = w1 at *
        have hb2 := Blk.new w1 30 #[.slice none 0 0, .slice none 0 0, .slice none 0 0]
        have hF2 := HFR.out w1 30 #[.slice none 0 0, .slice none 0 0, .slice none 0 0]
        generalize w1.alloc (.cells #[.slice none 0 0, .slice none 0 0, .slice none 0 0] 30) = w2 at *
        have hbr := hb1.fresh hF2
        have hF02 := hF1.then_new Up.new hF2
        rw [hz1] at hb2
        rw [hCA] at hbr
        obtain ⟨gr, hgr⟩ : ∃ gr, gr = w.heap.size := ⟨_, rfl⟩
        rw [← hgr] at hbr hb2 hz1 ⊢
        obtain ⟨gm, hgm⟩ : ∃ gm, gm = gr + 1 := ⟨_, rfl⟩
        rw [← hgm] at hb2
        try rw [hz1]
        try rw [← hgm]
        have hgw : w.heap.size ≤ gm := by omega
        have hgrw : w.heap.size ≤ gr := by omega
        have hlm := hb2.lt
        have hlr := hbr.lt
        clear hb1 hF1 hF2 hgr hgm hz1 hCA
        have hy0 := hbr.cell 0
        have hy3 := hbr.cell 3
        simp only [List.getElem?_toArray, List.getElem?_cons_zero, List.getElem?_cons_succ] at hy0 hy3
        have HBR := Lib.hid hbr
        have HB2 := Lib.hid hb2
        have HF02 := Lib.hid hF02
        clear hbr hb2 hF02
        go_upto_region 8 with (first
          | (go_at_call 31; refine (HBG.out _ _).mono ?_; rintro e w' ⟨rfl, hw⟩; rw [← hw]; clear hw w')
          | (refine wpList_load_agg agR rfl rfl rfl HBR.out rfl ?_)
          | (go_at_call 32; refine (HRM.out _).mono ?_; rintro e w3 ⟨rfl, hF3⟩; have HF03 := Lib.hid (HF02.out.then_new Up.new hF3); have HBR3 := Lib.hid (HBR.out.fresh hF3); have HB3 := Lib.hid (HB2.out.fresh hF3); have hlm3 := HB3.out.lt; clear hF3))
        go_wp2_with (first
          | (refine wpList_load_agg agR rfl rfl rfl HBR3.out rfl ?_)
          | (refine wpList_tobytes rfl rfl (s := y) (by first | rfl | (show Value.string _ = _; first | rw [hcat] | rw [hcat2])) ?_; intro cb w4 hRb hF4; have HF04 := Lib.hid (HF03.out.then_new Up.new hF4); have HB4 := Lib.hid (HB3.out.fresh hF4); have hFl := hF4; clear hRb hF4)
          | (go_at_call 34; refine (HBO.out _ _ y.length cb _ 1 [(bCT, bTP)] (Rd.new w4 #[.string ⟨#[99, 111, 110, 116, 101, 110, 116, 45, 116, 121, 112, 101]⟩, .string ⟨#[116, 101, 120, 116, 47, 112, 108, 97, 105, 110]⟩] 38) (by simp) (by omega)).mono ?_; rintro e w9 ⟨X1, X2, X3, n1, n2, n3, k1, k2, k3, rfl, hF9⟩; have hbx := (HB4.out.alloc _).fresh hF9)
          | (refine wpList_store_agg rfl rfl rfl rfl hbx rfl (msg_one _ _ _ _ _ _ _ _ _) (by kernel_rfl) ?_; intro w10 hb10 hF10 hs10))
        refine bodyPost_ret (results_agg agM rfl rfl hb10 rfl) rfl ?_
        exact RSR.same HK.out ((HF04.out.alloc Up.new _).newg hF9 hgw hF10) hres
    by_cases hbBlue : x = bBlue
    · subst hbBlue
      cases hme : hReads me with
      | false =>
        have hrm := fun w' => HRD.out w'
        rw [hme] at hrm
        clear hme
        have HRM := Lib.hid hrm
        clear hrm
        obtain ⟨CA, hCA⟩ : ∃ CA, CA = (#[.string ⟨me.toArray⟩, .string ⟨sc.toArray⟩, .string ⟨au.toArray⟩, .string ⟨pa.toArray⟩, .slice A1 fs.length c1, .slice A2 b.length c2, .slice A3 ts.length c3] : Array Value) := ⟨_, rfl⟩
        go_enter Tryz.func16, Tryz.ntmps16
        go_upto_region 1 with (fail)
        rw [← hCA]
        have hb1 := Blk.new w 32 CA
        have hF1 := HFR.out w 32 CA
        have hz1 := HS1.out w 32 CA
        generalize w.alloc (.cells CA 32) = w1 at *
        have hb2 := Blk.new w1 30 #[.slice none 0 0, .slice none 0 0, .slice none 0 0]
        have hF2 := HFR.out w1 30 #[.slice none 0 0, .slice none 0 0, .slice none 0 0]
        generalize w1.alloc (.cells #[.slice none 0 0, .slice none 0 0, .slice none 0 0] 30) = w2 at *
        have hbr := hb1.fresh hF2
        have hF02 := hF1.then_new Up.new hF2
        rw [hz1] at hb2
        rw [hCA] at hbr
        obtain ⟨gr, hgr⟩ : ∃ gr, gr = w.heap.size := ⟨_, rfl⟩
        rw [← hgr] at hbr hb2 hz1 ⊢
        obtain ⟨gm, hgm⟩ : ∃ gm, gm = gr + 1 := ⟨_, rfl⟩
        rw [← hgm] at hb2
        try rw [hz1]
        try rw [← hgm]
        have hgw : w.heap.size ≤ gm := by omega
        have hgrw : w.heap.size ≤ gr := by omega
        have hlm := hb2.lt
        have hlr := hbr.lt
        clear hb1 hF1 hF2 hgr hgm hz1 hCA
        have hy0 := hbr.cell 0
        have hy3 := hbr.cell 3
        simp only [List.getElem?_toArray, List.getElem?_cons_zero, List.getElem?_cons_succ] at hy0 hy3
        have HBR := Lib.hid hbr
        have HB2 := Lib.hid hb2
        have HF02 := Lib.hid hF02
        clear hbr hb2 hF02
        go_wp2_with (first
          | (go_at_call 31; refine (HBG.out _ _).mono ?_; rintro e w' ⟨rfl, hw⟩; rw [← hw]; clear hw w')
          | (refine wpList_load_agg agR rfl rfl rfl HBR.out rfl ?_)
          | (go_at_call 32; refine (HRM.out _).mono ?_; rintro e w3 ⟨rfl, hF3⟩; have HF03 := Lib.hid (HF02.out.then_new Up.new hF3); have HBR3 := Lib.hid (HBR.out.fresh hF3); have HB3 := Lib.hid (HB2.out.fresh hF3); have hlm3 := HB3.out.lt; clear hF3)
          | (go_at_call 33; refine (HAL.out 405 (by decide) _ _).mono ?_; rintro e w9 ⟨X1, X2, X3, n1, n2, n3, k1, k2, k3, rfl, hF9⟩; have hbx := HB3.out.fresh hF9)
          | (refine wpList_store_agg rfl rfl rfl rfl hbx rfl (msg_one _ _ _ _ _ _ _ _ _) (by kernel_rfl) ?_; intro w10 hb10 hF10 hs10))
        refine bodyPost_ret (results_agg agM rfl rfl hb10 rfl) rfl ?_
        exact RSR.same HK.out (HF03.out.newg hF9 hgw hF10) hres
      | true =>
        have hrm := fun w' => HRD.out w'
        rw [hme] at hrm
        clear hme
        have HRM := Lib.hid hrm
        clear hrm
        obtain ⟨y, hy⟩ : ∃ y, y = bBlue ++ bColour := ⟨_, rfl⟩
        have hyl : y.length ≤ 100 := by rw [hy]; decide
        have hcat : (⟨List.toArray bBlue⟩ : ByteArray) ++ ⟨#[32, 105, 115, 32, 97, 32, 99, 111, 108, 111, 117, 114]⟩ = ⟨y.toArray⟩ := by rw [hy]; rfl
        have hcat2 : (⟨#[98, 108, 117, 101]⟩ : ByteArray) ++ ⟨#[32, 105, 115, 32, 97, 32, 99, 111, 108, 111, 117, 114]⟩ = ⟨y.toArray⟩ := by rw [hy]; rfl
        have HY := Lib.hid hy
        clear hy
        obtain ⟨CA, hCA⟩ : ∃ CA, CA = (#[.string ⟨me.toArray⟩, .string ⟨sc.toArray⟩, .string ⟨au.toArray⟩, .string ⟨pa.toArray⟩, .slice A1 fs.length c1, .slice A2 b.length c2, .slice A3 ts.length c3] : Array Value) := ⟨_, rfl⟩
        go_enter Tryz.func16, Tryz.ntmps16
        go_upto_region 1 with (fail)
        rw [← hCA]
        have hb1 := Blk.new w 32 CA
        have hF1 := HFR.out w 32 CA
        have hz1 := HS1.out w 32 CA
        generalize w.alloc (.cells CA 32) = w1 at *
        have hb2 := Blk.new w1 30 #[.slice none 0 0, .slice none 0 0, .slice none 0 0]
        have hF2 := HFR.out w1 30 #[.slice none 0 0, .slice none 0 0, .slice none 0 0]
        generalize w1.alloc (.cells #[.slice none 0 0, .slice none 0 0, .slice none 0 0] 30) = w2 at *
        have hbr := hb1.fresh hF2
        have hF02 := hF1.then_new Up.new hF2
        rw [hz1] at hb2
        rw [hCA] at hbr
        obtain ⟨gr, hgr⟩ : ∃ gr, gr = w.heap.size := ⟨_, rfl⟩
        rw [← hgr] at hbr hb2 hz1 ⊢
        obtain ⟨gm, hgm⟩ : ∃ gm, gm = gr + 1 := ⟨_, rfl⟩
        rw [← hgm] at hb2
        try rw [hz1]
        try rw [← hgm]
        have hgw : w.heap.size ≤ gm := by omega
        have hgrw : w.heap.size ≤ gr := by omega
        have hlm := hb2.lt
        have hlr := hbr.lt
        clear hb1 hF1 hF2 hgr hgm hz1 hCA
        have hy0 := hbr.cell 0
        have hy3 := hbr.cell 3
        simp only [List.getElem?_toArray, List.getElem?_cons_zero, List.getElem?_cons_succ] at hy0 hy3
        have HBR := Lib.hid hbr
        have HB2 := Lib.hid hb2
        have HF02 := Lib.hid hF02
        clear hbr hb2 hF02
        go_upto_region 8 with (first
          | (go_at_call 31; refine (HBG.out _ _).mono ?_; rintro e w' ⟨rfl, hw⟩; rw [← hw]; clear hw w')
          | (refine wpList_load_agg agR rfl rfl rfl HBR.out rfl ?_)
          | (go_at_call 32; refine (HRM.out _).mono ?_; rintro e w3 ⟨rfl, hF3⟩; have HF03 := Lib.hid (HF02.out.then_new Up.new hF3); have HBR3 := Lib.hid (HBR.out.fresh hF3); have HB3 := Lib.hid (HB2.out.fresh hF3); have hlm3 := HB3.out.lt; clear hF3))
        go_wp2_with (first
          | (refine wpList_load_agg agR rfl rfl rfl HBR3.out rfl ?_)
          | (refine wpList_tobytes rfl rfl (s := y) (by first | rfl | (show Value.string _ = _; first | rw [hcat] | rw [hcat2])) ?_; intro cb w4 hRb hF4; have HF04 := Lib.hid (HF03.out.then_new Up.new hF4); have HB4 := Lib.hid (HB3.out.fresh hF4); have hFl := hF4; clear hRb hF4)
          | (go_at_call 34; refine (HBO.out _ _ y.length cb _ 1 [(bCT, bTP)] (Rd.new w4 #[.string ⟨#[99, 111, 110, 116, 101, 110, 116, 45, 116, 121, 112, 101]⟩, .string ⟨#[116, 101, 120, 116, 47, 112, 108, 97, 105, 110]⟩] 38) (by simp) (by omega)).mono ?_; rintro e w9 ⟨X1, X2, X3, n1, n2, n3, k1, k2, k3, rfl, hF9⟩; have hbx := (HB4.out.alloc _).fresh hF9)
          | (refine wpList_store_agg rfl rfl rfl rfl hbx rfl (msg_one _ _ _ _ _ _ _ _ _) (by kernel_rfl) ?_; intro w10 hb10 hF10 hs10))
        refine bodyPost_ret (results_agg agM rfl rfl hb10 rfl) rfl ?_
        exact RSR.same HK.out ((HF04.out.alloc Up.new _).newg hF9 hgw hF10) hres
    have a1 : (x == [114, 101, 100]) = false := beq_eq_false_iff_ne.2 hbRed
    have a2 : ¬ x = [114, 101, 100] := hbRed
    have b1 : (x == [103, 114, 101, 101, 110]) = false := beq_eq_false_iff_ne.2 hbGreen
    have b2 : ¬ x = [103, 114, 101, 101, 110] := hbGreen
    have d1 : (x == [98, 108, 117, 101]) = false := beq_eq_false_iff_ne.2 hbBlue
    have d2 : ¬ x = [98, 108, 117, 101] := hbBlue
    clear hbRed hbGreen hbBlue
    obtain ⟨CA, hCA⟩ : ∃ CA, CA = (#[.string ⟨me.toArray⟩, .string ⟨sc.toArray⟩, .string ⟨au.toArray⟩, .string ⟨pa.toArray⟩, .slice A1 fs.length c1, .slice A2 b.length c2, .slice A3 ts.length c3] : Array Value) := ⟨_, rfl⟩
    go_enter Tryz.func16, Tryz.ntmps16
    go_upto_region 1 with (fail)
    rw [← hCA]
    have hb1 := Blk.new w 32 CA
    have hF1 := HFR.out w 32 CA
    have hz1 := HS1.out w 32 CA
    generalize w.alloc (.cells CA 32) = w1 at *
    have hb2 := Blk.new w1 30 #[.slice none 0 0, .slice none 0 0, .slice none 0 0]
    have hF2 := HFR.out w1 30 #[.slice none 0 0, .slice none 0 0, .slice none 0 0]
    generalize w1.alloc (.cells #[.slice none 0 0, .slice none 0 0, .slice none 0 0] 30) = w2 at *
    have hbr := hb1.fresh hF2
    have hF02 := hF1.then_new Up.new hF2
    rw [hz1] at hb2
    rw [hCA] at hbr
    obtain ⟨gr, hgr⟩ : ∃ gr, gr = w.heap.size := ⟨_, rfl⟩
    rw [← hgr] at hbr hb2 hz1 ⊢
    obtain ⟨gm, hgm⟩ : ∃ gm, gm = gr + 1 := ⟨_, rfl⟩
    rw [← hgm] at hb2
    try rw [hz1]
    try rw [← hgm]
    have hgw : w.heap.size ≤ gm := by omega
    have hgrw : w.heap.size ≤ gr := by omega
    have hlm := hb2.lt
    have hlr := hbr.lt
    clear hb1 hF1 hF2 hgr hgm hz1 hCA
    have hy0 := hbr.cell 0
    have hy3 := hbr.cell 3
    simp only [List.getElem?_toArray, List.getElem?_cons_zero, List.getElem?_cons_succ] at hy0 hy3
    have HBR := Lib.hid hbr
    have HB2 := Lib.hid hb2
    have HF02 := Lib.hid hF02
    clear hbr hb2 hF02
    go_wp2_with (first
      | (go_at_call 31; refine (HBG.out _ _).mono ?_; rintro e w' ⟨rfl, hw⟩; rw [← hw]; clear hw w')
      | (go_at_call 30; refine (HPL.out 404 (by decide) _).mono ?_; rintro e w9 ⟨X1, X2, X3, n1, n2, n3, k1, k2, k3, rfl, hF9⟩; have hbx := HB2.out.fresh hF9)
      | (refine wpList_store_agg rfl rfl rfl rfl hbx rfl (msg_one _ _ _ _ _ _ _ _ _) (by kernel_rfl) ?_; intro w10 hb10 hF10 hs10))
    refine bodyPost_ret (results_agg agM rfl rfl hb10 rfl) rfl ?_
    exact RSR.same HK.out (HF02.out.newg hF9 hgw hF10) hres
  have hp1 : Lib.hasPrefix pa bStat = false := by cases h : Lib.hasPrefix pa bStat with | false => rfl | true => exact absurd h h1
  have hl1 : Lib.hasPrefix pa [47, 115, 116, 97, 116, 105, 99, 47] = false := hp1
  rw [if_neg h1] at hres
  clear h1 hp1
  by_cases hpe : pa = bEcho
  · have HBG := Lib.hid hbg
    clear hbg
    subst hpe
    have hk0 : Lib.hasPrefix bEcho bKv = false := by decide
    rw [hk0, if_neg Bool.false_ne_true] at hres
    clear hk0
    by_cases hm : me = bPOST ∨ me = bPUT
    · rcases hm with rfl | rfl
      · have hfi1 := fun w' f => HFI.out bCT w' f
        clear HFI
        generalize findF fs bCT = FF at *
        have HFI1 := Lib.hid hfi1
        clear hfi1
        cases FF with
        | nil =>
          obtain ⟨CA, hCA⟩ : ∃ CA, CA = (#[.string ⟨bPOST.toArray⟩, .string ⟨sc.toArray⟩, .string ⟨au.toArray⟩, .string ⟨bEcho.toArray⟩, .slice A1 fs.length c1, .slice A2 b.length c2, .slice A3 ts.length c3] : Array Value) := ⟨_, rfl⟩
          go_enter Tryz.func16, Tryz.ntmps16
          go_upto_region 1 with (fail)
          rw [← hCA]
          have hb1 := Blk.new w 32 CA
          have hF1 := HFR.out w 32 CA
          have hz1 := HS1.out w 32 CA
          generalize w.alloc (.cells CA 32) = w1 at *
          have hb2 := Blk.new w1 30 #[.slice none 0 0, .slice none 0 0, .slice none 0 0]
          have hF2 := HFR.out w1 30 #[.slice none 0 0, .slice none 0 0, .slice none 0 0]
          generalize w1.alloc (.cells #[.slice none 0 0, .slice none 0 0, .slice none 0 0] 30) = w2 at *
          have hbr := hb1.fresh hF2
          have hF02 := hF1.then_new Up.new hF2
          rw [hz1] at hb2
          rw [hCA] at hbr
          obtain ⟨gr, hgr⟩ : ∃ gr, gr = w.heap.size := ⟨_, rfl⟩
          rw [← hgr] at hbr hb2 hz1 ⊢
          obtain ⟨gm, hgm⟩ : ∃ gm, gm = gr + 1 := ⟨_, rfl⟩
          rw [← hgm] at hb2
          try rw [hz1]
          try rw [← hgm]
          have hgw : w.heap.size ≤ gm := by omega
          have hgrw : w.heap.size ≤ gr := by omega
          have hlm := hb2.lt
          have hlr := hbr.lt
          clear hb1 hF1 hF2 hgr hgm hz1 hCA
          have hy0 := hbr.cell 0
          have hy3 := hbr.cell 3
          have hy4 := hbr.cell 4
          have hy5 := hbr.cell 5
          have hy6 := hbr.cell 6
          simp only [List.getElem?_toArray, List.getElem?_cons_zero, List.getElem?_cons_succ] at hy0 hy3 hy4 hy5 hy6
          have HBR := Lib.hid hbr
          have HB2 := Lib.hid hb2
          have HF02 := Lib.hid hF02
          clear hbr hb2 hF02
          go_upto_region 16 with (first
            | (go_at_call 31; refine (HBG.out _ _).mono ?_; rintro e w' ⟨rfl, hw⟩; rw [← hw]; clear hw w')
            | (go_at_call 35; refine (HFI1.out _ HF02.out).mono ?_; rintro e w3 ⟨A4, c4, rfl, hR4, hF3⟩; have HR4 := Lib.hid hR4; have HF03 := Lib.hid (HF02.out.then_new Up.new hF3); have hbr3 := HBR.out.fresh hF3; have HB3 := Lib.hid (HB2.out.fresh hF3); have hlm3 := HB3.out.lt; clear hF3 hR4))
          clear hy0 hy3 hy4 hy5 hy6
          have hlr3 := hbr3.lt
          have hy5 := hbr3.cell 5
          have hy6 := hbr3.cell 6
          simp only [List.getElem?_toArray, List.getElem?_cons_zero, List.getElem?_cons_succ] at hy5 hy6
          have HBR3 := Lib.hid hbr3
          clear hbr3
          clear HR4
          have hRb := HRB.out w3 HF03.out
          have hRt := HRT.out w3 HF03.out
          have hbrX := HBR3.out
          have hbmX := HB3.out
          have hFX := HF03.out
          have hMX := (Rd.nil : Rd w3 none (fvs []))
          have hlmX := hbmX.lt
          generalize w3 = wx at *
          have hz5 := hbrX.cell 5
          have hz6 := hbrX.cell 6
          simp only [List.getElem?_toArray, List.getElem?_cons_zero, List.getElem?_cons_succ] at hz5 hz6
          have hSw : ∀ w', Frm (New wx) wx w' → w'.cell? ⟨gr, 5, none⟩ = some (.slice A2 b.length c2) ∧ w'.cell? ⟨gr, 6, none⟩ = some (.slice A3 ts.length c3) ∧ gr < w'.heap.size := fun w' h => ⟨(hbrX.fresh h).cell 5, (hbrX.fresh h).cell 6, (hbrX.fresh h).lt⟩
          have hS0 := hSw wx.drew ((Frm.refl (New wx) wx).drew)
          have HRB_ := Lib.hid hRb
          have HRT_ := Lib.hid hRt
          have HBRX := Lib.hid hbrX
          have HBMX := Lib.hid hbmX
          have HFX := Lib.hid hFX
          have HMX := Lib.hid hMX
          have HSW := Lib.hid hSw
          clear hRb hRt hbrX hbmX hFX hMX hSw
          refine wp_region_til (by kernel_rfl) (fun w' => w'.cell? ⟨gr, 5, none⟩ = some (.slice A2 b.length c2) ∧ w'.cell? ⟨gr, 6, none⟩ = some (.slice A3 ts.length c3) ∧ gr < w'.heap.size) 11 ?_
          refine wpAnyT_take (i := 0) (v := ?_) (d := some 63) rfl (by rfl) (by kernel_rfl) (fun _ _ _ h => h) (by rfl) hS0 (fun w hSw => ?_) ?_
          rotate_left
          · (try dsimp only at hSw); go_simp; first | done | (with_reducible rfl)
          simp only [Act.put, List.setIfInBounds_toArray, List.set_cons_zero, List.set_cons_succ]
          refine wpAnyT_take (i := 1) (v := ?_) (d := some 64) rfl (by rfl) (by kernel_rfl) (fun _ _ _ h => h) (by rfl) hS0 (fun w hSw => ?_) ?_
          rotate_left
          · (try dsimp only at hSw); go_simp; first | done | (with_reducible rfl)
          simp only [Act.put, List.setIfInBounds_toArray, List.set_cons_zero, List.set_cons_succ]
          refine wpAnyT_take (i := 2) (v := ?_) (d := some 65) rfl (by rfl) (by kernel_rfl) (fun _ _ _ h => h) (by rfl) hS0 (fun w hSw => ?_) ?_
          rotate_left
          · (try dsimp only at hSw); go_simp; first | done | (with_reducible rfl)
          simp only [Act.put, List.setIfInBounds_toArray, List.set_cons_zero, List.set_cons_succ]
          refine wpAnyT_take (i := 3) (v := ?_) (d := some 66) rfl (by rfl) (by kernel_rfl) (fun _ _ _ h => h) (by rfl) hS0 (fun w hSw => ?_) ?_
          rotate_left
          · (try dsimp only at hSw); go_simp; first | done | (with_reducible rfl)
          simp only [Act.put, List.setIfInBounds_toArray, List.set_cons_zero, List.set_cons_succ]
          refine wpAnyT_take (i := 4) (v := ?_) (d := some 67) rfl (by rfl) (by kernel_rfl) (fun _ _ _ h => h) (by rfl) hS0 (fun w hSw => ?_) ?_
          rotate_left
          · (try dsimp only at hSw); go_simp; first | done | (with_reducible rfl)
          simp only [Act.put, List.setIfInBounds_toArray, List.set_cons_zero, List.set_cons_succ]
          refine wpAnyT_take (i := 6) (v := ?_) (d := some 69) rfl (by rfl) (by kernel_rfl) (fun _ _ _ h => h) (by rfl) hS0 (fun w hSw => ?_) ?_
          rotate_left
          · (try dsimp only at hSw); go_simp; first | done | (with_reducible rfl)
          simp only [Act.put, List.setIfInBounds_toArray, List.set_cons_zero, List.set_cons_succ]
          refine wpAnyT_take (i := 7) (v := ?_) (d := some 70) rfl (by rfl) (by kernel_rfl) (fun _ _ _ h => h) (by rfl) hS0 (fun w hSw => ?_) ?_
          rotate_left
          · (try dsimp only at hSw); go_simp; first | done | (with_reducible rfl)
          simp only [Act.put, List.setIfInBounds_toArray, List.set_cons_zero, List.set_cons_succ]
          refine wpAnyT_take (i := 8) (v := ?_) (d := some 71) rfl (by rfl) (by kernel_rfl) (fun _ _ _ h => h) (by rfl) hS0 (fun w hSw => ?_) ?_
          rotate_left
          · (try dsimp only at hSw); go_simp; first | done | (with_reducible rfl)
          simp only [Act.put, List.setIfInBounds_toArray, List.set_cons_zero, List.set_cons_succ]
          refine wpAnyT_one (i := 5) rfl (by kernel_rfl) (fun K hK => ?_)
          (refine step_append2 (M := New wx.drew) (A := none) (n := 0) (c := 0) (xs := []) (news := bvs b) u8s rfl rfl rfl App.none_ Up.new rfl HRB_.out.drew (by simp [bvs]) (bvs_one _) (by omega) ?_; intro A5 c5 w5 hA5 hF5 _ _)
          refine hK.out _ _ (.inr ((HSW.out _ (((Frm.refl (New wx) wx).drew).trans hF5)))) ?_
          clear hK K
          have hF45 : Frm (New wx) wx w5 := ((Frm.refl (New wx) wx).drew).trans hF5
          have hS5 := HSW.out _ hF45
          rw [Nat.zero_add]
          clear hA5 hF5
          refine wpAnyT_one (i := 9) rfl (by kernel_rfl) (fun K hK => ?_)
          (refine step_append2 (M := New w5) (A := none) (n := 0) (c := 0) (xs := []) (news := fvs ts) flds rfl rfl rfl App.none_ Up.new rfl (HRT_.out.fresh hF45) (by rw [fvs_length]; omega) (fvs_one _) (by omega) ?_; intro A6 c6 w6 hA6 hF6 _ _)
          refine hK.out _ _ (.inr ((HSW.out _ (hF45.then_new Up.new hF6)))) ?_
          clear hK K
          have hF46 := hF45.then_new Up.new hF6
          rw [Nat.zero_add]
          clear hA6 hF6 hS5
          refine wpAnyT_one (i := 10) rfl (by kernel_rfl) (fun K hKK => ?_)
          refine Eq.mpr (if_pos (by rfl)) ?_
          go_wp2_with (fail)
          refine (HAN.out 200 b.length (by decide) hl2 A5 b.length c5 none 0 [] A6 ts.length c6 w6 (HMX.out.fresh hF46) (by simp)).mono ?_
          rintro e w9 ⟨X1, X2, X3, n1, n2, n3, k1, k2, k3, rfl, hF9⟩
          have hF49 := hF46.then_new Up.new hF9
          refine hKK.out _ _ (.inr (HSW.out _ hF49)) ?_
          clear hKK K hS0
          try simp only [Act.put, List.setIfInBounds_toArray, List.set_cons_zero, List.set_cons_succ]
          have hbx := HBMX.out.fresh hF49
          refine wpAnyT_one (i := 11) rfl (by kernel_rfl) (fun K hKK => ?_)
          refine step_store_agg rfl rfl rfl rfl hbx rfl (msg_one _ _ _ _ _ _ _ _ _) (by kernel_rfl) ?_
          intro w10 hb10 hF10 hs10
          refine hKK.out _ _ (.inl (by kernel_rfl)) ?_
          clear hKK K
          refine wpAnyT_done (by kernel_rfl) ?_ _
          clear hz5 hz6
          go_wp2_with (fail)
          refine bodyPost_ret (results_agg agM rfl rfl hb10 rfl) rfl ?_
          exact RSR.same HK.out (HFX.out.newg hF49 hgw hF10) hres
        | cons v vr =>
          obtain ⟨CA, hCA⟩ : ∃ CA, CA = (#[.string ⟨bPOST.toArray⟩, .string ⟨sc.toArray⟩, .string ⟨au.toArray⟩, .string ⟨bEcho.toArray⟩, .slice A1 fs.length c1, .slice A2 b.length c2, .slice A3 ts.length c3] : Array Value) := ⟨_, rfl⟩
          go_enter Tryz.func16, Tryz.ntmps16
          go_upto_region 1 with (fail)
          rw [← hCA]
          have hb1 := Blk.new w 32 CA
          have hF1 := HFR.out w 32 CA
          have hz1 := HS1.out w 32 CA
          generalize w.alloc (.cells CA 32) = w1 at *
          have hb2 := Blk.new w1 30 #[.slice none 0 0, .slice none 0 0, .slice none 0 0]
          have hF2 := HFR.out w1 30 #[.slice none 0 0, .slice none 0 0, .slice none 0 0]
          generalize w1.alloc (.cells #[.slice none 0 0, .slice none 0 0, .slice none 0 0] 30) = w2 at *
          have hbr := hb1.fresh hF2
          have hF02 := hF1.then_new Up.new hF2
          rw [hz1] at hb2
          rw [hCA] at hbr
          obtain ⟨gr, hgr⟩ : ∃ gr, gr = w.heap.size := ⟨_, rfl⟩
          rw [← hgr] at hbr hb2 hz1 ⊢
          obtain ⟨gm, hgm⟩ : ∃ gm, gm = gr + 1 := ⟨_, rfl⟩
          rw [← hgm] at hb2
          try rw [hz1]
          try rw [← hgm]
          have hgw : w.heap.size ≤ gm := by omega
          have hgrw : w.heap.size ≤ gr := by omega
          have hlm := hb2.lt
          have hlr := hbr.lt
          clear hb1 hF1 hF2 hgr hgm hz1 hCA
          have hy0 := hbr.cell 0
          have hy3 := hbr.cell 3
          have hy4 := hbr.cell 4
          have hy5 := hbr.cell 5
          have hy6 := hbr.cell 6
          simp only [List.getElem?_toArray, List.getElem?_cons_zero, List.getElem?_cons_succ] at hy0 hy3 hy4 hy5 hy6
          have HBR := Lib.hid hbr
          have HB2 := Lib.hid hb2
          have HF02 := Lib.hid hF02
          clear hbr hb2 hF02
          go_upto_region 14 with (first
            | (go_at_call 31; refine (HBG.out _ _).mono ?_; rintro e w' ⟨rfl, hw⟩; rw [← hw]; clear hw w')
            | (go_at_call 35; refine (HFI1.out _ HF02.out).mono ?_; rintro e w3 ⟨A4, c4, rfl, hR4, hF3⟩; have HR4 := Lib.hid hR4; have HF03 := Lib.hid (HF02.out.then_new Up.new hF3); have hbr3 := HBR.out.fresh hF3; have HB3 := Lib.hid (HB2.out.fresh hF3); have hlm3 := HB3.out.lt; clear hF3 hR4))
          clear hy0 hy3 hy4 hy5 hy6
          obtain ⟨g4, o4, rfl, hx4⟩ := HR4.out.at_ (k := 0) (by simp [svs])
          simp only [svs, List.map_cons, List.getElem_cons_zero, str, Nat.add_zero] at hx4
          have hg4 := World.block_lt_of_cell? _ _ hx4
          simp only at hg4
          have HBR3 := Lib.hid hbr3
          clear hbr3
          go_upto_region 16 with (fail)
          clear hx4 hg4 HR4
          have hRb := HRB.out (w3.alloc (.cells #[.string ⟨#[99, 111, 110, 116, 101, 110, 116, 45, 116, 121, 112, 101]⟩, .string ⟨v.toArray⟩] 38)) (HF03.out.alloc Up.new (.cells #[.string ⟨#[99, 111, 110, 116, 101, 110, 116, 45, 116, 121, 112, 101]⟩, .string ⟨v.toArray⟩] 38))
          have hRt := HRT.out (w3.alloc (.cells #[.string ⟨#[99, 111, 110, 116, 101, 110, 116, 45, 116, 121, 112, 101]⟩, .string ⟨v.toArray⟩] 38)) (HF03.out.alloc Up.new (.cells #[.string ⟨#[99, 111, 110, 116, 101, 110, 116, 45, 116, 121, 112, 101]⟩, .string ⟨v.toArray⟩] 38))
          have hbrX := HBR3.out.alloc (.cells #[.string ⟨#[99, 111, 110, 116, 101, 110, 116, 45, 116, 121, 112, 101]⟩, .string ⟨v.toArray⟩] 38)
          have hbmX := HB3.out.alloc (.cells #[.string ⟨#[99, 111, 110, 116, 101, 110, 116, 45, 116, 121, 112, 101]⟩, .string ⟨v.toArray⟩] 38)
          have hFX := (HF03.out.alloc Up.new (.cells #[.string ⟨#[99, 111, 110, 116, 101, 110, 116, 45, 116, 121, 112, 101]⟩, .string ⟨v.toArray⟩] 38))
          have hMX := (Rd.new w3 #[.string ⟨#[99, 111, 110, 116, 101, 110, 116, 45, 116, 121, 112, 101]⟩, .string ⟨v.toArray⟩] 38 : Rd _ (some ⟨w3.heap.size, 0, none⟩) (fvs [(bCT, v)]))
          have hlmX := hbmX.lt
          generalize (w3.alloc (.cells #[.string ⟨#[99, 111, 110, 116, 101, 110, 116, 45, 116, 121, 112, 101]⟩, .string ⟨v.toArray⟩] 38)) = wx at *
          have hz5 := hbrX.cell 5
          have hz6 := hbrX.cell 6
          simp only [List.getElem?_toArray, List.getElem?_cons_zero, List.getElem?_cons_succ] at hz5 hz6
          have hSw : ∀ w', Frm (New wx) wx w' → w'.cell? ⟨gr, 5, none⟩ = some (.slice A2 b.length c2) ∧ w'.cell? ⟨gr, 6, none⟩ = some (.slice A3 ts.length c3) ∧ gr < w'.heap.size := fun w' h => ⟨(hbrX.fresh h).cell 5, (hbrX.fresh h).cell 6, (hbrX.fresh h).lt⟩
          have hS0 := hSw wx.drew ((Frm.refl (New wx) wx).drew)
          have HRB_ := Lib.hid hRb
          have HRT_ := Lib.hid hRt
          have HBRX := Lib.hid hbrX
          have HBMX := Lib.hid hbmX
          have HFX := Lib.hid hFX
          have HMX := Lib.hid hMX
          have HSW := Lib.hid hSw
          clear hRb hRt hbrX hbmX hFX hMX hSw
          refine wp_region_til (by kernel_rfl) (fun w' => w'.cell? ⟨gr, 5, none⟩ = some (.slice A2 b.length c2) ∧ w'.cell? ⟨gr, 6, none⟩ = some (.slice A3 ts.length c3) ∧ gr < w'.heap.size) 11 ?_
          refine wpAnyT_take (i := 0) (v := ?_) (d := some 63) rfl (by rfl) (by kernel_rfl) (fun _ _ _ h => h) (by rfl) hS0 (fun w hSw => ?_) ?_
          rotate_left
          · (try dsimp only at hSw); go_simp; first | done | (with_reducible rfl)
          simp only [Act.put, List.setIfInBounds_toArray, List.set_cons_zero, List.set_cons_succ]
          refine wpAnyT_take (i := 1) (v := ?_) (d := some 64) rfl (by rfl) (by kernel_rfl) (fun _ _ _ h => h) (by rfl) hS0 (fun w hSw => ?_) ?_
          rotate_left
          · (try dsimp only at hSw); go_simp; first | done | (with_reducible rfl)
          simp only [Act.put, List.setIfInBounds_toArray, List.set_cons_zero, List.set_cons_succ]
          refine wpAnyT_take (i := 2) (v := ?_) (d := some 65) rfl (by rfl) (by kernel_rfl) (fun _ _ _ h => h) (by rfl) hS0 (fun w hSw => ?_) ?_
          rotate_left
          · (try dsimp only at hSw); go_simp; first | done | (with_reducible rfl)
          simp only [Act.put, List.setIfInBounds_toArray, List.set_cons_zero, List.set_cons_succ]
          refine wpAnyT_take (i := 3) (v := ?_) (d := some 66) rfl (by rfl) (by kernel_rfl) (fun _ _ _ h => h) (by rfl) hS0 (fun w hSw => ?_) ?_
          rotate_left
          · (try dsimp only at hSw); go_simp; first | done | (with_reducible rfl)
          simp only [Act.put, List.setIfInBounds_toArray, List.set_cons_zero, List.set_cons_succ]
          refine wpAnyT_take (i := 4) (v := ?_) (d := some 67) rfl (by rfl) (by kernel_rfl) (fun _ _ _ h => h) (by rfl) hS0 (fun w hSw => ?_) ?_
          rotate_left
          · (try dsimp only at hSw); go_simp; first | done | (with_reducible rfl)
          simp only [Act.put, List.setIfInBounds_toArray, List.set_cons_zero, List.set_cons_succ]
          refine wpAnyT_take (i := 6) (v := ?_) (d := some 69) rfl (by rfl) (by kernel_rfl) (fun _ _ _ h => h) (by rfl) hS0 (fun w hSw => ?_) ?_
          rotate_left
          · (try dsimp only at hSw); go_simp; first | done | (with_reducible rfl)
          simp only [Act.put, List.setIfInBounds_toArray, List.set_cons_zero, List.set_cons_succ]
          refine wpAnyT_take (i := 7) (v := ?_) (d := some 70) rfl (by rfl) (by kernel_rfl) (fun _ _ _ h => h) (by rfl) hS0 (fun w hSw => ?_) ?_
          rotate_left
          · (try dsimp only at hSw); go_simp; first | done | (with_reducible rfl)
          simp only [Act.put, List.setIfInBounds_toArray, List.set_cons_zero, List.set_cons_succ]
          refine wpAnyT_take (i := 8) (v := ?_) (d := some 71) rfl (by rfl) (by kernel_rfl) (fun _ _ _ h => h) (by rfl) hS0 (fun w hSw => ?_) ?_
          rotate_left
          · (try dsimp only at hSw); go_simp; first | done | (with_reducible rfl)
          simp only [Act.put, List.setIfInBounds_toArray, List.set_cons_zero, List.set_cons_succ]
          refine wpAnyT_one (i := 5) rfl (by kernel_rfl) (fun K hK => ?_)
          (refine step_append2 (M := New wx.drew) (A := none) (n := 0) (c := 0) (xs := []) (news := bvs b) u8s rfl rfl rfl App.none_ Up.new rfl HRB_.out.drew (by simp [bvs]) (bvs_one _) (by omega) ?_; intro A5 c5 w5 hA5 hF5 _ _)
          refine hK.out _ _ (.inr ((HSW.out _ (((Frm.refl (New wx) wx).drew).trans hF5)))) ?_
          clear hK K
          have hF45 : Frm (New wx) wx w5 := ((Frm.refl (New wx) wx).drew).trans hF5
          have hS5 := HSW.out _ hF45
          rw [Nat.zero_add]
          clear hA5 hF5
          refine wpAnyT_one (i := 9) rfl (by kernel_rfl) (fun K hK => ?_)
          (refine step_append2 (M := New w5) (A := none) (n := 0) (c := 0) (xs := []) (news := fvs ts) flds rfl rfl rfl App.none_ Up.new rfl (HRT_.out.fresh hF45) (by rw [fvs_length]; omega) (fvs_one _) (by omega) ?_; intro A6 c6 w6 hA6 hF6 _ _)
          refine hK.out _ _ (.inr ((HSW.out _ (hF45.then_new Up.new hF6)))) ?_
          clear hK K
          have hF46 := hF45.then_new Up.new hF6
          rw [Nat.zero_add]
          clear hA6 hF6 hS5
          refine wpAnyT_one (i := 10) rfl (by kernel_rfl) (fun K hKK => ?_)
          refine Eq.mpr (if_pos (by rfl)) ?_
          go_wp2_with (fail)
          refine (HAN.out 200 b.length (by decide) hl2 A5 b.length c5 (some ⟨w3.heap.size, 0, none⟩) 1 [(bCT, v)] A6 ts.length c6 w6 (HMX.out.fresh hF46) (by simp)).mono ?_
          rintro e w9 ⟨X1, X2, X3, n1, n2, n3, k1, k2, k3, rfl, hF9⟩
          have hF49 := hF46.then_new Up.new hF9
          refine hKK.out _ _ (.inr (HSW.out _ hF49)) ?_
          clear hKK K hS0
          try simp only [Act.put, List.setIfInBounds_toArray, List.set_cons_zero, List.set_cons_succ]
          have hbx := HBMX.out.fresh hF49
          refine wpAnyT_one (i := 11) rfl (by kernel_rfl) (fun K hKK => ?_)
          refine step_store_agg rfl rfl rfl rfl hbx rfl (msg_one _ _ _ _ _ _ _ _ _) (by kernel_rfl) ?_
          intro w10 hb10 hF10 hs10
          refine hKK.out _ _ (.inl (by kernel_rfl)) ?_
          clear hKK K
          refine wpAnyT_done (by kernel_rfl) ?_ _
          clear hz5 hz6
          go_wp2_with (fail)
          refine bodyPost_ret (results_agg agM rfl rfl hb10 rfl) rfl ?_
          exact RSR.same HK.out (HFX.out.newg hF49 hgw hF10) hres
      · have hfi1 := fun w' f => HFI.out bCT w' f
        clear HFI
        generalize findF fs bCT = FF at *
        have HFI1 := Lib.hid hfi1
        clear hfi1
        cases FF with
        | nil =>
          obtain ⟨CA, hCA⟩ : ∃ CA, CA = (#[.string ⟨bPUT.toArray⟩, .string ⟨sc.toArray⟩, .string ⟨au.toArray⟩, .string ⟨bEcho.toArray⟩, .slice A1 fs.length c1, .slice A2 b.length c2, .slice A3 ts.length c3] : Array Value) := ⟨_, rfl⟩
          go_enter Tryz.func16, Tryz.ntmps16
          go_upto_region 1 with (fail)
          rw [← hCA]
          have hb1 := Blk.new w 32 CA
          have hF1 := HFR.out w 32 CA
          have hz1 := HS1.out w 32 CA
          generalize w.alloc (.cells CA 32) = w1 at *
          have hb2 := Blk.new w1 30 #[.slice none 0 0, .slice none 0 0, .slice none 0 0]
          have hF2 := HFR.out w1 30 #[.slice none 0 0, .slice none 0 0, .slice none 0 0]
          generalize w1.alloc (.cells #[.slice none 0 0, .slice none 0 0, .slice none 0 0] 30) = w2 at *
          have hbr := hb1.fresh hF2
          have hF02 := hF1.then_new Up.new hF2
          rw [hz1] at hb2
          rw [hCA] at hbr
          obtain ⟨gr, hgr⟩ : ∃ gr, gr = w.heap.size := ⟨_, rfl⟩
          rw [← hgr] at hbr hb2 hz1 ⊢
          obtain ⟨gm, hgm⟩ : ∃ gm, gm = gr + 1 := ⟨_, rfl⟩
          rw [← hgm] at hb2
          try rw [hz1]
          try rw [← hgm]
          have hgw : w.heap.size ≤ gm := by omega
          have hgrw : w.heap.size ≤ gr := by omega
          have hlm := hb2.lt
          have hlr := hbr.lt
          clear hb1 hF1 hF2 hgr hgm hz1 hCA
          have hy0 := hbr.cell 0
          have hy3 := hbr.cell 3
          have hy4 := hbr.cell 4
          have hy5 := hbr.cell 5
          have hy6 := hbr.cell 6
          simp only [List.getElem?_toArray, List.getElem?_cons_zero, List.getElem?_cons_succ] at hy0 hy3 hy4 hy5 hy6
          have HBR := Lib.hid hbr
          have HB2 := Lib.hid hb2
          have HF02 := Lib.hid hF02
          clear hbr hb2 hF02
          go_upto_region 16 with (first
            | (go_at_call 31; refine (HBG.out _ _).mono ?_; rintro e w' ⟨rfl, hw⟩; rw [← hw]; clear hw w')
            | (go_at_call 35; refine (HFI1.out _ HF02.out).mono ?_; rintro e w3 ⟨A4, c4, rfl, hR4, hF3⟩; have HR4 := Lib.hid hR4; have HF03 := Lib.hid (HF02.out.then_new Up.new hF3); have hbr3 := HBR.out.fresh hF3; have HB3 := Lib.hid (HB2.out.fresh hF3); have hlm3 := HB3.out.lt; clear hF3 hR4))
          clear hy0 hy3 hy4 hy5 hy6
          have hlr3 := hbr3.lt
          have hy5 := hbr3.cell 5
          have hy6 := hbr3.cell 6
          simp only [List.getElem?_toArray, List.getElem?_cons_zero, List.getElem?_cons_succ] at hy5 hy6
          have HBR3 := Lib.hid hbr3
          clear hbr3
          clear HR4
          have hRb := HRB.out w3 HF03.out
          have hRt := HRT.out w3 HF03.out
          have hbrX := HBR3.out
          have hbmX := HB3.out
          have hFX := HF03.out
          have hMX := (Rd.nil : Rd w3 none (fvs []))
          have hlmX := hbmX.lt
          generalize w3 = wx at *
          have hz5 := hbrX.cell 5
          have hz6 := hbrX.cell 6
          simp only [List.getElem?_toArray, List.getElem?_cons_zero, List.getElem?_cons_succ] at hz5 hz6
          have hSw : ∀ w', Frm (New wx) wx w' → w'.cell? ⟨gr, 5, none⟩ = some (.slice A2 b.length c2) ∧ w'.cell? ⟨gr, 6, none⟩ = some (.slice A3 ts.length c3) ∧ gr < w'.heap.size := fun w' h => ⟨(hbrX.fresh h).cell 5, (hbrX.fresh h).cell 6, (hbrX.fresh h).lt⟩
          have hS0 := hSw wx.drew ((Frm.refl (New wx) wx).drew)
          have HRB_ := Lib.hid hRb
          have HRT_ := Lib.hid hRt
          have HBRX := Lib.hid hbrX
          have HBMX := Lib.hid hbmX
          have HFX := Lib.hid hFX
          have HMX := Lib.hid hMX
          have HSW := Lib.hid hSw
          clear hRb hRt hbrX hbmX hFX hMX hSw
          refine wp_region_til (by kernel_rfl) (fun w' => w'.cell? ⟨gr, 5, none⟩ = some (.slice A2 b.length c2) ∧ w'.cell? ⟨gr, 6, none⟩ = some (.slice A3 ts.length c3) ∧ gr < w'.heap.size) 11 ?_
          refine wpAnyT_take (i := 0) (v := ?_) (d := some 63) rfl (by rfl) (by kernel_rfl) (fun _ _ _ h => h) (by rfl) hS0 (fun w hSw => ?_) ?_
          rotate_left
          · (try dsimp only at hSw); go_simp; first | done | (with_reducible rfl)
          simp only [Act.put, List.setIfInBounds_toArray, List.set_cons_zero, List.set_cons_succ]
          refine wpAnyT_take (i := 1) (v := ?_) (d := some 64) rfl (by rfl) (by kernel_rfl) (fun _ _ _ h => h) (by rfl) hS0 (fun w hSw => ?_) ?_
          rotate_left
          · (try dsimp only at hSw); go_simp; first | done | (with_reducible rfl)
          simp only [Act.put, List.setIfInBounds_toArray, List.set_cons_zero, List.set_cons_succ]
          refine wpAnyT_take (i := 2) (v := ?_) (d := some 65) rfl (by rfl) (by kernel_rfl) (fun _ _ _ h => h) (by rfl) hS0 (fun w hSw => ?_) ?_
          rotate_left
          · (try dsimp only at hSw); go_simp; first | done | (with_reducible rfl)
          simp only [Act.put, List.setIfInBounds_toArray, List.set_cons_zero, List.set_cons_succ]
          refine wpAnyT_take (i := 3) (v := ?_) (d := some 66) rfl (by rfl) (by kernel_rfl) (fun _ _ _ h => h) (by rfl) hS0 (fun w hSw => ?_) ?_
          rotate_left
          · (try dsimp only at hSw); go_simp; first | done | (with_reducible rfl)
          simp only [Act.put, List.setIfInBounds_toArray, List.set_cons_zero, List.set_cons_succ]
          refine wpAnyT_take (i := 4) (v := ?_) (d := some 67) rfl (by rfl) (by kernel_rfl) (fun _ _ _ h => h) (by rfl) hS0 (fun w hSw => ?_) ?_
          rotate_left
          · (try dsimp only at hSw); go_simp; first | done | (with_reducible rfl)
          simp only [Act.put, List.setIfInBounds_toArray, List.set_cons_zero, List.set_cons_succ]
          refine wpAnyT_take (i := 6) (v := ?_) (d := some 69) rfl (by rfl) (by kernel_rfl) (fun _ _ _ h => h) (by rfl) hS0 (fun w hSw => ?_) ?_
          rotate_left
          · (try dsimp only at hSw); go_simp; first | done | (with_reducible rfl)
          simp only [Act.put, List.setIfInBounds_toArray, List.set_cons_zero, List.set_cons_succ]
          refine wpAnyT_take (i := 7) (v := ?_) (d := some 70) rfl (by rfl) (by kernel_rfl) (fun _ _ _ h => h) (by rfl) hS0 (fun w hSw => ?_) ?_
          rotate_left
          · (try dsimp only at hSw); go_simp; first | done | (with_reducible rfl)
          simp only [Act.put, List.setIfInBounds_toArray, List.set_cons_zero, List.set_cons_succ]
          refine wpAnyT_take (i := 8) (v := ?_) (d := some 71) rfl (by rfl) (by kernel_rfl) (fun _ _ _ h => h) (by rfl) hS0 (fun w hSw => ?_) ?_
          rotate_left
          · (try dsimp only at hSw); go_simp; first | done | (with_reducible rfl)
          simp only [Act.put, List.setIfInBounds_toArray, List.set_cons_zero, List.set_cons_succ]
          refine wpAnyT_one (i := 5) rfl (by kernel_rfl) (fun K hK => ?_)
          (refine step_append2 (M := New wx.drew) (A := none) (n := 0) (c := 0) (xs := []) (news := bvs b) u8s rfl rfl rfl App.none_ Up.new rfl HRB_.out.drew (by simp [bvs]) (bvs_one _) (by omega) ?_; intro A5 c5 w5 hA5 hF5 _ _)
          refine hK.out _ _ (.inr ((HSW.out _ (((Frm.refl (New wx) wx).drew).trans hF5)))) ?_
          clear hK K
          have hF45 : Frm (New wx) wx w5 := ((Frm.refl (New wx) wx).drew).trans hF5
          have hS5 := HSW.out _ hF45
          rw [Nat.zero_add]
          clear hA5 hF5
          refine wpAnyT_one (i := 9) rfl (by kernel_rfl) (fun K hK => ?_)
          (refine step_append2 (M := New w5) (A := none) (n := 0) (c := 0) (xs := []) (news := fvs ts) flds rfl rfl rfl App.none_ Up.new rfl (HRT_.out.fresh hF45) (by rw [fvs_length]; omega) (fvs_one _) (by omega) ?_; intro A6 c6 w6 hA6 hF6 _ _)
          refine hK.out _ _ (.inr ((HSW.out _ (hF45.then_new Up.new hF6)))) ?_
          clear hK K
          have hF46 := hF45.then_new Up.new hF6
          rw [Nat.zero_add]
          clear hA6 hF6 hS5
          refine wpAnyT_one (i := 10) rfl (by kernel_rfl) (fun K hKK => ?_)
          refine Eq.mpr (if_pos (by rfl)) ?_
          go_wp2_with (fail)
          refine (HAN.out 200 b.length (by decide) hl2 A5 b.length c5 none 0 [] A6 ts.length c6 w6 (HMX.out.fresh hF46) (by simp)).mono ?_
          rintro e w9 ⟨X1, X2, X3, n1, n2, n3, k1, k2, k3, rfl, hF9⟩
          have hF49 := hF46.then_new Up.new hF9
          refine hKK.out _ _ (.inr (HSW.out _ hF49)) ?_
          clear hKK K hS0
          try simp only [Act.put, List.setIfInBounds_toArray, List.set_cons_zero, List.set_cons_succ]
          have hbx := HBMX.out.fresh hF49
          refine wpAnyT_one (i := 11) rfl (by kernel_rfl) (fun K hKK => ?_)
          refine step_store_agg rfl rfl rfl rfl hbx rfl (msg_one _ _ _ _ _ _ _ _ _) (by kernel_rfl) ?_
          intro w10 hb10 hF10 hs10
          refine hKK.out _ _ (.inl (by kernel_rfl)) ?_
          clear hKK K
          refine wpAnyT_done (by kernel_rfl) ?_ _
          clear hz5 hz6
          go_wp2_with (fail)
          refine bodyPost_ret (results_agg agM rfl rfl hb10 rfl) rfl ?_
          exact RSR.same HK.out (HFX.out.newg hF49 hgw hF10) hres
        | cons v vr =>
          obtain ⟨CA, hCA⟩ : ∃ CA, CA = (#[.string ⟨bPUT.toArray⟩, .string ⟨sc.toArray⟩, .string ⟨au.toArray⟩, .string ⟨bEcho.toArray⟩, .slice A1 fs.length c1, .slice A2 b.length c2, .slice A3 ts.length c3] : Array Value) := ⟨_, rfl⟩
          go_enter Tryz.func16, Tryz.ntmps16
          go_upto_region 1 with (fail)
          rw [← hCA]
          have hb1 := Blk.new w 32 CA
          have hF1 := HFR.out w 32 CA
          have hz1 := HS1.out w 32 CA
          generalize w.alloc (.cells CA 32) = w1 at *
          have hb2 := Blk.new w1 30 #[.slice none 0 0, .slice none 0 0, .slice none 0 0]
          have hF2 := HFR.out w1 30 #[.slice none 0 0, .slice none 0 0, .slice none 0 0]
          generalize w1.alloc (.cells #[.slice none 0 0, .slice none 0 0, .slice none 0 0] 30) = w2 at *
          have hbr := hb1.fresh hF2
          have hF02 := hF1.then_new Up.new hF2
          rw [hz1] at hb2
          rw [hCA] at hbr
          obtain ⟨gr, hgr⟩ : ∃ gr, gr = w.heap.size := ⟨_, rfl⟩
          rw [← hgr] at hbr hb2 hz1 ⊢
          obtain ⟨gm, hgm⟩ : ∃ gm, gm = gr + 1 := ⟨_, rfl⟩
          rw [← hgm] at hb2
          try rw [hz1]
          try rw [← hgm]
          have hgw : w.heap.size ≤ gm := by omega
          have hgrw : w.heap.size ≤ gr := by omega
          have hlm := hb2.lt
          have hlr := hbr.lt
          clear hb1 hF1 hF2 hgr hgm hz1 hCA
          have hy0 := hbr.cell 0
          have hy3 := hbr.cell 3
          have hy4 := hbr.cell 4
          have hy5 := hbr.cell 5
          have hy6 := hbr.cell 6
          simp only [List.getElem?_toArray, List.getElem?_cons_zero, List.getElem?_cons_succ] at hy0 hy3 hy4 hy5 hy6
          have HBR := Lib.hid hbr
          have HB2 := Lib.hid hb2
          have HF02 := Lib.hid hF02
          clear hbr hb2 hF02
          go_upto_region 14 with (first
            | (go_at_call 31; refine (HBG.out _ _).mono ?_; rintro e w' ⟨rfl, hw⟩; rw [← hw]; clear hw w')
            | (go_at_call 35; refine (HFI1.out _ HF02.out).mono ?_; rintro e w3 ⟨A4, c4, rfl, hR4, hF3⟩; have HR4 := Lib.hid hR4; have HF03 := Lib.hid (HF02.out.then_new Up.new hF3); have hbr3 := HBR.out.fresh hF3; have HB3 := Lib.hid (HB2.out.fresh hF3); have hlm3 := HB3.out.lt; clear hF3 hR4))
          clear hy0 hy3 hy4 hy5 hy6
          obtain ⟨g4, o4, rfl, hx4⟩ := HR4.out.at_ (k := 0) (by simp [svs])
          simp only [svs, List.map_cons, List.getElem_cons_zero, str, Nat.add_zero] at hx4
          have hg4 := World.block_lt_of_cell? _ _ hx4
          simp only at hg4
          have HBR3 := Lib.hid hbr3
          clear hbr3
          go_upto_region 16 with (fail)
          clear hx4 hg4 HR4
          have hRb := HRB.out (w3.alloc (.cells #[.string ⟨#[99, 111, 110, 116, 101, 110, 116, 45, 116, 121, 112, 101]⟩, .string ⟨v.toArray⟩] 38)) (HF03.out.alloc Up.new (.cells #[.string ⟨#[99, 111, 110, 116, 101, 110, 116, 45, 116, 121, 112, 101]⟩, .string ⟨v.toArray⟩] 38))
          have hRt := HRT.out (w3.alloc (.cells #[.string ⟨#[99, 111, 110, 116, 101, 110, 116, 45, 116, 121, 112, 101]⟩, .string ⟨v.toArray⟩] 38)) (HF03.out.alloc Up.new (.cells #[.string ⟨#[99, 111, 110, 116, 101, 110, 116, 45, 116, 121, 112, 101]⟩, .string ⟨v.toArray⟩] 38))
          have hbrX := HBR3.out.alloc (.cells #[.string ⟨#[99, 111, 110, 116, 101, 110, 116, 45, 116, 121, 112, 101]⟩, .string ⟨v.toArray⟩] 38)
          have hbmX := HB3.out.alloc (.cells #[.string ⟨#[99, 111, 110, 116, 101, 110, 116, 45, 116, 121, 112, 101]⟩, .string ⟨v.toArray⟩] 38)
          have hFX := (HF03.out.alloc Up.new (.cells #[.string ⟨#[99, 111, 110, 116, 101, 110, 116, 45, 116, 121, 112, 101]⟩, .string ⟨v.toArray⟩] 38))
          have hMX := (Rd.new w3 #[.string ⟨#[99, 111, 110, 116, 101, 110, 116, 45, 116, 121, 112, 101]⟩, .string ⟨v.toArray⟩] 38 : Rd _ (some ⟨w3.heap.size, 0, none⟩) (fvs [(bCT, v)]))
          have hlmX := hbmX.lt
          generalize (w3.alloc (.cells #[.string ⟨#[99, 111, 110, 116, 101, 110, 116, 45, 116, 121, 112, 101]⟩, .string ⟨v.toArray⟩] 38)) = wx at *
          have hz5 := hbrX.cell 5
          have hz6 := hbrX.cell 6
          simp only [List.getElem?_toArray, List.getElem?_cons_zero, List.getElem?_cons_succ] at hz5 hz6
          have hSw : ∀ w', Frm (New wx) wx w' → w'.cell? ⟨gr, 5, none⟩ = some (.slice A2 b.length c2) ∧ w'.cell? ⟨gr, 6, none⟩ = some (.slice A3 ts.length c3) ∧ gr < w'.heap.size := fun w' h => ⟨(hbrX.fresh h).cell 5, (hbrX.fresh h).cell 6, (hbrX.fresh h).lt⟩
          have hS0 := hSw wx.drew ((Frm.refl (New wx) wx).drew)
          have HRB_ := Lib.hid hRb
          have HRT_ := Lib.hid hRt
          have HBRX := Lib.hid hbrX
          have HBMX := Lib.hid hbmX
          have HFX := Lib.hid hFX
          have HMX := Lib.hid hMX
          have HSW := Lib.hid hSw
          clear hRb hRt hbrX hbmX hFX hMX hSw
          refine wp_region_til (by kernel_rfl) (fun w' => w'.cell? ⟨gr, 5, none⟩ = some (.slice A2 b.length c2) ∧ w'.cell? ⟨gr, 6, none⟩ = some (.slice A3 ts.length c3) ∧ gr < w'.heap.size) 11 ?_
          refine wpAnyT_take (i := 0) (v := ?_) (d := some 63) rfl (by rfl) (by kernel_rfl) (fun _ _ _ h => h) (by rfl) hS0 (fun w hSw => ?_) ?_
          rotate_left
          · (try dsimp only at hSw); go_simp; first | done | (with_reducible rfl)
          simp only [Act.put, List.setIfInBounds_toArray, List.set_cons_zero, List.set_cons_succ]
          refine wpAnyT_take (i := 1) (v := ?_) (d := some 64) rfl (by rfl) (by kernel_rfl) (fun _ _ _ h => h) (by rfl) hS0 (fun w hSw => ?_) ?_
          rotate_left
          · (try dsimp only at hSw); go_simp; first | done | (with_reducible rfl)
          simp only [Act.put, List.setIfInBounds_toArray, List.set_cons_zero, List.set_cons_succ]
          refine wpAnyT_take (i := 2) (v := ?_) (d := some 65) rfl (by rfl) (by kernel_rfl) (fun _ _ _ h => h) (by rfl) hS0 (fun w hSw => ?_) ?_
          rotate_left
          · (try dsimp only at hSw); go_simp; first | done | (with_reducible rfl)
          simp only [Act.put, List.setIfInBounds_toArray, List.set_cons_zero, List.set_cons_succ]
          refine wpAnyT_take (i := 3) (v := ?_) (d := some 66) rfl (by rfl) (by kernel_rfl) (fun _ _ _ h => h) (by rfl) hS0 (fun w hSw => ?_) ?_
          rotate_left
          · (try dsimp only at hSw); go_simp; first | done | (with_reducible rfl)
          simp only [Act.put, List.setIfInBounds_toArray, List.set_cons_zero, List.set_cons_succ]
          refine wpAnyT_take (i := 4) (v := ?_) (d := some 67) rfl (by rfl) (by kernel_rfl) (fun _ _ _ h => h) (by rfl) hS0 (fun w hSw => ?_) ?_
          rotate_left
          · (try dsimp only at hSw); go_simp; first | done | (with_reducible rfl)
          simp only [Act.put, List.setIfInBounds_toArray, List.set_cons_zero, List.set_cons_succ]
          refine wpAnyT_take (i := 6) (v := ?_) (d := some 69) rfl (by rfl) (by kernel_rfl) (fun _ _ _ h => h) (by rfl) hS0 (fun w hSw => ?_) ?_
          rotate_left
          · (try dsimp only at hSw); go_simp; first | done | (with_reducible rfl)
          simp only [Act.put, List.setIfInBounds_toArray, List.set_cons_zero, List.set_cons_succ]
          refine wpAnyT_take (i := 7) (v := ?_) (d := some 70) rfl (by rfl) (by kernel_rfl) (fun _ _ _ h => h) (by rfl) hS0 (fun w hSw => ?_) ?_
          rotate_left
          · (try dsimp only at hSw); go_simp; first | done | (with_reducible rfl)
          simp only [Act.put, List.setIfInBounds_toArray, List.set_cons_zero, List.set_cons_succ]
          refine wpAnyT_take (i := 8) (v := ?_) (d := some 71) rfl (by rfl) (by kernel_rfl) (fun _ _ _ h => h) (by rfl) hS0 (fun w hSw => ?_) ?_
          rotate_left
          · (try dsimp only at hSw); go_simp; first | done | (with_reducible rfl)
          simp only [Act.put, List.setIfInBounds_toArray, List.set_cons_zero, List.set_cons_succ]
          refine wpAnyT_one (i := 5) rfl (by kernel_rfl) (fun K hK => ?_)
          (refine step_append2 (M := New wx.drew) (A := none) (n := 0) (c := 0) (xs := []) (news := bvs b) u8s rfl rfl rfl App.none_ Up.new rfl HRB_.out.drew (by simp [bvs]) (bvs_one _) (by omega) ?_; intro A5 c5 w5 hA5 hF5 _ _)
          refine hK.out _ _ (.inr ((HSW.out _ (((Frm.refl (New wx) wx).drew).trans hF5)))) ?_
          clear hK K
          have hF45 : Frm (New wx) wx w5 := ((Frm.refl (New wx) wx).drew).trans hF5
          have hS5 := HSW.out _ hF45
          rw [Nat.zero_add]
          clear hA5 hF5
          refine wpAnyT_one (i := 9) rfl (by kernel_rfl) (fun K hK => ?_)
          (refine step_append2 (M := New w5) (A := none) (n := 0) (c := 0) (xs := []) (news := fvs ts) flds rfl rfl rfl App.none_ Up.new rfl (HRT_.out.fresh hF45) (by rw [fvs_length]; omega) (fvs_one _) (by omega) ?_; intro A6 c6 w6 hA6 hF6 _ _)
          refine hK.out _ _ (.inr ((HSW.out _ (hF45.then_new Up.new hF6)))) ?_
          clear hK K
          have hF46 := hF45.then_new Up.new hF6
          rw [Nat.zero_add]
          clear hA6 hF6 hS5
          refine wpAnyT_one (i := 10) rfl (by kernel_rfl) (fun K hKK => ?_)
          refine Eq.mpr (if_pos (by rfl)) ?_
          go_wp2_with (fail)
          refine (HAN.out 200 b.length (by decide) hl2 A5 b.length c5 (some ⟨w3.heap.size, 0, none⟩) 1 [(bCT, v)] A6 ts.length c6 w6 (HMX.out.fresh hF46) (by simp)).mono ?_
          rintro e w9 ⟨X1, X2, X3, n1, n2, n3, k1, k2, k3, rfl, hF9⟩
          have hF49 := hF46.then_new Up.new hF9
          refine hKK.out _ _ (.inr (HSW.out _ hF49)) ?_
          clear hKK K hS0
          try simp only [Act.put, List.setIfInBounds_toArray, List.set_cons_zero, List.set_cons_succ]
          have hbx := HBMX.out.fresh hF49
          refine wpAnyT_one (i := 11) rfl (by kernel_rfl) (fun K hKK => ?_)
          refine step_store_agg rfl rfl rfl rfl hbx rfl (msg_one _ _ _ _ _ _ _ _ _) (by kernel_rfl) ?_
          intro w10 hb10 hF10 hs10
          refine hKK.out _ _ (.inl (by kernel_rfl)) ?_
          clear hKK K
          refine wpAnyT_done (by kernel_rfl) ?_ _
          clear hz5 hz6
          go_wp2_with (fail)
          refine bodyPost_ret (results_agg agM rfl rfl hb10 rfl) rfl ?_
          exact RSR.same HK.out (HFX.out.newg hF49 hgw hF10) hres
    have m1 : me ≠ bPOST := fun e => hm (.inl e)
    have m2 : me ≠ bPUT := fun e => hm (.inr e)
    have a1 : (me == [80, 79, 83, 84]) = false := beq_eq_false_iff_ne.2 m1
    have a2 : ¬ me = [80, 79, 83, 84] := m1
    have b1 : (me == [80, 85, 84]) = false := beq_eq_false_iff_ne.2 m2
    have b2 : ¬ me = [80, 85, 84] := m2
    clear m1 m2 hm HFI
    obtain ⟨CA, hCA⟩ : ∃ CA, CA = (#[.string ⟨me.toArray⟩, .string ⟨sc.toArray⟩, .string ⟨au.toArray⟩, .string ⟨bEcho.toArray⟩, .slice A1 fs.length c1, .slice A2 b.length c2, .slice A3 ts.length c3] : Array Value) := ⟨_, rfl⟩
    go_enter Tryz.func16, Tryz.ntmps16
    go_upto_region 1 with (fail)
    rw [← hCA]
    have hb1 := Blk.new w 32 CA
    have hF1 := HFR.out w 32 CA
    have hz1 := HS1.out w 32 CA
    generalize w.alloc (.cells CA 32) = w1 at *
    have hb2 := Blk.new w1 30 #[.slice none 0 0, .slice none 0 0, .slice none 0 0]
    have hF2 := HFR.out w1 30 #[.slice none 0 0, .slice none 0 0, .slice none 0 0]
    generalize w1.alloc (.cells #[.slice none 0 0, .slice none 0 0, .slice none 0 0] 30) = w2 at *
    have hbr := hb1.fresh hF2
    have hF02 := hF1.then_new Up.new hF2
    rw [hz1] at hb2
    rw [hCA] at hbr
    obtain ⟨gr, hgr⟩ : ∃ gr, gr = w.heap.size := ⟨_, rfl⟩
    rw [← hgr] at hbr hb2 hz1 ⊢
    obtain ⟨gm, hgm⟩ : ∃ gm, gm = gr + 1 := ⟨_, rfl⟩
    rw [← hgm] at hb2
    try rw [hz1]
    try rw [← hgm]
    have hgw : w.heap.size ≤ gm := by omega
    have hgrw : w.heap.size ≤ gr := by omega
    have hlm := hb2.lt
    have hlr := hbr.lt
    clear hb1 hF1 hF2 hgr hgm hz1 hCA
    have hy0 := hbr.cell 0
    have hy3 := hbr.cell 3
    have hy4 := hbr.cell 4
    have hy5 := hbr.cell 5
    have hy6 := hbr.cell 6
    simp only [List.getElem?_toArray, List.getElem?_cons_zero, List.getElem?_cons_succ] at hy0 hy3 hy4 hy5 hy6
    have HBR := Lib.hid hbr
    have HB2 := Lib.hid hb2
    have HF02 := Lib.hid hF02
    clear hbr hb2 hF02
    go_wp2_with (first
      | (go_at_call 31; refine (HBG.out _ _).mono ?_; rintro e w' ⟨rfl, hw⟩; rw [← hw]; clear hw w')
      | (go_at_call 33; refine (HAL.out 405 (by decide) _ _).mono ?_; rintro e w9 ⟨X1, X2, X3, n1, n2, n3, k1, k2, k3, rfl, hF9⟩; have hbx := HB2.out.fresh hF9)
      | (refine wpList_store_agg rfl rfl rfl rfl hbx rfl (msg_one _ _ _ _ _ _ _ _ _) (by kernel_rfl) ?_; intro w10 hb10 hF10 hs10))
    refine bodyPost_ret (results_agg agM rfl rfl hb10 rfl) rfl ?_
    exact RSR.same HK.out (HF02.out.newg hF9 hgw hF10) hres
  have pe1 : (pa == [47, 101, 99, 104, 111]) = false := beq_eq_false_iff_ne.2 hpe
  have pe2 : ¬ pa = [47, 101, 99, 104, 111] := hpe
  clear hpe
  by_cases h2 : Lib.hasPrefix pa bKv = true
  · have hl2 : Lib.hasPrefix pa [47, 107, 118, 47] = true := h2
    rw [if_pos h2] at hres
    have hl4 : (4 : Int) ≤ pa.length := by
      have := (List.isPrefixOf_iff_prefix.1 h2).length_le
      have e : bKv.length = 4 := rfl
      omega
    obtain ⟨x, hxd⟩ : ∃ x, x = pa.drop 4 := ⟨_, rfl⟩
    have hex := cut_str pa 4
    have hxl : x.length ≤ 1099511627776 := by rw [hxd, List.length_drop]; omega
    rw [← hxd] at hex hres
    clear h2 hxd
    have HBG := Lib.hid hbg
    clear hbg
    obtain ⟨CA, hCA⟩ : ∃ CA, CA = (#[.string ⟨me.toArray⟩, .string ⟨sc.toArray⟩, .string ⟨au.toArray⟩, .string ⟨pa.toArray⟩, .slice A1 fs.length c1, .slice A2 b.length c2, .slice A3 ts.length c3] : Array Value) := ⟨_, rfl⟩
    go_enter Tryz.func16, Tryz.ntmps16
    go_upto_region 1 with (fail)
    rw [← hCA]
    have hb1 := Blk.new w 32 CA
    have hF1 := HFR.out w 32 CA
    have hz1 := HS1.out w 32 CA
    generalize w.alloc (.cells CA 32) = w1 at *
    have hb2 := Blk.new w1 30 #[.slice none 0 0, .slice none 0 0, .slice none 0 0]
    have hF2 := HFR.out w1 30 #[.slice none 0 0, .slice none 0 0, .slice none 0 0]
    generalize w1.alloc (.cells #[.slice none 0 0, .slice none 0 0, .slice none 0 0] 30) = w2 at *
    have hbr := hb1.fresh hF2
    have hF02 := hF1.then_new Up.new hF2
    rw [hz1] at hb2
    rw [hCA] at hbr
    obtain ⟨gr, hgr⟩ : ∃ gr, gr = w.heap.size := ⟨_, rfl⟩
    rw [← hgr] at hbr hb2 hz1 ⊢
    obtain ⟨gm, hgm⟩ : ∃ gm, gm = gr + 1 := ⟨_, rfl⟩
    rw [← hgm] at hb2
    try rw [hz1]
    try rw [← hgm]
    have hgw : w.heap.size ≤ gm := by omega
    have hgrw : w.heap.size ≤ gr := by omega
    have hlm := hb2.lt
    have hlr := hbr.lt
    clear hb1 hF1 hF2 hgr hgm hz1 hCA
    have hy0 := hbr.cell 0
    have hy3 := hbr.cell 3
    simp only [List.getElem?_toArray, List.getElem?_cons_zero, List.getElem?_cons_succ] at hy0 hy3
    have HBR := Lib.hid hbr
    have HB2 := Lib.hid hb2
    have HF02 := Lib.hid hF02
    clear hbr hb2 hF02
    go_upto_region 18 with (first
      | (go_at_call 31; refine (HBG.out _ _).mono ?_; rintro e w' ⟨rfl, hw⟩; rw [← hw]; clear hw w')
      | (go_at_call 31; refine (HBG.out _ _).mono ?_; rintro e w' ⟨rfl, hw⟩; rw [← hw]; clear hw w'))
    have hSw : ∀ w', Frm (New w2) w2 w' → w'.cell? ⟨gr, 0, none⟩ = some (.string ⟨me.toArray⟩) ∧ w'.cell? ⟨gr, 1, none⟩ = some (.string ⟨sc.toArray⟩) ∧ w'.cell? ⟨gr, 2, none⟩ = some (.string ⟨au.toArray⟩) ∧ w'.cell? ⟨gr, 3, none⟩ = some (.string ⟨pa.toArray⟩) ∧ w'.cell? ⟨gr, 4, none⟩ = some (.slice A1 fs.length c1) ∧ w'.cell? ⟨gr, 5, none⟩ = some (.slice A2 b.length c2) ∧ w'.cell? ⟨gr, 6, none⟩ = some (.slice A3 ts.length c3) ∧ gr < w'.heap.size := fun w' h => by
      have hb := HBR.out.fresh h
      exact ⟨hb.cell 0, hb.cell 1, hb.cell 2, hb.cell 3, hb.cell 4, hb.cell 5, hb.cell 6, hb.lt⟩
    have hS0 := hSw w2.drew ((Frm.refl (New w2) w2).drew)
    have hplt := HK.out.blk.lt
    have hrowk := HK.out
    have HSW := Lib.hid hSw
    have HROWK := Lib.hid hrowk
    clear hSw hrowk
    refine wp_region_til (by kernel_rfl) (fun w' => w'.cell? ⟨gr, 0, none⟩ = some (.string ⟨me.toArray⟩) ∧ w'.cell? ⟨gr, 1, none⟩ = some (.string ⟨sc.toArray⟩) ∧ w'.cell? ⟨gr, 2, none⟩ = some (.string ⟨au.toArray⟩) ∧ w'.cell? ⟨gr, 3, none⟩ = some (.string ⟨pa.toArray⟩) ∧ w'.cell? ⟨gr, 4, none⟩ = some (.slice A1 fs.length c1) ∧ w'.cell? ⟨gr, 5, none⟩ = some (.slice A2 b.length c2) ∧ w'.cell? ⟨gr, 6, none⟩ = some (.slice A3 ts.length c3) ∧ gr < w'.heap.size) 5 ?_
    refine wpAnyT_take (i := 0) (v := ?_) (d := some 77) rfl (by rfl) (by kernel_rfl) (fun _ _ _ h => h) (by rfl) hS0 (fun w hSw => ?_) ?_
    rotate_left
    · (try dsimp only at hSw); go_simp; first | done | (with_reducible rfl)
    simp only [Act.put, List.setIfInBounds_toArray, List.set_cons_zero, List.set_cons_succ]
    refine wpAnyT_take (i := 1) (v := ?_) (d := some 78) rfl (by rfl) (by kernel_rfl) (fun _ _ _ h => h) (by rfl) hS0 (fun w hSw => ?_) ?_
    rotate_left
    · (try dsimp only at hSw); go_simp; first | done | (with_reducible rfl)
    simp only [Act.put, List.setIfInBounds_toArray, List.set_cons_zero, List.set_cons_succ]
    refine wpAnyT_take (i := 2) (v := ?_) (d := some 79) rfl (by rfl) (by kernel_rfl) (fun _ _ _ h => h) (by rfl) hS0 (fun w hSw => ?_) ?_
    rotate_left
    · (try dsimp only at hSw); go_simp; first | done | (with_reducible rfl)
    simp only [Act.put, List.setIfInBounds_toArray, List.set_cons_zero, List.set_cons_succ]
    refine wpAnyT_take (i := 3) (v := ?_) (d := some 80) rfl (by rfl) (by kernel_rfl) (fun _ _ _ h => h) (by rfl) hS0 (fun w hSw => ?_) ?_
    rotate_left
    · (try dsimp only at hSw); go_simp; first | done | (with_reducible rfl)
    simp only [Act.put, List.setIfInBounds_toArray, List.set_cons_zero, List.set_cons_succ]
    refine wpAnyT_one (i := 4) rfl (by kernel_rfl) (fun K hKK => ?_)
    refine Eq.mpr (if_pos (by rfl)) ?_
    go_wp2_with (fail)
    refine (HKV.out w2.drew x (HF02.out.trans ((Frm.refl (New w2) w2).drew.mono (fun k hk => by unfold New at hk ⊢; have := HF02.out.size; omega))) hxl).mono ?_
    rintro e w9 ⟨X1, X2, X3, n1, n2, n3, k1, k2, k3, A', c', L', rfl, hR9, hs9, hF9, ho9, hd9⟩
    have hrl : gr ≠ p := by omega
    have hml : gm ≠ p := by omega
    have hF9b : Frm (fun z => z = p ∨ New w2 z) w2 w9 := ((Frm.refl (fun z => z = p ∨ New w2 z) w2).drew).trans hF9
    have hbr9 := HBR.out.keep hF9b (fun e => by rcases e with e | e; exact hrl e; unfold New at e; omega)
    have hbx := HB2.out.keep hF9b (fun e => by rcases e with e | e; exact hml e; unfold New at e; omega)
    refine hKK.out _ _ (.inr ⟨hbr9.cell 0, hbr9.cell 1, hbr9.cell 2, hbr9.cell 3, hbr9.cell 4, hbr9.cell 5, hbr9.cell 6, hbr9.lt⟩) ?_
    clear hKK K hS0 hbr9
    try simp only [Act.put, List.setIfInBounds_toArray, List.set_cons_zero, List.set_cons_succ]
    refine wpAnyT_one (i := 5) rfl (by kernel_rfl) (fun K hKK => ?_)
    refine step_store_agg rfl rfl rfl rfl hbx rfl (msg_one _ _ _ _ _ _ _ _ _) (by kernel_rfl) ?_
    intro w10 hb10 hF10 hs10
    refine hKK.out _ _ (.inl (by kernel_rfl)) ?_
    clear hKK K
    refine wpAnyT_done (by kernel_rfl) ?_ _
    clear hy0 hy3
    have HR9 := Lib.hid hR9
    have HS9 := Lib.hid hs9
    have HF9B := Lib.hid hF9b
    have HO9 := Lib.hid ho9
    have HD9 := Lib.hid hd9
    clear hR9 hs9 hF9b ho9 hd9
    go_wp2_with (fail)
    refine bodyPost_ret (results_agg agM rfl rfl hb10 rfl) rfl ?_
    exact RSR.done HK.out HF02.out hgw hlm HR9.out HF9B.out HO9.out HD9.out (Frm.refl _ _) hF10 (HS9.out.trans hres.symm)
  have hp2 : Lib.hasPrefix pa bKv = false := by cases h : Lib.hasPrefix pa bKv with | false => rfl | true => exact absurd h h2
  have hl2 : Lib.hasPrefix pa [47, 107, 118, 47] = false := hp2
  rw [if_neg h2] at hres
  clear h2 hp2
  by_cases h3 : Lib.hasPrefix pa bGo = true
  · have hl3 : Lib.hasPrefix pa [47, 103, 111, 47] = true := h3
    have hl4 : (4 : Int) ≤ pa.length := by
      have := (List.isPrefixOf_iff_prefix.1 h3).length_le
      have e : bGo.length = 4 := rfl
      omega
    clear h3
    have HBG := Lib.hid hbg
    clear hbg
    by_cases h68 : (68 : Int) < pa.length
    · obtain ⟨CA, hCA⟩ : ∃ CA, CA = (#[.string ⟨me.toArray⟩, .string ⟨sc.toArray⟩, .string ⟨au.toArray⟩, .string ⟨pa.toArray⟩, .slice A1 fs.length c1, .slice A2 b.length c2, .slice A3 ts.length c3] : Array Value) := ⟨_, rfl⟩
      go_enter Tryz.func16, Tryz.ntmps16
      go_upto_region 1 with (fail)
      rw [← hCA]
      have hb1 := Blk.new w 32 CA
      have hF1 := HFR.out w 32 CA
      have hz1 := HS1.out w 32 CA
      generalize w.alloc (.cells CA 32) = w1 at *
      have hb2 := Blk.new w1 30 #[.slice none 0 0, .slice none 0 0, .slice none 0 0]
      have hF2 := HFR.out w1 30 #[.slice none 0 0, .slice none 0 0, .slice none 0 0]
      generalize w1.alloc (.cells #[.slice none 0 0, .slice none 0 0, .slice none 0 0] 30) = w2 at *
      have hbr := hb1.fresh hF2
      have hF02 := hF1.then_new Up.new hF2
      rw [hz1] at hb2
      rw [hCA] at hbr
      obtain ⟨gr, hgr⟩ : ∃ gr, gr = w.heap.size := ⟨_, rfl⟩
      rw [← hgr] at hbr hb2 hz1 ⊢
      obtain ⟨gm, hgm⟩ : ∃ gm, gm = gr + 1 := ⟨_, rfl⟩
      rw [← hgm] at hb2
      try rw [hz1]
      try rw [← hgm]
      have hgw : w.heap.size ≤ gm := by omega
      have hgrw : w.heap.size ≤ gr := by omega
      have hlm := hb2.lt
      have hlr := hbr.lt
      clear hb1 hF1 hF2 hgr hgm hz1 hCA
      have hy0 := hbr.cell 0
      have hy3 := hbr.cell 3
      simp only [List.getElem?_toArray, List.getElem?_cons_zero, List.getElem?_cons_succ] at hy0 hy3
      have HBR := Lib.hid hbr
      have HB2 := Lib.hid hb2
      have HF02 := Lib.hid hF02
      clear hbr hb2 hF02
      go_wp2_with (first
        | (go_at_call 31; refine (HBG.out _ _).mono ?_; rintro e w' ⟨rfl, hw⟩; rw [← hw]; clear hw w')
        | (go_at_call 31; refine (HBG.out _ _).mono ?_; rintro e w' ⟨rfl, hw⟩; rw [← hw]; clear hw w')
        | (go_at_call 31; refine (HBG.out _ _).mono ?_; rintro e w' ⟨rfl, hw⟩; rw [← hw]; clear hw w')
        | (go_at_call 30; refine (HPL.out 404 (by decide) _).mono ?_; rintro e w9 ⟨X1, X2, X3, n1, n2, n3, k1, k2, k3, rfl, hF9⟩; have hbx := HB2.out.fresh hF9)
        | (refine wpList_store_agg rfl rfl rfl rfl hbx rfl (msg_one _ _ _ _ _ _ _ _ _) (by kernel_rfl) ?_; intro w10 hb10 hF10 hs10))
      refine bodyPost_ret (results_agg agM rfl rfl hb10 rfl) rfl ?_
      exact RSR.same HK.out (HF02.out.newg hF9 hgw hF10) hres
    · cases hme : hReads me with
      | false =>
        have hrm := fun w' => HRD.out w'
        rw [hme] at hrm
        clear hme
        have HRM := Lib.hid hrm
        clear hrm
        obtain ⟨CA, hCA⟩ : ∃ CA, CA = (#[.string ⟨me.toArray⟩, .string ⟨sc.toArray⟩, .string ⟨au.toArray⟩, .string ⟨pa.toArray⟩, .slice A1 fs.length c1, .slice A2 b.length c2, .slice A3 ts.length c3] : Array Value) := ⟨_, rfl⟩
        go_enter Tryz.func16, Tryz.ntmps16
        go_upto_region 1 with (fail)
        rw [← hCA]
        have hb1 := Blk.new w 32 CA
        have hF1 := HFR.out w 32 CA
        have hz1 := HS1.out w 32 CA
        generalize w.alloc (.cells CA 32) = w1 at *
        have hb2 := Blk.new w1 30 #[.slice none 0 0, .slice none 0 0, .slice none 0 0]
        have hF2 := HFR.out w1 30 #[.slice none 0 0, .slice none 0 0, .slice none 0 0]
        generalize w1.alloc (.cells #[.slice none 0 0, .slice none 0 0, .slice none 0 0] 30) = w2 at *
        have hbr := hb1.fresh hF2
        have hF02 := hF1.then_new Up.new hF2
        rw [hz1] at hb2
        rw [hCA] at hbr
        obtain ⟨gr, hgr⟩ : ∃ gr, gr = w.heap.size := ⟨_, rfl⟩
        rw [← hgr] at hbr hb2 hz1 ⊢
        obtain ⟨gm, hgm⟩ : ∃ gm, gm = gr + 1 := ⟨_, rfl⟩
        rw [← hgm] at hb2
        try rw [hz1]
        try rw [← hgm]
        have hgw : w.heap.size ≤ gm := by omega
        have hgrw : w.heap.size ≤ gr := by omega
        have hlm := hb2.lt
        have hlr := hbr.lt
        clear hb1 hF1 hF2 hgr hgm hz1 hCA
        have hy0 := hbr.cell 0
        have hy3 := hbr.cell 3
        simp only [List.getElem?_toArray, List.getElem?_cons_zero, List.getElem?_cons_succ] at hy0 hy3
        have HBR := Lib.hid hbr
        have HB2 := Lib.hid hb2
        have HF02 := Lib.hid hF02
        clear hbr hb2 hF02
        go_wp2_with (first
          | (go_at_call 31; refine (HBG.out _ _).mono ?_; rintro e w' ⟨rfl, hw⟩; rw [← hw]; clear hw w')
          | (go_at_call 31; refine (HBG.out _ _).mono ?_; rintro e w' ⟨rfl, hw⟩; rw [← hw]; clear hw w')
          | (go_at_call 31; refine (HBG.out _ _).mono ?_; rintro e w' ⟨rfl, hw⟩; rw [← hw]; clear hw w')
          | (refine wpList_load_agg agR rfl rfl rfl HBR.out rfl ?_)
          | (go_at_call 32; refine (HRM.out _).mono ?_; rintro e w3 ⟨rfl, hF3⟩; have HF03 := Lib.hid (HF02.out.then_new Up.new hF3); have HBR3 := Lib.hid (HBR.out.fresh hF3); have HB3 := Lib.hid (HB2.out.fresh hF3); have hlm3 := HB3.out.lt; clear hF3)
          | (go_at_call 33; refine (HAL.out 405 (by decide) _ _).mono ?_; rintro e w9 ⟨X1, X2, X3, n1, n2, n3, k1, k2, k3, rfl, hF9⟩; have hbx := HB3.out.fresh hF9)
          | (refine wpList_store_agg rfl rfl rfl rfl hbx rfl (msg_one _ _ _ _ _ _ _ _ _) (by kernel_rfl) ?_; intro w10 hb10 hF10 hs10))
        refine bodyPost_ret (results_agg agM rfl rfl hb10 rfl) rfl ?_
        exact RSR.same HK.out (HF03.out.newg hF9 hgw hF10) hres
      | true =>
        have hrm := fun w' => HRD.out w'
        rw [hme] at hrm
        clear hme
        have HRM := Lib.hid hrm
        clear hrm
        obtain ⟨x, hxd⟩ : ∃ x, x = pa.drop 4 := ⟨_, rfl⟩
        have hex := cut_str pa 4
        have hxl : x.length ≤ 68 := by rw [hxd, List.length_drop]; omega
        rw [← hxd] at hex
        obtain ⟨y, hy⟩ : ∃ y, y = bStat ++ x := ⟨_, rfl⟩
        have hcat : (⟨#[47, 115, 116, 97, 116, 105, 99, 47]⟩ : ByteArray) ++ ⟨x.toArray⟩ = ⟨y.toArray⟩ := by
          rw [hy]
          apply ByteArray.ext
          simp [bStat]
        have hxb : ¬ 9223372036854775807 < 8 + x.length := by omega
        clear hxd
        have HY := Lib.hid hy
        clear hy
        obtain ⟨CA, hCA⟩ : ∃ CA, CA = (#[.string ⟨me.toArray⟩, .string ⟨sc.toArray⟩, .string ⟨au.toArray⟩, .string ⟨pa.toArray⟩, .slice A1 fs.length c1, .slice A2 b.length c2, .slice A3 ts.length c3] : Array Value) := ⟨_, rfl⟩
        go_enter Tryz.func16, Tryz.ntmps16
        go_upto_region 1 with (fail)
        rw [← hCA]
        have hb1 := Blk.new w 32 CA
        have hF1 := HFR.out w 32 CA
        have hz1 := HS1.out w 32 CA
        generalize w.alloc (.cells CA 32) = w1 at *
        have hb2 := Blk.new w1 30 #[.slice none 0 0, .slice none 0 0, .slice none 0 0]
        have hF2 := HFR.out w1 30 #[.slice none 0 0, .slice none 0 0, .slice none 0 0]
        generalize w1.alloc (.cells #[.slice none 0 0, .slice none 0 0, .slice none 0 0] 30) = w2 at *
        have hbr := hb1.fresh hF2
        have hF02 := hF1.then_new Up.new hF2
        rw [hz1] at hb2
        rw [hCA] at hbr
        obtain ⟨gr, hgr⟩ : ∃ gr, gr = w.heap.size := ⟨_, rfl⟩
        rw [← hgr] at hbr hb2 hz1 ⊢
        obtain ⟨gm, hgm⟩ : ∃ gm, gm = gr + 1 := ⟨_, rfl⟩
        rw [← hgm] at hb2
        try rw [hz1]
        try rw [← hgm]
        have hgw : w.heap.size ≤ gm := by omega
        have hgrw : w.heap.size ≤ gr := by omega
        have hlm := hb2.lt
        have hlr := hbr.lt
        clear hb1 hF1 hF2 hgr hgm hz1 hCA
        have hy0 := hbr.cell 0
        have hy3 := hbr.cell 3
        simp only [List.getElem?_toArray, List.getElem?_cons_zero, List.getElem?_cons_succ] at hy0 hy3
        have HBR := Lib.hid hbr
        have HB2 := Lib.hid hb2
        have HF02 := Lib.hid hF02
        clear hbr hb2 hF02
        go_upto_region 24 with (first
          | (go_at_call 31; refine (HBG.out _ _).mono ?_; rintro e w' ⟨rfl, hw⟩; rw [← hw]; clear hw w')
          | (go_at_call 31; refine (HBG.out _ _).mono ?_; rintro e w' ⟨rfl, hw⟩; rw [← hw]; clear hw w')
          | (go_at_call 31; refine (HBG.out _ _).mono ?_; rintro e w' ⟨rfl, hw⟩; rw [← hw]; clear hw w')
          | (refine wpList_load_agg agR rfl rfl rfl HBR.out rfl ?_)
          | (go_at_call 32; refine (HRM.out _).mono ?_; rintro e w3 ⟨rfl, hF3⟩; have HF03 := Lib.hid (HF02.out.then_new Up.new hF3); have HBR3 := Lib.hid (HBR.out.fresh hF3); have HB3 := Lib.hid (HB2.out.fresh hF3); have hlm3 := HB3.out.lt; clear hF3))
        go_wp2_with (first
          | (go_at_call 36; refine (HAN.out 302 0 (by decide) (Nat.zero_le _) none 0 0 (some ⟨w3.heap.size, 0, none⟩) 1 [(bLoc, y)] none 0 0 _ (Rd.new w3 #[.string ⟨#[108, 111, 99, 97, 116, 105, 111, 110]⟩, .string ⟨y.toArray⟩] 38) (by simp)).mono ?_; rintro e w9 ⟨X1, X2, X3, n1, n2, n3, k1, k2, k3, rfl, hF9⟩; have hbx := (HB3.out.alloc _).fresh hF9)
          | (refine wpList_store_agg rfl rfl rfl rfl hbx rfl (msg_one _ _ _ _ _ _ _ _ _) (by kernel_rfl) ?_; intro w10 hb10 hF10 hs10))
        refine bodyPost_ret (results_agg agM rfl rfl hb10 rfl) rfl ?_
        exact RSR.same HK.out ((HF03.out.alloc Up.new _).newg hF9 hgw hF10) hres
  have hp3 : Lib.hasPrefix pa bGo = false := by cases h : Lib.hasPrefix pa bGo with | false => rfl | true => exact absurd h h3
  have hl3 : Lib.hasPrefix pa [47, 103, 111, 47] = false := hp3
  clear h3 hp3
  have HBG := Lib.hid hbg
  clear hbg
  by_cases hps : pa = bSum
  · subst hps
    by_cases hm : me = bPOST
    · subst hm
      have hz : sumB (b.take 0) = 0 := rfl
      have HZ := Lib.hid hz
      clear hz
      obtain ⟨CA, hCA⟩ : ∃ CA, CA = (#[.string ⟨bPOST.toArray⟩, .string ⟨sc.toArray⟩, .string ⟨au.toArray⟩, .string ⟨bSum.toArray⟩, .slice A1 fs.length c1, .slice A2 b.length c2, .slice A3 ts.length c3] : Array Value) := ⟨_, rfl⟩
      go_enter Tryz.func16, Tryz.ntmps16
      go_upto_region 1 with (fail)
      rw [← hCA]
      have hb1 := Blk.new w 32 CA
      have hF1 := HFR.out w 32 CA
      have hz1 := HS1.out w 32 CA
      generalize w.alloc (.cells CA 32) = w1 at *
      have hb2 := Blk.new w1 30 #[.slice none 0 0, .slice none 0 0, .slice none 0 0]
      have hF2 := HFR.out w1 30 #[.slice none 0 0, .slice none 0 0, .slice none 0 0]
      generalize w1.alloc (.cells #[.slice none 0 0, .slice none 0 0, .slice none 0 0] 30) = w2 at *
      have hbr := hb1.fresh hF2
      have hF02 := hF1.then_new Up.new hF2
      rw [hz1] at hb2
      rw [hCA] at hbr
      obtain ⟨gr, hgr⟩ : ∃ gr, gr = w.heap.size := ⟨_, rfl⟩
      rw [← hgr] at hbr hb2 hz1 ⊢
      obtain ⟨gm, hgm⟩ : ∃ gm, gm = gr + 1 := ⟨_, rfl⟩
      rw [← hgm] at hb2
      try rw [hz1]
      try rw [← hgm]
      have hgw : w.heap.size ≤ gm := by omega
      have hgrw : w.heap.size ≤ gr := by omega
      have hlm := hb2.lt
      have hlr := hbr.lt
      clear hb1 hF1 hF2 hgr hgm hz1 hCA
      have hy0 := hbr.cell 0
      have hy3 := hbr.cell 3
      have hy5 := hbr.cell 5
      simp only [List.getElem?_toArray, List.getElem?_cons_zero, List.getElem?_cons_succ] at hy0 hy3 hy5
      have HBR := Lib.hid hbr
      have HB2 := Lib.hid hb2
      have HF02 := Lib.hid hF02
      clear hbr hb2 hF02
      have hRb2 := HRB.out w2 HF02.out
      have HRB2 := Lib.hid hRb2
      clear hRb2
      go_upto_region 30 with (first
        | (go_at_call 31; refine (HBG.out _ _).mono ?_; rintro e w' ⟨rfl, hw⟩; rw [← hw]; clear hw w')
        | (go_at_call 31; refine (HBG.out _ _).mono ?_; rintro e w' ⟨rfl, hw⟩; rw [← hw]; clear hw w')
        | (go_at_call 31; refine (HBG.out _ _).mono ?_; rintro e w' ⟨rfl, hw⟩; rw [← hw]; clear hw w'))
      go_loopw [9, 10] (fun v9 v10 wr => ∃ i : Nat, i ≤ b.length ∧ v10 = .int .i64 i ∧ v9 = .int .i64 ((sumB (b.take i) : Nat) : Int) ∧ wr = w2) (fun _ v10 _ => b.length - (intOf v10).toNat)
      case atStart => exact ⟨0, Nat.zero_le _, rfl, rfl, rfl⟩
      case round =>
        obtain ⟨i, hi, rfl, rfl, rfl⟩ := hrel
        rename World => wr
        by_cases hlt : i < b.length
        · obtain ⟨g, off, rfl, hc0⟩ := HRB2.out.at_ (k := i) (by simpa [bvs] using hlt)
          simp only [bvs, List.getElem_map, bv] at hc0
          have htk : b.take (i + 1) = b.take i ++ [b[i]] := List.take_succ_eq_append_getElem hlt
          have hsn := sumB_snoc (b.take i) b[i]
          rw [← htk] at hsn
          have hle := sumB_le (b.take i)
          have hlen : (b.take i).length ≤ b.length := by rw [List.length_take]; omega
          have hg := World.block_lt_of_cell? _ _ hc0
          simp only at hg
          generalize b[i] = x at *
          have hx := x.toNat_lt
          generalize sumB (b.take i) = s at *
          generalize hs2 : sumB (b.take (i + 1)) = s2 at *
          have HSN := Lib.hid hsn
          have HS2 := Lib.hid hs2
          clear hsn hs2
          go_wp2_with (fail)
          go_roundw
          case rel => exact ⟨i + 1, by omega, by go_num, by rw [HS2.out, HSN.out]; go_num, by first | rfl | trivial⟩
          case measure => simp [intOf]; omega
        · obtain rfl : i = b.length := by omega
          rw [List.take_length]
          have hsl := sumB_le b
          generalize sumB b = s at *
          have hdc := fun w' => rdec_any s w' (by omega)
          generalize decB s = ds at *
          clear hy0 hy3
          have hlit := run_lit wr #[.int .u8 111, .int .u8 107] 2 2
          have hFk : Frm (New wr) wr (wr.alloc (.cells #[.int .u8 111, .int .u8 107] 5 (2, 3))) := (Frm.refl _ wr).alloc Up.new _
          have hF04 := HF02.out.then_new Up.new hFk
          have hb4 := HB2.out.fresh hFk
          clear hFk
          have HDC := Lib.hid hdc
          have HF04 := Lib.hid hF04
          have HB4 := Lib.hid hb4
          clear hdc hF04 hb4
          go_wp2_with (first
            | (go_at_call 12; refine (HDC.out _).mono ?_; rintro e w' ⟨rfl, hw⟩; rw [← hw]; clear hw w')
            | (go_at_call 36; refine (HAN.out 200 2 (by decide) (by omega) _ _ _ none 0 [] _ 1 1 _ Rd.nil (by simp)).mono ?_; rintro e w9 ⟨X1, X2, X3, n1, n2, n3, k1, k2, k3, rfl, hF9⟩; have hbx := (HB4.out.alloc _).fresh hF9)
            | (refine wpList_store_agg rfl rfl rfl rfl hbx rfl (msg_one _ _ _ _ _ _ _ _ _) (by kernel_rfl) ?_; intro w10 hb10 hF10 hs10))
          refine bodyPost_ret (results_agg agM rfl rfl hb10 rfl) rfl ?_
          exact RSR.same HK.out ((HF04.out.alloc Up.new _).newg hF9 hgw hF10) hres
    have a1 : (me == [80, 79, 83, 84]) = false := beq_eq_false_iff_ne.2 hm
    have a2 : ¬ me = [80, 79, 83, 84] := hm
    clear hm
    obtain ⟨CA, hCA⟩ : ∃ CA, CA = (#[.string ⟨me.toArray⟩, .string ⟨sc.toArray⟩, .string ⟨au.toArray⟩, .string ⟨bSum.toArray⟩, .slice A1 fs.length c1, .slice A2 b.length c2, .slice A3 ts.length c3] : Array Value) := ⟨_, rfl⟩
    go_enter Tryz.func16, Tryz.ntmps16
    go_upto_region 1 with (fail)
    rw [← hCA]
    have hb1 := Blk.new w 32 CA
    have hF1 := HFR.out w 32 CA
    have hz1 := HS1.out w 32 CA
    generalize w.alloc (.cells CA 32) = w1 at *
    have hb2 := Blk.new w1 30 #[.slice none 0 0, .slice none 0 0, .slice none 0 0]
    have hF2 := HFR.out w1 30 #[.slice none 0 0, .slice none 0 0, .slice none 0 0]
    generalize w1.alloc (.cells #[.slice none 0 0, .slice none 0 0, .slice none 0 0] 30) = w2 at *
    have hbr := hb1.fresh hF2
    have hF02 := hF1.then_new Up.new hF2
    rw [hz1] at hb2
    rw [hCA] at hbr
    obtain ⟨gr, hgr⟩ : ∃ gr, gr = w.heap.size := ⟨_, rfl⟩
    rw [← hgr] at hbr hb2 hz1 ⊢
    obtain ⟨gm, hgm⟩ : ∃ gm, gm = gr + 1 := ⟨_, rfl⟩
    rw [← hgm] at hb2
    try rw [hz1]
    try rw [← hgm]
    have hgw : w.heap.size ≤ gm := by omega
    have hgrw : w.heap.size ≤ gr := by omega
    have hlm := hb2.lt
    have hlr := hbr.lt
    clear hb1 hF1 hF2 hgr hgm hz1 hCA
    have hy0 := hbr.cell 0
    have hy3 := hbr.cell 3
    simp only [List.getElem?_toArray, List.getElem?_cons_zero, List.getElem?_cons_succ] at hy0 hy3
    have HBR := Lib.hid hbr
    have HB2 := Lib.hid hb2
    have HF02 := Lib.hid hF02
    clear hbr hb2 hF02
    go_wp2_with (first
      | (go_at_call 31; refine (HBG.out _ _).mono ?_; rintro e w' ⟨rfl, hw⟩; rw [← hw]; clear hw w')
      | (go_at_call 31; refine (HBG.out _ _).mono ?_; rintro e w' ⟨rfl, hw⟩; rw [← hw]; clear hw w')
      | (go_at_call 31; refine (HBG.out _ _).mono ?_; rintro e w' ⟨rfl, hw⟩; rw [← hw]; clear hw w')
      | (go_at_call 33; refine (HAL.out 405 (by decide) _ _).mono ?_; rintro e w9 ⟨X1, X2, X3, n1, n2, n3, k1, k2, k3, rfl, hF9⟩; have hbx := HB2.out.fresh hF9)
      | (refine wpList_store_agg rfl rfl rfl rfl hbx rfl (msg_one _ _ _ _ _ _ _ _ _) (by kernel_rfl) ?_; intro w10 hb10 hF10 hs10))
    refine bodyPost_ret (results_agg agM rfl rfl hb10 rfl) rfl ?_
    exact RSR.same HK.out (HF02.out.newg hF9 hgw hF10) hres
  have ps1 : (pa == [47, 115, 117, 109]) = false := beq_eq_false_iff_ne.2 hps
  have ps2 : ¬ pa = [47, 115, 117, 109] := hps
  clear hps
  by_cases hm : me = bOpt
  · subst hm
    by_cases q1 : pa = [47]
    · subst q1
      obtain ⟨CA, hCA⟩ : ∃ CA, CA = (#[.string ⟨bOpt.toArray⟩, .string ⟨sc.toArray⟩, .string ⟨au.toArray⟩, .string ⟨List.toArray [47]⟩, .slice A1 fs.length c1, .slice A2 b.length c2, .slice A3 ts.length c3] : Array Value) := ⟨_, rfl⟩
      go_enter Tryz.func16, Tryz.ntmps16
      go_upto_region 1 with (fail)
      rw [← hCA]
      have hb1 := Blk.new w 32 CA
      have hF1 := HFR.out w 32 CA
      have hz1 := HS1.out w 32 CA
      generalize w.alloc (.cells CA 32) = w1 at *
      have hb2 := Blk.new w1 30 #[.slice none 0 0, .slice none 0 0, .slice none 0 0]
      have hF2 := HFR.out w1 30 #[.slice none 0 0, .slice none 0 0, .slice none 0 0]
      generalize w1.alloc (.cells #[.slice none 0 0, .slice none 0 0, .slice none 0 0] 30) = w2 at *
      have hbr := hb1.fresh hF2
      have hF02 := hF1.then_new Up.new hF2
      rw [hz1] at hb2
      rw [hCA] at hbr
      obtain ⟨gr, hgr⟩ : ∃ gr, gr = w.heap.size := ⟨_, rfl⟩
      rw [← hgr] at hbr hb2 hz1 ⊢
      obtain ⟨gm, hgm⟩ : ∃ gm, gm = gr + 1 := ⟨_, rfl⟩
      rw [← hgm] at hb2
      try rw [hz1]
      try rw [← hgm]
      have hgw : w.heap.size ≤ gm := by omega
      have hgrw : w.heap.size ≤ gr := by omega
      have hlm := hb2.lt
      have hlr := hbr.lt
      clear hb1 hF1 hF2 hgr hgm hz1 hCA
      have hy0 := hbr.cell 0
      have hy3 := hbr.cell 3
      simp only [List.getElem?_toArray, List.getElem?_cons_zero, List.getElem?_cons_succ] at hy0 hy3
      have HBR := Lib.hid hbr
      have HB2 := Lib.hid hb2
      have HF02 := Lib.hid hF02
      clear hbr hb2 hF02
      go_wp2_with (first
        | (go_at_call 31; refine (HBG.out _ _).mono ?_; rintro e w' ⟨rfl, hw⟩; rw [← hw]; clear hw w')
        | (go_at_call 31; refine (HBG.out _ _).mono ?_; rintro e w' ⟨rfl, hw⟩; rw [← hw]; clear hw w')
        | (go_at_call 31; refine (HBG.out _ _).mono ?_; rintro e w' ⟨rfl, hw⟩; rw [← hw]; clear hw w')
        | (go_at_call 30; refine (HPL.out 404 (by decide) _).mono ?_; rintro e w9 ⟨X1, X2, X3, n1, n2, n3, k1, k2, k3, rfl, hF9⟩; have hbx := HB2.out.fresh hF9)
        | (go_at_call 33; refine (HAL.out 204 (by decide) _ _).mono ?_; rintro e w9 ⟨X1, X2, X3, n1, n2, n3, k1, k2, k3, rfl, hF9⟩; have hbx := HB2.out.fresh hF9)
        | (refine wpList_store_agg rfl rfl rfl rfl hbx rfl (msg_one _ _ _ _ _ _ _ _ _) (by kernel_rfl) ?_; intro w10 hb10 hF10 hs10))
      all_goals refine bodyPost_ret (results_agg agM rfl rfl hb10 rfl) rfl ?_
      all_goals exact RSR.same HK.out (HF02.out.newg hF9 hgw hF10) hres
    have q2 : (pa == [47]) = false := beq_eq_false_iff_ne.2 q1
    by_cases q3 : pa = [42]
    · subst q3
      obtain ⟨CA, hCA⟩ : ∃ CA, CA = (#[.string ⟨bOpt.toArray⟩, .string ⟨sc.toArray⟩, .string ⟨au.toArray⟩, .string ⟨List.toArray [42]⟩, .slice A1 fs.length c1, .slice A2 b.length c2, .slice A3 ts.length c3] : Array Value) := ⟨_, rfl⟩
      go_enter Tryz.func16, Tryz.ntmps16
      go_upto_region 1 with (fail)
      rw [← hCA]
      have hb1 := Blk.new w 32 CA
      have hF1 := HFR.out w 32 CA
      have hz1 := HS1.out w 32 CA
      generalize w.alloc (.cells CA 32) = w1 at *
      have hb2 := Blk.new w1 30 #[.slice none 0 0, .slice none 0 0, .slice none 0 0]
      have hF2 := HFR.out w1 30 #[.slice none 0 0, .slice none 0 0, .slice none 0 0]
      generalize w1.alloc (.cells #[.slice none 0 0, .slice none 0 0, .slice none 0 0] 30) = w2 at *
      have hbr := hb1.fresh hF2
      have hF02 := hF1.then_new Up.new hF2
      rw [hz1] at hb2
      rw [hCA] at hbr
      obtain ⟨gr, hgr⟩ : ∃ gr, gr = w.heap.size := ⟨_, rfl⟩
      rw [← hgr] at hbr hb2 hz1 ⊢
      obtain ⟨gm, hgm⟩ : ∃ gm, gm = gr + 1 := ⟨_, rfl⟩
      rw [← hgm] at hb2
      try rw [hz1]
      try rw [← hgm]
      have hgw : w.heap.size ≤ gm := by omega
      have hgrw : w.heap.size ≤ gr := by omega
      have hlm := hb2.lt
      have hlr := hbr.lt
      clear hb1 hF1 hF2 hgr hgm hz1 hCA
      have hy0 := hbr.cell 0
      have hy3 := hbr.cell 3
      simp only [List.getElem?_toArray, List.getElem?_cons_zero, List.getElem?_cons_succ] at hy0 hy3
      have HBR := Lib.hid hbr
      have HB2 := Lib.hid hb2
      have HF02 := Lib.hid hF02
      clear hbr hb2 hF02
      go_wp2_with (first
        | (go_at_call 31; refine (HBG.out _ _).mono ?_; rintro e w' ⟨rfl, hw⟩; rw [← hw]; clear hw w')
        | (go_at_call 31; refine (HBG.out _ _).mono ?_; rintro e w' ⟨rfl, hw⟩; rw [← hw]; clear hw w')
        | (go_at_call 31; refine (HBG.out _ _).mono ?_; rintro e w' ⟨rfl, hw⟩; rw [← hw]; clear hw w')
        | (go_at_call 30; refine (HPL.out 404 (by decide) _).mono ?_; rintro e w9 ⟨X1, X2, X3, n1, n2, n3, k1, k2, k3, rfl, hF9⟩; have hbx := HB2.out.fresh hF9)
        | (go_at_call 33; refine (HAL.out 204 (by decide) _ _).mono ?_; rintro e w9 ⟨X1, X2, X3, n1, n2, n3, k1, k2, k3, rfl, hF9⟩; have hbx := HB2.out.fresh hF9)
        | (refine wpList_store_agg rfl rfl rfl rfl hbx rfl (msg_one _ _ _ _ _ _ _ _ _) (by kernel_rfl) ?_; intro w10 hb10 hF10 hs10))
      all_goals refine bodyPost_ret (results_agg agM rfl rfl hb10 rfl) rfl ?_
      all_goals exact RSR.same HK.out (HF02.out.newg hF9 hgw hF10) hres
    have q4 : (pa == [42]) = false := beq_eq_false_iff_ne.2 q3
    obtain ⟨CA, hCA⟩ : ∃ CA, CA = (#[.string ⟨bOpt.toArray⟩, .string ⟨sc.toArray⟩, .string ⟨au.toArray⟩, .string ⟨pa.toArray⟩, .slice A1 fs.length c1, .slice A2 b.length c2, .slice A3 ts.length c3] : Array Value) := ⟨_, rfl⟩
    go_enter Tryz.func16, Tryz.ntmps16
    go_upto_region 1 with (fail)
    rw [← hCA]
    have hb1 := Blk.new w 32 CA
    have hF1 := HFR.out w 32 CA
    have hz1 := HS1.out w 32 CA
    generalize w.alloc (.cells CA 32) = w1 at *
    have hb2 := Blk.new w1 30 #[.slice none 0 0, .slice none 0 0, .slice none 0 0]
    have hF2 := HFR.out w1 30 #[.slice none 0 0, .slice none 0 0, .slice none 0 0]
    generalize w1.alloc (.cells #[.slice none 0 0, .slice none 0 0, .slice none 0 0] 30) = w2 at *
    have hbr := hb1.fresh hF2
    have hF02 := hF1.then_new Up.new hF2
    rw [hz1] at hb2
    rw [hCA] at hbr
    obtain ⟨gr, hgr⟩ : ∃ gr, gr = w.heap.size := ⟨_, rfl⟩
    rw [← hgr] at hbr hb2 hz1 ⊢
    obtain ⟨gm, hgm⟩ : ∃ gm, gm = gr + 1 := ⟨_, rfl⟩
    rw [← hgm] at hb2
    try rw [hz1]
    try rw [← hgm]
    have hgw : w.heap.size ≤ gm := by omega
    have hgrw : w.heap.size ≤ gr := by omega
    have hlm := hb2.lt
    have hlr := hbr.lt
    clear hb1 hF1 hF2 hgr hgm hz1 hCA
    have hy0 := hbr.cell 0
    have hy3 := hbr.cell 3
    simp only [List.getElem?_toArray, List.getElem?_cons_zero, List.getElem?_cons_succ] at hy0 hy3
    have HBR := Lib.hid hbr
    have HB2 := Lib.hid hb2
    have HF02 := Lib.hid hF02
    clear hbr hb2 hF02
    go_wp2_with (first
      | (go_at_call 31; refine (HBG.out _ _).mono ?_; rintro e w' ⟨rfl, hw⟩; rw [← hw]; clear hw w')
      | (go_at_call 31; refine (HBG.out _ _).mono ?_; rintro e w' ⟨rfl, hw⟩; rw [← hw]; clear hw w')
      | (go_at_call 31; refine (HBG.out _ _).mono ?_; rintro e w' ⟨rfl, hw⟩; rw [← hw]; clear hw w')
      | (go_at_call 30; refine (HPL.out 404 (by decide) _).mono ?_; rintro e w9 ⟨X1, X2, X3, n1, n2, n3, k1, k2, k3, rfl, hF9⟩; have hbx := HB2.out.fresh hF9)
      | (go_at_call 33; refine (HAL.out 204 (by decide) _ _).mono ?_; rintro e w9 ⟨X1, X2, X3, n1, n2, n3, k1, k2, k3, rfl, hF9⟩; have hbx := HB2.out.fresh hF9)
      | (refine wpList_store_agg rfl rfl rfl rfl hbx rfl (msg_one _ _ _ _ _ _ _ _ _) (by kernel_rfl) ?_; intro w10 hb10 hF10 hs10))
    all_goals refine bodyPost_ret (results_agg agM rfl rfl hb10 rfl) rfl ?_
    all_goals exact RSR.same HK.out (HF02.out.newg hF9 hgw hF10) hres
  have a1 : (me == [79, 80, 84, 73, 79, 78, 83]) = false := beq_eq_false_iff_ne.2 hm
  have a2 : ¬ me = [79, 80, 84, 73, 79, 78, 83] := hm
  clear hm
  by_cases q1 : pa = [47]
  · subst q1
    obtain ⟨CA, hCA⟩ : ∃ CA, CA = (#[.string ⟨me.toArray⟩, .string ⟨sc.toArray⟩, .string ⟨au.toArray⟩, .string ⟨List.toArray [47]⟩, .slice A1 fs.length c1, .slice A2 b.length c2, .slice A3 ts.length c3] : Array Value) := ⟨_, rfl⟩
    go_enter Tryz.func16, Tryz.ntmps16
    go_upto_region 1 with (fail)
    rw [← hCA]
    have hb1 := Blk.new w 32 CA
    have hF1 := HFR.out w 32 CA
    have hz1 := HS1.out w 32 CA
    generalize w.alloc (.cells CA 32) = w1 at *
    have hb2 := Blk.new w1 30 #[.slice none 0 0, .slice none 0 0, .slice none 0 0]
    have hF2 := HFR.out w1 30 #[.slice none 0 0, .slice none 0 0, .slice none 0 0]
    generalize w1.alloc (.cells #[.slice none 0 0, .slice none 0 0, .slice none 0 0] 30) = w2 at *
    have hbr := hb1.fresh hF2
    have hF02 := hF1.then_new Up.new hF2
    rw [hz1] at hb2
    rw [hCA] at hbr
    obtain ⟨gr, hgr⟩ : ∃ gr, gr = w.heap.size := ⟨_, rfl⟩
    rw [← hgr] at hbr hb2 hz1 ⊢
    obtain ⟨gm, hgm⟩ : ∃ gm, gm = gr + 1 := ⟨_, rfl⟩
    rw [← hgm] at hb2
    try rw [hz1]
    try rw [← hgm]
    have hgw : w.heap.size ≤ gm := by omega
    have hgrw : w.heap.size ≤ gr := by omega
    have hlm := hb2.lt
    have hlr := hbr.lt
    clear hb1 hF1 hF2 hgr hgm hz1 hCA
    have hy0 := hbr.cell 0
    have hy3 := hbr.cell 3
    simp only [List.getElem?_toArray, List.getElem?_cons_zero, List.getElem?_cons_succ] at hy0 hy3
    have HBR := Lib.hid hbr
    have HB2 := Lib.hid hb2
    have HF02 := Lib.hid hF02
    clear hbr hb2 hF02
    go_wp2_with (first
      | (go_at_call 31; refine (HBG.out _ _).mono ?_; rintro e w' ⟨rfl, hw⟩; rw [← hw]; clear hw w')
      | (go_at_call 31; refine (HBG.out _ _).mono ?_; rintro e w' ⟨rfl, hw⟩; rw [← hw]; clear hw w')
      | (go_at_call 31; refine (HBG.out _ _).mono ?_; rintro e w' ⟨rfl, hw⟩; rw [← hw]; clear hw w')
      | (go_at_call 30; refine (HPL.out 404 (by decide) _).mono ?_; rintro e w9 ⟨X1, X2, X3, n1, n2, n3, k1, k2, k3, rfl, hF9⟩; have hbx := HB2.out.fresh hF9)
      | (go_at_call 33; refine (HAL.out 204 (by decide) _ _).mono ?_; rintro e w9 ⟨X1, X2, X3, n1, n2, n3, k1, k2, k3, rfl, hF9⟩; have hbx := HB2.out.fresh hF9)
      | (refine wpList_store_agg rfl rfl rfl rfl hbx rfl (msg_one _ _ _ _ _ _ _ _ _) (by kernel_rfl) ?_; intro w10 hb10 hF10 hs10))
    all_goals refine bodyPost_ret (results_agg agM rfl rfl hb10 rfl) rfl ?_
    all_goals exact RSR.same HK.out (HF02.out.newg hF9 hgw hF10) hres
  have q2 : (pa == [47]) = false := beq_eq_false_iff_ne.2 q1
  by_cases q3 : pa = [42]
  · subst q3
    obtain ⟨CA, hCA⟩ : ∃ CA, CA = (#[.string ⟨me.toArray⟩, .string ⟨sc.toArray⟩, .string ⟨au.toArray⟩, .string ⟨List.toArray [42]⟩, .slice A1 fs.length c1, .slice A2 b.length c2, .slice A3 ts.length c3] : Array Value) := ⟨_, rfl⟩
    go_enter Tryz.func16, Tryz.ntmps16
    go_upto_region 1 with (fail)
    rw [← hCA]
    have hb1 := Blk.new w 32 CA
    have hF1 := HFR.out w 32 CA
    have hz1 := HS1.out w 32 CA
    generalize w.alloc (.cells CA 32) = w1 at *
    have hb2 := Blk.new w1 30 #[.slice none 0 0, .slice none 0 0, .slice none 0 0]
    have hF2 := HFR.out w1 30 #[.slice none 0 0, .slice none 0 0, .slice none 0 0]
    generalize w1.alloc (.cells #[.slice none 0 0, .slice none 0 0, .slice none 0 0] 30) = w2 at *
    have hbr := hb1.fresh hF2
    have hF02 := hF1.then_new Up.new hF2
    rw [hz1] at hb2
    rw [hCA] at hbr
    obtain ⟨gr, hgr⟩ : ∃ gr, gr = w.heap.size := ⟨_, rfl⟩
    rw [← hgr] at hbr hb2 hz1 ⊢
    obtain ⟨gm, hgm⟩ : ∃ gm, gm = gr + 1 := ⟨_, rfl⟩
    rw [← hgm] at hb2
    try rw [hz1]
    try rw [← hgm]
    have hgw : w.heap.size ≤ gm := by omega
    have hgrw : w.heap.size ≤ gr := by omega
    have hlm := hb2.lt
    have hlr := hbr.lt
    clear hb1 hF1 hF2 hgr hgm hz1 hCA
    have hy0 := hbr.cell 0
    have hy3 := hbr.cell 3
    simp only [List.getElem?_toArray, List.getElem?_cons_zero, List.getElem?_cons_succ] at hy0 hy3
    have HBR := Lib.hid hbr
    have HB2 := Lib.hid hb2
    have HF02 := Lib.hid hF02
    clear hbr hb2 hF02
    go_wp2_with (first
      | (go_at_call 31; refine (HBG.out _ _).mono ?_; rintro e w' ⟨rfl, hw⟩; rw [← hw]; clear hw w')
      | (go_at_call 31; refine (HBG.out _ _).mono ?_; rintro e w' ⟨rfl, hw⟩; rw [← hw]; clear hw w')
      | (go_at_call 31; refine (HBG.out _ _).mono ?_; rintro e w' ⟨rfl, hw⟩; rw [← hw]; clear hw w')
      | (go_at_call 30; refine (HPL.out 404 (by decide) _).mono ?_; rintro e w9 ⟨X1, X2, X3, n1, n2, n3, k1, k2, k3, rfl, hF9⟩; have hbx := HB2.out.fresh hF9)
      | (go_at_call 33; refine (HAL.out 204 (by decide) _ _).mono ?_; rintro e w9 ⟨X1, X2, X3, n1, n2, n3, k1, k2, k3, rfl, hF9⟩; have hbx := HB2.out.fresh hF9)
      | (refine wpList_store_agg rfl rfl rfl rfl hbx rfl (msg_one _ _ _ _ _ _ _ _ _) (by kernel_rfl) ?_; intro w10 hb10 hF10 hs10))
    all_goals refine bodyPost_ret (results_agg agM rfl rfl hb10 rfl) rfl ?_
    all_goals exact RSR.same HK.out (HF02.out.newg hF9 hgw hF10) hres
  have q4 : (pa == [42]) = false := beq_eq_false_iff_ne.2 q3
  obtain ⟨CA, hCA⟩ : ∃ CA, CA = (#[.string ⟨me.toArray⟩, .string ⟨sc.toArray⟩, .string ⟨au.toArray⟩, .string ⟨pa.toArray⟩, .slice A1 fs.length c1, .slice A2 b.length c2, .slice A3 ts.length c3] : Array Value) := ⟨_, rfl⟩
  go_enter Tryz.func16, Tryz.ntmps16
  go_upto_region 1 with (fail)
  rw [← hCA]
  have hb1 := Blk.new w 32 CA
  have hF1 := HFR.out w 32 CA
  have hz1 := HS1.out w 32 CA
  generalize w.alloc (.cells CA 32) = w1 at *
  have hb2 := Blk.new w1 30 #[.slice none 0 0, .slice none 0 0, .slice none 0 0]
  have hF2 := HFR.out w1 30 #[.slice none 0 0, .slice none 0 0, .slice none 0 0]
  generalize w1.alloc (.cells #[.slice none 0 0, .slice none 0 0, .slice none 0 0] 30) = w2 at *
  have hbr := hb1.fresh hF2
  have hF02 := hF1.then_new Up.new hF2
  rw [hz1] at hb2
  rw [hCA] at hbr
  obtain ⟨gr, hgr⟩ : ∃ gr, gr = w.heap.size := ⟨_, rfl⟩
  rw [← hgr] at hbr hb2 hz1 ⊢
  obtain ⟨gm, hgm⟩ : ∃ gm, gm = gr + 1 := ⟨_, rfl⟩
  rw [← hgm] at hb2
  try rw [hz1]
  try rw [← hgm]
  have hgw : w.heap.size ≤ gm := by omega
  have hgrw : w.heap.size ≤ gr := by omega
  have hlm := hb2.lt
  have hlr := hbr.lt
  clear hb1 hF1 hF2 hgr hgm hz1 hCA
  have hy0 := hbr.cell 0
  have hy3 := hbr.cell 3
  simp only [List.getElem?_toArray, List.getElem?_cons_zero, List.getElem?_cons_succ] at hy0 hy3
  have HBR := Lib.hid hbr
  have HB2 := Lib.hid hb2
  have HF02 := Lib.hid hF02
  clear hbr hb2 hF02
  go_wp2_with (first
    | (go_at_call 31; refine (HBG.out _ _).mono ?_; rintro e w' ⟨rfl, hw⟩; rw [← hw]; clear hw w')
    | (go_at_call 31; refine (HBG.out _ _).mono ?_; rintro e w' ⟨rfl, hw⟩; rw [← hw]; clear hw w')
    | (go_at_call 31; refine (HBG.out _ _).mono ?_; rintro e w' ⟨rfl, hw⟩; rw [← hw]; clear hw w')
    | (go_at_call 30; refine (HPL.out 404 (by decide) _).mono ?_; rintro e w9 ⟨X1, X2, X3, n1, n2, n3, k1, k2, k3, rfl, hF9⟩; have hbx := HB2.out.fresh hF9)
    | (go_at_call 33; refine (HAL.out 204 (by decide) _ _).mono ?_; rintro e w9 ⟨X1, X2, X3, n1, n2, n3, k1, k2, k3, rfl, hF9⟩; have hbx := HB2.out.fresh hF9)
    | (refine wpList_store_agg rfl rfl rfl rfl hbx rfl (msg_one _ _ _ _ _ _ _ _ _) (by kernel_rfl) ?_; intro w10 hb10 hF10 hs10))
  all_goals refine bodyPost_ret (results_agg agM rfl rfl hb10 rfl) rfl ?_
  all_goals exact RSR.same HK.out (HF02.out.newg hF9 hgw hF10) hres
end Go.Proofs.YtpojejdddgdjdaaGreatDoor.M
