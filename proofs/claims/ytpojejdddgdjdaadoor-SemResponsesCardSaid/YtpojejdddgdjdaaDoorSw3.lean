/- SemResponses: the walk. No condition. -/
import Derived.BigQuiet
import Derived.Deep.RegionHeld3
import Derived.Deep.CutBlock
import Derived.Lib.Hide
import Derived.IntWalk
import Derived.Test.YtpojejdddgdjdaaDoorSkn
import Derived.Test.YtpojejdddgdjdaaDoorSrt
import Derived.Test.YtpojejdddgdjdaaDoorSlh
import Derived.Test.YtpojejdddgdjdaaDoorSaz
import Derived.Test.YtpojejdddgdjdaaDoorSof
namespace Go.Proofs.YtpojejdddgdjdaaDoor.M
open Go.ChangeShapes Go.WideShapes Go.ChangeAt Go.RowKit

theorem zMsg : (Tryd.prog.info? 25).map (·.zero) = some (some (.agg #[.slice none 0 0, .slice none 0 0, .slice none 0 0])) := by kernel_rfl
theorem msg_one (A1 A2 A3 : Option Addr) (n1 n2 n3 c1 c2 c3 : Nat) : ∀ u ∈ #[Value.slice A1 n1 c1, Value.slice A2 n2 c2, Value.slice A3 n3 c3].toList, u.oneCell' = true := fun u hu => by
  simp only [List.mem_cons, List.not_mem_nil, or_false] at hu
  rcases hu with rfl | rfl | rfl <;> rfl
def sqN (l : List Fld) : Nat := fsizes l
theorem fsizes_cons (f : Fld) (l : List Fld) : fsizes (f :: l) = fsize f + fsizes l := by simp [fsizes]
theorem fvs_cons1 (f : Fld) (l : List Fld) : fvs (f :: l) = [str f.1, str f.2] ++ fvs l := by simp [fvs]
set_option maxRecDepth 100000 in
set_option maxHeartbeats 4000000 in
theorem responses_walk (m : MV) (st : ByteArray) (W : World) (hm : MArg W m) (hst : st.size ≤ 1125899906842624) :
    Calls Tryd.prog 4 #[.agg m.cells, .string st] W fun e w' => e = .returned (.bool true) ∧ Below W.heap.size W w' := by
  obtain ⟨s, rfl⟩ : ∃ s : Bytes, st = ⟨s.toArray⟩ := ⟨st.data.toList, by cases st; simp⟩
  have hsl : s.length ≤ 1125899906842624 := by simpa [ByteArray.size] using hst
  clear hst
  have hfr : ∀ (w : World) t cs, Frm (New w) w (w.alloc (.cells cs t)) := fun w t cs => (Frm.refl _ w).alloc Up.new _
  have hli : ∀ w', Frm (New W) W w' → Calls Tryd.prog 12 #[.agg m.cells] w' fun e w2 => e = .returned (.bool (lightM m)) ∧ Frm (New w') w' w2 := fun w' f => lightM_any m w' (hm.rd.fresh f) hm.ok
  have hsz : lightM m = true → MSz m ∧ m.b.length ≤ 20000 ∧ m.ts.length ≤ 70 ∧ m.fs.length ≤ 70 ∧ fsizes m.fs ≤ 5240 := fun h => by
    obtain ⟨a, b, c, d⟩ := lightM_sz h
    refine ⟨a, b, c, d, ?_⟩
    unfold lightM at h
    simp only [Bool.and_eq_true] at h
    exact (light_size h.1).1
  obtain ⟨A1, c1, fs, A2, c2, b, A3, c3, ts⟩ := m
  have hrd := hm.rd
  clear hm
  simp only [MV.cells] at hli ⊢
  generalize hlm : lightM ⟨A1, c1, fs, A2, c2, b, A3, c3, ts⟩ = lm at *
  clear hlm
  have HFR := Lib.hid hfr
  have HLI := Lib.hid hli
  have HRD := Lib.hid hrd
  have HSZ := Lib.hid hsz
  clear hfr hli hrd hsz
  go_enter Tryd.func4, Tryd.ntmps4
  go_upto_region 1 with (fail)
  have hb1 := Blk.new W 25 #[.slice A1 fs.length c1, .slice A2 b.length c2, .slice A3 ts.length c3]
  have hF1 := HFR.out W 25 #[.slice A1 fs.length c1, .slice A2 b.length c2, .slice A3 ts.length c3]
  have hk1 := known_any (W.alloc (.cells #[.slice A1 fs.length c1, .slice A2 b.length c2, .slice A3 ts.length c3] 25))
  generalize W.alloc (.cells #[.slice A1 fs.length c1, .slice A2 b.length c2, .slice A3 ts.length c3] 25) = w1 at *
  obtain ⟨bm, hbm⟩ : ∃ bm, bm = W.heap.size := ⟨_, rfl⟩
  rw [← hbm] at hb1 ⊢
  have hbmW : W.heap.size ≤ bm := by omega
  clear hbm
  have HB1 := Lib.hid hb1
  have HF1 := Lib.hid hF1
  have HK1 := Lib.hid hk1
  clear hk1
  clear hb1 hF1
  go_upto_region 3 with (go_at_call 11; refine HK1.out.mono ?_; rintro e w2 ⟨rfl, hF2⟩)
  have hb2 := HB1.out.fresh hF2
  have hF02 := HF1.out.then_new Up.new hF2
  have hl2 := HLI.out w2 hF02
  clear HB1 HF1 HK1 hF2
  have HB2 := Lib.hid hb2
  have HF02 := Lib.hid hF02
  have HL2 := Lib.hid hl2
  clear hb2 hF02 hl2
  cases lm with
  | false =>
    go_wp2_with (first
      | (refine wpList_load_agg agM rfl rfl rfl HB2.out rfl ?_)
      | (go_at_call 12; refine HL2.out.mono ?_; rintro e w3 ⟨rfl, hF3⟩))
    go_ret
    exact ⟨rfl, (HF02.out.then_new Up.new hF3).below⟩
  | true =>
    by_cases h20 : (20 : Int) < s.length
    · go_wp2_with (first
        | (refine wpList_load_agg agM rfl rfl rfl HB2.out rfl ?_)
        | (go_at_call 12; refine HL2.out.mono ?_; rintro e w3 ⟨rfl, hF3⟩))
      go_ret
      exact ⟨rfl, (HF02.out.then_new Up.new hF3).below⟩
    obtain ⟨hz0, hbl, htl, hfl, hfz⟩ := HSZ.out (by trivial)
    go_upto_region 5 with (first
      | (refine wpList_load_agg agM rfl rfl rfl HB2.out rfl ?_)
      | (go_at_call 12; refine HL2.out.mono ?_; rintro e w3 ⟨rfl, hF3⟩))
    have hb3 := HB2.out.fresh hF3
    have hF03 := HF02.out.then_new Up.new hF3
    clear HB2 HF02 HL2 hF3 HLI HSZ
    have HB3 := Lib.hid hb3
    have HF03 := Lib.hid hF03
    have HZ0 := Lib.hid hz0
    clear hb3 hF03 hz0
    go_upto_region 6 with (first
      | (refine wpList_load_agg agM rfl rfl rfl HB3.out rfl ?_)
      | (refine wpList_new rfl rfl zMsg rfl ?_; intro w4 hb4 hF4 hs4)
      | (refine wpList_store_agg rfl rfl rfl rfl hb4 rfl (msg_one _ _ _ _ _ _ _ _ _) (by kernel_rfl) ?_; intro w5 hb5 hF5 hs5))
    obtain ⟨g5, hg5⟩ : ∃ g5, g5 = w3.heap.size := ⟨_, rfl⟩
    rw [← hg5] at hb5 hb4 hF5 ⊢
    have hF35 : Frm (New w3) w3 w5 := hF4.trans (hF5.mono (fun k hk => by subst hk; unfold New; omega))
    have hb35 := HB3.out.fresh hF35
    have hF05 := HF03.out.then_new Up.new hF35
    have hbg5 : bm < g5 := by have := HB3.out.lt; omega
    have hgw5 : W.heap.size ≤ g5 := by omega
    clear hg5 hb4 hF4 hs4 hF5 hs5 hF35 HB3 HF03
    have HB5 := Lib.hid hb5
    clear hb5
    -- the literal, and what is appended to it
    have hA6 : App (New w5) (w5.alloc (.cells #[.string ⟨bSt.toArray⟩, .string ⟨s.toArray⟩] 34)) 34 2 (some ⟨w5.heap.size, 0, none⟩) 1 1 (fvs [(bSt, s)]) :=
      App.full (Rd.new w5 #[.string ⟨bSt.toArray⟩, .string ⟨s.toArray⟩] 34) rfl (by decide) (fun c => by cases c) (fun k hk => by simp at hk; unfold New; omega) (fun _ => ⟨_, 0, _, rfl, heap_alloc_new w5 _, by simp, Nat.le_refl _⟩)
    have hF56 := HFR.out w5 34 #[.string ⟨bSt.toArray⟩, .string ⟨s.toArray⟩]
    have hb36 := hb35.fresh hF56
    have hl36 := hb36.lt
    have hy0 := hb36.cell 0
    simp only [List.getElem?_toArray, List.getElem?_cons_zero] at hy0
    have hR6 := (HRD.out.fresh (hF05.then_new Up.new hF56)).r1
    simp only [bSt] at hA6 hF56 hb36 hl36 hy0 hR6
    have hst5 : ∀ w', Frm (New w5) w5 w' → w'.cell? ⟨g5, 0, none⟩ = some (.slice A1 fs.length c1) ∧ w'.frozen? ⟨g5, 0, none⟩ = false ∧ g5 < w'.heap.size := fun w' f => ⟨(HB5.out.fresh f).cell 0, (HB5.out.fresh f).frozen 0, (HB5.out.fresh f).lt⟩
    have HB35 := Lib.hid hb35
    clear hb35
    have HA6 := Lib.hid hA6
    have HF56 := Lib.hid hF56
    have HB36 := Lib.hid hb36
    have HR6 := Lib.hid hR6
    have HF05 := Lib.hid hF05
    have HST5 := Lib.hid hst5
    clear hA6 hF56 hb36 hR6 hF05 hst5
    go_upto_region 7 with (first
      | (at_builtin; refine wpList_append flds rfl rfl rfl HA6.out (Up.new.frm HF56.out) rfl HR6.out (by rw [fvs_length]; omega) (fvs_one _) (by omega) ?_; intro A7 c7 w7 hA7 hF7 _ _; have HA7 := Lib.hid hA7; have HF57 := Lib.hid (HF56.out.trans hF7); obtain ⟨hv0, hv1, hv2⟩ := HST5.out _ HF57.out; clear hA7 hF7))
    have hb57 := HB5.out.fresh HF57.out
    have hb37 := HB35.out.fresh HF57.out
    have hb58 := hb57.set_ 0 (.slice A7 (1 + fs.length) c7)
    simp only [List.setIfInBounds_toArray, List.set_cons_zero] at hb58
    have hb38 := hb37.far (p := ⟨g5, 0, none⟩) (by simp only; omega) (.slice A7 (1 + fs.length) c7)
    have hset : Frm (fun k => k = g5) w7 (w7.setCell ⟨g5, 0, none⟩ (.slice A7 (1 + fs.length) c7)) := Frm.setCell (M := fun k => k = g5) (Frm.refl _ w7) (p := ⟨g5, 0, none⟩) rfl _
    have hF08 : Frm (New W) W (w7.setCell ⟨g5, 0, none⟩ (.slice A7 (1 + fs.length) c7)) := (HF05.out.then_new Up.new HF57.out).trans (hset.mono (fun k hk => by subst hk; exact hgw5))
    have hl5 := HB5.out.lt
    have hRo := HA7.out.rd.keep hset (fun k hk e => by have := HA7.out.inM k hk; unfold New at this; omega)
    have hcons : [str [58, 115, 116, 97, 116, 117, 115], str s] ++ fvs fs = fvs ((bSt, s) :: fs) := (fvs_cons1 (bSt, s) fs).symm
    rw [show fvs [([58, 115, 116, 97, 116, 117, 115], s)] = [str [58, 115, 116, 97, 116, 117, 115], str s] from rfl, hcons] at hRo
    have hl1 : 1 + fs.length = ((bSt, s) :: fs).length := by rw [List.length_cons]; omega
    rw [hl1] at hb58 hb38 hset hF08 hRo ⊢
    generalize w7.setCell ⟨g5, 0, none⟩ (.slice A7 ((bSt, s) :: fs).length c7) = w8 at *
    have hrm : MIn w8 ⟨A1, c1, fs, A2, c2, b, A3, c3, ts⟩ := HRD.out.fresh hF08
    have hro : MIn w8 ⟨A7, c7, (bSt, s) :: fs, A2, c2, b, A3, c3, ts⟩ := ⟨hRo, hrm.r2, hrm.r3⟩
    have hzo : MSz ⟨A7, c7, (bSt, s) :: fs, A2, c2, b, A3, c3, ts⟩ := by
      have hzz := HZ0.out
      have hfs : fsize (bSt, s) = 7 + s.length + 32 := rfl
      refine ⟨?_, ?_, hzz.s3, hzz.l3, hzz.l2⟩
      · show fsizes ((bSt, s) :: fs) ≤ _
        rw [fsizes_cons, hfs]
        omega
      · show ((bSt, s) :: fs).length ≤ _
        rw [List.length_cons]; omega
    clear hb57 hb37 hset hRo hcons hl1 HA7 HF57 HB35 HB36 HF56 HA6 HR6 HST5 hv0 hv1 hv2 hl5 HB5 HF05 hy0 hl36
    generalize (bSt, s) :: fs = fo at *
    obtain ⟨C, hC⟩ : ∃ C, C = (#[.slice A1 fs.length c1, .slice A2 b.length c2, .slice A3 ts.length c3, .slice A7 fo.length c7, .slice A2 b.length c2, .slice A3 ts.length c3] : Array Value) := ⟨_, rfl⟩
    have hF89 := HFR.out w8 25 C
    have hb9 := Blk.new w8 25 C
    have hX : ∀ (w' : World) (i : Nat), i < 2 → Frm (New (w8.alloc (.cells C 25))) (w8.alloc (.cells C 25)) w' → ∃ x : MV, w'.cell? ⟨w8.heap.size, i * 3, none⟩ = some (.slice x.A1 x.fs.length x.c1) ∧ w'.cell? ⟨w8.heap.size, i * 3 + 1, none⟩ = some (.slice x.A2 x.b.length x.c2) ∧ w'.cell? ⟨w8.heap.size, i * 3 + 2, none⟩ = some (.slice x.A3 x.ts.length x.c3) ∧ w8.heap.size < w'.heap.size ∧ MIn w' x ∧ MSz x := fun w' i hi f => by
      have hb := hb9.fresh f
      have h0 := hb.cell (i * 3)
      have h1 := hb.cell (i * 3 + 1)
      have h2 := hb.cell (i * 3 + 2)
      rw [hC] at h0 h1 h2
      match i, hi with
      | 0, _ => exact ⟨⟨A1, c1, fs, A2, c2, b, A3, c3, ts⟩, h0, h1, h2, hb.lt, (hrm.fresh hF89).fresh f, HZ0.out⟩
      | 1, _ => exact ⟨⟨A7, c7, fo, A2, c2, b, A3, c3, ts⟩, h0, h1, h2, hb.lt, (hro.fresh hF89).fresh f, hzo⟩
    have hF09 := hF08.then_new Up.new hF89
    clear hF89 hb9 hrm hro hzo hF08
    rw [hC] at hX hF09
    have HB58 := Lib.hid hb58
    have HB38 := Lib.hid hb38
    have HX := Lib.hid hX
    have HF09 := Lib.hid hF09
    clear hb58 hb38 hX hF09
    clear hC
    go_upto_region 8 with (first
      | (refine wpList_load_agg agM rfl rfl rfl HB38.out rfl ?_)
      | (refine wpList_load_agg agM rfl rfl rfl HB58.out rfl ?_))
    have hX := HX.out
    have hF09 := HF09.out
    generalize w8.alloc (.cells #[.slice A1 fs.length c1, .slice A2 b.length c2, .slice A3 ts.length c3, .slice A7 fo.length c7, .slice A2 b.length c2, .slice A3 ts.length c3] 25) = w9 at *
    generalize w8.heap.size = gS at *
    clear HX HF09 HB58 HB38
    have HX := Lib.hid hX
    have HF09 := Lib.hid hF09
    clear hX hF09
    go_loopw [34] (fun v34 wr => ∃ i : Nat, i ≤ 2 ∧ v34 = .int .i64 i ∧ Hid (Frm (New w9) w9 wr)) (fun v34 _ => 2 - (intOf v34).toNat)
    case atStart => exact ⟨0, by omega, rfl, Frm.refl _ _⟩
    case round =>
      obtain ⟨i, hi, rfl, hF⟩ := hrel
      by_cases hi2 : i < 2
      · obtain ⟨x, hx0, hx1, hx2, hxl, hxi, hxz⟩ := HX.out wr i hi2 hF.out
        have hre : ∀ w', Frm (New wr) wr w' → Calls Tryd.prog 18 #[.agg #[.slice x.A1 x.fs.length x.c1, .slice x.A2 x.b.length x.c2, .slice x.A3 x.ts.length x.c3]] w' fun e w2 => e = .returned (.tuple #[.int .i64 ((resp x).1 : Nat), .int .i64 ((resp x).2 : Nat)]) ∧ Frm (New w') w' w2 := fun w' f => response_any x w' (hxi.fresh f) hxz
        have hrs : ∀ w', Frm (New wr) wr w' → Calls Tryd.prog 19 #[.agg #[.slice x.A1 x.fs.length x.c1, .slice x.A2 x.b.length x.c2, .slice x.A3 x.ts.length x.c3]] w' fun e w2 => e = .returned (.tuple #[.int .i64 ((resp x).1 : Nat), .int .i64 ((resp x).2 : Nat)]) ∧ Frm (New w') w' w2 := fun w' f => rstatus_any x w' (hxi.fresh f) hxz
        generalize (resp x).1 = r1 at *
        generalize (resp x).2 = r2 at *
        clear hxi hxz
        have HRE := Lib.hid hre
        have HRS := Lib.hid hrs
        clear hre hrs
        go_upto_region 10 with (first
          | (refine wpList_new rfl rfl zMsg rfl ?_; intro w10 hb10 hF10 hs10)
          | (refine wpList_store_agg rfl rfl rfl rfl hb10 rfl (msg_one _ _ _ _ _ _ _ _ _) (by kernel_rfl) ?_; intro w11 hb11 hF11 hs11))
        obtain ⟨gx, hgx⟩ : ∃ gx, gx = wr.heap.size := ⟨_, rfl⟩
        rw [← hgx] at hb11 hb10 hF11 ⊢
        have hFr11 : Frm (New wr) wr w11 := hF10.trans (hF11.mono (fun k hk => by subst hk; unfold New; omega))
        have HB11 := Lib.hid hb11
        clear hgx hb10 hF10 hs10 hF11 hs11 hb11 hx0 hx1 hx2
        have HFR11 := Lib.hid hFr11
        clear hFr11
        go_upto_region 11 with (first
          | (refine wpList_load_agg agM rfl rfl rfl HB11.out rfl ?_)
          | (go_at_call 18; refine (HRE.out _ HFR11.out).mono ?_; rintro e w12 ⟨rfl, hF12⟩))
        have hb12 := HB11.out.fresh hF12
        have hFr12 := HFR11.out.then_new Up.new hF12
        clear hF12 HB11 HFR11
        have HB12 := Lib.hid hb12
        have HFR12 := Lib.hid hFr12
        clear hb12 hFr12
        go_upto_region 12 with (first
          | (refine wpList_load_agg agM rfl rfl rfl HB12.out rfl ?_)
          | (go_at_call 19; refine (HRS.out _ HFR12.out).mono ?_; rintro e w13 ⟨rfl, hF13⟩))
        have hF913 := hF.out.then_new Up.new (HFR12.out.then_new Up.new hF13)
        clear hF13
        have HF913 := Lib.hid hF913
        clear hF913
        go_wp2_with (fail)
        go_roundw
        case rel => exact ⟨i + 1, by omega, by go_num, HF913.out⟩
        case measure => simp [intOf]; omega
      · obtain rfl : i = 2 := by omega
        go_wp2_with (fail)
        go_ret
        exact ⟨rfl, (HF09.out.then_new Up.new hF.out).below⟩
end Go.Proofs.YtpojejdddgdjdaaDoor.M
