/- elsewhere, Find, echo, sum: what the handler answers. Strings and bodies below 2^40. -/
import Derived.BigQuiet
import Derived.Deep.CutBlock
import Derived.Lib.Hide
import Derived.IntWalk
import Derived.Test.YtpojejdddgdjdaaGreatDoorHac
namespace Go.Proofs.YtpojejdddgdjdaaGreatDoor.M
open Go.ChangeShapes Go.WideShapes Go.ChangeAt Go.RowKit
set_option maxRecDepth 100000 in
set_option maxHeartbeats 2000000 in
theorem elsewhere_any (r : RV) (x : Bytes) (w : World) (hr : RIn w r) (hT : PT w) (hxl : x.length ≤ 1099511627776) : Calls Tryz.prog 49 #[.agg r.cells, .string ⟨x.toArray⟩] w (AnR w (hElse r.q x)) := by
  obtain ⟨me, sc, au, pa, A1, c1, fs, A2, c2, b, A3, c3, ts⟩ := r
  simp only [RV.cells, RV.q] at *
  have hfr : ∀ (w : World) t cs, Frm (New w) w (w.alloc (.cells cs t)) := fun w t cs => (Frm.refl _ w).alloc Up.new _
  have hs1 : ∀ (w : World) (t : TypeId) cs, (w.alloc (.cells cs t)).heap.size = w.heap.size + 1 := fun w t cs => by simp
  have hrd := fun (m : Bytes) (w' : World) => reads_any m w'
  have hno := fun (w' : World) (f : Frm (New w) w w') => none_any w' (hT.fresh f)
  have hnt := fun (a : Bytes) (w' : World) (f : Frm (New w) w w') => not_any a w' (hT.fresh f)
  have han : ∀ (w' : World) (B : Option Addr) (d : Nat), Frm (New w) w w' → Rd w' B (fvs [(bLoc, bStat ++ x)]) → Calls Tryz.prog 29 #[.int .i64 302, .slice none 0 0, .slice B 1 d] w' (AnR w' (ans 302 [] [(bLoc, bStat ++ x)])) := fun w' B d f h => answer_any 302 (by decide) none 0 [] B d [(bLoc, bStat ++ x)] w' Rd.nil h (Nat.zero_le _) (by simp) (hT.fresh f)
  have HFR := Lib.hid hfr
  have HS1 := Lib.hid hs1
  have HRD := Lib.hid hrd
  have HNO := Lib.hid hno
  have HNT := Lib.hid hnt
  have HR := Lib.hid hr
  have HAN := Lib.hid han
  clear hfr hs1 hrd hno hnt hr han
  by_cases hx : 64 < x.length
  · have hq : hElse ⟨me, sc, au, pa, fs, b, ts⟩ x = hNone := by unfold hElse; rw [if_pos hx]
    rw [hq]
    have hxi : (64 : Int) < x.length := by omega
    clear hq
    obtain ⟨CA, hCA⟩ : ∃ CA, CA = (#[.string ⟨me.toArray⟩, .string ⟨sc.toArray⟩, .string ⟨au.toArray⟩, .string ⟨pa.toArray⟩, .slice A1 fs.length c1, .slice A2 b.length c2, .slice A3 ts.length c3] : Array Value) := ⟨_, rfl⟩
    go_enter Tryz.func49, Tryz.ntmps49
    go_upto_region 1 with (fail)
    rw [← hCA]
    have hb1 := Blk.new w 32 CA
    have hF1 := HFR.out w 32 CA
    have hz1 := HS1.out w 32 CA
    generalize w.alloc (.cells CA 32) = w1 at *
    have hb2 := Blk.new w1 30 #[.slice none 0 0, .slice none 0 0, .slice none 0 0]
    have hF2 := HFR.out w1 30 #[.slice none 0 0, .slice none 0 0, .slice none 0 0]
    generalize w1.alloc (.cells #[.slice none 0 0, .slice none 0 0, .slice none 0 0] 30) = w2 at *
    have hbr := hb1.fresh hF2
    have hF02 := hF1.then_new Up.new hF2
    rw [hz1] at hb2
    rw [hCA] at hbr
    obtain ⟨gr, hgr⟩ : ∃ gr, gr = w.heap.size := ⟨_, rfl⟩
    rw [← hgr] at hbr hb2 hz1 ⊢
    obtain ⟨gm, hgm⟩ : ∃ gm, gm = gr + 1 := ⟨_, rfl⟩
    rw [← hgm] at hb2
    try rw [hz1]
    try rw [← hgm]
    have hgw : w.heap.size ≤ gm := by omega
    have hgrw : w.heap.size ≤ gr := by omega
    have hlm := hb2.lt
    have hlr := hbr.lt
    clear hb1 hF1 hF2 hgr hgm hz1 hCA
    have hy0 := hbr.cell 0
    simp only [List.getElem?_toArray, List.getElem?_cons_zero] at hy0
    have HBR := Lib.hid hbr
    have HB2 := Lib.hid hb2
    have HF02 := Lib.hid hF02
    clear hbr hb2 hF02
    go_wp2_with (first
      | (go_at_call 53; refine (HNO.out _ HF02.out).mono ?_; rintro e w3 ⟨m, rfl, hm⟩; have hbx := HB2.out.fresh hm.frm)
      | (refine wpList_store_agg rfl rfl rfl rfl hbx rfl (msg_one _ _ _ _ _ _ _ _ _) (by kernel_rfl) ?_; intro w8 hb8 hF8 hs8))
    refine bodyPost_ret (results_agg agM rfl rfl hb8 rfl) rfl ?_
    exact ⟨m, rfl, hm.done HF02.out hgw hlm hF8⟩
  · have hxi : ¬ (64 : Int) < x.length := by omega
    cases hme : hReads me with
    | false =>
      have hq : hElse ⟨me, sc, au, pa, fs, b, ts⟩ x = hNot bRead := by unfold hElse; rw [if_neg hx, hme]; rfl
      rw [hq]
      have hrm := fun w' => HRD.out me w'
      rw [hme] at hrm
      clear hq hme
      have HRM := Lib.hid hrm
      clear hrm
      obtain ⟨CA, hCA⟩ : ∃ CA, CA = (#[.string ⟨me.toArray⟩, .string ⟨sc.toArray⟩, .string ⟨au.toArray⟩, .string ⟨pa.toArray⟩, .slice A1 fs.length c1, .slice A2 b.length c2, .slice A3 ts.length c3] : Array Value) := ⟨_, rfl⟩
      go_enter Tryz.func49, Tryz.ntmps49
      go_upto_region 1 with (fail)
      rw [← hCA]
      have hb1 := Blk.new w 32 CA
      have hF1 := HFR.out w 32 CA
      have hz1 := HS1.out w 32 CA
      generalize w.alloc (.cells CA 32) = w1 at *
      have hb2 := Blk.new w1 30 #[.slice none 0 0, .slice none 0 0, .slice none 0 0]
      have hF2 := HFR.out w1 30 #[.slice none 0 0, .slice none 0 0, .slice none 0 0]
      generalize w1.alloc (.cells #[.slice none 0 0, .slice none 0 0, .slice none 0 0] 30) = w2 at *
      have hbr := hb1.fresh hF2
      have hF02 := hF1.then_new Up.new hF2
      rw [hz1] at hb2
      rw [hCA] at hbr
      obtain ⟨gr, hgr⟩ : ∃ gr, gr = w.heap.size := ⟨_, rfl⟩
      rw [← hgr] at hbr hb2 hz1 ⊢
      obtain ⟨gm, hgm⟩ : ∃ gm, gm = gr + 1 := ⟨_, rfl⟩
      rw [← hgm] at hb2
      try rw [hz1]
      try rw [← hgm]
      have hgw : w.heap.size ≤ gm := by omega
      have hgrw : w.heap.size ≤ gr := by omega
      have hlm := hb2.lt
      have hlr := hbr.lt
      clear hb1 hF1 hF2 hgr hgm hz1 hCA
      have hy0 := hbr.cell 0
      simp only [List.getElem?_toArray, List.getElem?_cons_zero] at hy0
      have HBR := Lib.hid hbr
      have HB2 := Lib.hid hb2
      have HF02 := Lib.hid hF02
      clear hbr hb2 hF02
      go_wp2_with (first
        | (go_at_call 62; refine (HRM.out _).mono ?_; rintro e w' ⟨rfl, hw⟩; rw [← hw]; clear hw w')
        | (go_at_call 63; refine (HNT.out bRead _ HF02.out).mono ?_; rintro e w3 ⟨m, rfl, hm⟩; have hbx := HB2.out.fresh hm.frm)
        | (refine wpList_store_agg rfl rfl rfl rfl hbx rfl (msg_one _ _ _ _ _ _ _ _ _) (by kernel_rfl) ?_; intro w8 hb8 hF8 hs8))
      refine bodyPost_ret (results_agg agM rfl rfl hb8 rfl) rfl ?_
      exact ⟨m, rfl, hm.done HF02.out hgw hlm hF8⟩
    | true =>
      have hq : hElse ⟨me, sc, au, pa, fs, b, ts⟩ x = ans 302 [] [(bLoc, bStat ++ x)] := by unfold hElse; rw [if_neg hx, hme]; rfl
      rw [hq]
      have hrm := fun w' => HRD.out me w'
      rw [hme] at hrm
      clear hq hme
      obtain ⟨y, hy⟩ : ∃ y, y = bStat ++ x := ⟨_, rfl⟩
      have hcat : (⟨#[47, 115, 116, 97, 116, 105, 99, 47]⟩ : ByteArray) ++ ⟨x.toArray⟩ = ⟨y.toArray⟩ := by
        rw [hy]
        apply ByteArray.ext
        simp [bStat]
      have han2 := HAN.out
      rw [← hy] at han2 ⊢
      have hxb : ¬ 9223372036854775807 < 8 + x.length := by omega
      clear HAN
      have HRM := Lib.hid hrm
      have HY := Lib.hid hy
      have HAN2 := Lib.hid han2
      clear hrm hy han2
      obtain ⟨CA, hCA⟩ : ∃ CA, CA = (#[.string ⟨me.toArray⟩, .string ⟨sc.toArray⟩, .string ⟨au.toArray⟩, .string ⟨pa.toArray⟩, .slice A1 fs.length c1, .slice A2 b.length c2, .slice A3 ts.length c3] : Array Value) := ⟨_, rfl⟩
      go_enter Tryz.func49, Tryz.ntmps49
      go_upto_region 1 with (fail)
      rw [← hCA]
      have hb1 := Blk.new w 32 CA
      have hF1 := HFR.out w 32 CA
      have hz1 := HS1.out w 32 CA
      generalize w.alloc (.cells CA 32) = w1 at *
      have hb2 := Blk.new w1 30 #[.slice none 0 0, .slice none 0 0, .slice none 0 0]
      have hF2 := HFR.out w1 30 #[.slice none 0 0, .slice none 0 0, .slice none 0 0]
      generalize w1.alloc (.cells #[.slice none 0 0, .slice none 0 0, .slice none 0 0] 30) = w2 at *
      have hbr := hb1.fresh hF2
      have hF02 := hF1.then_new Up.new hF2
      rw [hz1] at hb2
      rw [hCA] at hbr
      obtain ⟨gr, hgr⟩ : ∃ gr, gr = w.heap.size := ⟨_, rfl⟩
      rw [← hgr] at hbr hb2 hz1 ⊢
      obtain ⟨gm, hgm⟩ : ∃ gm, gm = gr + 1 := ⟨_, rfl⟩
      rw [← hgm] at hb2
      try rw [hz1]
      try rw [← hgm]
      have hgw : w.heap.size ≤ gm := by omega
      have hgrw : w.heap.size ≤ gr := by omega
      have hlm := hb2.lt
      have hlr := hbr.lt
      clear hb1 hF1 hF2 hgr hgm hz1 hCA
      have hy0 := hbr.cell 0
      simp only [List.getElem?_toArray, List.getElem?_cons_zero] at hy0
      have HBR := Lib.hid hbr
      have HB2 := Lib.hid hb2
      have HF02 := Lib.hid hF02
      clear hbr hb2 hF02
      go_upto_region 5 with (first
        | (go_at_call 62; refine (HRM.out _).mono ?_; rintro e w' ⟨rfl, hw⟩; rw [← hw]; clear hw w'))
      go_wp2_with (first
        | (go_at_call 29; refine (HAN2.out _ _ 1 (HF02.out.alloc Up.new _) (Rd.new w2 #[.string ⟨#[108, 111, 99, 97, 116, 105, 111, 110]⟩, .string ⟨y.toArray⟩] 38)).mono ?_; rintro e w5 ⟨m, rfl, hm⟩; have hbx := (HB2.out.alloc _).fresh hm.frm)
        | (refine wpList_store_agg rfl rfl rfl rfl hbx rfl (msg_one _ _ _ _ _ _ _ _ _) (by kernel_rfl) ?_; intro w8 hb8 hF8 hs8))
      refine bodyPost_ret (results_agg agM rfl rfl hb8 rfl) rfl ?_
      exact ⟨m, rfl, hm.done (HF02.out.alloc Up.new _) hgw ((HB2.out.alloc _).lt) hF8⟩
def svs (l : List Bytes) : List Value := l.map str
theorem svs_one (l : List Bytes) : ∀ u ∈ svs l, u.oneCell' = true := fun u hu => by
  obtain ⟨s, _, rfl⟩ := List.mem_map.1 hu
  rfl
theorem strs : Elem Tryz.prog 56 9 1 16 where
  ht := Tryz.underlying56
  info := by
    have h : (Tryz.prog.info? 9).map (fun i => (i.zero, i.size, i.bytes)) = some (some (.string ⟨#[]⟩), 1, 16) := by kernel_rfl
    obtain ⟨i, hi, hz, hs, hb⟩ := info_parts h
    exact ⟨i, _, hi, hz, hs, hb, rfl⟩
  pos := by omega
  bpos := by omega
theorem findF_snoc (l : List Fld) (f : Fld) (nm : Bytes) : findF (l ++ [f]) nm = findF l nm ++ (if f.1 = nm then [f.2] else []) := by
  unfold findF
  rw [List.filter_append, List.map_append]
  by_cases h : f.1 = nm <;> simp [h]
set_option maxRecDepth 100000 in
set_option maxHeartbeats 4000000 in
theorem find_any (l : List Fld) (A : Option Addr) (c : Nat) (nm : Bytes) (w : World) (hR : Rd w A (fvs l)) (hl : l.length ≤ 1099511627776) :
    Calls Tryz.prog 66 #[.slice A l.length c, .string ⟨nm.toArray⟩] w fun e w' => ∃ A' c', e = .returned (.slice A' (findF l nm).length c') ∧ Rd w' A' (svs (findF l nm)) ∧ Frm (New w) w w' := by
  have HR := Lib.hid hR
  clear hR
  have hfl : ∀ k, (findF (l.take k) nm).length ≤ l.length := fun k => by
    unfold findF
    rw [List.length_map]
    exact Nat.le_trans (List.length_filter_le _ _) (by rw [List.length_take]; omega)
  have HFL := Lib.hid hfl
  clear hfl
  go_enter Tryz.func66, Tryz.ntmps66
  go_upto_region 3 with (fail)
  go_loopw [5, 10] (fun v5 v10 wr => ∃ (k : Nat) (B : Option Addr) (d : Nat), k ≤ l.length ∧ v10 = .int .i64 k ∧ v5 = .slice B (findF (l.take k) nm).length d ∧ Hid (App (New w) wr 9 1 B (findF (l.take k) nm).length d (svs (findF (l.take k) nm))) ∧ Hid (Frm (New w) w wr)) (fun _ v10 _ => l.length - (intOf v10).toNat)
  case atStart => exact ⟨0, none, 0, Nat.zero_le _, rfl, rfl, Lib.hid App.none_, Lib.hid (Frm.refl _ _)⟩
  case round =>
    obtain ⟨k, B, d, hk, rfl, rfl, hA, hF⟩ := hrel
    rename World => wr
    by_cases hlt : k < l.length
    · have hRd := HR.out.fresh hF.out
      obtain ⟨g, off, rfl, hx⟩ := hRd.at_ (k := k * 2) (by rw [fvs_length]; omega)
      clear hx
      obtain ⟨hc1, hc2⟩ := fld_cells hRd k hlt
      have htk : l.take (k + 1) = l.take k ++ [l[k]] := List.take_succ_eq_append_getElem hlt
      have hsn := findF_snoc (l.take k) l[k] nm
      rw [← htk] at hsn
      have hln := HFL.out k
      generalize l[k] = f at *
      obtain ⟨a, b⟩ := f
      simp only [str] at hc1 hc2 hsn
      generalize findF (l.take k) nm = F at *
      generalize hF2 : findF (l.take (k + 1)) nm = F2 at *
      generalize hn : F.length = n at *
      have HSN := Lib.hid hsn
      have HRD := Lib.hid hRd
      have HN := Lib.hid hn
      have HF2 := Lib.hid hF2
      clear hsn hRd hn hF2
      go_upto_region 5 with (first
        | (refine wpList_new rfl rfl zFld rfl ?_; intro w6 hb6 hF6 hs6)
        | (refine wpList_store_agg rfl rfl rfl (cs := #[.string ⟨a.toArray⟩, .string ⟨b.toArray⟩]) rfl hb6 rfl (fld_one _ _) (by kernel_rfl) ?_; intro w7 hb7 hF7 hs7))
      obtain ⟨bx, hbx⟩ : ∃ bx, bx = wr.heap.size := ⟨_, rfl⟩
      rw [← hbx] at hb6 hb7 hs6 hF7 ⊢
      have hF67 : Frm (New wr) wr w7 := hF6.trans (hF7.mono (fun q e => by
        have e2 : q = bx := e
        unfold New; omega))
      have hF07 := hF.out.then_new Up.new hF67
      have hA7 := hA.out.fresh hF67
      have hbl7 := hb7.lt
      have hU7 : Up (New w) w7 := Up.new.frm hF07
      clear hbx hb6 hF6 hs6 hF7 hs7 hF67 hc1 hc2 hA
      have hy0 := hb7.cell 0
      have hy1 := hb7.cell 1
      simp only [List.getElem?_toArray, List.getElem?_cons_zero, List.getElem?_cons_succ] at hy0 hy1
      have HB7 := Lib.hid hb7
      have HF07 := Lib.hid hF07
      have HA7 := Lib.hid hA7
      have HU7 := Lib.hid hU7
      clear hb7 hF07 hA7 hU7
      by_cases hab : a = nm
      · subst hab
        have hs2 := HSN.out
        rw [if_pos rfl] at hs2
        have HS2 := Lib.hid hs2
        clear hs2
        go_wp2_with (at_builtin; refine wpList_append_lit strs rfl rfl rfl HA7.out HU7.out rfl rfl (fun u hu => by simp at hu; subst hu; rfl) (by omega) ?_; intro A9 c9 w9 hA9 hF9 _ _; have HA9 := Lib.hid hA9; have HF9 := Lib.hid (HF07.out.trans hF9); clear hA9 hF9)
        have hA9 := HA9.out
        have e9 : svs F ++ [.string ⟨b.toArray⟩] = svs F2 := by rw [HS2.out]; unfold svs; rw [List.map_append]; rfl
        have el : n + 1 = F2.length := by rw [HS2.out, List.length_append, HN.out]; rfl
        rw [e9, el] at hA9
        have HB9 := Lib.hid hA9
        clear hA9
        clear HA9
        go_roundw
        case rel => exact ⟨k + 1, A9, c9, by omega, by go_num, by rw [HF2.out, el], Lib.hid (by rw [HF2.out]; exact HB9.out), HF9⟩
        case measure => simp [intOf]; omega
      · have hab1 : (a == nm) = false := beq_eq_false_iff_ne.2 hab
        have hs2 := HSN.out
        rw [if_neg hab, List.append_nil] at hs2
        have HS2 := Lib.hid hs2
        clear hs2
        go_wp2_with (fail)
        go_roundw
        case rel => exact ⟨k + 1, B, d, by omega, by go_num, by rw [HF2.out, HS2.out, HN.out], Lib.hid (by rw [HF2.out, HS2.out, HN.out]; exact HA7.out), HF07⟩
        case measure => simp [intOf]; omega
    · obtain rfl : k = l.length := by omega
      have hA2 := hA.out.rd
      rw [List.take_length] at hA2 ⊢
      go_wp2_with (fail)
      go_ret
      exact ⟨B, d, rfl, hA2, hF.out⟩
theorem AnM.trail {w w5 w7 w8 : World} {m : MV} {a : An} {g c8 : Nat} {A8 : Option Addr} {ts : List Fld} (h : AnM w w5 m a) (f57 : Frm (New w5) w5 w7) (hg : g = w5.heap.size) (hl : g < w7.heap.size) (f78 : Frm (New w7) w7 w8) (hR8 : Rd w8 A8 (fvs ts)) (hN8 : ∀ k, blk A8 = some k → w7.heap.size ≤ k) (v : Value) :
    AnM w (w8.setCell ⟨g, 2, none⟩ v) ⟨m.A1, m.c1, m.fs, m.A2, m.c2, m.b, A8, c8, ts⟩ ⟨a.fs, a.b, ts⟩ := by
  have f58 := f57.then_new Up.new f78
  have hs := h.frm.size
  have fs : Frm (· = g) w8 (w8.setCell ⟨g, 2, none⟩ v) := Frm.setCell (M := fun q => q = g) (Frm.refl _ w8) (p := ⟨g, 2, none⟩) rfl v
  refine ⟨⟨(h.min.r1.fresh f58).keep2 fs (fun hn k hk e => ?_), (h.min.r2.fresh f58).keep2 fs (fun hn k hk e => ?_), hR8.keep2 fs (fun hn k hk e => ?_)⟩, h.fs, h.b, rfl, h.n1, h.n2, fun hn k hk => ?_, (h.frm.then_new Up.new f58).trans (fs.mono (fun k hk => by subst hk; unfold New; omega))⟩
  · have := h.min.r1.blk_lt hn hk; have e2 : k = g := e; omega
  · have := h.min.r2.blk_lt hn hk; have e2 : k = g := e; omega
  · have := hN8 k hk; have e2 : k = g := e; omega
  · have := hN8 k hk; have h2 := f57.size; omega
set_option maxRecDepth 100000 in
set_option maxHeartbeats 4000000 in
theorem echo_any (r : RV) (w : World) (hr : RIn w r) (hT : PT w) (hl1 : r.fs.length ≤ 1099511627776) (hl2 : r.b.length ≤ 1099511627776) (hl3 : r.ts.length ≤ 1099511627776) : Calls Tryz.prog 51 #[.agg r.cells] w (AnR w (hEcho r.q)) := by
  obtain ⟨me, sc, au, pa, A1, c1, fs, A2, c2, b, A3, c3, ts⟩ := r
  simp only [RV.cells, RV.q] at *
  have hfr : ∀ (w : World) t cs, Frm (New w) w (w.alloc (.cells cs t)) := fun w t cs => (Frm.refl _ w).alloc Up.new _
  have hs1 : ∀ (w : World) (t : TypeId) cs, (w.alloc (.cells cs t)).heap.size = w.heap.size + 1 := fun w t cs => by simp
  have hrd := fun (m : Bytes) (w' : World) => reads_any m w'
  have hno := fun (w' : World) (f : Frm (New w) w w') => none_any w' (hT.fresh f)
  have hnt := fun (a : Bytes) (w' : World) (f : Frm (New w) w w') => not_any a w' (hT.fresh f)
  have hfi : ∀ w', Frm (New w) w w' → Calls Tryz.prog 66 #[.slice A1 fs.length c1, .string { data := #[99, 111, 110, 116, 101, 110, 116, 45, 116, 121, 112, 101] }] w' fun e w2 => ∃ A' c', e = .returned (.slice A' (findF fs bCT).length c') ∧ Rd w2 A' (svs (findF fs bCT)) ∧ Frm (New w') w' w2 := fun w' f => find_any fs A1 c1 bCT w' (hr.r1.fresh f) hl1
  have hcl : ∀ w', Frm (New w) w w' → Calls Tryz.prog 67 #[.slice A3 ts.length c3] w' fun e w2 => ∃ A' c', e = .returned (.slice A' ts.length c') ∧ App (New w') w2 38 2 A' ts.length c' (fvs ts) ∧ Frm (New w') w' w2 := fun w' f => fclone_any A3 c3 ts w' (hr.r3.fresh f) hl3
  have han : ∀ (w' : World) (B : Option Addr) (d : Nat) (more : List Fld), more.length ≤ 1 → Frm (New w) w w' → Rd w' B (fvs more) → Calls Tryz.prog 29 #[.int .i64 200, .slice A2 b.length c2, .slice B more.length d] w' (AnR w' (ans 200 b more)) := fun w' B d more hm f h => answer_any 200 (by decide) A2 c2 b B d more w' (hr.r2.fresh f) h hl2 (by omega) (hT.fresh f)
  have HFR := Lib.hid hfr
  have HS1 := Lib.hid hs1
  have HRD := Lib.hid hrd
  have HNO := Lib.hid hno
  have HNT := Lib.hid hnt
  have HR := Lib.hid hr
  have HFI := Lib.hid hfi
  have HCL := Lib.hid hcl
  have HAN := Lib.hid han
  clear hfr hs1 hrd hno hnt hr hfi hcl han
  by_cases hpp : me ≠ bPOST ∧ me ≠ bPUT
  · have hq : hEcho ⟨me, sc, au, pa, fs, b, ts⟩ = hNot bPP := by unfold hEcho; rw [if_pos hpp]
    rw [hq]
    obtain ⟨h1, h2⟩ := hpp
    have a1 : (me == [80, 79, 83, 84]) = false := beq_eq_false_iff_ne.2 h1
    have a2 : ¬ me = [80, 79, 83, 84] := h1
    have b1 : (me == [80, 85, 84]) = false := beq_eq_false_iff_ne.2 h2
    have b2 : ¬ me = [80, 85, 84] := h2
    clear hq h1 h2
    obtain ⟨CA, hCA⟩ : ∃ CA, CA = (#[.string ⟨me.toArray⟩, .string ⟨sc.toArray⟩, .string ⟨au.toArray⟩, .string ⟨pa.toArray⟩, .slice A1 fs.length c1, .slice A2 b.length c2, .slice A3 ts.length c3] : Array Value) := ⟨_, rfl⟩
    go_enter Tryz.func51, Tryz.ntmps51
    go_upto_region 1 with (fail)
    rw [← hCA]
    have hb1 := Blk.new w 32 CA
    have hF1 := HFR.out w 32 CA
    have hz1 := HS1.out w 32 CA
    generalize w.alloc (.cells CA 32) = w1 at *
    have hb2 := Blk.new w1 30 #[.slice none 0 0, .slice none 0 0, .slice none 0 0]
    have hF2 := HFR.out w1 30 #[.slice none 0 0, .slice none 0 0, .slice none 0 0]
    generalize w1.alloc (.cells #[.slice none 0 0, .slice none 0 0, .slice none 0 0] 30) = w2 at *
    have hbr := hb1.fresh hF2
    have hF02 := hF1.then_new Up.new hF2
    rw [hz1] at hb2
    rw [hCA] at hbr
    obtain ⟨gr, hgr⟩ : ∃ gr, gr = w.heap.size := ⟨_, rfl⟩
    rw [← hgr] at hbr hb2 hz1 ⊢
    obtain ⟨gm, hgm⟩ : ∃ gm, gm = gr + 1 := ⟨_, rfl⟩
    rw [← hgm] at hb2
    try rw [hz1]
    try rw [← hgm]
    have hgw : w.heap.size ≤ gm := by omega
    have hgrw : w.heap.size ≤ gr := by omega
    have hlm := hb2.lt
    have hlr := hbr.lt
    clear hb1 hF1 hF2 hgr hgm hz1 hCA
    have hy0 := hbr.cell 0
    simp only [List.getElem?_toArray, List.getElem?_cons_zero] at hy0
    have HBR := Lib.hid hbr
    have HB2 := Lib.hid hb2
    have HF02 := Lib.hid hF02
    clear hbr hb2 hF02
    go_wp2_with (first
      | (go_at_call 63; refine (HNT.out bPP _ HF02.out).mono ?_; rintro e w3 ⟨m, rfl, hm⟩; have hbx := HB2.out.fresh hm.frm)
      | (refine wpList_store_agg rfl rfl rfl rfl hbx rfl (msg_one _ _ _ _ _ _ _ _ _) (by kernel_rfl) ?_; intro w8 hb8 hF8 hs8))
    refine bodyPost_ret (results_agg agM rfl rfl hb8 rfl) rfl ?_
    exact ⟨m, rfl, hm.done HF02.out hgw hlm hF8⟩
  · have hq : hEcho ⟨me, sc, au, pa, fs, b, ts⟩ = ⟨ansF 200 b.length (ctOf fs), b, ts⟩ := by unfold hEcho; rw [if_neg hpp]
    rw [hq]
    obtain ⟨F, hF⟩ : ∃ F, F = findF fs bCT := ⟨_, rfl⟩
    have hct : ctOf fs = ctL F := by rw [hF]; rfl
    have hfi2 := HFI.out
    rw [← hF] at hfi2
    rw [hct]
    clear hq hF HFI hct
    have HFI2 := Lib.hid hfi2
    clear hfi2
    have hme : me = bPOST ∨ me = bPUT := by
      by_cases h : me = bPOST
      · exact .inl h
      · by_cases h' : me = bPUT
        · exact .inr h'
        · exact absurd ⟨h, h'⟩ hpp
    clear hpp
    rcases hme with rfl | rfl
    · obtain ⟨CA, hCA⟩ : ∃ CA, CA = (#[.string ⟨bPOST.toArray⟩, .string ⟨sc.toArray⟩, .string ⟨au.toArray⟩, .string ⟨pa.toArray⟩, .slice A1 fs.length c1, .slice A2 b.length c2, .slice A3 ts.length c3] : Array Value) := ⟨_, rfl⟩
      go_enter Tryz.func51, Tryz.ntmps51
      go_upto_region 1 with (fail)
      rw [← hCA]
      have hb1 := Blk.new w 32 CA
      have hF1 := HFR.out w 32 CA
      have hz1 := HS1.out w 32 CA
      generalize w.alloc (.cells CA 32) = w1 at *
      have hb2 := Blk.new w1 30 #[.slice none 0 0, .slice none 0 0, .slice none 0 0]
      have hF2 := HFR.out w1 30 #[.slice none 0 0, .slice none 0 0, .slice none 0 0]
      generalize w1.alloc (.cells #[.slice none 0 0, .slice none 0 0, .slice none 0 0] 30) = w2 at *
      have hbr := hb1.fresh hF2
      have hF02 := hF1.then_new Up.new hF2
      rw [hz1] at hb2
      rw [hCA] at hbr
      obtain ⟨gr, hgr⟩ : ∃ gr, gr = w.heap.size := ⟨_, rfl⟩
      rw [← hgr] at hbr hb2 hz1 ⊢
      obtain ⟨gm, hgm⟩ : ∃ gm, gm = gr + 1 := ⟨_, rfl⟩
      rw [← hgm] at hb2
      try rw [hz1]
      try rw [← hgm]
      have hgw : w.heap.size ≤ gm := by omega
      have hgrw : w.heap.size ≤ gr := by omega
      have hlm := hb2.lt
      have hlr := hbr.lt
      clear hb1 hF1 hF2 hgr hgm hz1 hCA
      have hy0 := hbr.cell 0
      have hy4 := hbr.cell 4
      simp only [List.getElem?_toArray, List.getElem?_cons_zero, List.getElem?_cons_succ] at hy0 hy4
      have HBR := Lib.hid hbr
      have HB2 := Lib.hid hb2
      have HF02 := Lib.hid hF02
      clear hbr hb2 hF02
      go_upto_region 5 with (first
        | (go_at_call 66; refine (HFI2.out _ HF02.out).mono ?_; rintro e w3 ⟨AF, cF, rfl, hRF, hF3⟩))
      have hbr3 := HBR.out.fresh hF3
      have hb3 := HB2.out.fresh hF3
      have hF03 := HF02.out.then_new Up.new hF3
      clear HBR HB2 HF02 hy0 hy4 hF3
      have hy5 := hbr3.cell 5
      have hy6 := hbr3.cell 6
      simp only [List.getElem?_toArray, List.getElem?_cons_zero, List.getElem?_cons_succ] at hy5 hy6
      have hl3 := hbr3.lt
      have hlm3 := hb3.lt
      have HBR3 := Lib.hid hbr3
      have HB3 := Lib.hid hb3
      have HF03 := Lib.hid hF03
      clear hbr3 hb3 hF03
      cases F with
      | nil =>
        have hc4 := HAN.out w3 none 0 [] (by decide) HF03.out Rd.nil
        have hbr4 := HBR3.out
        have hb4 := HB3.out
        have hF04 := HF03.out
        have hq4 : ctL [] = [] := rfl
        rw [hq4]
        clear HBR3 HB3 HF03 HAN hq4
        have HC4 := Lib.hid hc4
        have HBR4 := Lib.hid hbr4
        have HB4 := Lib.hid hb4
        have HF04 := Lib.hid hF04
        clear hc4 hbr4 hb4 hF04
        go_upto_region 8 with (first
          | (go_at_call 29; refine HC4.out.mono ?_; rintro e w5 ⟨m, rfl, hm⟩)
          | (refine wpList_new rfl rfl zMsg rfl ?_; intro w6 hb6 hF6 hs6)
          | (refine wpList_store_agg rfl rfl rfl rfl hb6 rfl (msg_one _ _ _ _ _ _ _ _ _) (by kernel_rfl) ?_; intro w7 hb7 hF7 hs7))
        obtain ⟨gB, hgB⟩ : ∃ gB, gB = w5.heap.size := ⟨_, rfl⟩
        rw [← hgB] at hb6 hb7 hF7 ⊢
        have hF57 : Frm (New w5) w5 w7 := hF6.trans (hF7.mono (fun q e => by have e2 : q = gB := e; unfold New; omega))
        have hF47 := hm.frm.then_new Up.new hF57
        have hbr7 := HBR4.out.fresh hF47
        have hb27 := HB4.out.fresh hF47
        have hF07 := HF04.out.then_new Up.new hF47
        have hlr7 := hbr7.lt
        have hlB7 := hb7.lt
        have hgmB : gm < gB := by have := HB4.out.lt; have := hm.frm.size; omega
        obtain ⟨mA1, mc1, mfs, mA2, mc2, mb, mA3, mc3, mts⟩ := m
        simp only [MV.cells] at hb7
        have hcl7 := HCL.out w7 hF07
        clear hb6 hF6 hs6 hF7 hs7 HBR4 HB4 HC4 HCL hy5 hy6
        have hy6 := hbr7.cell 6
        simp only [List.getElem?_toArray, List.getElem?_cons_zero, List.getElem?_cons_succ] at hy6
        have HB7 := Lib.hid hb7
        clear hb7
        have HBR7 := Lib.hid hbr7
        have HB27 := Lib.hid hb27
        have HCL7 := Lib.hid hcl7
        have HMM := Lib.hid hm
        have HF57 := Lib.hid hF57
        have HGB := Lib.hid hgB
        clear hbr7 hb27 hcl7 hm hF57 hgB
        have hF07b := hF07
        have HF07 := Lib.hid hF07
        clear hF07 hF07b
        go_upto_region 9 with (first
          | (go_at_call 67; refine HCL7.out.mono ?_; rintro e w8 ⟨A8, c8, rfl, hA8, hF8⟩; have hb8 := HB7.out.fresh hF8; have hx2 := hb8.cell 2; simp only [List.getElem?_toArray, List.getElem?_cons_zero, List.getElem?_cons_succ] at hx2; have hx2f := hb8.frozen 2; have hx2l := hb8.lt; have HB8 := Lib.hid hb8; have HA8 := Lib.hid hA8; have HF8 := Lib.hid hF8; clear hb8 hA8 hF8))
        have hAn := HMM.out.trail HF57.out HGB.out hlB7 HF8.out HA8.out.rd (c8 := c8) (fun k hk => HA8.out.inM k hk) (.slice A8 ts.length c8)
        have hb9 := HB8.out.set_ 2 (.slice A8 ts.length c8)
        simp only [List.setIfInBounds_toArray, List.set_cons_zero, List.set_cons_succ] at hb9
        have hb29 := (HB27.out.fresh HF8.out).far (p := ⟨gB, 2, none⟩) (by simp only; omega) (.slice A8 ts.length c8)
        clear hx2 hx2f hx2l HB8 HA8 hy6
        have HB9 := Lib.hid hb9
        clear hb9
        have HB29 := Lib.hid hb29
        have HAN := Lib.hid hAn
        clear hb29 hAn
        generalize w8.setCell ⟨gB, 2, none⟩ (.slice A8 ts.length c8) = w9 at *
        go_wp2_with (first
          | (refine wpList_load_agg agM rfl rfl rfl HB9.out rfl ?_)
          | (refine wpList_store_agg rfl rfl rfl rfl HB29.out rfl (msg_one _ _ _ _ _ _ _ _ _) (by kernel_rfl) ?_; intro w10 hb10 hF10 hs10))
        refine bodyPost_ret (results_agg agM rfl rfl hb10 rfl) rfl ?_
        exact ⟨_, rfl, HAN.out.done HF04.out hgw (by first | omega | (have := HB29.out.lt; omega)) hF10⟩
      | cons v vr =>
        obtain ⟨gF, oF, rfl, hv0⟩ := hRF.at_ (k := 0) (by simp [svs])
        have hv1 : w3.cell? ⟨gF, oF, none⟩ = some (.string ⟨v.toArray⟩) := by simpa [svs, str] using hv0
        have hgF := World.block_lt_of_cell? _ _ hv0
        simp only at hgF
        clear hv0 hRF
        go_upto_region 7 with (at_builtin; refine wpList_append_lit flds rfl rfl rfl App.none_ (Up.new (w := w3)) rfl rfl (fld_one _ _) (by decide) ?_; intro A4 k4 w4 hA4 hF4 _ _; rw [List.nil_append, Nat.zero_add] at hA4)
        try rw [Nat.zero_add]
        have hc4 := HAN.out w4 A4 k4 [(bCT, v)] (by simp) (HF03.out.then_new Up.new hF4) hA4.rd
        have hbr4 := HBR3.out.fresh hF4
        have hb4 := HB3.out.fresh hF4
        have hF04 := HF03.out.then_new Up.new hF4
        have hq4 : ctL (v :: vr) = [(bCT, v)] := rfl
        rw [hq4]
        clear HBR3 HB3 HF03 HAN hq4 hA4 hF4 hv1 hy5 hy6 hl3 hlm3
        have hl4 := hbr4.lt
        have hlm4 := hb4.lt
        have hy5 := hbr4.cell 5
        have hy6 := hbr4.cell 6
        simp only [List.getElem?_toArray, List.getElem?_cons_zero, List.getElem?_cons_succ] at hy5 hy6
        have HC4 := Lib.hid hc4
        have HBR4 := Lib.hid hbr4
        have HB4 := Lib.hid hb4
        have HF04 := Lib.hid hF04
        clear hc4 hbr4 hb4 hF04
        go_upto_region 8 with (first
          | (go_at_call 29; refine HC4.out.mono ?_; rintro e w5 ⟨m, rfl, hm⟩)
          | (refine wpList_new rfl rfl zMsg rfl ?_; intro w6 hb6 hF6 hs6)
          | (refine wpList_store_agg rfl rfl rfl rfl hb6 rfl (msg_one _ _ _ _ _ _ _ _ _) (by kernel_rfl) ?_; intro w7 hb7 hF7 hs7))
        obtain ⟨gB, hgB⟩ : ∃ gB, gB = w5.heap.size := ⟨_, rfl⟩
        rw [← hgB] at hb6 hb7 hF7 ⊢
        have hF57 : Frm (New w5) w5 w7 := hF6.trans (hF7.mono (fun q e => by have e2 : q = gB := e; unfold New; omega))
        have hF47 := hm.frm.then_new Up.new hF57
        have hbr7 := HBR4.out.fresh hF47
        have hb27 := HB4.out.fresh hF47
        have hF07 := HF04.out.then_new Up.new hF47
        have hlr7 := hbr7.lt
        have hlB7 := hb7.lt
        have hgmB : gm < gB := by have := HB4.out.lt; have := hm.frm.size; omega
        obtain ⟨mA1, mc1, mfs, mA2, mc2, mb, mA3, mc3, mts⟩ := m
        simp only [MV.cells] at hb7
        have hcl7 := HCL.out w7 hF07
        clear hb6 hF6 hs6 hF7 hs7 HBR4 HB4 HC4 HCL hy5 hy6
        have hy6 := hbr7.cell 6
        simp only [List.getElem?_toArray, List.getElem?_cons_zero, List.getElem?_cons_succ] at hy6
        have HB7 := Lib.hid hb7
        clear hb7
        have HBR7 := Lib.hid hbr7
        have HB27 := Lib.hid hb27
        have HCL7 := Lib.hid hcl7
        have HMM := Lib.hid hm
        have HF57 := Lib.hid hF57
        have HGB := Lib.hid hgB
        clear hbr7 hb27 hcl7 hm hF57 hgB
        have hF07b := hF07
        have HF07 := Lib.hid hF07
        clear hF07 hF07b
        go_upto_region 9 with (first
          | (go_at_call 67; refine HCL7.out.mono ?_; rintro e w8 ⟨A8, c8, rfl, hA8, hF8⟩; have hb8 := HB7.out.fresh hF8; have hx2 := hb8.cell 2; simp only [List.getElem?_toArray, List.getElem?_cons_zero, List.getElem?_cons_succ] at hx2; have hx2f := hb8.frozen 2; have hx2l := hb8.lt; have HB8 := Lib.hid hb8; have HA8 := Lib.hid hA8; have HF8 := Lib.hid hF8; clear hb8 hA8 hF8))
        have hAn := HMM.out.trail HF57.out HGB.out hlB7 HF8.out HA8.out.rd (c8 := c8) (fun k hk => HA8.out.inM k hk) (.slice A8 ts.length c8)
        have hb9 := HB8.out.set_ 2 (.slice A8 ts.length c8)
        simp only [List.setIfInBounds_toArray, List.set_cons_zero, List.set_cons_succ] at hb9
        have hb29 := (HB27.out.fresh HF8.out).far (p := ⟨gB, 2, none⟩) (by simp only; omega) (.slice A8 ts.length c8)
        clear hx2 hx2f hx2l HB8 HA8 hy6
        have HB9 := Lib.hid hb9
        clear hb9
        have HB29 := Lib.hid hb29
        have HAN := Lib.hid hAn
        clear hb29 hAn
        generalize w8.setCell ⟨gB, 2, none⟩ (.slice A8 ts.length c8) = w9 at *
        go_wp2_with (first
          | (refine wpList_load_agg agM rfl rfl rfl HB9.out rfl ?_)
          | (refine wpList_store_agg rfl rfl rfl rfl HB29.out rfl (msg_one _ _ _ _ _ _ _ _ _) (by kernel_rfl) ?_; intro w10 hb10 hF10 hs10))
        refine bodyPost_ret (results_agg agM rfl rfl hb10 rfl) rfl ?_
        exact ⟨_, rfl, HAN.out.done HF04.out hgw (by first | omega | (have := HB29.out.lt; omega)) hF10⟩
    · obtain ⟨CA, hCA⟩ : ∃ CA, CA = (#[.string ⟨bPUT.toArray⟩, .string ⟨sc.toArray⟩, .string ⟨au.toArray⟩, .string ⟨pa.toArray⟩, .slice A1 fs.length c1, .slice A2 b.length c2, .slice A3 ts.length c3] : Array Value) := ⟨_, rfl⟩
      go_enter Tryz.func51, Tryz.ntmps51
      go_upto_region 1 with (fail)
      rw [← hCA]
      have hb1 := Blk.new w 32 CA
      have hF1 := HFR.out w 32 CA
      have hz1 := HS1.out w 32 CA
      generalize w.alloc (.cells CA 32) = w1 at *
      have hb2 := Blk.new w1 30 #[.slice none 0 0, .slice none 0 0, .slice none 0 0]
      have hF2 := HFR.out w1 30 #[.slice none 0 0, .slice none 0 0, .slice none 0 0]
      generalize w1.alloc (.cells #[.slice none 0 0, .slice none 0 0, .slice none 0 0] 30) = w2 at *
      have hbr := hb1.fresh hF2
      have hF02 := hF1.then_new Up.new hF2
      rw [hz1] at hb2
      rw [hCA] at hbr
      obtain ⟨gr, hgr⟩ : ∃ gr, gr = w.heap.size := ⟨_, rfl⟩
      rw [← hgr] at hbr hb2 hz1 ⊢
      obtain ⟨gm, hgm⟩ : ∃ gm, gm = gr + 1 := ⟨_, rfl⟩
      rw [← hgm] at hb2
      try rw [hz1]
      try rw [← hgm]
      have hgw : w.heap.size ≤ gm := by omega
      have hgrw : w.heap.size ≤ gr := by omega
      have hlm := hb2.lt
      have hlr := hbr.lt
      clear hb1 hF1 hF2 hgr hgm hz1 hCA
      have hy0 := hbr.cell 0
      have hy4 := hbr.cell 4
      simp only [List.getElem?_toArray, List.getElem?_cons_zero, List.getElem?_cons_succ] at hy0 hy4
      have HBR := Lib.hid hbr
      have HB2 := Lib.hid hb2
      have HF02 := Lib.hid hF02
      clear hbr hb2 hF02
      go_upto_region 5 with (first
        | (go_at_call 66; refine (HFI2.out _ HF02.out).mono ?_; rintro e w3 ⟨AF, cF, rfl, hRF, hF3⟩))
      have hbr3 := HBR.out.fresh hF3
      have hb3 := HB2.out.fresh hF3
      have hF03 := HF02.out.then_new Up.new hF3
      clear HBR HB2 HF02 hy0 hy4 hF3
      have hy5 := hbr3.cell 5
      have hy6 := hbr3.cell 6
      simp only [List.getElem?_toArray, List.getElem?_cons_zero, List.getElem?_cons_succ] at hy5 hy6
      have hl3 := hbr3.lt
      have hlm3 := hb3.lt
      have HBR3 := Lib.hid hbr3
      have HB3 := Lib.hid hb3
      have HF03 := Lib.hid hF03
      clear hbr3 hb3 hF03
      cases F with
      | nil =>
        have hc4 := HAN.out w3 none 0 [] (by decide) HF03.out Rd.nil
        have hbr4 := HBR3.out
        have hb4 := HB3.out
        have hF04 := HF03.out
        have hq4 : ctL [] = [] := rfl
        rw [hq4]
        clear HBR3 HB3 HF03 HAN hq4
        have HC4 := Lib.hid hc4
        have HBR4 := Lib.hid hbr4
        have HB4 := Lib.hid hb4
        have HF04 := Lib.hid hF04
        clear hc4 hbr4 hb4 hF04
        go_upto_region 8 with (first
          | (go_at_call 29; refine HC4.out.mono ?_; rintro e w5 ⟨m, rfl, hm⟩)
          | (refine wpList_new rfl rfl zMsg rfl ?_; intro w6 hb6 hF6 hs6)
          | (refine wpList_store_agg rfl rfl rfl rfl hb6 rfl (msg_one _ _ _ _ _ _ _ _ _) (by kernel_rfl) ?_; intro w7 hb7 hF7 hs7))
        obtain ⟨gB, hgB⟩ : ∃ gB, gB = w5.heap.size := ⟨_, rfl⟩
        rw [← hgB] at hb6 hb7 hF7 ⊢
        have hF57 : Frm (New w5) w5 w7 := hF6.trans (hF7.mono (fun q e => by have e2 : q = gB := e; unfold New; omega))
        have hF47 := hm.frm.then_new Up.new hF57
        have hbr7 := HBR4.out.fresh hF47
        have hb27 := HB4.out.fresh hF47
        have hF07 := HF04.out.then_new Up.new hF47
        have hlr7 := hbr7.lt
        have hlB7 := hb7.lt
        have hgmB : gm < gB := by have := HB4.out.lt; have := hm.frm.size; omega
        obtain ⟨mA1, mc1, mfs, mA2, mc2, mb, mA3, mc3, mts⟩ := m
        simp only [MV.cells] at hb7
        have hcl7 := HCL.out w7 hF07
        clear hb6 hF6 hs6 hF7 hs7 HBR4 HB4 HC4 HCL hy5 hy6
        have hy6 := hbr7.cell 6
        simp only [List.getElem?_toArray, List.getElem?_cons_zero, List.getElem?_cons_succ] at hy6
        have HB7 := Lib.hid hb7
        clear hb7
        have HBR7 := Lib.hid hbr7
        have HB27 := Lib.hid hb27
        have HCL7 := Lib.hid hcl7
        have HMM := Lib.hid hm
        have HF57 := Lib.hid hF57
        have HGB := Lib.hid hgB
        clear hbr7 hb27 hcl7 hm hF57 hgB
        have hF07b := hF07
        have HF07 := Lib.hid hF07
        clear hF07 hF07b
        go_upto_region 9 with (first
          | (go_at_call 67; refine HCL7.out.mono ?_; rintro e w8 ⟨A8, c8, rfl, hA8, hF8⟩; have hb8 := HB7.out.fresh hF8; have hx2 := hb8.cell 2; simp only [List.getElem?_toArray, List.getElem?_cons_zero, List.getElem?_cons_succ] at hx2; have hx2f := hb8.frozen 2; have hx2l := hb8.lt; have HB8 := Lib.hid hb8; have HA8 := Lib.hid hA8; have HF8 := Lib.hid hF8; clear hb8 hA8 hF8))
        have hAn := HMM.out.trail HF57.out HGB.out hlB7 HF8.out HA8.out.rd (c8 := c8) (fun k hk => HA8.out.inM k hk) (.slice A8 ts.length c8)
        have hb9 := HB8.out.set_ 2 (.slice A8 ts.length c8)
        simp only [List.setIfInBounds_toArray, List.set_cons_zero, List.set_cons_succ] at hb9
        have hb29 := (HB27.out.fresh HF8.out).far (p := ⟨gB, 2, none⟩) (by simp only; omega) (.slice A8 ts.length c8)
        clear hx2 hx2f hx2l HB8 HA8 hy6
        have HB9 := Lib.hid hb9
        clear hb9
        have HB29 := Lib.hid hb29
        have HAN := Lib.hid hAn
        clear hb29 hAn
        generalize w8.setCell ⟨gB, 2, none⟩ (.slice A8 ts.length c8) = w9 at *
        go_wp2_with (first
          | (refine wpList_load_agg agM rfl rfl rfl HB9.out rfl ?_)
          | (refine wpList_store_agg rfl rfl rfl rfl HB29.out rfl (msg_one _ _ _ _ _ _ _ _ _) (by kernel_rfl) ?_; intro w10 hb10 hF10 hs10))
        refine bodyPost_ret (results_agg agM rfl rfl hb10 rfl) rfl ?_
        exact ⟨_, rfl, HAN.out.done HF04.out hgw (by first | omega | (have := HB29.out.lt; omega)) hF10⟩
      | cons v vr =>
        obtain ⟨gF, oF, rfl, hv0⟩ := hRF.at_ (k := 0) (by simp [svs])
        have hv1 : w3.cell? ⟨gF, oF, none⟩ = some (.string ⟨v.toArray⟩) := by simpa [svs, str] using hv0
        have hgF := World.block_lt_of_cell? _ _ hv0
        simp only at hgF
        clear hv0 hRF
        go_upto_region 7 with (at_builtin; refine wpList_append_lit flds rfl rfl rfl App.none_ (Up.new (w := w3)) rfl rfl (fld_one _ _) (by decide) ?_; intro A4 k4 w4 hA4 hF4 _ _; rw [List.nil_append, Nat.zero_add] at hA4)
        try rw [Nat.zero_add]
        have hc4 := HAN.out w4 A4 k4 [(bCT, v)] (by simp) (HF03.out.then_new Up.new hF4) hA4.rd
        have hbr4 := HBR3.out.fresh hF4
        have hb4 := HB3.out.fresh hF4
        have hF04 := HF03.out.then_new Up.new hF4
        have hq4 : ctL (v :: vr) = [(bCT, v)] := rfl
        rw [hq4]
        clear HBR3 HB3 HF03 HAN hq4 hA4 hF4 hv1 hy5 hy6 hl3 hlm3
        have hl4 := hbr4.lt
        have hlm4 := hb4.lt
        have hy5 := hbr4.cell 5
        have hy6 := hbr4.cell 6
        simp only [List.getElem?_toArray, List.getElem?_cons_zero, List.getElem?_cons_succ] at hy5 hy6
        have HC4 := Lib.hid hc4
        have HBR4 := Lib.hid hbr4
        have HB4 := Lib.hid hb4
        have HF04 := Lib.hid hF04
        clear hc4 hbr4 hb4 hF04
        go_upto_region 8 with (first
          | (go_at_call 29; refine HC4.out.mono ?_; rintro e w5 ⟨m, rfl, hm⟩)
          | (refine wpList_new rfl rfl zMsg rfl ?_; intro w6 hb6 hF6 hs6)
          | (refine wpList_store_agg rfl rfl rfl rfl hb6 rfl (msg_one _ _ _ _ _ _ _ _ _) (by kernel_rfl) ?_; intro w7 hb7 hF7 hs7))
        obtain ⟨gB, hgB⟩ : ∃ gB, gB = w5.heap.size := ⟨_, rfl⟩
        rw [← hgB] at hb6 hb7 hF7 ⊢
        have hF57 : Frm (New w5) w5 w7 := hF6.trans (hF7.mono (fun q e => by have e2 : q = gB := e; unfold New; omega))
        have hF47 := hm.frm.then_new Up.new hF57
        have hbr7 := HBR4.out.fresh hF47
        have hb27 := HB4.out.fresh hF47
        have hF07 := HF04.out.then_new Up.new hF47
        have hlr7 := hbr7.lt
        have hlB7 := hb7.lt
        have hgmB : gm < gB := by have := HB4.out.lt; have := hm.frm.size; omega
        obtain ⟨mA1, mc1, mfs, mA2, mc2, mb, mA3, mc3, mts⟩ := m
        simp only [MV.cells] at hb7
        have hcl7 := HCL.out w7 hF07
        clear hb6 hF6 hs6 hF7 hs7 HBR4 HB4 HC4 HCL hy5 hy6
        have hy6 := hbr7.cell 6
        simp only [List.getElem?_toArray, List.getElem?_cons_zero, List.getElem?_cons_succ] at hy6
        have HB7 := Lib.hid hb7
        clear hb7
        have HBR7 := Lib.hid hbr7
        have HB27 := Lib.hid hb27
        have HCL7 := Lib.hid hcl7
        have HMM := Lib.hid hm
        have HF57 := Lib.hid hF57
        have HGB := Lib.hid hgB
        clear hbr7 hb27 hcl7 hm hF57 hgB
        have hF07b := hF07
        have HF07 := Lib.hid hF07
        clear hF07 hF07b
        go_upto_region 9 with (first
          | (go_at_call 67; refine HCL7.out.mono ?_; rintro e w8 ⟨A8, c8, rfl, hA8, hF8⟩; have hb8 := HB7.out.fresh hF8; have hx2 := hb8.cell 2; simp only [List.getElem?_toArray, List.getElem?_cons_zero, List.getElem?_cons_succ] at hx2; have hx2f := hb8.frozen 2; have hx2l := hb8.lt; have HB8 := Lib.hid hb8; have HA8 := Lib.hid hA8; have HF8 := Lib.hid hF8; clear hb8 hA8 hF8))
        have hAn := HMM.out.trail HF57.out HGB.out hlB7 HF8.out HA8.out.rd (c8 := c8) (fun k hk => HA8.out.inM k hk) (.slice A8 ts.length c8)
        have hb9 := HB8.out.set_ 2 (.slice A8 ts.length c8)
        simp only [List.setIfInBounds_toArray, List.set_cons_zero, List.set_cons_succ] at hb9
        have hb29 := (HB27.out.fresh HF8.out).far (p := ⟨gB, 2, none⟩) (by simp only; omega) (.slice A8 ts.length c8)
        clear hx2 hx2f hx2l HB8 HA8 hy6
        have HB9 := Lib.hid hb9
        clear hb9
        have HB29 := Lib.hid hb29
        have HAN := Lib.hid hAn
        clear hb29 hAn
        generalize w8.setCell ⟨gB, 2, none⟩ (.slice A8 ts.length c8) = w9 at *
        go_wp2_with (first
          | (refine wpList_load_agg agM rfl rfl rfl HB9.out rfl ?_)
          | (refine wpList_store_agg rfl rfl rfl rfl HB29.out rfl (msg_one _ _ _ _ _ _ _ _ _) (by kernel_rfl) ?_; intro w10 hb10 hF10 hs10))
        refine bodyPost_ret (results_agg agM rfl rfl hb10 rfl) rfl ?_
        exact ⟨_, rfl, HAN.out.done HF04.out hgw (by first | omega | (have := HB29.out.lt; omega)) hF10⟩
end Go.Proofs.YtpojejdddgdjdaaGreatDoor.M
