/- Handle, New, Get, Keys; At, Strings: what they return. Bodies below 2^40. -/
import Derived.BigQuiet
import Derived.Deep.CutBlock
import Derived.Lib.Hide
import Derived.IntWalk
import Derived.Test.YtpojejdddgdjdaaGreatDoorHag
import Derived.Test.YtpojejdddgdjdaaGreatDoorLk
namespace Go.Proofs.YtpojejdddgdjdaaGreatDoor.M
open Go.ChangeShapes Go.WideShapes Go.ChangeAt Go.RowKit
theorem AnB.fresh {bk : Nat} {w0 w w' : World} {m : MV} {a : An} (h : AnB bk w0 w m a) (f : Frm (New w) w w') : AnB bk w0 w' m a :=
  ⟨h.min.fresh f, h.fs, h.b, h.ts, h.n1, h.n2, h.n3, h.frm.trans (f.mono (fun k hk => .inr (by have := h.frm.size; unfold New at hk ⊢; omega)))⟩
theorem AnB.nob {bk : Nat} {w0 w : World} {m : MV} {a : An} (h : AnB bk w0 w m a) : AnB bk w0 w ⟨m.A1, m.c1, m.fs, none, 0, [], m.A3, m.c3, m.ts⟩ { a with b := [] } :=
  ⟨⟨h.min.r1, Rd.nil, h.min.r3⟩, h.fs, rfl, h.ts, h.n1, fun hn => absurd rfl hn, h.n3, h.frm⟩
set_option maxRecDepth 100000 in
set_option maxHeartbeats 4000000 in
theorem handle_any (r : RV) (w : World) (p bm : Nat) (L : List (Bytes × SV)) (hK : KAt w p bm L) (hr : RIn w r) (hT : PT w) (hl1 : r.fs.length ≤ 1099511627776) (hl2 : r.b.length ≤ 1099511627776) (hl3 : r.ts.length ≤ 1099511627776) (hpl : r.pa.length ≤ 1099511627776) :
    Calls Tryz.prog 10 #[.pointer (some ⟨p, 0, none⟩), .agg r.cells] w (KeyedR w p bm L (handle (sto L) r.q)) := by
  have hpa := fun (w' : World) (f : Frm (New w) w w') => path_any r w' p bm L (hK.fresh f) (hr.fresh f) (hT.fresh f) hl1 hl2 hl3 hpl
  have hlKb : bm < w.heap.size := hK.map.lt
  have hlKp : p < w.heap.size := hK.blk.lt
  obtain ⟨me, sc, au, pa, A1, c1, fs, A2, c2, b, A3, c3, ts⟩ := r
  simp only [RV.cells, RV.q] at *
  generalize hQ : KeyedR w p bm L (handle (sto L) ⟨me, sc, au, pa, fs, b, ts⟩) = Q
  have hfr : ∀ (w : World) t cs, Frm (New w) w (w.alloc (.cells cs t)) := fun w t cs => (Frm.refl _ w).alloc Up.new _
  have hs1 : ∀ (w : World) (t : TypeId) cs, (w.alloc (.cells cs t)).heap.size = w.heap.size + 1 := fun w t cs => by simp
  have HFR := Lib.hid hfr
  have HS1 := Lib.hid hs1
  have HR := Lib.hid hr
  have HK := Lib.hid hK
  have HPA := Lib.hid hpa
  have HQQ := Lib.hid hQ
  clear hfr hs1 hr hK hpa hQ
  obtain ⟨CA, hCA⟩ : ∃ CA, CA = (#[.string ⟨me.toArray⟩, .string ⟨sc.toArray⟩, .string ⟨au.toArray⟩, .string ⟨pa.toArray⟩, .slice A1 fs.length c1, .slice A2 b.length c2, .slice A3 ts.length c3] : Array Value) := ⟨_, rfl⟩
  go_enter Tryz.func10, Tryz.ntmps10
  go_upto_region 1 with (fail)
  rw [← hCA]
  have hb1 := Blk.new w 32 CA
  have hF1 := HFR.out w 32 CA
  have hz1 := HS1.out w 32 CA
  generalize w.alloc (.cells CA 32) = w1 at *
  have hb2 := Blk.new w1 30 #[.slice none 0 0, .slice none 0 0, .slice none 0 0]
  have hF2 := HFR.out w1 30 #[.slice none 0 0, .slice none 0 0, .slice none 0 0]
  generalize w1.alloc (.cells #[.slice none 0 0, .slice none 0 0, .slice none 0 0] 30) = w2 at *
  have hbr := hb1.fresh hF2
  have hF02 := hF1.then_new Up.new hF2
  rw [hz1] at hb2
  rw [hCA] at hbr
  obtain ⟨gr, hgr⟩ : ∃ gr, gr = w.heap.size := ⟨_, rfl⟩
  rw [← hgr] at hbr hb2 hz1 ⊢
  obtain ⟨gm, hgm⟩ : ∃ gm, gm = gr + 1 := ⟨_, rfl⟩
  rw [← hgm] at hb2
  try rw [hz1]
  try rw [← hgm]
  have hgw : w.heap.size ≤ gm := by omega
  have hgrw : w.heap.size ≤ gr := by omega
  have hlm := hb2.lt
  have hlr := hbr.lt
  clear hb1 hF1 hF2 hgr hgm hz1 hCA
  have hy0 := hbr.cell 0
  simp only [List.getElem?_toArray, List.getElem?_cons_zero] at hy0
  have HBR := Lib.hid hbr
  have HB2 := Lib.hid hb2
  have HF02 := Lib.hid hF02
  clear hbr hb2 hF02
  go_upto_region 2 with (first
    | (refine wpList_load_agg agR rfl rfl rfl HBR.out rfl ?_)
    | (go_at_call 27; refine (HPA.out _ HF02.out).mono ?_; rintro e w5 ⟨m, L', rfl, hm, hK5, hs5, ho5⟩)
    | (refine wpList_new rfl rfl zMsg rfl ?_; intro w6 hb6 hF6 hs6)
    | (refine wpList_store_agg rfl rfl rfl rfl hb6 rfl (msg_one _ _ _ _ _ _ _ _ _) (by kernel_rfl) ?_; intro w7 hb7 hF7 hs7))
  obtain ⟨gB, hgB⟩ : ∃ gB, gB = w5.heap.size := ⟨_, rfl⟩
  rw [← hgB] at hb6 hb7 hF7 ⊢
  have hF57 : Frm (New w5) w5 w7 := hF6.trans (hF7.mono (fun q e => by have e2 : q = gB := e; unfold New; omega))
  have hF27 : Frm (fun z => z = bm ∨ New w2 z) w2 w7 := hm.frm.trans (hF57.mono (fun z hz => .inr (by have := hm.frm.size; unfold New at hz ⊢; omega)))
  have hnb : ∀ g, g ≠ bm → g < w2.heap.size → ¬ (g = bm ∨ New w2 g) := fun g h1 h2 h => by
    rcases h with h | h
    · exact h1 h
    · unfold New at h; omega
  have hbr7 := HBR.out.keep hF27 (hnb gr (by omega) hlr)
  have hb27 := HB2.out.keep hF27 (hnb gm (by omega) hlm)
  have hAn7 := hm.fresh hF57
  have hK7 := hK5.fresh hF57
  have hlB7 := hb7.lt
  have hgmB : gm < gB := by have := hm.frm.size; omega
  have hgB5 : w5.heap.size ≤ gB := by omega
  clear hgB
  have hlr7 := hbr7.lt
  obtain ⟨mA1, mc1, mfs, mA2, mc2, mb, mA3, mc3, mts⟩ := m
  simp only [MV.cells] at hb7
  have hnh : ¬ me = bHEAD → handle (sto L) (⟨me, sc, au, pa, fs, b, ts⟩ : RQ) = hPath (sto L) (⟨me, sc, au, pa, fs, b, ts⟩ : RQ) := fun h => by unfold handle hNoBody; rw [if_neg h]
  have hyh : me = bHEAD → handle (sto L) (⟨me, sc, au, pa, fs, b, ts⟩ : RQ) = (⟨(hPath (sto L) (⟨me, sc, au, pa, fs, b, ts⟩ : RQ)).1.fs, [], (hPath (sto L) (⟨me, sc, au, pa, fs, b, ts⟩ : RQ)).1.ts⟩, (hPath (sto L) (⟨me, sc, au, pa, fs, b, ts⟩ : RQ)).2) := fun h => by unfold handle hNoBody; rw [if_pos h]
  clear hb6 hF6 hs6 hF7 hs7 HBR HB2 hy0 hF27 hnb
  have hy0 := hbr7.cell 0
  simp only [List.getElem?_toArray, List.getElem?_cons_zero] at hy0
  have HB7 := Lib.hid hb7
  clear hb7
  have HBR7 := Lib.hid hbr7
  have HB27 := Lib.hid hb27
  have HAN := Lib.hid hAn7
  have HK7 := Lib.hid hK7
  have HO5 := Lib.hid ho5
  have HS5 := Lib.hid hs5
  have HNH := Lib.hid hnh
  have HYH := Lib.hid hyh
  have HF57 := Lib.hid hF57
  have HMM := Lib.hid hm
  have HK5 := Lib.hid hK5
  clear hbr7 hb27 hAn7 hK7 ho5 hs5 hnh hyh hF57 hm hK5
  by_cases hme : me = bHEAD
  · have hyy := HYH.out hme
    subst hme
    have hc1 := HB7.out.cell 1
    have hf1 := HB7.out.frozen 1
    simp only [List.getElem?_toArray, List.getElem?_cons_zero, List.getElem?_cons_succ] at hc1
    have hb9 := HB7.out.set_ 1 (.slice none 0 0)
    simp only [List.setIfInBounds_toArray, List.set_cons_zero, List.set_cons_succ] at hb9
    have hFs : Frm (New w5) w5 (w7.setCell ⟨gB, 1, none⟩ (.slice none 0 0)) := HF57.out.trans (Frm.setCell (M := New w5) (Frm.refl _ w7) (p := ⟨gB, 1, none⟩) hgB5 _)
    have hb29 := HB27.out.far (p := ⟨gB, 1, none⟩) (by simp only; omega) (.slice none 0 0)
    go_upto_region 4 with (fail)
    clear hc1 hf1 hy0
    generalize w7.setCell ⟨gB, 1, none⟩ (.slice none 0 0) = w9 at *
    have HB9 := Lib.hid hb9
    have HB29 := Lib.hid hb29
    have HFS := Lib.hid hFs
    have HYY := Lib.hid hyy
    clear hb9 hb29 hFs hyy
    go_wp2_with (first
      | (refine wpList_load_agg agM rfl rfl rfl HB9.out rfl ?_)
      | (refine wpList_store_agg rfl rfl rfl rfl HB29.out rfl (msg_one _ _ _ _ _ _ _ _ _) (by kernel_rfl) ?_; intro w10 hb10 hF10 hs10))
    refine bodyPost_ret (results_agg agM rfl rfl hb10 rfl) rfl ?_
    rw [← HQQ.out, HYY.out]
    obtain ⟨k1, k2, k3⟩ := keyed_done HK.out (HMM.out.nob.fresh HFS.out) (HK5.out.fresh HFS.out) HO5.out HF02.out hgw hlm hF10
    exact ⟨_, L', rfl, k1, k2, HS5.out, k3⟩
  · have hnn := HNH.out hme
    have a1 : (me == [72, 69, 65, 68]) = false := beq_eq_false_iff_ne.2 hme
    have a2 : ¬ me = [72, 69, 65, 68] := hme
    clear hme
    have HNN := Lib.hid hnn
    clear hnn
    go_wp2_with (first
      | (refine wpList_load_agg agM rfl rfl rfl HB7.out rfl ?_)
      | (refine wpList_store_agg rfl rfl rfl rfl HB27.out rfl (msg_one _ _ _ _ _ _ _ _ _) (by kernel_rfl) ?_; intro w10 hb10 hF10 hs10))
    refine bodyPost_ret (results_agg agM rfl rfl hb10 rfl) rfl ?_
    rw [← HQQ.out, HNN.out]
    obtain ⟨k1, k2, k3⟩ := keyed_done HK.out HAN.out HK7.out HO5.out HF02.out hgw hlm hF10
    exact ⟨_, L', rfl, k1, k2, HS5.out, k3⟩
end Go.Proofs.YtpojejdddgdjdaaGreatDoor.M
