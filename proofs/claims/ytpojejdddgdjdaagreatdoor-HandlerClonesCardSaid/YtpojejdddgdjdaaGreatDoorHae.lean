/- sum: what the handler answers. Bodies below 2^40. -/
import Derived.BigQuiet
import Derived.Deep.CutBlock
import Derived.Lib.Hide
import Derived.IntWalk
import Derived.Test.YtpojejdddgdjdaaGreatDoorHad
namespace Go.Proofs.YtpojejdddgdjdaaGreatDoor.M
open Go.ChangeShapes Go.WideShapes Go.ChangeAt Go.RowKit
theorem sumB_snoc (b : Bytes) (c : UInt8) : sumB (b ++ [c]) = sumB b + c.toNat := by simp [sumB]
theorem sumB_le (b : Bytes) : sumB b ≤ 255 * b.length := by
  induction b with
  | nil => exact Nat.le_refl _
  | cons c r ih =>
    have h : sumB (c :: r) = c.toNat + sumB r := by simp [sumB]
    have := c.toNat_lt
    rw [h, List.length_cons]
    omega
set_option maxRecDepth 100000 in
set_option maxHeartbeats 4000000 in
theorem sum_any (r : RV) (w : World) (hr : RIn w r) (hT : PT w) (hl2 : r.b.length ≤ 1099511627776) : Calls Tryz.prog 52 #[.agg r.cells] w (AnR w (hSum r.q)) := by
  obtain ⟨me, sc, au, pa, A1, c1, fs, A2, c2, b, A3, c3, ts⟩ := r
  simp only [RV.cells, RV.q] at *
  have hfr : ∀ (w : World) t cs, Frm (New w) w (w.alloc (.cells cs t)) := fun w t cs => (Frm.refl _ w).alloc Up.new _
  have hs1 : ∀ (w : World) (t : TypeId) cs, (w.alloc (.cells cs t)).heap.size = w.heap.size + 1 := fun w t cs => by simp
  have hrd := fun (m : Bytes) (w' : World) => reads_any m w'
  have hno := fun (w' : World) (f : Frm (New w) w w') => none_any w' (hT.fresh f)
  have hnt := fun (a : Bytes) (w' : World) (f : Frm (New w) w w') => not_any a w' (hT.fresh f)
  have han : ∀ (w' : World) (g : Nat), Frm (New w) w w' → Rd w' (some ⟨g, 0, none⟩) (bvs bOk) → Calls Tryz.prog 29 #[.int .i64 200, .slice (some ⟨g, 0, none⟩) 2 2, .slice none 0 0] w' (AnR w' (ans 200 bOk [])) := fun w' g f h => answer_any 200 (by decide) _ 2 bOk none 0 [] w' h Rd.nil (by decide) (Nat.zero_le _) (hT.fresh f)
  have hit : ∀ (n : Nat), n ≤ 9223372036854775807 → ∀ w', Frm (New w) w w' → Calls Tryz.prog 54 #[.int .i64 (n : Int)] w' fun e w2 => e = .returned (.string ⟨(decB n).toArray⟩) ∧ Frm (New w') w' w2 := fun n hn w' f => itoa_dec n hn w' (hT.fresh f)
  have hRb := hr.r2
  simp only at hRb
  have HFR := Lib.hid hfr
  have HS1 := Lib.hid hs1
  have HRD := Lib.hid hrd
  have HNO := Lib.hid hno
  have HNT := Lib.hid hnt
  have HR := Lib.hid hr
  have HAN := Lib.hid han
  have HIT := Lib.hid hit
  have HRB := Lib.hid hRb
  clear hfr hs1 hrd hno hnt hr han hit hRb
  by_cases hme : me = bPOST
  · have hq : hSum ⟨me, sc, au, pa, fs, b, ts⟩ = ⟨ansF 200 2 [], bOk, [(bXs, decB (sumB b))]⟩ := by unfold hSum; rw [if_neg (fun h => h hme)]
    rw [hq]
    subst hme
    clear hq
    obtain ⟨CA, hCA⟩ : ∃ CA, CA = (#[.string ⟨bPOST.toArray⟩, .string ⟨sc.toArray⟩, .string ⟨au.toArray⟩, .string ⟨pa.toArray⟩, .slice A1 fs.length c1, .slice A2 b.length c2, .slice A3 ts.length c3] : Array Value) := ⟨_, rfl⟩
    go_enter Tryz.func52, Tryz.ntmps52
    go_upto_region 1 with (fail)
    rw [← hCA]
    have hb1 := Blk.new w 32 CA
    have hF1 := HFR.out w 32 CA
    have hz1 := HS1.out w 32 CA
    generalize w.alloc (.cells CA 32) = w1 at *
    have hb2 := Blk.new w1 30 #[.slice none 0 0, .slice none 0 0, .slice none 0 0]
    have hF2 := HFR.out w1 30 #[.slice none 0 0, .slice none 0 0, .slice none 0 0]
    generalize w1.alloc (.cells #[.slice none 0 0, .slice none 0 0, .slice none 0 0] 30) = w2 at *
    have hbr := hb1.fresh hF2
    have hF02 := hF1.then_new Up.new hF2
    rw [hz1] at hb2
    rw [hCA] at hbr
    obtain ⟨gr, hgr⟩ : ∃ gr, gr = w.heap.size := ⟨_, rfl⟩
    rw [← hgr] at hbr hb2 hz1 ⊢
    obtain ⟨gm, hgm⟩ : ∃ gm, gm = gr + 1 := ⟨_, rfl⟩
    rw [← hgm] at hb2
    try rw [hz1]
    try rw [← hgm]
    have hgw : w.heap.size ≤ gm := by omega
    have hgrw : w.heap.size ≤ gr := by omega
    have hlm := hb2.lt
    have hlr := hbr.lt
    clear hb1 hF1 hF2 hgr hgm hz1 hCA
    have hy0 := hbr.cell 0
    have hy5 := hbr.cell 5
    simp only [List.getElem?_toArray, List.getElem?_cons_zero, List.getElem?_cons_succ] at hy0 hy5
    have HBR := Lib.hid hbr
    have HB2 := Lib.hid hb2
    have HF02 := Lib.hid hF02
    clear hbr hb2 hF02
    have hRb2 := HRB.out.fresh HF02.out
    have hz : sumB (b.take 0) = 0 := rfl
    have HRB2 := Lib.hid hRb2
    have HZ := Lib.hid hz
    clear hRb2 hz
    go_upto_region 5 with (fail)
    go_loopw [3, 14] (fun v3 v14 wr => ∃ i : Nat, i ≤ b.length ∧ v14 = .int .i64 i ∧ v3 = .int .i64 ((sumB (b.take i) : Nat) : Int) ∧ wr = w2) (fun _ v14 _ => b.length - (intOf v14).toNat)
    case atStart => exact ⟨0, Nat.zero_le _, rfl, rfl, rfl⟩
    case round =>
      obtain ⟨i, hi, rfl, rfl, rfl⟩ := hrel
      rename World => wr
      by_cases hlt : i < b.length
      · obtain ⟨g, off, rfl, hc0⟩ := HRB2.out.at_ (k := i) (by simpa [bvs] using hlt)
        simp only [bvs, List.getElem_map, bv] at hc0
        have htk : b.take (i + 1) = b.take i ++ [b[i]] := List.take_succ_eq_append_getElem hlt
        have hsn := sumB_snoc (b.take i) b[i]
        rw [← htk] at hsn
        have hle := sumB_le (b.take i)
        have hlen : (b.take i).length ≤ b.length := by rw [List.length_take]; omega
        have hg := World.block_lt_of_cell? _ _ hc0
        simp only at hg
        generalize b[i] = x at *
        have hx := x.toNat_lt
        generalize sumB (b.take i) = s at *
        generalize hs2 : sumB (b.take (i + 1)) = s2 at *
        have HSN := Lib.hid hsn
        have HS2 := Lib.hid hs2
        clear hsn hs2
        go_wp2_with (fail)
        go_roundw
        case rel => exact ⟨i + 1, by omega, by go_num, by rw [HS2.out, HSN.out]; go_num, by first | rfl | trivial⟩
        case measure => simp [intOf]; omega
      · obtain rfl : i = b.length := by omega
        rw [List.take_length]
        have hsl := sumB_le b
        generalize sumB b = s at *
        clear hy0 hy5
        have hlit := run_lit wr #[.int .u8 111, .int .u8 107] 2 2
        have hRk : Rd (wr.alloc (.cells #[.int .u8 111, .int .u8 107] 5 (2, 3))) (some ⟨wr.heap.size, 0, none⟩) (bvs bOk) := Rd.lit wr bOk _ _ _ rfl
        have hFk : Frm (New wr) wr (wr.alloc (.cells #[.int .u8 111, .int .u8 107] 5 (2, 3))) := (Frm.refl _ wr).alloc Up.new _
        have hc4 := HAN.out _ _ (HF02.out.then_new Up.new hFk) hRk
        have hb4 := HB2.out.fresh hFk
        have hF04 := HF02.out.then_new Up.new hFk
        have hlm4 := hb4.lt
        clear hRk hFk HAN HB2 HBR HRB HRB2
        have HC4 := Lib.hid hc4
        have HB4 := Lib.hid hb4
        have HF04 := Lib.hid hF04
        clear hc4 hb4 hF04
        go_upto_region 10 with (first
          | (go_at_call 29; refine HC4.out.mono ?_; rintro e w5 ⟨m, rfl, hm⟩)
          | (refine wpList_new rfl rfl zMsg rfl ?_; intro w6 hb6 hF6 hs6)
          | (refine wpList_store_agg rfl rfl rfl rfl hb6 rfl (msg_one _ _ _ _ _ _ _ _ _) (by kernel_rfl) ?_; intro w7 hb7 hF7 hs7))
        obtain ⟨gB, hgB⟩ : ∃ gB, gB = w5.heap.size := ⟨_, rfl⟩
        rw [← hgB] at hb6 hb7 hF7 ⊢
        have hF57 : Frm (New w5) w5 w7 := hF6.trans (hF7.mono (fun q e => by have e2 : q = gB := e; unfold New; omega))
        have hF47 := hm.frm.then_new Up.new hF57
        have hb27 := HB4.out.fresh hF47
        have hF07 := HF04.out.then_new Up.new hF47
        have hlB7 := hb7.lt
        have hgmB : gm < gB := by have := HB4.out.lt; have := hm.frm.size; omega
        obtain ⟨mA1, mc1, mfs, mA2, mc2, mb, mA3, mc3, mts⟩ := m
        simp only [MV.cells] at hb7
        have hit7 := HIT.out s (by omega) w7 hF07
        obtain ⟨ds, hds⟩ : ∃ ds, ds = decB s := ⟨_, rfl⟩
        rw [← hds] at hit7
        clear hb6 hF6 hs6 hF7 hs7 HB4 HC4 HIT hlit
        have HDS := Lib.hid hds
        clear hds
        have HB7 := Lib.hid hb7
        clear hb7
        have HB27 := Lib.hid hb27
        have HIT7 := Lib.hid hit7
        have HMM := Lib.hid hm
        have HF57 := Lib.hid hF57
        have HGB := Lib.hid hgB
        have HF07 := Lib.hid hF07
        clear hb27 hit7 hm hF57 hgB hF07
        go_upto_region 11 with (first
          | (go_at_call 54; refine HIT7.out.mono ?_; rintro e w8 ⟨rfl, hF8⟩; have hF8b := hF8.alloc Up.new (.cells #[.string ⟨#[120, 45, 115, 117, 109]⟩, .string ⟨ds.toArray⟩] 38); have hb8 := HB7.out.fresh hF8b; have hx2 := hb8.cell 2; simp only [List.getElem?_toArray, List.getElem?_cons_zero, List.getElem?_cons_succ] at hx2; have hx2f := hb8.frozen 2; have hx2l := hb8.lt; have HB8 := Lib.hid hb8; have HF8 := Lib.hid hF8b; have hF8c := Lib.hid hF8; clear hb8 hF8b hF8))
        have hR8 : Rd (w8.alloc (.cells #[.string ⟨#[120, 45, 115, 117, 109]⟩, .string ⟨ds.toArray⟩] 38)) (some ⟨w8.heap.size, 0, none⟩) (fvs [(bXs, ds)]) := Rd.new w8 _ _
        have hN8 : ∀ k, blk (some ⟨w8.heap.size, 0, none⟩) = some k → w7.heap.size ≤ k := fun k hk => by cases hk; exact hF8c.out.size
        have hAn := HMM.out.trail HF57.out HGB.out hlB7 HF8.out hR8 (c8 := 1) hN8 (.slice (some ⟨w8.heap.size, 0, none⟩) 1 1)
        have hb9 := HB8.out.set_ 2 (.slice (some ⟨w8.heap.size, 0, none⟩) 1 1)
        simp only [List.setIfInBounds_toArray, List.set_cons_zero, List.set_cons_succ] at hb9
        have hb29 := (HB27.out.fresh HF8.out).far (p := ⟨gB, 2, none⟩) (by simp only; omega) (.slice (some ⟨w8.heap.size, 0, none⟩) 1 1)
        clear hx2 hx2f hx2l HB8 hR8 hN8
        have HB9 := Lib.hid hb9
        clear hb9
        have HB29 := Lib.hid hb29
        have HAN := Lib.hid hAn
        clear hb29 hAn
        generalize (w8.alloc (.cells #[.string ⟨#[120, 45, 115, 117, 109]⟩, .string ⟨ds.toArray⟩] 38)).setCell ⟨gB, 2, none⟩ (.slice (some ⟨w8.heap.size, 0, none⟩) 1 1) = w9 at *
        go_wp2_with (first
          | (refine wpList_load_agg agM rfl rfl rfl HB9.out rfl ?_)
          | (refine wpList_store_agg rfl rfl rfl rfl HB29.out rfl (msg_one _ _ _ _ _ _ _ _ _) (by kernel_rfl) ?_; intro w10 hb10 hF10 hs10))
        refine bodyPost_ret (results_agg agM rfl rfl hb10 rfl) rfl ?_
        rw [← HDS.out]
        exact ⟨_, rfl, HAN.out.done HF04.out hgw hlm4 hF10⟩
  · have hq : hSum ⟨me, sc, au, pa, fs, b, ts⟩ = hNot bPOST := by unfold hSum; rw [if_pos hme]
    rw [hq]
    have a1 : (me == [80, 79, 83, 84]) = false := beq_eq_false_iff_ne.2 hme
    have a2 : ¬ me = [80, 79, 83, 84] := hme
    clear hq hme
    obtain ⟨CA, hCA⟩ : ∃ CA, CA = (#[.string ⟨me.toArray⟩, .string ⟨sc.toArray⟩, .string ⟨au.toArray⟩, .string ⟨pa.toArray⟩, .slice A1 fs.length c1, .slice A2 b.length c2, .slice A3 ts.length c3] : Array Value) := ⟨_, rfl⟩
    go_enter Tryz.func52, Tryz.ntmps52
    go_upto_region 1 with (fail)
    rw [← hCA]
    have hb1 := Blk.new w 32 CA
    have hF1 := HFR.out w 32 CA
    have hz1 := HS1.out w 32 CA
    generalize w.alloc (.cells CA 32) = w1 at *
    have hb2 := Blk.new w1 30 #[.slice none 0 0, .slice none 0 0, .slice none 0 0]
    have hF2 := HFR.out w1 30 #[.slice none 0 0, .slice none 0 0, .slice none 0 0]
    generalize w1.alloc (.cells #[.slice none 0 0, .slice none 0 0, .slice none 0 0] 30) = w2 at *
    have hbr := hb1.fresh hF2
    have hF02 := hF1.then_new Up.new hF2
    rw [hz1] at hb2
    rw [hCA] at hbr
    obtain ⟨gr, hgr⟩ : ∃ gr, gr = w.heap.size := ⟨_, rfl⟩
    rw [← hgr] at hbr hb2 hz1 ⊢
    obtain ⟨gm, hgm⟩ : ∃ gm, gm = gr + 1 := ⟨_, rfl⟩
    rw [← hgm] at hb2
    try rw [hz1]
    try rw [← hgm]
    have hgw : w.heap.size ≤ gm := by omega
    have hgrw : w.heap.size ≤ gr := by omega
    have hlm := hb2.lt
    have hlr := hbr.lt
    clear hb1 hF1 hF2 hgr hgm hz1 hCA
    have hy0 := hbr.cell 0
    simp only [List.getElem?_toArray, List.getElem?_cons_zero] at hy0
    have HBR := Lib.hid hbr
    have HB2 := Lib.hid hb2
    have HF02 := Lib.hid hF02
    clear hbr hb2 hF02
    go_wp2_with (first
      | (go_at_call 63; refine (HNT.out bPOST _ HF02.out).mono ?_; rintro e w3 ⟨m, rfl, hm⟩; have hbx := HB2.out.fresh hm.frm)
      | (refine wpList_store_agg rfl rfl rfl rfl hbx rfl (msg_one _ _ _ _ _ _ _ _ _) (by kernel_rfl) ?_; intro w8 hb8 hF8 hs8))
    refine bodyPost_ret (results_agg agM rfl rfl hb8 rfl) rfl ?_
    exact ⟨m, rfl, hm.done HF02.out hgw hlm hF8⟩
end Go.Proofs.YtpojejdddgdjdaaGreatDoor.M
