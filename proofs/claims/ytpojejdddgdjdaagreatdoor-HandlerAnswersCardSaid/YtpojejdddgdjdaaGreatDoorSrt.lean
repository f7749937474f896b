/- bifoldref26.Status: the status and the class. The sizes together are below 2^62. -/
import Derived.BigQuiet
import Derived.Deep.CutBlock
import Derived.Lib.Hide
import Derived.IntWalk
import Derived.Test.YtpojejdddgdjdaaGreatDoorSrv
import Derived.Test.YtpojejdddgdjdaaGreatDoorSsw
import Derived.Test.YtpojejdddgdjdaaGreatDoorSrs
namespace Go.Proofs.YtpojejdddgdjdaaGreatDoor.M
open Go.ChangeShapes Go.WideShapes Go.ChangeAt Go.RowKit

set_option maxRecDepth 100000 in
set_option maxHeartbeats 2000000 in
theorem rstatus_any (m : MV) (w : World) (hm : MIn w m) (hz : MSz m) :
    Calls Tryz.prog 11 #[.agg m.cells] w fun e w' => e = .returned (.tuple #[.int .i64 ((resp m).1 : Nat), .int .i64 ((resp m).2 : Nat)]) ∧ Frm (New w) w w' := by
  have hLc : ∀ w', Frm (New w) w w' → Calls Tryz.prog 25 #[.agg m.cells] w' fun e w2 => e = .returned (.bool (lrgM m)) ∧ Frm (New w') w' w2 := fun w' f => rLarge_any m w' (hm.fresh f) hz
  have hSh : lrgM m = false → ∀ w', Frm (New w) w w' → Calls Tryz.prog 26 #[.agg m.cells, .slice (some ⟨w'.heap.size, 0, none⟩) 1 1] (w'.alloc (.cells #[str bSt] 9)) (ShapeR (w'.alloc (.cells #[str bSt] 9)) [bSt] m) := fun h w' f =>
    shape_any [bSt] _ 1 m _ (Rd.new w' #[str bSt] 9) (by decide) (by decide) (hm.fresh (f.alloc Up.new _)) hz (lrg64 h)
  have hfr : ∀ (w : World) t cs, Frm (New w) w (w.alloc (.cells cs t)) := fun w t cs => (Frm.refl _ w).alloc Up.new _
  obtain ⟨q, hq⟩ : ∃ q, q = resp m := ⟨_, rfl⟩
  obtain ⟨lg, hlg⟩ : ∃ lg, lg = lrgM m := ⟨_, rfl⟩
  rw [← hq]
  rw [← hlg] at hLc hSh
  obtain ⟨x1, x2, x3, hx⟩ : ∃ x1 x2 x3, m.cells = #[x1, x2, x3] := ⟨_, _, _, rfl⟩
  rw [hx] at hLc hSh ⊢
  have HLC := Lib.hid hLc
  have HSH := Lib.hid hSh
  have HFR := Lib.hid hfr
  have HM := Lib.hid hm
  have HX := Lib.hid hx
  have HQQ := Lib.hid hq
  have HLG := Lib.hid hlg
  clear hLc hSh hfr hm hx hq hlg
  clear hz
  go_enter Tryz.func11, Tryz.ntmps11
  go_upto_region 1 with (fail)
  have hb1 := Blk.new w 30 #[x1, x2, x3]
  have hF1 := HFR.out w 30 #[x1, x2, x3]
  generalize w.alloc (.cells #[x1, x2, x3] 30) = w1 at *
  have hbW : w.heap.size < w1.heap.size := hb1.lt
  generalize hbx : w.heap.size = bx at *
  have hc1 := HLC.out w1 hF1
  have HB1 := Lib.hid hb1
  have HF1 := Lib.hid hF1
  have HC1 := Lib.hid hc1
  clear hc1
  clear hb1 hF1
  cases lg with
  | true =>
    go_wp2_with (first
      | (refine wpList_load_agg agM rfl rfl rfl HB1.out rfl ?_)
      | (go_at_call 25; refine HC1.out.mono ?_; rintro e w2 ⟨rfl, hF2⟩; have HF2 := Lib.hid hF2; clear hF2))
    go_ret2
    refine ⟨?_, HF1.out.then_new Up.new HF2.out⟩
    rw [HQQ.out]
    unfold resp
    rw [if_pos HLG.out.symm]
    rfl
  | false =>
    go_upto_region 3 with (first
      | (refine wpList_load_agg agM rfl rfl rfl HB1.out rfl ?_)
      | (go_at_call 25; refine HC1.out.mono ?_; rintro e w3 ⟨rfl, hF3⟩))
    have hb3 := HB1.out.fresh hF3
    have hF03 := HF1.out.then_new Up.new hF3
    have hsh3 := HSH.out (by trivial) w3 hF03
    have hF04 := hF03.alloc Up.new (.cells #[str bSt] 9)
    simp only [str] at hsh3 hF04
    clear HB1 HF1 hF3 HC1 HLC HSH
    have HB3 := Lib.hid hb3
    have HF03 := Lib.hid hF03
    have HSH3 := Lib.hid hsh3
    have HF04 := Lib.hid hF04
    clear hb3 hF03 hsh3 hF04
    go_upto_region 4 with (first
      | (refine wpList_load_agg agM rfl rfl rfl HB3.out rfl ?_)
      | (go_at_call 26; refine HSH3.out.mono ?_; intro e w4 hR; obtain ⟨hF4, V, k, A, n, c, rfl, hR4⟩ := hR.out))
    have hF0 := HF04.out.then_new Up.new hF4
    have hres : Hid (q = if okF [bSt] m && stOk (val (spS m.fs) bSt) then (numF 0 (val (spS m.fs) bSt), 0) else (0, 1)) := by
      show _ = _
      rw [HQQ.out]
      unfold resp
      rw [if_neg (by rw [← HLG.out]; exact Bool.false_ne_true)]
    have hva : (valsA [bSt] (spS m.fs)).toList = [str (val (spS m.fs) bSt)] := rfl
    have hR5 : okF [bSt] m = true → k = 1 ∧ Rd w4 V [str (val (spS m.fs) bSt)] := fun h => ⟨(hR4 h).1, by rw [← hva]; exact (hR4 h).2.2.2⟩
    clear hR hR4 hF4 HF04 HSH3 HF03 HB3 hva
    generalize val (spS m.fs) bSt = s at *
    generalize okF [bSt] m = ok at *
    have HF0 := Lib.hid hF0
    clear hF0
    cases ok with
    | false =>
      go_wp2_with (fail)
      go_ret2
      exact ⟨by rw [hres.out]; rfl, HF0.out⟩
    | true =>
    obtain ⟨rfl, hV⟩ := hR5 rfl
    clear hR5
    simp only [Bool.true_and] at hres
    obtain ⟨gV, oV, rfl, hv0⟩ := hV.at_ (k := 0) (by simp)
    simp only [str, List.getElem_cons_zero, Nat.add_zero] at hv0
    have hvl := World.block_lt_of_cell? _ _ hv0
    simp only at hvl
    have hno : stOk s = false → q = (0, 1) := fun h => by rw [hres.out, h]; rfl
    have HNO := Lib.hid hno
    have HV := Lib.hid hV
    clear hno hV
    by_cases h3 : (s.length : Int) = 3
    · have h3n : s.length = 3 := by omega
      go_upto_region 8 with (fail)
      go_loopw [7, 8] (fun v7 v8 wr => ∃ k : Nat, k ≤ 3 ∧ v8 = .int .i64 k ∧ v7 = .int .i64 (numF 0 (s.take k) : Nat) ∧ Hid ((s.take k).all dig = true) ∧ wr = w4) (fun _ v8 _ => 3 - (intOf v8).toNat)
      case atStart => exact ⟨0, Nat.zero_le _, rfl, rfl, rfl, rfl⟩
      case round =>
        obtain ⟨k, hk, rfl, rfl, hall, rfl⟩ := hrel
        have hb0 := numF_lt (s.take k) 0 hall.out
        have hb1 : numF 0 (s.take k) < 1000 := by
          refine Nat.lt_of_lt_of_le hb0 ?_
          rw [Nat.zero_add, Nat.one_mul]
          exact Nat.le_trans (Nat.pow_le_pow_right (n := 10) (by omega) (show (s.take k).length ≤ 3 by rw [List.length_take]; omega)) (by decide)
        clear hb0
        by_cases hlt3 : k < 3
        · have hlt : k < s.length := by omega
          have hkb : k < (⟨s.toArray⟩ : ByteArray).size := by simpa [ByteArray.size] using hlt
          have hsk : ((⟨s.toArray⟩ : ByteArray)[k]'hkb) = s[k] := rfl
          have hb : (s[k].toNat : Int) ≤ 255 := by have := s[k].toNat_lt; omega
          have hno1 : dig s[k] = false → stOk s = false := fun h => by unfold stOk; rw [all_no _ _ _ hlt h]; simp
          have hstep : dig s[k] = true → (s.take (k + 1)).all dig = true := fun h => all_step _ _ _ hlt hall.out h
          have hsn : numF 0 (s.take (k + 1)) = 10 * numF 0 (s.take k) + (s[k].toNat - 48) := by rw [List.take_succ_eq_append_getElem hlt, numF_snoc]
          have HNO1 := Lib.hid hno1
          have HSTEP := Lib.hid hstep
          have HSN := Lib.hid hsn
          clear hno1 hstep hsn
          generalize numF 0 (s.take k) = v at *
          by_cases h48 : (s[k].toNat : Int) < 48
          · have hrf := HNO1.out (by unfold dig; exact decide_eq_false (by omega))
            have HRF := Lib.hid hrf
            clear hrf
            go_wp2_with (fail)
            go_ret2
            rw [HNO.out HRF.out]
            exact ⟨rfl, HF0.out⟩
          by_cases h57 : (57 : Int) < s[k].toNat
          · have hrf := HNO1.out (by unfold dig; exact decide_eq_false (by omega))
            have HRF := Lib.hid hrf
            clear hrf
            go_wp2_with (fail)
            go_ret2
            rw [HNO.out HRF.out]
            exact ⟨rfl, HF0.out⟩
          have hst := HSTEP.out (by unfold dig; exact decide_eq_true (by omega))
          have HST := Lib.hid hst
          clear hst
          have h48b : (48 : Int) ≤ s[k].toNat := by omega
          go_wp2_with (fail)
          go_roundw
          case rel => exact ⟨k + 1, by omega, by go_num, by
            rw [HSN.out]
            congr 1
            omega, HST.out, by trivial⟩
          case measure => simp [intOf]; omega
        · obtain rfl : k = 3 := by omega
          have hal := hall.out
          rw [List.take_of_length_le (by omega)] at hal hb1 ⊢
          have hst : Hid (stOk s = (decide (100 ≤ numF 0 s) && decide (numF 0 s ≤ 599))) := by show _ = _; unfold stOk; rw [decide_eq_true h3n, hal]; rfl
          clear hall hal
          generalize numF 0 s = v at *
          by_cases q1 : (v : Int) < 100
          · go_wp2_with (fail)
            go_ret2
            rw [HNO.out (by rw [hst.out, decide_eq_false (by omega)]; rfl)]
            exact ⟨rfl, HF0.out⟩
          by_cases q2 : (599 : Int) < v
          · go_wp2_with (fail)
            go_ret2
            rw [HNO.out (by rw [hst.out, decide_eq_false (show ¬ v ≤ 599 by omega)]; simp)]
            exact ⟨rfl, HF0.out⟩
          go_wp2_with (fail)
          go_ret2
          rw [hres.out, hst.out, decide_eq_true (show 100 ≤ v by omega), decide_eq_true (show v ≤ 599 by omega)]
          exact ⟨rfl, HF0.out⟩
    · go_wp2_with (fail)
      go_ret2
      rw [HNO.out (by unfold stOk; rw [decide_eq_false (by omega)]; rfl)]
      exact ⟨rfl, HF0.out⟩
end Go.Proofs.YtpojejdddgdjdaaGreatDoor.M
