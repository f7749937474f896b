/- SemClasses: the walk. No condition. -/
import Derived.BigQuiet
import Derived.Deep.CutBlock
import Derived.Lib.Hide
import Derived.IntWalk
import Derived.Test.YtpojejdddgdjdaaDoorSkn
import Derived.Test.YtpojejdddgdjdaaDoorScl
namespace Go.Proofs.YtpojejdddgdjdaaDoor.M
open Go.ChangeShapes Go.WideShapes Go.ChangeAt Go.RowKit

theorem three_ints {k : IntKind} (a b c : Int) (i : Nat) (hi : i < 3) : ∃ z, (#[Value.int k a, Value.int k b, Value.int k c] : Array Value)[i]? = some (.int k z) := by
  match i, hi with
  | 0, _ => exact ⟨a, rfl⟩
  | 1, _ => exact ⟨b, rfl⟩
  | 2, _ => exact ⟨c, rfl⟩
set_option maxRecDepth 100000 in
set_option maxHeartbeats 2000000 in
theorem classes_walk (s c : Int) (W : World) (_w0 : (Lit.int .i64 s).wf = true) (w1 : (Lit.int .u64 c).wf = true) :
    Calls Tryd.prog 6 #[.int .i64 s, .int .u64 c] W fun e w' => e = .returned (.bool true) ∧ Below W.heap.size W w' := by
  have hc : 0 ≤ c ∧ c ≤ 18446744073709551615 := by
    simp only [Lit.wf, decide_eq_true_eq, Bool.and_eq_true] at w1; exact w1
  obtain ⟨hc0, hc1⟩ := hc
  clear _w0 w1
  have hk := known_any W
  have hfr : ∀ (w : World) t cs, Frm (New w) w (w.alloc (.cells cs t)) := fun w t cs => (Frm.refl _ w).alloc Up.new _
  have HK := Lib.hid hk
  have HFR := Lib.hid hfr
  clear hk hfr
  go_enter Tryd.func6, Tryd.ntmps6
  go_upto_region 4 with (go_at_call 11; refine HK.out.mono ?_; rintro e w1 ⟨rfl, hF1⟩)
  have hb2 := Blk.new w1 3 #[.int .i64 s, .int .i64 2, .int .i64 3]
  have hF2 := HFR.out w1 3 #[.int .i64 s, .int .i64 2, .int .i64 3]
  generalize w1.alloc (.cells #[.int .i64 s, .int .i64 2, .int .i64 3] 3) = w2 at *
  generalize w1.heap.size = gO at *
  have hF02 := hF1.then_new Up.new hF2
  have HB2 := Lib.hid hb2
  clear hF1 hF2 hb2 HK
  have HF02 := Lib.hid hF02
  clear hF02
  go_loopw [14] (fun v14 wr => ∃ i : Nat, i ≤ 3 ∧ v14 = .int .i64 i ∧ Hid (Frm (New w2) w2 wr)) (fun v14 _ => 3 - (intOf v14).toNat)
  case atStart => exact ⟨0, by omega, rfl, Frm.refl _ _⟩
  case round =>
    obtain ⟨i, hi, rfl, hF⟩ := hrel
    by_cases hi3 : i < 3
    · have hbr := HB2.out.fresh hF.out
      obtain ⟨z, hz⟩ := three_ints (k := .i64) s 2 3 i hi3
      have hcr := hbr.cell i
      rw [hz] at hcr
      have hgl := hbr.lt
      clear hz hbr
      obtain ⟨wo, hwo⟩ : ∃ wo, wo = wr := ⟨_, rfl⟩
      subst hwo
      go_upto_region 7 with (fail)
      have hF3 := HFR.out wo 41 #[.int .u64 c, .int .u64 (c % 16), .int .u64 (256 + c % 16)]
      have hb3 := Blk.new wo 41 #[.int .u64 c, .int .u64 (c % 16), .int .u64 (256 + c % 16)]
      generalize wo.alloc (.cells #[.int .u64 c, .int .u64 (c % 16), .int .u64 (256 + c % 16)] 41) = w3 at *
      generalize wo.heap.size = gI at *
      have hF23 := hF.out.then_new Up.new hF3
      have HB3 := Lib.hid hb3
      clear hF3 hb3 hcr hgl
      have HF23 := Lib.hid hF23
      clear hF23
      rw [show decide ((i : Int) < 3) = true from decide_eq_true (by omega)]
      generalize c % 16 = c16 at *
      generalize 256 + c16 = c256 at *
      go_loopw [26] (fun v26 wr => ∃ j : Nat, j ≤ 3 ∧ v26 = .int .i64 j ∧ Hid (Frm (New w3) w3 wr)) (fun v26 _ => 3 - (intOf v26).toNat)
      case atStart => exact ⟨0, by omega, rfl, Frm.refl _ _⟩
      case round =>
        obtain ⟨j, hj, rfl, hFj⟩ := hrel
        by_cases hj3 : j < 3
        · have hbr := HB3.out.fresh hFj.out
          obtain ⟨q, hq⟩ := three_ints (k := .u64) c c16 c256 j hj3
          have hcr := hbr.cell j
          rw [hq] at hcr
          have hgl := hbr.lt
          clear hq hbr
          have hcl := fun w => class_any z q w
          have hrc := fun w => rclass_any z q w
          generalize clsN z q = n at *
          have HCL := Lib.hid hcl
          have HRC := Lib.hid hrc
          clear hcl hrc
          go_wp2_with (first
            | (go_at_call 21; refine (HCL.out _).mono ?_; rintro e w4 ⟨rfl, hF4⟩; have HF4 := Lib.hid hF4; clear hF4)
            | (go_at_call 22; refine (HRC.out _).mono ?_; rintro e w' ⟨rfl, hw⟩; rw [← hw]; clear hw w'))
          go_roundw
          case rel => exact ⟨j + 1, by omega, by go_num, hFj.out.then_new Up.new HF4.out⟩
          case measure => simp [intOf]; omega
        · obtain rfl : j = 3 := by omega
          go_wp2_with (fail)
          go_roundw
          case rel => exact ⟨i + 1, by omega, by go_num, HF23.out.then_new Up.new hFj.out⟩
          case measure => simp [intOf]; omega
    · obtain rfl : i = 3 := by omega
      go_wp2_with (fail)
      go_ret
      exact ⟨rfl, (HF02.out.then_new Up.new hF.out).below⟩
end Go.Proofs.YtpojejdddgdjdaaDoor.M
