/- qenc: write. -/
import Derived.BigQuiet
import Derived.Deep.CutBlock
import Derived.Lib.Hide
import Derived.IntWalk
import Derived.Deep.LoopGhost
import Derived.Test.YtdgggjeiflllhaaNi
import Derived.Test.YtdgggjeiflllhaaMem
namespace Go.Proofs.Ytdgggjeiflllhaa.M
open Go.ChangeShapes Go.WideShapes Go.ChangeAt Go.RowKit

set_option maxRecDepth 100000 in
set_option maxHeartbeats 4000000 in
theorem nwrite_any (l : Bytes) (A : Option Addr) (c : Nat) (x : Lq) (pw count : Nat) (w : World) (hA : Rd w A (bvs l)) (hl : l.length ≤ 1099500000000) (hc2 : w.cell? ⟨pw, 2, none⟩ = some (.int .u64 (count : Int))) (hct : count ≤ 1152921504606846976) (hx : x.kind = 1 → x.i < count) (hi : x.i ≤ 1152921504606846976)
    (hf1 : x.f.1.length ≤ 1099511627776) (hf2 : x.f.2.length ≤ 1099511627776) (hfl : 5 * x.f.1.length ≤ 1000000) :
    Calls Try.prog 46 #[.pointer (some ⟨pw, 0, none⟩), .slice A l.length c, .agg (lqC x).toArray] w (RetB w (l ++ lineN count x)) := by
  obtain ⟨k, i, f1, f2⟩ := x
  simp only at hx hi hf1 hf2
  obtain ⟨R, hR⟩ : ∃ R, R = l ++ lineN count ⟨k, i, (f1, f2)⟩ := ⟨_, rfl⟩
  rw [← hR]
  unfold lineN at hR
  have hsa : ∀ w, Calls Try.prog 79 #[.string ⟨f1.toArray⟩] w fun e w' => e = .returned (.bool (secret f1)) ∧ w' = w := fun w => secret_any f1 w
  simp only at hR
  generalize secret f1 = sc at *
  have hpl : pw < w.heap.size := World.block_lt_of_cell? _ _ hc2
  simp only [lqC]
  obtain ⟨bd, hbd⟩ : ∃ b, b = decide (k = 1) := ⟨_, rfl⟩
  obtain ⟨bw, hbw⟩ : ∃ b, b = decide (k ≤ 1) := ⟨_, rfl⟩
  obtain ⟨bn, hbn⟩ : ∃ b, b = decide (k = 2) := ⟨_, rfl⟩
  rw [← hbd, ← hbw, ← hbn]
  have HSA := Lib.hid hsa
  have HA := Lib.hid hA
  have HBD := Lib.hid hbd
  have HBW := Lib.hid hbw
  have HBN := Lib.hid hbn
  have HR := Lib.hid hR
  clear hsa hA hbd hbw hbn hR
  go_enter Try.func46, Try.ntmps46
  go_upto_region 1 with (fail)
  have hB1 := Blk.new w 90 #[.string ⟨f1.toArray⟩, .string ⟨f2.toArray⟩, .int .u64 (i : Int), .bool bd, .bool bw, .bool bn]
  have hF1 : Frm (New w) w (w.alloc (Obj.cells #[.string ⟨f1.toArray⟩, .string ⟨f2.toArray⟩, .int .u64 (i : Int), .bool bd, .bool bw, .bool bn] 90)) := (Frm.refl _ _).alloc Up.new _
  generalize w.alloc (Obj.cells #[.string ⟨f1.toArray⟩, .string ⟨f2.toArray⟩, .int .u64 (i : Int), .bool bd, .bool bw, .bool bn] 90) = w1 at *
  obtain ⟨bx, hbx⟩ : ∃ bx, bx = w.heap.size := ⟨_, rfl⟩
  rw [← hbx] at hB1 ⊢
  have hpb : pw ≠ bx := by omega
  replace hc2 : w1.cell? ⟨pw, 2, none⟩ = some (.int .u64 (count : Int)) := by rw [hF1.cell (p := ⟨pw, 2, none⟩) (by unfold New; simp only; omega)]; exact hc2
  replace hpl : pw < w1.heap.size := Nat.lt_of_lt_of_le hpl hF1.size
  clear hbx
  have hR1 := HA.out.fresh hF1
  have hx0 := hB1.cell 0
  have hx1 := hB1.cell 1
  have hx2 := hB1.cell 2
  have hx3 := hB1.cell 3
  have hx4 := hB1.cell 4
  have hx5 := hB1.cell 5
  simp only [List.getElem?_toArray, List.getElem?_cons_zero, List.getElem?_cons_succ] at hx0 hx1 hx2 hx3 hx4 hx5
  have hbl := hB1.lt
  have HB1 := Lib.hid hB1
  have HF1 := Lib.hid hF1
  have HR1 := Lib.hid hR1
  clear hB1 hF1 hR1
  rcases (by omega : k = 0 ∨ k = 1 ∨ k = 2 ∨ 3 ≤ k) with rfl | rfl | rfl | hk
  · obtain rfl : bd = false := HBD.out
    obtain rfl : bw = true := HBW.out
    obtain rfl : bn = false := HBN.out
    have hr : R = l ++ pfx 192 6 i := HR.out
    go_wp2_with (fail)
    refine (HSA.out w1).mono ?_
    rintro e w2 ⟨rfl, hw2⟩
    rw [hw2]
    clear hw2 w2
    cases sc
    all_goals
      go_wp2_with (fail)
      refine (prefix_nat l A c 192 6 i w1 HR1.out (by omega) (by omega) (by omega) (by omega) (by omega)).mono ?_
      rintro e w3 ⟨A3, c3, rfl, hA3, hF3⟩
      rw [← hr] at hA3 ⊢
      have hF03 := HF1.out.then_new Up.new hF3
      replace hA3 := hA3.mono (fun k hk => Nat.le_trans HF1.out.size hk)
      clear hF3
      have HA3 := Lib.hid hA3
      have HF03 := Lib.hid hF03
      have HR := Lib.hid hr
      clear hA3 hF03 hr
      go_wp2
      go_ret
      exact ⟨A3, c3, rfl, HA3.out, HF03.out⟩
  · obtain rfl : bd = true := HBD.out
    obtain rfl : bw = true := HBW.out
    obtain rfl : bn = false := HBN.out
    have hlt : i < count := hx rfl
    have hr : R = l ++ pfx 128 6 (count - 1 - i) := HR.out
    have hw1 : IntKind.u64.wrap ((count : Int) - 1) = ((count - 1 : Nat) : Int) := by rw [IntWalk.u64_in _ (by omega)]; omega
    obtain ⟨c1, hc1⟩ : ∃ c1, c1 = count - 1 := ⟨_, rfl⟩
    rw [← hc1] at hw1 hr
    have hw2 : IntKind.u64.wrap ((c1 : Int) - (i : Int)) = ((c1 - i : Nat) : Int) := by rw [IntWalk.u64_in _ (by omega)]; omega
    obtain ⟨c2, hcc⟩ : ∃ c2, c2 = c1 - i := ⟨_, rfl⟩
    rw [← hcc] at hw2 hr
    have hcl : c2 ≤ 1152921504606846976 := by omega
    have HC1 := Lib.hid hc1
    have HCC := Lib.hid hcc
    clear hc1 hcc
    go_wp2_with (fail)
    refine (HSA.out w1).mono ?_
    rintro e w2 ⟨rfl, hw2⟩
    rw [hw2]
    clear hw2 w2
    have hS0 : w1.drew.cell? ⟨pw, 2, none⟩ = some (.int .u64 (count : Int)) ∧ w1.drew.cell? ⟨bx, 2, none⟩ = some (.int .u64 (i : Int)) ∧ pw < w1.drew.heap.size ∧ bx < w1.drew.heap.size := ⟨hc2, hx2, hpl, hbl⟩
    cases sc
    all_goals
      go_upto_region 6 with (fail)
      refine wp_region_held (by kernel_rfl) (S := fun w' => w'.cell? ⟨pw, 2, none⟩ = some (.int .u64 (count : Int)) ∧ w'.cell? ⟨bx, 2, none⟩ = some (.int .u64 (i : Int)) ∧ pw < w'.heap.size ∧ bx < w'.heap.size) ?_
      change wpAnyH _ _ _ _ _ _ _ _ w1.drew
      refine wpAnyH_takeB (i := 0) (v := ?_) (d := some 27) rfl (by rfl) (by kernel_rfl) (fun _ _ _ h => h) (by rfl) hS0 (fun w hSw => ?_) ?_
      rotate_left
      · (try dsimp only at hSw); (try subst hSw); go_simp; first | done | (with_reducible rfl)
      simp only [Act.put, List.setIfInBounds_toArray, List.set_cons_zero, List.set_cons_succ]
      refine wpAnyH_takeB (i := 1) (v := ?_) (d := some 28) rfl (by rfl) (by kernel_rfl) (fun _ _ _ h => h) (by rfl) hS0 (fun w hSw => ?_) ?_
      rotate_left
      · (try dsimp only at hSw); (try subst hSw); go_simp; first | done | (with_reducible rfl)
      simp only [Act.put, List.setIfInBounds_toArray, List.set_cons_zero, List.set_cons_succ]
      refine wpAnyH_takeB (i := 2) (v := ?_) (d := some 29) rfl (by rfl) (by kernel_rfl) (fun _ _ _ h => h) (by rfl) hS0 (fun w hSw => ?_) ?_
      rotate_left
      · (try dsimp only at hSw); (try subst hSw); go_simp; first | done | (with_reducible rfl)
      simp only [Act.put, List.setIfInBounds_toArray, List.set_cons_zero, List.set_cons_succ]
      refine wpAnyH_takeB (i := 3) (v := ?_) (d := some 30) rfl (by rfl) (by kernel_rfl) (fun _ _ _ h => h) (by rfl) hS0 (fun w hSw => ?_) ?_
      rotate_left
      · (try dsimp only at hSw); (try subst hSw); go_simp; first | done | (with_reducible rfl)
      simp only [Act.put, List.setIfInBounds_toArray, List.set_cons_zero, List.set_cons_succ]
      refine wpAnyH_takeB (i := 4) (v := ?_) (d := some 31) rfl (by rfl) (by kernel_rfl) (fun _ _ _ h => h) (by rfl) hS0 (fun w hSw => ?_) ?_
      rotate_left
      · (try dsimp only at hSw); (try subst hSw); go_simp; first | done | (with_reducible rfl)
      simp only [Act.put, List.setIfInBounds_toArray, List.set_cons_zero, List.set_cons_succ]
      refine wpAnyH_takeB (i := 5) (v := ?_) (d := some 32) rfl (by rfl) (by kernel_rfl) (fun _ _ _ h => h) (by rfl) hS0 (fun w hSw => ?_) ?_
      rotate_left
      · (try dsimp only at hSw); (try subst hSw); go_simp; first | done | (with_reducible rfl)
      simp only [Act.put, List.setIfInBounds_toArray, List.set_cons_zero, List.set_cons_succ]
      refine wpAnyH_takeB (i := 6) (v := ?_) (d := some 33) rfl (by rfl) (by kernel_rfl) (fun _ _ _ h => h) (by rfl) hS0 (fun w hSw => ?_) ?_
      rotate_left
      · (try dsimp only at hSw); (try subst hSw); go_simp; first | done | (with_reducible rfl)
      simp only [Act.put, List.setIfInBounds_toArray, List.set_cons_zero, List.set_cons_succ]
      refine wpAnyH_takeB (i := 7) (v := ?_) (d := some 34) rfl (by rfl) (by kernel_rfl) (fun _ _ _ h => h) (by rfl) hS0 (fun w hSw => ?_) ?_
      rotate_left
      · (try dsimp only at hSw); (try subst hSw); go_simp; first | done | (with_reducible rfl)
      simp only [Act.put, List.setIfInBounds_toArray, List.set_cons_zero, List.set_cons_succ]
      refine wpAnyH_takeB (i := 8) (v := ?_) (d := some 35) rfl (by rfl) (by kernel_rfl) (fun _ _ _ h => h) (by rfl) hS0 (fun w hSw => ?_) ?_
      rotate_left
      · (try dsimp only at hSw); (try subst hSw); go_simp; first | done | (with_reducible rfl)
      simp only [Act.put, List.setIfInBounds_toArray, List.set_cons_zero, List.set_cons_succ]
      refine wpAnyH_takeB (i := 9) (v := ?_) (d := some 36) rfl (by rfl) (by kernel_rfl) (fun _ _ _ h => h) (by rfl) hS0 (fun w hSw => ?_) ?_
      rotate_left
      · (try dsimp only at hSw); (try subst hSw); go_simp; first | done | (with_reducible rfl)
      simp only [Act.put, List.setIfInBounds_toArray, List.set_cons_zero, List.set_cons_succ]
      refine wpAnyH_oneB (i := 10) rfl (by kernel_rfl) (fun K hKK => ?_)
      refine Eq.mpr (if_pos (by rfl)) ?_
      go_wp2_with (fail)
      refine (prefix_nat l A c 128 6 c2 w1.drew HR1.out.drew (by omega) (by omega) (by omega) (by omega) (by omega)).mono ?_
      rintro e w3 ⟨A3, c3, rfl, hA3, hF3⟩
      rw [← hr] at hA3 ⊢
      replace hF3 : Frm (New w1) w1 w3 := Frm.trans ((Frm.refl _ w1).drew) hF3
      have hS3 : w3.cell? ⟨pw, 2, none⟩ = some (.int .u64 (count : Int)) ∧ w3.cell? ⟨bx, 2, none⟩ = some (.int .u64 (i : Int)) ∧ pw < w3.heap.size ∧ bx < w3.heap.size := ⟨by rw [hF3.cell (p := ⟨pw, 2, none⟩) (by unfold New; simp only; omega)]; exact hc2, (HB1.out.fresh hF3).cell 2, Nat.lt_of_lt_of_le hpl hF3.size, (HB1.out.fresh hF3).lt⟩
      have hF03 := HF1.out.then_new Up.new hF3
      replace hA3 := hA3.mono (fun k hk => Nat.le_trans HF1.out.size hk)
      clear hF3
      have HA3 := Lib.hid hA3
      have HF03 := Lib.hid hF03
      have HR := Lib.hid hr
      clear hA3 hF03 hr
      refine hKK.out _ _ hS3 ?_
      clear hKK K
      try simp only [Act.put, List.setIfInBounds_toArray, List.set_cons_zero, List.set_cons_succ]
      refine wpAnyH_oneB (i := 11) rfl (by kernel_rfl) (fun K hK => ?_)
      refine Eq.mpr (if_pos (by rfl)) ?_
      go_simp
      refine hK.out _ _ (hS3) ?_
      clear hK K
      try simp only [Act.put, List.setIfInBounds_toArray, List.set_cons_zero, List.set_cons_succ]
      refine wpAnyH_done (by kernel_rfl) ?_ _
      go_wp2
      go_ret
      exact ⟨A3, c3, rfl, HA3.out, HF03.out⟩
  · obtain rfl : bd = false := HBD.out
    obtain rfl : bw = false := HBW.out
    obtain rfl : bn = true := HBN.out
    go_wp2_with (fail)
    refine (HSA.out w1).mono ?_
    rintro e w2 ⟨rfl, hw2⟩
    rw [hw2]
    clear hw2 w2
    cases sc with
    | true =>
      have hr0 : R = l ++ (pfx 112 4 i ++ strc 128 0 7 f2) := HR.out
      have hpx := pfx_length 112 4 i
      go_wp2_with (fail)
      refine (prefix_nat l A c 112 4 i w1 HR1.out (by omega) (by omega) (by omega) (by omega) (by omega)).mono ?_
      rintro e w3 ⟨A3, c3, rfl, hA3, hF3⟩
      obtain ⟨o2, ho2⟩ : ∃ o2, o2 = l ++ pfx 112 4 i := ⟨_, rfl⟩
      have hr : R = o2 ++ strc 128 0 7 f2 := by rw [hr0, ho2, List.append_assoc]
      have hlen2 : o2.length ≤ 1099511600000 := by
        rw [ho2, List.length_append]
        omega
      rw [← ho2] at hA3 ⊢
      have hF03 := HF1.out.then_new Up.new hF3
      have hb3 := HB1.out.fresh hF3
      clear hx2 hx3 hx4 hx5 hbl hF3 hc2 hpl hx0 hx1
      have hx1 := hb3.cell 1
      simp only [List.getElem?_toArray, List.getElem?_cons_zero, List.getElem?_cons_succ] at hx1
      have hbl := hb3.lt
      have hR3 := hA3.rd
      have HR3 := Lib.hid hR3
      have HB3 := Lib.hid hb3
      have HF03 := Lib.hid hF03
      have HA3 := Lib.hid hA3
      have HR := Lib.hid hr
      have HR0 := Lib.hid hr0
      have HO2 := Lib.hid ho2
      clear hR3 hb3 hF03 hA3 hr hr0 ho2
      go_wp2_with (fail)
      refine (strb_any o2 A3 c3 f2 w3 HR3.out (by omega) hf2).mono ?_
      rintro e w4 ⟨A4, c4, rfl, hA4, hF4⟩
      rw [← HR.out] at hA4 ⊢
      have hF04 := HF03.out.then_new Up.new hF4
      replace hA4 := hA4.mono (fun k hk => Nat.le_trans HF03.out.size hk)
      clear hF4
      have HA4 := Lib.hid hA4
      have HF04 := Lib.hid hF04
      clear hA4 hF04
      go_wp2
      go_ret
      exact ⟨A4, c4, rfl, HA4.out, HF04.out⟩
    | false =>
      have hr0 : R = l ++ (pfx 80 4 i ++ strc 128 0 7 f2) := HR.out
      have hpx := pfx_length 80 4 i
      go_wp2_with (fail)
      refine (prefix_nat l A c 80 4 i w1 HR1.out (by omega) (by omega) (by omega) (by omega) (by omega)).mono ?_
      rintro e w3 ⟨A3, c3, rfl, hA3, hF3⟩
      obtain ⟨o2, ho2⟩ : ∃ o2, o2 = l ++ pfx 80 4 i := ⟨_, rfl⟩
      have hr : R = o2 ++ strc 128 0 7 f2 := by rw [hr0, ho2, List.append_assoc]
      have hlen2 : o2.length ≤ 1099511600000 := by
        rw [ho2, List.length_append]
        omega
      rw [← ho2] at hA3 ⊢
      have hF03 := HF1.out.then_new Up.new hF3
      have hb3 := HB1.out.fresh hF3
      clear hx2 hx3 hx4 hx5 hbl hF3 hc2 hpl hx0 hx1
      have hx1 := hb3.cell 1
      simp only [List.getElem?_toArray, List.getElem?_cons_zero, List.getElem?_cons_succ] at hx1
      have hbl := hb3.lt
      have hR3 := hA3.rd
      have HR3 := Lib.hid hR3
      have HB3 := Lib.hid hb3
      have HF03 := Lib.hid hF03
      have HA3 := Lib.hid hA3
      have HR := Lib.hid hr
      have HR0 := Lib.hid hr0
      have HO2 := Lib.hid ho2
      clear hR3 hb3 hF03 hA3 hr hr0 ho2
      go_wp2_with (fail)
      refine (strb_any o2 A3 c3 f2 w3 HR3.out (by omega) hf2).mono ?_
      rintro e w4 ⟨A4, c4, rfl, hA4, hF4⟩
      rw [← HR.out] at hA4 ⊢
      have hF04 := HF03.out.then_new Up.new hF4
      replace hA4 := hA4.mono (fun k hk => Nat.le_trans HF03.out.size hk)
      clear hF4
      have HA4 := Lib.hid hA4
      have HF04 := Lib.hid hF04
      clear hA4 hF04
      go_wp2
      go_ret
      exact ⟨A4, c4, rfl, HA4.out, HF04.out⟩
  · obtain rfl : bd = false := by rw [HBD.out]; exact decide_eq_false (by omega)
    obtain rfl : bw = false := by rw [HBW.out]; exact decide_eq_false (by omega)
    obtain rfl : bn = false := by rw [HBN.out]; exact decide_eq_false (by omega)
    go_wp2_with (fail)
    refine (HSA.out w1).mono ?_
    rintro e w2 ⟨rfl, hw2⟩
    rw [hw2]
    clear hw2 w2
    cases sc with
    | true =>
      have hr0 : R = l ++ (strc 56 48 3 f1 ++ strc 128 0 7 f2) := by rw [HR.out, if_neg (by omega), if_neg (by omega), if_neg (by omega)]; rfl
      have hpx := strc_le 56 48 3 f1
      go_wp2_with (fail)
      refine (coded_any l A c 48 3 ⟨f1.toArray⟩ w1 HR1.out (by omega) (by show f1.toArray.size ≤ _; simpa using hf1) (by omega) (by omega) (by omega)).mono ?_
      rw [show (48 : Nat) ||| 2 ^ 3 = 56 from rfl, show (48 : Nat) &&& (255 - 2 ^ 3) = 48 from rfl, show f1.toArray.toList = f1 from by simp]
      rintro e w3 ⟨A3, c3, rfl, hA3, hF3⟩
      obtain ⟨o2, ho2⟩ : ∃ o2, o2 = l ++ strc 56 48 3 f1 := ⟨_, rfl⟩
      have hr : R = o2 ++ strc 128 0 7 f2 := by rw [hr0, ho2, List.append_assoc]
      have hlen2 : o2.length ≤ 1099511600000 := by
        rw [ho2, List.length_append]
        omega
      rw [← ho2] at hA3 ⊢
      have hF03 := HF1.out.then_new Up.new hF3
      have hb3 := HB1.out.fresh hF3
      clear hx2 hx3 hx4 hx5 hbl hF3 hc2 hpl hx0 hx1
      have hx1 := hb3.cell 1
      simp only [List.getElem?_toArray, List.getElem?_cons_zero, List.getElem?_cons_succ] at hx1
      have hbl := hb3.lt
      have hR3 := hA3.rd
      have HR3 := Lib.hid hR3
      have HB3 := Lib.hid hb3
      have HF03 := Lib.hid hF03
      have HA3 := Lib.hid hA3
      have HR := Lib.hid hr
      have HR0 := Lib.hid hr0
      have HO2 := Lib.hid ho2
      clear hR3 hb3 hF03 hA3 hr hr0 ho2
      go_wp2_with (fail)
      refine (strb_any o2 A3 c3 f2 w3 HR3.out (by omega) hf2).mono ?_
      rintro e w4 ⟨A4, c4, rfl, hA4, hF4⟩
      rw [← HR.out] at hA4 ⊢
      have hF04 := HF03.out.then_new Up.new hF4
      replace hA4 := hA4.mono (fun k hk => Nat.le_trans HF03.out.size hk)
      clear hF4
      have HA4 := Lib.hid hA4
      have HF04 := Lib.hid hF04
      clear hA4 hF04
      go_wp2
      go_ret
      exact ⟨A4, c4, rfl, HA4.out, HF04.out⟩
    | false =>
      have hr0 : R = l ++ (strc 40 32 3 f1 ++ strc 128 0 7 f2) := by rw [HR.out, if_neg (by omega), if_neg (by omega), if_neg (by omega)]; rfl
      have hpx := strc_le 40 32 3 f1
      go_wp2_with (fail)
      refine (coded_any l A c 32 3 ⟨f1.toArray⟩ w1 HR1.out (by omega) (by show f1.toArray.size ≤ _; simpa using hf1) (by omega) (by omega) (by omega)).mono ?_
      rw [show (32 : Nat) ||| 2 ^ 3 = 40 from rfl, show (32 : Nat) &&& (255 - 2 ^ 3) = 32 from rfl, show f1.toArray.toList = f1 from by simp]
      rintro e w3 ⟨A3, c3, rfl, hA3, hF3⟩
      obtain ⟨o2, ho2⟩ : ∃ o2, o2 = l ++ strc 40 32 3 f1 := ⟨_, rfl⟩
      have hr : R = o2 ++ strc 128 0 7 f2 := by rw [hr0, ho2, List.append_assoc]
      have hlen2 : o2.length ≤ 1099511600000 := by
        rw [ho2, List.length_append]
        omega
      rw [← ho2] at hA3 ⊢
      have hF03 := HF1.out.then_new Up.new hF3
      have hb3 := HB1.out.fresh hF3
      clear hx2 hx3 hx4 hx5 hbl hF3 hc2 hpl hx0 hx1
      have hx1 := hb3.cell 1
      simp only [List.getElem?_toArray, List.getElem?_cons_zero, List.getElem?_cons_succ] at hx1
      have hbl := hb3.lt
      have hR3 := hA3.rd
      have HR3 := Lib.hid hR3
      have HB3 := Lib.hid hb3
      have HF03 := Lib.hid hF03
      have HA3 := Lib.hid hA3
      have HR := Lib.hid hr
      have HR0 := Lib.hid hr0
      have HO2 := Lib.hid ho2
      clear hR3 hb3 hF03 hA3 hr hr0 ho2
      go_wp2_with (fail)
      refine (strb_any o2 A3 c3 f2 w3 HR3.out (by omega) hf2).mono ?_
      rintro e w4 ⟨A4, c4, rfl, hA4, hF4⟩
      rw [← HR.out] at hA4 ⊢
      have hF04 := HF03.out.then_new Up.new hF4
      replace hA4 := hA4.mono (fun k hk => Nat.le_trans HF03.out.size hk)
      clear hF4
      have HA4 := Lib.hid hA4
      have HF04 := Lib.hid hF04
      clear hA4 hF04
      go_wp2
      go_ret
      exact ⟨A4, c4, rfl, HA4.out, HF04.out⟩
end Go.Proofs.Ytdgggjeiflllhaa.M
