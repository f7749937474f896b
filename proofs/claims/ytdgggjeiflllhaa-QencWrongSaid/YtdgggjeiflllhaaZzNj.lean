/- Nj -/
import Derived.BigQuiet
import Derived.Deep.CutBlock
import Derived.Lib.Hide
import Derived.IntWalk
import Derived.Deep.LoopGhost
import Derived.Test.YtdgggjeiflllhaaZzNh
import Derived.Test.YtdgggjeiflllhaaZzMem

namespace Go.Proofs.Ytdgggjeiflllhaa.M
open Go.ChangeShapes Go.WideShapes Go.ChangeAt Go.RowKit
set_option maxRecDepth 100000 in
set_option maxHeartbeats 4000000 in
theorem nwrite_any (l : Bytes) (A : Option Addr) (c : Nat) (x : Lq) (pw count : Nat) (w : World) (hA : Rd w A (bvs l)) (hl : l.length ≤ 1099500000000) (hc2 : w.cell? ⟨pw, 2, none⟩ = some (.int .u64 (count : Int))) (hct : count ≤ 1152921504606846976) (hx : x.kind = 1 → x.i < count) (hi : x.i ≤ 1152921504606846976)
    (hf1 : x.f.1.length ≤ 1099511627776) (hf2 : x.f.2.length ≤ 1099511627776) (hfl : 5 * x.f.1.length ≤ 1000000) :
    Calls Try.prog 46 #[.pointer (some ⟨pw, 0, none⟩), .slice A l.length c, .agg (lqC x).toArray] w (RetB w (l ++ lineN count x)) := by
  obtain ⟨k, i, f1, f2⟩ := x
  simp only at hx hi hf1 hf2
  obtain ⟨R, hR⟩ : ∃ R, R = l ++ lineN count ⟨k, i, (f1, f2)⟩ := ⟨_, rfl⟩
  rw [← hR]
  unfold lineN at hR
  have hsa : ∀ w, Calls Try.prog 79 #[.string ⟨f1.toArray⟩] w fun e w' => e = .returned (.bool (secret f1)) ∧ w' = w := fun w => secret_any f1 w
  simp only at hR
  generalize secret f1 = sc at *
  have hpl : pw < w.heap.size := World.block_lt_of_cell? _ _ hc2
  simp only [lqC]
  obtain ⟨bd, hbd⟩ : ∃ b, b = decide (k = 1) := ⟨_, rfl⟩
  obtain ⟨bw, hbw⟩ : ∃ b, b = decide (k ≤ 1) := ⟨_, rfl⟩
  obtain ⟨bn, hbn⟩ : ∃ b, b = decide (k = 2) := ⟨_, rfl⟩
  rw [← hbd, ← hbw, ← hbn]
  have HSA := Lib.hid hsa
  have HA := Lib.hid hA
  have HBD := Lib.hid hbd
  have HBW := Lib.hid hbw
  have HBN := Lib.hid hbn
  have HR := Lib.hid hR
  clear hsa hA hbd hbw hbn hR
  go_enter Try.func46, Try.ntmps46
  go_upto_region 1 with (fail)
  have hB1 := Blk.new w 90 #[.string ⟨f1.toArray⟩, .string ⟨f2.toArray⟩, .int .u64 (i : Int), .bool bd, .bool bw, .bool bn]
  have hF1 : Frm (New w) w (w.alloc (Obj.cells #[.string ⟨f1.toArray⟩, .string ⟨f2.toArray⟩, .int .u64 (i : Int), .bool bd, .bool bw, .bool bn] 90)) := (Frm.refl _ _).alloc Up.new _
  generalize w.alloc (Obj.cells #[.string ⟨f1.toArray⟩, .string ⟨f2.toArray⟩, .int .u64 (i : Int), .bool bd, .bool bw, .bool bn] 90) = w1 at *
  obtain ⟨bx, hbx⟩ : ∃ bx, bx = w.heap.size := ⟨_, rfl⟩
  rw [← hbx] at hB1 ⊢
  have hpb : pw ≠ bx := by omega
  replace hc2 : w1.cell? ⟨pw, 2, none⟩ = some (.int .u64 (count : Int)) := by rw [hF1.cell (p := ⟨pw, 2, none⟩) (by unfold New; simp only; omega)]; exact hc2
  replace hpl : pw < w1.heap.size := Nat.lt_of_lt_of_le hpl hF1.size
  clear hbx
  have hR1 := HA.out.fresh hF1
  have hx0 := hB1.cell 0
  have hx1 := hB1.cell 1
  have hx2 := hB1.cell 2
  have hx3 := hB1.cell 3
  have hx4 := hB1.cell 4
  have hx5 := hB1.cell 5
  simp only [List.getElem?_toArray, List.getElem?_cons_zero, List.getElem?_cons_succ] at hx0 hx1 hx2 hx3 hx4 hx5
  have hbl := hB1.lt
  have HB1 := Lib.hid hB1
  have HF1 := Lib.hid hF1
  have HR1 := Lib.hid hR1
  clear hB1 hF1 hR1
  rcases (by omega : k = 0 ∨ k = 1 ∨ k = 2 ∨ 3 ≤ k) with rfl | rfl | rfl | hk
  · obtain rfl : bd = false := HBD.out
    obtain rfl : bw = true := HBW.out
    obtain rfl : bn = false := HBN.out
    have hr : R = l ++ pfx 192 6 i := HR.out
    go_wp2_with (fail)
    refine (HSA.out w1).mono ?_
    rintro e w2 ⟨rfl, hw2⟩
    rw [hw2]
    clear hw2 w2
    cases sc
    all_goals
      go_wp2_with (fail)
      refine (prefix_nat l A c 192 6 i w1 HR1.out (by omega) (by omega) (by omega) (by omega) (by omega)).mono ?_
      rintro e w3 ⟨A3, c3, rfl, hA3, hF3⟩
      rw [← hr] at hA3 ⊢
      have hF03 := HF1.out.then_new Up.new hF3
      replace hA3 := hA3.mono (fun k hk => Nat.le_trans HF1.out.size hk)
      clear hF3
      have HA3 := Lib.hid hA3
      have HF03 := Lib.hid hF03
      have HR := Lib.hid hr
      clear hA3 hF03 hr
      go_wp2
      go_ret
      exact ⟨A3, c3, rfl, HA3.out, HF03.out⟩
  · obtain rfl : bd = true := HBD.out
    obtain rfl : bw = true := HBW.out
    obtain rfl : bn = false := HBN.out
    have hlt : i < count := hx rfl
    have hr : R = l ++ pfx 128 6 (count - 1 - i) := HR.out
    have hw1 : IntKind.u64.wrap ((count : Int) - 1) = ((count - 1 : Nat) : Int) := by rw [IntWalk.u64_in _ (by omega)]; omega
    obtain ⟨c1, hc1⟩ : ∃ c1, c1 = count - 1 := ⟨_, rfl⟩
    rw [← hc1] at hw1 hr
    have hw2 : IntKind.u64.wrap ((c1 : Int) - (i : Int)) = ((c1 - i : Nat) : Int) := by rw [IntWalk.u64_in _ (by omega)]; omega
    obtain ⟨c2, hcc⟩ : ∃ c2, c2 = c1 - i := ⟨_, rfl⟩
    rw [← hcc] at hw2 hr
    have hcl : c2 ≤ 1152921504606846976 := by omega
    have HC1 := Lib.hid hc1
    have HCC := Lib.hid hcc
    clear hc1 hcc
    go_wp2_with (fail)
    refine (HSA.out w1).mono ?_
    rintro e w2 ⟨rfl, hw2⟩
    rw [hw2]
    clear hw2 w2
    have hS0 : w1.drew.cell? ⟨pw, 2, none⟩ = some (.int .u64 (count : Int)) ∧ w1.drew.cell? ⟨bx, 2, none⟩ = some (.int .u64 (i : Int)) ∧ pw < w1.drew.heap.size ∧ bx < w1.drew.heap.size := ⟨hc2, hx2, hpl, hbl⟩
    cases sc
    all_goals
      go_upto_region 6 with (fail)
      refine wp_region_held (by kernel_rfl) (S := fun w' => w'.cell? ⟨pw, 2, none⟩ = some (.int .u64 (count : Int)) ∧ w'.cell? ⟨bx, 2, none⟩ = some (.int .u64 (i : Int)) ∧ pw < w'.heap.size ∧ bx < w'.heap.size) ?_
      change wpAnyH _ _ _ _ _ _ _ _ w1.drew
      refine wpAnyH_takeB (i := 0) (v := ?_) (d := some 27) rfl (by rfl) (by kernel_rfl) (fun _ _ _ h => h) (by rfl) hS0 (fun w hSw => ?_) ?_
      rotate_left
      · (try dsimp only at hSw); (try subst hSw); go_simp; first | done | (with_reducible rfl)
      simp only [Act.put, List.setIfInBounds_toArray, List.set_cons_zero, List.set_cons_succ]
      refine wpAnyH_takeB (i := 1) (v := ?_) (d := some 28) rfl (by rfl) (by kernel_rfl) (fun _ _ _ h => h) (by rfl) hS0 (fun w hSw => ?_) ?_
      rotate_left
      · (try dsimp only at hSw); (try subst hSw); go_simp; first | done | (with_reducible rfl)
      simp only [Act.put, List.setIfInBounds_toArray, List.set_cons_zero, List.set_cons_succ]
      refine wpAnyH_takeB (i := 2) (v := ?_) (d := some 29) rfl (by rfl) (by kernel_rfl) (fun _ _ _ h => h) (by rfl) hS0 (fun w hSw => ?_) ?_
      rotate_left
      · (try dsimp only at hSw); (try subst hSw); go_simp; first | done | (with_reducible rfl)
      simp only [Act.put, List.setIfInBounds_toArray, List.set_cons_zero, List.set_cons_succ]
      refine wpAnyH_takeB (i := 3) (v := ?_) (d := some 30) rfl (by rfl) (by kernel_rfl) (fun _ _ _ h => h) (by rfl) hS0 (fun w hSw => ?_) ?_
      rotate_left
      · (try dsimp only at hSw); (try subst hSw); go_simp; first | done | (with_reducible rfl)
      simp only [Act.put, List.setIfInBounds_toArray, List.set_cons_zero, List.set_cons_succ]
      refine wpAnyH_takeB (i := 4) (v := ?_) (d := some 31) rfl (by rfl) (by kernel_rfl) (fun _ _ _ h => h) (by rfl) hS0 (fun w hSw => ?_) ?_
      rotate_left
      · (try dsimp only at hSw); (try subst hSw); go_simp; first | done | (with_reducible rfl)
      simp only [Act.put, List.setIfInBounds_toArray, List.set_cons_zero, List.set_cons_succ]
      refine wpAnyH_takeB (i := 5) (v := ?_) (d := some 32) rfl (by rfl) (by kernel_rfl) (fun _ _ _ h => h) (by rfl) hS0 (fun w hSw => ?_) ?_
      rotate_left
      · (try dsimp only at hSw); (try subst hSw); go_simp; first | done | (with_reducible rfl)
      simp only [Act.put, List.setIfInBounds_toArray, List.set_cons_zero, List.set_cons_succ]
      refine wpAnyH_takeB (i := 6) (v := ?_) (d := some 33) rfl (by rfl) (by kernel_rfl) (fun _ _ _ h => h) (by rfl) hS0 (fun w hSw => ?_) ?_
      rotate_left
      · (try dsimp only at hSw); (try subst hSw); go_simp; first | done | (with_reducible rfl)
      simp only [Act.put, List.setIfInBounds_toArray, List.set_cons_zero, List.set_cons_succ]
      refine wpAnyH_takeB (i := 7) (v := ?_) (d := some 34) rfl (by rfl) (by kernel_rfl) (fun _ _ _ h => h) (by rfl) hS0 (fun w hSw => ?_) ?_
      rotate_left
      · (try dsimp only at hSw); (try subst hSw); go_simp; first | done | (with_reducible rfl)
      simp only [Act.put, List.setIfInBounds_toArray, List.set_cons_zero, List.set_cons_succ]
      refine wpAnyH_takeB (i := 8) (v := ?_) (d := some 35) rfl (by rfl) (by kernel_rfl) (fun _ _ _ h => h) (by rfl) hS0 (fun w hSw => ?_) ?_
      rotate_left
      · (try dsimp only at hSw); (try subst hSw); go_simp; first | done | (with_reducible rfl)
      simp only [Act.put, List.setIfInBounds_toArray, List.set_cons_zero, List.set_cons_succ]
      refine wpAnyH_takeB (i := 9) (v := ?_) (d := some 36) rfl (by rfl) (by kernel_rfl) (fun _ _ _ h => h) (by rfl) hS0 (fun w hSw => ?_) ?_
      rotate_left
      · (try dsimp only at hSw); (try subst hSw); go_simp; first | done | (with_reducible rfl)
      simp only [Act.put, List.setIfInBounds_toArray, List.set_cons_zero, List.set_cons_succ]
      refine wpAnyH_oneB (i := 10) rfl (by kernel_rfl) (fun K hKK => ?_)
      refine Eq.mpr (if_pos (by rfl)) ?_
      go_wp2_with (fail)
      refine (prefix_nat l A c 128 6 c2 w1.drew HR1.out.drew (by omega) (by omega) (by omega) (by omega) (by omega)).mono ?_
      rintro e w3 ⟨A3, c3, rfl, hA3, hF3⟩
      rw [← hr] at hA3 ⊢
      replace hF3 : Frm (New w1) w1 w3 := Frm.trans ((Frm.refl _ w1).drew) hF3
      have hS3 : w3.cell? ⟨pw, 2, none⟩ = some (.int .u64 (count : Int)) ∧ w3.cell? ⟨bx, 2, none⟩ = some (.int .u64 (i : Int)) ∧ pw < w3.heap.size ∧ bx < w3.heap.size := ⟨by rw [hF3.cell (p := ⟨pw, 2, none⟩) (by unfold New; simp only; omega)]; exact hc2, (HB1.out.fresh hF3).cell 2, Nat.lt_of_lt_of_le hpl hF3.size, (HB1.out.fresh hF3).lt⟩
      have hF03 := HF1.out.then_new Up.new hF3
      replace hA3 := hA3.mono (fun k hk => Nat.le_trans HF1.out.size hk)
      clear hF3
      have HA3 := Lib.hid hA3
      have HF03 := Lib.hid hF03
      have HR := Lib.hid hr
      clear hA3 hF03 hr
      refine hKK.out _ _ hS3 ?_
      clear hKK K
      try simp only [Act.put, List.setIfInBounds_toArray, List.set_cons_zero, List.set_cons_succ]
      refine wpAnyH_oneB (i := 11) rfl (by kernel_rfl) (fun K hK => ?_)
      refine Eq.mpr (if_pos (by rfl)) ?_
      go_simp
      refine hK.out _ _ (hS3) ?_
      clear hK K
      try simp only [Act.put, List.setIfInBounds_toArray, List.set_cons_zero, List.set_cons_succ]
      refine wpAnyH_done (by kernel_rfl) ?_ _
      go_wp2
      go_ret
      exact ⟨A3, c3, rfl, HA3.out, HF03.out⟩
  · obtain rfl : bd = false := HBD.out
    obtain rfl : bw = false := HBW.out
    obtain rfl : bn = true := HBN.out
    go_wp2_with (fail)
    refine (HSA.out w1).mono ?_
    rintro e w2 ⟨rfl, hw2⟩
    rw [hw2]
    clear hw2 w2
    cases sc with
    | true =>
      have hr0 : R = l ++ (pfx 112 4 i ++ strc 128 0 7 f2) := HR.out
      have hpx := pfx_length 112 4 i
      go_wp2_with (fail)
      refine (prefix_nat l A c 112 4 i w1 HR1.out (by omega) (by omega) (by omega) (by omega) (by omega)).mono ?_
      rintro e w3 ⟨A3, c3, rfl, hA3, hF3⟩
      obtain ⟨o2, ho2⟩ : ∃ o2, o2 = l ++ pfx 112 4 i := ⟨_, rfl⟩
      have hr : R = o2 ++ strc 128 0 7 f2 := by rw [hr0, ho2, List.append_assoc]
      have hlen2 : o2.length ≤ 1099511600000 := by
        rw [ho2, List.length_append]
        omega
      rw [← ho2] at hA3 ⊢
      have hF03 := HF1.out.then_new Up.new hF3
      have hb3 := HB1.out.fresh hF3
      clear hx2 hx3 hx4 hx5 hbl hF3 hc2 hpl hx0 hx1
      have hx1 := hb3.cell 1
      simp only [List.getElem?_toArray, List.getElem?_cons_zero, List.getElem?_cons_succ] at hx1
      have hbl := hb3.lt
      have hR3 := hA3.rd
      have HR3 := Lib.hid hR3
      have HB3 := Lib.hid hb3
      have HF03 := Lib.hid hF03
      have HA3 := Lib.hid hA3
      have HR := Lib.hid hr
      have HR0 := Lib.hid hr0
      have HO2 := Lib.hid ho2
      clear hR3 hb3 hF03 hA3 hr hr0 ho2
      go_wp2_with (fail)
      refine (strb_any o2 A3 c3 f2 w3 HR3.out (by omega) hf2).mono ?_
      rintro e w4 ⟨A4, c4, rfl, hA4, hF4⟩
      rw [← HR.out] at hA4 ⊢
      have hF04 := HF03.out.then_new Up.new hF4
      replace hA4 := hA4.mono (fun k hk => Nat.le_trans HF03.out.size hk)
      clear hF4
      have HA4 := Lib.hid hA4
      have HF04 := Lib.hid hF04
      clear hA4 hF04
      go_wp2
      go_ret
      exact ⟨A4, c4, rfl, HA4.out, HF04.out⟩
    | false =>
      have hr0 : R = l ++ (pfx 80 4 i ++ strc 128 0 7 f2) := HR.out
      have hpx := pfx_length 80 4 i
      go_wp2_with (fail)
      refine (prefix_nat l A c 80 4 i w1 HR1.out (by omega) (by omega) (by omega) (by omega) (by omega)).mono ?_
      rintro e w3 ⟨A3, c3, rfl, hA3, hF3⟩
      obtain ⟨o2, ho2⟩ : ∃ o2, o2 = l ++ pfx 80 4 i := ⟨_, rfl⟩
      have hr : R = o2 ++ strc 128 0 7 f2 := by rw [hr0, ho2, List.append_assoc]
      have hlen2 : o2.length ≤ 1099511600000 := by
        rw [ho2, List.length_append]
        omega
      rw [← ho2] at hA3 ⊢
      have hF03 := HF1.out.then_new Up.new hF3
      have hb3 := HB1.out.fresh hF3
      clear hx2 hx3 hx4 hx5 hbl hF3 hc2 hpl hx0 hx1
      have hx1 := hb3.cell 1
      simp only [List.getElem?_toArray, List.getElem?_cons_zero, List.getElem?_cons_succ] at hx1
      have hbl := hb3.lt
      have hR3 := hA3.rd
      have HR3 := Lib.hid hR3
      have HB3 := Lib.hid hb3
      have HF03 := Lib.hid hF03
      have HA3 := Lib.hid hA3
      have HR := Lib.hid hr
      have HR0 := Lib.hid hr0
      have HO2 := Lib.hid ho2
      clear hR3 hb3 hF03 hA3 hr hr0 ho2
      go_wp2_with (fail)
      refine (strb_any o2 A3 c3 f2 w3 HR3.out (by omega) hf2).mono ?_
      rintro e w4 ⟨A4, c4, rfl, hA4, hF4⟩
      rw [← HR.out] at hA4 ⊢
      have hF04 := HF03.out.then_new Up.new hF4
      replace hA4 := hA4.mono (fun k hk => Nat.le_trans HF03.out.size hk)
      clear hF4
      have HA4 := Lib.hid hA4
      have HF04 := Lib.hid hF04
      clear hA4 hF04
      go_wp2
      go_ret
      exact ⟨A4, c4, rfl, HA4.out, HF04.out⟩
  · obtain rfl : bd = false := by rw [HBD.out]; exact decide_eq_false (by omega)
    obtain rfl : bw = false := by rw [HBW.out]; exact decide_eq_false (by omega)
    obtain rfl : bn = false := by rw [HBN.out]; exact decide_eq_false (by omega)
    go_wp2_with (fail)
    refine (HSA.out w1).mono ?_
    rintro e w2 ⟨rfl, hw2⟩
    rw [hw2]
    clear hw2 w2
    cases sc with
    | true =>
      have hr0 : R = l ++ (strc 56 48 3 f1 ++ strc 128 0 7 f2) := by rw [HR.out, if_neg (by omega), if_neg (by omega), if_neg (by omega)]; rfl
      have hpx := strc_le 56 48 3 f1
      go_wp2_with (fail)
      refine (coded_any l A c 48 3 ⟨f1.toArray⟩ w1 HR1.out (by omega) (by show f1.toArray.size ≤ _; simpa using hf1) (by omega) (by omega) (by omega)).mono ?_
      rw [show (48 : Nat) ||| 2 ^ 3 = 56 from rfl, show (48 : Nat) &&& (255 - 2 ^ 3) = 48 from rfl, show f1.toArray.toList = f1 from by simp]
      rintro e w3 ⟨A3, c3, rfl, hA3, hF3⟩
      obtain ⟨o2, ho2⟩ : ∃ o2, o2 = l ++ strc 56 48 3 f1 := ⟨_, rfl⟩
      have hr : R = o2 ++ strc 128 0 7 f2 := by rw [hr0, ho2, List.append_assoc]
      have hlen2 : o2.length ≤ 1099511600000 := by
        rw [ho2, List.length_append]
        omega
      rw [← ho2] at hA3 ⊢
      have hF03 := HF1.out.then_new Up.new hF3
      have hb3 := HB1.out.fresh hF3
      clear hx2 hx3 hx4 hx5 hbl hF3 hc2 hpl hx0 hx1
      have hx1 := hb3.cell 1
      simp only [List.getElem?_toArray, List.getElem?_cons_zero, List.getElem?_cons_succ] at hx1
      have hbl := hb3.lt
      have hR3 := hA3.rd
      have HR3 := Lib.hid hR3
      have HB3 := Lib.hid hb3
      have HF03 := Lib.hid hF03
      have HA3 := Lib.hid hA3
      have HR := Lib.hid hr
      have HR0 := Lib.hid hr0
      have HO2 := Lib.hid ho2
      clear hR3 hb3 hF03 hA3 hr hr0 ho2
      go_wp2_with (fail)
      refine (strb_any o2 A3 c3 f2 w3 HR3.out (by omega) hf2).mono ?_
      rintro e w4 ⟨A4, c4, rfl, hA4, hF4⟩
      rw [← HR.out] at hA4 ⊢
      have hF04 := HF03.out.then_new Up.new hF4
      replace hA4 := hA4.mono (fun k hk => Nat.le_trans HF03.out.size hk)
      clear hF4
      have HA4 := Lib.hid hA4
      have HF04 := Lib.hid hF04
      clear hA4 hF04
      go_wp2
      go_ret
      exact ⟨A4, c4, rfl, HA4.out, HF04.out⟩
    | false =>
      have hr0 : R = l ++ (strc 40 32 3 f1 ++ strc 128 0 7 f2) := by rw [HR.out, if_neg (by omega), if_neg (by omega), if_neg (by omega)]; rfl
      have hpx := strc_le 40 32 3 f1
      go_wp2_with (fail)
      refine (coded_any l A c 32 3 ⟨f1.toArray⟩ w1 HR1.out (by omega) (by show f1.toArray.size ≤ _; simpa using hf1) (by omega) (by omega) (by omega)).mono ?_
      rw [show (32 : Nat) ||| 2 ^ 3 = 40 from rfl, show (32 : Nat) &&& (255 - 2 ^ 3) = 32 from rfl, show f1.toArray.toList = f1 from by simp]
      rintro e w3 ⟨A3, c3, rfl, hA3, hF3⟩
      obtain ⟨o2, ho2⟩ : ∃ o2, o2 = l ++ strc 40 32 3 f1 := ⟨_, rfl⟩
      have hr : R = o2 ++ strc 128 0 7 f2 := by rw [hr0, ho2, List.append_assoc]
      have hlen2 : o2.length ≤ 1099511600000 := by
        rw [ho2, List.length_append]
        omega
      rw [← ho2] at hA3 ⊢
      have hF03 := HF1.out.then_new Up.new hF3
      have hb3 := HB1.out.fresh hF3
      clear hx2 hx3 hx4 hx5 hbl hF3 hc2 hpl hx0 hx1
      have hx1 := hb3.cell 1
      simp only [List.getElem?_toArray, List.getElem?_cons_zero, List.getElem?_cons_succ] at hx1
      have hbl := hb3.lt
      have hR3 := hA3.rd
      have HR3 := Lib.hid hR3
      have HB3 := Lib.hid hb3
      have HF03 := Lib.hid hF03
      have HA3 := Lib.hid hA3
      have HR := Lib.hid hr
      have HR0 := Lib.hid hr0
      have HO2 := Lib.hid ho2
      clear hR3 hb3 hF03 hA3 hr hr0 ho2
      go_wp2_with (fail)
      refine (strb_any o2 A3 c3 f2 w3 HR3.out (by omega) hf2).mono ?_
      rintro e w4 ⟨A4, c4, rfl, hA4, hF4⟩
      rw [← HR.out] at hA4 ⊢
      have hF04 := HF03.out.then_new Up.new hF4
      replace hA4 := hA4.mono (fun k hk => Nat.le_trans HF03.out.size hk)
      clear hF4
      have HA4 := Lib.hid hA4
      have HF04 := Lib.hid hF04
      clear hA4 hF04
      go_wp2
      go_ret
      exact ⟨A4, c4, rfl, HA4.out, HF04.out⟩
end Go.Proofs.Ytdgggjeiflllhaa.M
namespace Go.Proofs.Ytdgggjeiflllhaa.M
open Go.ChangeShapes Go.WideShapes Go.ChangeAt Go.RowKit
structure Wq.Inv (W : Wq) (n0 o0 cap m : Nat) (F : Fld → Prop) : Prop where
  ll : W.lines.length = m
  ul : W.uses.length ≤ m
  ol : W.out.length ≤ o0 + 21000 * m
  tn : W.t.n ≤ n0 + m
  tc : W.t.cap = cap
  ok : W.t.Ok
  ct : W.count ≤ W.t.n
  li : ∀ x ∈ W.lines, (x.kind = 1 → x.i < W.count) ∧ (x.i ≤ 99 ∨ x.i < W.t.n)
  lf : ∀ x ∈ W.lines, F x.f
section
variable {W : Wq} {n0 o0 cap m : Nat} {F : Fld → Prop}
theorem Wq.Inv.lit (h : W.Inv n0 o0 cap m F) (x : Lq) (hk : x.kind ≠ 1) (hi : x.i ≤ 99) (hF : F x.f) : ({ W with lines := W.lines ++ [x] } : Wq).Inv n0 o0 cap (m + 1) F :=
  { ll := by have := h.ll; simp [this]
    ul := Nat.le_succ_of_le h.ul
    ol := Nat.le_trans h.ol (by omega)
    tn := Nat.le_succ_of_le h.tn
    tc := h.tc, ok := h.ok, ct := h.ct
    li := fun y hy => by
      rcases List.mem_append.1 hy with e | e
      · exact h.li y e
      · rw [List.mem_singleton.1 e]; exact ⟨fun q => absurd q hk, .inl hi⟩
    lf := fun y hy => by
      rcases List.mem_append.1 hy with e | e
      · exact h.lf y e
      · rw [List.mem_singleton.1 e]; exact hF }
theorem Wq.Inv.use (h : W.Inv n0 o0 cap m F) (f : Fld) (p : Nat) (hp : p < W.t.n) (hF : F f) : (W.use f p).Inv n0 o0 cap (m + 1) F :=
  { ll := by have := h.ll; simp [Wq.use, this]
    ul := by have := h.ul; simp [Wq.use, this]
    ol := Nat.le_trans h.ol (by omega)
    tn := Nat.le_succ_of_le h.tn
    tc := h.tc, ok := h.ok
    ct := by have := h.ct; show max W.count (p + 1) ≤ W.t.n; omega
    li := fun y hy => by
      rcases List.mem_append.1 hy with e | e
      · have := h.li y e
        refine ⟨fun q => ?_, this.2⟩
        have h1 := this.1 q
        show y.i < max W.count (p + 1)
        omega
      · rw [List.mem_singleton.1 e]
        refine ⟨fun _ => ?_, .inr hp⟩
        show p < max W.count (p + 1)
        omega
    lf := fun y hy => by
      rcases List.mem_append.1 hy with e | e
      · exact h.lf y e
      · rw [List.mem_singleton.1 e]; exact hF }
theorem insN_le (nm : Bool) (i : Nat) (f : Fld) (hf : fsize f ≤ 4096) : (insN nm i f).length ≤ 21000 := by
  have h1 := pfx_length 192 6 i
  have h2 := strc_le 96 64 5 f.1
  have h3 := strc_le 128 0 7 f.2
  unfold fsize at hf
  unfold insN
  rw [List.length_append]
  cases nm
  · show (strc 96 64 5 f.1).length + _ ≤ _; omega
  · show (pfx 192 6 i).length + _ ≤ _; omega
end
theorem oneN_inv {E : Qn} {W : Wq} {n0 o0 cap m : Nat} {F : Fld → Prop} (fr : Bool) (f : Fld) (h : W.Inv n0 o0 cap m F) (hF : F f) (hc : cap ≤ 4096) : (oneN E fr W f).Inv n0 o0 cap (m + 1) F := by
  have hq1 := findS_le h3tab f
  rw [h3_len.2.2] at hq1
  have hfl := find_lt W.t h.ok f
  have hl : (litQn (findS h3tab f) f).kind ≠ 1 ∧ (litQn (findS h3tab f) f).i ≤ 99 ∧ (litQn (findS h3tab f) f).f = f := by
    unfold litQn
    split
    · exact ⟨by simp, hq1, rfl⟩
    · exact ⟨by simp, hq1, rfl⟩
  unfold oneN
  split
  · exact h.lit ⟨0, _, f⟩ (by simp) hq1 hF
  split
  · next hz =>
    split
    · exact h.use f _ (hfl hz) hF
    · exact h.lit _ hl.1 hl.2.1 (by rw [hl.2.2]; exact hF)
  split
  · next hr =>
    have hfc : fsize f ≤ W.t.cap := by
      unfold Qn.room at hr
      by_cases hc : secret f.1 = true ∨ W.t.cap / 4 < fsize f
      · rw [if_pos hc] at hr; cases hr
      · omega
    obtain ⟨hok, hn⟩ := Tb.add_ok h.ok hfc
    have hil : (insB (findS h3tab f) f).length ≤ 21000 := insN_le (findS h3tab f).2.1 (findS h3tab f).1 f (by have := h.tc; omega)
    have hW : ∀ (ls : List Lq) (us : List Nat) (ct : Nat), ls.length = m + 1 → us.length ≤ m + 1 → ct ≤ W.t.n + 1 → (∀ x ∈ ls, (x.kind = 1 → x.i < ct) ∧ (x.i ≤ 99 ∨ x.i < W.t.n + 1)) → (∀ x ∈ ls, F x.f) → (⟨W.t.add f, W.out ++ insB (findS h3tab f) f, ls, us, ct⟩ : Wq).Inv n0 o0 cap (m + 1) F := fun ls us ct h1 h2 h3 h4 h5 =>
      { ll := h1, ul := h2
        ol := by have := h.ol; show (W.out ++ insB (findS h3tab f) f).length ≤ _; rw [List.length_append]; omega
        tn := by have := h.tn; show (W.t.add f).n ≤ _; omega
        tc := by rw [Tb.add_cap]; exact h.tc
        ok := hok
        ct := by show ct ≤ (W.t.add f).n; omega
        li := fun x hx => by
          have := h4 x hx
          refine ⟨this.1, ?_⟩
          show x.i ≤ 99 ∨ x.i < (W.t.add f).n
          omega
        lf := h5 }
    split
    · refine hW _ _ _ ?_ ?_ ?_ ?_ ?_
      · have := h.ll; simp [this]
      · have := h.ul; simp [this]
      · have := h.ct; show max W.count ((W.t.add f).n - 1 + 1) ≤ _; omega
      · intro x hx
        have hct := h.ct
        rcases List.mem_append.1 hx with e | e
        · have h9 := h.li x e
          refine ⟨fun q => ?_, by omega⟩
          have h8 := h9.1 q
          show x.i < max W.count ((W.t.add f).n - 1 + 1)
          omega
        · rw [List.mem_singleton.1 e]
          refine ⟨fun _ => ?_, ?_⟩
          · show (W.t.add f).n - 1 < max W.count ((W.t.add f).n - 1 + 1); omega
          · show (W.t.add f).n - 1 ≤ 99 ∨ (W.t.add f).n - 1 < W.t.n + 1; omega
      · intro x hx
        rcases List.mem_append.1 hx with e | e
        · exact h.lf x e
        · rw [List.mem_singleton.1 e]; exact hF
    · refine hW _ _ _ ?_ ?_ ?_ ?_ ?_
      · have := h.ll; simp [this]
      · exact Nat.le_succ_of_le h.ul
      · have := h.ct; show W.count ≤ _; omega
      · intro x hx
        rcases List.mem_append.1 hx with e | e
        · have h9 := h.li x e
          exact ⟨h9.1, by omega⟩
        · rw [List.mem_singleton.1 e]
          exact ⟨fun q => absurd q hl.1, .inl hl.2.1⟩
      · intro x hx
        rcases List.mem_append.1 hx with e | e
        · exact h.lf x e
        · rw [List.mem_singleton.1 e, hl.2.2]; exact hF
  · exact h.lit _ hl.1 hl.2.1 (by rw [hl.2.2]; exact hF)
theorem lineN_le (count : Nat) (x : Lq) (h : x.f.1.length + x.f.2.length ≤ 100000) : (lineN count x).length ≤ 600000 := by
  have h1 := pfx_length 192 6 x.i
  have h2 := pfx_length 128 6 (count - 1 - x.i)
  have h3 := fun a => pfx_length a 4 x.i
  have h4 := fun a b => strc_le a b 3 x.f.1
  have h5 := strc_le 128 0 7 x.f.2
  unfold lineN
  split
  · omega
  split
  · omega
  rw [List.length_append]
  split
  · have := h3 (if secret x.f.1 then 112 else 80); omega
  · have := h4 (if secret x.f.1 then 56 else 40) (if secret x.f.1 then 48 else 32); omega
end Go.Proofs.Ytdgggjeiflllhaa.M
namespace Go.Proofs.Ytdgggjeiflllhaa.M
open Go.ChangeShapes Go.WideShapes Go.ChangeAt Go.RowKit
theorem secE : Elem Try.prog 92 84 2 16 :=
  ⟨by kernel_rfl, by
    have h : (Try.prog.info? 84).map (fun i => (i.zero, i.size, i.bytes)) = some (some (.agg #[.int .u64 0, .map none]), 2, 16) := by kernel_rfl
    obtain ⟨i, hi, hz, hs, hb⟩ := info_parts h
    exact ⟨i, _, hi, hz, hs, hb, rfl⟩, by omega, by omega⟩
theorem entsR_put (s : Nat) (r : Ro) : ∀ L : List (Nat × Ro), entsR (putE s r L) = putE s r.v (entsR L)
  | [] => rfl
  | x :: t => by
    show entsR (putE s r (x :: t)) = putE s r.v ((x.1, x.2.v) :: entsR t)
    unfold putE
    simp only
    split
    · rfl
    · show (x.1, x.2.v) :: entsR (putE s r t) = _
      rw [entsR_put s r t]
theorem mem_put {ν : Type} (s : Nat) (r : ν) : ∀ L : List (Nat × ν), (L.map (·.1)).Nodup → ∀ x ∈ putE s r L, x = (s, r) ∨ (x ∈ L ∧ x.1 ≠ s)
  | [], _, x, hx => by simp [putE] at hx; exact .inl hx
  | y :: t, hn, x, hx => by
    simp only [List.map_cons, List.nodup_cons] at hn
    unfold putE at hx
    split at hx
    · next e =>
      rcases List.mem_cons.1 hx with h | h
      · exact .inl (by rw [h, e])
      · exact .inr ⟨List.mem_cons_of_mem _ h, fun q => hn.1 (by rw [← e, ← q]; exact List.mem_map.2 ⟨x, h, rfl⟩)⟩
    · next e =>
      rcases List.mem_cons.1 hx with h | h
      · subst h; exact .inr ⟨List.mem_cons_self .., fun q => e q.symm⟩
      · rcases mem_put s r t hn.2 x h with q | q
        · exact .inl q
        · exact .inr ⟨List.mem_cons_of_mem _ q.1, q.2⟩
theorem pair_put {ν : Type} {R : Nat × ν → Nat × ν → Prop} (s : Nat) (r : ν) : ∀ L : List (Nat × ν), L.Pairwise R → (L.map (·.1)).Nodup → (∀ x ∈ L, x.1 ≠ s → R x (s, r) ∧ R (s, r) x) → (putE s r L).Pairwise R
  | [], _, _, _ => by simp [putE]
  | y :: t, hp, hn, h => by
    simp only [List.map_cons, List.nodup_cons] at hn
    rw [List.pairwise_cons] at hp
    unfold putE
    split
    · next e =>
      refine List.pairwise_cons.2 ⟨fun x hx => ?_, hp.2⟩
      have h9 := (h x (List.mem_cons_of_mem _ hx) (fun q => hn.1 (by rw [← e, ← q]; exact List.mem_map.2 ⟨x, hx, rfl⟩))).2
      rw [← e]
      exact h9
    · next e =>
      refine List.pairwise_cons.2 ⟨fun x hx => ?_, pair_put s r t hp.2 hn.2 (fun x hx => h x (List.mem_cons_of_mem _ hx))⟩
      rcases mem_put s r t hn.2 x hx with q | q
      · rw [q]; exact (h y (List.mem_cons_self ..) (fun z => e z.symm)).1
      · exact hp.1 x q.1
theorem map_no_cells {w : World} {b : Nat} {ents : List (Nat × Value)} (h : MapIs w b ukey ents) {off : Nat} {xs : List Value} (hr : Rd w (some ⟨b, off, none⟩) xs) (hne : xs ≠ []) : False := by
  cases xs with
  | nil => exact hne rfl
  | cons x r =>
    obtain ⟨g, o, he, hc⟩ := hr 0 x rfl
    cases he
    obtain ⟨es, ck, hb, _, _⟩ := h
    unfold World.cell? at hc
    simp only [hb] at hc
    cases hc
section
variable {X S : Nat → Prop} {w w' w2 w3 : World} {pe g bm cr s mu c c2 : Nat} {Ar A A2 : Option Addr} {L : List (Nat × Ro)} {E : Qn} {ments : List (Nat × Value)} {N : Nat → Prop} {l : List (Qs × Nat)} {o : Qs}
theorem QnM.rows_keep (h : QnM X w pe g bm S Ar cr L E) (f : Frm N w w') (hN : ∀ k, N k → k = pe ∨ k = bm ∨ M.blk Ar = some k ∨ New w k) : (∀ x ∈ L, RoM X w' x.2) ∧ TabS S w' g E.t := by
  refine ⟨fun x hx => { h.rows x hx with
    app := (h.rows x hx).app.keep f (fun k hk e => by
      have h1 := h.ro x hx k hk
      rcases hN k e with q | q | q | q
      · exact h1.2.1 q
      · exact h1.2.2.1 q
      · exact h1.2.2.2 q
      · have := h.low k ((h.rows x hx).app.inM k hk); unfold New at q; omega)
    use_ := fun y hy => by
      obtain ⟨h1, ents, h2⟩ := (h.rows x hx).use_ y hy
      refine ⟨h1, ents, { h2 with map := h2.map.keep f (fun e => ?_) }⟩
      have h3 := h.us x hx y hy
      rcases hN _ e with q | q | q | q
      · exact h3.2.1 q
      · exact h3.2.2.1 q
      · exact h3.2.2.2 q
      · have := h.low _ h1; unfold New at q; omega }, h.tab.keep f (fun k hk e => ?_)⟩
  rcases hN k e with q | q | q | q
  · exact h.ps (q ▸ hk)
  · exact h.ms (q ▸ hk)
  · exact (h.rs k q).1 hk
  · have := h.low k (h.xs k hk); unfold New at q; omega
theorem QnM.setbegun (h : QnM X w pe g bm S Ar cr L E) : QnM X (w.setCell ⟨pe, 5, none⟩ (.bool true)) pe g bm S Ar cr L { E with begun := true } := by
  have f : Frm (fun k => k = pe) w (w.setCell ⟨pe, 5, none⟩ (.bool true)) := (Frm.refl (fun k => k = pe) w).setCell (p := ⟨pe, 5, none⟩) rfl _
  have hk := h.rows_keep f (fun k hk => .inl hk)
  exact { h with
    blk := by have := h.blk.set_ 5 (.bool true); simpa using this
    tab := hk.2, rows := hk.1
    map := h.map.keep f (fun e => h.mp e.symm)
    rest := h.rest.keep f (fun k hk e => (h.rs k hk).2.1 e)
    low := fun k hk => Nat.lt_of_lt_of_le (h.low k hk) f.size }
theorem QnM.few (h : QnM X w pe g bm S Ar cr L E) : L.length ≤ E.opn.length := by
  have h1 := nodup_le (L.map (·.1)) (E.opn.map (·.stream)) h.nd (fun s hs => by
    obtain ⟨x, hx, rfl⟩ := List.mem_map.1 hs
    have h1 := h.same x hx
    have h2 := (h.rows x hx).ne
    cases hl : x.2.l with
    | nil => exact absurd hl h2
    | cons y r =>
      rw [hl, List.map_cons] at h1
      have : y.1 ∈ E.opn.filter fun o => decide (o.stream = x.1) := by rw [← h1]; exact List.mem_cons_self ..
      rw [List.mem_filter] at this
      exact List.mem_map.2 ⟨y.1, this.1, of_decide_eq_true this.2⟩)
  simpa using h1
theorem QnM.push (h : QnM X w pe g bm S Ar cr L E) (ho : o.stream = s) (hu : UseM w mu o.uses ments) (hmX : ¬ X mu) (hml : mu < w.heap.size) (hct : o.count ≤ 1152921504606846976) (hcn : o.count ≤ E.t.n)
    (hl : l.map (·.1) = E.opn.filter (fun o => decide (o.stream = s))) (hn : getE s L = none → l = [] ∧ A = none) (hs : ∀ x, getE s L = some x → A = x.A ∧ c = x.c ∧ l = x.l)
    (hA : App (fun k => X k ∧ M.blk A = some k ∨ New w k) w2 84 2 A2 (l.length + 1) c2 (secC (l ++ [(o, mu)]))) (f : Frm (fun k => X k ∧ M.blk A = some k ∨ New w k) w w2) (hm : MapIs w3 bm ukey (putE s (.slice A2 (l.length + 1) c2) (entsR L))) (f3 : Frm (· = bm) w2 w3) :
    QnM (fun k => X k ∨ k = mu ∨ M.blk A2 = some k) w3 pe g bm S Ar cr (putE s ⟨A2, c2, l ++ [(o, mu)]⟩ L) { E with opn := E.opn ++ [o] } := by
  have hrow : ∀ k, M.blk A = some k → ∃ x ∈ L, x.1 = s ∧ M.blk x.2.A = some k := fun k hk => by
    cases hg : getE s L with
    | none => rw [(hn hg).2] at hk; cases hk
    | some x => exact ⟨(s, x), getE_mem hg, rfl, (hs x hg).1 ▸ hk⟩
  have hno : ∀ k, k < w.heap.size → M.blk A ≠ some k → ¬ (X k ∧ M.blk A = some k ∨ New w k) := fun k hk hne e => by
    rcases e with e | e
    · exact hne e.2
    · unfold New at e; omega
  have hfar : ∀ k, M.blk A = some k → ¬ S k ∧ k ≠ pe ∧ k ≠ bm ∧ M.blk Ar ≠ some k := fun k hk => by
    obtain ⟨x, hx, _, hb⟩ := hrow k hk
    exact h.ro x hx k hb
  have hA2 : ∀ k, M.blk A2 = some k → k < w2.heap.size ∧ (X k ∧ M.blk A = some k ∨ New w k) := fun k hk => by
    obtain ⟨gg, off, rfl, hlt⟩ := hA.rd.lt (by
      intro e
      have := congrArg List.length e
      rw [secC_len] at this
      simp at this)
    have hkg : gg = k := by simpa using hk
    subst hkg
    exact ⟨hlt, hA.inM gg rfl⟩
  have h2far : ∀ k, M.blk A2 = some k → ¬ S k ∧ k ≠ pe ∧ k ≠ bm ∧ M.blk Ar ≠ some k := fun k hk => by
    rcases (hA2 k hk).2 with e | e
    · exact hfar k e.2
    · have e : w.heap.size ≤ k := e
      have hpe := h.low pe h.xp
      have hbm := h.low bm h.xm
      refine ⟨fun q => ?_, by omega, by omega, fun q => ?_⟩
      · have := h.low k (h.xs k q); omega
      · have := h.low k (h.rest.inM k q); omega
  have hnb : ∀ k, k ≠ bm → ¬ (k = bm) := fun _ h => h
  have huse : ∀ {b : Nat} {ents : List (Nat × Value)} {us : List Nat}, UseM w b us ents → b < w.heap.size → b ≠ bm → UseM w3 b us ents := fun {b ents us} hU hb hbm => by
    refine { hU with map := (hU.map.keep f (fun e => ?_)).keep f3 hbm }
    rcases e with e | e
    · obtain ⟨x, hx, _, hb2⟩ := hrow b e.2
      have happ := (h.rows x hx).app
      have hne : secC x.2.l ≠ [] := fun q => by
        have := congrArg List.length q
        rw [secC_len] at this
        have h3 := List.length_pos_iff.2 (h.rows x hx).ne
        simp only [List.length_nil] at this
        omega
      obtain ⟨gg, off, hg, _⟩ := happ.rd.lt hne
      rw [hg] at hb2
      have hgb : gg = b := by simpa using hb2
      subst hgb
      exact map_no_cells hU.map (hg ▸ happ.rd) hne
    · unfold New at e; omega
  have hmem := mem_put s (⟨A2, c2, l ++ [(o, mu)]⟩ : Ro) L h.nd
  have hXm : ∀ k, X k → k ≠ mu := fun k hk e => hmX (e ▸ hk)
  have hold : ∀ y ∈ l, X y.2 ∧ (∃ ents, UseM w y.2 y.1.uses ents) ∧ y.1.count ≤ 1152921504606846976 ∧ (¬ S y.2 ∧ y.2 ≠ pe ∧ y.2 ≠ bm ∧ M.blk Ar ≠ some y.2) := fun y hy => by
    cases hg : getE s L with
    | none => rw [(hn hg).1] at hy; cases hy
    | some x =>
      have hx := getE_mem hg
      rw [(hs x hg).2.2] at hy
      obtain ⟨q1, q2⟩ := (h.rows _ hx).use_ y hy
      exact ⟨q1, q2, (h.rows _ hx).small y hy, h.us _ hx y hy⟩
  exact {
    blk := (h.blk.keep f (hno pe (h.low pe h.xp) (fun e => (hfar pe e).2.1 rfl))).keep f3 h.mp
    tab := (h.tab.keep f (fun k hk => hno k (h.low k (h.xs k hk)) (fun e => (hfar k e).1 hk))).keep f3 (fun k hk e => h.ms (e ▸ hk))
    map := by rw [entsR_put]; simpa [Ro.v] using hm
    nd := nodup_put s _ L h.nd
    rows := fun x hx => by
      rcases hmem x hx with rfl | ⟨hx, hxs⟩
      · exact {
          app := by
            show App _ w3 _ 2 A2 (l ++ [(o, mu)]).length c2 _
            rw [List.length_append]
            have h1 := hA.keep f3 (fun k hk e => (h2far k hk).2.2.1 e)
            exact { h1 with
              inM := fun k hk => .inr (.inr hk)
              own := fun hc => by
                obtain ⟨gg, off, cur, a, b2, d, m⟩ := h1.own hc
                exact ⟨gg, off, cur, a, b2, d, .inr (.inr (by rw [a]; rfl))⟩ }
          use_ := fun y hy => by
            rcases List.mem_append.1 hy with e | e
            · obtain ⟨q1, ⟨ents, q2⟩, _, q4⟩ := hold y e
              exact ⟨.inl q1, ents, huse q2 (h.low _ q1) q4.2.2.1⟩
            · rw [List.mem_singleton.1 e]
              exact ⟨.inr (.inl rfl), ments, huse hu hml (fun e => hXm bm h.xm e.symm)⟩
          ne := by simp
          small := fun y hy => by
            rcases List.mem_append.1 hy with e | e
            · exact (hold y e).2.2.1
            · rw [List.mem_singleton.1 e]; exact hct }
      · exact { h.rows x hx with
          app := (((h.rows x hx).app.keep f (fun k hk => hno k (h.low k ((h.rows x hx).app.inM k hk)) (fun e => by
            obtain ⟨z, hz, hzs, hzb⟩ := hrow k e
            rcases List.getElem_of_mem hx with ⟨i, hi, rfl⟩
            rcases List.getElem_of_mem hz with ⟨j, hj, rfl⟩
            have hij : i ≠ j := fun q => by subst q; exact hxs hzs
            rcases Nat.lt_or_gt_of_ne hij with q | q
            · exact (List.pairwise_iff_getElem.1 h.rr i j hi hj q) (hk.trans hzb.symm)
            · exact (List.pairwise_iff_getElem.1 h.rr j i hj hi q) (hzb.trans hk.symm)))).keep f3 (fun k hk e => (h.ro x hx k hk).2.2.1 e)).mono (fun k hk => .inl hk)
          use_ := fun y hy => by
            obtain ⟨q1, ents, q2⟩ := (h.rows x hx).use_ y hy
            exact ⟨.inl q1, ents, huse q2 (h.low _ q1) (h.us x hx y hy).2.2.1⟩ }
    same := fun x hx => by
      show _ = (E.opn ++ [o]).filter _
      rw [List.filter_append]
      rcases hmem x hx with rfl | ⟨hx, hxs⟩
      · rw [List.map_append, hl]
        simp [ho]
      · rw [h.same x hx, show ([o].filter fun o => decide (o.stream = x.1)) = [] from by simp [ho]; exact fun e => hxs e.symm, List.append_nil]
    all := fun q hq => by
      rw [mem_keys_put]
      rcases List.mem_append.1 hq with e | e
      · exact .inr (h.all q e)
      · rw [List.mem_singleton.1 e]; exact .inl ho
    rest := ((h.rest.keep f (fun k hk => hno k (h.low k (h.rest.inM k hk)) (fun e => (hfar k e).2.2.2 hk))).keep f3 (fun k hk e => (h.rs k hk).2.2 e)).mono (fun k hk => .inl hk)
    low := fun k hk => by
      have hs1 := f.size
      have hs2 := f3.size
      rcases hk with hk | hk | hk
      · have := h.low k hk; omega
      · omega
      · have := (hA2 k hk).1; omega
    xp := .inl h.xp, xm := .inl h.xm, xs := fun k hk => .inl (h.xs k hk)
    ps := h.ps, ms := h.ms, mp := h.mp, rs := h.rs
    ro := fun x hx k hk => by
      rcases hmem x hx with rfl | ⟨hx, _⟩
      · exact h2far k hk
      · exact h.ro x hx k hk
    us := fun x hx y hy => by
      rcases hmem x hx with rfl | ⟨hx, _⟩
      · rcases List.mem_append.1 hy with e | e
        · exact (hold y e).2.2.2
        · rw [List.mem_singleton.1 e]
          exact ⟨fun q => hmX (h.xs _ q), fun q => hXm pe h.xp q.symm, fun q => hXm bm h.xm q.symm, fun q => hmX (h.rest.inM _ q)⟩
      · exact h.us x hx y hy
    rr := pair_put s _ L h.rr h.nd (fun x hx hxs => by
      have hne : M.blk x.2.A ≠ M.blk A2 := fun e => by
        have hne : secC x.2.l ≠ [] := fun q => by
          have := congrArg List.length q
          rw [secC_len] at this
          have h3 := List.length_pos_iff.2 (h.rows x hx).ne
          simp only [List.length_nil] at this
          omega
        obtain ⟨gg, off, hg, _⟩ := (h.rows x hx).app.rd.lt hne
        have hk : M.blk x.2.A = some gg := by rw [hg]; rfl
        rcases (hA2 gg (e ▸ hk)).2 with q | q
        · obtain ⟨z, hz, hzs, hzb⟩ := hrow gg q.2
          rcases List.getElem_of_mem hx with ⟨i, hi, rfl⟩
          rcases List.getElem_of_mem hz with ⟨j, hj, rfl⟩
          have hij : i ≠ j := fun q => by subst q; exact hxs hzs
          rcases Nat.lt_or_gt_of_ne hij with q | q
          · exact (List.pairwise_iff_getElem.1 h.rr i j hi hj q) (hk.trans hzb.symm)
          · exact (List.pairwise_iff_getElem.1 h.rr j i hj hi q) (hzb.trans hk.symm)
        · have := h.low gg ((h.rows x hx).app.inM gg hk); unfold New at q; omega
      exact ⟨hne, fun e => hne e.symm⟩)
    ok := h.ok, cap := h.cap, nb := h.nb, kn := h.kn, bl := h.bl, rl := h.rl
    ctn := fun q hq => by
      rcases List.mem_append.1 hq with e | e
      · exact h.ctn q e
      · rw [List.mem_singleton.1 e]; exact hcn }
end
end Go.Proofs.Ytdgggjeiflllhaa.M

