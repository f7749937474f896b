/- bifoldlaw24.known: it tells true. No condition. -/
import Derived.BigQuiet
import Derived.Deep.CutBlock
import Derived.Lib.Hide
import Derived.IntWalk
import Derived.Test.YtljleaomlooiaaaRst
import Derived.Test.YtljleaomlooiaaaStr
namespace Go.Proofs.Ytljleaomlooiaaa.M
open Go.ChangeShapes Go.WideShapes Go.ChangeAt Go.RowKit

set_option maxRecDepth 100000 in
set_option maxHeartbeats 2000000 in
theorem known_any (w : World) : Calls Try.prog 7 #[] w fun e w' => e = .returned (.bool true) ∧ Frm (New w) w w' := by
  have hE0 : ∀ k, k < w.heap.size → k < w.heap.size := fun _ h => h
  have hnew := bnew_any (fun k => k < w.heap.size) 10 w hE0
  have HN := Lib.hid hnew
  clear hnew hE0
  go_enter Try.func7, Try.ntmps7
  go_wp2_with (go_at_call 8; refine HN.out.mono ?_; rintro e w1 ⟨rfl, hB1, hF1⟩; have HB1 := Lib.hid hB1; have HF1 := Lib.hid hF1; clear hB1 hF1)
  rw [run_lit]
  go_wp2_with (fail)
  refine (badd_lit 2 [99] true _ _ _ rfl HB1.out (by decide) (by decide)).mono ?_
  rintro e w2 ⟨rfl, B2, hB2, hA2, hF2⟩
  have h0 : Bf.adds ⟨[], 0, 0, min 10 4611686018427387903, 0, false, false⟩ 2 [99] true = 0 := by kernel_rfl
  obtain rfl : B2 = ⟨[⟨2, [99]⟩], 0, 3, 10, 3, true, false⟩ := AddTo.is (B := ⟨[], 0, 0, min 10 4611686018427387903, 0, false, false⟩) (off := 2) (b := [99]) (f := true) hA2 _ h0 (by kernel_rfl) (.refl _) (by simp) (by kernel_rfl)
  have hF02 : Hid (Frm (fun k => ¬ k < w.heap.size) w w2) := (HF1.out.mono (fun k hk c => by unfold New at hk; omega)).trans hF2
  rw [h0]
  clear h0 hF2 hA2
  have hr := bread_any 9 hB2 (by omega) (by decide)
  have hm : Bf.many ⟨[⟨2, [99]⟩], 0, 3, 10, 3, true, false⟩ 9 = 0 := by kernel_rfl
  have hm2 : Bf.reads ⟨[⟨2, [99]⟩], 0, 3, 10, 3, true, false⟩ 0 = ⟨[⟨2, [99]⟩], 0, 3, 10, 3, true, false⟩ := by kernel_rfl
  rw [hm, hm2] at hr
  have HR := Lib.hid hr
  clear hr
  clear hm hm2 hB2 HB1
  go_wp2_with (fail)
  refine HR.out.mono ?_
  rintro e w3 ⟨Ao, co, rfl, _, hB3, hF3⟩
  have hF03 := hF02.out.trans hF3
  have HB3 := Lib.hid hB3
  have HF03 := Lib.hid hF03
  clear hB3 hF3 hF03 hF02 HR HF1
  go_wp2_with (fail)
  rw [run_lit]
  go_wp2_with (fail)
  refine (badd_lit 0 [97, 98] false _ _ _ rfl HB3.out (by decide) (by decide)).mono ?_
  rintro e w4 ⟨rfl, B4, hB4, hA4, hF4⟩
  have h0 : Bf.adds ⟨[⟨2, [99]⟩], 0, 3, 10, 3, true, false⟩ 0 [97, 98] false = 0 := by kernel_rfl
  obtain rfl : B4 = ⟨[⟨0, [97, 98]⟩, ⟨2, [99]⟩], 0, 3, 10, 3, true, false⟩ := AddTo.is (B := ⟨[⟨2, [99]⟩], 0, 3, 10, 3, true, false⟩) (off := 0) (b := [97, 98]) (f := false) hA4 _ h0 (by kernel_rfl) (List.Perm.swap _ _ _) (by simp) (by kernel_rfl)
  have hF04 := HF03.out.trans hF4
  rw [h0]
  have HB4 := Lib.hid hB4
  have HF04 := Lib.hid hF04
  clear h0 hA4 hF4 HF03 hB4 hF04 HB3
  go_wp2_with (fail)
  rw [run_lit]
  go_wp2_with (fail)
  refine (badd_lit 2 [99, 100] false _ _ _ rfl HB4.out (by decide) (by decide)).mono ?_
  rintro e w5 ⟨rfl, B5, hB5, hA5, hF5⟩
  have h0 : Bf.adds ⟨[⟨0, [97, 98]⟩, ⟨2, [99]⟩], 0, 3, 10, 3, true, false⟩ 2 [99, 100] false = 42 := by kernel_rfl
  obtain rfl : B5 = ⟨[⟨0, [97, 98]⟩, ⟨2, [99]⟩], 0, 3, 10, 3, true, false⟩ := AddTo.no (B := ⟨[⟨0, [97, 98]⟩, ⟨2, [99]⟩], 0, 3, 10, 3, true, false⟩) (off := 2) (b := [99, 100]) (f := false) hA5 (fun c => by rw [h0] at c; cases c.1)
  have hF05 := HF04.out.trans hF5
  rw [h0]
  have HB5 := Lib.hid hB5
  have HF05 := Lib.hid hF05
  clear h0 hA5 hF5 HF04 hB5 hF05 HB4
  go_wp2_with (fail)
  rw [run_lit]
  go_wp2_with (fail)
  refine (badd_lit 9 [120, 121] false _ _ _ rfl HB5.out (by decide) (by decide)).mono ?_
  rintro e w6 ⟨rfl, B6, hB6, hA6, hF6⟩
  have h0 : Bf.adds ⟨[⟨0, [97, 98]⟩, ⟨2, [99]⟩], 0, 3, 10, 3, true, false⟩ 9 [120, 121] false = 31 := by kernel_rfl
  obtain rfl : B6 = ⟨[⟨0, [97, 98]⟩, ⟨2, [99]⟩], 0, 3, 10, 3, true, false⟩ := AddTo.no (B := ⟨[⟨0, [97, 98]⟩, ⟨2, [99]⟩], 0, 3, 10, 3, true, false⟩) (off := 9) (b := [120, 121]) (f := false) hA6 (fun c => by rw [h0] at c; cases c.1)
  have hF06 := HF05.out.trans hF6
  rw [h0]
  have hr := bread_any 9 hB6 (by omega) (by decide)
  have hm : Bf.many ⟨[⟨0, [97, 98]⟩, ⟨2, [99]⟩], 0, 3, 10, 3, true, false⟩ 9 = 3 := by kernel_rfl
  have hm2 : Bf.reads ⟨[⟨0, [97, 98]⟩, ⟨2, [99]⟩], 0, 3, 10, 3, true, false⟩ 3 = ⟨[], 3, 3, 10, 3, true, false⟩ := by kernel_rfl
  have hm3 : (run [⟨0, [97, 98]⟩, ⟨2, [99]⟩] 0).take 3 = [97, 98, 99] := by kernel_rfl
  simp only [hm, hm2, hm3] at hr
  have HF06 := Lib.hid hF06
  have HR := Lib.hid hr
  clear hr
  clear h0 hA6 hF6 HF05 hB6 hF06 HB5 hm hm2 hm3
  go_wp2_with (fail)
  refine HR.out.mono ?_
  rintro e w7 ⟨Ao, co, rfl, hAo, hB7, hF7⟩
  have hF07 := HF06.out.trans hF7
  have hRd := hAo.rd
  have hd := bdone_any hB7
  have ho : Bf.over ⟨[], 3, 3, 10, 3, true, false⟩ = true := by kernel_rfl
  rw [ho] at hd
  have HRD := Lib.hid hRd
  have HD := Lib.hid hd
  clear hRd hd
  have HF07 := Lib.hid hF07
  clear ho hAo hB7 hF7 hF07 HF06 HR
  go_wp2_with (refine wpList_conv (l := [97, 98, 99]) rfl rfl rfl HRD.out ?_; simp only [str])
  refine HD.out.mono ?_
  rintro e w8 ⟨rfl, hB8, hF8⟩
  have hh := bheld_any hB8
  have h0 : hl [] = 0 := by kernel_rfl
  simp only [h0] at hh
  have hF08 := HF07.out.trans (hF8.mono (fun k hk c => by have := hB8.lo k c; have := HF07.out.size; unfold New at hk; omega))
  have HF08 := Lib.hid hF08
  have HH := Lib.hid hh
  clear hh
  clear h0 hB8 hF8 hF08 HF07 HRD HD
  go_wp2_with (fail)
  refine HH.out.mono ?_
  rintro e w9 ⟨rfl, hB9, hF9⟩
  have ht := btop_any hB9
  have hF09 := HF08.out.trans (hF9.mono (fun k hk c => by have := hB9.lo k c; have := HF08.out.size; unfold New at hk; omega))
  have HF09 := Lib.hid hF09
  have HT := Lib.hid ht
  clear ht
  clear hB9 hF9 hF09 HF08 HH
  go_wp2_with (fail)
  refine HT.out.mono ?_
  rintro e w10 ⟨rfl, hw⟩
  rw [hw]
  clear hw
  go_wp2
  go_ret
  exact ⟨rfl, HF09.out.mono (fun k hk => by unfold New; omega)⟩
end Go.Proofs.Ytljleaomlooiaaa.M
