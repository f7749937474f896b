/- bifoldlaw7.HencStrs: for every input it tells true. No condition. -/
import Derived.Test.YtcebckkpablagaaKnow
import Derived.Test.YtcebckkpablagaaIn
import Derived.Test.YtcebckkpablagaaSrc
import Derived.Deep.RegionWith
namespace Go.Proofs.Ytcebckkpablagaa.M
open Go.ChangeShapes Go.WideShapes Go.ChangeAt Go.RowKit

set_option maxRecDepth 100000 in
set_option maxHeartbeats 1000000 in
theorem strs_walk (A : Option Addr) (n c : Nat) (l : Bytes) (s : ByteArray) (W : World) (h : BIn W A n c l) (hs : s.size ≤ maxLen) :
    Calls Try.prog 3 #[.slice A n c, .string s] W fun e w' => e = .returned (.bool true) ∧ Below W.heap.size W w' := by
  obtain ⟨hn, hR, hlow, hnil, hcap, hmax⟩ := h
  have hsz : s.size ≤ 9223372036854775807 := hs
  have hcz : c ≤ 9223372036854775807 := hmax
  subst hn
  have HR := Lib.hid hR
  have HLOW := Lib.hid hlow
  have HNIL := Lib.hid hnil
  have HS := Lib.hid hs
  have HM := Lib.hid hmax
  clear hR hlow hnil hs hmax
  by_cases h1 : 100 < l.length
  · go_enter Try.func3, Try.ntmps3
    go_wp2_with (go_at_call 15; refine (known7_any _).mono ?_; rintro e w1 ⟨rfl, hF1⟩; have HF1 := Lib.hid hF1; clear hF1)
    go_ret
    exact ⟨rfl, HF1.out.below⟩
  · by_cases h2 : 300 < s.size
    · go_enter Try.func3, Try.ntmps3
      go_wp2_with (go_at_call 15; refine (known7_any _).mono ?_; rintro e w1 ⟨rfl, hF1⟩; have HF1 := Lib.hid hF1; clear hF1)
      go_ret
      exact ⟨rfl, HF1.out.below⟩
    · obtain ⟨r, hr⟩ : ∃ r : Bytes, Hid (l ++ strc 128 0 7 s.data.toList = r) := ⟨_, rfl⟩
      have hC1 : ∀ w, Rd w A (bvs l) → Calls Try.prog 16 #[.slice A l.length c, .string s] w (RetB w r) := fun w hw => by
        rw [← hr.out]; exact str_any l A c s w hw (by omega) (by omega)
      have hC2 : ∀ (M : Nat → Prop) (w : World), Up M w → Src M w 5 1 A l.length l.length (bvs l) → Calls Try.prog 17 #[.slice A l.length l.length, .int .u8 0, .int .i64 7, .string s] w (RetA M w r) := fun M w hu hA => by
        rw [← hr.out]; exact putstr_src M l A l.length 0 7 s w hu hA (by omega) (by omega) (by omega) (by omega) (by omega)
      have HC1 := Lib.hid hC1
      have HC2 := Lib.hid hC2
      clear hC1 hC2
      go_enter Try.func3, Try.ntmps3
      go_upto_region 5 with (go_at_call 15; refine (known7_any _).mono ?_; rintro e w1 ⟨rfl, hF1⟩; have HF1 := Lib.hid hF1; clear hF1)
      have HR1 := Lib.hid (HR.out.fresh HF1.out)
      have hs1 := HF1.out.size
      go_region_with (first
        | (go_at_call 16
           refine (HC1.out _ (by first | exact HR1.out | exact HR1.out.drew)).mono ?_
           rintro e w2 ⟨A2, c2, rfl, hA2, hF2⟩
           have hF2 : Frm (New w1) w1 w2 := Frm.trans (w' := w1.drew) ((Frm.refl _ _).drew) hF2
           have hA2 : App (New w1) w2 5 1 A2 r.length c2 (bvs r) := hA2
           have hcv := run_conv hA2.rd (c := c2)
           simp only [str] at hcv
           have HA2 := Lib.hid hA2
           have HF2 := Lib.hid hF2
           clear hA2 hF2)
        | (go_at_call 17
           refine (HC2.out (New w2) _ Up.new (App.full (HR1.out.fresh HF2.out) (by simp [bvs]) (by simp only [maxLen]; omega) HNIL.out (fun k hk => .inr ⟨rfl, hk⟩))).mono ?_
           rintro e w3 ⟨A3, c3, rfl, hA3, hF3⟩
           have hcv3 := run_conv hA3.rd (c := c3)
           have hcv2 := run_conv (HA2.out.rd.fresh hF3) (c := c2)
           simp only [str] at hcv2 hcv3
           have HF3 := Lib.hid hF3
           clear hA3 hF3))
      all_goals go_wp2
      all_goals go_ret
      all_goals exact ⟨rfl, ((HF1.out.then_new Up.new HF2.out).then_new Up.new HF3.out).below⟩
end Go.Proofs.Ytcebckkpablagaa.M
