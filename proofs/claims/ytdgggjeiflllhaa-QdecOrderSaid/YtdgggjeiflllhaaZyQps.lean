/- Qps -/
import Derived.BigQuiet
import Derived.IntWalk
import Derived.Deep.CutBlock
import Derived.Lib.Hide
import Derived.Test.YtdgggjeiflllhaaZyQt
import Derived.Test.YtdgggjeiflllhaaZyQd
import Derived.Test.YtdgggjeiflllhaaZyRnum

namespace Go.Proofs.Ytdgggjeiflllhaa.M
open Go.ChangeShapes Go.WideShapes Go.ChangeAt Go.RowKit
theorem rqenc_nat (c cap : Nat) (hc : c ≤ 18446744073709551615) (hcap : cap ≤ 4096) (w : World) : Calls Try.prog 70 #[.int .u64 (c : Int), .int .i64 (cap : Int)] w fun e w' => e = .returned (.int .u64 (encQ c cap : Nat)) ∧ w = w' := by
  have h := rqenc_any (c : Int) (cap : Int) w (by omega) (by omega) (by omega) (by omega)
  rw [qenc_nat] at h
  exact h
set_option maxRecDepth 100000 in
set_option maxHeartbeats 2000000 in
theorem rqpre_any (M : Nat → Prop) (l : Bytes) (A : Option Addr) (c count base cap : Nat) (w : World) (hu : Up M w) (hA : App M w 5 1 A l.length c (bvs l)) (hl : l.length ≤ 1099511627776) (h1 : count ≤ 4611686018427387903) (h2 : base ≤ 4611686018427387903) (hcap : cap ≤ 4096) :
    Calls Try.prog 36 #[.slice A l.length c, .int .u64 (count : Int), .int .u64 (base : Int), .int .i64 (cap : Int)] w (RetA M w (l ++ prefQ count base cap)) := by
  have he := fun w' => rqenc_nat count cap (by omega) hcap w'
  have hel := encQ_le count cap hcap
  have hp := rprefix_nat M l A c 0 8 (encQ count cap) w hu hA (by omega) (by decide) (by decide) (by decide) (by omega)
  have hq : ∀ (A1 : Option Addr) (c1 f v : Nat) (w1 : World), f ≤ 255 → v ≤ 4611686018427387903 → Up M w1 → App M w1 5 1 A1 (l ++ pfx 0 8 (encQ count cap)).length c1 (bvs (l ++ pfx 0 8 (encQ count cap))) → Calls Try.prog 35 #[.slice A1 (l ++ pfx 0 8 (encQ count cap)).length c1, .int .u8 f, .int .i64 7, .int .u64 v] w1 (RetA M w1 ((l ++ pfx 0 8 (encQ count cap)) ++ pfx f 7 v)) := fun A1 c1 f v w1 hf hv hu1 h => rprefix_nat M _ A1 c1 f 7 v w1 hu1 h (by rw [List.length_append]; have := pfx_length 0 8 (encQ count cap); omega) hf (by decide) (by decide) (by omega)
  have hres : l ++ prefQ count base cap = (l ++ pfx 0 8 (encQ count cap)) ++ (if count ≤ base then pfx 0 7 (base - count) else pfx 128 7 (count - base - 1)) := by unfold prefQ; rw [List.append_assoc]
  rw [hres]
  generalize encQ count cap = en at *
  generalize l ++ pfx 0 8 en = l1 at *
  clear hres hel
  by_cases hb : count ≤ base
  · have hbi : (count : Int) ≤ (base : Int) := by omega
    rw [if_pos hb]
    obtain ⟨v, hv⟩ : ∃ v, v = base - count := ⟨_, rfl⟩
    have hw1 : IntKind.u64.wrap ((base : Int) - (count : Int)) = (v : Int) := by
      rw [show ((base : Int) - (count : Int)) = (v : Int) by omega]
      exact IntWalk.u64_in _ (by omega)
    have hq2 := fun (A1 : Option Addr) (c1 : Nat) (w1 : World) hu1 h => hq A1 c1 0 v w1 (by decide) (by omega) hu1 h
    rw [← hv]
    have HE := Lib.hid he
    have HP := Lib.hid hp
    have HV := Lib.hid hv
    have HQ2 := Lib.hid hq2
    have HU := Lib.hid hu
    clear he hp hv hq2 hu
    clear hq
    go_enter Try.func36, Try.ntmps36
    go_upto_region 2 with (first
      | (go_at_call 70; refine (HE.out _).mono ?_; rintro e1 w1 ⟨rfl, hw⟩; rw [← hw]; clear hw w1)
      | (go_at_call 35; refine HP.out.mono ?_; rintro e2 w2 ⟨A2, c2, rfl, hA2, hF2⟩))
    go_wp2_with (go_at_call 35; refine (HQ2.out A2 c2 w2 (HU.out.of hF2.size) hA2).mono ?_; rintro e3 w3 ⟨A3, c3, rfl, hA3, hF3⟩)
    go_ret
    exact ⟨A3, c3, by rw [List.length_append]; rfl, hA3, hF2.trans hF3⟩
  · have hbi : ¬ (count : Int) ≤ (base : Int) := by omega
    rw [if_neg hb]
    obtain ⟨v0, hv0⟩ : ∃ v0, v0 = count - base := ⟨_, rfl⟩
    obtain ⟨v, hv⟩ : ∃ v, v = count - base - 1 := ⟨_, rfl⟩
    have hw1 : IntKind.u64.wrap ((count : Int) - (base : Int)) = (v0 : Int) := by
      rw [show ((count : Int) - (base : Int)) = (v0 : Int) by omega]
      exact IntWalk.u64_in _ (by omega)
    have hw2 : IntKind.u64.wrap ((v0 : Int) - 1) = (v : Int) := by
      rw [show ((v0 : Int) - 1) = (v : Int) by omega]
      exact IntWalk.u64_in _ (by omega)
    have hq2 := fun (A1 : Option Addr) (c1 : Nat) (w1 : World) hu1 h => hq A1 c1 128 v w1 (by decide) (by omega) hu1 h
    rw [← hv]
    have HE := Lib.hid he
    have HP := Lib.hid hp
    have HV := Lib.hid hv
    have HV0 := Lib.hid hv0
    have HQ2 := Lib.hid hq2
    have HU := Lib.hid hu
    clear he hp hv hv0 hq2 hu
    clear hq
    go_enter Try.func36, Try.ntmps36
    go_upto_region 2 with (first
      | (go_at_call 70; refine (HE.out _).mono ?_; rintro e1 w1 ⟨rfl, hw⟩; rw [← hw]; clear hw w1)
      | (go_at_call 35; refine HP.out.mono ?_; rintro e2 w2 ⟨A2, c2, rfl, hA2, hF2⟩))
    go_wp2_with (go_at_call 35; refine (HQ2.out A2 c2 w2 (HU.out.of hF2.size) hA2).mono ?_; rintro e3 w3 ⟨A3, c3, rfl, hA3, hF3⟩)
    go_ret
    exact ⟨A3, c3, by rw [List.length_append]; rfl, hA3, hF2.trans hF3⟩
end Go.Proofs.Ytdgggjeiflllhaa.M

