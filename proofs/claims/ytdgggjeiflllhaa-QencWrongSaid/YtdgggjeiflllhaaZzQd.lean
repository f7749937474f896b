/- Qd -/
import Derived.BigQuiet
import Derived.Deep.CutBlock
import Derived.Lib.Hide
import Derived.IntWalk
import Derived.Test.YtdgggjeiflllhaaZzQr
import Derived.Test.YtdgggjeiflllhaaZzRnum

namespace Go.Proofs.Ytdgggjeiflllhaa.M
open Go.ChangeShapes Go.WideShapes Go.ChangeAt Go.RowKit
end Go.Proofs.Ytdgggjeiflllhaa.M
namespace Go.Proofs.Ytdgggjeiflllhaa.M
open Go.ChangeShapes Go.WideShapes Go.ChangeAt Go.RowKit
theorem encQ_le (c cap : Nat) (h : cap ≤ 4096) : encQ c cap ≤ 256 := by
  unfold encQ
  have hm : mostQ cap ≤ 128 := by unfold mostQ; omega
  generalize mostQ cap = m at *
  split
  · omega
  · rename_i h2
    have : c % (2 * m) < 2 * m := Nat.mod_lt _ (by omega)
    omega
set_option maxRecDepth 100000 in
set_option maxHeartbeats 2000000 in
theorem qpre_any (l : Bytes) (A : Option Addr) (c count base cap : Nat) (w : World) (hR : Rd w A (bvs l)) (hl : l.length ≤ 1099511627776) (h1 : count ≤ 4611686018427387903) (h2 : base ≤ 4611686018427387903) (hcap : cap ≤ 4096) :
    Calls Try.prog 45 #[.slice A l.length c, .int .u64 (count : Int), .int .u64 (base : Int), .int .i64 (cap : Int)] w (RetB w (l ++ prefQ count base cap)) := by
  have he := fun w' => qenc_any (count : Int) (cap : Int) w' (by omega) (by omega) (by omega) (by omega)
  simp only [qenc_nat] at he
  have hel := encQ_le count cap hcap
  have hp := prefix_nat l A c 0 8 (encQ count cap) w hR (by omega) (by decide) (by decide) (by decide) (by omega)
  have hq : ∀ (A1 : Option Addr) (c1 f v : Nat) (w1 : World), f ≤ 255 → v ≤ 4611686018427387903 → Rd w1 A1 (bvs (l ++ pfx 0 8 (encQ count cap))) → Calls Try.prog 43 #[.slice A1 (l ++ pfx 0 8 (encQ count cap)).length c1, .int .u8 f, .int .i64 7, .int .u64 v] w1 (RetB w1 ((l ++ pfx 0 8 (encQ count cap)) ++ pfx f 7 v)) := fun A1 c1 f v w1 hf hv h => prefix_nat _ A1 c1 f 7 v w1 h (by rw [List.length_append]; have := pfx_length 0 8 (encQ count cap); omega) hf (by decide) (by decide) (by omega)
  have hres : l ++ prefQ count base cap = (l ++ pfx 0 8 (encQ count cap)) ++ (if count ≤ base then pfx 0 7 (base - count) else pfx 128 7 (count - base - 1)) := by unfold prefQ; rw [List.append_assoc]
  rw [hres]
  generalize encQ count cap = en at *
  generalize l ++ pfx 0 8 en = l1 at *
  clear hres hel
  by_cases hb : count ≤ base
  · have hbi : (count : Int) ≤ (base : Int) := by omega
    rw [if_pos hb]
    obtain ⟨v, hv⟩ : ∃ v, v = base - count := ⟨_, rfl⟩
    have hw1 : IntKind.u64.wrap ((base : Int) - (count : Int)) = (v : Int) := by
      rw [show ((base : Int) - (count : Int)) = (v : Int) by omega]
      exact IntWalk.u64_in _ (by omega)
    have hq2 := fun (A1 : Option Addr) (c1 : Nat) (w1 : World) (h : Rd w1 A1 (bvs l1)) => hq A1 c1 0 v w1 (by decide) (by omega) h
    rw [← hv]
    have HE := Lib.hid he
    have HP := Lib.hid hp
    have HV := Lib.hid hv
    have HQ2 := Lib.hid hq2
    clear he hp hv hq2
    clear hq
    go_enter Try.func45, Try.ntmps45
    go_upto_region 2 with (first
      | (go_at_call 78; refine (HE.out _).mono ?_; rintro e1 w1 ⟨rfl, hw⟩; rw [← hw]; clear hw w1)
      | (go_at_call 43; refine HP.out.mono ?_; rintro e2 w2 ⟨A2, c2, rfl, hA2, hF2⟩; have hR2 := hA2.rd; clear hA2))
    go_wp2_with (go_at_call 43; refine (HQ2.out A2 c2 w2 hR2).mono ?_; rintro e3 w3 ⟨A3, c3, rfl, hA3, hF3⟩)
    go_ret
    exact ⟨A3, c3, by rw [List.length_append]; rfl, hA3.mono (fun k hk => Nat.le_trans hF2.size hk), hF2.then_new Up.new hF3⟩
  · have hbi : ¬ (count : Int) ≤ (base : Int) := by omega
    rw [if_neg hb]
    obtain ⟨v0, hv0⟩ : ∃ v0, v0 = count - base := ⟨_, rfl⟩
    obtain ⟨v, hv⟩ : ∃ v, v = count - base - 1 := ⟨_, rfl⟩
    have hw1 : IntKind.u64.wrap ((count : Int) - (base : Int)) = (v0 : Int) := by
      rw [show ((count : Int) - (base : Int)) = (v0 : Int) by omega]
      exact IntWalk.u64_in _ (by omega)
    have hw2 : IntKind.u64.wrap ((v0 : Int) - 1) = (v : Int) := by
      rw [show ((v0 : Int) - 1) = (v : Int) by omega]
      exact IntWalk.u64_in _ (by omega)
    have hq2 := fun (A1 : Option Addr) (c1 : Nat) (w1 : World) (h : Rd w1 A1 (bvs l1)) => hq A1 c1 128 v w1 (by decide) (by omega) h
    rw [← hv]
    have HE := Lib.hid he
    have HP := Lib.hid hp
    have HV := Lib.hid hv
    have HV0 := Lib.hid hv0
    have HQ2 := Lib.hid hq2
    clear he hp hv hv0 hq2
    clear hq
    go_enter Try.func45, Try.ntmps45
    go_upto_region 2 with (first
      | (go_at_call 78; refine (HE.out _).mono ?_; rintro e1 w1 ⟨rfl, hw⟩; rw [← hw]; clear hw w1)
      | (go_at_call 43; refine HP.out.mono ?_; rintro e2 w2 ⟨A2, c2, rfl, hA2, hF2⟩; have hR2 := hA2.rd; clear hA2))
    go_wp2_with (go_at_call 43; refine (HQ2.out A2 c2 w2 hR2).mono ?_; rintro e3 w3 ⟨A3, c3, rfl, hA3, hF3⟩)
    go_ret
    exact ⟨A3, c3, by rw [List.length_append]; rfl, hA3.mono (fun k hk => Nat.le_trans hF2.size hk), hF2.then_new Up.new hF3⟩
end Go.Proofs.Ytdgggjeiflllhaa.M

