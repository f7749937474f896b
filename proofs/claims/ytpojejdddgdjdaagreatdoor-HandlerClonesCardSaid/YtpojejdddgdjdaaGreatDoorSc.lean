/- The document's Name; sem.hop, bare, length and the document's length. No condition but sizes. -/
import Derived.BigQuiet
import Derived.Deep.CutBlock
import Derived.Lib.Hide
import Derived.IntWalk
import Derived.Test.YtpojejdddgdjdaaGreatDoorSb
namespace Go.Proofs.YtpojejdddgdjdaaGreatDoor.M
open Go.ChangeShapes Go.WideShapes Go.ChangeAt Go.RowKit

theorem more_step (c : UInt8) (k : Nat) (hk : k < 15) : (more.take (k + 1)).contains c = ((more.take k).contains c || decide (c.toNat = (more[k]'hk).toNat)) := by
  rw [List.take_succ_eq_append_getElem (show k < more.length from hk)]
  rw [Bool.eq_iff_iff]
  simp only [List.contains_eq_mem, List.mem_append, List.mem_singleton, Bool.or_eq_true, decide_eq_true_eq]
  rw [← UInt8.toNat_inj]
  exact Iff.rfl
set_option maxRecDepth 100000 in
set_option maxHeartbeats 2000000 in
theorem rname_any (s : Bytes) (w : World) (hs : s.length ≤ 9223372036854775807) : Calls Tryz.prog 60 #[.string ⟨s.toArray⟩] w fun e w' => e = .returned (.bool (nameOk s)) ∧ w = w' := by
  obtain ⟨r, hr⟩ : ∃ r, r = nameOk s := ⟨_, rfl⟩
  rw [← hr]
  have HR := Lib.hid hr
  clear hr
  go_enter Tryz.func60, Tryz.ntmps60
  go_wp2_with (fail)
  go_loop [3] (fun v6 => ∃ k : Nat, k ≤ s.length ∧ v6 = .int .i64 k ∧ Hid ((s.take k).all sgn = true)) (fun v6 => s.length - (intOf v6).toNat)
  case atStart => exact ⟨0, Nat.zero_le _, rfl, rfl⟩
  case round =>
    obtain ⟨k, hk, rfl, hall⟩ := hrel
    by_cases hlt : k < s.length
    · have hkb : k < (⟨s.toArray⟩ : ByteArray).size := by simpa [ByteArray.size] using hlt
      have hsk : ((⟨s.toArray⟩ : ByteArray)[k]'hkb) = s[k] := rfl
      have hno : sgn s[k] = false → r = false := fun h => by rw [HR.out]; unfold nameOk; rw [all_no _ _ _ hlt h]; rfl
      have hstep : sgn s[k] = true → (s.take (k + 1)).all sgn = true := fun h => all_step _ _ _ hlt hall.out h
      have hS : sgn s[k] = (decide (97 ≤ s[k].toNat ∧ s[k].toNat ≤ 122) || decide (48 ≤ s[k].toNat ∧ s[k].toNat ≤ 57) || more.contains s[k]) := rfl
      have HNO := Lib.hid hno
      have HSTEP := Lib.hid hstep
      clear hno hstep
      have hb : (s[k].toNat : Int) ≤ 255 := by have := s[k].toNat_lt; omega
      obtain ⟨c, hc⟩ : ∃ c, c = s[k] := ⟨_, rfl⟩
      rw [← hc] at hsk hS hb HNO HSTEP
      obtain ⟨b0, hb0⟩ : ∃ b0, b0 = (decide (97 ≤ c.toNat ∧ c.toNat ≤ 122) || decide (48 ≤ c.toNat ∧ c.toNat ≤ 57)) := ⟨_, rfl⟩
      rw [← hb0] at hS
      have HS := Lib.hid hS
      have HC := Lib.hid hc
      clear hS hc
      clear hall
      go_upto_region 5 with (fail)
      go_cut [5] from 7 to 42 (fun v5 w5 => w5 = w ∧ v5 = .bool b0)
      case first =>
        by_cases a1 : (97 : Int) ≤ c.toNat <;> by_cases a2 : (c.toNat : Int) ≤ 122 <;> by_cases b1 : (48 : Int) ≤ c.toNat <;> by_cases b2 : (c.toNat : Int) ≤ 57
        all_goals first
          | (exfalso; omega)
          | (have hbb : Hid (b0 = true) := by
               show _ = _
               rw [hb0, Bool.or_eq_true, decide_eq_true_iff, decide_eq_true_iff]
               omega
             clear hb0
             go_wp2
             go_meet
             exact ⟨rfl, by rw [hbb.out]⟩)
          | (have hbb : Hid (b0 = false) := by
               show _ = _
               rw [hb0, Bool.or_eq_false_iff, decide_eq_false_iff_not, decide_eq_false_iff_not]
               omega
             clear hb0
             go_wp2
             go_meet
             exact ⟨rfl, by rw [hbb.out]⟩)
      case rest =>
        obtain ⟨rfl, rfl⟩ := hcut
        have HB0 := Lib.hid hb0
        clear hb0
        go_wp2_with (fail)
        go_loop [5, 6] (fun v5 v6 => ∃ j : Nat, j ≤ 15 ∧ v6 = .int .i64 j ∧ v5 = .bool (b0 || (more.take j).contains c)) (fun _ v6 => 15 - (intOf v6).toNat)
        case atStart => exact ⟨0, Nat.zero_le _, rfl, by simp⟩
        case round =>
          obtain ⟨j, hj, rfl, rfl⟩ := hrel
          by_cases hjl : j < 15
          · have hm := more_step c j hjl
            have hjb : j < (⟨#[33, 35, 36, 37, 38, 39, 42, 43, 45, 46, 94, 95, 96, 124, 126]⟩ : ByteArray).size := hjl
            have hmj : ((⟨#[33, 35, 36, 37, 38, 39, 42, 43, 45, 46, 94, 95, 96, 124, 126]⟩ : ByteArray)[j]'hjb) = more[j]'hjl := rfl
            generalize more[j]'hjl = z at *
            obtain ⟨acc, hacc⟩ : ∃ acc, acc = (b0 || (more.take j).contains c) := ⟨_, rfl⟩
            rw [← hacc]
            have hnext : Hid ((b0 || (more.take (j + 1)).contains c) = (acc || decide (c.toNat = z.toNat))) := by
              show _ = _
              rw [hm, hacc, Bool.or_assoc]
            clear hm hacc
            cases acc with
            | true =>
              go_wp2_with (fail)
              go_round
              case rel => exact ⟨j + 1, by omega, by go_num, by rw [hnext.out]; rfl⟩
              case measure => simp [intOf]; omega
            | false =>
              go_wp2_with (fail)
              go_round
              case rel => exact ⟨j + 1, by omega, by go_num, by
                rw [hnext.out, Bool.false_or]
                congr 1
                rw [Bool.eq_iff_iff, decide_eq_true_iff, beq_iff_eq]
                omega⟩
              case measure => simp [intOf]; omega
          · obtain rfl : j = 15 := by omega
            have hfin : (b0 || (more.take 15).contains c) = sgn c := by rw [HS.out]; rfl
            rw [hfin]
            cases hsg : sgn c with
            | true =>
              have hst := HSTEP.out hsg
              have HST := Lib.hid hst
              have HSG := Lib.hid hsg
              have HFIN := Lib.hid hfin
              clear hst hsg hfin
              go_wp2_with (fail)
              go_round
              case rel => exact ⟨k + 1, by omega, by go_num, HST.out⟩
              case measure => simp [intOf]; omega
            | false =>
              have hrf := HNO.out hsg
              have HRF := Lib.hid hrf
              have HSG := Lib.hid hsg
              have HFIN := Lib.hid hfin
              clear hrf hsg hfin
              go_wp2_with (fail)
              go_ret
              exact ⟨ret_bool HRF.out.symm, rfl⟩
    · obtain rfl : k = s.length := by omega
      have hal := hall.out
      rw [List.take_of_length_le (Nat.le_refl _)] at hal
      have hr2 : r = !s.isEmpty := by rw [HR.out]; unfold nameOk; rw [hal]; rfl
      have HR2 := Lib.hid hr2
      clear hr2
      cases s with
      | nil =>
        go_wp2_with (fail)
        go_ret
        exact ⟨ret_bool (by rw [HR2.out]; rfl), rfl⟩
      | cons c t =>
        go_wp2_with (fail)
        go_ret
        exact ⟨ret_bool (by rw [HR2.out]; rfl), rfl⟩
end Go.Proofs.YtpojejdddgdjdaaGreatDoor.M
