/- The document's length; sem.plain, trailers; the document's field. No condition but sizes. -/
import Derived.BigQuiet
import Derived.Deep.CutBlock
import Derived.Lib.Hide
import Derived.IntWalk
import Derived.Test.YtpojejdddgdjdaaGreatDoorSd
import Derived.Test.YtpojejdddgdjdaaGreatDoorArr
namespace Go.Proofs.YtpojejdddgdjdaaGreatDoor.M
open Go.ChangeShapes Go.WideShapes Go.ChangeAt Go.RowKit

theorem numF_snoc (s : Bytes) (c : UInt8) : ∀ a : Nat, numF a (s ++ [c]) = 10 * numF a s + (c.toNat - 48) := by
  induction s with
  | nil => intro a; rfl
  | cons x r ih => intro a; exact ih _
set_option maxRecDepth 100000 in
set_option maxHeartbeats 2000000 in
theorem rlength_any (s : Bytes) (n : Int) (w : World) (hs : s.length ≤ 9223372036854775807) :
    Calls Tryz.prog 46 #[.string ⟨s.toArray⟩, .int .i64 n] w fun e w' => e = .returned (.bool (isLen s n)) ∧ w = w' := by
  obtain ⟨r, hr⟩ : ∃ r, r = isLen s n := ⟨_, rfl⟩
  rw [← hr]
  have HR := Lib.hid hr
  clear hr
  have hI : Hid (isLen s n = (!s.isEmpty && (decide (s.length ≤ 9) && (s.all dig && decide ((numF 0 s : Int) = n))))) := rfl
  by_cases h1 : (s.length : Int) < 1
  · have hrf : Hid (r = false) := by
      show _ = _
      rw [HR.out, hI.out]
      have : s = [] := List.eq_nil_of_length_eq_zero (by omega)
      subst this
      rfl
    go_enter Tryz.func46, Tryz.ntmps46
    go_wp2_with (fail)
    go_ret
    exact ⟨ret_bool hrf.out.symm, rfl⟩
  by_cases h9 : (9 : Int) < s.length
  · have hrf : Hid (r = false) := by
      show _ = _
      rw [HR.out, hI.out, decide_eq_false (by omega)]
      simp
    go_enter Tryz.func46, Tryz.ntmps46
    go_wp2_with (fail)
    go_ret
    exact ⟨ret_bool hrf.out.symm, rfl⟩
  have hsh : Hid (r = (s.all dig && decide ((numF 0 s : Int) = n))) := by
    show _ = _
    have he : s.isEmpty = false := by
      cases s with
      | nil => simp at h1
      | cons c t => rfl
    rw [HR.out, hI.out, he, decide_eq_true (by omega)]
    rfl
  clear HR hI
  go_enter Tryz.func46, Tryz.ntmps46
  go_wp2_with (fail)
  go_loop [5, 6] (fun v5 v6 => ∃ k : Nat, k ≤ s.length ∧ v6 = .int .i64 k ∧ v5 = .int .i64 (numF 0 (s.take k) : Nat) ∧ Hid ((s.take k).all dig = true)) (fun _ v6 => s.length - (intOf v6).toNat)
  case atStart => exact ⟨0, Nat.zero_le _, rfl, rfl, rfl⟩
  case round =>
    obtain ⟨k, hk, rfl, rfl, hall⟩ := hrel
    have hb0 := numF_lt (s.take k) 0 hall.out
    have hb1 : numF 0 (s.take k) < 1000000000 := by
      refine Nat.lt_of_lt_of_le hb0 ?_
      rw [Nat.zero_add, Nat.one_mul]
      exact Nat.le_trans (Nat.pow_le_pow_right (n := 10) (by omega) (show (s.take k).length ≤ 9 by rw [List.length_take]; omega)) (by decide)
    clear hb0
    by_cases hlt : k < s.length
    · have hkb : k < (⟨s.toArray⟩ : ByteArray).size := by simpa [ByteArray.size] using hlt
      have hsk : ((⟨s.toArray⟩ : ByteArray)[k]'hkb) = s[k] := rfl
      have hb : (s[k].toNat : Int) ≤ 255 := by have := s[k].toNat_lt; omega
      have hno : dig s[k] = false → r = false := fun h => by rw [hsh.out, all_no _ _ _ hlt h]; rfl
      have hstep : dig s[k] = true → (s.take (k + 1)).all dig = true := fun h => all_step _ _ _ hlt hall.out h
      have hsn : numF 0 (s.take (k + 1)) = 10 * numF 0 (s.take k) + (s[k].toNat - 48) := by rw [List.take_succ_eq_append_getElem hlt, numF_snoc]
      have HNO := Lib.hid hno
      have HSTEP := Lib.hid hstep
      have HSN := Lib.hid hsn
      clear hno hstep hsn
      generalize numF 0 (s.take k) = v at *
      by_cases h48 : (s[k].toNat : Int) < 48
      · have hrf := HNO.out (by unfold dig; exact decide_eq_false (by omega))
        have HRF := Lib.hid hrf
        clear hrf
        go_wp2_with (fail)
        go_ret
        exact ⟨ret_bool HRF.out.symm, rfl⟩
      by_cases h57 : (57 : Int) < s[k].toNat
      · have hrf := HNO.out (by unfold dig; exact decide_eq_false (by omega))
        have HRF := Lib.hid hrf
        clear hrf
        go_wp2_with (fail)
        go_ret
        exact ⟨ret_bool HRF.out.symm, rfl⟩
      have hst := HSTEP.out (by unfold dig; exact decide_eq_true (by omega))
      have HST := Lib.hid hst
      clear hst
      have h48b : (48 : Int) ≤ s[k].toNat := by omega
      go_wp2_with (fail)
      go_round
      case rel => exact ⟨k + 1, by omega, by go_num, by
        rw [HSN.out]
        congr 1
        omega, HST.out⟩
      case measure => simp [intOf]; omega
    · obtain rfl : k = s.length := by omega
      have hal := hall.out
      rw [List.take_of_length_le (Nat.le_refl _)] at hal hb1 ⊢
      have hr2 : Hid (r = decide ((numF 0 s : Int) = n)) := by show _ = _; rw [hsh.out, hal]; rfl
      clear hsh hal hall
      generalize numF 0 s = v at *
      by_cases hn : (v : Int) = n
      · subst hn
        go_wp2_with (fail)
        go_ret
        exact ⟨ret_bool (by rw [hr2.out]; simp), rfl⟩
      · have hn1 : ((v : Int) == n) = false := by rw [beq_eq_false_iff_ne]; exact hn
        go_wp2_with (fail)
        go_ret
        exact ⟨ret_bool (by rw [hr2.out]; simp [hn]), rfl⟩
/-- a field that isn't pseudo -/
def plainOk (f : Fld) (n : Int) : Bool := nameOk f.1 && (valOk f.2 && (!hop f.1 && (if f.1 = bTe then decide (f.2 = bTrailers) else if f.1 = bCL then isLen f.2 n else true)))
end Go.Proofs.YtpojejdddgdjdaaGreatDoor.M
