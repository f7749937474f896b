/- The document's length; sem.plain, trailers; the document's field. No condition but sizes. -/
import Derived.BigQuiet
import Derived.Deep.CutBlock
import Derived.Lib.Hide
import Derived.IntWalk
import Derived.Test.YtpojejdddgdjdaaDoorSd
import Derived.Test.YtpojejdddgdjdaaDoorArr
namespace Go.Proofs.YtpojejdddgdjdaaDoor.M
open Go.ChangeShapes Go.WideShapes Go.ChangeAt Go.RowKit

theorem numF_snoc (s : Bytes) (c : UInt8) : ∀ a : Nat, numF a (s ++ [c]) = 10 * numF a s + (c.toNat - 48) := by
  induction s with
  | nil => intro a; rfl
  | cons x r ih => intro a; exact ih _
set_option maxRecDepth 100000 in
set_option maxHeartbeats 2000000 in
theorem rlength_any (s : Bytes) (n : Int) (w : World) (hs : s.length ≤ 9223372036854775807) :
    Calls Tryd.prog 43 #[.string ⟨s.toArray⟩, .int .i64 n] w fun e w' => e = .returned (.bool (isLen s n)) ∧ w = w' := by
  obtain ⟨r, hr⟩ : ∃ r, r = isLen s n := ⟨_, rfl⟩
  rw [← hr]
  have HR := Lib.hid hr
  clear hr
  have hI : Hid (isLen s n = (!s.isEmpty && (decide (s.length ≤ 9) && (s.all dig && decide ((numF 0 s : Int) = n))))) := rfl
  by_cases h1 : (s.length : Int) < 1
  · have hrf : Hid (r = false) := by
      show _ = _
      rw [HR.out, hI.out]
      have : s = [] := List.eq_nil_of_length_eq_zero (by omega)
      subst this
      rfl
    go_enter Tryd.func43, Tryd.ntmps43
    go_wp2_with (fail)
    go_ret
    exact ⟨ret_bool hrf.out.symm, rfl⟩
  by_cases h9 : (9 : Int) < s.length
  · have hrf : Hid (r = false) := by
      show _ = _
      rw [HR.out, hI.out, decide_eq_false (by omega)]
      simp
    go_enter Tryd.func43, Tryd.ntmps43
    go_wp2_with (fail)
    go_ret
    exact ⟨ret_bool hrf.out.symm, rfl⟩
  have hsh : Hid (r = (s.all dig && decide ((numF 0 s : Int) = n))) := by
    show _ = _
    have he : s.isEmpty = false := by
      cases s with
      | nil => simp at h1
      | cons c t => rfl
    rw [HR.out, hI.out, he, decide_eq_true (by omega)]
    rfl
  clear HR hI
  go_enter Tryd.func43, Tryd.ntmps43
  go_wp2_with (fail)
  go_loop [5, 6] (fun v5 v6 => ∃ k : Nat, k ≤ s.length ∧ v6 = .int .i64 k ∧ v5 = .int .i64 (numF 0 (s.take k) : Nat) ∧ Hid ((s.take k).all dig = true)) (fun _ v6 => s.length - (intOf v6).toNat)
  case atStart => exact ⟨0, Nat.zero_le _, rfl, rfl, rfl⟩
  case round =>
    obtain ⟨k, hk, rfl, rfl, hall⟩ := hrel
    have hb0 := numF_lt (s.take k) 0 hall.out
    have hb1 : numF 0 (s.take k) < 1000000000 := by
      refine Nat.lt_of_lt_of_le hb0 ?_
      rw [Nat.zero_add, Nat.one_mul]
      exact Nat.le_trans (Nat.pow_le_pow_right (n := 10) (by omega) (show (s.take k).length ≤ 9 by rw [List.length_take]; omega)) (by decide)
    clear hb0
    by_cases hlt : k < s.length
    · have hkb : k < (⟨s.toArray⟩ : ByteArray).size := by simpa [ByteArray.size] using hlt
      have hsk : ((⟨s.toArray⟩ : ByteArray)[k]'hkb) = s[k] := rfl
      have hb : (s[k].toNat : Int) ≤ 255 := by have := s[k].toNat_lt; omega
      have hno : dig s[k] = false → r = false := fun h => by rw [hsh.out, all_no _ _ _ hlt h]; rfl
      have hstep : dig s[k] = true → (s.take (k + 1)).all dig = true := fun h => all_step _ _ _ hlt hall.out h
      have hsn : numF 0 (s.take (k + 1)) = 10 * numF 0 (s.take k) + (s[k].toNat - 48) := by rw [List.take_succ_eq_append_getElem hlt, numF_snoc]
      have HNO := Lib.hid hno
      have HSTEP := Lib.hid hstep
      have HSN := Lib.hid hsn
      clear hno hstep hsn
      generalize numF 0 (s.take k) = v at *
      by_cases h48 : (s[k].toNat : Int) < 48
      · have hrf := HNO.out (by unfold dig; exact decide_eq_false (by omega))
        have HRF := Lib.hid hrf
        clear hrf
        go_wp2_with (fail)
        go_ret
        exact ⟨ret_bool HRF.out.symm, rfl⟩
      by_cases h57 : (57 : Int) < s[k].toNat
      · have hrf := HNO.out (by unfold dig; exact decide_eq_false (by omega))
        have HRF := Lib.hid hrf
        clear hrf
        go_wp2_with (fail)
        go_ret
        exact ⟨ret_bool HRF.out.symm, rfl⟩
      have hst := HSTEP.out (by unfold dig; exact decide_eq_true (by omega))
      have HST := Lib.hid hst
      clear hst
      have h48b : (48 : Int) ≤ s[k].toNat := by omega
      go_wp2_with (fail)
      go_round
      case rel => exact ⟨k + 1, by omega, by go_num, by
        rw [HSN.out]
        congr 1
        omega, HST.out⟩
      case measure => simp [intOf]; omega
    · obtain rfl : k = s.length := by omega
      have hal := hall.out
      rw [List.take_of_length_le (Nat.le_refl _)] at hal hb1 ⊢
      have hr2 : Hid (r = decide ((numF 0 s : Int) = n)) := by show _ = _; rw [hsh.out, hal]; rfl
      clear hsh hal hall
      generalize numF 0 s = v at *
      by_cases hn : (v : Int) = n
      · subst hn
        go_wp2_with (fail)
        go_ret
        exact ⟨ret_bool (by rw [hr2.out]; simp), rfl⟩
      · have hn1 : ((v : Int) == n) = false := by rw [beq_eq_false_iff_ne]; exact hn
        go_wp2_with (fail)
        go_ret
        exact ⟨ret_bool (by rw [hr2.out]; simp [hn]), rfl⟩
/-- a field that isn't pseudo -/
def plainOk (f : Fld) (n : Int) : Bool := nameOk f.1 && (valOk f.2 && (!hop f.1 && (if f.1 = bTe then decide (f.2 = bTrailers) else if f.1 = bCL then isLen f.2 n else true)))
set_option maxRecDepth 100000 in
set_option maxHeartbeats 4000000 in
theorem plain_any (f : Fld) (n : Int) (w : World) (h1 : f.1.length ≤ 9223372036854775807) (h2 : f.2.length ≤ 9223372036854775807) :
    Calls Tryd.prog 36 #[.agg #[.string ⟨f.1.toArray⟩, .string ⟨f.2.toArray⟩], .int .i64 n] w fun e w' => e = .returned (.bool (plainOk f n)) ∧ Frm (New w) w w' := by
  obtain ⟨a, b⟩ := f
  simp only at h1 h2 ⊢
  have hP : Hid (plainOk (a, b) n = (nameOk a && (valOk b && (!hop a && (if a = bTe then decide (b = bTrailers) else if a = bCL then isLen b n else true))))) := rfl
  have hN : ∀ w, Calls Tryd.prog 37 #[.string ⟨a.toArray⟩] w fun e w' => e = .returned (.bool (nameOk a)) ∧ w = w' := fun w => name_any a w h1
  have hV : ∀ w, Calls Tryd.prog 39 #[.string ⟨b.toArray⟩] w fun e w' => e = .returned (.bool (valOk b)) ∧ w = w' := fun w => value_any b w h2
  have hH : ∀ w, Calls Tryd.prog 54 #[.string ⟨a.toArray⟩] w fun e w' => e = .returned (.bool (hop a)) ∧ w = w' := fun w => hop_any a w
  have hL : ∀ w, Calls Tryd.prog 55 #[.string ⟨b.toArray⟩, .int .i64 n] w fun e w' => e = .returned (.bool (isLen b n)) ∧ Frm (New w) w w' := fun w => length_any b n w h2
  have ea : (⟨a.toArray⟩ : ByteArray).toList = a := mk_toList a
  have eb : (⟨b.toArray⟩ : ByteArray).toList = b := mk_toList b
  obtain ⟨r, hr⟩ : ∃ r, r = plainOk (a, b) n := ⟨_, rfl⟩
  rw [← hr] at hP ⊢
  clear hr
  have hfr : ∀ (w : World) t cs, Frm (New w) w (w.alloc (.cells cs t)) := fun w t cs => (Frm.refl _ w).alloc Up.new _
  have HFR := Lib.hid hfr
  clear hfr
  cases e1 : nameOk a with
  | false =>
    simp only [e1] at hN
    have hrf : Hid (r = false) := by show _ = _; rw [hP.out, e1]; rfl
    have HN := Lib.hid hN
    have HV := Lib.hid hV
    have HH := Lib.hid hH
    have HL := Lib.hid hL
    have E1 := Lib.hid e1
    clear hN hV hH hL e1
    go_enter Tryd.func36, Tryd.ntmps36
    go_wp2_with (go_at_call 37; refine (HN.out _).mono ?_; rintro e w' ⟨rfl, hw⟩; rw [← hw]; clear hw w')
    go_ret
    exact ⟨ret_bool hrf.out.symm, HFR.out _ _ _⟩
  | true =>
  cases e2 : valOk b with
  | false =>
    simp only [e1] at hN
    simp only [e2] at hV
    have hrf : Hid (r = false) := by show _ = _; rw [hP.out, e2]; simp
    have HN := Lib.hid hN
    have HV := Lib.hid hV
    have HH := Lib.hid hH
    have HL := Lib.hid hL
    have E1 := Lib.hid e1
    have E2 := Lib.hid e2
    clear hN hV hH hL e1 e2
    go_enter Tryd.func36, Tryd.ntmps36
    go_wp2_with (first
      | (go_at_call 37; refine (HN.out _).mono ?_; rintro e w' ⟨rfl, hw⟩; rw [← hw]; clear hw w')
      | (go_at_call 39; refine (HV.out _).mono ?_; rintro e w' ⟨rfl, hw⟩; rw [← hw]; clear hw w'))
    go_ret
    exact ⟨ret_bool hrf.out.symm, HFR.out _ _ _⟩
  | true =>
  cases e3 : hop a with
  | true =>
    simp only [e1] at hN
    simp only [e2] at hV
    simp only [e3] at hH
    have hrf : Hid (r = false) := by show _ = _; rw [hP.out, e3]; simp
    have HN := Lib.hid hN
    have HV := Lib.hid hV
    have HH := Lib.hid hH
    have HL := Lib.hid hL
    have E1 := Lib.hid e1
    have E2 := Lib.hid e2
    have E3 := Lib.hid e3
    clear hN hV hH hL e1 e2 e3
    go_enter Tryd.func36, Tryd.ntmps36
    go_wp2_with (first
      | (go_at_call 37; refine (HN.out _).mono ?_; rintro e w' ⟨rfl, hw⟩; rw [← hw]; clear hw w')
      | (go_at_call 39; refine (HV.out _).mono ?_; rintro e w' ⟨rfl, hw⟩; rw [← hw]; clear hw w')
      | (go_at_call 54; refine (HH.out _).mono ?_; rintro e w' ⟨rfl, hw⟩; rw [← hw]; clear hw w'))
    go_ret
    exact ⟨ret_bool hrf.out.symm, HFR.out _ _ _⟩
  | false =>
  simp only [e1] at hN
  simp only [e2] at hV
  simp only [e3] at hH
  have hr3 : Hid (r = (if a = bTe then decide (b = bTrailers) else if a = bCL then isLen b n else true)) := by show _ = _; rw [hP.out, e1, e2, e3]; rfl
  have HN := Lib.hid hN
  have HV := Lib.hid hV
  have HH := Lib.hid hH
  have HL := Lib.hid hL
  have E1 := Lib.hid e1
  have E2 := Lib.hid e2
  have E3 := Lib.hid e3
  clear hN hV hH hL e1 e2 e3
  clear hP
  by_cases h5 : a = bTe
  · have g5 : (a == [116, 101]) = true := by rw [beq_iff_eq]; exact h5
    have hrf : Hid (r = decide (b = bTrailers)) := by show _ = _; rw [hr3.out, if_pos h5]
    clear hr3 h5
    by_cases h6 : b = bTrailers
    · have g6 : (b == [116, 114, 97, 105, 108, 101, 114, 115]) = true := by rw [beq_iff_eq]; exact h6
      have hrt : Hid (r = true) := by show _ = _; rw [hrf.out, decide_eq_true h6]
      clear h6 hrf
      go_enter Tryd.func36, Tryd.ntmps36
      go_wp2_with (first
        | (go_at_call 37; refine (HN.out _).mono ?_; rintro e w' ⟨rfl, hw⟩; rw [← hw]; clear hw w')
        | (go_at_call 39; refine (HV.out _).mono ?_; rintro e w' ⟨rfl, hw⟩; rw [← hw]; clear hw w')
        | (go_at_call 54; refine (HH.out _).mono ?_; rintro e w' ⟨rfl, hw⟩; rw [← hw]; clear hw w'))
      go_ret
      exact ⟨ret_bool hrt.out.symm, HFR.out _ _ _⟩
    · have g6 : (b == [116, 114, 97, 105, 108, 101, 114, 115]) = false := by rw [beq_eq_false_iff_ne]; exact h6
      have hrt : Hid (r = false) := by show _ = _; rw [hrf.out, decide_eq_false h6]
      clear h6 hrf
      go_enter Tryd.func36, Tryd.ntmps36
      go_wp2_with (first
        | (go_at_call 37; refine (HN.out _).mono ?_; rintro e w' ⟨rfl, hw⟩; rw [← hw]; clear hw w')
        | (go_at_call 39; refine (HV.out _).mono ?_; rintro e w' ⟨rfl, hw⟩; rw [← hw]; clear hw w')
        | (go_at_call 54; refine (HH.out _).mono ?_; rintro e w' ⟨rfl, hw⟩; rw [← hw]; clear hw w'))
      go_ret
      exact ⟨ret_bool hrt.out.symm, HFR.out _ _ _⟩
  · have g5 : (a == [116, 101]) = false := by rw [beq_eq_false_iff_ne]; exact h5
    have n5 : ¬ a = [116, 101] := h5
    by_cases h7 : a = bCL
    · have g7 : (a == [99, 111, 110, 116, 101, 110, 116, 45, 108, 101, 110, 103, 116, 104]) = true := by rw [beq_iff_eq]; exact h7
      have hrf : Hid (r = isLen b n) := by show _ = _; rw [hr3.out, if_neg h5, if_pos h7]
      clear hr3 h5 h7
      have N5 := Lib.hid n5
      clear n5
      go_enter Tryd.func36, Tryd.ntmps36
      go_wp2_with (first
        | (go_at_call 37; refine (HN.out _).mono ?_; rintro e w' ⟨rfl, hw⟩; rw [← hw]; clear hw w')
        | (go_at_call 39; refine (HV.out _).mono ?_; rintro e w' ⟨rfl, hw⟩; rw [← hw]; clear hw w')
        | (go_at_call 54; refine (HH.out _).mono ?_; rintro e w' ⟨rfl, hw⟩; rw [← hw]; clear hw w')
        | (go_at_call 55; refine (HL.out _).mono ?_; rintro e w2 ⟨rfl, hF2⟩; have HF2 := Lib.hid hF2; clear hF2))
      go_ret
      exact ⟨ret_bool hrf.out.symm, (HFR.out _ _ _).then_new Up.new HF2.out⟩
    · have g7 : (a == [99, 111, 110, 116, 101, 110, 116, 45, 108, 101, 110, 103, 116, 104]) = false := by rw [beq_eq_false_iff_ne]; exact h7
      have n7 : ¬ a = [99, 111, 110, 116, 101, 110, 116, 45, 108, 101, 110, 103, 116, 104] := h7
      have hrf : Hid (r = true) := by show _ = _; rw [hr3.out, if_neg h5, if_neg h7]
      clear hr3 h5 h7
      go_enter Tryd.func36, Tryd.ntmps36
      go_wp2_with (first
        | (go_at_call 37; refine (HN.out _).mono ?_; rintro e w' ⟨rfl, hw⟩; rw [← hw]; clear hw w')
        | (go_at_call 39; refine (HV.out _).mono ?_; rintro e w' ⟨rfl, hw⟩; rw [← hw]; clear hw w')
        | (go_at_call 54; refine (HH.out _).mono ?_; rintro e w' ⟨rfl, hw⟩; rw [← hw]; clear hw w'))
      go_ret
      exact ⟨ret_bool hrf.out.symm, HFR.out _ _ _⟩
end Go.Proofs.YtpojejdddgdjdaaDoor.M
