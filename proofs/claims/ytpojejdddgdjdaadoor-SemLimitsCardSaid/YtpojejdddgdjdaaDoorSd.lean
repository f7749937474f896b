/- sem.hop, bare, length and the document's length. No condition but sizes. -/
import Derived.BigQuiet
import Derived.Deep.CutBlock
import Derived.Lib.Hide
import Derived.IntWalk
import Derived.Test.YtpojejdddgdjdaaDoorSc
namespace Go.Proofs.YtpojejdddgdjdaaDoor.M
open Go.ChangeShapes Go.WideShapes Go.ChangeAt Go.RowKit

def bConn : Bytes := [99, 111, 110, 110, 101, 99, 116, 105, 111, 110]
def bKeep : Bytes := [107, 101, 101, 112, 45, 97, 108, 105, 118, 101]
def bProxy : Bytes := [112, 114, 111, 120, 121, 45, 99, 111, 110, 110, 101, 99, 116, 105, 111, 110]
def bTrans : Bytes := [116, 114, 97, 110, 115, 102, 101, 114, 45, 101, 110, 99, 111, 100, 105, 110, 103]
def bUp : Bytes := [117, 112, 103, 114, 97, 100, 101]
def bTe : Bytes := [116, 101]
def bTrailers : Bytes := [116, 114, 97, 105, 108, 101, 114, 115]
def bCL : Bytes := [99, 111, 110, 116, 101, 110, 116, 45, 108, 101, 110, 103, 116, 104]
def hop (s : Bytes) : Bool := decide (s = bConn) || (decide (s = bKeep) || (decide (s = bProxy) || (decide (s = bTrans) || decide (s = bUp))))
set_option maxRecDepth 100000 in
set_option maxHeartbeats 2000000 in
theorem hop_any (s : Bytes) (w : World) : Calls Tryd.prog 54 #[.string ⟨s.toArray⟩] w fun e w' => e = .returned (.bool (hop s)) ∧ w = w' := by
  by_cases h1 : s = bConn
  · subst h1
    go_enter Tryd.func54, Tryd.ntmps54
    go_wp2
    go_ret
    exact ⟨rfl, rfl⟩
  by_cases h2 : s = bKeep
  · subst h2
    go_enter Tryd.func54, Tryd.ntmps54
    go_wp2
    go_ret
    exact ⟨rfl, rfl⟩
  by_cases h3 : s = bProxy
  · subst h3
    go_enter Tryd.func54, Tryd.ntmps54
    go_wp2
    go_ret
    exact ⟨rfl, rfl⟩
  by_cases h4 : s = bTrans
  · subst h4
    go_enter Tryd.func54, Tryd.ntmps54
    go_wp2
    go_ret
    exact ⟨rfl, rfl⟩
  by_cases h5 : s = bUp
  · subst h5
    go_enter Tryd.func54, Tryd.ntmps54
    go_wp2
    go_ret
    exact ⟨rfl, rfl⟩
  have e1 : (⟨s.toArray⟩ : ByteArray).toList = s := mk_toList s
  have hr : hop s = false := by unfold hop; simp [h1, h2, h3, h4, h5]
  rw [hr]
  unfold bConn at h1
  unfold bKeep at h2
  unfold bProxy at h3
  unfold bTrans at h4
  unfold bUp at h5
  have g1 := beq_eq_false_iff_ne.2 h1
  have g2 := beq_eq_false_iff_ne.2 h2
  have g3 := beq_eq_false_iff_ne.2 h3
  have g4 := beq_eq_false_iff_ne.2 h4
  have g5 := beq_eq_false_iff_ne.2 h5
  have HR := Lib.hid hr
  clear hr
  go_enter Tryd.func54, Tryd.ntmps54
  go_wp2
  go_ret
  exact ⟨rfl, rfl⟩
set_option maxRecDepth 100000 in
set_option maxHeartbeats 1000000 in
theorem bare_any (s : Bytes) (w : World) : Calls Tryd.prog 38 #[.string ⟨s.toArray⟩] w fun e w' => e = .returned (.string ⟨(if s.head? = some 58 then s.tail else s).toArray⟩) ∧ w = w' := by
  have hc := trimPrefix_any s w
  obtain ⟨t, ht⟩ : ∃ t, t = (if s.head? = some 58 then s.tail else s) := ⟨_, rfl⟩
  rw [← ht] at hc ⊢
  have HC := Lib.hid hc
  have HT := Lib.hid ht
  clear hc ht
  go_enter Tryd.func38, Tryd.ntmps38
  go_wp2_with (go_at_call 57; refine HC.out.mono ?_; rintro e w' ⟨rfl, rfl⟩)
  go_ret
  exact ⟨rfl, rfl⟩
/-- a text that tells a body's length -/
def isLen (s : Bytes) (n : Int) : Bool := !s.isEmpty && (decide (s.length ≤ 9) && (s.all dig && decide ((numF 0 s : Int) = n)))
set_option maxRecDepth 100000 in
set_option maxHeartbeats 2000000 in
theorem length_any (s : Bytes) (n : Int) (w : World) (hs : s.length ≤ 9223372036854775807) :
    Calls Tryd.prog 55 #[.string ⟨s.toArray⟩, .int .i64 n] w fun e w' => e = .returned (.bool (isLen s n)) ∧ Frm (New w) w w' := by
  have hI : Hid (isLen s n = (!s.isEmpty && (decide (s.length ≤ 9) && (s.all dig && decide ((numF 0 s : Int) = n))))) := rfl
  cases hse : s with
  | nil =>
    subst hse
    go_enter Tryd.func55, Tryd.ntmps55
    go_wp2_with (fail)
    go_ret
    exact ⟨rfl, Frm.refl _ _⟩
  | cons c t =>
    rw [← hse]
    have hne : s ≠ [] := by rw [hse]; simp
    have hpos : (0 : Int) < s.length := by rw [hse]; simp only [List.length_cons]; omega
    have e1 : (⟨s.toArray⟩ : ByteArray).toList = s := mk_toList s
    have hem : s.isEmpty = false := by rw [hse]; rfl
    clear hse
    by_cases h9 : (9 : Int) < s.length
    · have HEM := Lib.hid hem
      go_enter Tryd.func55, Tryd.ntmps55
      go_wp2_with (fail)
      go_ret
      exact ⟨ret_bool (by rw [hI.out, HEM.out, decide_eq_false (by omega)]; rfl), Frm.refl _ _⟩
    · cases hd : s.all dig with
      | false =>
        have hc := trim_no s w hs hd
        have HEM := Lib.hid hem
        have HC := Lib.hid hc
        have HD := Lib.hid hd
        clear hc hd
        go_enter Tryd.func55, Tryd.ntmps55
        go_wp2_with (go_at_call 33; refine HC.out.mono ?_; rintro e w1 ⟨⟨c1, r1, rfl⟩, hF1⟩; have HF1 := Lib.hid hF1; clear hF1)
        go_ret
        exact ⟨ret_bool (by rw [hI.out, HEM.out, HD.out]; simp), HF1.out⟩
      | true =>
        have hc := trim_yes s w hs hd
        have hv := numF_lt s 0 hd
        have hv2 : numF 0 s < 1000000000 := by
          refine Nat.lt_of_lt_of_le hv ?_
          rw [Nat.zero_add, Nat.one_mul]
          exact Nat.pow_le_pow_right (by omega) (show s.length ≤ 9 by omega)
        have ha : ∀ w1, Calls Tryd.prog 34 #[.string ⟨s.toArray⟩] w1 fun e w' => e = .returned (.tuple #[.int .i64 (numF 0 s : Nat), .nilIface]) ∧ Frm (New w1) w1 w' := fun w1 => atoi_any s w1 hne (by omega) hd
        obtain ⟨v, hvv⟩ : ∃ v, v = numF 0 s := ⟨_, rfl⟩
        rw [← hvv] at ha hv2
        clear hv
        have HEM := Lib.hid hem
        have HC := Lib.hid hc
        have HD := Lib.hid hd
        have HA := Lib.hid ha
        have HVV := Lib.hid hvv
        clear hc hd ha hvv
        by_cases hn : (v : Int) = n
        · subst hn
          go_enter Tryd.func55, Tryd.ntmps55
          go_wp2_with (first
            | (go_at_call 33; refine HC.out.mono ?_; rintro e w1 ⟨rfl, hF1⟩; have HF1 := Lib.hid hF1; clear hF1)
            | (go_at_call 34; refine (HA.out _).mono ?_; rintro e w2 ⟨rfl, hF2⟩; have HF2 := Lib.hid hF2; clear hF2))
          go_ret
          exact ⟨ret_bool (by rw [hI.out, HEM.out, HD.out, ← HVV.out, decide_eq_true (show s.length ≤ 9 by omega)]; simp), HF1.out.then_new Up.new HF2.out⟩
        · have hn1 : ((v : Int) == n) = false := by rw [beq_eq_false_iff_ne]; exact hn
          go_enter Tryd.func55, Tryd.ntmps55
          go_wp2_with (first
            | (go_at_call 33; refine HC.out.mono ?_; rintro e w1 ⟨rfl, hF1⟩; have HF1 := Lib.hid hF1; clear hF1)
            | (go_at_call 34; refine (HA.out _).mono ?_; rintro e w2 ⟨rfl, hF2⟩; have HF2 := Lib.hid hF2; clear hF2))
          go_ret
          exact ⟨ret_bool (by rw [hI.out, HEM.out, HD.out, ← HVV.out, decide_eq_true (show s.length ≤ 9 by omega)]; simp [hn]), HF1.out.then_new Up.new HF2.out⟩
end Go.Proofs.YtpojejdddgdjdaaDoor.M
