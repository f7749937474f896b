/- not, Bad, reads, key: what the handler's small functions answer. Strings below 2^62. -/
import Derived.BigQuiet
import Derived.Deep.CutBlock
import Derived.Lib.Hide
import Derived.IntWalk
import Derived.Test.YtpojejdddgdjdaaGreatDoorHaa
namespace Go.Proofs.YtpojejdddgdjdaaGreatDoor.M
open Go.ChangeShapes Go.WideShapes Go.ChangeAt Go.RowKit

set_option maxRecDepth 100000 in
set_option maxHeartbeats 2000000 in
theorem not_any (a : Bytes) (w : World) (hT : PT w) : Calls Tryz.prog 63 #[.string ⟨a.toArray⟩] w (AnR w (hNot a)) := by
  have hc : ∀ (w' : World) (g : Option Addr) (d : Nat), Frm (New w) w w' → Rd w' g (fvs [(bAllow, a)]) → Calls Tryz.prog 29 #[.int .i64 405, .slice none 0 0, .slice g 1 d] w' (AnR w' (hNot a)) := fun w' g d f h => answer_any 405 (by decide) none 0 [] g d [(bAllow, a)] w' Rd.nil h (Nat.zero_le _) (by simp) (hT.fresh f)
  have hfr : ∀ (w : World) t cs, Frm (New w) w (w.alloc (.cells cs t)) := fun w t cs => (Frm.refl _ w).alloc Up.new _
  have HC := Lib.hid hc
  have HFR := Lib.hid hfr
  clear hc hfr
  go_enter Tryz.func63, Tryz.ntmps63
  go_upto_region 1 with (refine wpList_new rfl rfl zMsg rfl ?_; intro w1 hb1 hF1 hs1)
  obtain ⟨g, hg⟩ : ∃ g, g = w.heap.size := ⟨_, rfl⟩
  rw [← hg] at hb1 ⊢
  have hgl := hb1.lt
  have hgw : w.heap.size ≤ g := by omega
  clear hg hs1
  have hR2 : Rd (w1.alloc (.cells #[.string ⟨#[97, 108, 108, 111, 119]⟩, .string ⟨a.toArray⟩] 38)) (some ⟨w1.heap.size, 0, none⟩) (fvs [(bAllow, a)]) := Rd.new w1 #[.string ⟨#[97, 108, 108, 111, 119]⟩, .string ⟨a.toArray⟩] 38
  have hF12 := HFR.out w1 38 #[.string ⟨#[97, 108, 108, 111, 119]⟩, .string ⟨a.toArray⟩]
  have hF2 := hF1.then_new Up.new hF12
  have hc2 := HC.out _ _ 1 hF2 hR2
  have hb2 := hb1.fresh hF12
  have hl2 := hb2.lt
  clear hR2 hF12 hF1 hb1 HC
  have HC2 := Lib.hid hc2
  have HB2 := Lib.hid hb2
  have HF2 := Lib.hid hF2
  clear hc2 hb2 hF2
  go_wp2_with (fail)
  generalize w1.alloc (.cells #[.string ⟨#[97, 108, 108, 111, 119]⟩, .string ⟨a.toArray⟩] 38) = w2 at *
  refine HC2.out.mono ?_
  rintro e w3 ⟨m, rfl, hm⟩
  have hb3 := HB2.out.fresh hm.frm
  have HB3 := Lib.hid hb3
  clear hb3
  go_wp2_with (refine wpList_store_agg rfl rfl rfl rfl HB3.out rfl (msg_one _ _ _ _ _ _ _ _ _) (by kernel_rfl) ?_; intro w4 hb4 hF4 hs4)
  refine bodyPost_ret (results_agg agM rfl rfl hb4 rfl) rfl ?_
  exact ⟨m, rfl, hm.done HF2.out hgw hl2 hF4⟩
set_option maxRecDepth 100000 in
set_option maxHeartbeats 2000000 in
theorem bad_any (c : Int) (w : World) (hT : PT w) : Calls Tryz.prog 14 #[.int .i64 c] w (AnR w (hBad c)) := by
  have hc : ∀ (st : Nat) (_ : st ≤ 999) (w' : World), Frm (New w) w w' → Calls Tryz.prog 29 #[.int .i64 (st : Int), .slice none 0 0, .slice none 0 0] w' (AnR w' (ans st [] [])) := fun st h w' f => answer_any st h none 0 [] none 0 [] w' Rd.nil Rd.nil (Nat.zero_le _) (Nat.zero_le _) (hT.fresh f)
  by_cases h1 : c = 1
  · subst h1
    have hq : hBad 1 = ans 400 [] [] := rfl
    rw [hq]
    have hc1 := hc 400 (by decide)
    clear hc hq
    have HC1 := Lib.hid hc1
    clear hc1
    go_enter Tryz.func14, Tryz.ntmps14
    go_wp2_with (first
      | (refine wpList_new rfl rfl zMsg rfl ?_; intro w1 hb1 hF1 hs1)
      | (go_at_call 29; refine (HC1.out _ hF1).mono ?_; rintro e w2 ⟨m, rfl, hm⟩)
      | (refine wpList_store_agg rfl rfl rfl rfl (hb1.fresh hm.frm) rfl (msg_one _ _ _ _ _ _ _ _ _) (by kernel_rfl) ?_; intro w3 hb3 hF3 hs3))
    refine bodyPost_ret (results_agg agM rfl rfl hb3 rfl) rfl ?_
    exact ⟨m, rfl, hm.done hF1 (Nat.le_refl _) (by omega) hF3⟩
  · by_cases h2 : c = 2
    · subst h2
      have hq : hBad 2 = ans 431 [] [] := rfl
      rw [hq]
      have hc1 := hc 431 (by decide)
      clear hc hq h1
      have HC1 := Lib.hid hc1
      clear hc1
      go_enter Tryz.func14, Tryz.ntmps14
      go_wp2_with (first
        | (refine wpList_new rfl rfl zMsg rfl ?_; intro w1 hb1 hF1 hs1)
        | (go_at_call 29; refine (HC1.out _ hF1).mono ?_; rintro e w2 ⟨m, rfl, hm⟩)
        | (refine wpList_store_agg rfl rfl rfl rfl (hb1.fresh hm.frm) rfl (msg_one _ _ _ _ _ _ _ _ _) (by kernel_rfl) ?_; intro w3 hb3 hF3 hs3))
      refine bodyPost_ret (results_agg agM rfl rfl hb3 rfl) rfl ?_
      exact ⟨m, rfl, hm.done hF1 (Nat.le_refl _) (by omega) hF3⟩
    · have hq : hBad c = ans 500 [] [] := by unfold hBad; rw [if_neg h1, if_neg h2]
      rw [hq]
      have hc1 := hc 500 (by decide)
      have e1 : (c == 1) = false := beq_eq_false_iff_ne.2 h1
      have e2 : (c == 2) = false := beq_eq_false_iff_ne.2 h2
      clear hc hq
      have HC1 := Lib.hid hc1
      clear hc1
      go_enter Tryz.func14, Tryz.ntmps14
      go_wp2_with (first
        | (refine wpList_new rfl rfl zMsg rfl ?_; intro w1 hb1 hF1 hs1)
        | (go_at_call 29; refine (HC1.out _ hF1).mono ?_; rintro e w2 ⟨m, rfl, hm⟩)
        | (refine wpList_store_agg rfl rfl rfl rfl (hb1.fresh hm.frm) rfl (msg_one _ _ _ _ _ _ _ _ _) (by kernel_rfl) ?_; intro w3 hb3 hF3 hs3))
      refine bodyPost_ret (results_agg agM rfl rfl hb3 rfl) rfl ?_
      exact ⟨m, rfl, hm.done hF1 (Nat.le_refl _) (by omega) hF3⟩
set_option maxRecDepth 100000 in
set_option maxHeartbeats 2000000 in
theorem reads_any (m : Bytes) (w : World) : Calls Tryz.prog 62 #[.string ⟨m.toArray⟩] w fun e w' => e = .returned (.bool (hReads m)) ∧ w = w' := by
  by_cases h1 : m = bGET
  · subst h1
    go_enter Tryz.func62, Tryz.ntmps62
    go_wp2
    go_ret
    exact ⟨rfl, rfl⟩
  · by_cases h2 : m = bHEAD
    · subst h2
      go_enter Tryz.func62, Tryz.ntmps62
      go_wp2
      go_ret
      exact ⟨rfl, rfl⟩
    · have hq : hReads m = false := by unfold hReads; rw [decide_eq_false h1, decide_eq_false h2]; rfl
      rw [hq]
      have a1 : (m == [71, 69, 84]) = false := beq_eq_false_iff_ne.2 h1
      have a2 : ¬ m = [71, 69, 84] := h1
      have b1 : (m == [72, 69, 65, 68]) = false := beq_eq_false_iff_ne.2 h2
      have b2 : ¬ m = [72, 69, 65, 68] := h2
      clear h1 h2 hq
      go_enter Tryz.func62, Tryz.ntmps62
      go_wp2
      go_ret
      exact ⟨rfl, rfl⟩
set_option maxRecDepth 100000 in
set_option maxHeartbeats 2000000 in
theorem key_any (s : Bytes) (w : World) (hs : s.length ≤ 4611686018427387903) : Calls Tryz.prog 64 #[.string ⟨s.toArray⟩] w fun e w' => e = .returned (.bool (hKey s)) ∧ Frm (New w) w w' := by
  cases s with
  | nil =>
    go_enter Tryz.func64, Tryz.ntmps64
    go_wp2
    go_ret
    exact ⟨rfl, Frm.refl _ _⟩
  | cons c t =>
    have htr := trimk_any (c :: t) w (by omega)
    have hq : hKey (c :: t) = (decide ((c :: t).length ≤ 32) && (c :: t).all alnum) := rfl
    have hta := trimS_alnums (c :: t)
    obtain ⟨ts, hts⟩ : ∃ ts, ts = Lib.trimS (c :: t) alnums := ⟨_, rfl⟩
    rw [← hts] at htr hta
    have hlc : (c :: t).length = t.length + 1 := rfl
    by_cases hl : t.length + 1 ≤ 32
    · have hli : (t.length : Int) + 1 ≤ 32 := by omega
      cases ts with
      | nil =>
        have hk : hKey (c :: t) = true := by rw [hq, hta.1 rfl, decide_eq_true (by rw [hlc]; exact hl)]; rfl
        have HTR := Lib.hid htr
        have HK := Lib.hid hk
        have HQ := Lib.hid hq
        have HTA := Lib.hid hta
        have HTS := Lib.hid hts
        clear htr hk hq hta hts
        go_enter Tryz.func64, Tryz.ntmps64
        go_wp2_with (go_at_call 73; refine HTR.out.mono ?_; rintro e w2 ⟨rfl, hF2⟩)
        go_ret
        exact ⟨by rw [HK.out]; rfl, hF2⟩
      | cons x y =>
        have hk : hKey (c :: t) = false := by
          rw [hq]
          cases ha : (c :: t).all alnum with
          | false => simp
          | true => cases hta.2 ha
        have HTR := Lib.hid htr
        have HK := Lib.hid hk
        have HQ := Lib.hid hq
        have HTA := Lib.hid hta
        have HTS := Lib.hid hts
        clear htr hk hq hta hts
        go_enter Tryz.func64, Tryz.ntmps64
        go_wp2_with (go_at_call 73; refine HTR.out.mono ?_; rintro e w2 ⟨rfl, hF2⟩)
        go_ret
        exact ⟨by rw [HK.out]; rfl, hF2⟩
    · have hli : ¬ (t.length : Int) + 1 ≤ 32 := by omega
      have hk : hKey (c :: t) = false := by rw [hq, decide_eq_false (by rw [hlc]; exact hl)]; rfl
      have HTR := Lib.hid htr
      have HK := Lib.hid hk
      have HQ := Lib.hid hq
      have HTA := Lib.hid hta
      have HTS := Lib.hid hts
      clear htr hk hq hta hts
      go_enter Tryz.func64, Tryz.ntmps64
      go_wp2_with (fail)
      go_ret
      exact ⟨by rw [HK.out]; rfl, Frm.refl _ _⟩
end Go.Proofs.YtpojejdddgdjdaaGreatDoor.M
