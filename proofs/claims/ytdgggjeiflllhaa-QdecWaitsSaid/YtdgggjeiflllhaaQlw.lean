/- QdecWaits: the walk. No condition. -/
import Derived.BigQuiet
import Derived.IntWalk
import Derived.Deep.CutBlock
import Derived.Deep.LoopGhost
import Derived.Below
import Derived.Test.YtdgggjeiflllhaaQu
namespace Go.Proofs.Ytdgggjeiflllhaa.M
open Go.ChangeShapes Go.WideShapes Go.ChangeAt Go.RowKit

def wD (k : Nat) (l : List Nat) (o : Bytes) : Qd := ⟨⟨[], 0, 0⟩, 400, k, l, [], o, 0, false⟩
theorem wrp : rpfQ [2, 0, 128] 0 400 = (1, 1, 2, 0) := by kernel_rfl
theorem wD_dec (k : Nat) (l : List Nat) (o : Bytes) (s : Nat) : (wD k l o).decode s [2, 0, 128] = if s ∈ l then (([], 27), wD k l o) else if k ≤ l.length then (([], 50), wD k l o) else (([], 27), wD k (l ++ [s]) o) := by
  unfold Qd.decode wD
  simp only [wrp]
  rfl
theorem wD_cancel (k : Nat) (l : List Nat) (o : Bytes) (s : Nat) : (wD k l o).cancel s = wD k (l.filter (fun x => decide (x ≠ s))) (o ++ pfx 64 6 s) := by
  unfold Qd.cancel Qd.forget wD
  simp
theorem wD_small : ∀ k : Fin 5, ∀ s : Fin 5, s < k → ((List.range k.val).filter (fun x => decide (x ≠ s.val))).length + 1 = k.val ∧ 99 ∉ List.range k.val ∧ 99 ∉ (List.range k.val).filter (fun x => decide (x ≠ s.val)) := by decide
set_option maxRecDepth 100000 in
set_option maxHeartbeats 4000000 in
theorem waits_walk (ib ic ig : Int) (W : World) (w0 : (Lit.int .u8 ib).wf = true) (w1 : (Lit.int .u8 ic).wf = true) (w2 : (Lit.int .u8 ig).wf = true) :
    Calls Try.prog 8 #[.int .u8 ib, .int .u8 ic, .int .u8 ig] W fun e w' => e = .returned (.bool true) ∧ Below W.heap.size W w' := by
  obtain ⟨a0, a1⟩ := bounds_u8 w0
  obtain ⟨b0, b1⟩ := bounds_u8 w1
  obtain ⟨c0, c1⟩ := bounds_u8 w2
  obtain ⟨a, rfl⟩ := Int.eq_ofNat_of_zero_le a0
  obtain ⟨b, rfl⟩ := Int.eq_ofNat_of_zero_le b0
  obtain ⟨c, rfl⟩ := Int.eq_ofNat_of_zero_le c0
  clear w0 w1 w2 a0 b0 c0
  obtain ⟨k, hk⟩ : ∃ k : Nat, (a : Int) % 5 = (k : Int) := ⟨a % 5, by omega⟩
  obtain ⟨n, hn⟩ : ∃ n : Nat, (b : Int) % 8 = (n : Int) := ⟨b % 8, by omega⟩
  have hk5 : k < 5 := by omega
  have hn8 : n < 8 := by omega
  go_enter Try.func8, Try.ntmps8
  go_wp2_with (fail)
  refine (known10_any _).mono ?_
  rintro e w1 ⟨rfl, hF1⟩
  have HF1 := Lib.hid hF1
  clear hF1
  go_wp2_with (fail)
  refine (kqnew 400 (k : Int) (by omega) (by omega) (by omega) (by omega) W w1 HF1.out).mono ?_
  rintro e w2 ⟨X, pd, g, bm, rfl, hK, _, _⟩
  rw [show (⟨⟨[], 0, 0⟩, lim 400, (max (k : Int) 0).toNat, [], [], [], 0, false⟩ : Qd) = wD k [] [] by unfold wD; rw [show (max (k : Int) 0).toNat = k by omega]; rfl] at hK
  have HK := Lib.hid hK
  clear hK
  go_wp2_with (fail)
  go_loopg [9] n (fun kk v9 wx => ∃ (i : Nat) (X : Nat → Prop), v9 = .int .i64 (i : Int) ∧ i + kk = n ∧ Hid (QKt W wx X pd g bm (wD k (List.range (min i k)) [])))
  case atStart => exact ⟨0, X, rfl, by omega, by simpa using HK⟩
  case round =>
    clear HK HF1
    obtain ⟨i, X1, rfl, hi, hQ⟩ := hrel
    rename World => wx
    by_cases hin : i < n
    · have hini : (i : Int) < (n : Int) := by omega
      have hwi : IntKind.u64.wrap (i : Int) = (i : Int) := IntWalk.u64_in _ (by omega)
      have hd := kqdec2 hQ.out i [2, 0, 128] #[.int .u8 2, .int .u8 0, .int .u8 128] rfl 3 rfl (by simp) (by omega) (by simp [wD])
      rw [wD_dec] at hd
      have hni : i ∉ List.range (min i k) := by simp; omega
      rw [if_neg hni, List.length_range] at hd
      by_cases hik : i < k
      · rw [if_neg (by omega), show List.range (min i k) ++ [i] = List.range (min (i + 1) k) by rw [show min i k = i by omega, show min (i + 1) k = i + 1 by omega, List.range_succ]] at hd
        have hiki : ¬ (k : Int) ≤ (i : Int) := by omega
        have HD := Lib.hid hd
        clear hd
        go_wp2_with (fail)
        refine HD.out.mono ?_
        rintro e w3 ⟨X2, A2, c2, hK2, rfl, _, _, _, _⟩
        simp only [List.length_nil]
        have hwt := fun w' (f : Frm (New w3) w3 w') => kqwaiting (hK2.fresh f)
        rw [show (wD k (List.range (min (i + 1) k)) []).waits.length = i + 1 by show (List.range _).length = _; rw [List.length_range]; omega] at hwt
        have HK2 := Lib.hid hK2
        have HWT := Lib.hid hwt
        clear hK2 hwt
        have hm1 : (i : Int) + 1 ≤ (k : Int) := by omega
        have hm2 : ¬ (k : Int) < (i : Int) + 1 := by omega
        go_wp2_with (go_at_call 27; refine (HWT.out _ (Frm.refl _ _)).mono ?_; rintro e w4 ⟨rfl, hw⟩; rw [hw]; clear hw w4)
        go_roundg (gk - 1)
        case measure => omega
        case rel => exact ⟨i + 1, _, by rw [Int.natCast_add]; rfl, by omega, HK2⟩
      · rw [if_pos (by omega), show min i k = min (i + 1) k by omega] at hd
        have hiki : (k : Int) ≤ (i : Int) := by omega
        have HD := Lib.hid hd
        clear hd
        go_wp2_with (fail)
        refine HD.out.mono ?_
        rintro e w3 ⟨X2, A2, c2, hK2, rfl, _, _, _, _⟩
        simp only [List.length_nil]
        have hwt := fun w' (f : Frm (New w3) w3 w') => kqwaiting (hK2.fresh f)
        rw [show (wD k (List.range (min (i + 1) k)) []).waits.length = k by show (List.range _).length = _; rw [List.length_range]; omega] at hwt
        have HK2 := Lib.hid hK2
        have HWT := Lib.hid hwt
        clear hK2 hwt
        have hm1 : ¬ (i : Int) + 1 ≤ (k : Int) := by omega
        have hm2 : (k : Int) < (i : Int) + 1 := by omega
        go_wp2_with (go_at_call 27; refine (HWT.out _ (Frm.refl _ _)).mono ?_; rintro e w4 ⟨rfl, hw⟩; rw [hw]; clear hw w4)
        go_roundg (gk - 1)
        case measure => omega
        case rel => exact ⟨i + 1, _, by rw [Int.natCast_add]; rfl, by omega, HK2⟩
    · have hini : ¬ (i : Int) < (n : Int) := by omega
      obtain rfl : i = n := by omega
      by_cases hk0 : k = 0
      · subst hk0
        go_wp2
        go_ret
        exact ⟨rfl, hQ.out.frm.below⟩
      have hk0i : ¬ (k : Int) = 0 := by omega
      by_cases hik : i < k
      · have hiki : (i : Int) < (k : Int) := by omega
        go_wp2
        go_ret
        exact ⟨rfl, hQ.out.frm.below⟩
      have hiki : ¬ (i : Int) < (k : Int) := by omega
      obtain ⟨s, hs⟩ : ∃ s : Nat, (c : Int) % (k : Int) = (s : Int) := ⟨c % k, rfl⟩
      have hsk : s < k := by
        have := Int.emod_lt_of_pos (c : Int) (show 0 < (k : Int) by omega)
        omega
      have hst : Int.tmod (c : Int) (k : Int) = (s : Int) := by rw [Int.tmod_eq_emod_of_nonneg (by omega)]; exact hs
      have hws : IntKind.u64.wrap (s : Int) = (s : Int) := IntWalk.u64_in _ (by omega)
      obtain ⟨hf1, hf2, hf3⟩ := wD_small ⟨k, hk5⟩ ⟨s, by omega⟩ hsk
      simp only at hf1 hf2 hf3
      have hQ0 := hQ.out
      rw [show min i k = k by omega] at hQ0
      clear hQ
      have hin : s ∈ List.range k := by simpa using hsk
      have HQ0 := Lib.hid hQ0
      have HF1 := Lib.hid hf1
      have HF2 := Lib.hid hf2
      have HF3 := Lib.hid hf3
      have HIN := Lib.hid hin
      clear hQ0 hf1 hf2 hf3 hin
      clear hs
      go_wp2_with (fail)
      have hd := kqdec2 HQ0.out s [2, 0, 128] #[.int .u8 2, .int .u8 0, .int .u8 128] rfl 3 rfl (by simp) (by omega) (by simp [wD])
      rw [wD_dec, if_pos HIN.out] at hd
      refine hd.mono ?_
      rintro e w3 ⟨X3, A3, c3, hK3, rfl, _, _, _, _⟩
      simp only [List.length_nil]
      have HK3 := Lib.hid hK3
      clear hK3
      clear hd
      go_wp2_with (fail)
      have hd := kqdec2 HK3.out 99 [2, 0, 128] #[.int .u8 2, .int .u8 0, .int .u8 128] rfl 3 rfl (by simp) (by omega) (by simp [wD])
      rw [wD_dec, if_neg HF2.out, if_pos (by simp)] at hd
      refine hd.mono ?_
      rintro e w4 ⟨X4, A4, c4, hK4, rfl, _, _, _, _⟩
      simp only [List.length_nil]
      have HK4 := Lib.hid hK4
      clear hK4
      clear hd
      go_wp2_with (fail)
      have hc := kqcancel HK4.out s (by omega) (by simp [wD])
      rw [wD_cancel] at hc
      refine hc.mono ?_
      rintro e w5 ⟨X5, hK5, rfl, _, _⟩
      have HK5 := Lib.hid hK5
      clear hK5
      clear hc
      go_wp2_with (fail)
      have hpl := pfx_length 64 6 s
      have hd := kqdec2 HK5.out 99 [2, 0, 128] #[.int .u8 2, .int .u8 0, .int .u8 128] rfl 3 rfl (by simp) (by omega) (by simp [wD]; omega)
      rw [wD_dec, if_neg HF3.out, if_neg (by have := HF1.out; omega)] at hd
      refine hd.mono ?_
      rintro e w6 ⟨X6, A6, c6, hK6, rfl, _, _, _, _⟩
      simp only [List.length_nil]
      have hwt := kqwaiting hK6
      rw [show (wD k ((List.range k).filter (fun x => decide (x ≠ s)) ++ [99]) ([] ++ pfx 64 6 s)).waits.length = k by show (_ ++ _ : List Nat).length = _; rw [List.length_append]; have := HF1.out; simpa using this] at hwt
      have HK6 := Lib.hid hK6
      have HWT := Lib.hid hwt
      clear hK6 hwt
      clear hd
      go_wp2_with (go_at_call 27; refine HWT.out.mono ?_; rintro e w7 ⟨rfl, hw⟩; rw [hw]; clear hw w7)
      go_ret
      exact ⟨rfl, HK6.out.frm.below⟩
end Go.Proofs.Ytdgggjeiflllhaa.M
