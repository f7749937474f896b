/- hdec.Str: what it returns. -/
import Derived.Test.YtcebckkpablagaaStrd
import Derived.Test.YtcebckkpablagaaHdc
import Derived.Test.YtcebckkpablagaaMem
namespace Go.Proofs.Ytcebckkpablagaa.M
open Go.ChangeShapes Go.WideShapes Go.ChangeAt Go.RowKit

theorem nrdp_any (b : Bytes) (A : Option Addr) (c k : Nat) (w : World) (hR : Rd w A (bvs b)) (hl : b.length ≤ 140737488355328) (k0 : 1 ≤ k) (k1 : k ≤ 8) :
    Calls Try.prog 68 #[.slice A b.length c, .int .i64 k] w (Ret3 w (rdp b k)) := by
  cases b with
  | nil => exact rdp_nil A c k w
  | cons x r =>
    obtain ⟨g, off, rfl, _⟩ := hR.at_ (k := 0) (by simp)
    exact rdp_cons x r g off c k w hR hl k0 k1

set_option maxRecDepth 100000 in
set_option maxHeartbeats 1000000 in
theorem hstr_any (b : Bytes) (A : Option Addr) (c : Nat) (w : World) (hR : Rd w A (bvs b)) (hl : b.length ≤ 1099511627776) (hc : b.length ≤ c) :
    Calls Try.prog 37 #[.slice A b.length c] w (RetS w (strD b 7)) := by
  have hrd := nrdp_any b A c 7 w hR (by omega) (by omega) (by omega)
  have hrg := rdp_range b 7 (by decide)
  have hD : Hid (strD b 7 = match rdp b 7 with
    | (n, at_, e) =>
      if e ≠ 0 then ([], 0, e) else if 4096 < n then ([], 0, 23) else if b.length - at_ < n then ([], 0, 20) else
      if (b.headD 0).toNat / 2 ^ 7 % 2 = 0 then ((b.drop at_).take n, at_ + n, 0) else
      match unhuf ((b.drop at_).take n) with
      | (s, e) => if e ≠ 0 then ([], 0, e) else (s, at_ + n, 0)) := rfl
  generalize rdp b 7 = q at *
  obtain ⟨n, at_, e⟩ := q
  unfold Ret3 at hrd
  simp only at hrd hrg
  have hD1 : Hid (strD b 7 = if e ≠ 0 then ([], 0, e) else if 4096 < n then ([], 0, 23) else if b.length - at_ < n then ([], 0, 20) else
      if (b.headD 0).toNat / 2 ^ 7 % 2 = 0 then ((b.drop at_).take n, at_ + n, 0) else
      match unhuf ((b.drop at_).take n) with
      | (s, e) => if e ≠ 0 then ([], 0, e) else (s, at_ + n, 0)) := hD.out
  clear hD
  by_cases he : e ≠ 0
  · have hD2 : Hid (strD b 7 = ([], 0, e)) := by show _ = _; rw [hD1.out, if_pos he]
    have he2 : ((e : Int) == 0) = false := by rw [beq_eq_false_iff_ne]; omega
    have HRD := Lib.hid hrd
    have HR := Lib.hid hR
    have HRG := Lib.hid hrg
    clear hrd hR hrg
    clear hD1
    go_enter Try.func37, Try.ntmps37
    go_wp2_with (go_at_call 68; refine HRD.out.mono ?_; rintro e w2 ⟨rfl, nn, rfl⟩)
    go_ret3
    unfold RetS
    rw [hD2.out]
    exact ⟨rfl, (Frm.refl _ _).drewN nn⟩
  · have he0 : e = 0 := by omega
    subst he0
    rw [show ((0 : Nat) : Int) = 0 from rfl] at hrd
    obtain ⟨hr1, hr2, hr3⟩ := hrg rfl
    have hD2 : Hid (strD b 7 = if 4096 < n then ([], 0, 23) else if b.length - at_ < n then ([], 0, 20) else
      if (b.headD 0).toNat / 2 ^ 7 % 2 = 0 then ((b.drop at_).take n, at_ + n, 0) else
      match unhuf ((b.drop at_).take n) with
      | (s, e) => if e ≠ 0 then ([], 0, e) else (s, at_ + n, 0)) := by show _ = _; rw [hD1.out, if_neg he]
    clear hD1 hrg he
    by_cases h4 : 4096 < n
    · have hD3 : Hid (strD b 7 = ([], 0, 23)) := by show _ = _; rw [hD2.out, if_pos h4]
      have HRD := Lib.hid hrd
      have HR := Lib.hid hR
      clear hrd hR
      clear hD2
      go_enter Try.func37, Try.ntmps37
      go_wp2_with (go_at_call 68; refine HRD.out.mono ?_; rintro e w2 ⟨rfl, nn, rfl⟩)
      go_ret3
      unfold RetS
      rw [hD3.out]
      exact ⟨rfl, (Frm.refl _ _).drewN nn⟩
    · have hw1 : IntKind.u64.wrap ((b.length : Int) - (at_ : Int)) = ((b.length - at_ : Nat) : Int) := by
        rw [show ((b.length : Int) - (at_ : Int)) = ((b.length - at_ : Nat) : Int) from by omega]; exact IntWalk.u64_in _ (by omega)
      by_cases hm : b.length - at_ < n
      · have hD3 : Hid (strD b 7 = ([], 0, 20)) := by show _ = _; rw [hD2.out, if_neg h4, if_pos hm]
        have HRD := Lib.hid hrd
        have HR := Lib.hid hR
        clear hrd hR
        clear hD2
        generalize hml : b.length - at_ = ml at *
        have HML := Lib.hid hml
        clear hml
        go_enter Try.func37, Try.ntmps37
        go_wp2_with (go_at_call 68; refine HRD.out.mono ?_; rintro e w2 ⟨rfl, nn, rfl⟩)
        go_ret3
        unfold RetS
        rw [hD3.out]
        exact ⟨rfl, (Frm.refl _ _).drewN nn⟩
      · obtain ⟨A2, hA2, hR2⟩ := hR.sub hc at_ n
        have hb1 : 0 < b.length := by omega
        obtain ⟨gb, off, hAe, hx0⟩ := hR.at_ (k := 0) (by rw [bvs_length]; exact hb1)
        subst hAe
        have hx1 : (b.headD 0).toNat < 256 := (b.headD 0).toNat_lt
        have hx : w.cell? ⟨gb, off, none⟩ = some (.int .u8 ((b.headD 0).toNat : Int)) := by
          rw [Nat.add_zero] at hx0
          rw [hx0]
          cases b with
          | nil => simp at hb1
          | cons x r => rfl
        clear hx0
        have hand : (b.headD 0).toNat / 128 = (b.headD 0).toNat / 128 % 2 := by omega
        have hD3 : Hid (strD b 7 = if (b.headD 0).toNat / 128 % 2 = 0 then ((b.drop at_).take n, at_ + n, 0) else
          match unhuf ((b.drop at_).take n) with
          | (s, e) => if e ≠ 0 then ([], 0, e) else (s, at_ + n, 0)) := by show _ = _; rw [hD2.out, if_neg h4, if_neg hm]
        clear hD2
        generalize (b.headD 0).toNat / 128 % 2 = hb at *
        generalize (b.headD 0).toNat = hd at *
        have HAND := Lib.hid hand
        clear hand
        have hln : ((b.drop at_).take n).length = n := by rw [List.length_take, List.length_drop]; omega
        generalize hbl : (b.drop at_).take n = l at *
        have hcv := fun q => run_conv (c := c - at_) (hR2.fresh ((Frm.refl (New w) w).drewN q))
        simp only [str] at hcv
        have hun := fun w' h => hdecode_any l A2 (c - at_) w' h (by omega)
        rw [hln] at hcv hun
        have hi1 : IntKind.i64.wrap ((at_ : Int) + (n : Int)) = ((at_ + n : Nat) : Int) := by
          rw [show ((at_ : Int) + (n : Int)) = ((at_ + n : Nat) : Int) from by omega]; exact IntWalk.i64_in _ (by omega)
        have hCut : ∀ (o : Oper) (a : Act) (w' : World) (x lo hi : Operand) (u v : Int), o.op = .slice 22 x (some lo) (some hi) none → a.eval x = .slice (some ⟨gb, off, none⟩) b.length c → a.eval lo = .int .i64 u → a.eval hi = .int .i64 v → u = (at_ : Int) → v = ((at_ + n : Nat) : Int) →
            (execOp a.eval o).run Try.prog w' = .ok (.value (.slice A2 n (c - at_))) w' := fun o a w' x lo hi u v h1 h2 h3 h4 h5 h6 => by
          have := run_cut (w := w') h1 h2 h3 h4 h5 h6 (by omega) (by omega)
          rw [hA2, Nat.add_sub_cancel_left] at this
          exact this
        have HRD := Lib.hid hrd
        have HR := Lib.hid hR
        have HR2 := Lib.hid hR2
        have HA2 := Lib.hid hA2
        have HLN := Lib.hid hln
        have HBL := Lib.hid hbl
        have HUN := Lib.hid hun
        have HCV := Lib.hid hcv
        have HCUT := Lib.hid hCut
        clear hrd hR hR2 hA2 hln hbl hun hcv hCut
        by_cases h0 : hb = 0
        · subst h0
          have hz0 : ((hd : Int) / 128 == 0) = true := by rw [beq_iff_eq]; have := HAND.out; omega
          have hD4 : Hid (strD b 7 = (l, at_ + n, 0)) := by show _ = _; rw [hD3.out, if_pos rfl]
          clear hD3 HUN
          have hcv := HCV.out
          go_enter Try.func37, Try.ntmps37
          go_wp2_with (first
            | (go_at_call 68; refine HRD.out.mono ?_; rintro e w2 ⟨rfl, nn, rfl⟩)
            | (refine wpList_val rfl (.slice A2 n (c - at_)) (HCUT.out _ _ _ _ _ _ _ _ rfl rfl rfl rfl rfl rfl) ?_))
          go_ret3
          unfold RetS
          rw [hD4.out]
          exact ⟨rfl, (Frm.refl _ _).drewN nn⟩
        · have h0' : ((hd : Int) / 128 == 0) = false := by rw [beq_eq_false_iff_ne]; have := HAND.out; omega
          have hD4 : Hid (strD b 7 = match unhuf l with | (s, e) => if e ≠ 0 then ([], 0, e) else (s, at_ + n, 0)) := by show _ = _; rw [hD3.out, if_neg h0]
          clear hD3
          have hun := HUN.out
          clear HUN
          generalize unhuf l = q at *
          obtain ⟨s, e⟩ := q
          simp only [str] at hun
          have hD5 : Hid (strD b 7 = if e ≠ 0 then ([], 0, e) else (s, at_ + n, 0)) := hD4.out
          have HUN := Lib.hid hun
          clear hun
          clear hD4
          by_cases he : e = 0
          · subst he
            have hD6 : Hid (strD b 7 = (s, at_ + n, 0)) := by show _ = _; rw [hD5.out, if_neg (by simp)]
            clear hD5
            go_enter Try.func37, Try.ntmps37
            go_wp2_with (first
              | (go_at_call 68; refine HRD.out.mono ?_; rintro e w2 ⟨rfl, nn, rfl⟩)
              | (refine wpList_val rfl (.slice A2 n (c - at_)) (HCUT.out _ _ _ _ _ _ _ _ rfl rfl rfl rfl rfl rfl) ?_)
              | (go_at_call 69; refine (HUN.out _ (HR2.out.fresh ((Frm.refl _ _).drewN nn))).mono ?_; rintro e w3 ⟨rfl, hF3⟩))
            go_ret3
            unfold RetS
            rw [hD6.out]
            exact ⟨rfl, Frm.trans ((Frm.refl _ _).drewN nn) (hF3.mono (fun k hk => by simpa [New] using hk))⟩
          · have hD6 : Hid (strD b 7 = ([], 0, e)) := by show _ = _; rw [hD5.out, if_pos he]
            have he2 : ((e : Int) == 0) = false := by rw [beq_eq_false_iff_ne]; omega
            clear hD5
            go_enter Try.func37, Try.ntmps37
            go_wp2_with (first
              | (go_at_call 68; refine HRD.out.mono ?_; rintro e w2 ⟨rfl, nn, rfl⟩)
              | (refine wpList_val rfl (.slice A2 n (c - at_)) (HCUT.out _ _ _ _ _ _ _ _ rfl rfl rfl rfl rfl rfl) ?_)
              | (go_at_call 69; refine (HUN.out _ (HR2.out.fresh ((Frm.refl _ _).drewN nn))).mono ?_; rintro e w3 ⟨rfl, hF3⟩))
            go_ret3
            unfold RetS
            rw [hD6.out]
            exact ⟨rfl, Frm.trans ((Frm.refl _ _).drewN nn) (hF3.mono (fun k hk => by simpa [New] using hk))⟩
end Go.Proofs.Ytcebckkpablagaa.M
