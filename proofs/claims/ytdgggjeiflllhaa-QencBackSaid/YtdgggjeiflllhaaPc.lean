/- The reference's StrBits at 3 and 5 bits; a row's and a table's entry. The document's QPACK decoder: an instruction that is right. -/
import Derived.Deep.CutBlock
import Derived.BigQuiet
import Derived.Lib.Hide
import Derived.IntWalk
import Derived.Test.YtdgggjeiflllhaaUnw
import Derived.Test.YtdgggjeiflllhaaRtab
import Derived.Test.YtdgggjeiflllhaaMem
import Derived.Test.YtdgggjeiflllhaaQt
import Derived.Test.YtdgggjeiflllhaaT3
import Derived.Test.YtdgggjeiflllhaaQi
import Derived.Test.YtdgggjeiflllhaaEncp
namespace Go.Proofs.Ytdgggjeiflllhaa.M
open Go.ChangeShapes Go.WideShapes Go.ChangeAt Go.RowKit

theorem head_and5 (x : Nat) (hx : x < 256) : bits .and .u8 ((x : Int) / 2 ^ 5) 1 = ((x / 32 % 2 : Nat) : Int) := by
  have key : ∀ x : Fin 256, bits .and .u8 ((x.val : Int) / 2 ^ 5) 1 = ((x.val / 32 % 2 : Nat) : Int) := by decide +kernel
  exact key ⟨x, hx⟩
theorem head_and5' (x : Nat) (hx : x < 256) : bits .and .u8 ((x : Int) / 32) 1 = ((x / 32 % 2 : Nat) : Int) := by
  have key : ∀ x : Fin 256, bits .and .u8 ((x.val : Int) / 32) 1 = ((x.val / 32 % 2 : Nat) : Int) := by decide +kernel
  exact key ⟨x, hx⟩
set_option maxRecDepth 100000 in
set_option maxHeartbeats 1000000 in
theorem strbits5_any (b : Bytes) (A : Option Addr) (c : Nat) (w : World) (hR : Rd w A (bvs b)) (hl : b.length ≤ 1099511627776) (hc : b.length ≤ c) :
    Calls Try.prog 84 #[.slice A b.length c, .int .i64 5] w (RetS w (strD b 5)) := by
  have hrd := rrdp_any b A c 5 w hR (by omega) (by omega) (by omega)
  have hrg := rdp_range b 5 (by decide)
  have hD : Hid (strD b 5 = match rdp b 5 with
    | (n, at_, e) =>
      if e ≠ 0 then ([], 0, e) else if 4096 < n then ([], 0, 23) else if b.length - at_ < n then ([], 0, 20) else
      if (b.headD 0).toNat / 2 ^ 5 % 2 = 0 then ((b.drop at_).take n, at_ + n, 0) else
      match unhuf ((b.drop at_).take n) with
      | (s, e) => if e ≠ 0 then ([], 0, e) else (s, at_ + n, 0)) := rfl
  generalize rdp b 5 = q at *
  obtain ⟨n, at_, e⟩ := q
  unfold Ret3 at hrd
  simp only at hrd hrg
  have hD1 : Hid (strD b 5 = if e ≠ 0 then ([], 0, e) else if 4096 < n then ([], 0, 23) else if b.length - at_ < n then ([], 0, 20) else
      if (b.headD 0).toNat / 2 ^ 5 % 2 = 0 then ((b.drop at_).take n, at_ + n, 0) else
      match unhuf ((b.drop at_).take n) with
      | (s, e) => if e ≠ 0 then ([], 0, e) else (s, at_ + n, 0)) := hD.out
  clear hD
  by_cases he : e ≠ 0
  · have hD2 : Hid (strD b 5 = ([], 0, e)) := by show _ = _; rw [hD1.out, if_pos he]
    have he2 : ((e : Int) == 0) = false := by rw [beq_eq_false_iff_ne]; omega
    have HRD := Lib.hid hrd
    have HR := Lib.hid hR
    have HRG := Lib.hid hrg
    clear hrd hR hrg
    clear hD1
    go_enter Try.func84, Try.ntmps84
    go_wp2_with (go_at_call 62; refine HRD.out.mono ?_; rintro e w2 ⟨rfl, nn, rfl⟩)
    go_ret3
    unfold RetS
    rw [hD2.out]
    exact ⟨rfl, (Frm.refl _ _).drewN nn⟩
  · have he0 : e = 0 := by omega
    subst he0
    rw [show ((0 : Nat) : Int) = 0 from rfl] at hrd
    obtain ⟨hr1, hr2, hr3⟩ := hrg rfl
    have hD2 : Hid (strD b 5 = if 4096 < n then ([], 0, 23) else if b.length - at_ < n then ([], 0, 20) else
      if (b.headD 0).toNat / 2 ^ 5 % 2 = 0 then ((b.drop at_).take n, at_ + n, 0) else
      match unhuf ((b.drop at_).take n) with
      | (s, e) => if e ≠ 0 then ([], 0, e) else (s, at_ + n, 0)) := by show _ = _; rw [hD1.out, if_neg he]
    clear hD1 hrg he
    by_cases h4 : 4096 < n
    · have hD3 : Hid (strD b 5 = ([], 0, 23)) := by show _ = _; rw [hD2.out, if_pos h4]
      have HRD := Lib.hid hrd
      have HR := Lib.hid hR
      clear hrd hR
      clear hD2
      go_enter Try.func84, Try.ntmps84
      go_wp2_with (go_at_call 62; refine HRD.out.mono ?_; rintro e w2 ⟨rfl, nn, rfl⟩)
      go_ret3
      unfold RetS
      rw [hD3.out]
      exact ⟨rfl, (Frm.refl _ _).drewN nn⟩
    · have hw1 : IntKind.u64.wrap ((b.length : Int) - (at_ : Int)) = ((b.length - at_ : Nat) : Int) := by
        rw [show ((b.length : Int) - (at_ : Int)) = ((b.length - at_ : Nat) : Int) from by omega]; exact IntWalk.u64_in _ (by omega)
      by_cases hm : b.length - at_ < n
      · have hD3 : Hid (strD b 5 = ([], 0, 20)) := by show _ = _; rw [hD2.out, if_neg h4, if_pos hm]
        have HRD := Lib.hid hrd
        have HR := Lib.hid hR
        clear hrd hR
        clear hD2
        generalize hml : b.length - at_ = ml at *
        have HML := Lib.hid hml
        clear hml
        go_enter Try.func84, Try.ntmps84
        go_wp2_with (go_at_call 62; refine HRD.out.mono ?_; rintro e w2 ⟨rfl, nn, rfl⟩)
        go_ret3
        unfold RetS
        rw [hD3.out]
        exact ⟨rfl, (Frm.refl _ _).drewN nn⟩
      · obtain ⟨A2, hA2, hR2⟩ := hR.sub hc at_ n
        have hb1 : 0 < b.length := by omega
        obtain ⟨gb, off, hAe, hx0⟩ := hR.at_ (k := 0) (by rw [bvs_length]; exact hb1)
        subst hAe
        have hx1 : (b.headD 0).toNat < 256 := (b.headD 0).toNat_lt
        have hx : w.cell? ⟨gb, off, none⟩ = some (.int .u8 ((b.headD 0).toNat : Int)) := by
          rw [Nat.add_zero] at hx0
          rw [hx0]
          cases b with
          | nil => simp at hb1
          | cons x r => rfl
        clear hx0
        have hand := head_and5 _ hx1
        have hand' := head_and5' _ hx1
        have hD3 : Hid (strD b 5 = if (b.headD 0).toNat / 32 % 2 = 0 then ((b.drop at_).take n, at_ + n, 0) else
          match unhuf ((b.drop at_).take n) with
          | (s, e) => if e ≠ 0 then ([], 0, e) else (s, at_ + n, 0)) := by show _ = _; rw [hD2.out, if_neg h4, if_neg hm]
        clear hD2
        generalize (b.headD 0).toNat / 32 % 2 = hb at *
        generalize (b.headD 0).toNat = hd at *
        have hln : ((b.drop at_).take n).length = n := by rw [List.length_take, List.length_drop]; omega
        generalize hbl : (b.drop at_).take n = l at *
        have hcv := fun q => run_conv (c := c - at_) (hR2.fresh ((Frm.refl (New w) w).drewN q))
        simp only [str] at hcv
        have hun := fun w' h => unhuffman_any l A2 (c - at_) w' h (by omega)
        rw [hln] at hcv hun
        have hi1 : IntKind.i64.wrap ((at_ : Int) + (n : Int)) = ((at_ + n : Nat) : Int) := by
          rw [show ((at_ : Int) + (n : Int)) = ((at_ + n : Nat) : Int) from by omega]; exact IntWalk.i64_in _ (by omega)
        have hCut : ∀ (o : Oper) (a : Act) (w' : World) (x lo hi : Operand) (u v : Int), o.op = .slice 23 x (some lo) (some hi) none → a.eval x = .slice (some ⟨gb, off, none⟩) b.length c → a.eval lo = .int .i64 u → a.eval hi = .int .i64 v → u = (at_ : Int) → v = ((at_ + n : Nat) : Int) →
            (execOp a.eval o).run Try.prog w' = .ok (.value (.slice A2 n (c - at_))) w' := fun o a w' x lo hi u v h1 h2 h3 h4 h5 h6 => by
          have := run_cut (w := w') h1 h2 h3 h4 h5 h6 (by omega) (by omega)
          rw [hA2, Nat.add_sub_cancel_left] at this
          exact this
        have HRD := Lib.hid hrd
        have HR := Lib.hid hR
        have HR2 := Lib.hid hR2
        have HA2 := Lib.hid hA2
        have HLN := Lib.hid hln
        have HBL := Lib.hid hbl
        have HUN := Lib.hid hun
        have HCV := Lib.hid hcv
        have HCUT := Lib.hid hCut
        clear hrd hR hR2 hA2 hln hbl hun hcv hCut
        by_cases h0 : hb = 0
        · subst h0
          have hD4 : Hid (strD b 5 = (l, at_ + n, 0)) := by show _ = _; rw [hD3.out, if_pos rfl]
          clear hD3 HUN
          have hcv := HCV.out
          go_enter Try.func84, Try.ntmps84
          go_wp2_with (first
            | (go_at_call 62; refine HRD.out.mono ?_; rintro e w2 ⟨rfl, nn, rfl⟩)
            | (refine wpList_val rfl (.slice A2 n (c - at_)) (HCUT.out _ _ _ _ _ _ _ _ rfl rfl rfl rfl rfl rfl) ?_))
          go_ret3
          unfold RetS
          rw [hD4.out]
          exact ⟨rfl, (Frm.refl _ _).drewN nn⟩
        · have h0' : ((hb : Int) == 0) = false := by rw [beq_eq_false_iff_ne]; omega
          have hD4 : Hid (strD b 5 = match unhuf l with | (s, e) => if e ≠ 0 then ([], 0, e) else (s, at_ + n, 0)) := by show _ = _; rw [hD3.out, if_neg h0]
          clear hD3
          have hun := HUN.out
          clear HUN
          generalize unhuf l = q at *
          obtain ⟨s, e⟩ := q
          simp only [str] at hun
          have hD5 : Hid (strD b 5 = if e ≠ 0 then ([], 0, e) else (s, at_ + n, 0)) := hD4.out
          have HUN := Lib.hid hun
          clear hun
          clear hD4
          by_cases he : e = 0
          · subst he
            have hD6 : Hid (strD b 5 = (s, at_ + n, 0)) := by show _ = _; rw [hD5.out, if_neg (by simp)]
            clear hD5
            go_enter Try.func84, Try.ntmps84
            go_wp2_with (first
              | (go_at_call 62; refine HRD.out.mono ?_; rintro e w2 ⟨rfl, nn, rfl⟩)
              | (refine wpList_val rfl (.slice A2 n (c - at_)) (HCUT.out _ _ _ _ _ _ _ _ rfl rfl rfl rfl rfl rfl) ?_)
              | (go_at_call 126; refine (HUN.out _ (HR2.out.fresh ((Frm.refl _ _).drewN nn))).mono ?_; rintro e w3 ⟨rfl, hF3⟩))
            go_ret3
            unfold RetS
            rw [hD6.out]
            exact ⟨rfl, Frm.trans ((Frm.refl _ _).drewN nn) (hF3.mono (fun k hk => by simpa [New] using hk))⟩
          · have hD6 : Hid (strD b 5 = ([], 0, e)) := by show _ = _; rw [hD5.out, if_pos he]
            have he2 : ((e : Int) == 0) = false := by rw [beq_eq_false_iff_ne]; omega
            clear hD5
            go_enter Try.func84, Try.ntmps84
            go_wp2_with (first
              | (go_at_call 62; refine HRD.out.mono ?_; rintro e w2 ⟨rfl, nn, rfl⟩)
              | (refine wpList_val rfl (.slice A2 n (c - at_)) (HCUT.out _ _ _ _ _ _ _ _ rfl rfl rfl rfl rfl rfl) ?_)
              | (go_at_call 126; refine (HUN.out _ (HR2.out.fresh ((Frm.refl _ _).drewN nn))).mono ?_; rintro e w3 ⟨rfl, hF3⟩))
            go_ret3
            unfold RetS
            rw [hD6.out]
            exact ⟨rfl, Frm.trans ((Frm.refl _ _).drewN nn) (hF3.mono (fun k hk => by simpa [New] using hk))⟩
theorem head_and3 (x : Nat) (hx : x < 256) : bits .and .u8 ((x : Int) / 2 ^ 3) 1 = ((x / 8 % 2 : Nat) : Int) := by
  have key : ∀ x : Fin 256, bits .and .u8 ((x.val : Int) / 2 ^ 3) 1 = ((x.val / 8 % 2 : Nat) : Int) := by decide +kernel
  exact key ⟨x, hx⟩
theorem head_and3' (x : Nat) (hx : x < 256) : bits .and .u8 ((x : Int) / 8) 1 = ((x / 8 % 2 : Nat) : Int) := by
  have key : ∀ x : Fin 256, bits .and .u8 ((x.val : Int) / 8) 1 = ((x.val / 8 % 2 : Nat) : Int) := by decide +kernel
  exact key ⟨x, hx⟩
set_option maxRecDepth 100000 in
set_option maxHeartbeats 1000000 in
theorem strbits3_any (b : Bytes) (A : Option Addr) (c : Nat) (w : World) (hR : Rd w A (bvs b)) (hl : b.length ≤ 1099511627776) (hc : b.length ≤ c) :
    Calls Try.prog 84 #[.slice A b.length c, .int .i64 3] w (RetS w (strD b 3)) := by
  have hrd := rrdp_any b A c 3 w hR (by omega) (by omega) (by omega)
  have hrg := rdp_range b 3 (by decide)
  have hD : Hid (strD b 3 = match rdp b 3 with
    | (n, at_, e) =>
      if e ≠ 0 then ([], 0, e) else if 4096 < n then ([], 0, 23) else if b.length - at_ < n then ([], 0, 20) else
      if (b.headD 0).toNat / 2 ^ 3 % 2 = 0 then ((b.drop at_).take n, at_ + n, 0) else
      match unhuf ((b.drop at_).take n) with
      | (s, e) => if e ≠ 0 then ([], 0, e) else (s, at_ + n, 0)) := rfl
  generalize rdp b 3 = q at *
  obtain ⟨n, at_, e⟩ := q
  unfold Ret3 at hrd
  simp only at hrd hrg
  have hD1 : Hid (strD b 3 = if e ≠ 0 then ([], 0, e) else if 4096 < n then ([], 0, 23) else if b.length - at_ < n then ([], 0, 20) else
      if (b.headD 0).toNat / 2 ^ 3 % 2 = 0 then ((b.drop at_).take n, at_ + n, 0) else
      match unhuf ((b.drop at_).take n) with
      | (s, e) => if e ≠ 0 then ([], 0, e) else (s, at_ + n, 0)) := hD.out
  clear hD
  by_cases he : e ≠ 0
  · have hD2 : Hid (strD b 3 = ([], 0, e)) := by show _ = _; rw [hD1.out, if_pos he]
    have he2 : ((e : Int) == 0) = false := by rw [beq_eq_false_iff_ne]; omega
    have HRD := Lib.hid hrd
    have HR := Lib.hid hR
    have HRG := Lib.hid hrg
    clear hrd hR hrg
    clear hD1
    go_enter Try.func84, Try.ntmps84
    go_wp2_with (go_at_call 62; refine HRD.out.mono ?_; rintro e w2 ⟨rfl, nn, rfl⟩)
    go_ret3
    unfold RetS
    rw [hD2.out]
    exact ⟨rfl, (Frm.refl _ _).drewN nn⟩
  · have he0 : e = 0 := by omega
    subst he0
    rw [show ((0 : Nat) : Int) = 0 from rfl] at hrd
    obtain ⟨hr1, hr2, hr3⟩ := hrg rfl
    have hD2 : Hid (strD b 3 = if 4096 < n then ([], 0, 23) else if b.length - at_ < n then ([], 0, 20) else
      if (b.headD 0).toNat / 2 ^ 3 % 2 = 0 then ((b.drop at_).take n, at_ + n, 0) else
      match unhuf ((b.drop at_).take n) with
      | (s, e) => if e ≠ 0 then ([], 0, e) else (s, at_ + n, 0)) := by show _ = _; rw [hD1.out, if_neg he]
    clear hD1 hrg he
    by_cases h4 : 4096 < n
    · have hD3 : Hid (strD b 3 = ([], 0, 23)) := by show _ = _; rw [hD2.out, if_pos h4]
      have HRD := Lib.hid hrd
      have HR := Lib.hid hR
      clear hrd hR
      clear hD2
      go_enter Try.func84, Try.ntmps84
      go_wp2_with (go_at_call 62; refine HRD.out.mono ?_; rintro e w2 ⟨rfl, nn, rfl⟩)
      go_ret3
      unfold RetS
      rw [hD3.out]
      exact ⟨rfl, (Frm.refl _ _).drewN nn⟩
    · have hw1 : IntKind.u64.wrap ((b.length : Int) - (at_ : Int)) = ((b.length - at_ : Nat) : Int) := by
        rw [show ((b.length : Int) - (at_ : Int)) = ((b.length - at_ : Nat) : Int) from by omega]; exact IntWalk.u64_in _ (by omega)
      by_cases hm : b.length - at_ < n
      · have hD3 : Hid (strD b 3 = ([], 0, 20)) := by show _ = _; rw [hD2.out, if_neg h4, if_pos hm]
        have HRD := Lib.hid hrd
        have HR := Lib.hid hR
        clear hrd hR
        clear hD2
        generalize hml : b.length - at_ = ml at *
        have HML := Lib.hid hml
        clear hml
        go_enter Try.func84, Try.ntmps84
        go_wp2_with (go_at_call 62; refine HRD.out.mono ?_; rintro e w2 ⟨rfl, nn, rfl⟩)
        go_ret3
        unfold RetS
        rw [hD3.out]
        exact ⟨rfl, (Frm.refl _ _).drewN nn⟩
      · obtain ⟨A2, hA2, hR2⟩ := hR.sub hc at_ n
        have hb1 : 0 < b.length := by omega
        obtain ⟨gb, off, hAe, hx0⟩ := hR.at_ (k := 0) (by rw [bvs_length]; exact hb1)
        subst hAe
        have hx1 : (b.headD 0).toNat < 256 := (b.headD 0).toNat_lt
        have hx : w.cell? ⟨gb, off, none⟩ = some (.int .u8 ((b.headD 0).toNat : Int)) := by
          rw [Nat.add_zero] at hx0
          rw [hx0]
          cases b with
          | nil => simp at hb1
          | cons x r => rfl
        clear hx0
        have hand := head_and3 _ hx1
        have hand' := head_and3' _ hx1
        have hD3 : Hid (strD b 3 = if (b.headD 0).toNat / 8 % 2 = 0 then ((b.drop at_).take n, at_ + n, 0) else
          match unhuf ((b.drop at_).take n) with
          | (s, e) => if e ≠ 0 then ([], 0, e) else (s, at_ + n, 0)) := by show _ = _; rw [hD2.out, if_neg h4, if_neg hm]
        clear hD2
        generalize (b.headD 0).toNat / 8 % 2 = hb at *
        generalize (b.headD 0).toNat = hd at *
        have hln : ((b.drop at_).take n).length = n := by rw [List.length_take, List.length_drop]; omega
        generalize hbl : (b.drop at_).take n = l at *
        have hcv := fun q => run_conv (c := c - at_) (hR2.fresh ((Frm.refl (New w) w).drewN q))
        simp only [str] at hcv
        have hun := fun w' h => unhuffman_any l A2 (c - at_) w' h (by omega)
        rw [hln] at hcv hun
        have hi1 : IntKind.i64.wrap ((at_ : Int) + (n : Int)) = ((at_ + n : Nat) : Int) := by
          rw [show ((at_ : Int) + (n : Int)) = ((at_ + n : Nat) : Int) from by omega]; exact IntWalk.i64_in _ (by omega)
        have hCut : ∀ (o : Oper) (a : Act) (w' : World) (x lo hi : Operand) (u v : Int), o.op = .slice 23 x (some lo) (some hi) none → a.eval x = .slice (some ⟨gb, off, none⟩) b.length c → a.eval lo = .int .i64 u → a.eval hi = .int .i64 v → u = (at_ : Int) → v = ((at_ + n : Nat) : Int) →
            (execOp a.eval o).run Try.prog w' = .ok (.value (.slice A2 n (c - at_))) w' := fun o a w' x lo hi u v h1 h2 h3 h4 h5 h6 => by
          have := run_cut (w := w') h1 h2 h3 h4 h5 h6 (by omega) (by omega)
          rw [hA2, Nat.add_sub_cancel_left] at this
          exact this
        have HRD := Lib.hid hrd
        have HR := Lib.hid hR
        have HR2 := Lib.hid hR2
        have HA2 := Lib.hid hA2
        have HLN := Lib.hid hln
        have HBL := Lib.hid hbl
        have HUN := Lib.hid hun
        have HCV := Lib.hid hcv
        have HCUT := Lib.hid hCut
        clear hrd hR hR2 hA2 hln hbl hun hcv hCut
        by_cases h0 : hb = 0
        · subst h0
          have hD4 : Hid (strD b 3 = (l, at_ + n, 0)) := by show _ = _; rw [hD3.out, if_pos rfl]
          clear hD3 HUN
          have hcv := HCV.out
          go_enter Try.func84, Try.ntmps84
          go_wp2_with (first
            | (go_at_call 62; refine HRD.out.mono ?_; rintro e w2 ⟨rfl, nn, rfl⟩)
            | (refine wpList_val rfl (.slice A2 n (c - at_)) (HCUT.out _ _ _ _ _ _ _ _ rfl rfl rfl rfl rfl rfl) ?_))
          go_ret3
          unfold RetS
          rw [hD4.out]
          exact ⟨rfl, (Frm.refl _ _).drewN nn⟩
        · have h0' : ((hb : Int) == 0) = false := by rw [beq_eq_false_iff_ne]; omega
          have hD4 : Hid (strD b 3 = match unhuf l with | (s, e) => if e ≠ 0 then ([], 0, e) else (s, at_ + n, 0)) := by show _ = _; rw [hD3.out, if_neg h0]
          clear hD3
          have hun := HUN.out
          clear HUN
          generalize unhuf l = q at *
          obtain ⟨s, e⟩ := q
          simp only [str] at hun
          have hD5 : Hid (strD b 3 = if e ≠ 0 then ([], 0, e) else (s, at_ + n, 0)) := hD4.out
          have HUN := Lib.hid hun
          clear hun
          clear hD4
          by_cases he : e = 0
          · subst he
            have hD6 : Hid (strD b 3 = (s, at_ + n, 0)) := by show _ = _; rw [hD5.out, if_neg (by simp)]
            clear hD5
            go_enter Try.func84, Try.ntmps84
            go_wp2_with (first
              | (go_at_call 62; refine HRD.out.mono ?_; rintro e w2 ⟨rfl, nn, rfl⟩)
              | (refine wpList_val rfl (.slice A2 n (c - at_)) (HCUT.out _ _ _ _ _ _ _ _ rfl rfl rfl rfl rfl rfl) ?_)
              | (go_at_call 126; refine (HUN.out _ (HR2.out.fresh ((Frm.refl _ _).drewN nn))).mono ?_; rintro e w3 ⟨rfl, hF3⟩))
            go_ret3
            unfold RetS
            rw [hD6.out]
            exact ⟨rfl, Frm.trans ((Frm.refl _ _).drewN nn) (hF3.mono (fun k hk => by simpa [New] using hk))⟩
          · have hD6 : Hid (strD b 3 = ([], 0, e)) := by show _ = _; rw [hD5.out, if_pos he]
            have he2 : ((e : Int) == 0) = false := by rw [beq_eq_false_iff_ne]; omega
            clear hD5
            go_enter Try.func84, Try.ntmps84
            go_wp2_with (first
              | (go_at_call 62; refine HRD.out.mono ?_; rintro e w2 ⟨rfl, nn, rfl⟩)
              | (refine wpList_val rfl (.slice A2 n (c - at_)) (HCUT.out _ _ _ _ _ _ _ _ rfl rfl rfl rfl rfl rfl) ?_)
              | (go_at_call 126; refine (HUN.out _ (HR2.out.fresh ((Frm.refl _ _).drewN nn))).mono ?_; rintro e w3 ⟨rfl, hF3⟩))
            go_ret3
            unfold RetS
            rw [hD6.out]
            exact ⟨rfl, Frm.trans ((Frm.refl _ _).drewN nn) (hF3.mono (fun k hk => by simpa [New] using hk))⟩

set_option maxRecDepth 100000 in
set_option maxHeartbeats 1000000 in
theorem rat_ok (l : List Fld) (i : Nat) (f : Fld) (A : Option Addr) (c : Nat) (w : World) (hR : Rd w A (fvs l)) (hi : l[i]? = some f) (hl : l.length ≤ 1099511627776) :
    Calls Try.prog 82 #[.slice A l.length c, .int .u64 i] w fun e w' => e = .returned (.tuple #[fld f, .bool true]) ∧ Frm (New w) w w' := by
  obtain ⟨hq, he⟩ := List.getElem?_eq_some_iff.1 hi
  subst he
  obtain ⟨gA, off, rfl, hx⟩ := hR.at_ (k := i * 2) (by rw [fvs_length]; omega)
  clear hx
  obtain ⟨hc1, hc2⟩ := fld_cells hR i hq
  have hgA : gA < w.heap.size := World.block_lt_of_cell? _ _ hc1
  clear hi
  generalize l[i] = f at *
  obtain ⟨f1, f2⟩ := f
  simp only [str] at hc1 hc2
  have hw0 : IntKind.u64.wrap (l.length : Int) = (l.length : Int) := IntWalk.u64_in _ (by omega)
  generalize l.length = ln at *
  clear hR
  have hqi : (i : Int) < (ln : Int) := by omega
  go_enter Try.func82, Try.ntmps82
  go_upto_region 3 with (fail)
  have hB1 := Blk.new w 71 #[.string ⟨#[]⟩, .string ⟨#[]⟩]
  have hF1 : Frm (New w) w (w.alloc (Obj.cells #[.string ⟨#[]⟩, .string ⟨#[]⟩] 71)) := (Frm.refl _ _).alloc Up.new _
  have hc3 := (hF1.cell (p := ⟨gA, off + i * 2, none⟩) (fun c => by unfold New at c; simp at c; omega)).trans hc1
  have hc4 := (hF1.cell (p := ⟨gA, off + i * 2 + 1, none⟩) (fun c => by unfold New at c; simp at c; omega)).trans hc2
  generalize w.alloc (Obj.cells #[.string ⟨#[]⟩, .string ⟨#[]⟩] 71) = w1 at *
  have hx1 := hB1.cell 0
  have hx2 := hB1.cell 1
  have hz1 := hB1.frozen 0
  have hz2 := hB1.frozen 1
  have hb1 : w.heap.size < w1.heap.size := hB1.lt
  have hgA1 : gA < w1.heap.size := by omega
  simp only [List.getElem?_toArray, List.getElem?_cons_zero, List.getElem?_cons_succ] at hx1 hx2
  have HB1 := Lib.hid hB1
  have HF1 := Lib.hid hF1
  clear hB1 hF1 hc1 hc2 hgA
  obtain ⟨b, hbe⟩ : ∃ b, b = w.heap.size := ⟨_, rfl⟩
  rw [← hbe] at hx1 hx2 hz1 hz2 hb1 HB1 ⊢
  have HBE := Lib.hid hbe
  clear hbe
  go_wp2
  refine bodyPost_ret (results_agg_tmp aggf rfl rfl rfl ((HB1.out.set_ 0 (.string ⟨f1.toArray⟩)).set_ 1 (.string ⟨f2.toArray⟩)) rfl) rfl ?_
  exact ⟨rfl, (HF1.out.setCell (p := ⟨b, 0, none⟩) (by rw [HBE.out]; exact Nat.le_refl _) _).setCell (p := ⟨b, 1, none⟩) (by rw [HBE.out]; exact Nat.le_refl _) _⟩
set_option maxRecDepth 100000 in
set_option maxHeartbeats 4000000 in
theorem rabs_ok {S : Nat → Prop} {g : Nat} {T : Tb} (p : Nat) (f : Fld) (w : World) (h : RTabS S w g T) (hp : T.at_ p = some f) :
    Calls Try.prog 127 #[.pointer (some ⟨g, 0, none⟩), .int .u64 p] w fun e w' => e = .returned (.tuple #[fld f, .bool true]) ∧ Frm (New w) w w' := by
  have hfs : ∀ w', Frm (New w) w w' → Calls Try.prog 94 #[.pointer (some ⟨g, 0, none⟩)] w' fun e w2 => e = .returned (.int .u64 (T.first : Nat)) ∧ ∃ k, w2 = w'.drewN k := fun w' fr => rtfirst_any w' (h.fresh fr)
  have hsame := h
  obtain ⟨A, c, h⟩ := h
  obtain ⟨l, n, cap⟩ := T
  simp only at h
  have hll := h.le
  have hnb := h.nb
  have hR := h.app.rd
  unfold Tb.at_ at hp
  by_cases hb : Tb.first ⟨l, n, cap⟩ ≤ p ∧ p < n
  rotate_left
  · rw [if_neg hb] at hp; cases hp
  rw [if_pos hb] at hp
  have hfi : Tb.first ⟨l, n, cap⟩ = n - l.length := rfl
  obtain ⟨fs, hfs2⟩ : ∃ fs, fs = Tb.first ⟨l, n, cap⟩ := ⟨_, rfl⟩
  rw [← hfs2] at hb hp hfs hfi
  obtain ⟨j, hj⟩ : ∃ j, j = p - fs := ⟨_, rfl⟩
  rw [← hj] at hp
  obtain ⟨hq, he2⟩ := List.getElem?_eq_some_iff.1 hp
  simp only at hq he2
  have hjl : j < l.length := by omega
  obtain ⟨gA, off, rfl, hx⟩ := hR.at_ (k := j * 2) (by rw [fvs_length]; omega)
  clear hx
  have hcells : ∀ w', Frm (New w) w w' → w'.cell? ⟨g, 0, none⟩ = some (.slice (some ⟨gA, off, none⟩) l.length c) ∧ w'.cell? ⟨g, 2, none⟩ = some (.int .u64 (n : Int)) ∧ w'.cell? ⟨gA, off + j * 2, none⟩ = some (str f.1) ∧ w'.cell? ⟨gA, off + j * 2 + 1, none⟩ = some (str f.2) ∧ g < w'.heap.size ∧ gA < w'.heap.size := fun w' fr => by
    have hr2 := hR.fresh fr
    obtain ⟨hc1, hc2⟩ := fld_cells hr2 j hjl
    rw [he2] at hc1 hc2
    have hb' := h.blk.fresh fr
    exact ⟨hb'.cell 0, hb'.cell 2, hc1, hc2, hb'.lt, World.block_lt_of_cell? _ _ hc1⟩
  clear hp hR he2 hfs2 hsame h
  obtain ⟨f1, f2⟩ := f
  simp only [str] at hcells
  have hw1 : IntKind.u64.wrap ((p : Int) - (fs : Int)) = (j : Int) := by rw [show ((p : Int) - (fs : Int)) = (j : Int) by omega]; exact IntWalk.u64_in _ (by omega)
  have hpn : (p : Int) < (n : Int) := by omega
  have hpf : ¬ (p : Int) < (fs : Int) := by omega
  have HFS := Lib.hid hfs
  have HJ := Lib.hid hj
  have HCELLS := Lib.hid hcells
  have HFI := Lib.hid hfi
  clear hfs hj hcells hfi
  have hd0 := HCELLS.out w (Frm.refl _ _)
  generalize hln : l.length = ln at *
  have HLN := Lib.hid hln
  clear hln
  go_enter Try.func127, Try.ntmps127
  have hB1 := Blk.new w 71 #[.string ⟨#[]⟩, .string ⟨#[]⟩]
  have hF1 : Frm (New w) w (w.alloc (Obj.cells #[.string ⟨#[]⟩, .string ⟨#[]⟩] 71)) := (Frm.refl _ _).alloc Up.new _
  obtain ⟨b, hbe⟩ : ∃ b, b = w.heap.size := ⟨_, rfl⟩
  have hc1 := HCELLS.out _ hF1
  obtain ⟨hg0, hg2, -, -, hgl, -⟩ := hd0
  go_upto_region 1 with (fail)
  rw [← hbe] at hB1 ⊢
  generalize w.alloc (Obj.cells #[.string ⟨#[]⟩, .string ⟨#[]⟩] 71) = w1 at *
  clear hg0 hg2 hgl
  obtain ⟨hg0, hg2, hx1, hx2, hgl, hgA⟩ := hc1
  have HBE := Lib.hid hbe
  have HB1 := Lib.hid hB1
  have HF1 := Lib.hid hF1
  clear hbe hB1 hF1
  go_wp2_with (fail)
  refine (HFS.out w1 HF1.out).mono ?_
  rintro e w2 ⟨rfl, m, rfl⟩
  go_upto_region 3 with (fail)
  have hsw : ∀ w', Frm (New w) w w' → w'.cell? ⟨g, 0, none⟩ = some (.slice (some ⟨gA, off, none⟩) ln c) ∧ w'.cell? ⟨gA, off + j * 2, none⟩ = some (.string ⟨f1.toArray⟩) ∧ w'.cell? ⟨gA, off + j * 2 + 1, none⟩ = some (.string ⟨f2.toArray⟩) ∧ g < w'.heap.size ∧ gA < w'.heap.size := fun w' fr => by
    obtain ⟨a1, a2, a3, a4, a5, a6⟩ := HCELLS.out w' fr
    exact ⟨a1, a3, a4, a5, a6⟩
  have hS0 := hsw (w1.drewN m).drew (HF1.out.drewN m).drew
  have hbw : w.heap.size ≤ b := by rw [HBE.out]; exact Nat.le_refl _
  have hjl2 : (j : Int) < (ln : Int) := by omega
  clear hg0 hg2 hx1 hx2 hgl hgA
  have HSW := Lib.hid hsw
  clear hsw
  refine wp_region_held (by kernel_rfl) (S := fun w' => w'.cell? ⟨g, 0, none⟩ = some (.slice (some ⟨gA, off, none⟩) ln c) ∧ w'.cell? ⟨gA, off + j * 2, none⟩ = some (.string ⟨f1.toArray⟩) ∧ w'.cell? ⟨gA, off + j * 2 + 1, none⟩ = some (.string ⟨f2.toArray⟩) ∧ g < w'.heap.size ∧ gA < w'.heap.size) ?_
  change wpAnyH _ _ _ _ _ _ _ _ (w1.drewN m).drew
  refine wpAnyH_takeB (i := 0) (v := ?_) (d := some 19) rfl (by rfl) (by kernel_rfl) (fun _ _ _ h => h) (by rfl) hS0 (fun w hSw => ?_) ?_
  rotate_left
  · (try dsimp only at hSw); (try subst hSw); go_simp; first | done | (with_reducible rfl)
  simp only [Act.put, List.setIfInBounds_toArray, List.set_cons_zero, List.set_cons_succ]
  refine wpAnyH_takeB (i := 1) (v := ?_) (d := some 20) rfl (by rfl) (by kernel_rfl) (fun _ _ _ h => h) (by rfl) hS0 (fun w hSw => ?_) ?_
  rotate_left
  · (try dsimp only at hSw); (try subst hSw); go_simp; first | done | (with_reducible rfl)
  simp only [Act.put, List.setIfInBounds_toArray, List.set_cons_zero, List.set_cons_succ]
  refine wpAnyH_takeB (i := 2) (v := ?_) (d := some 21) rfl (by rfl) (by kernel_rfl) (fun _ _ _ h => h) (by rfl) hS0 (fun w hSw => ?_) ?_
  rotate_left
  · (try dsimp only at hSw); (try subst hSw); go_simp; first | done | (with_reducible rfl)
  simp only [Act.put, List.setIfInBounds_toArray, List.set_cons_zero, List.set_cons_succ]
  refine wpAnyH_takeB (i := 3) (v := ?_) (d := some 22) rfl (by rfl) (by kernel_rfl) (fun _ _ _ h => h) (by rfl) hS0 (fun w hSw => ?_) ?_
  rotate_left
  · (try dsimp only at hSw); (try subst hSw); go_simp; first | done | (with_reducible rfl)
  simp only [Act.put, List.setIfInBounds_toArray, List.set_cons_zero, List.set_cons_succ]
  refine wpAnyH_takeB (i := 4) (v := ?_) (d := some 23) rfl (by rfl) (by kernel_rfl) (fun _ _ _ h => h) (by rfl) hS0 (fun w hSw => ?_) ?_
  rotate_left
  · (try dsimp only at hSw); (try subst hSw); go_simp; first | done | (with_reducible rfl)
  simp only [Act.put, List.setIfInBounds_toArray, List.set_cons_zero, List.set_cons_succ]
  refine wpAnyH_takeB (i := 5) (v := ?_) (d := some 24) rfl (by rfl) (by kernel_rfl) (fun _ _ _ h => h) (by rfl) hS0 (fun w hSw => ?_) ?_
  rotate_left
  · (try dsimp only at hSw); (try subst hSw); go_simp; first | done | (with_reducible rfl)
  simp only [Act.put, List.setIfInBounds_toArray, List.set_cons_zero, List.set_cons_succ]
  refine wpAnyH_oneB (i := 6) rfl (by kernel_rfl) (fun K hKK => ?_)
  refine Eq.mpr (if_pos (by rfl)) ?_
  go_wp2_with (fail)
  refine (HFS.out (w1.drewN m).drew (HF1.out.drewN m).drew).mono ?_
  rintro e w4 ⟨rfl, m2, rfl⟩
  have hF4 := ((HF1.out.drewN m).drew).drewN m2
  have hS4 := HSW.out _ hF4
  refine hKK.out _ _ hS4 ?_
  clear hKK K hS0
  try simp only [Act.put, List.setIfInBounds_toArray, List.set_cons_zero, List.set_cons_succ]
  refine wpAnyH_takeB (i := 7) (v := ?_) (d := some 26) rfl (by rfl) (by kernel_rfl) (fun _ _ _ h => h) (by rfl) hS4 (fun w hSw => ?_) ?_
  rotate_left
  · (try dsimp only at hSw); (try subst hSw); go_simp; first | done | (with_reducible rfl)
  simp only [Act.put, List.setIfInBounds_toArray, List.set_cons_zero, List.set_cons_succ]
  refine wpAnyH_takeB (i := 8) (v := ?_) (d := some 27) rfl (by rfl) (by kernel_rfl) (fun _ _ _ h => h) (by rfl) hS4 (fun w hSw => ?_) ?_
  rotate_left
  · (try dsimp only at hSw); (try subst hSw); go_simp; first | done | (with_reducible rfl)
  simp only [Act.put, List.setIfInBounds_toArray, List.set_cons_zero, List.set_cons_succ]
  refine wpAnyH_takeB (i := 9) (v := ?_) (d := some 28) rfl (by rfl) (by kernel_rfl) (fun _ _ _ h => h) (by rfl) hS4 (fun w hSw => ?_) ?_
  rotate_left
  · (try dsimp only at hSw); (try subst hSw); go_simp; first | done | (with_reducible rfl)
  simp only [Act.put, List.setIfInBounds_toArray, List.set_cons_zero, List.set_cons_succ]
  have hB4 := ((HB1.out.drewN m).drew).drewN m2
  have hy0 := hB4.cell 0
  have hy1 := hB4.cell 1
  have hz0 := hB4.frozen 0
  have hz1 := hB4.frozen 1
  have hbl := hB4.lt
  simp only [List.getElem?_toArray, List.getElem?_cons_zero, List.getElem?_cons_succ] at hy0 hy1
  generalize ((w1.drewN m).drew).drewN m2 = w5 at *
  have hF5 := (hF4.setCell (p := ⟨b, 0, none⟩) hbw (.string ⟨f1.toArray⟩)).setCell (p := ⟨b, 1, none⟩) hbw (.string ⟨f2.toArray⟩)
  have hB5 := (hB4.set_ 0 (.string ⟨f1.toArray⟩)).set_ 1 (.string ⟨f2.toArray⟩)
  have hS5 := HSW.out _ hF5
  have HB5 := Lib.hid hB5
  have HF5 := Lib.hid hF5
  have HB4 := Lib.hid hB4
  have HF4 := Lib.hid hF4
  clear hB5 hF5 hB4 hF4
  refine wpAnyH_oneB (i := 10) rfl (by kernel_rfl) (fun K hKK => ?_)
  refine Eq.mpr (if_pos (by rfl)) ?_
  go_simp
  refine hKK.out _ _ hS5 ?_
  clear hKK K
  try simp only [Act.put, List.setIfInBounds_toArray, List.set_cons_zero, List.set_cons_succ]
  refine wpAnyH_takeB (i := 11) (v := ?_) (d := some 5) rfl (by rfl) (by kernel_rfl) (fun _ _ _ h => h) (by rfl) hS5 (fun w hSw => ?_) ?_
  rotate_left
  · (try dsimp only at hSw); (try subst hSw); go_simp; first | done | (with_reducible rfl)
  simp only [Act.put, List.setIfInBounds_toArray, List.set_cons_zero, List.set_cons_succ]
  refine wpAnyH_done (by kernel_rfl) ?_ _
  go_wp2
  refine bodyPost_ret (results_agg_tmp aggf rfl rfl rfl HB5.out rfl) rfl ?_
  exact ⟨rfl, HF5.out⟩
set_option maxRecDepth 100000 in
set_option maxHeartbeats 2000000 in
theorem rdent_ok {S : Nat → Prop} {g pd : Nat} {T : Tb} (p ct : Nat) (f : Fld) (w : World) (hd : w.cell? ⟨pd, 0, none⟩ = some (.pointer (some ⟨g, 0, none⟩))) (h : RTabS S w g T) (hp : T.at_ p = some f) (hlt : p < ct) :
    Calls Try.prog 89 #[.pointer (some ⟨pd, 0, none⟩), .int .u64 p, .bool true, .int .u64 ct] w fun e w' => e = .returned (.tuple #[fld f, .bool true]) ∧ Frm (New w) w w' := by
  have hpl : pd < w.heap.size := World.block_lt_of_cell? _ _ hd
  have hlti : ¬ (ct : Int) ≤ (p : Int) := by omega
  obtain ⟨f1, f2⟩ := f
  simp only [fld, str]
  have H := Lib.hid h
  have HP := Lib.hid hp
  clear h hp
  go_enter Try.func89, Try.ntmps89
  have hB1 := Blk.new w 71 #[.string ⟨#[]⟩, .string ⟨#[]⟩]
  have hF1 : Frm (New w) w (w.alloc (Obj.cells #[.string ⟨#[]⟩, .string ⟨#[]⟩] 71)) := (Frm.refl _ _).alloc Up.new _
  obtain ⟨b, hbe⟩ : ∃ b, b = w.heap.size := ⟨_, rfl⟩
  have hd1 := (hF1.cell (p := ⟨pd, 0, none⟩) (fun c => by unfold New at c; simp at c; omega)).trans hd
  have hpl1 := Nat.lt_of_lt_of_le hpl hF1.size
  have hbw : w.heap.size ≤ b := by omega
  go_upto_region 3 with (fail)
  rw [← hbe] at hB1 ⊢
  generalize w.alloc (Obj.cells #[.string ⟨#[]⟩, .string ⟨#[]⟩] 71) = w1 at *
  clear hd hpl hbe
  have hab := rabs_ok p (f1, f2) w1 (H.out.fresh hF1) HP.out
  simp only [fld, str] at hab
  have HB1 := Lib.hid hB1
  have HF1 := Lib.hid hF1
  have HAB := Lib.hid hab
  clear hB1 hF1 hab
  go_wp2_with (fail)
  refine HAB.out.mono ?_
  rintro e w2 ⟨rfl, hF2⟩
  have hF3 := HF1.out.then_new Up.new hF2
  have hB2 := HB1.out.fresh hF2
  clear hF2 hd1 hpl1 HAB
  have hy0 := hB2.cell 0
  have hy1 := hB2.cell 1
  have hz0 := hB2.frozen 0
  have hz1 := hB2.frozen 1
  have hbl := hB2.lt
  simp only [List.getElem?_toArray, List.getElem?_cons_zero, List.getElem?_cons_succ] at hy0 hy1
  have hB3 := (hB2.set_ 0 (.string ⟨f1.toArray⟩)).set_ 1 (.string ⟨f2.toArray⟩)
  have HB2 := Lib.hid hB2
  have HB3 := Lib.hid hB3
  have HF3 := Lib.hid hF3
  clear hB2 hB3 hF3
  go_wp2
  refine bodyPost_ret (results_agg_tmp aggf rfl rfl rfl HB3.out rfl) rfl ?_
  exact ⟨rfl, (HF3.out.setCell (p := ⟨b, 0, none⟩) hbw (.string ⟨f1.toArray⟩)).setCell (p := ⟨b, 1, none⟩) hbw (.string ⟨f2.toArray⟩)⟩
end Go.Proofs.Ytdgggjeiflllhaa.M
namespace Go.Proofs.Ytdgggjeiflllhaa.M
open Go.ChangeShapes Go.WideShapes Go.ChangeAt Go.RowKit

theorem mask_eq (x m : Nat) (hx : x < 256) (hm : m = 128 ∨ m = 64 ∨ m = 32 ∨ m = 16) : (bits .and .u8 (x : Int) (m : Int) == 0) = decide (x / m % 2 = 0) := by
  have k1 : ∀ x : Fin 256, (bits .and .u8 (x.val : Int) 128 == 0) = decide (x.val / 128 % 2 = 0) := by decide +kernel
  have k2 : ∀ x : Fin 256, (bits .and .u8 (x.val : Int) 64 == 0) = decide (x.val / 64 % 2 = 0) := by decide +kernel
  have k3 : ∀ x : Fin 256, (bits .and .u8 (x.val : Int) 32 == 0) = decide (x.val / 32 % 2 = 0) := by decide +kernel
  have k4 : ∀ x : Fin 256, (bits .and .u8 (x.val : Int) 16 == 0) = decide (x.val / 16 % 2 = 0) := by decide +kernel
  rcases hm with rfl | rfl | rfl | rfl
  · exact k1 ⟨x, hx⟩
  · exact k2 ⟨x, hx⟩
  · exact k3 ⟨x, hx⟩
  · exact k4 ⟨x, hx⟩
theorem mask_is {x m : Nat} {b : Bool} (hx : x < 256) (hm : m = 128 ∨ m = 64 ∨ m = 32 ∨ m = 16) (hb : decide (x / m % 2 = 0) = b) : (bits .and .u8 (x : Int) (m : Int) == 0) = b ∧ (bits .and .u8 (x : Int) (m : Int) != 0) = !b := by
  have := mask_eq x m hx hm
  rw [bne, this, hb]
  exact ⟨rfl, rfl⟩
/-- a decoder's own cells -/
structure RqB (w : World) (pd g : Nat) (lim : Nat) : Prop where
  t : w.cell? ⟨pd, 0, none⟩ = some (.pointer (some ⟨g, 0, none⟩))
  m : w.cell? ⟨pd, 1, none⟩ = some (.int .i64 (lim : Int))
theorem RqB.keep {w w' : World} {pd g lim : Nat} {N : Nat → Prop} (h : RqB w pd g lim) (f : Frm N w w') (hn : ¬ N pd) : RqB w' pd g lim :=
  ⟨(f.cell (p := ⟨pd, 0, none⟩) hn).trans h.t, (f.cell (p := ⟨pd, 1, none⟩) hn).trans h.m⟩
theorem RqB.lt {w : World} {pd g lim : Nat} (h : RqB w pd g lim) : pd < w.heap.size := World.block_lt_of_cell? _ _ h.t
theorem RqB.fresh {w w' : World} {pd g lim : Nat} (h : RqB w pd g lim) (f : Frm (New w) w w') : RqB w' pd g lim := h.keep f (fun e => by have := h.lt; unfold New at e; omega)
theorem tab_cap {S : Nat → Prop} {w : World} {g : Nat} {T : Tb} (h : RTabS S w g T) : w.cell? ⟨g, 1, none⟩ = some (.int .i64 (T.cap : Int)) ∧ w.cell? ⟨g, 2, none⟩ = some (.int .u64 (T.n : Int)) ∧ g < w.heap.size := by
  obtain ⟨A, c, h⟩ := h
  exact ⟨h.blk.cell 1, h.blk.cell 2, h.blk.lt⟩
/-- what an instruction that is right leaves -/
def OneR (S : Nat → Prop) (w : World) (g : Nat) (T2 : Tb) (k : Nat) (e : Ending) (w' : World) : Prop :=
  e = .returned (.tuple #[.int .i64 (k : Int), .int .i64 0]) ∧ ∃ S', RTabS S' w' g T2 ∧ Frm (fun k => k = g ∨ New w k) w w' ∧ ∀ k, S' k → Own S w k
set_option maxRecDepth 100000 in
set_option maxHeartbeats 8000000 in
theorem rone_named {S : Nat → Prop} {g pd lim : Nat} {T : Tb} {i k k2 : Nat} {nm gv v : Bytes} (b : Bytes) (A : Option Addr) (c : Nat) (w : World) (hR : Rd w A (bvs b)) (hl : b.length ≤ 1099511627776) (hc : b.length ≤ c) (h : RqB w pd g lim) (hT : RTabS S w g T) (hpg : pd ≠ g)
    (h128 : 192 ≤ (b.headD 0).toNat) (hrd : rdp b 6 = (i, k, 0)) (hg : h3tab[i]? = some (nm, gv)) (hv : strD (b.drop k) 7 = (v, k2, 0)) (hf : fsize (nm, v) ≤ T.cap) (hcap : T.cap ≤ 4096) (htn : T.n < 1152921504606846976) :
    Calls Try.prog 47 #[.pointer (some ⟨pd, 0, none⟩), .slice A b.length c] w (OneR S w g (T.add (nm, v)) (k + k2)) := by
  have hx8 : (b.headD 0).toNat < 256 := (b.headD 0).toNat_lt
  have hrg := rdp_range b 6 (by decide) (by rw [hrd])
  rw [hrd] at hrg
  simp only at hrg
  have hrdc : ∀ w', Frm (New w) w w' → Calls Try.prog 62 #[.slice A b.length c, .int .i64 6] w' fun e w2 => e = .returned (.tuple #[.int .u64 (i : Int), .int .i64 (k : Int), .int .i64 0]) ∧ ∃ n, w2 = w'.drewN n := fun w' fr => by
    have := rrdp_any b A c 6 w' (hR.fresh fr) (by omega) (by omega) (by omega)
    rw [hrd] at this
    exact this
  obtain ⟨e1, e2⟩ : (bits .and .u8 ((b.headD 0).toNat : Int) 128 == 0) = false ∧ (bits .and .u8 ((b.headD 0).toNat : Int) 128 != 0) = true := mask_is (x := (b.headD 0).toNat) (m := 128) (b := false) hx8 (.inl rfl) (decide_eq_false (by omega))
  obtain ⟨e3, e4⟩ : (bits .and .u8 ((b.headD 0).toNat : Int) 64 == 0) = false ∧ (bits .and .u8 ((b.headD 0).toNat : Int) 64 != 0) = true := mask_is (x := (b.headD 0).toNat) (m := 64) (b := false) hx8 (.inr (.inl rfl)) (decide_eq_false (by omega))
  have hvr := strD_range (b.drop k) 7 (by decide) (by rw [hv])
  rw [hv] at hvr
  simp only [List.length_drop] at hvr
  have hb1 : 0 < b.length := by omega
  obtain ⟨gb, off, hAe, hx0⟩ := hR.at_ (k := 0) (by rw [bvs_length]; exact hb1)
  subst hAe
  have hxc : w.cell? ⟨gb, off, none⟩ = some (.int .u8 ((b.headD 0).toNat : Int)) := by
    rw [Nat.add_zero] at hx0
    rw [hx0]
    cases b with
    | nil => simp at hb1
    | cons x r => rfl
  clear hx0
  have hgb : gb < w.heap.size := World.block_lt_of_cell? _ _ hxc
  obtain ⟨A2, hA2, hR2⟩ := hR.from_ hc k
  obtain ⟨bl, hbl0⟩ : ∃ bl, bl = b.length - k := ⟨_, rfl⟩
  obtain ⟨c2, hc2⟩ : ∃ c2, c2 = c - k := ⟨_, rfl⟩
  have hcut : ∀ (o : Oper) (a : Act) (w' : World) (x lo : Operand) (u : Int), o.op = .slice 23 x (some lo) none none → a.eval x = .slice (some ⟨gb, off, none⟩) b.length c → a.eval lo = .int .i64 u → u = (k : Int) → (execOp a.eval o).run Try.prog w' = .ok (.value (.slice A2 bl c2)) w' := fun o a w' x lo u h1 h2 h3 h4 => by
    have := run_from (w := w') h1 h2 h3 h4 (by omega)
    rw [hA2, ← hbl0, ← hc2] at this
    exact this
  have hstr : ∀ w', Frm (New w) w w' → Calls Try.prog 84 #[.slice A2 bl c2, .int .i64 7] w' fun e w2 => e = .returned (.tuple #[.string ⟨v.toArray⟩, .int .i64 (k2 : Int), .int .i64 0]) ∧ Frm (New w') w' w2 := fun w' fr => by
    have := strbits_any (b.drop k) A2 c2 w' (hR2.fresh fr) (by rw [List.length_drop]; omega) (by rw [List.length_drop]; omega)
    rw [hv, List.length_drop, ← hbl0] at this
    exact this
  obtain ⟨fz, hfz⟩ : ∃ fz, fz = fsize (nm, v) := ⟨_, rfl⟩
  have hfzl : fz ≤ T.cap := by rw [hfz]; exact hf
  have hfzi : ¬ (T.cap : Int) < (fz : Int) := by omega
  have hkk : IntKind.i64.wrap ((k : Int) + (k2 : Int)) = ((k + k2 : Nat) : Int) := by rw [IntWalk.i64_in _ (by omega)]; omega
  obtain ⟨kk2, hkk2⟩ : ∃ kk2, kk2 = k + k2 := ⟨_, rfl⟩
  rw [← hkk2] at hkk
  rw [show k + k2 = kk2 from hkk2.symm]
  clear hv hf hR hR2
  generalize (b.headD 0).toNat = x at *
  generalize b.length = bn at *
  have H := Lib.hid h
  have HT := Lib.hid hT
  have HRDC := Lib.hid hrdc
  have HCUT := Lib.hid hcut
  have HSTR := Lib.hid hstr
  have HFZ := Lib.hid hfz
  have HPG := Lib.hid hpg
  have HA2 := Lib.hid hA2
  have HBL0 := Lib.hid hbl0
  have HC2 := Lib.hid hc2
  have HTN := Lib.hid htn
  have HKK2 := Lib.hid hkk2
  clear h hT hrdc hcut hstr hfz hpg hA2 hbl0 hc2 htn hkk2
  go_enter Try.func47, Try.ntmps47
  have hB1 := Blk.new w 71 #[.string ⟨#[]⟩, .string ⟨#[]⟩]
  have hF1 : Frm (New w) w (w.alloc (Obj.cells #[.string ⟨#[]⟩, .string ⟨#[]⟩] 71)) := (Frm.refl _ _).alloc Up.new _
  obtain ⟨bx, hbx⟩ : ∃ bx, bx = w.heap.size := ⟨_, rfl⟩
  have hbw : w.heap.size ≤ bx := by omega
  go_upto_region 12 with (fail)
  rw [← hbx] at hB1 ⊢
  generalize w.alloc (Obj.cells #[.string ⟨#[]⟩, .string ⟨#[]⟩] 71) = w1 at *
  clear hxc hgb hbx
  have HB1 := Lib.hid hB1
  have HF1 := Lib.hid hF1
  clear hB1 hF1
  go_wp2_with (fail)
  refine (HRDC.out w1 HF1.out).mono ?_
  rintro e w2 ⟨rfl, n2, rfl⟩
  have hF2 := HF1.out.drewN n2
  have hB2 := HB1.out.drewN n2
  generalize w1.drewN n2 = w2 at *
  clear HF1 HB1
  go_wp2_with (fail)
  refine (h3s_any w2).mono ?_
  rintro e w3 ⟨gs, rfl, hgs, hBs, hF3⟩
  have hST : Rd w3 (some ⟨gs, 0, none⟩) (fvs h3tab) := by have := hBs.rd; simpa using this
  have hat := rat_ok h3tab i (nm, gv) (some ⟨gs, 0, none⟩) 99 w3 hST hg (by rw [h3_len.2.2]; omega)
  rw [h3_len.2.2] at hat
  simp only [fld, str] at hat
  clear hBs hST hgs hg
  have HAT := Lib.hid hat
  clear hat
  go_wp2_with (fail)
  refine HAT.out.mono ?_
  rintro e w4 ⟨rfl, hF4⟩
  have hF34 := hF3.then_new Up.new hF4
  have hF5 := hF2.then_new Up.new hF34
  have hB5 := hB2.fresh hF34
  clear hF2 hF3 hF4 hF34 hB2 HAT
  have HF5 := Lib.hid hF5
  have HB5 := Lib.hid hB5
  clear hF5 hB5
  go_upto_region 17 with (fail)
  have hF6 : Frm (New w4) w4 (w4.alloc (Obj.cells #[.string ⟨nm.toArray⟩, .string ⟨gv.toArray⟩] 71)) := (Frm.refl _ _).alloc Up.new _
  have hB6 := Blk.new w4 71 #[.string ⟨nm.toArray⟩, .string ⟨gv.toArray⟩]
  have hB9 := HB5.out.fresh hF6
  have hF9 := HF5.out.then_new Up.new hF6
  obtain ⟨bz, hbz⟩ : ∃ bz, bz = w4.heap.size := ⟨_, rfl⟩
  have hbzx : bz ≠ bx := by have := HB5.out.lt; omega
  rw [← hbz] at hB6 ⊢
  generalize w4.alloc (Obj.cells #[.string ⟨nm.toArray⟩, .string ⟨gv.toArray⟩] 71) = w9 at *
  clear hF6 hbz HB5 HF5
  have hu0 := hB6.cell 0
  simp only [List.getElem?_toArray, List.getElem?_cons_zero] at hu0
  have hbzl := hB6.lt
  have hy0 := hB9.cell 0
  have hy1 := hB9.cell 1
  simp only [List.getElem?_toArray, List.getElem?_cons_zero, List.getElem?_cons_succ] at hy0 hy1
  have hz0 := hB9.frozen 0
  have hbl := hB9.lt
  have HB9 := Lib.hid hB9
  have HF9 := Lib.hid hF9
  have HB6 := Lib.hid hB6
  clear hB9 hF9 hB6
  have hB2 := HB9.out.set_ 0 (.string ⟨nm.toArray⟩)
  simp only [List.setIfInBounds_toArray, List.set_cons_zero] at hB2
  have hF2 := HF9.out.setCell (p := ⟨bx, 0, none⟩) hbw (.string ⟨nm.toArray⟩)
  go_upto_region 35 with (fail)
  clear hy0 hy1 hz0 hbl hu0 hbzl HB6
  generalize w9.setCell ⟨bx, 0, none⟩ (.string ⟨nm.toArray⟩) = w2 at *
  have hy0 := hB2.cell 0
  have hy1 := hB2.cell 1
  simp only [List.getElem?_toArray, List.getElem?_cons_zero, List.getElem?_cons_succ] at hy0 hy1
  have hz0 := hB2.frozen 0
  have hz1 := hB2.frozen 1
  have hbl := hB2.lt
  have HB2 := Lib.hid hB2
  have HF2 := Lib.hid hF2
  clear hB2 hF2
  clear HB9 HF9
  go_wp2_with (refine wpList_val rfl (.slice A2 bl c2) (HCUT.out _ _ _ _ _ _ rfl rfl rfl rfl) ?_)
  refine (HSTR.out w2 HF2.out).mono ?_
  rintro e w3 ⟨rfl, hF3⟩
  have hF03 := HF2.out.then_new Up.new hF3
  have hB3 := HB2.out.fresh hF3
  clear hF3 hy0 hy1 hz0 hz1 hbl HB2 HF2 HSTR HCUT
  have hy0 := hB3.cell 0
  have hy1 := hB3.cell 1
  simp only [List.getElem?_toArray, List.getElem?_cons_zero, List.getElem?_cons_succ] at hy0 hy1
  have hz1 := hB3.frozen 1
  have hbl := hB3.lt
  have hF4 : Frm (New w) w (w3.setCell ⟨bx, 1, none⟩ (.string ⟨v.toArray⟩)) := hF03.setCell (p := ⟨bx, 1, none⟩) hbw _
  have hB4 := hB3.set_ 1 (.string ⟨v.toArray⟩)
  simp only [List.setIfInBounds_toArray, List.set_cons_zero, List.set_cons_succ] at hB4
  have HB3 := Lib.hid hB3
  have HF03 := Lib.hid hF03
  have HB4 := Lib.hid hB4
  have HF4 := Lib.hid hF4
  clear hB3 hF03 hB4 hF4
  go_upto_region 39 with (fail)
  clear hy0 hy1 hz1 hbl HB3 HF03
  generalize w3.setCell ⟨bx, 1, none⟩ (.string ⟨v.toArray⟩) = w4 at *
  have hsw : ∀ w', Frm (New w4) w4 w' → w'.cell? ⟨pd, 0, none⟩ = some (.pointer (some ⟨g, 0, none⟩)) ∧ w'.cell? ⟨g, 1, none⟩ = some (.int .i64 (T.cap : Int)) ∧ w'.cell? ⟨bx, 0, none⟩ = some (.string ⟨nm.toArray⟩) ∧ w'.cell? ⟨bx, 1, none⟩ = some (.string ⟨v.toArray⟩) ∧ pd < w'.heap.size ∧ g < w'.heap.size ∧ bx < w'.heap.size := fun w' fr => by
    have hd := H.out.fresh (HF4.out.then_new Up.new fr)
    have ht := tab_cap (HT.out.fresh (HF4.out.then_new Up.new fr))
    have hb := HB4.out.fresh fr
    exact ⟨hd.t, ht.1, hb.cell 0, hb.cell 1, hd.lt, ht.2.2, hb.lt⟩
  have hS0 := hsw w4.drew ((Frm.refl _ _).drew)
  have hsz : ∀ w' A, Rd w' A (fvs [(nm, v)]) → Calls Try.prog 86 #[.slice A 1 1] w' fun e w2 => e = .returned (.int .i64 (fz : Int)) ∧ ∃ n, w2 = w'.drewN n := fun w' A hr => by
    have := rsize_any [(nm, v)] A 1 w' hr (by rw [fsizes_cons]; simp [fsizes]; have := HFZ.out; omega) (by simp)
    rw [show fsizes [(nm, v)] = fz by rw [fsizes_cons, HFZ.out]; rfl] at this
    exact this
  have HSW := Lib.hid hsw
  have HSZ := Lib.hid hsz
  clear hsw hsz
  refine wp_region_held (by kernel_rfl) (S := fun w' => w'.cell? ⟨pd, 0, none⟩ = some (.pointer (some ⟨g, 0, none⟩)) ∧ w'.cell? ⟨g, 1, none⟩ = some (.int .i64 (T.cap : Int)) ∧ w'.cell? ⟨bx, 0, none⟩ = some (.string ⟨nm.toArray⟩) ∧ w'.cell? ⟨bx, 1, none⟩ = some (.string ⟨v.toArray⟩) ∧ pd < w'.heap.size ∧ g < w'.heap.size ∧ bx < w'.heap.size) ?_
  change wpAnyH _ _ _ _ _ _ _ _ w4.drew
  refine wpAnyH_takeB (i := 0) (v := ?_) (d := some 165) rfl (by rfl) (by kernel_rfl) (fun _ _ _ h => h) (by rfl) hS0 (fun w hSw => ?_) ?_
  rotate_left
  · (try dsimp only at hSw); (try subst hSw); go_simp; first | done | (with_reducible rfl)
  simp only [Act.put, List.setIfInBounds_toArray, List.set_cons_zero, List.set_cons_succ]
  refine wpAnyH_takeB (i := 3) (v := ?_) (d := some 168) rfl (by rfl) (by kernel_rfl) (fun _ _ _ h => h) (by rfl) hS0 (fun w hSw => ?_) ?_
  rotate_left
  · (try dsimp only at hSw); (try subst hSw); go_simp; first | done | (with_reducible rfl)
  simp only [Act.put, List.setIfInBounds_toArray, List.set_cons_zero, List.set_cons_succ]
  refine wpAnyH_takeB (i := 4) (v := ?_) (d := some 169) rfl (by rfl) (by kernel_rfl) (fun _ _ _ h => h) (by rfl) hS0 (fun w hSw => ?_) ?_
  rotate_left
  · (try dsimp only at hSw); (try subst hSw); go_simp; first | done | (with_reducible rfl)
  simp only [Act.put, List.setIfInBounds_toArray, List.set_cons_zero, List.set_cons_succ]
  refine wpAnyH_takeB (i := 5) (v := ?_) (d := some 170) rfl (by rfl) (by kernel_rfl) (fun _ _ _ h => h) (by rfl) hS0 (fun w hSw => ?_) ?_
  rotate_left
  · (try dsimp only at hSw); (try subst hSw); go_simp; first | done | (with_reducible rfl)
  simp only [Act.put, List.setIfInBounds_toArray, List.set_cons_zero, List.set_cons_succ]
  refine wpAnyH_takeB (i := 6) (v := ?_) (d := some 171) rfl (by rfl) (by kernel_rfl) (fun _ _ _ h => h) (by rfl) hS0 (fun w hSw => ?_) ?_
  rotate_left
  · (try dsimp only at hSw); (try subst hSw); go_simp; first | done | (with_reducible rfl)
  simp only [Act.put, List.setIfInBounds_toArray, List.set_cons_zero, List.set_cons_succ]
  refine wpAnyH_takeB (i := 7) (v := ?_) (d := some 172) rfl (by rfl) (by kernel_rfl) (fun _ _ _ h => h) (by rfl) hS0 (fun w hSw => ?_) ?_
  rotate_left
  · (try dsimp only at hSw); (try subst hSw); go_simp; first | done | (with_reducible rfl)
  simp only [Act.put, List.setIfInBounds_toArray, List.set_cons_zero, List.set_cons_succ]
  refine wpAnyH_takeB (i := 8) (v := ?_) (d := some 173) rfl (by rfl) (by kernel_rfl) (fun _ _ _ h => h) (by rfl) hS0 (fun w hSw => ?_) ?_
  rotate_left
  · (try dsimp only at hSw); (try subst hSw); go_simp; first | done | (with_reducible rfl)
  simp only [Act.put, List.setIfInBounds_toArray, List.set_cons_zero, List.set_cons_succ]
  refine wpAnyH_takeB (i := 9) (v := ?_) (d := some 174) rfl (by rfl) (by kernel_rfl) (fun _ _ _ h => h) (by rfl) hS0 (fun w hSw => ?_) ?_
  rotate_left
  · (try dsimp only at hSw); (try subst hSw); go_simp; first | done | (with_reducible rfl)
  simp only [Act.put, List.setIfInBounds_toArray, List.set_cons_zero, List.set_cons_succ]
  have hF5 : Frm (New w4) w4 (w4.drew.alloc (.cells #[.string ⟨nm.toArray⟩, .string ⟨v.toArray⟩] 71)) := ((Frm.refl _ w4).drew).alloc Up.new _
  have hR5 : Rd (w4.drew.alloc (.cells #[.string ⟨nm.toArray⟩, .string ⟨v.toArray⟩] 71)) (some ⟨w4.drew.heap.size, 0, none⟩) (fvs [(nm, v)]) := Rd.new w4.drew #[.string ⟨nm.toArray⟩, .string ⟨v.toArray⟩] 71
  have hS5 := HSW.out _ hF5
  refine wpAnyH_oneB (i := 1) rfl (by kernel_rfl) (fun K hKK => ?_)
  refine Eq.mpr (if_pos (by rfl)) ?_
  go_simp
  refine hKK.out _ _ hS5 ?_
  clear hKK K hS0
  try simp only [Act.put, List.setIfInBounds_toArray, List.set_cons_zero, List.set_cons_succ]
  refine wpAnyH_oneB (i := 2) rfl (by kernel_rfl) (fun K hKK => ?_)
  refine Eq.mpr (if_pos (by rfl)) ?_
  go_wp2_with (fail)
  refine (HSZ.out _ _ hR5).mono ?_
  rintro e w6 ⟨rfl, m6, rfl⟩
  have hF6 := hF5.drewN m6
  have hS6 := HSW.out _ hF6
  generalize (w4.drew.alloc (.cells #[.string ⟨nm.toArray⟩, .string ⟨v.toArray⟩] 71)).drewN m6 = w6 at *
  refine hKK.out _ _ hS6 ?_
  clear hKK K hS5 hF5 hR5
  try simp only [Act.put, List.setIfInBounds_toArray, List.set_cons_zero, List.set_cons_succ]
  refine wpAnyH_oneB (i := 10) rfl (by kernel_rfl) (fun K hK => ?_)
  refine Eq.mpr (if_pos (by rfl)) ?_
  go_simp
  refine hK.out _ _ (hS6) ?_
  clear hK K
  try simp only [Act.put, List.setIfInBounds_toArray, List.set_cons_zero, List.set_cons_succ]
  refine wpAnyH_done (by kernel_rfl) ?_ _
  have hF06 := HF4.out.then_new Up.new hF6
  have hB6 := HB4.out.fresh hF6
  obtain ⟨hp0, hp1, hx0, hx1, hpl, hgl, hbl⟩ := hS6
  have hadd := radd_any (g := g) (nm, v) w6.drew (HT.out.fresh hF06.drew) HTN.out (by show fsize (nm, v) ≤ _; have := HFZ.out; omega) (by show T.cap ≤ _; omega)
  simp only [fld, str] at hadd
  have hsw6 : ∀ w', Frm (fun k => k = g ∨ New w6 k) w6 w' → w'.cell? ⟨pd, 0, none⟩ = some (.pointer (some ⟨g, 0, none⟩)) ∧ w'.cell? ⟨bx, 0, none⟩ = some (.string ⟨nm.toArray⟩) ∧ w'.cell? ⟨bx, 1, none⟩ = some (.string ⟨v.toArray⟩) ∧ pd < w'.heap.size ∧ bx < w'.heap.size := fun w' fr => by
    have hd := (H.out.fresh hF06).keep fr (fun e => by
      rcases e with e | e
      · exact HPG.out e
      · unfold New at e; omega)
    have hb := hB6.keep fr (fun e => by
      rcases e with e | e
      · have := (tab_cap HT.out).2.2; omega
      · unfold New at e; omega)
    exact ⟨hd.t, hb.cell 0, hb.cell 1, hd.lt, hb.lt⟩
  have hS7 := hsw6 w6.drew ((Frm.refl _ _).drew)
  clear HF4 HB4 hF6 HSW HSZ
  have HADD := Lib.hid hadd
  have HSW6 := Lib.hid hsw6
  have HF06 := Lib.hid hF06
  have HB6 := Lib.hid hB6
  clear hadd hsw6 hF06 hB6
  go_upto_region 41 with (fail)
  clear hp0 hp1 hx0 hx1 hpl hgl hbl
  refine wp_region_held (by kernel_rfl) (S := fun w' => w'.cell? ⟨pd, 0, none⟩ = some (.pointer (some ⟨g, 0, none⟩)) ∧ w'.cell? ⟨bx, 0, none⟩ = some (.string ⟨nm.toArray⟩) ∧ w'.cell? ⟨bx, 1, none⟩ = some (.string ⟨v.toArray⟩) ∧ pd < w'.heap.size ∧ bx < w'.heap.size) ?_
  change wpAnyH _ _ _ _ _ _ _ _ w6.drew
  refine wpAnyH_takeB (i := 0) (v := ?_) (d := some 176) rfl (by rfl) (by kernel_rfl) (fun _ _ _ h => h) (by rfl) hS7 (fun w hSw => ?_) ?_
  rotate_left
  · (try dsimp only at hSw); (try subst hSw); go_simp; first | done | (with_reducible rfl)
  simp only [Act.put, List.setIfInBounds_toArray, List.set_cons_zero, List.set_cons_succ]
  refine wpAnyH_takeB (i := 1) (v := ?_) (d := some 177) rfl (by rfl) (by kernel_rfl) (fun _ _ _ h => h) (by rfl) hS7 (fun w hSw => ?_) ?_
  rotate_left
  · (try dsimp only at hSw); (try subst hSw); go_simp; first | done | (with_reducible rfl)
  simp only [Act.put, List.setIfInBounds_toArray, List.set_cons_zero, List.set_cons_succ]
  refine wpAnyH_takeB (i := 2) (v := ?_) (d := some 178) rfl (by rfl) (by kernel_rfl) (fun _ _ _ h => h) (by rfl) hS7 (fun w hSw => ?_) ?_
  rotate_left
  · (try dsimp only at hSw); (try subst hSw); go_simp; first | done | (with_reducible rfl)
  simp only [Act.put, List.setIfInBounds_toArray, List.set_cons_zero, List.set_cons_succ]
  refine wpAnyH_takeB (i := 3) (v := ?_) (d := some 179) rfl (by rfl) (by kernel_rfl) (fun _ _ _ h => h) (by rfl) hS7 (fun w hSw => ?_) ?_
  rotate_left
  · (try dsimp only at hSw); (try subst hSw); go_simp; first | done | (with_reducible rfl)
  simp only [Act.put, List.setIfInBounds_toArray, List.set_cons_zero, List.set_cons_succ]
  refine wpAnyH_takeB (i := 4) (v := ?_) (d := some 180) rfl (by rfl) (by kernel_rfl) (fun _ _ _ h => h) (by rfl) hS7 (fun w hSw => ?_) ?_
  rotate_left
  · (try dsimp only at hSw); (try subst hSw); go_simp; first | done | (with_reducible rfl)
  simp only [Act.put, List.setIfInBounds_toArray, List.set_cons_zero, List.set_cons_succ]
  refine wpAnyH_oneB (i := 5) rfl (by kernel_rfl) (fun K hKK => ?_)
  refine Eq.mpr (if_pos (by rfl)) ?_
  go_wp2_with (fail)
  refine HADD.out.mono ?_
  rintro e w7 ⟨⟨m7, rfl⟩, S2, hT7, hF7, hS27⟩
  replace hF7 : Frm (fun k => k = g ∨ New w6 k) w6 w7 := Frm.trans ((Frm.refl _ w6).drew) hF7
  have hS8 := HSW6.out w7 hF7
  refine hKK.out _ _ hS8 ?_
  clear hKK K hS7
  try simp only [Act.put, List.setIfInBounds_toArray, List.set_cons_zero, List.set_cons_succ]
  refine wpAnyH_done (by kernel_rfl) ?_ _
  have HT7 := Lib.hid hT7
  have HF7 := Lib.hid hF7
  have HS27 := Lib.hid hS27
  have HS8 := Lib.hid hS8
  clear hT7 hF7 hS27 hS8
  go_wp2
  refine bodyPost_ret (results_tmp2 rfl _ _ _) rfl ?_
  refine ⟨rfl, S2, HT7.out, ?_, fun k hk => ?_⟩
  · exact (HF06.out.mono (fun k hk => .inr hk)).trans (HF7.out.mono (fun k hk => by
      rcases hk with hk | hk
      · exact .inl hk
      · exact .inr (Nat.le_trans HF06.out.size hk)))
  · rcases HS27.out k hk with e | e
    · exact .inl e
    · exact .inr (Nat.le_trans HF06.out.size e)
set_option maxRecDepth 100000 in
set_option maxHeartbeats 8000000 in
theorem rone_lit {S : Nat → Prop} {g pd lim : Nat} {T : Tb} {k k2 : Nat} {nm v : Bytes} (b : Bytes) (A : Option Addr) (c : Nat) (w : World) (hR : Rd w A (bvs b)) (hl : b.length ≤ 1099511627776) (hc : b.length ≤ c) (h : RqB w pd g lim) (hT : RTabS S w g T) (hpg : pd ≠ g)
    (h64 : 64 ≤ (b.headD 0).toNat) (h128 : (b.headD 0).toNat < 128) (hrd : strD b 5 = (nm, k, 0)) (hv : strD (b.drop k) 7 = (v, k2, 0)) (hf : fsize (nm, v) ≤ T.cap) (hcap : T.cap ≤ 4096) (htn : T.n < 1152921504606846976) :
    Calls Try.prog 47 #[.pointer (some ⟨pd, 0, none⟩), .slice A b.length c] w (OneR S w g (T.add (nm, v)) (k + k2)) := by
  have hx8 : (b.headD 0).toNat < 256 := (b.headD 0).toNat_lt
  have hrg := strD_range b 5 (by decide) (by rw [hrd])
  rw [hrd] at hrg
  simp only at hrg
  have hrdc : ∀ w', Frm (New w) w w' → Calls Try.prog 84 #[.slice A b.length c, .int .i64 5] w' fun e w2 => e = .returned (.tuple #[.string ⟨nm.toArray⟩, .int .i64 (k : Int), .int .i64 0]) ∧ Frm (New w') w' w2 := fun w' fr => by
    have := strbits5_any b A c w' (hR.fresh fr) hl hc
    rw [hrd] at this
    exact this
  obtain ⟨e1, e2⟩ : (bits .and .u8 ((b.headD 0).toNat : Int) 128 == 0) = true ∧ (bits .and .u8 ((b.headD 0).toNat : Int) 128 != 0) = false := mask_is (x := (b.headD 0).toNat) (m := 128) (b := true) hx8 (.inl rfl) (decide_eq_true (by omega))
  obtain ⟨e3, e4⟩ : (bits .and .u8 ((b.headD 0).toNat : Int) 64 == 0) = false ∧ (bits .and .u8 ((b.headD 0).toNat : Int) 64 != 0) = true := mask_is (x := (b.headD 0).toNat) (m := 64) (b := false) hx8 (.inr (.inl rfl)) (decide_eq_false (by omega))
  have hvr := strD_range (b.drop k) 7 (by decide) (by rw [hv])
  rw [hv] at hvr
  simp only [List.length_drop] at hvr
  have hb1 : 0 < b.length := by omega
  obtain ⟨gb, off, hAe, hx0⟩ := hR.at_ (k := 0) (by rw [bvs_length]; exact hb1)
  subst hAe
  have hxc : w.cell? ⟨gb, off, none⟩ = some (.int .u8 ((b.headD 0).toNat : Int)) := by
    rw [Nat.add_zero] at hx0
    rw [hx0]
    cases b with
    | nil => simp at hb1
    | cons x r => rfl
  clear hx0
  have hgb : gb < w.heap.size := World.block_lt_of_cell? _ _ hxc
  obtain ⟨A2, hA2, hR2⟩ := hR.from_ hc k
  obtain ⟨bl, hbl0⟩ : ∃ bl, bl = b.length - k := ⟨_, rfl⟩
  obtain ⟨c2, hc2⟩ : ∃ c2, c2 = c - k := ⟨_, rfl⟩
  have hcut : ∀ (o : Oper) (a : Act) (w' : World) (x lo : Operand) (u : Int), o.op = .slice 23 x (some lo) none none → a.eval x = .slice (some ⟨gb, off, none⟩) b.length c → a.eval lo = .int .i64 u → u = (k : Int) → (execOp a.eval o).run Try.prog w' = .ok (.value (.slice A2 bl c2)) w' := fun o a w' x lo u h1 h2 h3 h4 => by
    have := run_from (w := w') h1 h2 h3 h4 (by omega)
    rw [hA2, ← hbl0, ← hc2] at this
    exact this
  have hstr : ∀ w', Frm (New w) w w' → Calls Try.prog 84 #[.slice A2 bl c2, .int .i64 7] w' fun e w2 => e = .returned (.tuple #[.string ⟨v.toArray⟩, .int .i64 (k2 : Int), .int .i64 0]) ∧ Frm (New w') w' w2 := fun w' fr => by
    have := strbits_any (b.drop k) A2 c2 w' (hR2.fresh fr) (by rw [List.length_drop]; omega) (by rw [List.length_drop]; omega)
    rw [hv, List.length_drop, ← hbl0] at this
    exact this
  obtain ⟨fz, hfz⟩ : ∃ fz, fz = fsize (nm, v) := ⟨_, rfl⟩
  have hfzl : fz ≤ T.cap := by rw [hfz]; exact hf
  have hfzi : ¬ (T.cap : Int) < (fz : Int) := by omega
  have hkk : IntKind.i64.wrap ((k : Int) + (k2 : Int)) = ((k + k2 : Nat) : Int) := by rw [IntWalk.i64_in _ (by omega)]; omega
  obtain ⟨kk2, hkk2⟩ : ∃ kk2, kk2 = k + k2 := ⟨_, rfl⟩
  rw [← hkk2] at hkk
  rw [show k + k2 = kk2 from hkk2.symm]
  clear hv hf hR hR2
  generalize (b.headD 0).toNat = x at *
  generalize b.length = bn at *
  have H := Lib.hid h
  have HT := Lib.hid hT
  have HRDC := Lib.hid hrdc
  have HCUT := Lib.hid hcut
  have HSTR := Lib.hid hstr
  have HFZ := Lib.hid hfz
  have HPG := Lib.hid hpg
  have HA2 := Lib.hid hA2
  have HBL0 := Lib.hid hbl0
  have HC2 := Lib.hid hc2
  have HTN := Lib.hid htn
  have HKK2 := Lib.hid hkk2
  clear h hT hrdc hcut hstr hfz hpg hA2 hbl0 hc2 htn hkk2
  go_enter Try.func47, Try.ntmps47
  have hB1 := Blk.new w 71 #[.string ⟨#[]⟩, .string ⟨#[]⟩]
  have hF1 : Frm (New w) w (w.alloc (Obj.cells #[.string ⟨#[]⟩, .string ⟨#[]⟩] 71)) := (Frm.refl _ _).alloc Up.new _
  obtain ⟨bx, hbx⟩ : ∃ bx, bx = w.heap.size := ⟨_, rfl⟩
  have hbw : w.heap.size ≤ bx := by omega
  go_upto_region 12 with (fail)
  rw [← hbx] at hB1 ⊢
  generalize w.alloc (Obj.cells #[.string ⟨#[]⟩, .string ⟨#[]⟩] 71) = w1 at *
  clear hxc hgb hbx
  have HB1 := Lib.hid hB1
  have HF1 := Lib.hid hF1
  clear hB1 hF1
  go_wp2_with (fail)
  refine (HRDC.out w1 HF1.out).mono ?_
  rintro e w9 ⟨rfl, hF4⟩
  have hF9 := HF1.out.then_new Up.new hF4
  have hB9 := HB1.out.fresh hF4
  clear HF1 HB1 hF4
  have hy0 := hB9.cell 0
  have hy1 := hB9.cell 1
  simp only [List.getElem?_toArray, List.getElem?_cons_zero, List.getElem?_cons_succ] at hy0 hy1
  have hz0 := hB9.frozen 0
  have hbl := hB9.lt
  have HB9 := Lib.hid hB9
  have HF9 := Lib.hid hF9
  clear hB9 hF9
  have hB2 := HB9.out.set_ 0 (.string ⟨nm.toArray⟩)
  simp only [List.setIfInBounds_toArray, List.set_cons_zero] at hB2
  have hF2 := HF9.out.setCell (p := ⟨bx, 0, none⟩) hbw (.string ⟨nm.toArray⟩)
  go_upto_region 35 with (fail)
  clear hy0 hy1 hz0 hbl 
  generalize w9.setCell ⟨bx, 0, none⟩ (.string ⟨nm.toArray⟩) = w2 at *
  have hy0 := hB2.cell 0
  have hy1 := hB2.cell 1
  simp only [List.getElem?_toArray, List.getElem?_cons_zero, List.getElem?_cons_succ] at hy0 hy1
  have hz0 := hB2.frozen 0
  have hz1 := hB2.frozen 1
  have hbl := hB2.lt
  have HB2 := Lib.hid hB2
  have HF2 := Lib.hid hF2
  clear hB2 hF2
  clear HB9 HF9
  go_wp2_with (refine wpList_val rfl (.slice A2 bl c2) (HCUT.out _ _ _ _ _ _ rfl rfl rfl rfl) ?_)
  refine (HSTR.out w2 HF2.out).mono ?_
  rintro e w3 ⟨rfl, hF3⟩
  have hF03 := HF2.out.then_new Up.new hF3
  have hB3 := HB2.out.fresh hF3
  clear hF3 hy0 hy1 hz0 hz1 hbl HB2 HF2 HSTR HCUT
  have hy0 := hB3.cell 0
  have hy1 := hB3.cell 1
  simp only [List.getElem?_toArray, List.getElem?_cons_zero, List.getElem?_cons_succ] at hy0 hy1
  have hz1 := hB3.frozen 1
  have hbl := hB3.lt
  have hF4 : Frm (New w) w (w3.setCell ⟨bx, 1, none⟩ (.string ⟨v.toArray⟩)) := hF03.setCell (p := ⟨bx, 1, none⟩) hbw _
  have hB4 := hB3.set_ 1 (.string ⟨v.toArray⟩)
  simp only [List.setIfInBounds_toArray, List.set_cons_zero, List.set_cons_succ] at hB4
  have HB3 := Lib.hid hB3
  have HF03 := Lib.hid hF03
  have HB4 := Lib.hid hB4
  have HF4 := Lib.hid hF4
  clear hB3 hF03 hB4 hF4
  go_upto_region 39 with (fail)
  clear hy0 hy1 hz1 hbl HB3 HF03
  generalize w3.setCell ⟨bx, 1, none⟩ (.string ⟨v.toArray⟩) = w4 at *
  have hsw : ∀ w', Frm (New w4) w4 w' → w'.cell? ⟨pd, 0, none⟩ = some (.pointer (some ⟨g, 0, none⟩)) ∧ w'.cell? ⟨g, 1, none⟩ = some (.int .i64 (T.cap : Int)) ∧ w'.cell? ⟨bx, 0, none⟩ = some (.string ⟨nm.toArray⟩) ∧ w'.cell? ⟨bx, 1, none⟩ = some (.string ⟨v.toArray⟩) ∧ pd < w'.heap.size ∧ g < w'.heap.size ∧ bx < w'.heap.size := fun w' fr => by
    have hd := H.out.fresh (HF4.out.then_new Up.new fr)
    have ht := tab_cap (HT.out.fresh (HF4.out.then_new Up.new fr))
    have hb := HB4.out.fresh fr
    exact ⟨hd.t, ht.1, hb.cell 0, hb.cell 1, hd.lt, ht.2.2, hb.lt⟩
  have hS0 := hsw w4.drew ((Frm.refl _ _).drew)
  have hsz : ∀ w' A, Rd w' A (fvs [(nm, v)]) → Calls Try.prog 86 #[.slice A 1 1] w' fun e w2 => e = .returned (.int .i64 (fz : Int)) ∧ ∃ n, w2 = w'.drewN n := fun w' A hr => by
    have := rsize_any [(nm, v)] A 1 w' hr (by rw [fsizes_cons]; simp [fsizes]; have := HFZ.out; omega) (by simp)
    rw [show fsizes [(nm, v)] = fz by rw [fsizes_cons, HFZ.out]; rfl] at this
    exact this
  have HSW := Lib.hid hsw
  have HSZ := Lib.hid hsz
  clear hsw hsz
  refine wp_region_held (by kernel_rfl) (S := fun w' => w'.cell? ⟨pd, 0, none⟩ = some (.pointer (some ⟨g, 0, none⟩)) ∧ w'.cell? ⟨g, 1, none⟩ = some (.int .i64 (T.cap : Int)) ∧ w'.cell? ⟨bx, 0, none⟩ = some (.string ⟨nm.toArray⟩) ∧ w'.cell? ⟨bx, 1, none⟩ = some (.string ⟨v.toArray⟩) ∧ pd < w'.heap.size ∧ g < w'.heap.size ∧ bx < w'.heap.size) ?_
  change wpAnyH _ _ _ _ _ _ _ _ w4.drew
  refine wpAnyH_takeB (i := 0) (v := ?_) (d := some 165) rfl (by rfl) (by kernel_rfl) (fun _ _ _ h => h) (by rfl) hS0 (fun w hSw => ?_) ?_
  rotate_left
  · (try dsimp only at hSw); (try subst hSw); go_simp; first | done | (with_reducible rfl)
  simp only [Act.put, List.setIfInBounds_toArray, List.set_cons_zero, List.set_cons_succ]
  refine wpAnyH_takeB (i := 3) (v := ?_) (d := some 168) rfl (by rfl) (by kernel_rfl) (fun _ _ _ h => h) (by rfl) hS0 (fun w hSw => ?_) ?_
  rotate_left
  · (try dsimp only at hSw); (try subst hSw); go_simp; first | done | (with_reducible rfl)
  simp only [Act.put, List.setIfInBounds_toArray, List.set_cons_zero, List.set_cons_succ]
  refine wpAnyH_takeB (i := 4) (v := ?_) (d := some 169) rfl (by rfl) (by kernel_rfl) (fun _ _ _ h => h) (by rfl) hS0 (fun w hSw => ?_) ?_
  rotate_left
  · (try dsimp only at hSw); (try subst hSw); go_simp; first | done | (with_reducible rfl)
  simp only [Act.put, List.setIfInBounds_toArray, List.set_cons_zero, List.set_cons_succ]
  refine wpAnyH_takeB (i := 5) (v := ?_) (d := some 170) rfl (by rfl) (by kernel_rfl) (fun _ _ _ h => h) (by rfl) hS0 (fun w hSw => ?_) ?_
  rotate_left
  · (try dsimp only at hSw); (try subst hSw); go_simp; first | done | (with_reducible rfl)
  simp only [Act.put, List.setIfInBounds_toArray, List.set_cons_zero, List.set_cons_succ]
  refine wpAnyH_takeB (i := 6) (v := ?_) (d := some 171) rfl (by rfl) (by kernel_rfl) (fun _ _ _ h => h) (by rfl) hS0 (fun w hSw => ?_) ?_
  rotate_left
  · (try dsimp only at hSw); (try subst hSw); go_simp; first | done | (with_reducible rfl)
  simp only [Act.put, List.setIfInBounds_toArray, List.set_cons_zero, List.set_cons_succ]
  refine wpAnyH_takeB (i := 7) (v := ?_) (d := some 172) rfl (by rfl) (by kernel_rfl) (fun _ _ _ h => h) (by rfl) hS0 (fun w hSw => ?_) ?_
  rotate_left
  · (try dsimp only at hSw); (try subst hSw); go_simp; first | done | (with_reducible rfl)
  simp only [Act.put, List.setIfInBounds_toArray, List.set_cons_zero, List.set_cons_succ]
  refine wpAnyH_takeB (i := 8) (v := ?_) (d := some 173) rfl (by rfl) (by kernel_rfl) (fun _ _ _ h => h) (by rfl) hS0 (fun w hSw => ?_) ?_
  rotate_left
  · (try dsimp only at hSw); (try subst hSw); go_simp; first | done | (with_reducible rfl)
  simp only [Act.put, List.setIfInBounds_toArray, List.set_cons_zero, List.set_cons_succ]
  refine wpAnyH_takeB (i := 9) (v := ?_) (d := some 174) rfl (by rfl) (by kernel_rfl) (fun _ _ _ h => h) (by rfl) hS0 (fun w hSw => ?_) ?_
  rotate_left
  · (try dsimp only at hSw); (try subst hSw); go_simp; first | done | (with_reducible rfl)
  simp only [Act.put, List.setIfInBounds_toArray, List.set_cons_zero, List.set_cons_succ]
  have hF5 : Frm (New w4) w4 (w4.drew.alloc (.cells #[.string ⟨nm.toArray⟩, .string ⟨v.toArray⟩] 71)) := ((Frm.refl _ w4).drew).alloc Up.new _
  have hR5 : Rd (w4.drew.alloc (.cells #[.string ⟨nm.toArray⟩, .string ⟨v.toArray⟩] 71)) (some ⟨w4.drew.heap.size, 0, none⟩) (fvs [(nm, v)]) := Rd.new w4.drew #[.string ⟨nm.toArray⟩, .string ⟨v.toArray⟩] 71
  have hS5 := HSW.out _ hF5
  refine wpAnyH_oneB (i := 1) rfl (by kernel_rfl) (fun K hKK => ?_)
  refine Eq.mpr (if_pos (by rfl)) ?_
  go_simp
  refine hKK.out _ _ hS5 ?_
  clear hKK K hS0
  try simp only [Act.put, List.setIfInBounds_toArray, List.set_cons_zero, List.set_cons_succ]
  refine wpAnyH_oneB (i := 2) rfl (by kernel_rfl) (fun K hKK => ?_)
  refine Eq.mpr (if_pos (by rfl)) ?_
  go_wp2_with (fail)
  refine (HSZ.out _ _ hR5).mono ?_
  rintro e w6 ⟨rfl, m6, rfl⟩
  have hF6 := hF5.drewN m6
  have hS6 := HSW.out _ hF6
  generalize (w4.drew.alloc (.cells #[.string ⟨nm.toArray⟩, .string ⟨v.toArray⟩] 71)).drewN m6 = w6 at *
  refine hKK.out _ _ hS6 ?_
  clear hKK K hS5 hF5 hR5
  try simp only [Act.put, List.setIfInBounds_toArray, List.set_cons_zero, List.set_cons_succ]
  refine wpAnyH_oneB (i := 10) rfl (by kernel_rfl) (fun K hK => ?_)
  refine Eq.mpr (if_pos (by rfl)) ?_
  go_simp
  refine hK.out _ _ (hS6) ?_
  clear hK K
  try simp only [Act.put, List.setIfInBounds_toArray, List.set_cons_zero, List.set_cons_succ]
  refine wpAnyH_done (by kernel_rfl) ?_ _
  have hF06 := HF4.out.then_new Up.new hF6
  have hB6 := HB4.out.fresh hF6
  obtain ⟨hp0, hp1, hx0, hx1, hpl, hgl, hbl⟩ := hS6
  have hadd := radd_any (g := g) (nm, v) w6.drew (HT.out.fresh hF06.drew) HTN.out (by show fsize (nm, v) ≤ _; have := HFZ.out; omega) (by show T.cap ≤ _; omega)
  simp only [fld, str] at hadd
  have hsw6 : ∀ w', Frm (fun k => k = g ∨ New w6 k) w6 w' → w'.cell? ⟨pd, 0, none⟩ = some (.pointer (some ⟨g, 0, none⟩)) ∧ w'.cell? ⟨bx, 0, none⟩ = some (.string ⟨nm.toArray⟩) ∧ w'.cell? ⟨bx, 1, none⟩ = some (.string ⟨v.toArray⟩) ∧ pd < w'.heap.size ∧ bx < w'.heap.size := fun w' fr => by
    have hd := (H.out.fresh hF06).keep fr (fun e => by
      rcases e with e | e
      · exact HPG.out e
      · unfold New at e; omega)
    have hb := hB6.keep fr (fun e => by
      rcases e with e | e
      · have := (tab_cap HT.out).2.2; omega
      · unfold New at e; omega)
    exact ⟨hd.t, hb.cell 0, hb.cell 1, hd.lt, hb.lt⟩
  have hS7 := hsw6 w6.drew ((Frm.refl _ _).drew)
  clear HF4 HB4 hF6 HSW HSZ
  have HADD := Lib.hid hadd
  have HSW6 := Lib.hid hsw6
  have HF06 := Lib.hid hF06
  have HB6 := Lib.hid hB6
  clear hadd hsw6 hF06 hB6
  go_upto_region 41 with (fail)
  clear hp0 hp1 hx0 hx1 hpl hgl hbl
  refine wp_region_held (by kernel_rfl) (S := fun w' => w'.cell? ⟨pd, 0, none⟩ = some (.pointer (some ⟨g, 0, none⟩)) ∧ w'.cell? ⟨bx, 0, none⟩ = some (.string ⟨nm.toArray⟩) ∧ w'.cell? ⟨bx, 1, none⟩ = some (.string ⟨v.toArray⟩) ∧ pd < w'.heap.size ∧ bx < w'.heap.size) ?_
  change wpAnyH _ _ _ _ _ _ _ _ w6.drew
  refine wpAnyH_takeB (i := 0) (v := ?_) (d := some 176) rfl (by rfl) (by kernel_rfl) (fun _ _ _ h => h) (by rfl) hS7 (fun w hSw => ?_) ?_
  rotate_left
  · (try dsimp only at hSw); (try subst hSw); go_simp; first | done | (with_reducible rfl)
  simp only [Act.put, List.setIfInBounds_toArray, List.set_cons_zero, List.set_cons_succ]
  refine wpAnyH_takeB (i := 1) (v := ?_) (d := some 177) rfl (by rfl) (by kernel_rfl) (fun _ _ _ h => h) (by rfl) hS7 (fun w hSw => ?_) ?_
  rotate_left
  · (try dsimp only at hSw); (try subst hSw); go_simp; first | done | (with_reducible rfl)
  simp only [Act.put, List.setIfInBounds_toArray, List.set_cons_zero, List.set_cons_succ]
  refine wpAnyH_takeB (i := 2) (v := ?_) (d := some 178) rfl (by rfl) (by kernel_rfl) (fun _ _ _ h => h) (by rfl) hS7 (fun w hSw => ?_) ?_
  rotate_left
  · (try dsimp only at hSw); (try subst hSw); go_simp; first | done | (with_reducible rfl)
  simp only [Act.put, List.setIfInBounds_toArray, List.set_cons_zero, List.set_cons_succ]
  refine wpAnyH_takeB (i := 3) (v := ?_) (d := some 179) rfl (by rfl) (by kernel_rfl) (fun _ _ _ h => h) (by rfl) hS7 (fun w hSw => ?_) ?_
  rotate_left
  · (try dsimp only at hSw); (try subst hSw); go_simp; first | done | (with_reducible rfl)
  simp only [Act.put, List.setIfInBounds_toArray, List.set_cons_zero, List.set_cons_succ]
  refine wpAnyH_takeB (i := 4) (v := ?_) (d := some 180) rfl (by rfl) (by kernel_rfl) (fun _ _ _ h => h) (by rfl) hS7 (fun w hSw => ?_) ?_
  rotate_left
  · (try dsimp only at hSw); (try subst hSw); go_simp; first | done | (with_reducible rfl)
  simp only [Act.put, List.setIfInBounds_toArray, List.set_cons_zero, List.set_cons_succ]
  refine wpAnyH_oneB (i := 5) rfl (by kernel_rfl) (fun K hKK => ?_)
  refine Eq.mpr (if_pos (by rfl)) ?_
  go_wp2_with (fail)
  refine HADD.out.mono ?_
  rintro e w7 ⟨⟨m7, rfl⟩, S2, hT7, hF7, hS27⟩
  replace hF7 : Frm (fun k => k = g ∨ New w6 k) w6 w7 := Frm.trans ((Frm.refl _ w6).drew) hF7
  have hS8 := HSW6.out w7 hF7
  refine hKK.out _ _ hS8 ?_
  clear hKK K hS7
  try simp only [Act.put, List.setIfInBounds_toArray, List.set_cons_zero, List.set_cons_succ]
  refine wpAnyH_done (by kernel_rfl) ?_ _
  have HT7 := Lib.hid hT7
  have HF7 := Lib.hid hF7
  have HS27 := Lib.hid hS27
  have HS8 := Lib.hid hS8
  clear hT7 hF7 hS27 hS8
  go_wp2
  refine bodyPost_ret (results_tmp2 rfl _ _ _) rfl ?_
  refine ⟨rfl, S2, HT7.out, ?_, fun k hk => ?_⟩
  · exact (HF06.out.mono (fun k hk => .inr hk)).trans (HF7.out.mono (fun k hk => by
      rcases hk with hk | hk
      · exact .inl hk
      · exact .inr (Nat.le_trans HF06.out.size hk)))
  · rcases HS27.out k hk with e | e
    · exact .inl e
    · exact .inr (Nat.le_trans HF06.out.size e)
end Go.Proofs.Ytdgggjeiflllhaa.M
