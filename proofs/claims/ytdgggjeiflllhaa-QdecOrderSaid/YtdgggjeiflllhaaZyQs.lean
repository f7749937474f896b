/- Qs -/
import Derived.BigQuiet
import Derived.Deep.CutBlock
import Derived.Lib.Hide
import Derived.IntWalk
import Derived.StillTailTactics
import Derived.Test.YtdgggjeiflllhaaZyQr
import Derived.Test.YtdgggjeiflllhaaZyIn
import Derived.Test.YtdgggjeiflllhaaZyArr

namespace Go.Proofs.Ytdgggjeiflllhaa.M
open Go.ChangeShapes Go.WideShapes Go.ChangeAt Go.RowKit
theorem ReadR.bad {wr w' : World} {pr c k err : Nat} {r : Bytes} {A : Option Addr} {v : Value} {e : Ending} (he : err ≠ 0) (h1 : e = PQ (fixE err)) (h2 : Frm (fun j => j = pr ∨ New wr j) wr w') : ReadR wr pr r A c v k err e w' := by
  unfold ReadR
  rw [if_neg he]
  exact ⟨h1, h2⟩
set_option maxRecDepth 100000 in
set_option maxHeartbeats 4000000 in
theorem qstr5_any {wr : World} {pr c : Nat} {r : Bytes} {A : Option Addr} (h : RdAt wr pr r A c) :
    Calls Try.prog 107 #[.pointer (some ⟨pr, 0, none⟩), .int .i64 5] wr (ReadR wr pr r A c (str (strD r 5).1) (strD r 5).2.1 (strD r 5).2.2) := by
  have hnum := qnumber_any 5 h (by decide) (by decide)
  have hrg := rdp_range r 5 (by decide)
  have hmb : ∀ (x : Nat) (_ : x ≠ 0) (w' : World), Calls Try.prog 132 #[.int .i64 (x : Int)] w' fun e w2 => e = PQ (fixE x) ∧ w2 = w' := fun x hx w' => qmust_bad x hx w'
  have hat : ∀ w', Calls Try.prog 67 #[.bool true] w' fun e w2 => e = .returned (.tuple #[]) ∧ w2 = w' := fun w' => qask_true w'
  have haf : ∀ w', Calls Try.prog 67 #[.bool false] w' fun e w2 => e = PQ 26 ∧ w2 = w' := fun w' => qask_false w'
  have hD : Hid (strD r 5 = match rdp r 5 with
    | (n, at_, e) =>
      if e ≠ 0 then ([], 0, e) else if 4096 < n then ([], 0, 23) else if r.length - at_ < n then ([], 0, 20) else
      if (r.headD 0).toNat / 2 ^ 5 % 2 = 0 then ((r.drop at_).take n, at_ + n, 0) else
      match unhuf ((r.drop at_).take n) with
      | (s, e) => if e ≠ 0 then ([], 0, e) else (s, at_ + n, 0)) := rfl
  generalize strD r 5 = D at *
  obtain ⟨hy0, hyl⟩ := h.cell
  cases r with
  | nil =>
    have hD2 : D = ([], 0, 20) := hD.out
    subst hD2
    simp only [List.length_nil] at hy0
    have hmb2 := hmb 20 (by decide)
    clear hD hnum hrg h
    have HMB2 := Lib.hid hmb2
    clear hmb2
    go_enter Try.func107, Try.ntmps107
    go_wp2_with (fail)
    refine (HMB2.out _).mono ?_
    rintro e w4 ⟨rfl, hw4⟩
    rw [hw4]
    clear hw4 w4
    unfold PQ
    go_wp2
    exact ⟨rfl, .bad (by decide) rfl (Frm.refl _ _)⟩
  | cons b0 bt =>
    obtain ⟨gA, oA, rfl, hb0⟩ := h.rd.at_ (k := 0) (by simp [bvs])
    simp only [bvs, List.map_cons, List.getElem_cons_zero, bv, Nat.add_zero] at hb0
    have hgl := World.block_lt_of_cell? _ _ hb0
    simp only at hgl
    have hx := b0.toNat_lt
    have hrl := h.rl
    have hbit : bits .and .u8 ((b0.toNat : Int) / 32) 1 = ((b0.toNat / 32 % 2 : Nat) : Int) := by
      have := and_1_u8 b0.toNat 5 hx (by decide)
      simpa using this
    have hh0 : ((b0 :: bt).headD 0).toNat = b0.toNat := rfl
    rw [hh0] at hD
    have hl1 : 1 ≤ (b0 :: bt).length := by simp
    generalize b0 :: bt = r at *
    obtain ⟨bb, hbb⟩ : ∃ bb, bb = b0.toNat / 32 % 2 := ⟨_, rfl⟩
    have hbb2 : bb ≤ 1 := by omega
    have hbb3 : b0.toNat / 2 ^ 5 % 2 = bb := hbb.symm
    rw [← hbb] at hbit
    rw [hbb3] at hD
    generalize rdp r 5 = q at *
    obtain ⟨n, at_, e⟩ := q
    simp only at hnum hrg
    have hl1i : ¬ (r.length : Int) = 0 := by omega
    have hl1b : ((r.length : Int) == 0) = false := beq_eq_false_iff_ne.2 hl1i
    have hl1j : (0 : Int) < r.length := by omega
    clear hbb hh0
    have H := Lib.hid h
    have HNUM := Lib.hid hnum
    have HMB := Lib.hid hmb
    have HAT := Lib.hid hat
    have HAF := Lib.hid haf
    have HBB3 := Lib.hid hbb3
    clear h hnum hmb hat haf hbb3
    by_cases he : e = 0
    · subst he
      obtain ⟨g1, g2, g3⟩ := hrg rfl
      unfold ReadR at HNUM
      simp only [if_true] at HNUM
      have hD1 : D = if 4096 < n then ([], 0, 23) else if r.length - at_ < n then ([], 0, 20) else if bb = 0 then ((r.drop at_).take n, at_ + n, 0) else
          match unhuf ((r.drop at_).take n) with
          | (s, e) => if e ≠ 0 then ([], 0, e) else (s, at_ + n, 0) := by
        have := hD.out
        simpa using this
      clear hD hrg
      have HD1 := Lib.hid hD1
      clear hD1
      have hnr : ∀ w', Calls Try.prog 133 #[.slice none 0 0] w' fun e w2 => True := fun w' => (hdecode_any [] none 0 w' Rd.nil (Nat.zero_le _)).mono (fun _ _ _ => trivial)
      clear hnr
      go_enter Try.func107, Try.ntmps107
      go_upto_region 5 with (go_at_call 104; refine HNUM.out.mono ?_; rintro e4 w4 ⟨rfl, ⟨A4, hM4, hbk4⟩, hF4⟩)
      clear hy0 hyl hb0 hgl hbit HNUM
      have hrc4 := hM4.rc
      have hrl4 := hM4.rl
      by_cases h4 : 4096 < n
      · have h4i : ¬ (n : Int) ≤ 4096 := by omega
        have hD2 : D = ([], 0, 23) := by rw [HD1.out, if_pos h4]
        subst hD2
        clear hM4
        have HF4 := Lib.hid hF4
        clear hF4
        go_wp2_with (fail)
        refine (HAF.out _).mono ?_
        rintro e5 w5 ⟨rfl, hw5⟩
        rw [hw5]
        clear hw5 w5
        unfold PQ
        go_wp2
        exact ⟨rfl, .bad (by decide) rfl HF4.out⟩
      · have h4i : (n : Int) ≤ 4096 := by omega
        have hD2 : D = if r.length - at_ < n then ([], 0, 20) else if bb = 0 then ((r.drop at_).take n, at_ + n, 0) else
            match unhuf ((r.drop at_).take n) with
            | (s, e) => if e ≠ 0 then ([], 0, e) else (s, at_ + n, 0) := by rw [HD1.out, if_neg h4]
        obtain ⟨hc4, hl4⟩ := hM4.cell
        have hld : (r.drop at_).length = r.length - at_ := List.length_drop
        rw [hld] at hc4 hrc4 hrl4
        have hzz := hM4.blk.frozen 0
        clear HD1
        have HD2 := Lib.hid hD2
        clear hD2
        go_upto_region 6 with (go_at_call 67; refine (HAT.out _).mono ?_; rintro e5 w5 ⟨rfl, rfl⟩)
        obtain ⟨ml, hml⟩ : ∃ ml, ml = r.length - at_ := ⟨_, rfl⟩
        rw [← hml] at hc4 hrc4 hrl4 hld
        have hmw : IntKind.u64.wrap (ml : Int) = (ml : Int) := IntWalk.u64_in _ (by omega)
        by_cases hm : ml < n
        · have hmi : (ml : Int) < (n : Int) := by omega
          have hD3 : D = ([], 0, 20) := by rw [HD2.out, ← hml, if_pos hm]
          subst hD3
          have hmb2 := HMB.out 20 (by decide)
          clear hM4 hml HD2
          have HF4 := Lib.hid hF4
          have HMB2 := Lib.hid hmb2
          clear hF4 hmb2
          go_wp2_with (fail)
          refine (HMB2.out _).mono ?_
          rintro e5 w6 ⟨rfl, hw5⟩
          rw [hw5]
          clear hw5 w6
          unfold PQ
          go_wp2
          exact ⟨rfl, .bad (by decide) rfl HF4.out⟩
        · have hmi : ¬ (ml : Int) < (n : Int) := by omega
          have hD3 : D = if bb = 0 then ((r.drop at_).take n, at_ + n, 0) else
              match unhuf ((r.drop at_).take n) with
              | (s, e) => if e ≠ 0 then ([], 0, e) else (s, at_ + n, 0) := by rw [HD2.out, ← hml, if_neg hm]
          obtain ⟨A5, hA5, hbk5, hM5⟩ := hM4.cut n (by rw [hld]; omega)
          rw [hld] at hM5
          have hRt : Rd w5 A4 (bvs ((r.drop at_).take n)) := by
            have := hM4.rd.take n
            rw [show (bvs (r.drop at_)).take n = bvs ((r.drop at_).take n) by simp [bvs, List.map_take]] at this
            exact this
          have htl : ((r.drop at_).take n).length = n := by rw [List.length_take, hld]; omega
          have hnc : n ≤ c - at_ := by omega
          have hnl : n ≤ ml := by omega
          have hFs : Frm (fun j => j = pr ∨ New wr j) wr (w5.setCell ⟨pr, 0, none⟩ (.slice A5 (ml - n) (c - at_ - n))) := hF4.setCell (p := ⟨pr, 0, none⟩) (.inl rfl) _
          have hR5 : Rd (w5.setCell ⟨pr, 0, none⟩ (.slice A5 (ml - n) (c - at_ - n))) A4 (bvs ((r.drop at_).take n)) := hRt.keep ((Frm.refl (fun j => j = pr) w5).setCell (p := ⟨pr, 0, none⟩) rfl _) (fun j hj e => hM4.far j hj e)
          have hdd : (r.drop at_).drop n = r.drop (at_ + n) := by rw [List.drop_drop]
          rw [hdd] at hM5
          have hcc : c - at_ - n = c - (at_ + n) := by omega
          clear hM4 hRt hml HD2 hF4
          generalize (r.drop at_).take n = sb at *
          have HA5 := Lib.hid hA5
          have HBK5 := Lib.hid hbk5
          have HM5 := Lib.hid hM5
          have HFS := Lib.hid hFs
          have HR5 := Lib.hid hR5
          have HTL := Lib.hid htl
          have HD3 := Lib.hid hD3
          have HDD := Lib.hid hdd
          have HCC := Lib.hid hcc
          have HLD := Lib.hid hld
          have HBK4 := Lib.hid hbk4
          clear hA5 hbk5 hM5 hFs hR5 htl hD3 hdd hcc hld hbk4
          go_upto_region 10 with (fail)
          rw [HA5.out]
          clear hc4 hzz
          generalize w5.setCell ⟨pr, 0, none⟩ (.slice A5 (ml - n) (c - at_ - n)) = w6 at *
          by_cases hz : bb = 0
          · have hD4 : D = (sb, at_ + n, 0) := by rw [HD3.out, if_pos hz]
            subst hD4 hz
            have hcv := run_conv (l := sb) (c := c - at_) HR5.out
            rw [HTL.out] at hcv
            simp only [str] at hcv
            go_wp2_with (fail)
            go_ret
            unfold ReadR
            rw [if_pos rfl]
            exact ⟨rfl, ⟨A5, by rw [← HCC.out]; exact HM5.out, by rw [← HCC.out]; exact HBK5.out.trans HBK4.out⟩, HFS.out⟩
          · have hb1 : bb = 1 := by omega
            have hdc := hdecode_any sb A4 (c - at_) w6 HR5.out (by rw [HTL.out]; omega)
            rw [HTL.out] at hdc
            have hD4 : D = match unhuf sb with | (s, e) => if e ≠ 0 then ([], 0, e) else (s, at_ + n, 0) := by rw [HD3.out, if_neg hz]
            clear HD3
            generalize unhuf sb = us at *
            obtain ⟨s2, e2⟩ := us
            simp only [str] at hdc hD4
            subst hb1
            clear hz
            by_cases he2 : e2 = 0
            · have hD5 : D = (s2, at_ + n, 0) := by rw [hD4, if_neg (by simp [he2])]
              subst hD5 he2
              rw [show ((0 : Nat) : Int) = 0 from rfl] at hdc
              clear hD4
              have HDC := Lib.hid hdc
              clear hdc
              go_wp2_with (fail)
              refine HDC.out.mono ?_
              rintro e7 w7 ⟨rfl, hF7⟩
              go_wp2_with (fail)
              refine (qmust_ok _).mono ?_
              rintro e8 w8 ⟨rfl, hw8⟩
              rw [hw8]
              clear hw8 w8
              have hM7 := HM5.out.fresh hF7
              have hF07 := HFS.out.trans (hF7.mono (fun k hk => .inr (Nat.le_trans HFS.out.size hk)))
              have HM7 := Lib.hid hM7
              have HF07 := Lib.hid hF07
              clear hM7 hF07
              go_wp2_with (fail)
              go_ret
              unfold ReadR
              rw [if_pos rfl]
              exact ⟨rfl, ⟨A5, by rw [← HCC.out]; exact HM7.out, by rw [← HCC.out]; exact HBK5.out.trans HBK4.out⟩, HF07.out⟩
            · have hD5 : D = ([], 0, e2) := by rw [hD4, if_pos he2]
              subst hD5
              clear hD4
              have HDC := Lib.hid hdc
              clear hdc
              go_wp2_with (fail)
              refine HDC.out.mono ?_
              rintro e7 w7 ⟨rfl, hF7⟩
              go_wp2_with (fail)
              refine (qmust_bad e2 he2 _).mono ?_
              rintro e8 w8 ⟨rfl, hw8⟩
              rw [hw8]
              clear hw8 w8
              unfold PQ
              go_wp2
              exact ⟨rfl, .bad he2 rfl (HFS.out.trans (hF7.mono (fun k hk => .inr (Nat.le_trans HFS.out.size hk))))⟩
    · have hD2 : D = ([], 0, e) := by
        have := hD.out
        simp only [ne_eq, he, not_false_eq_true, if_true] at this
        exact this
      subst hD2
      unfold ReadR at HNUM
      simp only [if_neg he] at HNUM
      clear hD hrg
      go_enter Try.func107, Try.ntmps107
      go_wp2_with (fail)
      refine HNUM.out.mono ?_
      rintro e4 w4 ⟨rfl, hF4⟩
      unfold PQ
      go_wp2
      exact ⟨rfl, .bad he rfl hF4⟩
set_option maxRecDepth 100000 in
set_option maxHeartbeats 4000000 in
theorem qstr3_any {wr : World} {pr c : Nat} {r : Bytes} {A : Option Addr} (h : RdAt wr pr r A c) :
    Calls Try.prog 107 #[.pointer (some ⟨pr, 0, none⟩), .int .i64 3] wr (ReadR wr pr r A c (str (strD r 3).1) (strD r 3).2.1 (strD r 3).2.2) := by
  have hnum := qnumber_any 3 h (by decide) (by decide)
  have hrg := rdp_range r 3 (by decide)
  have hmb : ∀ (x : Nat) (_ : x ≠ 0) (w' : World), Calls Try.prog 132 #[.int .i64 (x : Int)] w' fun e w2 => e = PQ (fixE x) ∧ w2 = w' := fun x hx w' => qmust_bad x hx w'
  have hat : ∀ w', Calls Try.prog 67 #[.bool true] w' fun e w2 => e = .returned (.tuple #[]) ∧ w2 = w' := fun w' => qask_true w'
  have haf : ∀ w', Calls Try.prog 67 #[.bool false] w' fun e w2 => e = PQ 26 ∧ w2 = w' := fun w' => qask_false w'
  have hD : Hid (strD r 3 = match rdp r 3 with
    | (n, at_, e) =>
      if e ≠ 0 then ([], 0, e) else if 4096 < n then ([], 0, 23) else if r.length - at_ < n then ([], 0, 20) else
      if (r.headD 0).toNat / 2 ^ 3 % 2 = 0 then ((r.drop at_).take n, at_ + n, 0) else
      match unhuf ((r.drop at_).take n) with
      | (s, e) => if e ≠ 0 then ([], 0, e) else (s, at_ + n, 0)) := rfl
  generalize strD r 3 = D at *
  obtain ⟨hy0, hyl⟩ := h.cell
  cases r with
  | nil =>
    have hD2 : D = ([], 0, 20) := hD.out
    subst hD2
    simp only [List.length_nil] at hy0
    have hmb2 := hmb 20 (by decide)
    clear hD hnum hrg h
    have HMB2 := Lib.hid hmb2
    clear hmb2
    go_enter Try.func107, Try.ntmps107
    go_wp2_with (fail)
    refine (HMB2.out _).mono ?_
    rintro e w4 ⟨rfl, hw4⟩
    rw [hw4]
    clear hw4 w4
    unfold PQ
    go_wp2
    exact ⟨rfl, .bad (by decide) rfl (Frm.refl _ _)⟩
  | cons b0 bt =>
    obtain ⟨gA, oA, rfl, hb0⟩ := h.rd.at_ (k := 0) (by simp [bvs])
    simp only [bvs, List.map_cons, List.getElem_cons_zero, bv, Nat.add_zero] at hb0
    have hgl := World.block_lt_of_cell? _ _ hb0
    simp only at hgl
    have hx := b0.toNat_lt
    have hrl := h.rl
    have hbit : bits .and .u8 ((b0.toNat : Int) / 8) 1 = ((b0.toNat / 8 % 2 : Nat) : Int) := by
      have := and_1_u8 b0.toNat 3 hx (by decide)
      simpa using this
    have hh0 : ((b0 :: bt).headD 0).toNat = b0.toNat := rfl
    rw [hh0] at hD
    have hl1 : 1 ≤ (b0 :: bt).length := by simp
    generalize b0 :: bt = r at *
    obtain ⟨bb, hbb⟩ : ∃ bb, bb = b0.toNat / 8 % 2 := ⟨_, rfl⟩
    have hbb2 : bb ≤ 1 := by omega
    have hbb3 : b0.toNat / 2 ^ 3 % 2 = bb := hbb.symm
    rw [← hbb] at hbit
    rw [hbb3] at hD
    generalize rdp r 3 = q at *
    obtain ⟨n, at_, e⟩ := q
    simp only at hnum hrg
    have hl1i : ¬ (r.length : Int) = 0 := by omega
    have hl1b : ((r.length : Int) == 0) = false := beq_eq_false_iff_ne.2 hl1i
    have hl1j : (0 : Int) < r.length := by omega
    clear hbb hh0
    have H := Lib.hid h
    have HNUM := Lib.hid hnum
    have HMB := Lib.hid hmb
    have HAT := Lib.hid hat
    have HAF := Lib.hid haf
    have HBB3 := Lib.hid hbb3
    clear h hnum hmb hat haf hbb3
    by_cases he : e = 0
    · subst he
      obtain ⟨g1, g2, g3⟩ := hrg rfl
      unfold ReadR at HNUM
      simp only [if_true] at HNUM
      have hD1 : D = if 4096 < n then ([], 0, 23) else if r.length - at_ < n then ([], 0, 20) else if bb = 0 then ((r.drop at_).take n, at_ + n, 0) else
          match unhuf ((r.drop at_).take n) with
          | (s, e) => if e ≠ 0 then ([], 0, e) else (s, at_ + n, 0) := by
        have := hD.out
        simpa using this
      clear hD hrg
      have HD1 := Lib.hid hD1
      clear hD1
      have hnr : ∀ w', Calls Try.prog 133 #[.slice none 0 0] w' fun e w2 => True := fun w' => (hdecode_any [] none 0 w' Rd.nil (Nat.zero_le _)).mono (fun _ _ _ => trivial)
      clear hnr
      go_enter Try.func107, Try.ntmps107
      go_upto_region 5 with (go_at_call 104; refine HNUM.out.mono ?_; rintro e4 w4 ⟨rfl, ⟨A4, hM4, hbk4⟩, hF4⟩)
      clear hy0 hyl hb0 hgl hbit HNUM
      have hrc4 := hM4.rc
      have hrl4 := hM4.rl
      by_cases h4 : 4096 < n
      · have h4i : ¬ (n : Int) ≤ 4096 := by omega
        have hD2 : D = ([], 0, 23) := by rw [HD1.out, if_pos h4]
        subst hD2
        clear hM4
        have HF4 := Lib.hid hF4
        clear hF4
        go_wp2_with (fail)
        refine (HAF.out _).mono ?_
        rintro e5 w5 ⟨rfl, hw5⟩
        rw [hw5]
        clear hw5 w5
        unfold PQ
        go_wp2
        exact ⟨rfl, .bad (by decide) rfl HF4.out⟩
      · have h4i : (n : Int) ≤ 4096 := by omega
        have hD2 : D = if r.length - at_ < n then ([], 0, 20) else if bb = 0 then ((r.drop at_).take n, at_ + n, 0) else
            match unhuf ((r.drop at_).take n) with
            | (s, e) => if e ≠ 0 then ([], 0, e) else (s, at_ + n, 0) := by rw [HD1.out, if_neg h4]
        obtain ⟨hc4, hl4⟩ := hM4.cell
        have hld : (r.drop at_).length = r.length - at_ := List.length_drop
        rw [hld] at hc4 hrc4 hrl4
        have hzz := hM4.blk.frozen 0
        clear HD1
        have HD2 := Lib.hid hD2
        clear hD2
        go_upto_region 6 with (go_at_call 67; refine (HAT.out _).mono ?_; rintro e5 w5 ⟨rfl, rfl⟩)
        obtain ⟨ml, hml⟩ : ∃ ml, ml = r.length - at_ := ⟨_, rfl⟩
        rw [← hml] at hc4 hrc4 hrl4 hld
        have hmw : IntKind.u64.wrap (ml : Int) = (ml : Int) := IntWalk.u64_in _ (by omega)
        by_cases hm : ml < n
        · have hmi : (ml : Int) < (n : Int) := by omega
          have hD3 : D = ([], 0, 20) := by rw [HD2.out, ← hml, if_pos hm]
          subst hD3
          have hmb2 := HMB.out 20 (by decide)
          clear hM4 hml HD2
          have HF4 := Lib.hid hF4
          have HMB2 := Lib.hid hmb2
          clear hF4 hmb2
          go_wp2_with (fail)
          refine (HMB2.out _).mono ?_
          rintro e5 w6 ⟨rfl, hw5⟩
          rw [hw5]
          clear hw5 w6
          unfold PQ
          go_wp2
          exact ⟨rfl, .bad (by decide) rfl HF4.out⟩
        · have hmi : ¬ (ml : Int) < (n : Int) := by omega
          have hD3 : D = if bb = 0 then ((r.drop at_).take n, at_ + n, 0) else
              match unhuf ((r.drop at_).take n) with
              | (s, e) => if e ≠ 0 then ([], 0, e) else (s, at_ + n, 0) := by rw [HD2.out, ← hml, if_neg hm]
          obtain ⟨A5, hA5, hbk5, hM5⟩ := hM4.cut n (by rw [hld]; omega)
          rw [hld] at hM5
          have hRt : Rd w5 A4 (bvs ((r.drop at_).take n)) := by
            have := hM4.rd.take n
            rw [show (bvs (r.drop at_)).take n = bvs ((r.drop at_).take n) by simp [bvs, List.map_take]] at this
            exact this
          have htl : ((r.drop at_).take n).length = n := by rw [List.length_take, hld]; omega
          have hnc : n ≤ c - at_ := by omega
          have hnl : n ≤ ml := by omega
          have hFs : Frm (fun j => j = pr ∨ New wr j) wr (w5.setCell ⟨pr, 0, none⟩ (.slice A5 (ml - n) (c - at_ - n))) := hF4.setCell (p := ⟨pr, 0, none⟩) (.inl rfl) _
          have hR5 : Rd (w5.setCell ⟨pr, 0, none⟩ (.slice A5 (ml - n) (c - at_ - n))) A4 (bvs ((r.drop at_).take n)) := hRt.keep ((Frm.refl (fun j => j = pr) w5).setCell (p := ⟨pr, 0, none⟩) rfl _) (fun j hj e => hM4.far j hj e)
          have hdd : (r.drop at_).drop n = r.drop (at_ + n) := by rw [List.drop_drop]
          rw [hdd] at hM5
          have hcc : c - at_ - n = c - (at_ + n) := by omega
          clear hM4 hRt hml HD2 hF4
          generalize (r.drop at_).take n = sb at *
          have HA5 := Lib.hid hA5
          have HBK5 := Lib.hid hbk5
          have HM5 := Lib.hid hM5
          have HFS := Lib.hid hFs
          have HR5 := Lib.hid hR5
          have HTL := Lib.hid htl
          have HD3 := Lib.hid hD3
          have HDD := Lib.hid hdd
          have HCC := Lib.hid hcc
          have HLD := Lib.hid hld
          have HBK4 := Lib.hid hbk4
          clear hA5 hbk5 hM5 hFs hR5 htl hD3 hdd hcc hld hbk4
          go_upto_region 10 with (fail)
          rw [HA5.out]
          clear hc4 hzz
          generalize w5.setCell ⟨pr, 0, none⟩ (.slice A5 (ml - n) (c - at_ - n)) = w6 at *
          by_cases hz : bb = 0
          · have hD4 : D = (sb, at_ + n, 0) := by rw [HD3.out, if_pos hz]
            subst hD4 hz
            have hcv := run_conv (l := sb) (c := c - at_) HR5.out
            rw [HTL.out] at hcv
            simp only [str] at hcv
            go_wp2_with (fail)
            go_ret
            unfold ReadR
            rw [if_pos rfl]
            exact ⟨rfl, ⟨A5, by rw [← HCC.out]; exact HM5.out, by rw [← HCC.out]; exact HBK5.out.trans HBK4.out⟩, HFS.out⟩
          · have hb1 : bb = 1 := by omega
            have hdc := hdecode_any sb A4 (c - at_) w6 HR5.out (by rw [HTL.out]; omega)
            rw [HTL.out] at hdc
            have hD4 : D = match unhuf sb with | (s, e) => if e ≠ 0 then ([], 0, e) else (s, at_ + n, 0) := by rw [HD3.out, if_neg hz]
            clear HD3
            generalize unhuf sb = us at *
            obtain ⟨s2, e2⟩ := us
            simp only [str] at hdc hD4
            subst hb1
            clear hz
            by_cases he2 : e2 = 0
            · have hD5 : D = (s2, at_ + n, 0) := by rw [hD4, if_neg (by simp [he2])]
              subst hD5 he2
              rw [show ((0 : Nat) : Int) = 0 from rfl] at hdc
              clear hD4
              have HDC := Lib.hid hdc
              clear hdc
              go_wp2_with (fail)
              refine HDC.out.mono ?_
              rintro e7 w7 ⟨rfl, hF7⟩
              go_wp2_with (fail)
              refine (qmust_ok _).mono ?_
              rintro e8 w8 ⟨rfl, hw8⟩
              rw [hw8]
              clear hw8 w8
              have hM7 := HM5.out.fresh hF7
              have hF07 := HFS.out.trans (hF7.mono (fun k hk => .inr (Nat.le_trans HFS.out.size hk)))
              have HM7 := Lib.hid hM7
              have HF07 := Lib.hid hF07
              clear hM7 hF07
              go_wp2_with (fail)
              go_ret
              unfold ReadR
              rw [if_pos rfl]
              exact ⟨rfl, ⟨A5, by rw [← HCC.out]; exact HM7.out, by rw [← HCC.out]; exact HBK5.out.trans HBK4.out⟩, HF07.out⟩
            · have hD5 : D = ([], 0, e2) := by rw [hD4, if_pos he2]
              subst hD5
              clear hD4
              have HDC := Lib.hid hdc
              clear hdc
              go_wp2_with (fail)
              refine HDC.out.mono ?_
              rintro e7 w7 ⟨rfl, hF7⟩
              go_wp2_with (fail)
              refine (qmust_bad e2 he2 _).mono ?_
              rintro e8 w8 ⟨rfl, hw8⟩
              rw [hw8]
              clear hw8 w8
              unfold PQ
              go_wp2
              exact ⟨rfl, .bad he2 rfl (HFS.out.trans (hF7.mono (fun k hk => .inr (Nat.le_trans HFS.out.size hk))))⟩
    · have hD2 : D = ([], 0, e) := by
        have := hD.out
        simp only [ne_eq, he, not_false_eq_true, if_true] at this
        exact this
      subst hD2
      unfold ReadR at HNUM
      simp only [if_neg he] at HNUM
      clear hD hrg
      go_enter Try.func107, Try.ntmps107
      go_wp2_with (fail)
      refine HNUM.out.mono ?_
      rintro e4 w4 ⟨rfl, hF4⟩
      unfold PQ
      go_wp2
      exact ⟨rfl, .bad he rfl hF4⟩
end Go.Proofs.Ytdgggjeiflllhaa.M

