/- bifoldlaw24.ReasmFinals: for every input it tells true. No condition. -/
import Derived.BigQuiet
import Derived.Deep.CutBlock
import Derived.Lib.Hide
import Derived.IntWalk
import Derived.Test.YtljleaomlooiaaaRbo
namespace Go.Proofs.Ytljleaomlooiaaa.M
open Go.ChangeShapes Go.WideShapes Go.ChangeAt Go.RowKit

theorem stp_nil {off : Nat} (h : off < 18446744073709551616) : stp off [] = off := by
  unfold stp
  exact Nat.mod_eq_of_lt (by simpa using h)
theorem adds_nil {B : Bf} {off : Nat} {f : Bool} (h : off < 18446744073709551616) : B.adds off [] f = B.chk off true f := by
  unfold Bf.adds
  rw [stp_nil h, decide_eq_true (Nat.le_refl off)]
theorem chk_a {B : Bf} {b : Nat} (h1 : B.known = false) (h2 : b ≤ B.win) : B.chk b true true = if b < B.top then 42 else 0 := by
  unfold Bf.chk
  rw [if_neg (by simp; omega), if_neg (by simp [h1])]
  simp
theorem chk_b {B : Bf} {b c : Nat} (h1 : B.known = true) (h2 : c ≤ B.win) (h3 : B.fin = b) (h4 : B.top = b) : B.chk c true true = if c ≠ b then 42 else 0 := by
  unfold Bf.chk
  rw [if_neg (by simp; omega), h1, h3, h4]
  by_cases hc : c = b
  · subst hc; simp
  · simp [hc]
theorem chk_c {B : Bf} {b c : Nat} (h1 : B.known = true) (h2 : c ≤ B.win) (h3 : B.fin = b) : B.chk c true false = if b < c then 42 else 0 := by
  unfold Bf.chk
  rw [if_neg (by simp; omega), h1, h3]
  simp
theorem AddTo.nil {B B' : Bf} {off : Nat} {f : Bool} (h : B.AddTo off [] f B') (ho : B.Ok) : hl B'.l ≤ hl B.l ∧ B'.win = B.win ∧ B'.reset = B.reset ∧ (f = false → B'.top = B.top ∧ B'.known = B.known ∧ B'.fin = B.fin) ∧ (f = true → B.adds off [] f = 0 → B.over = false → B'.top = max B.top off ∧ B'.known = true ∧ B'.fin = off) := by
  obtain ⟨h1, h2, h3, h4, _⟩ := AddTo.keeps h ho
  refine ⟨by simpa using h4, h1, h2, fun hf => ⟨?_, (h3 hf).1, (h3 hf).2⟩, fun hf ha hov => ?_⟩
  · unfold Bf.AddTo at h
    split at h
    · obtain ⟨l', _, _, rfl⟩ := h
      simp [hf]
    · rw [h]
  · obtain ⟨l', _, _, rfl⟩ := AddTo.yes h ha hov
    subst hf
    simp
/-- behind the first of the two -/
structure FinA (E : Nat → Prop) (w3 w : World) (p b : Nat) (rs : Bool) (B : Bf) : Prop where
  st : BSt E w p B
  frm : Frm (fun k => ¬ E k) w3 w
  top : B.top = b
  fin : B.fin = b
  known : B.known = true
  win : B.win = 1000
  rs : B.reset = rs
  hl_ : hl B.l ≤ 1000
/-- behind the second -/
structure FinB (E : Nat → Prop) (w3 w : World) (p b : Nat) (rs : Bool) (B : Bf) : Prop where
  st : BSt E w p B
  frm : Frm (fun k => ¬ E k) w3 w
  top : B.top = b
  rs : rs = true → B.reset = true
  hl_ : hl B.l ≤ 1000

set_option maxRecDepth 100000 in
set_option maxHeartbeats 4000000 in
theorem finals_walk (ia ib ic : Int) (rs ag : Bool) (W : World) (w0 : (Lit.int .u8 ia).wf = true) (w1 : (Lit.int .u8 ib).wf = true) (w2 : (Lit.int .u8 ic).wf = true) :
    Calls Try.prog 5 #[.int .u8 ia, .int .u8 ib, .int .u8 ic, .bool rs, .bool ag] W fun e w' => e = .returned (.bool true) ∧ Below W.heap.size W w' := by
  obtain ⟨a0, a1⟩ := bounds_u8 w0
  obtain ⟨b0, b1⟩ := bounds_u8 w1
  obtain ⟨c0, c1⟩ := bounds_u8 w2
  obtain ⟨a, rfl⟩ := Int.eq_ofNat_of_zero_le a0
  obtain ⟨b, rfl⟩ := Int.eq_ofNat_of_zero_le b0
  obtain ⟨c, rfl⟩ := Int.eq_ofNat_of_zero_le c0
  clear w0 w1 w2 a0 b0 c0
  obtain ⟨ui, hui, huz, hus, hub⟩ := u8_info
  have HUS := Lib.hid hus
  have HUB := Lib.hid hub
  clear hus hub
  go_enter Try.func5, Try.ntmps5
  go_wp2_with (fail)
  refine (known_any _).mono ?_
  rintro e w1 ⟨rfl, hF1⟩
  have hnew := bnew_any (fun k => k < W.heap.size) 1000 w1 (fun k hk => Nat.lt_of_lt_of_le hk hF1.size)
  rw [show min 1000 4611686018427387903 = 1000 by omega] at hnew
  have HF1 := Lib.hid hF1
  have HNEW := Lib.hid hnew
  clear hF1 hnew
  go_wp2_with (fail)
  refine HNEW.out.mono ?_
  rintro e w2 ⟨rfl, hB2, hF2⟩
  have hF02 := HF1.out.then_new Up.new hF2
  clear hF2 HNEW HF1
  generalize w1.heap.size = p at *
  have HC : Hid (madeCells (Value.int .u8 0).cells (a * ui.size) = (bvs (List.replicate a 0)).toArray) := by show _ = _; rw [HUS.out, made_u8]
  have HB2 := Lib.hid hB2
  have HF02 := Lib.hid hF02
  clear hB2 hF02
  go_wp2_with (refine wpList_make rfl Try.underlying22 hui huz rfl (m := a) rfl rfl (by rw [HUB.out]; omega) (by unfold maxLen; omega) ?_; intro w3 hb3 hF3 hs3; clear hs3; rw [HC.out] at hb3)
  have hF03 := HF02.out.then_new Up.new hF3
  have hRb : Rd w3 (some ⟨w2.heap.size, 0, none⟩) (bvs (List.replicate a 0)) := by simpa using hb3.rd
  have hbE : ∃ E : Nat → Prop, E w2.heap.size ∧ (∀ k, k < W.heap.size → E k) ∧ BSt E w3 p ⟨[], 0, 0, 1000, 0, false, false⟩ := ⟨_, .inr ⟨Nat.le_refl _, hb3.lt⟩, fun k hk => .inl hk, HB2.out.more hF3⟩
  obtain ⟨E, hE, hEW, hB3⟩ := hbE
  have hbl : (List.replicate a (0 : UInt8)).length = a := List.length_replicate
  obtain ⟨bs, hbs⟩ : ∃ bs : Bytes, bs = List.replicate a 0 := ⟨_, rfl⟩
  rw [← hbs] at hRb hbl
  have hadd := badd_any 0 bs false (cb := a) hB3 hRb (fun k hk => by simp only [blk_some, Option.some.injEq] at hk; rw [← hk]; exact hE) (by omega) (fun e => by cases e) (by rw [hbl]; simp only [hl]; omega) (by omega)
  have hao : Bf.adds ⟨[], 0, 0, 1000, 0, false, false⟩ 0 bs false = 0 := by rw [adds_open rfl (by omega), hbl, if_neg (by show ¬ 1000 < 0 + a; omega)]
  rw [hbl, hao] at hadd
  have hokB := hB3.ok
  have HW : Hid (∀ w', Frm (fun k => ¬ E k) w3 w' → Below W.heap.size W w') := fun w' hF => (hF03.trans (hF.mono (fun k hk => Nat.le_of_not_lt (fun c => hk (hEW k c))))).below
  have HADD := Lib.hid hadd
  have HOKB := Lib.hid hokB
  have HBL := Lib.hid hbl
  have HAO := Lib.hid hao
  clear hadd hokB hbl hao
  clear hF3 hb3 hRb hB3 HB2 HF02 hbs HC hF03 hEW hE
  go_wp2_with (fail)
  refine HADD.out.mono ?_
  rintro e w4 ⟨rfl, B4, hB4, hA4, hF4⟩
  obtain ⟨l', hp, _, hB4e⟩ := AddTo.yes (B := ⟨[], 0, 0, 1000, 0, false, false⟩) (off := 0) (b := bs) (f := false) hA4 HAO.out rfl
  have hk := AddTo.keeps (B := ⟨[], 0, 0, 1000, 0, false, false⟩) (off := 0) (b := bs) (f := false) hA4 HOKB.out
  have htop : B4.top = a := by
    rw [hB4e, ← HBL.out]
    simp only
    split
    · rename_i h; rw [h.1]; rfl
    · omega
  have hwin : B4.win = 1000 := hk.1
  have hkn : B4.known = false := by rw [hB4e]; rfl
  have hrs : B4.reset = false := hk.2.1
  have hh : hl B4.l ≤ 1000 := by have := hk.2.2.2.1; have := HBL.out; simp only [hl] at *; omega
  have hov : B4.over = false := by unfold Bf.over; rw [hrs, hkn]; rfl
  clear hk hp hB4e hA4 HADD HOKB HAO HBL
  have hck := chk_a (B := B4) (b := b) hkn (by omega)
  rw [htop] at hck
  have HTOP := Lib.hid htop
  have HWIN := Lib.hid hwin
  have HKN := Lib.hid hkn
  have HRS := Lib.hid hrs
  have HOV := Lib.hid hov
  clear htop hwin hkn hrs hov
  have HCK := Lib.hid hck
  clear hck
  have hF34 := Lib.hid hF4
  clear hF4
  go_upto_if 23 with (fail)
  go_cut [12] from 23 (fun v12 w5 => ∃ (w6 : World) (B6 : Bf) (r : Nat), w5 = w6 ∧ v12 = .int .i64 r ∧ Hid (r = if b < a then 42 else 0) ∧ Hid (b < a → BSt E w6 p B6 ∧ Frm (fun k => ¬ E k) w3 w6 ∧ B6.top = a ∧ B6.over = false) ∧ Hid (¬ b < a → FinA E w3 w6 p b rs B6))
  case first =>
    cases rs with
    | true =>
      have hc := breset_any b hB4
      rw [HCK.out] at hc
      obtain ⟨r, hr⟩ : ∃ r, r = if b < a then 42 else 0 := ⟨_, rfl⟩
      rw [← hr] at hc
      have HC := Lib.hid hc
      have HR := Lib.hid hr
      clear hc hr
      clear hB4
      go_wp2_with (go_at_call 15; refine HC.out.mono ?_; rintro e w5 ⟨rfl, hB5, hF5⟩)
      have hF35 := hF34.out.trans hF5
      go_meet
      refine ⟨w5, B4.reset' b, r, rfl, rfl, HR, fun hba => ?_, fun hba => ?_⟩
      · have he : B4.reset' b = B4 := by
          unfold Bf.reset'
          rw [if_neg (by rw [HCK.out, if_pos hba]; decide)]
        rw [he] at hB5 ⊢
        exact ⟨hB5, hF35, HTOP.out, HOV.out⟩
      · have he : B4.reset' b = { B4 with l := [], fin := b, known := true, reset := true, top := max B4.top b } := by
          unfold Bf.reset'
          rw [if_pos (by rw [HCK.out, if_neg hba])]
        rw [he] at hB5 ⊢
        exact ⟨hB5, hF35, by have := HTOP.out; simp only; omega, rfl, rfl, HWIN.out, rfl, by simp [hl]⟩
    | false =>
      have hc := badd_any b [] true (Ab := none) (cb := 0) hB4 Rd.nil (fun k hk => by cases hk) (Nat.le_refl _) (fun _ => rfl) (by simp only [List.length_nil]; omega) (by omega)
      have had : B4.adds b [] true = if b < a then 42 else 0 := by rw [adds_nil (by omega), HCK.out]
      have hok4 := hB4.ok
      obtain ⟨r, hr⟩ : ∃ r, r = if b < a then 42 else 0 := ⟨_, rfl⟩
      rw [had, ← hr] at hc
      have HC := Lib.hid hc
      have HR := Lib.hid hr
      have HAD := Lib.hid had
      have HOK4 := Lib.hid hok4
      clear hc hr had hok4
      clear hB4
      go_wp2_with (go_at_call 9; refine HC.out.mono ?_; rintro e w5 ⟨rfl, B5, hB5, hA5, hF5⟩)
      have hF35 := hF34.out.trans hF5
      go_meet
      refine ⟨w5, B5, r, rfl, rfl, HR, fun hba => ?_, fun hba => ?_⟩
      · have he : B5 = B4 := AddTo.no hA5 (fun q => by have := q.1; rw [HAD.out, if_pos hba] at this; cases this)
        rw [he] at hB5 ⊢
        exact ⟨hB5, hF35, HTOP.out, HOV.out⟩
      · have ha0 : B4.adds b [] true = 0 := by rw [HAD.out, if_neg hba]
        obtain ⟨k1, k2, k3, _, k5⟩ := AddTo.nil hA5 HOK4.out
        obtain ⟨k6, k7, k8⟩ := k5 rfl ha0 HOV.out
        exact ⟨hB5, hF35, by rw [k6, HTOP.out]; omega, k8, k7, by rw [k2]; exact HWIN.out, by rw [k3]; exact HRS.out, by omega⟩
  case rest =>
    obtain ⟨w6, B6, r, rfl, rfl, hr, hlo, hhi⟩ := hcut
    rename World => w6
    clear hB4 HCK hF34 HTOP HWIN HKN HRS HOV hh
    by_cases hba : b < a
    · obtain ⟨hB6, hF36, ht6, ho6⟩ := hlo.out hba
      have hr := hr.out
      rw [if_pos hba] at hr
      subst hr
      have hba1 : (b : Int) < (a : Int) := by omega
      have ht := btop_any hB6
      rw [ht6] at ht
      have hd := bdone_any hB6
      rw [ho6] at hd
      have hlo6 := hB6.lo
      have HT := Lib.hid ht
      have HD := Lib.hid hd
      have HF36 := Lib.hid hF36
      have HLO6 := Lib.hid hlo6
      clear ht hd hF36 hlo6
      clear hlo hhi hB6 ht6 ho6
      go_wp2_with (first | (go_at_call 13; refine HT.out.mono ?_; rintro e w7 ⟨rfl, hw7⟩; rw [hw7]; clear hw7) | (go_at_call 11; refine HD.out.mono ?_; rintro e w8 ⟨rfl, hB8, hF8⟩))
      go_ret
      exact ⟨rfl, HW.out _ (HF36.out.trans (hF8.mono (fun k hk q => by have := HLO6.out k q; unfold New at hk; omega)))⟩
    · have hf := hhi.out hba
      have hr := hr.out
      rw [if_neg hba] at hr
      subst hr
      have hba1 : ¬ (b : Int) < (a : Int) := by omega
      have HF := Lib.hid hf
      clear hf
      clear hlo hhi
      go_upto_if 58 with (fail)
      go_cut [13] from 58 (fun v13 w5 => ∃ (w7 : World) (B7 : Bf) (r : Nat), w5 = w7 ∧ v13 = .int .i64 r ∧ Hid (r = if (if ag = true then c ≠ b else b < c) then 42 else 0) ∧ Hid (FinB E w3 w7 p b rs B7))
      case first =>
        have hck2 := chk_b (B := B6) (b := b) (c := c) HF.out.known (by have := HF.out.win; omega) HF.out.fin HF.out.top
        have hck3 := chk_c (B := B6) (b := b) (c := c) HF.out.known (by have := HF.out.win; omega) HF.out.fin
        have hst := HF.out.st
        cases ag with
        | true =>
          have hc := breset_any c hst
          rw [hck2] at hc
          obtain ⟨r, hr2⟩ : ∃ r, r = if c ≠ b then 42 else 0 := ⟨_, rfl⟩
          rw [← hr2] at hc
          have HC := Lib.hid hc
          have HR2 := Lib.hid hr2
          have HCK2 := Lib.hid hck2
          clear hc hr2 hck2
          clear hst hck3
          go_wp2_with (go_at_call 15; refine HC.out.mono ?_; rintro e w7 ⟨rfl, hB7, hF7⟩)
          have hF37 := HF.out.frm.trans hF7
          go_meet
          refine ⟨w7, B6.reset' c, r, rfl, rfl, ?_, ?_⟩
          · show _ = _
            rw [HR2.out]
            simp
          · refine ⟨hB7, hF37, ?_, fun h => ?_, ?_⟩
            · unfold Bf.reset'
              split
              · rename_i h
                rw [HCK2.out] at h
                have hcb : c = b := by
                  by_cases q : c = b
                  · exact q
                  · rw [if_pos q] at h; cases h
                have := HF.out.top
                simp only
                omega
              · exact HF.out.top
            · unfold Bf.reset'
              split
              · rfl
              · rw [HF.out.rs]; exact h
            · unfold Bf.reset'
              split
              · simp [hl]
              · exact HF.out.hl_
        | false =>
          have hh6 := HF.out.hl_
          have hc := badd_any c [] false (Ab := none) (cb := 0) hst Rd.nil (fun k hk => by cases hk) (Nat.le_refl _) (fun _ => rfl) (by simp only [List.length_nil]; omega) (by omega)
          rw [adds_nil (by omega), hck3] at hc
          have hok6 := hst.ok
          obtain ⟨r, hr2⟩ : ∃ r, r = if b < c then 42 else 0 := ⟨_, rfl⟩
          rw [← hr2] at hc
          have HC := Lib.hid hc
          have HR2 := Lib.hid hr2
          have HOK6 := Lib.hid hok6
          clear hc hr2 hok6
          clear hst hck2 hck3
          go_wp2_with (go_at_call 9; refine HC.out.mono ?_; rintro e w7 ⟨rfl, B7, hB7, hA7, hF7⟩)
          have hF37 := HF.out.frm.trans hF7
          go_meet
          obtain ⟨k1, k2, k3, k4, _⟩ := AddTo.nil hA7 HOK6.out
          refine ⟨w7, B7, r, rfl, rfl, ?_, ⟨hB7, hF37, by rw [(k4 rfl).1]; exact HF.out.top, fun h => by rw [k3, HF.out.rs]; exact h, by omega⟩⟩
          show _ = _
          rw [HR2.out]
          simp
      case rest =>
        obtain ⟨w7, B7, r, rfl, rfl, hr2, hfb⟩ := hcut
        rename World => w7
        clear HF hr
        have hst := hfb.out.st
        have hlo7 := hst.lo
        have ht := btop_any hst
        rw [hfb.out.top] at ht
        have hd := bdone_any hst
        have hNE : ∀ w', Frm (New w7) w7 w' → Frm (fun k => ¬ E k) w3 w' := fun w' hF => hfb.out.frm.trans (hF.mono (fun k hk q => by have := hlo7 k q; unfold New at hk; omega))
        have hend : ∀ w', Frm (New w7) w7 w' → Below W.heap.size W w' := fun w' hF => HW.out _ (hNE w' hF)
        have hrs7 : rs = true → B7.over = true ∧ hl B7.l = 0 ∧ B7.many 9 = 0 := fun h => by
          have h1 := hfb.out.rs h
          have h2 := (hst.ok.gone h1).2
          refine ⟨by unfold Bf.over; rw [h1]; rfl, by rw [h2]; rfl, ?_⟩
          unfold Bf.many
          rw [h2]
          rfl
        have hh7 := hfb.out.hl_
        have htail : ∀ r2 : Nat, r = r2 → Hid (r = r2) := fun _ h => h
        clear htail
        have HT := Lib.hid ht
        have HD := Lib.hid hd
        have HST := Lib.hid hst
        have HEND := Lib.hid hend
        have HNE := Lib.hid hNE
        have HLO7 := Lib.hid hlo7
        have HRS7 := Lib.hid hrs7
        clear ht hd hst hend hNE hlo7 hrs7
        cases ag with
        | true =>
          have hr3 : (r = 42 ∧ c ≠ b) ∨ (r = 0 ∧ c = b) := by
            have h1 := hr2.out
            by_cases q : c = b
            · exact .inr ⟨by rw [h1]; simp [q], q⟩
            · exact .inl ⟨by rw [h1]; simp [q], q⟩
          rcases hr3 with ⟨hr3, hq⟩ | ⟨hr3, hq⟩
          all_goals
            clear hr2
            subst hr3
            first
              | (have hcb : ((c : Int) == (b : Int)) = false := by rw [beq_eq_false_iff_ne]; omega
                 have hcb2 : ((c : Int) != (b : Int)) = true := by rw [bne, hcb]; rfl
                 clear hq)
              | (have hcb : ((c : Int) == (b : Int)) = true := by rw [beq_iff_eq]; omega
                 have hcb2 : ((c : Int) != (b : Int)) = false := by rw [bne, hcb]; rfl
                 clear hq)
            cases rs with
            | false =>
              go_wp2_with (go_at_call 13; refine HT.out.mono ?_; rintro e w8 ⟨rfl, hw8⟩; rw [hw8]; clear hw8)
              go_ret
              exact ⟨rfl, HEND.out _ (Frm.refl _ _)⟩
            | true =>
              obtain ⟨q1, q2, q3⟩ := HRS7.out rfl
              rw [q1] at HD
              have Q2 := Lib.hid q2
              have Q3 := Lib.hid q3
              clear q1 q2 q3
              go_wp2_with (first | (go_at_call 13; refine HT.out.mono ?_; rintro e w8 ⟨rfl, hw8⟩; rw [hw8]; clear hw8) | (go_at_call 11; refine HD.out.mono ?_; rintro e w8 ⟨rfl, hB8, hF8⟩; have hhd := bheld_any hB8; rw [Q2.out] at hhd; have HHD := Lib.hid hhd; have HF8 := Lib.hid hF8; clear hhd hB8 hF8) | (go_at_call 12; refine HHD.out.mono ?_; rintro e w9 ⟨rfl, hB9, hF9⟩; have hrd := bread_any 9 hB9 (by omega) (by omega); rw [Q3.out] at hrd; have hF79 := HF8.out.trans (hF9.mono (fun k hk => Nat.le_trans HF8.out.size hk)); have HF79 := Lib.hid hF79; have HRD := Lib.hid hrd; clear hrd hB9 hF9 hF79) | (go_at_call 10; refine HRD.out.mono ?_; rintro e w10 ⟨Ao, co, rfl, hA10, hB10, hF10⟩))
              go_ret
              exact ⟨rfl, HW.out _ ((HNE.out _ HF79.out).trans hF10)⟩
        | false =>
          have hr3 : (r = 42 ∧ b < c) ∨ (r = 0 ∧ ¬ b < c) := by
            have h1 := hr2.out
            by_cases q : b < c
            · exact .inl ⟨by rw [h1]; simp [q], q⟩
            · exact .inr ⟨by rw [h1]; simp [q], q⟩
          rcases hr3 with ⟨hr3, hq⟩ | ⟨hr3, hq⟩
          all_goals
            clear hr2
            subst hr3
            cases rs with
            | false =>
              go_wp2_with (go_at_call 13; refine HT.out.mono ?_; rintro e w8 ⟨rfl, hw8⟩; rw [hw8]; clear hw8)
              go_ret
              exact ⟨rfl, HEND.out _ (Frm.refl _ _)⟩
            | true =>
              obtain ⟨q1, q2, q3⟩ := HRS7.out rfl
              rw [q1] at HD
              have Q2 := Lib.hid q2
              have Q3 := Lib.hid q3
              clear q1 q2 q3
              go_wp2_with (first | (go_at_call 13; refine HT.out.mono ?_; rintro e w8 ⟨rfl, hw8⟩; rw [hw8]; clear hw8) | (go_at_call 11; refine HD.out.mono ?_; rintro e w8 ⟨rfl, hB8, hF8⟩; have hhd := bheld_any hB8; rw [Q2.out] at hhd; have HHD := Lib.hid hhd; have HF8 := Lib.hid hF8; clear hhd hB8 hF8) | (go_at_call 12; refine HHD.out.mono ?_; rintro e w9 ⟨rfl, hB9, hF9⟩; have hrd := bread_any 9 hB9 (by omega) (by omega); rw [Q3.out] at hrd; have hF79 := HF8.out.trans (hF9.mono (fun k hk => Nat.le_trans HF8.out.size hk)); have HF79 := Lib.hid hF79; have HRD := Lib.hid hrd; clear hrd hB9 hF9 hF79) | (go_at_call 10; refine HRD.out.mono ?_; rintro e w10 ⟨Ao, co, rfl, hA10, hB10, hF10⟩))
              go_ret
              exact ⟨rfl, HW.out _ ((HNE.out _ HF79.out).trans hF10)⟩
end Go.Proofs.Ytljleaomlooiaaa.M
