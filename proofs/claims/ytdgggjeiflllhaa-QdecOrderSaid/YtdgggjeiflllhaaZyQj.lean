/- Qj -/
import Derived.BigQuiet
import Derived.Deep.CutBlock
import Derived.Lib.Hide
import Derived.IntWalk
import Derived.StillTailTactics
import Derived.Test.YtdgggjeiflllhaaZyQi

namespace Go.Proofs.Ytdgggjeiflllhaa.M
open Go.ChangeShapes Go.WideShapes Go.ChangeAt Go.RowKit
set_option maxRecDepth 100000 in
set_option maxHeartbeats 8000000 in
theorem qins_any {S : Nat → Prop} {g lim : Nat} {T : Tb} {pr c : Nat} {r : Bytes} {A : Option Addr} (pd : Nat) (w : World) (hd0 : w.cell? ⟨pd, 0, none⟩ = some (.pointer (some ⟨g, 0, none⟩))) (hd1 : w.cell? ⟨pd, 1, none⟩ = some (.int .i64 (lim : Int)))
    (hT : TabS S w g T) (hr : RdAt w pr r A c) (hne : r ≠ []) (hpS : ¬ S pd) (hrS : ¬ S pr) (hpr : pr ≠ pd) (hAS : ∀ k, M.blk A = some k → ¬ S k ∧ k < w.heap.size) (hn : T.n < 1152921504606846976) (hc : T.cap ≤ 4096) (hlim : lim ≤ 4096) (hok : T.Ok) :
    Calls Try.prog 69 #[.pointer (some ⟨pd, 0, none⟩), .pointer (some ⟨pr, 0, none⟩)] w (InsR S w pr g r A c (insQ lim T r)) := by
  have hpl := World.block_lt_of_cell? _ _ hd0
  simp only at hpl
  obtain ⟨R, hR⟩ : ∃ R, R = insQ lim T r := ⟨_, rfl⟩
  rw [← hR]
  have hat : ∀ w', Calls Try.prog 67 #[.bool true] w' fun e w2 => e = .returned (.tuple #[]) ∧ w2 = w' := fun w' => qask_true w'
  have haf : ∀ w', Calls Try.prog 67 #[.bool false] w' fun e w2 => e = PQ 26 ∧ w2 = w' := fun w' => qask_false w'
  have hdk : ∀ w', Frm (fun j => j = pr ∨ New w j) w w' → w'.cell? ⟨pd, 0, none⟩ = some (.pointer (some ⟨g, 0, none⟩)) ∧ w'.cell? ⟨pd, 1, none⟩ = some (.int .i64 (lim : Int)) ∧ TabS S w' g T ∧ pd < w'.heap.size := fun w' f => by
    have hk : ¬ (pd = pr ∨ New w pd) := fun e => by rcases e with e | e; exact hpr e.symm; unfold New at e; omega
    exact ⟨by rw [f.cell (p := ⟨pd, 0, none⟩) hk]; exact hd0, by rw [f.cell (p := ⟨pd, 1, none⟩) hk]; exact hd1, hT.keep f (fun k hk e => by rcases e with e | e; exact hrS (e ▸ hk); have := hT.low k hk; unfold New at e; omega), Nat.lt_of_lt_of_le hpl f.size⟩
  obtain ⟨hy0, hyl⟩ := hr.cell
  have hprl := hr.blk.lt
  cases r with
  | nil => exact absurd rfl hne
  | cons b0 bt =>
    obtain ⟨gA, oA, rfl, hb0⟩ := hr.rd.at_ (k := 0) (by simp [bvs])
    simp only [bvs, List.map_cons, List.getElem_cons_zero, bv, Nat.add_zero] at hb0
    have hgl := World.block_lt_of_cell? _ _ hb0
    simp only at hgl
    have hx := b0.toNat_lt
    have hh0 : ((b0 :: bt).headD 0).toNat = b0.toNat := rfl
    have hl1 : 1 ≤ (b0 :: bt).length := by simp
    generalize b0 :: bt = r at *
    generalize b0.toNat = x at *
    have hl1j : (0 : Int) < r.length := by omega
    clear hne
    by_cases h1 : 128 ≤ x
    · have q7 : (((x : Int) / 128) == 1) = true := by rw [beq_iff_eq]; omega
      have q7p : ((x : Int) / 128) = 1 := by omega
      have hst := qnumber_any 6 hr (by decide) (by decide)
      have hrg := rdp_range r 6 (by decide)
      rcases hsq : rdp r 6 with ⟨i, k, e⟩
      rw [insQ_a (by rw [hh0]; exact h1) hsq, hh0] at hR
      rw [hsq] at hst hrg
      simp only at hst hrg
      unfold ReadR at hst
      have hbit : bits .and .u8 ((x : Int) / 64) 1 = ((x / 64 % 2 : Nat) : Int) := by
        have := and_1_u8 x 6 hx (by decide)
        simpa using this
      have HAT := Lib.hid hat
      have HAF := Lib.hid haf
      have HDK := Lib.hid hdk
      have HAS := Lib.hid hAS
      have HST := Lib.hid hst
      clear hat haf hdk hAS hst
      by_cases he : e = 0
      · subst he
        obtain ⟨g1, g2, g3⟩ := hrg rfl
        have hst := HST.out
        simp only [if_true] at hst
        rw [if_neg (by simp)] at hR
        have hb2 : x / 64 % 2 ≤ 1 := by omega
        have hfx : decide (x / 64 % 2 = 1) = (((x / 64 % 2 : Nat) : Int) == 1) := by
          by_cases h : x / 64 % 2 = 1
          · rw [decide_eq_true h]; symm; rw [beq_iff_eq]; omega
          · rw [decide_eq_false h]; symm; rw [beq_eq_false_iff_ne]; omega
        rw [hfx] at hR
        generalize x / 64 % 2 = bb at *
        generalize hfb : ((bb : Int) == 1) = fx at *
        have hnq := fun nm (h : nameQ T i fx = some nm) => nameQ_small hok hc h
        clear HST hrg hfx
        have HST := Lib.hid hst
        have HNQ := Lib.hid hnq
        have HR0 := Lib.hid hR
        clear hst hnq hR
        go_enter Try.func69, Try.ntmps69
        go_wp2_with (fail)
        refine HST.out.mono ?_
        rintro e2 w2 ⟨rfl, ⟨A2, hM2, hbk2⟩, hF02⟩
        obtain ⟨kd0, kd1, hT2, kpl⟩ := HDK.out w2 hF02
        have hnm := qnamed_any i fx pd w2 kd0 hT2 (by omega)
        unfold NamR at hnm
        have hR := HR0.out
        clear HR0
        clear hb0 hgl hy0 hyl hd0 hd1 HST hT2
        have HF02 := Lib.hid hF02
        clear hF02
        cases hnn : nameQ T i fx with
        | none =>
          rw [hnn] at hnm hR
          simp only at hnm hR
          clear hM2
          have HNM := Lib.hid hnm
          have HR := Lib.hid hR
          clear hnm hR
          go_wp2_with (fail)
          refine HNM.out.mono ?_
          rintro e3 w3 ⟨rfl, hF3⟩
          have hsz := HF02.out.size
          unfold PQ
          go_wp2
          exact ⟨rfl, .bad HR.out (by decide) rfl (HF02.out.trans (hF3.mono (fun j hj => .inr (Nat.le_trans hsz hj))))⟩
        | some nm =>
          rw [hnn] at hnm hR
          simp only [str] at hnm hR
          have hsl := HNQ.out _ hnn
          have hRk := hR
          clear hR HNQ
          have HNM := Lib.hid hnm
          clear hnm
          go_wp2_with (fail)
          refine HNM.out.mono ?_
          rintro e3 w3 ⟨rfl, hF3⟩
          have hM3 := hM2.fresh hF3
          have hsz2 := HF02.out.size
          have hF03 : Frm (fun j => j = pr ∨ New w j) w w3 := HF02.out.trans (hF3.mono (fun j hj => .inr (Nat.le_trans hsz2 hj)))
          have hbk3 := hbk2
          clear hM2 hF3 hbk2 HF02 HNM kd0 kd1 kpl
          have HBK3 := Lib.hid hbk3
          clear hbk3
          have hva := qvalue_any hM3
          have hvl := strD_le (r.drop k) 7
          rcases hsv : strD (r.drop k) 7 with ⟨v, k2, e2⟩
          rw [hsv] at hva hvl
          rw [valQ_eq hsv] at hRk
          simp only [str] at hva hvl
          unfold ReadR at hva
          by_cases he2 : e2 = 0
          · subst he2
            simp only [if_true] at hva
            rw [if_neg (by simp)] at hRk
            have HVA := Lib.hid hva
            have HF03 := Lib.hid hF03
            have HRK := Lib.hid hRk
            clear hva hF03 hRk
            go_wp2_with (fail)
            refine HVA.out.mono ?_
            rintro e4 w4 ⟨rfl, ⟨A4, hM4, hbk4⟩, hF4⟩
            have hF04 : Frm (fun j => j = pr ∨ New w j) w w4 := HF03.out.trans (hF4.mono (fun j hj => hj.imp id (fun h => Nat.le_trans HF03.out.size h)))
            obtain ⟨kd0, kd1, hT4, kpl⟩ := HDK.out w4 hF04
            have had := qadd_any (nm, v) pd w4 kd0 hT4 hpS hn (by show nm.length + v.length + 32 ≤ _; omega) hc
            have hM5 : ∀ w', Frm (Own S w4) w4 w' → RdAt w' pr (r.drop (k + k2)) A4 (c - (k + k2)) := fun w' f => by
              have h1 := hM4.own hrS hM4.blk.lt (fun j hj => by rw [hbk4.1, HBK3.out.1] at hj; exact ⟨(HAS.out j hj).1, Nat.lt_of_lt_of_le (HAS.out j hj).2 hF04.size⟩) f
              rw [List.drop_drop, Nat.sub_sub] at h1
              exact h1
            have hbk5 := hbk4.trans HBK3.out
            rw [Nat.sub_sub] at hbk5
            clear hM4 HVA hF4 HF03
            have HM5 := Lib.hid hM5
            have HBK5 := Lib.hid hbk5
            have HF04 := Lib.hid hF04
            clear hM5 hbk5 hF04
            unfold AddR at had
            simp only [fld, str] at had
            have hRk2 := HRK.out
            unfold addQ at hRk2
            by_cases hle : fsize (nm, v) ≤ T.cap
            · rw [if_pos hle] at hRk2
              simp only [if_pos hle] at had
              have HAD := Lib.hid had
              have HRK2 := Lib.hid hRk2
              clear had hRk2
              go_wp2_with (fail)
              refine HAD.out.mono ?_
              rintro e5 w5 ⟨rfl, hS5, hF5⟩
              have hM6 := HM5.out w5 hF5
              have hsz := HF04.out.size
              have hF05 : Frm (fun j => j = pr ∨ Own S w j) w w5 := (HF04.out.mono (fun j hj => hj.imp id (fun h => .inr h))).trans (hF5.mono (fun j hj => .inr (hj.imp id (fun h => Nat.le_trans hsz h))))
              have hS6 : ∃ S', TabS S' w5 g (T.add (nm, v)) ∧ ∀ k, S' k → Own S w k := by
                obtain ⟨S', h1, h2⟩ := hS5
                exact ⟨S', h1, fun k hk => (h2 k hk).imp id (fun h => Nat.le_trans hsz h)⟩
              clear hS5 hF5
              have HM6 := Lib.hid hM6
              have HF05 := Lib.hid hF05
              have HS6 := Lib.hid hS6
              clear hM6 hF05 hS6
              go_wp2_with (fail)
              go_end0
              rw [HRK2.out]
              unfold InsR
              rw [if_pos rfl]
              exact ⟨rfl, ⟨A4, HM6.out, HBK5.out⟩, HS6.out, HF05.out⟩
            · rw [if_neg hle] at hRk2
              simp only [if_neg hle] at had
              have HAD := Lib.hid had
              have HRK2 := Lib.hid hRk2
              clear had hRk2
              go_wp2_with (fail)
              refine HAD.out.mono ?_
              rintro e5 w5 ⟨rfl, hF5⟩
              have hsz := HF04.out.size
              unfold PQ
              go_wp2
              exact ⟨rfl, .bad HRK2.out (by decide) rfl (HF04.out.trans (hF5.mono (fun j hj => .inr (Nat.le_trans hsz hj))))⟩
          · simp only [if_neg he2] at hva
            rw [if_pos he2] at hRk
            have HVA := Lib.hid hva
            have HF03 := Lib.hid hF03
            have HRK := Lib.hid hRk
            clear hva hF03 hRk
            go_wp2_with (fail)
            refine HVA.out.mono ?_
            rintro e4 w4 ⟨rfl, hF4⟩
            have hsz := HF03.out.size
            unfold PQ
            go_wp2
            exact ⟨rfl, .bad HRK.out (fixE_ne e2) rfl (HF03.out.trans (hF4.mono (fun j hj => hj.imp id (fun h => Nat.le_trans hsz h))))⟩
      · have hst := HST.out
        simp only [if_neg he] at hst
        rw [if_pos he] at hR
        clear HST
        have HST := Lib.hid hst
        have HR := Lib.hid hR
        clear hst hR
        go_enter Try.func69, Try.ntmps69
        go_wp2_with (fail)
        refine HST.out.mono ?_
        rintro e3 w3 ⟨rfl, hF3⟩
        unfold PQ
        go_wp2
        exact ⟨rfl, .bad HR.out (fixE_ne e) rfl hF3⟩
    by_cases h2 : 64 ≤ x
    · have q7 : (((x : Int) / 128) == 1) = false := beq_eq_false_iff_ne.2 (by omega)
      have q7p : ¬ ((x : Int) / 128) = 1 := by omega
      have q6 : (((x : Int) / 64) == 1) = true := by rw [beq_iff_eq]; omega
      have q6p : ((x : Int) / 64) = 1 := by omega
      have hst := qstr5_any hr
      have hsl := strD_le r 5
      rcases hsq : strD r 5 with ⟨nm, k, e⟩
      rw [insQ_b (by rw [hh0]; exact h1) (by rw [hh0]; exact h2) hsq] at hR
      rw [hsq] at hst hsl
      simp only [str] at hst hsl
      unfold ReadR at hst
      have HAT := Lib.hid hat
      have HAF := Lib.hid haf
      have HDK := Lib.hid hdk
      have HAS := Lib.hid hAS
      have HST := Lib.hid hst
      clear hat haf hdk hAS hst
      by_cases he : e = 0
      · subst he
        have hst := HST.out
        simp only [if_true] at hst
        rw [if_neg (by simp)] at hR
        clear HST
        have HST := Lib.hid hst
        have HR0 := Lib.hid hR
        clear hst hR
        go_enter Try.func69, Try.ntmps69
        go_wp2_with (fail)
        refine HST.out.mono ?_
        rintro e3 w3 ⟨rfl, ⟨A3, hM3, hbk3⟩, hF03⟩
        have hRk := HR0.out
        clear hb0 hgl hy0 hyl hd0 hd1 HST HR0
        have HBK3 := Lib.hid hbk3
        clear hbk3
        have hva := qvalue_any hM3
        have hvl := strD_le (r.drop k) 7
        rcases hsv : strD (r.drop k) 7 with ⟨v, k2, e2⟩
        rw [hsv] at hva hvl
        rw [valQ_eq hsv] at hRk
        simp only [str] at hva hvl
        unfold ReadR at hva
        by_cases he2 : e2 = 0
        · subst he2
          simp only [if_true] at hva
          rw [if_neg (by simp)] at hRk
          have HVA := Lib.hid hva
          have HF03 := Lib.hid hF03
          have HRK := Lib.hid hRk
          clear hva hF03 hRk
          go_wp2_with (fail)
          refine HVA.out.mono ?_
          rintro e4 w4 ⟨rfl, ⟨A4, hM4, hbk4⟩, hF4⟩
          have hF04 : Frm (fun j => j = pr ∨ New w j) w w4 := HF03.out.trans (hF4.mono (fun j hj => hj.imp id (fun h => Nat.le_trans HF03.out.size h)))
          obtain ⟨kd0, kd1, hT4, kpl⟩ := HDK.out w4 hF04
          have had := qadd_any (nm, v) pd w4 kd0 hT4 hpS hn (by show nm.length + v.length + 32 ≤ _; omega) hc
          have hM5 : ∀ w', Frm (Own S w4) w4 w' → RdAt w' pr (r.drop (k + k2)) A4 (c - (k + k2)) := fun w' f => by
            have h1 := hM4.own hrS hM4.blk.lt (fun j hj => by rw [hbk4.1, HBK3.out.1] at hj; exact ⟨(HAS.out j hj).1, Nat.lt_of_lt_of_le (HAS.out j hj).2 hF04.size⟩) f
            rw [List.drop_drop, Nat.sub_sub] at h1
            exact h1
          have hbk5 := hbk4.trans HBK3.out
          rw [Nat.sub_sub] at hbk5
          clear hM4 HVA hF4 HF03
          have HM5 := Lib.hid hM5
          have HBK5 := Lib.hid hbk5
          have HF04 := Lib.hid hF04
          clear hM5 hbk5 hF04
          unfold AddR at had
          simp only [fld, str] at had
          have hRk2 := HRK.out
          unfold addQ at hRk2
          by_cases hle : fsize (nm, v) ≤ T.cap
          · rw [if_pos hle] at hRk2
            simp only [if_pos hle] at had
            have HAD := Lib.hid had
            have HRK2 := Lib.hid hRk2
            clear had hRk2
            go_wp2_with (fail)
            refine HAD.out.mono ?_
            rintro e5 w5 ⟨rfl, hS5, hF5⟩
            have hM6 := HM5.out w5 hF5
            have hsz := HF04.out.size
            have hF05 : Frm (fun j => j = pr ∨ Own S w j) w w5 := (HF04.out.mono (fun j hj => hj.imp id (fun h => .inr h))).trans (hF5.mono (fun j hj => .inr (hj.imp id (fun h => Nat.le_trans hsz h))))
            have hS6 : ∃ S', TabS S' w5 g (T.add (nm, v)) ∧ ∀ k, S' k → Own S w k := by
              obtain ⟨S', h1, h2⟩ := hS5
              exact ⟨S', h1, fun k hk => (h2 k hk).imp id (fun h => Nat.le_trans hsz h)⟩
            clear hS5 hF5
            have HM6 := Lib.hid hM6
            have HF05 := Lib.hid hF05
            have HS6 := Lib.hid hS6
            clear hM6 hF05 hS6
            go_wp2_with (fail)
            go_end0
            rw [HRK2.out]
            unfold InsR
            rw [if_pos rfl]
            exact ⟨rfl, ⟨A4, HM6.out, HBK5.out⟩, HS6.out, HF05.out⟩
          · rw [if_neg hle] at hRk2
            simp only [if_neg hle] at had
            have HAD := Lib.hid had
            have HRK2 := Lib.hid hRk2
            clear had hRk2
            go_wp2_with (fail)
            refine HAD.out.mono ?_
            rintro e5 w5 ⟨rfl, hF5⟩
            have hsz := HF04.out.size
            unfold PQ
            go_wp2
            exact ⟨rfl, .bad HRK2.out (by decide) rfl (HF04.out.trans (hF5.mono (fun j hj => .inr (Nat.le_trans hsz hj))))⟩
        · simp only [if_neg he2] at hva
          rw [if_pos he2] at hRk
          have HVA := Lib.hid hva
          have HF03 := Lib.hid hF03
          have HRK := Lib.hid hRk
          clear hva hF03 hRk
          go_wp2_with (fail)
          refine HVA.out.mono ?_
          rintro e4 w4 ⟨rfl, hF4⟩
          have hsz := HF03.out.size
          unfold PQ
          go_wp2
          exact ⟨rfl, .bad HRK.out (fixE_ne e2) rfl (HF03.out.trans (hF4.mono (fun j hj => hj.imp id (fun h => Nat.le_trans hsz h))))⟩
      · have hst := HST.out
        simp only [if_neg he] at hst
        rw [if_pos he] at hR
        clear HST
        have HST := Lib.hid hst
        have HR := Lib.hid hR
        clear hst hR
        go_enter Try.func69, Try.ntmps69
        go_wp2_with (fail)
        refine HST.out.mono ?_
        rintro e3 w3 ⟨rfl, hF3⟩
        unfold PQ
        go_wp2
        exact ⟨rfl, .bad HR.out (fixE_ne e) rfl hF3⟩
    by_cases h3 : 32 ≤ x
    · have q7 : (((x : Int) / 128) == 1) = false := beq_eq_false_iff_ne.2 (by omega)
      have q7p : ¬ ((x : Int) / 128) = 1 := by omega
      have q6 : (((x : Int) / 64) == 1) = false := beq_eq_false_iff_ne.2 (by omega)
      have q6p : ¬ ((x : Int) / 64) = 1 := by omega
      have q5 : (((x : Int) / 32) == 1) = true := by rw [beq_iff_eq]; omega
      have q5p : ((x : Int) / 32) = 1 := by omega
      have hst := qnumber_any 5 hr (by decide) (by decide)
      have hrg := rdp_range r 5 (by decide)
      rcases hsq : rdp r 5 with ⟨i, k, e⟩
      rw [insQ_c (by rw [hh0]; exact h2) (by rw [hh0]; exact h3) hsq] at hR
      rw [hsq] at hst hrg
      simp only at hst hrg
      unfold ReadR at hst
      have HAT := Lib.hid hat
      have HAF := Lib.hid haf
      have HDK := Lib.hid hdk
      have HAS := Lib.hid hAS
      have HST := Lib.hid hst
      clear hat haf hdk hAS hst
      by_cases he : e = 0
      · subst he
        obtain ⟨g1, g2, g3⟩ := hrg rfl
        have hst := HST.out
        simp only [if_true] at hst
        rw [if_neg (by simp)] at hR
        have hwl : IntKind.u64.wrap (lim : Int) = (lim : Int) := IntWalk.u64_in _ (by omega)
        have hwi : IntKind.i64.wrap (i : Int) = (i : Int) := IntWalk.i64_in _ (by omega)
        clear HST hrg
        have HST := Lib.hid hst
        have HR0 := Lib.hid hR
        clear hst hR
        go_enter Try.func69, Try.ntmps69
        go_wp2_with (fail)
        refine HST.out.mono ?_
        rintro e2 w2 ⟨rfl, ⟨A2, hM2, hbk2⟩, hF02⟩
        obtain ⟨kd0, kd1, hT2, kpl⟩ := HDK.out w2 hF02
        have hR := HR0.out
        clear hb0 hgl hy0 hyl hd0 hd1 HST HR0
        by_cases hil : lim < i
        · have hili : ¬ (i : Int) ≤ (lim : Int) := by omega
          have hilj : ¬ i ≤ lim := by omega
          rw [if_pos hil] at hR
          clear hM2 hT2
          have HF02 := Lib.hid hF02
          have HR := Lib.hid hR
          clear hF02 hR
          go_wp2_with (fail)
          refine (HAF.out _).mono ?_
          rintro e3 w3 ⟨rfl, hw3⟩
          rw [hw3]
          clear hw3 w3
          unfold PQ
          go_wp2
          exact ⟨rfl, .bad HR.out (by decide) rfl HF02.out⟩
        · have hili : (i : Int) ≤ (lim : Int) := by omega
          have hilj : i ≤ lim := by omega
          rw [if_neg hil] at hR
          have hrs := tresize_any i w2 hT2 (by omega)
          have hM5 : ∀ w', Frm (Own S w2) w2 w' → RdAt w' pr (r.drop k) A2 (c - k) := fun w' f => hM2.own hrS hM2.blk.lt (fun j hj => by rw [hbk2.1] at hj; exact ⟨(HAS.out j hj).1, Nat.lt_of_lt_of_le (HAS.out j hj).2 hF02.size⟩) f
          clear hM2 hT2
          have HF02 := Lib.hid hF02
          have HR := Lib.hid hR
          have HRS := Lib.hid hrs
          have HM5 := Lib.hid hM5
          have HBK2 := Lib.hid hbk2
          clear hF02 hR hrs hM5 hbk2
          go_wp2_with (fail)
          refine (HAT.out _).mono ?_
          rintro e3 w3 ⟨rfl, hw3⟩
          rw [hw3]
          clear hw3 w3
          go_wp2_with (fail)
          refine HRS.out.mono ?_
          rintro e5 w5 ⟨⟨m, rfl⟩, hT5, hF5⟩
          have hM6 := HM5.out w5 hF5
          have hsz := HF02.out.size
          have hF05 : Frm (fun j => j = pr ∨ Own S w j) w w5 := (HF02.out.mono (fun j hj => hj.imp id (fun h => .inr h))).trans (hF5.mono (fun j hj => .inr (hj.imp id (fun h => Nat.le_trans hsz h))))
          clear hF5 kd0 kd1 kpl
          have HM6 := Lib.hid hM6
          have HF05 := Lib.hid hF05
          have HT5 := Lib.hid hT5
          clear hM6 hF05 hT5
          go_wp2_with (fail)
          go_end0
          rw [HR.out]
          unfold InsR
          rw [if_pos rfl]
          exact ⟨rfl, ⟨A2, HM6.out, HBK2.out⟩, ⟨S, HT5.out, fun k hk => .inl hk⟩, HF05.out⟩
      · have hst := HST.out
        simp only [if_neg he] at hst
        rw [if_pos he] at hR
        clear HST
        have HST := Lib.hid hst
        have HR := Lib.hid hR
        clear hst hR
        go_enter Try.func69, Try.ntmps69
        go_wp2_with (fail)
        refine HST.out.mono ?_
        rintro e3 w3 ⟨rfl, hF3⟩
        unfold PQ
        go_wp2
        exact ⟨rfl, .bad HR.out (fixE_ne e) rfl hF3⟩
    have q7 : (((x : Int) / 128) == 1) = false := beq_eq_false_iff_ne.2 (by omega)
    have q7p : ¬ ((x : Int) / 128) = 1 := by omega
    have q6 : (((x : Int) / 64) == 1) = false := beq_eq_false_iff_ne.2 (by omega)
    have q6p : ¬ ((x : Int) / 64) = 1 := by omega
    have q5 : (((x : Int) / 32) == 1) = false := beq_eq_false_iff_ne.2 (by omega)
    have q5p : ¬ ((x : Int) / 32) = 1 := by omega
    have hstA := fun w' (f : Frm (New w) w w') => qnumber_any 5 (hr.fresh f) (by decide) (by decide)
    have hrg := rdp_range r 5 (by decide)
    rcases hsq : rdp r 5 with ⟨i, k, e⟩
    rw [insQ_d (by rw [hh0]; exact h3) hsq] at hR
    rw [hsq] at hstA hrg
    simp only at hstA hrg
    unfold ReadR at hstA
    have HAT := Lib.hid hat
    have HAF := Lib.hid haf
    have HDK := Lib.hid hdk
    have HAS := Lib.hid hAS
    have HSTA := Lib.hid hstA
    clear hat haf hdk hAS hstA
    by_cases he : e = 0
    · subst he
      obtain ⟨g1, g2, g3⟩ := hrg rfl
      have hst := HSTA.out
      simp only [if_true] at hst
      rw [if_neg (by simp)] at hR
      clear HSTA hrg
      have hne := fun w' (f : Frm (fun j => j = pr ∨ New w j) w w') => tnewest_any i w' (HDK.out w' f).2.2.1 (by omega)
      have hnw : T.new i = if (newestS T.l i).2 = true then some (newestS T.l i).1 else none := by
        unfold Tb.new newestS
        by_cases h : i < T.l.length
        · rw [if_pos h, dif_pos h]; simp only [if_true]; exact List.getElem?_eq_getElem _
        · rw [if_neg h, dif_neg h]; rfl
      have hsm : (newestS T.l i).2 = true → fsize (newestS T.l i).1 ≤ 4096 := by
        unfold newestS
        by_cases h : i < T.l.length
        · rw [dif_pos h]; intro _; exact tab_small hok hc (List.getElem_mem _)
        · rw [dif_neg h]; intro h; cases h
      rw [hnw] at hR
      generalize newestS T.l i = q at *
      obtain ⟨⟨f1, f2⟩, ok⟩ := q
      simp only [fld, str] at hne hR hsm
      have HST := Lib.hid hst
      have HR0 := Lib.hid hR
      have HNE := Lib.hid hne
      have HSM := Lib.hid hsm
      clear hst hR hne hsm
      clear hnw
      go_enter Try.func69, Try.ntmps69
      go_upto_region 1 with (fail)
      have hnf : Frm (New w) w w := Frm.refl _ _
      clear hb0 hgl hy0 hyl
      go_cut [9, 10] from 2 (fun v9 v10 w5 => ∃ g9 A2, v9 = .pointer (some ⟨g9, 0, none⟩) ∧ v10 = .bool ok ∧ w.heap.size ≤ g9 ∧ Hid (Blk w5 g9 71 #[.string ⟨f1.toArray⟩, .string ⟨f2.toArray⟩]) ∧ Hid (Frm (fun j => j = pr ∨ New w j) w w5) ∧ Hid (RdAt w5 pr (r.drop k) A2 (c - k)) ∧ Hid (Sub (some ⟨gA, oA, none⟩) c A2 (c - k)))
      case first =>
        have hup : Up (fun j => j = pr ∨ New w j) w := fun k h => .inr h
        go_region_with (first
          | (go_at_call 104
             refine (HST.out _ (by first | exact hnf.drew | exact hnf.drew.alloc Up.new _ | exact hnf.alloc Up.new _)).mono ?_
             rintro e2 w2 ⟨rfl, ⟨A2, hM2, hbk2⟩, hF2⟩
             (try (have HZ2 := Lib.hid (show Blk w2 w.heap.size 71 #[.string ⟨#[]⟩, .string ⟨#[]⟩] from (Blk.new w.drew 71 #[.string ⟨#[]⟩, .string ⟨#[]⟩]).keep hF2 (fun e => by rcases e with e | e; exact absurd e (by show ¬ w.drew.heap.size = pr; simp; omega); unfold New at e; simp at e; omega)); have hzl := HZ2.out.lt; have hz0 := HZ2.out.cell 0; have hz1 := HZ2.out.cell 1; have hzf0 := HZ2.out.frozen 0; have hzf1 := HZ2.out.frozen 1))
             have hF02 : Frm (fun j => j = pr ∨ New w j) w w2 := Frm.trans (Frm.mono (M := New w) (by first | exact hnf.drew | exact hnf.drew.alloc Up.new _ | exact hnf.alloc Up.new _) (fun _ h => .inr h)) (hF2.mono (fun j hj => hj.imp id (fun h => by unfold New at h ⊢; (try simp at h); omega)))
             obtain ⟨kd0, kd1, hT2, kpl⟩ := HDK.out w2 hF02
             have HM2 := Lib.hid hM2; have HBK2 := Lib.hid hbk2; have HF02 := Lib.hid hF02
             clear hM2 hbk2 hF02 hF2 hT2)
          | (go_at_call 113
             refine (HNE.out _ (by first | exact HF02.out | exact HF02.out.alloc hup _ | exact HF02.out.drew)).mono ?_
             rintro e4 w4 ⟨rfl, hF4⟩
             have HF4 := Lib.hid (show Frm (fun j => j = pr ∨ New w j) w w4 from Frm.trans (by first | exact HF02.out | exact HF02.out.alloc hup _ | exact HF02.out.drew) (hF4.mono (fun j hj => .inr (by have := HF02.out.size; unfold New at hj ⊢; (try simp at hj); omega))))
             (try (have HZ4 := Lib.hid (HZ2.out.fresh hF4); have hyl4 := HZ4.out.lt; have hy0 := HZ4.out.cell 0; have hy1 := HZ4.out.cell 1; have hyf0 := HZ4.out.frozen 0; have hyf1 := HZ4.out.frozen 1))
             (try (have HZ4 := Lib.hid ((Blk.new w2 71 #[.string ⟨#[]⟩, .string ⟨#[]⟩]).fresh hF4); have hyl4 := HZ4.out.lt; have hy0 := HZ4.out.cell 0; have hy1 := HZ4.out.cell 1; have hyf0 := HZ4.out.frozen 0; have hyf1 := HZ4.out.frozen 1))
             have HM4 := Lib.hid (show RdAt w4 pr (r.drop k) A2 (c - k) from by first | exact HM2.out.fresh hF4 | exact (HM2.out.fresh ((Frm.refl (New w2) w2).alloc Up.new _)).fresh hF4)
             clear hF4))
        all_goals go_wp2_with (fail)
        all_goals go_meet
        all_goals first
          | exact ⟨_, A2, rfl, rfl, HF4.out.size, Lib.hid (Blk.new w4 71 _), Lib.hid (HF4.out.alloc hup _), Lib.hid (HM4.out.fresh ((Frm.refl (New w4) w4).alloc Up.new _)), HBK2⟩
          | (have hp := (HZ4.out.set_ 0 (.string ⟨f1.toArray⟩)).set_ 1 (.string ⟨f2.toArray⟩)
             have hge : w.heap.size ≤ w.heap.size := Nat.le_refl _
             have hge2 : w.heap.size ≤ w2.heap.size := HF02.out.size
             exact ⟨_, A2, rfl, rfl, by first | exact hge | exact hge2, Lib.hid hp, Lib.hid ((HF4.out.setCell (p := ⟨_, 0, none⟩) (.inr (by first | exact hge | exact hge2)) _).setCell (p := ⟨_, 1, none⟩) (.inr (by first | exact hge | exact hge2)) _), Lib.hid (HM4.out.keep (((Frm.refl (New w) w4).setCell (p := ⟨_, 0, none⟩) (by first | exact hge | exact hge2) _).setCell (p := ⟨_, 1, none⟩) (by first | exact hge | exact hge2) _) (by unfold New; omega) (fun k hk e => by rw [HBK2.out.1] at hk; have := (HAS.out k hk).2; unfold New at e; omega)), HBK2⟩)
      case rest =>
        obtain ⟨g9, A2, rfl, rfl, hg9, hB5, hF5, hM5, hbk5⟩ := hcut
        rename World => w5
        obtain ⟨kd0, kd1, hT5, kpl⟩ := HDK.out w5 hF5.out
        clear HST HNE hd0 hd1
        have hR := HR0.out
        cases ok with
        | false =>
          simp only [Bool.false_eq_true, if_false] at hR
          have HR := Lib.hid hR
          clear hR
          go_wp2_with (fail)
          refine (HAF.out _).mono ?_
          rintro e6 w6 ⟨rfl, hw6⟩
          rw [hw6]
          clear hw6 w6
          unfold PQ
          go_wp2
          exact ⟨rfl, .bad HR.out (by decide) rfl hF5.out⟩
        | true =>
          simp only [if_true] at hR
          have hsm := HSM.out rfl
          have had := qadd_any (f1, f2) pd w5 kd0 hT5 hpS hn (by omega) hc
          have hM5o : ∀ w', Frm (Own S w5) w5 w' → RdAt w' pr (r.drop k) A2 (c - k) := fun w' f => hM5.out.own hrS hM5.out.blk.lt (fun j hj => by rw [hbk5.out.1] at hj; exact ⟨(HAS.out j hj).1, Nat.lt_of_lt_of_le (HAS.out j hj).2 hF5.out.size⟩) f
          unfold AddR at had
          simp only [fld, str] at had
          unfold addQ at hR
          have hl9 := hB5.out.lt
          clear hT5
          by_cases hle : fsize (f1, f2) ≤ T.cap
          · rw [if_pos hle] at hR
            simp only [if_pos hle] at had
            have HAD := Lib.hid had
            have HR := Lib.hid hR
            have HM5O := Lib.hid hM5o
            clear had hR hM5o
            go_wp2_with (first
              | (refine wpList_load_agg aggf rfl rfl rfl hB5.out rfl ?_)
              | (go_at_call 67; refine (HAT.out _).mono ?_; rintro e6 w6 ⟨rfl, hw6⟩; rw [hw6]; clear hw6 w6))
            refine HAD.out.mono ?_
            rintro e7 w7 ⟨rfl, hS7, hF7⟩
            have hM7 := HM5O.out w7 hF7
            have hsz := hF5.out.size
            have hF07 : Frm (fun j => j = pr ∨ Own S w j) w w7 := (hF5.out.mono (fun j hj => hj.imp id (fun h => .inr h))).trans (hF7.mono (fun j hj => .inr (hj.imp id (fun h => Nat.le_trans hsz h))))
            have hS8 : ∃ S', TabS S' w7 g (T.add (f1, f2)) ∧ ∀ k, S' k → Own S w k := by
              obtain ⟨S', h1, h2⟩ := hS7
              exact ⟨S', h1, fun k hk => (h2 k hk).imp id (fun h => Nat.le_trans hsz h)⟩
            clear hS7 hF7
            have HM7 := Lib.hid hM7
            have HF07 := Lib.hid hF07
            have HS8 := Lib.hid hS8
            clear hM7 hF07 hS8
            go_wp2_with (fail)
            go_end0
            rw [HR.out]
            unfold InsR
            rw [if_pos rfl]
            exact ⟨rfl, ⟨A2, HM7.out, hbk5.out⟩, HS8.out, HF07.out⟩
          · rw [if_neg hle] at hR
            simp only [if_neg hle] at had
            have HAD := Lib.hid had
            have HR := Lib.hid hR
            clear had hR
            go_wp2_with (first
              | (refine wpList_load_agg aggf rfl rfl rfl hB5.out rfl ?_)
              | (go_at_call 67; refine (HAT.out _).mono ?_; rintro e6 w6 ⟨rfl, hw6⟩; rw [hw6]; clear hw6 w6))
            refine HAD.out.mono ?_
            rintro e7 w7 ⟨rfl, hF7⟩
            have hsz := hF5.out.size
            unfold PQ
            go_wp2
            exact ⟨rfl, .bad HR.out (by decide) rfl (hF5.out.trans (hF7.mono (fun j hj => .inr (Nat.le_trans hsz hj))))⟩
    · have hst := HSTA.out
      simp only [if_neg he] at hst
      rw [if_pos he] at hR
      clear HSTA hrg
      have HST := Lib.hid hst
      have HR := Lib.hid hR
      clear hst hR
      go_enter Try.func69, Try.ntmps69
      go_upto_region 1 with (fail)
      have hnf : Frm (New w) w w := Frm.refl _ _
      have hS0 : w.drew.cell? ⟨pd, 0, none⟩ = some (.pointer (some ⟨g, 0, none⟩)) ∧ pd < w.drew.heap.size := ⟨hd0, hpl⟩
      refine wp_region_held (by kernel_rfl) (S := fun w' => w'.cell? ⟨pd, 0, none⟩ = some (.pointer (some ⟨g, 0, none⟩)) ∧ pd < w'.heap.size) ?_
      change wpAnyH _ _ _ _ _ _ _ _ w.drew
      refine wpAnyH_takeB (i := 0) (v := ?_) (d := some 18) rfl (by rfl) (by kernel_rfl) (fun _ _ _ h => h) (by rfl) hS0 (fun w hSw => ?_) ?_
      rotate_left
      · (try dsimp only at hSw); (try subst hSw); go_simp; first | done | (with_reducible rfl)
      simp only [Act.put, List.setIfInBounds_toArray, List.set_cons_zero, List.set_cons_succ]
      refine wpAnyH_takeB (i := 1) (v := ?_) (d := some 19) rfl (by rfl) (by kernel_rfl) (fun _ _ _ h => h) (by rfl) hS0 (fun w hSw => ?_) ?_
      rotate_left
      · (try dsimp only at hSw); (try subst hSw); go_simp; first | done | (with_reducible rfl)
      simp only [Act.put, List.setIfInBounds_toArray, List.set_cons_zero, List.set_cons_succ]
      refine wpAnyH_takeB (i := 2) (v := ?_) (d := some 20) rfl (by rfl) (by kernel_rfl) (fun _ _ _ h => h) (by rfl) hS0 (fun w hSw => ?_) ?_
      rotate_left
      · (try dsimp only at hSw); (try subst hSw); go_simp; first | done | (with_reducible rfl)
      simp only [Act.put, List.setIfInBounds_toArray, List.set_cons_zero, List.set_cons_succ]
      refine wpAnyH_takeB (i := 3) (v := ?_) (d := some 21) rfl (by rfl) (by kernel_rfl) (fun _ _ _ h => h) (by rfl) hS0 (fun w hSw => ?_) ?_
      rotate_left
      · (try dsimp only at hSw); (try subst hSw); go_simp; first | done | (with_reducible rfl)
      simp only [Act.put, List.setIfInBounds_toArray, List.set_cons_zero, List.set_cons_succ]
      refine wpAnyH_takeB (i := 4) (v := ?_) (d := some 22) rfl (by rfl) (by kernel_rfl) (fun _ _ _ h => h) (by rfl) hS0 (fun w hSw => ?_) ?_
      rotate_left
      · (try dsimp only at hSw); (try subst hSw); go_simp; first | done | (with_reducible rfl)
      simp only [Act.put, List.setIfInBounds_toArray, List.set_cons_zero, List.set_cons_succ]
      refine wpAnyH_twoB (i := 5) (j := 10) rfl rfl (by kernel_rfl) (fun K hK => ?_) (fun K hK => ?_)
      · have hK0 := hK
        clear hK0
        refine Eq.mpr (if_pos (by rfl)) ?_
        go_wp2_with (fail)
        refine (HST.out _ (by first | exact hnf.drew | exact hnf.drew.alloc Up.new _ | exact hnf.alloc Up.new _)).mono ?_
        rintro e2 w2 ⟨rfl, hF2⟩
        have hF02 : Frm (fun j => j = pr ∨ New w j) w w2 := Frm.trans (Frm.mono (M := New w) (by first | exact hnf.drew | exact hnf.drew.alloc Up.new _ | exact hnf.alloc Up.new _) (fun _ h => .inr h)) (hF2.mono (fun j hj => hj.imp id (fun h => by unfold New at h ⊢; (try simp at h); omega)))
        have HF02 := Lib.hid hF02
        clear hF02 hF2
        unfold PQ
        go_wp2
        exact ⟨rfl, .bad HR.out (fixE_ne e) rfl HF02.out⟩
      · refine Eq.mpr (if_pos (by rfl)) ?_
        go_simp
        refine hK.out _ _ (by refine ⟨?_, ?_⟩ <;> first | exact (World.cell?_alloc_past _ _ _ hpl).trans hd0 | exact (World.cell?_alloc_past _ _ _ _ hpl).trans hd0 | (simp; omega)) ?_
        clear hK K
        try simp only [Act.put, List.setIfInBounds_toArray, List.set_cons_zero, List.set_cons_succ]
        refine wpAnyH_oneB (i := 5) rfl (by kernel_rfl) (fun K hK => ?_)
        refine Eq.mpr (if_pos (by rfl)) ?_
        go_wp2_with (fail)
        refine (HST.out _ (by first | exact hnf.drew | exact hnf.drew.alloc Up.new _ | exact hnf.alloc Up.new _)).mono ?_
        rintro e2 w2 ⟨rfl, hF2⟩
        have hF02 : Frm (fun j => j = pr ∨ New w j) w w2 := Frm.trans (Frm.mono (M := New w) (by first | exact hnf.drew | exact hnf.drew.alloc Up.new _ | exact hnf.alloc Up.new _) (fun _ h => .inr h)) (hF2.mono (fun j hj => hj.imp id (fun h => by unfold New at h ⊢; (try simp at h); omega)))
        have HF02 := Lib.hid hF02
        clear hF02 hF2
        unfold PQ
        go_wp2
        exact ⟨rfl, .bad HR.out (fixE_ne e) rfl HF02.out⟩
end Go.Proofs.Ytdgggjeiflllhaa.M

