/- Oe -/
import Derived.BigQuiet
import Derived.Deep.CutBlock
import Derived.Lib.Hide
import Derived.IntWalk
import Derived.Deep.LoopGhost
import Derived.Test.YtdgggjeiflllhaaZyOc
import Derived.Test.YtdgggjeiflllhaaZyNo

namespace Go.Proofs.Ytdgggjeiflllhaa.M
open Go.ChangeShapes Go.WideShapes Go.ChangeAt Go.RowKit
set_option maxRecDepth 100000 in
set_option maxHeartbeats 80000000 in
theorem oenc_any {X S : Nat → Prop} {w : World} {pe g co cr : Nat} {Ao Ar : Option Addr} {ol : List Ou} {E : Qn} (h : OnM X w pe g S Ao co ol Ar cr E) (s : Nat) (l : List Fld) (A : Option Addr) (c : Nat) (hR : Rd w A (fvs l)) (hAX : ∀ k, M.blk A = some k → l ≠ [] → ¬ X k) (hl : l.length ≤ 1000) (hf : ∀ f ∈ l, f.1.length + f.2.length ≤ 100000)
    (hn : E.t.n + l.length ≤ 1152921504606846976) (hop : E.opn.length < 1073741824) :
    Calls Try.prog 22 #[.pointer (some ⟨pe, 0, none⟩), .int .u64 (s : Int), .slice A l.length c] w (OEncR X w pe g Ar cr (E.enc s l).2 (E.enc s l).1.1 (E.enc s l).1.2) := by
  obtain ⟨Z, hZ⟩ : ∃ Z, Z = E.enc s l := ⟨_, rfl⟩
  rw [← hZ]
  have hAlow : ∀ k, M.blk A = some k → l ≠ [] → k < w.heap.size := fun k hk hne => by
    obtain ⟨gg, off, rfl, hlt⟩ := hR.lt (by
      cases l with
      | nil => exact absurd rfl hne
      | cons x r => simp [fvs])
    have hkg : gg = k := by simpa using hk
    subst hkg
    exact hlt
  have hno : ∀ k, M.blk A = some k → l ≠ [] → ¬ Own X w k := fun k hk hne e => by
    rcases e with e | e
    · exact hAX k hk hne e
    · have := hAlow k hk hne; have e : w.heap.size ≤ k := e; omega
  have hcapE : E.t.cap ≤ 4096 := h.cap
  have hb := h.blk
  have hy0 := hb.cell 0
  have hy6 := hb.cell 6
  simp only [List.getElem?_toArray, List.getElem?_cons_zero, List.getElem?_cons_succ] at hy0 hy6
  have hz6 := hb.frozen 6
  have hpel := hb.lt
  obtain ⟨At, ct, hT⟩ := h.tab
  have hbt := hT.blk
  have ht1 := hbt.cell 1
  simp only [List.getElem?_toArray, List.getElem?_cons_zero, List.getElem?_cons_succ] at ht1
  have hgl := hbt.lt
  obtain ⟨bb, hbb⟩ : ∃ bb, bb = (!E.begun && decide (0 < E.t.cap)) := ⟨_, rfl⟩
  obtain ⟨ob, hob⟩ : ∃ ob : Bytes, ob = E.wq.out := ⟨_, rfl⟩
  have hob2 : ob = if bb = true then pfx 32 5 E.t.cap else [] := by
    rw [hob, hbb]
    unfold Qn.wq
    simp
  have hpx := pfx_length 32 5 E.t.cap
  have H := Lib.hid h
  have HR := Lib.hid hR
  have HZ := Lib.hid hZ
  have HAX := Lib.hid hAX
  have HALOW := Lib.hid hAlow
  have HFM := Lib.hid hf
  have HB := Lib.hid hb
  have HT := Lib.hid hT
  have HBT := Lib.hid hbt
  have HBB := Lib.hid hbb
  have HOB := Lib.hid hob
  have HOB2 := Lib.hid hob2
  have HNO := Lib.hid hno
  clear h hR hZ hAX hAlow hf hb hT hbt hbb hob hob2 hno
  go_enter Try.func22, Try.ntmps22
  go_upto_region 2 with (fail)
  go_cut [41] from 27 (fun v41 w' => v41 = .bool bb ∧ w = w')
  case first =>
    as_aux_lemma =>
      cases hbg : E.begun with
      | true =>
        have hbf : bb = false := by rw [HBB.out, hbg]; rfl
        rw [hbg] at hy6
        clear hbg
        have HBF := Lib.hid hbf
        clear hbf
        go_wp2
        go_meet
        exact ⟨by rw [HBF.out], rfl⟩
      | false =>
        have hbf : bb = decide (0 < E.t.cap) := by rw [HBB.out, hbg]; rfl
        rw [hbg] at hy6
        clear hbg
        have HBF := Lib.hid hbf
        clear hbf
        by_cases hc0 : 0 < E.t.cap
        · have hc0i : (0 : Int) < (E.t.cap : Int) := by omega
          go_wp2
          go_meet
          exact ⟨by rw [HBF.out, decide_eq_true hc0], rfl⟩
        · have hc0i : ¬ (0 : Int) < (E.t.cap : Int) := by omega
          go_wp2
          go_meet
          exact ⟨by rw [HBF.out, decide_eq_false hc0], rfl⟩
  case rest =>
    obtain ⟨rfl, rfl⟩ := hcut
    have hwcap : IntKind.u64.wrap ((E.t.cap : Nat) : Int) = (E.t.cap : Nat) := IntWalk.u64_in _ (by omega)
    go_upto_if 41 with (fail)
    go_cut [8] from 42 (fun v8 w3 => ∃ (A8 : Option Addr) (c8 : Nat), v8 = .slice A8 ob.length c8 ∧ Hid (App (New w) w3 5 1 A8 ob.length c8 (bvs ob)) ∧ Hid (∀ k, M.blk A8 = some k → w.heap.size ≤ k ∧ k < w3.heap.size) ∧ Hid (Frm (New w) w w3))
    case first =>
      as_aux_lemma =>
        cases bb with
        | true =>
          have ho2 : ob = [] ++ pfx 32 5 E.t.cap := HOB2.out
          go_wp2_with (fail)
          refine (rprefix_nat (New w) [] none 0 32 5 E.t.cap w Up.new App.none_ (by simp) (by omega) (by omega) (by omega) (by omega)).mono ?_
          rintro e w9 ⟨A9, c9, rfl, hA9, hF9⟩
          rw [← ho2] at hA9 ⊢
          have hA11 : ∀ k, M.blk A9 = some k → w.heap.size ≤ k ∧ k < w9.heap.size := fun k hk => by
            refine ⟨hA9.inM k hk, ?_⟩
            have hp0 := pfx_pos 32 5 E.t.cap
            refine app_lt hA9 (fun e => ?_) k hk
            have := congrArg List.length e
            rw [bvs_length, ho2] at this
            simp at this
            rw [this] at hp0
            simp at hp0
          clear hy0 hy6 hz6 hpel ht1 hgl ho2
          have HA9 := Lib.hid hA9
          have HA11 := Lib.hid hA11
          have HF9 := Lib.hid hF9
          clear hA9 hA11 hF9
          go_wp2
          go_meet
          exact ⟨A9, c9, rfl, HA9, HA11, HF9⟩
        | false =>
          have ho2 : ob = [] := HOB2.out
          go_wp2
          go_meet
          exact ⟨none, 0, by rw [ho2]; rfl, Lib.hid (by rw [ho2]; exact App.none_), Lib.hid (fun k hk => by cases hk), Lib.hid (Frm.refl _ _)⟩
    case rest =>
      obtain ⟨A8, c8, rfl, hA8, hA8l, hF3⟩ := hcut
      rename World => w3
      have hO3 := H.out.fresh hF3.out
      clear hy0 hy6 hz6 hpel ht1 hgl HB HBT HT HBB
      have hb3 := hO3.blk
      have hy6 := hb3.cell 6
      simp only [List.getElem?_toArray, List.getElem?_cons_zero, List.getElem?_cons_succ] at hy6
      have hz6 := hb3.frozen 6
      have hpel := hb3.lt
      have hO4 := hO3.setbegun
      have hF4 : Frm (Own X w) w (w3.setCell ⟨pe, 6, none⟩ (.bool true)) := (hF3.out.mono (fun k hk => .inr hk)).setCell (p := ⟨pe, 6, none⟩) (.inl H.out.xp) _
      obtain ⟨E1, hE1⟩ : ∃ E1, E1 = { E with begun := true } := ⟨_, rfl⟩
      rw [← hE1] at hO4
      have hXw : ∀ k, X k → k < w.heap.size := H.out.low
      have hA84 := hA8.out.keep (M' := fun k => k = pe) (w' := w3.setCell ⟨pe, 6, none⟩ (.bool true)) ((Frm.refl (fun k => k = pe) w3).setCell (p := ⟨pe, 6, none⟩) rfl _) (fun k hk e => by have := (hA8l.out k hk).1; have := hXw pe H.out.xp; omega)
      have hA84l : ∀ k, M.blk A8 = some k → w.heap.size ≤ k ∧ k < (w3.setCell ⟨pe, 6, none⟩ (.bool true)).heap.size := fun k hk => ⟨(hA8l.out k hk).1, by have := (hA8l.out k hk).2; simpa using this⟩
      clear hA8 hA8l hF3
      have HO4 := Lib.hid hO4
      have HF4 := Lib.hid hF4
      have HE1 := Lib.hid hE1
      have HA84 := Lib.hid hA84
      have HA84L := Lib.hid hA84l
      have HB3 := Lib.hid hb3
      have HO3 := Lib.hid hO3
      clear hO4 hF4 hE1 hA84 hA84l hb3 hO3
      go_upto_region 5 with (fail)
      clear hy6 hz6 hpel HB3 HO3
      generalize w3.setCell ⟨pe, 6, none⟩ (.bool true) = w4 at *
      have hb4 := HO4.out.blk
      have hy1 := hb4.cell 1
      simp only [List.getElem?_toArray, List.getElem?_cons_zero, List.getElem?_cons_succ] at hy1
      have hpel := hb4.lt
      rw [HE1.out] at hy1
      simp only at hy1
      obtain ⟨fr, hfr⟩ : ∃ fr, fr = E.free s := ⟨_, rfl⟩
      have hst : ∀ n, Calls Try.prog 53 #[.pointer (some ⟨pe, 0, none⟩), .int .u64 (s : Int)] (w4.drewN n) fun e w' => e = .returned (.bool (E.stuck s)) ∧ ∃ m, w' = (w4.drewN n).drewN m := fun n => by
        have := oblocked_any (HO4.out.fresh ((Frm.refl (New w4) w4).drewN n)) s
        rw [HE1.out] at this
        exact this
      have hmn : ∀ n, Calls Try.prog 54 #[.pointer (some ⟨pe, 0, none⟩)] (w4.drewN n) fun e w' => e = .returned (.int .i64 (E.many : Nat)) ∧ ∃ m, w' = (w4.drewN n).drewN m := fun n => by
        have := omany_any (HO4.out.fresh ((Frm.refl (New w4) w4).drewN n))
        rw [HE1.out] at this
        exact this
      have HB4 := Lib.hid hb4
      have HFR := Lib.hid hfr
      have HST := Lib.hid hst
      have HMN := Lib.hid hmn
      clear hb4 hfr hst hmn
      go_cut [10] from 55 (fun v10 w5 => v10 = .bool fr ∧ ∃ n, w5 = w4.drewN n)
      case first =>
        as_aux_lemma =>
          have hSw : ∀ n, (w4.drewN n).cell? ⟨pe, 1, none⟩ = some (.int .i64 (E.blk : Int)) ∧ pe < (w4.drewN n).heap.size := fun n => ⟨hy1, hpel⟩
          have hS0 := hSw 1
          refine wp_region_held (by kernel_rfl) (S := fun w' => w'.cell? ⟨pe, 1, none⟩ = some (.int .i64 (E.blk : Int)) ∧ pe < w'.heap.size) ?_
          change wpAnyH _ _ _ _ _ _ _ _ (w4.drewN 1)
          refine wpAnyH_takeB (i := 0) (v := ?_) (d := some 55) rfl (by rfl) (by kernel_rfl) (fun _ _ _ h => h) (by rfl) hS0 (fun w hSw => ?_) ?_
          rotate_left
          · (try dsimp only at hSw); (try subst hSw); go_simp; first | done | (with_reducible rfl)
          simp only [Act.put, List.setIfInBounds_toArray, List.set_cons_zero, List.set_cons_succ]
          refine wpAnyH_takeB (i := 1) (v := ?_) (d := some 56) rfl (by rfl) (by kernel_rfl) (fun _ _ _ h => h) (by rfl) hS0 (fun w hSw => ?_) ?_
          rotate_left
          · (try dsimp only at hSw); (try subst hSw); go_simp; first | done | (with_reducible rfl)
          simp only [Act.put, List.setIfInBounds_toArray, List.set_cons_zero, List.set_cons_succ]
          refine wpAnyH_oneB (i := 2) rfl (by kernel_rfl) (fun K hKK => ?_)
          refine Eq.mpr (if_pos (by rfl)) ?_
          go_wp2_with (fail)
          refine (HST.out 1).mono ?_
          rintro e w5 ⟨rfl, m, rfl⟩
          have hS1 := hSw (1 + m)
          refine hKK.out _ _ hS1 ?_
          clear hKK K
          try simp only [Act.put, List.setIfInBounds_toArray, List.set_cons_zero, List.set_cons_succ]
          cases hsk : E.stuck s with
          | true =>
            have hff : fr = true := by rw [HFR.out]; unfold Qn.free; rw [hsk]; rfl
            refine wpAnyH_takeB (i := 3) (v := ?_) (d := some 58) rfl (by rfl) (by kernel_rfl) (fun _ _ _ h => h) (by rfl) hS1 (fun w hSw => ?_) ?_
            rotate_left
            · (try dsimp only at hSw); (try subst hSw); go_simp; first | done | (with_reducible rfl)
            simp only [Act.put, List.setIfInBounds_toArray, List.set_cons_zero, List.set_cons_succ]
            refine wpAnyH_skipC (i := 4) (d := some 59) rfl (by rfl) (by kernel_rfl) (fun _ _ _ h => h) (by rfl) hS1 ?_
            simp only [Act.put, List.setIfInBounds_toArray, List.set_cons_zero, List.set_cons_succ]
            refine wpAnyH_skipC (i := 5) (d := some 60) rfl (by rfl) (by kernel_rfl) (fun _ _ _ h => h) (by rfl) hS1 ?_
            simp only [Act.put, List.setIfInBounds_toArray, List.set_cons_zero, List.set_cons_succ]
            refine wpAnyH_skipC (i := 6) (d := some 61) rfl (by rfl) (by kernel_rfl) (fun _ _ _ h => h) (by rfl) hS1 ?_
            simp only [Act.put, List.setIfInBounds_toArray, List.set_cons_zero, List.set_cons_succ]
            refine wpAnyH_skipC (i := 7) (d := some 62) rfl (by rfl) (by kernel_rfl) (fun _ _ _ h => h) (by rfl) hS1 ?_
            simp only [Act.put, List.setIfInBounds_toArray, List.set_cons_zero, List.set_cons_succ]
            refine wpAnyH_skipC (i := 8) (d := some 63) rfl (by rfl) (by kernel_rfl) (fun _ _ _ h => h) (by rfl) hS1 ?_
            simp only [Act.put, List.setIfInBounds_toArray, List.set_cons_zero, List.set_cons_succ]
            refine wpAnyH_skipC (i := 9) (d := some 64) rfl (by rfl) (by kernel_rfl) (fun _ _ _ h => h) (by rfl) hS1 ?_
            simp only [Act.put, List.setIfInBounds_toArray, List.set_cons_zero, List.set_cons_succ]
            refine wpAnyH_skipC (i := 10) (d := some 65) rfl (by rfl) (by kernel_rfl) (fun _ _ _ h => h) (by rfl) hS1 ?_
            simp only [Act.put, List.setIfInBounds_toArray, List.set_cons_zero, List.set_cons_succ]
            refine wpAnyH_takeB (i := 11) (v := ?_) (d := some 66) rfl (by rfl) (by kernel_rfl) (fun _ _ _ h => h) (by rfl) hS1 (fun w hSw => ?_) ?_
            rotate_left
            · (try dsimp only at hSw); (try subst hSw); go_simp; first | done | (with_reducible rfl)
            simp only [Act.put, List.setIfInBounds_toArray, List.set_cons_zero, List.set_cons_succ]
            refine wpAnyH_oneB (i := 12) rfl (by kernel_rfl) (fun K hK => ?_)
            refine Eq.mpr (if_pos (by rfl)) ?_
            go_simp
            refine hK.out _ _ (hS1) ?_
            clear hK K
            try simp only [Act.put, List.setIfInBounds_toArray, List.set_cons_zero, List.set_cons_succ]
            refine wpAnyH_done (by kernel_rfl) ?_ _
            go_wp2
            go_meet
            exact ⟨by rw [hff], 1 + m, rfl⟩
          | false =>
            have hff : fr = decide (E.many < E.blk) := by rw [HFR.out]; unfold Qn.free; rw [hsk]; rfl
            refine wpAnyH_takeB (i := 3) (v := ?_) (d := some 58) rfl (by rfl) (by kernel_rfl) (fun _ _ _ h => h) (by rfl) hS1 (fun w hSw => ?_) ?_
            rotate_left
            · (try dsimp only at hSw); (try subst hSw); go_simp; first | done | (with_reducible rfl)
            simp only [Act.put, List.setIfInBounds_toArray, List.set_cons_zero, List.set_cons_succ]
            refine wpAnyH_takeB (i := 4) (v := ?_) (d := some 59) rfl (by rfl) (by kernel_rfl) (fun _ _ _ h => h) (by rfl) hS1 (fun w hSw => ?_) ?_
            rotate_left
            · (try dsimp only at hSw); (try subst hSw); go_simp; first | done | (with_reducible rfl)
            simp only [Act.put, List.setIfInBounds_toArray, List.set_cons_zero, List.set_cons_succ]
            refine wpAnyH_takeB (i := 6) (v := ?_) (d := some 61) rfl (by rfl) (by kernel_rfl) (fun _ _ _ h => h) (by rfl) hS1 (fun w hSw => ?_) ?_
            rotate_left
            · (try dsimp only at hSw); (try subst hSw); go_simp; first | done | (with_reducible rfl)
            simp only [Act.put, List.setIfInBounds_toArray, List.set_cons_zero, List.set_cons_succ]
            refine wpAnyH_takeB (i := 7) (v := ?_) (d := some 62) rfl (by rfl) (by kernel_rfl) (fun _ _ _ h => h) (by rfl) hS1 (fun w hSw => ?_) ?_
            rotate_left
            · (try dsimp only at hSw); (try subst hSw); go_simp; first | done | (with_reducible rfl)
            simp only [Act.put, List.setIfInBounds_toArray, List.set_cons_zero, List.set_cons_succ]
            refine wpAnyH_takeB (i := 8) (v := ?_) (d := some 63) rfl (by rfl) (by kernel_rfl) (fun _ _ _ h => h) (by rfl) hS1 (fun w hSw => ?_) ?_
            rotate_left
            · (try dsimp only at hSw); (try subst hSw); go_simp; first | done | (with_reducible rfl)
            simp only [Act.put, List.setIfInBounds_toArray, List.set_cons_zero, List.set_cons_succ]
            refine wpAnyH_takeB (i := 9) (v := ?_) (d := some 64) rfl (by rfl) (by kernel_rfl) (fun _ _ _ h => h) (by rfl) hS1 (fun w hSw => ?_) ?_
            rotate_left
            · (try dsimp only at hSw); (try subst hSw); go_simp; first | done | (with_reducible rfl)
            simp only [Act.put, List.setIfInBounds_toArray, List.set_cons_zero, List.set_cons_succ]
            refine wpAnyH_oneB (i := 5) rfl (by kernel_rfl) (fun K hKK => ?_)
            refine Eq.mpr (if_pos (by rfl)) ?_
            go_wp2_with (fail)
            refine (HMN.out (1 + m)).mono ?_
            rintro e w6 ⟨rfl, m2, rfl⟩
            have hS2 := hSw (1 + m + m2)
            refine hKK.out _ _ hS2 ?_
            clear hKK K
            try simp only [Act.put, List.setIfInBounds_toArray, List.set_cons_zero, List.set_cons_succ]
            by_cases hmb : E.many < E.blk
            · have hmbi : ((E.many : Nat) : Int) < (E.blk : Int) := by omega
              refine wpAnyH_takeB (i := 10) (v := .bool true) (d := some 65) rfl (by rfl) (by kernel_rfl) (fun _ _ _ h => h) (by rfl) hS2 (fun w hSw => by go_simp) ?_
              simp only [Act.put, List.setIfInBounds_toArray, List.set_cons_zero, List.set_cons_succ]
              refine wpAnyH_takeB (i := 11) (v := ?_) (d := some 66) rfl (by rfl) (by kernel_rfl) (fun _ _ _ h => h) (by rfl) hS2 (fun w hSw => ?_) ?_
              rotate_left
              · (try dsimp only at hSw); (try subst hSw); go_simp; first | done | (with_reducible rfl)
              simp only [Act.put, List.setIfInBounds_toArray, List.set_cons_zero, List.set_cons_succ]
              refine wpAnyH_oneB (i := 12) rfl (by kernel_rfl) (fun K hK => ?_)
              refine Eq.mpr (if_pos (by rfl)) ?_
              go_simp
              refine hK.out _ _ (hS2) ?_
              clear hK K
              try simp only [Act.put, List.setIfInBounds_toArray, List.set_cons_zero, List.set_cons_succ]
              refine wpAnyH_done (by kernel_rfl) ?_ _
              go_wp2
              go_meet
              exact ⟨by rw [hff, decide_eq_true hmb], 1 + m + m2, rfl⟩
            · have hmbi : ¬ ((E.many : Nat) : Int) < (E.blk : Int) := by omega
              refine wpAnyH_takeB (i := 10) (v := .bool false) (d := some 65) rfl (by rfl) (by kernel_rfl) (fun _ _ _ h => h) (by rfl) hS2 (fun w hSw => by go_simp) ?_
              simp only [Act.put, List.setIfInBounds_toArray, List.set_cons_zero, List.set_cons_succ]
              refine wpAnyH_takeB (i := 11) (v := ?_) (d := some 66) rfl (by rfl) (by kernel_rfl) (fun _ _ _ h => h) (by rfl) hS2 (fun w hSw => ?_) ?_
              rotate_left
              · (try dsimp only at hSw); (try subst hSw); go_simp; first | done | (with_reducible rfl)
              simp only [Act.put, List.setIfInBounds_toArray, List.set_cons_zero, List.set_cons_succ]
              refine wpAnyH_oneB (i := 12) rfl (by kernel_rfl) (fun K hK => ?_)
              refine Eq.mpr (if_pos (by rfl)) ?_
              go_simp
              refine hK.out _ _ (hS2) ?_
              clear hK K
              try simp only [Act.put, List.setIfInBounds_toArray, List.set_cons_zero, List.set_cons_succ]
              refine wpAnyH_done (by kernel_rfl) ?_ _
              go_wp2
              go_meet
              exact ⟨by rw [hff, decide_eq_false hmb], 1 + m + m2, rfl⟩
      case rest =>
        obtain ⟨rfl, nq, hw5⟩ := hcut
        rename World => w5
        have hF45 : Frm (New w4) w4 w5 := by rw [hw5]; exact (Frm.refl _ _).drewN nq
        clear hw5 hy1 hpel HST HMN HB4
        go_wp2_with (fail)
        refine (h3s_any w5).mono ?_
        rintro e w6 ⟨gs, rfl, hgs, hBs, hF56⟩
        have hF46 := hF45.then_new Up.new hF56
        have hST6 : Rd w6 (some ⟨gs, 0, none⟩) (fvs h3tab) := by have := hBs.rd; simpa using this
        have hE6 : OeM w w6 X (fun k => X k ∨ k = gs) (fun k => k = gs) pe g S Ao co ol Ar cr E1 A8 c8 none 0 none 0 (allN E (E.free s) E.wq (l.take 0)) := by
          have h46 := hF46.size
          have hgs4 : w4.heap.size ≤ gs := Nat.le_trans hF45.size hgs
          have hgl6 : gs < w6.heap.size := hBs.lt
          refine { on := ?_, ow := ?_, zx := ?_, frm := HF4.out.then_new (fun k hk => .inr hk) hF46, sub := ?_ }
          · have h6 := HO4.out.fresh hF46
            have e6 : ({ E1 with t := (allN E (E.free s) E.wq (l.take 0)).t } : Qn) = E1 := by rw [HE1.out]; rfl
            rw [e6]
            exact h6.more (fun k hk => .inl hk) (fun k hk => by
              rcases hk with hk | hk
              · exact h6.low k hk
              · exact hk ▸ hgl6)
          · have ha := (HA84.out.fresh hF46).mono (M' := fun _ => True) (fun _ _ => trivial)
            rw [HOB.out] at ha
            exact { ins := ha, use_ := App.none_, all := App.none_
                    d8 := fun k hk => ⟨(HA84L.out k hk).1, Nat.lt_of_lt_of_le (HA84L.out k hk).2 h46, fun e => by
                      have h1 := HA84L.out k hk
                      rcases e with e | e
                      · have := hXw k e; omega
                      · omega, fun e => (by cases e), fun e => (by cases e)⟩
                    d12 := fun k hk => (by cases hk)
                    d14 := fun k hk => (by cases hk)
                    lx := fun k hk => by
                      rcases hk with hk | hk
                      · exact Nat.lt_of_lt_of_le (Nat.lt_of_lt_of_le (hXw k hk) HF4.out.size) h46
                      · exact hk ▸ hgl6
                    lw := Nat.le_trans HF4.out.size h46 }
          · intro k hk
            exact ⟨.inr hk, fun e => by have := hXw k (H.out.xs k e); have := HF4.out.size; omega⟩
          · intro k hk
            rcases hk with hk | hk
            · exact .inl hk
            · exact .inr (by have := HF4.out.size; show _ ≤ _; omega)
        have hob8 : (.slice A8 ob.length c8 : Value) = .slice A8 (allN E (E.free s) E.wq (l.take 0)).out.length c8 := by rw [HOB.out]; rfl
        have hinv0 := wq_inv E H.out.ok (fun f => f.1.length + f.2.length ≤ 100000)
        clear hBs hF56 hgs hF46 hF45 HA84 HA84L HF4 HO4 hwcap
        have HST6 := Lib.hid hST6
        have HE6 := Lib.hid hE6
        have HOB8 := Lib.hid hob8
        have HINV0 := Lib.hid hinv0
        clear hST6 hE6 hob8 hinv0
        go_wp2_with (fail)
        go_loopg [8, 12, 13, 14, 15] l.length (fun kk v8 v12 v13 v14 v15 wx => ∃ (i : Nat) (X1 S1 : Nat → Prop) (A8 : Option Addr) (c8 : Nat) (A12 : Option Addr) (c12 : Nat) (A14 : Option Addr) (c14 : Nat) (Wi : Wq), v8 = .slice A8 Wi.out.length c8 ∧ v12 = .slice A12 Wi.uses.length c12 ∧ v13 = .int .u64 (Wi.count : Int) ∧ v14 = .slice A14 Wi.lines.length c14 ∧ v15 = .int .i64 (i : Int) ∧ i + kk = l.length ∧ Hid (Wi = allN E (E.free s) E.wq (l.take i)) ∧ Hid (OeM w wx X X1 (fun k => k = gs) pe g S1 Ao co ol Ar cr E1 A8 c8 A12 c12 A14 c14 Wi) ∧ Hid (Rd wx (some ⟨gs, 0, none⟩) (fvs h3tab)))
        case atStart => exact ⟨0, _, _, A8, c8, none, 0, none, 0, _, HOB8.out, rfl, rfl, rfl, rfl, by omega, Lib.hid rfl, HE6, HST6⟩
        case round =>
          clear HST6 HE6 HOB8
          obtain ⟨i, X1, S1, A8, c8, A12, c12, A14, c14, Wi, rfl, rfl, rfl, rfl, rfl, hi, hWi, hOE, hST⟩ := hrel
          rename World => wx
          by_cases hil : i < l.length
          · have hili : (i : Int) < (l.length : Int) := by omega
            have hinv := allN_inv (E := E) (E.free s) hcapE (l.take i) E.wq 0 HINV0.out (fun f hf => HFM.out f (List.mem_of_mem_take hf))
            rw [Nat.zero_add, List.length_take, Nat.min_eq_left (by omega), ← hWi.out] at hinv
            have hRx := HR.out.keep hOE.out.frm (fun k hk => HNO.out k hk (fun e => by rw [e] at hil; cases hil))
            obtain ⟨gA, oA, rfl, hjunk⟩ := hRx.at_ (k := i * 2) (by rw [fvs_length]; omega)
            clear hjunk
            obtain ⟨hc0, hc1⟩ := fld_cells hRx i hil
            have hgl := World.block_lt_of_cell? _ _ hc0
            simp only at hgl
            have htk : allN E (E.free s) E.wq (l.take (i + 1)) = oneN E (E.free s) Wi l[i] := by
              rw [List.take_add_one, List.getElem?_eq_getElem hil, hWi.out]
              exact allN_snoc E _ _ _ _
            have hfi := HFM.out l[i] (List.getElem_mem hil)
            generalize l[i] = f at *
            have hfs : fsize f ≤ 200000 := by unfold fsize; omega
            have hq1 := findS_le h3tab f
            have hfl := find_lt Wi.t hinv.ok f
            rw [h3_len.2.2] at hq1
            have hfin : ∀ w', Rd w' (some ⟨gs, 0, none⟩) (fvs h3tab) → Calls Try.prog 56 #[.slice (some ⟨gs, 0, none⟩) 99 99, fld f] w' fun e w2 => e = .returned (.tuple #[.int .i64 (findS h3tab f).1, .bool (findS h3tab f).2.1, .bool (findS h3tab f).2.2]) ∧ Frm (New w') w' w2 := fun w' hr => by
              have := findin_any h3tab f (some ⟨gs, 0, none⟩) 99 w' hr (by rw [h3_len.2.2]; omega)
              rw [h3_len.2.2] at this
              exact this
            have hll : Wi.lines.length ≤ 1000 := by have := hinv.ll; omega
            have hul : Wi.uses.length ≤ 1000 := by have := hinv.ul; omega
            have hol : Wi.out.length ≤ 30000000 := by have := hinv.ol; omega
            have htn : Wi.t.n < 1152921504606846976 := by have := hinv.tn; omega
            have htc : Wi.t.cap ≤ 4096 := by have := hinv.tc; omega
            have hctl : Wi.count ≤ 1152921504606846976 := by have := hinv.ct; omega
            obtain ⟨f1, f2⟩ := f
            obtain ⟨R, hRR⟩ : ∃ R, R = oneN E (E.free s) Wi (f1, f2) := ⟨_, rfl⟩
            rw [← hRR] at htk
            unfold oneN at hRR
            rw [← HFR.out] at hRR
            generalize findS h3tab (f1, f2) = q at *
            obtain ⟨q1, q2, q3⟩ := q
            simp only [str] at hc0 hc1 hfi
            simp only [fld, str] at hfin
            simp only at hRR hq1
            have HRX := Lib.hid hRx
            have HTK := Lib.hid htk
            have HINV := Lib.hid hinv
            have HRR := Lib.hid hRR
            have HFIN := Lib.hid hfin
            have HFL := Lib.hid hfl
            have HFS := Lib.hid hfs
            have HWI := Lib.hid hWi
            clear hRx htk hinv hRR hfin hfl hfs hWi
            go_upto_block 1 with (fail)
            go_cut [8, 12, 13, 14, 16, 17, 18, 19, 20, 21, 22, 23] from 74 to 191 (fun v8 v12 v13 v14 v16 v17 v18 v19 v20 v21 v22 v23 w' => ∃ (X2 S2 : Nat → Prop) (A8 : Option Addr) (c8 : Nat) (A12 : Option Addr) (c12 : Nat) (A14 : Option Addr) (c14 : Nat) (W2 : Wq), v8 = .slice A8 W2.out.length c8 ∧ v12 = .slice A12 W2.uses.length c12 ∧ v13 = .int .u64 (W2.count : Int) ∧ v14 = .slice A14 W2.lines.length c14 ∧ Hid (W2 = allN E (E.free s) E.wq (l.take (i + 1))) ∧ Hid (OeM w w' X X2 (fun k => k = gs) pe g S2 Ao co ol Ar cr E1 A8 c8 A12 c12 A14 c14 W2) ∧ Hid (Rd w' (some ⟨gs, 0, none⟩) (fvs h3tab)))
            case first =>
              go_wp2_with (fail)
              have hF1 : Frm (New wx) wx (wx.alloc (Obj.cells #[.string ⟨f1.toArray⟩, .string ⟨f2.toArray⟩] 71)) := (Frm.refl _ _).alloc Up.new _
              have hB1 := Blk.new wx 71 #[.string ⟨f1.toArray⟩, .string ⟨f2.toArray⟩]
              obtain ⟨bx, hbx⟩ : ∃ bx, bx = wx.heap.size := ⟨_, rfl⟩
              rw [← hbx] at hB1 ⊢
              have hE1 := hOE.out.hold (bx := bx) hF1 (by omega) hB1.lt
              have hST1 := hST.out.fresh hF1
              generalize wx.alloc (Obj.cells #[.string ⟨f1.toArray⟩, .string ⟨f2.toArray⟩] 71) = wy at *
              clear hF1 hbx hc0 hc1 hgl hOE hST
              refine (HFIN.out wy hST1).mono ?_
              rintro e w1 ⟨rfl, hF2⟩
              have HOE := Lib.hid (hE1.fresh hF2)
              have HST := Lib.hid (hST1.fresh hF2)
              have HBX := Lib.hid (hB1.fresh hF2)
              clear hE1 hST1 hB1 hF2 HFIN
              cases q3 with
              | true =>
                have hr := HRR.out
                simp only [if_true] at hr
                clear HRR
                have HRR : Hid (R = { Wi with lines := Wi.lines ++ [⟨0, q1, (f1, f2)⟩] }) := hr
                clear hr
                as_aux_lemma =>
                  obtain ⟨hx0, hx1, hbl⟩ : w1.cell? ⟨bx, 0, none⟩ = some (.string ⟨f1.toArray⟩) ∧ w1.cell? ⟨bx, 1, none⟩ = some (.string ⟨f2.toArray⟩) ∧ bx < w1.heap.size := ⟨HBX.out.cell 0, HBX.out.cell 1, HBX.out.lt⟩
                  go_wp2_with (refine wpList_append olE rfl rfl rfl (HOE.out.ow.all.tight.alloc _) (fun k hk => .inr (Nat.le_trans (by simp) hk)) rfl (Rd.new _ #[.int .i64 0, .int .u64 (q1 : Int), .string ⟨f1.toArray⟩, .string ⟨f2.toArray⟩] _) rfl (fun u hu => by simp at hu; rcases hu with rfl | rfl | rfl | rfl <;> rfl) (by omega) ?_; intro A9 c9 w9 hA9 hF9 _ _)
                  replace hF9 : Frm (fun k => M.blk A14 = some k ∨ New w1 k) w1 w9 := Frm.trans ((Frm.refl _ w1).alloc (fun k hk => .inr hk) _) hF9
                  replace hA9 : App (fun k => M.blk A14 = some k ∨ New w1 k) w9 109 4 A9 (Wi.lines.length + 1) c9 (olC (Wi.lines ++ [(⟨0, q1, (f1, f2)⟩ : Lq)])) := by rw [olC_append]; exact hA9
                  have hE9 := HOE.out.line (⟨0, q1, (f1, f2)⟩ : Lq) hA9 hF9
                  have hST9 := HST.out.keep hF9 (fun k hk => (HOE.out.zoff k (.inl (by cases hk; rfl))).1 A14 (fun k hk => (HOE.out.ow.d14 k hk).2.2.1))
                  have hW9 : ({ Wi with lines := Wi.lines ++ [⟨0, q1, (f1, f2)⟩] } : Wq) = allN E (E.free s) E.wq (l.take (i + 1)) := by rw [HTK.out]; exact HRR.out.symm
                  have hE9' := hE9.less (Z2 := fun k => k = gs) (fun k hk => .inl hk)
                  clear hE9
                  have HE9' := Lib.hid hE9'
                  have HST9 := Lib.hid hST9
                  have HW9 := Lib.hid hW9
                  clear hE9' hST9 hW9
                  clear hA9 hF9
                  go_meet
                  exact ⟨_, _, A8, c8, A12, c12, A9, c9, { Wi with lines := Wi.lines ++ [⟨0, q1, (f1, f2)⟩] }, rfl, rfl, rfl, by rw [List.length_append]; rfl, HW9, HE9', HST9⟩
              | false =>
                as_aux_lemma =>
                  have hr := HRR.out
                  simp only [Bool.false_eq_true, if_false] at hr
                  clear HRR
                  have HRR := Lib.hid hr
                  clear hr
                  have hfd : Calls Try.prog 57 #[.pointer (some ⟨g, 0, none⟩), .agg #[.string ⟨f1.toArray⟩, .string ⟨f2.toArray⟩]] w1.drew fun e w2 => e = .returned (.tuple #[.int .u64 (Wi.t.find (f1, f2)).1, .bool (Wi.t.find (f1, f2)).2.1, .bool (Wi.t.find (f1, f2)).2.2]) ∧ Frm (New w1.drew) w1.drew w2 := by
                    have := rfind_any (f1, f2) w1.drew (HOE.out.on.tab.fresh (Frm.refl _ w1).drew)
                    simp only [fld, str] at this
                    exact this
                  have hfl := HFL.out
                  generalize Wi.t.find (f1, f2) = z at *
                  obtain ⟨z1, z2, z3⟩ := z
                  simp only at hfd hfl
                  have hsw : ∀ w', Frm (New w1) w1 w' → w'.cell? ⟨pe, 0, none⟩ = some (.pointer (some ⟨g, 0, none⟩)) ∧ w'.cell? ⟨bx, 0, none⟩ = some (.string ⟨f1.toArray⟩) ∧ w'.cell? ⟨bx, 1, none⟩ = some (.string ⟨f2.toArray⟩) ∧ pe < w'.heap.size ∧ bx < w'.heap.size := fun w' fr => by
                    have k := HOE.out.on.blk.fresh fr
                    have b := HBX.out.fresh fr
                    exact ⟨k.cell 0, b.cell 0, b.cell 1, k.lt, b.lt⟩
                  have hS0 := hsw w1.drew ((Frm.refl _ _).drew)
                  clear HFL
                  have HFD := Lib.hid hfd
                  have HSW := Lib.hid hsw
                  clear hfd hsw
                  go_upto_region 17 with (fail)
                  refine wp_region_held (by kernel_rfl) (S := fun w' => w'.cell? ⟨pe, 0, none⟩ = some (.pointer (some ⟨g, 0, none⟩)) ∧ w'.cell? ⟨bx, 0, none⟩ = some (.string ⟨f1.toArray⟩) ∧ w'.cell? ⟨bx, 1, none⟩ = some (.string ⟨f2.toArray⟩) ∧ pe < w'.heap.size ∧ bx < w'.heap.size) ?_
                  change wpAnyH _ _ _ _ _ _ _ _ w1.drew
                  refine wpAnyH_takeB (i := 0) (v := ?_) (d := some 94) rfl (by rfl) (by kernel_rfl) (fun _ _ _ h => h) (by rfl) hS0 (fun w hSw => ?_) ?_
                  rotate_left
                  · (try dsimp only at hSw); (try subst hSw); go_simp; first | done | (with_reducible rfl)
                  simp only [Act.put, List.setIfInBounds_toArray, List.set_cons_zero, List.set_cons_succ]
                  refine wpAnyH_takeB (i := 1) (v := ?_) (d := some 95) rfl (by rfl) (by kernel_rfl) (fun _ _ _ h => h) (by rfl) hS0 (fun w hSw => ?_) ?_
                  rotate_left
                  · (try dsimp only at hSw); (try subst hSw); go_simp; first | done | (with_reducible rfl)
                  simp only [Act.put, List.setIfInBounds_toArray, List.set_cons_zero, List.set_cons_succ]
                  refine wpAnyH_takeB (i := 2) (v := ?_) (d := some 96) rfl (by rfl) (by kernel_rfl) (fun _ _ _ h => h) (by rfl) hS0 (fun w hSw => ?_) ?_
                  rotate_left
                  · (try dsimp only at hSw); (try subst hSw); go_simp; first | done | (with_reducible rfl)
                  simp only [Act.put, List.setIfInBounds_toArray, List.set_cons_zero, List.set_cons_succ]
                  refine wpAnyH_takeB (i := 3) (v := ?_) (d := some 97) rfl (by rfl) (by kernel_rfl) (fun _ _ _ h => h) (by rfl) hS0 (fun w hSw => ?_) ?_
                  rotate_left
                  · (try dsimp only at hSw); (try subst hSw); go_simp; first | done | (with_reducible rfl)
                  simp only [Act.put, List.setIfInBounds_toArray, List.set_cons_zero, List.set_cons_succ]
                  refine wpAnyH_takeB (i := 4) (v := ?_) (d := some 98) rfl (by rfl) (by kernel_rfl) (fun _ _ _ h => h) (by rfl) hS0 (fun w hSw => ?_) ?_
                  rotate_left
                  · (try dsimp only at hSw); (try subst hSw); go_simp; first | done | (with_reducible rfl)
                  simp only [Act.put, List.setIfInBounds_toArray, List.set_cons_zero, List.set_cons_succ]
                  refine wpAnyH_oneB (i := 5) rfl (by kernel_rfl) (fun K hKK => ?_)
                  refine Eq.mpr (if_pos (by rfl)) ?_
                  go_wp2_with (fail)
                  refine HFD.out.mono ?_
                  rintro e w2 ⟨rfl, hF2⟩
                  replace hF2 : Frm (New w1) w1 w2 := Frm.trans ((Frm.refl _ w1).drew) hF2
                  have hS2 := HSW.out w2 hF2
                  refine hKK.out _ _ hS2 ?_
                  clear hKK K hS0 HFD HSW
                  try simp only [Act.put, List.setIfInBounds_toArray, List.set_cons_zero, List.set_cons_succ]
                  refine wpAnyH_takeB (i := 6) (v := ?_) (d := some 93) rfl (by rfl) (by kernel_rfl) (fun _ _ _ h => h) (by rfl) hS2 (fun w hSw => ?_) ?_
                  rotate_left
                  · (try dsimp only at hSw); (try subst hSw); go_simp; first | done | (with_reducible rfl)
                  simp only [Act.put, List.setIfInBounds_toArray, List.set_cons_zero, List.set_cons_succ]
                  refine wpAnyH_takeB (i := 7) (v := ?_) (d := some 100) rfl (by rfl) (by kernel_rfl) (fun _ _ _ h => h) (by rfl) hS2 (fun w hSw => ?_) ?_
                  rotate_left
                  · (try dsimp only at hSw); (try subst hSw); go_simp; first | done | (with_reducible rfl)
                  simp only [Act.put, List.setIfInBounds_toArray, List.set_cons_zero, List.set_cons_succ]
                  refine wpAnyH_takeB (i := 8) (v := ?_) (d := some 101) rfl (by rfl) (by kernel_rfl) (fun _ _ _ h => h) (by rfl) hS2 (fun w hSw => ?_) ?_
                  rotate_left
                  · (try dsimp only at hSw); (try subst hSw); go_simp; first | done | (with_reducible rfl)
                  simp only [Act.put, List.setIfInBounds_toArray, List.set_cons_zero, List.set_cons_succ]
                  refine wpAnyH_takeB (i := 9) (v := ?_) (d := some 102) rfl (by rfl) (by kernel_rfl) (fun _ _ _ h => h) (by rfl) hS2 (fun w hSw => ?_) ?_
                  rotate_left
                  · (try dsimp only at hSw); (try subst hSw); go_simp; first | done | (with_reducible rfl)
                  simp only [Act.put, List.setIfInBounds_toArray, List.set_cons_zero, List.set_cons_succ]
                  refine wpAnyH_oneB (i := 10) rfl (by kernel_rfl) (fun K hK => ?_)
                  refine Eq.mpr (if_pos (by rfl)) ?_
                  go_simp
                  refine hK.out _ _ (hS2) ?_
                  clear hK K
                  try simp only [Act.put, List.setIfInBounds_toArray, List.set_cons_zero, List.set_cons_succ]
                  refine wpAnyH_oneB (i := 11) rfl (by kernel_rfl) (fun K hK => ?_)
                  refine Eq.mpr (if_pos (by rfl)) ?_
                  go_simp
                  refine hK.out _ _ (hS2) ?_
                  clear hK K
                  try simp only [Act.put, List.setIfInBounds_toArray, List.set_cons_zero, List.set_cons_succ]
                  refine wpAnyH_oneB (i := 12) rfl (by kernel_rfl) (fun K hK => ?_)
                  refine Eq.mpr (if_pos (by rfl)) ?_
                  go_simp
                  refine hK.out _ _ (hS2) ?_
                  clear hK K
                  try simp only [Act.put, List.setIfInBounds_toArray, List.set_cons_zero, List.set_cons_succ]
                  refine wpAnyH_done (by kernel_rfl) ?_ _
                  have hE2 := HOE.out.fresh hF2
                  have hST2 := HST.out.fresh hF2
                  have hBX2 := HBX.out.fresh hF2
                  clear HOE HST HBX hF2 hS2
                  have HOE := Lib.hid hE2
                  have HST := Lib.hid hST2
                  have HBX := Lib.hid hBX2
                  clear hE2 hST2 hBX2
                  have hbp := HOE.out.on.blk
                  simp only at hbp
                  have hp0 := hbp.cell 0
                  have hp2 := hbp.cell 2
                  simp only [List.getElem?_toArray, List.getElem?_cons_zero, List.getElem?_cons_succ] at hp0 hp2
                  have hpl := hbp.lt
                  rw [show E1.known = E.known by rw [HE1.out]] at hp2
                  have HBP := Lib.hid hbp
                  clear hbp
                  cases z3 with
                  | true =>
                    have hz1 := hfl rfl
                    cases hcd : (decide (z1 < E.known) || fr) with
                    | true =>
                      have hr := HRR.out
                      rw [if_pos rfl, hcd, if_pos rfl] at hr
                      clear HRR
                      have HRR := Lib.hid hr
                      clear hr
                      obtain ⟨p, hpe⟩ : ∃ p, p = z1 := ⟨_, rfl⟩
                      rw [← hpe] at HRR hz1 hcd ⊢
                      clear hpe
                      go_upto_region 18 with (fail)
                      go_cut [114] from 103 to 114 (fun v114 w' => v114 = .bool true ∧ w2 = w')
                      case first =>
                        by_cases hzk : p < E.known
                        · have hzki : (p : Int) < (E.known : Int) := by omega
                          go_wp2
                          go_meet
                          exact ⟨rfl, rfl⟩
                        · have hzki : ¬ (p : Int) < (E.known : Int) := by omega
                          have hfr1 : fr = true := by rw [decide_eq_false hzk, Bool.false_or] at hcd; exact hcd
                          subst hfr1
                          go_wp2
                          go_meet
                          exact ⟨rfl, rfl⟩
                      case rest =>
                        obtain ⟨rfl, rfl⟩ := hcut
                        clear hp0 hp2 hpl HBP
                        as_aux_lemma =>
                          obtain ⟨hx0, hx1, hbl⟩ : w2.cell? ⟨bx, 0, none⟩ = some (.string ⟨f1.toArray⟩) ∧ w2.cell? ⟨bx, 1, none⟩ = some (.string ⟨f2.toArray⟩) ∧ bx < w2.heap.size := ⟨HBX.out.cell 0, HBX.out.cell 1, HBX.out.lt⟩
                          go_upto_region 20 with (refine wpList_append olE rfl rfl rfl (HOE.out.ow.all.tight.alloc _) (fun k hk => .inr (Nat.le_trans (by simp) hk)) rfl (Rd.new _ #[.int .i64 1, .int .u64 (p : Int), .string ⟨f1.toArray⟩, .string ⟨f2.toArray⟩] _) rfl (fun u hu => by simp at hu; rcases hu with rfl | rfl | rfl | rfl <;> rfl) (by omega) ?_; intro A9 c9 w9 hA9 hF9 _ _)
                          replace hF9 : Frm (fun k => M.blk A14 = some k ∨ New w2 k) w2 w9 := Frm.trans ((Frm.refl _ w2).alloc (fun k hk => .inr hk) _) hF9
                          replace hA9 : App (fun k => M.blk A14 = some k ∨ New w2 k) w9 109 4 A9 (Wi.lines.length + 1) c9 (olC (Wi.lines ++ [(⟨1, p, (f1, f2)⟩ : Lq)])) := by rw [olC_append]; exact hA9
                          have hE9 := HOE.out.line (⟨1, p, (f1, f2)⟩ : Lq) hA9 hF9
                          have hST9 := HST.out.keep hF9 (fun k hk => (HOE.out.zoff k (.inl (by cases hk; rfl))).1 A14 (fun k hk => (HOE.out.ow.d14 k hk).2.2.1))
                          clear HOE HST hA9 hF9 hx0 hx1 hbl HBX
                          have HOE := Lib.hid hE9
                          have HST := Lib.hid hST9
                          clear hE9 hST9
                          have hp1 : IntKind.u64.wrap ((p : Int) + 1) = ((p + 1 : Nat) : Int) := by rw [IntWalk.u64_in _ (by omega)]; omega
                          obtain ⟨p1, hp1e⟩ : ∃ p1, p1 = p + 1 := ⟨_, rfl⟩
                          rw [← hp1e] at hp1
                          obtain ⟨ct, hcte⟩ : ∃ ct, ct = max Wi.count p1 := ⟨_, rfl⟩
                          have HP1E := Lib.hid hp1e
                          have HCTE := Lib.hid hcte
                          clear hp1e hcte
                          go_upto_region 21 with (refine wpList_append nmE rfl rfl rfl (HOE.out.ow.use_.tight.alloc _) (fun k hk => .inr (Nat.le_trans (by simp) hk)) rfl (Rd.new _ #[.int .u64 (p : Int)] _) rfl (fun u hu => by simp at hu; rcases hu with rfl; rfl) (by omega) ?_; intro A7 c7 w7 hA7 hF7 _ _)
                          replace hF7 : Frm (fun k => M.blk A12 = some k ∨ New w9 k) w9 w7 := Frm.trans ((Frm.refl _ w9).alloc (fun k hk => .inr hk) _) hF7
                          replace hA7 : App (fun k => M.blk A12 = some k ∨ New w9 k) w7 32 1 A7 (Wi.uses.length + 1) c7 (nmC (Wi.uses ++ [p])) := by rw [nmC_append]; exact hA7
                          have hE7 := (HOE.out.useq p ct hA7 hF7).less (Z2 := fun k => k = gs) (fun k hk => .inl hk)
                          have hST7 := HST.out.keep hF7 (fun k hk => (HOE.out.zoff k (.inl (by cases hk; rfl))).1 A12 (fun k hk => (HOE.out.ow.d12 k hk).2.2.1))
                          have hW7 : ({ Wi with lines := Wi.lines ++ [⟨1, p, (f1, f2)⟩], uses := Wi.uses ++ [p], count := ct } : Wq) = allN E (E.free s) E.wq (l.take (i + 1)) := by
                            rw [HTK.out, HRR.out]
                            unfold Wq.use
                            rw [show max Wi.count (p + 1) = ct by have := HCTE.out; have := HP1E.out; omega]
                          have HE7 := Lib.hid hE7
                          have HST7 := Lib.hid hST7
                          have HW7 := Lib.hid hW7
                          clear hE7 hST7 hW7
                          clear hA7 hF7
                          go_cut [13] from 125 to 128 (fun v13 w' => v13 = .int .u64 (ct : Int) ∧ w7 = w')
                          case first =>
                            by_cases hmx : Wi.count < p1
                            · have hmi : (Wi.count : Int) < (p1 : Int) := by omega
                              have hmj : ¬ (p1 : Int) ≤ (Wi.count : Int) := by omega
                              have hce : p1 = ct := by have := HCTE.out; omega
                              have HCE := Lib.hid hce
                              clear hce
                              go_wp2
                              go_meet
                              exact ⟨by rw [HCE.out], rfl⟩
                            · have hmi : ¬ (Wi.count : Int) < (p1 : Int) := by omega
                              have hmj : (p1 : Int) ≤ (Wi.count : Int) := by omega
                              have hce : Wi.count = ct := by have := HCTE.out; omega
                              have HCE := Lib.hid hce
                              clear hce
                              go_wp2
                              go_meet
                              exact ⟨by rw [HCE.out], rfl⟩
                          case rest =>
                            obtain ⟨rfl, rfl⟩ := hcut
                            go_wp2_with (fail)
                            go_meet
                            exact ⟨_, _, A8, c8, A7, c7, A9, c9, { Wi with lines := Wi.lines ++ [⟨1, p, (f1, f2)⟩], uses := Wi.uses ++ [p], count := ct }, rfl, by rw [List.length_append]; rfl, rfl, by rw [List.length_append]; rfl, HW7, HE7, HST7⟩
                    | false =>
                      have hr := HRR.out
                      rw [if_pos rfl, hcd, if_neg (by simp)] at hr
                      clear HRR
                      have HRR := Lib.hid hr
                      clear hr
                      have hzk : ¬ z1 < E.known := fun e => by rw [decide_eq_true e] at hcd; cases hcd
                      have hzki : ¬ (z1 : Int) < (E.known : Int) := by omega
                      have hfr1 : fr = false := by rw [decide_eq_false hzk, Bool.false_or] at hcd; exact hcd
                      subst hfr1
                      as_aux_lemma =>
                        cases q2 with
                        | true =>
                          obtain ⟨hx0, hx1, hbl⟩ : w2.cell? ⟨bx, 0, none⟩ = some (.string ⟨f1.toArray⟩) ∧ w2.cell? ⟨bx, 1, none⟩ = some (.string ⟨f2.toArray⟩) ∧ bx < w2.heap.size := ⟨HBX.out.cell 0, HBX.out.cell 1, HBX.out.lt⟩
                          go_wp2_with (refine wpList_append olE rfl rfl rfl (HOE.out.ow.all.tight.alloc _) (fun k hk => .inr (Nat.le_trans (by simp) hk)) rfl (Rd.new _ #[.int .i64 2, .int .u64 (q1 : Int), .string ⟨f1.toArray⟩, .string ⟨f2.toArray⟩] _) rfl (fun u hu => by simp at hu; rcases hu with rfl | rfl | rfl | rfl <;> rfl) (by omega) ?_; intro A9 c9 w9 hA9 hF9 _ _)
                          replace hF9 : Frm (fun k => M.blk A14 = some k ∨ New w2 k) w2 w9 := Frm.trans ((Frm.refl _ w2).alloc (fun k hk => .inr hk) _) hF9
                          replace hA9 : App (fun k => M.blk A14 = some k ∨ New w2 k) w9 109 4 A9 (Wi.lines.length + 1) c9 (olC (Wi.lines ++ [(⟨2, q1, (f1, f2)⟩ : Lq)])) := by rw [olC_append]; exact hA9
                          have hE9 := HOE.out.line (⟨2, q1, (f1, f2)⟩ : Lq) hA9 hF9
                          have hST9 := HST.out.keep hF9 (fun k hk => (HOE.out.zoff k (.inl (by cases hk; rfl))).1 A14 (fun k hk => (HOE.out.ow.d14 k hk).2.2.1))
                          have hW9 : ({ Wi with lines := Wi.lines ++ [⟨2, q1, (f1, f2)⟩] } : Wq) = allN E (E.free s) E.wq (l.take (i + 1)) := by rw [HTK.out]; exact HRR.out.symm
                          have hE9' := hE9.less (Z2 := fun k => k = gs) (fun k hk => .inl hk)
                          clear hE9
                          have HE9' := Lib.hid hE9'
                          have HST9 := Lib.hid hST9
                          have HW9 := Lib.hid hW9
                          clear hE9' hST9 hW9
                          clear hA9 hF9
                          go_meet
                          exact ⟨_, _, A8, c8, A12, c12, A9, c9, { Wi with lines := Wi.lines ++ [⟨2, q1, (f1, f2)⟩] }, rfl, rfl, rfl, by rw [List.length_append]; rfl, HW9, HE9', HST9⟩
                        | false =>
                          obtain ⟨hx0, hx1, hbl⟩ : w2.cell? ⟨bx, 0, none⟩ = some (.string ⟨f1.toArray⟩) ∧ w2.cell? ⟨bx, 1, none⟩ = some (.string ⟨f2.toArray⟩) ∧ bx < w2.heap.size := ⟨HBX.out.cell 0, HBX.out.cell 1, HBX.out.lt⟩
                          go_wp2_with (refine wpList_append olE rfl rfl rfl (HOE.out.ow.all.tight.alloc _) (fun k hk => .inr (Nat.le_trans (by simp) hk)) rfl (Rd.new _ #[.int .i64 3, .int .u64 0, .string ⟨f1.toArray⟩, .string ⟨f2.toArray⟩] _) rfl (fun u hu => by simp at hu; rcases hu with rfl | rfl | rfl | rfl <;> rfl) (by omega) ?_; intro A9 c9 w9 hA9 hF9 _ _)
                          replace hF9 : Frm (fun k => M.blk A14 = some k ∨ New w2 k) w2 w9 := Frm.trans ((Frm.refl _ w2).alloc (fun k hk => .inr hk) _) hF9
                          replace hA9 : App (fun k => M.blk A14 = some k ∨ New w2 k) w9 109 4 A9 (Wi.lines.length + 1) c9 (olC (Wi.lines ++ [(⟨3, q1, (f1, f2)⟩ : Lq)])) := by rw [olC_append]; exact hA9
                          have hE9 := HOE.out.line (⟨3, q1, (f1, f2)⟩ : Lq) hA9 hF9
                          have hST9 := HST.out.keep hF9 (fun k hk => (HOE.out.zoff k (.inl (by cases hk; rfl))).1 A14 (fun k hk => (HOE.out.ow.d14 k hk).2.2.1))
                          have hW9 : ({ Wi with lines := Wi.lines ++ [⟨3, q1, (f1, f2)⟩] } : Wq) = allN E (E.free s) E.wq (l.take (i + 1)) := by rw [HTK.out]; exact HRR.out.symm
                          have hE9' := hE9.less (Z2 := fun k => k = gs) (fun k hk => .inl hk)
                          clear hE9
                          have HE9' := Lib.hid hE9'
                          have HST9 := Lib.hid hST9
                          have HW9 := Lib.hid hW9
                          clear hE9' hST9 hW9
                          clear hA9 hF9
                          go_meet
                          exact ⟨_, _, A8, c8, A12, c12, A9, c9, { Wi with lines := Wi.lines ++ [⟨3, q1, (f1, f2)⟩] }, rfl, rfl, rfl, by rw [List.length_append]; rfl, HW9, HE9', HST9⟩
                  | false =>
                    clear hp0 hp2 hpl HBP hfl
                    have hr := HRR.out
                    rw [if_neg (by simp)] at hr
                    clear HRR
                    have hroom := oroom_any HOE.out.on (f1, f2) (by have := HFS.out; omega) Wi.uses A12 c12 HOE.out.ow.use_.rd (by omega)
                    rw [show ({ E1 with t := Wi.t } : Qn).room ({ E1 with t := Wi.t } : Qn).t Wi.uses (f1, f2) = E.room Wi.t Wi.uses (f1, f2) by rw [HE1.out]; exact room_both E _ _ _ _] at hroom
                    simp only [fld, str] at hroom
                    have hrc : E.room Wi.t Wi.uses (f1, f2) = true → fsize (f1, f2) ≤ Wi.t.cap := fun e => by
                      unfold Qn.room at e
                      by_cases hc : secret (f1, f2).1 = true ∨ Wi.t.cap / 4 < fsize (f1, f2)
                      · rw [if_pos hc] at e; cases e
                      · omega
                    generalize E.room Wi.t Wi.uses (f1, f2) = rb at *
                    have HRR := Lib.hid hr
                    clear hr
                    have HROOM := Lib.hid hroom
                    have HRC := Lib.hid hrc
                    clear hroom hrc
                    obtain ⟨hx0, hx1, hbl⟩ : w2.cell? ⟨bx, 0, none⟩ = some (.string ⟨f1.toArray⟩) ∧ w2.cell? ⟨bx, 1, none⟩ = some (.string ⟨f2.toArray⟩) ∧ bx < w2.heap.size := ⟨HBX.out.cell 0, HBX.out.cell 1, HBX.out.lt⟩
                    go_wp2_with (fail)
                    refine HROOM.out.mono ?_
                    rintro e w3 ⟨rfl, hF3⟩
                    have hE3 := HOE.out.fresh hF3
                    have hST3 := HST.out.fresh hF3
                    have hBX3 := HBX.out.fresh hF3
                    clear HOE HST HBX hF3 hx0 hx1 hbl HROOM
                    have HOE := Lib.hid hE3
                    have HST := Lib.hid hST3
                    have HBX := Lib.hid hBX3
                    clear hE3 hST3 hBX3
                    cases rb with
                    | false =>
                      have hr := HRR.out
                      rw [if_neg (by simp)] at hr
                      clear HRR
                      have HRR := Lib.hid hr
                      clear hr
                      as_aux_lemma =>
                        cases q2 with
                        | true =>
                          obtain ⟨hx0, hx1, hbl⟩ : w3.cell? ⟨bx, 0, none⟩ = some (.string ⟨f1.toArray⟩) ∧ w3.cell? ⟨bx, 1, none⟩ = some (.string ⟨f2.toArray⟩) ∧ bx < w3.heap.size := ⟨HBX.out.cell 0, HBX.out.cell 1, HBX.out.lt⟩
                          go_wp2_with (refine wpList_append olE rfl rfl rfl (HOE.out.ow.all.tight.alloc _) (fun k hk => .inr (Nat.le_trans (by simp) hk)) rfl (Rd.new _ #[.int .i64 2, .int .u64 (q1 : Int), .string ⟨f1.toArray⟩, .string ⟨f2.toArray⟩] _) rfl (fun u hu => by simp at hu; rcases hu with rfl | rfl | rfl | rfl <;> rfl) (by omega) ?_; intro A9 c9 w9 hA9 hF9 _ _)
                          replace hF9 : Frm (fun k => M.blk A14 = some k ∨ New w3 k) w3 w9 := Frm.trans ((Frm.refl _ w3).alloc (fun k hk => .inr hk) _) hF9
                          replace hA9 : App (fun k => M.blk A14 = some k ∨ New w3 k) w9 109 4 A9 (Wi.lines.length + 1) c9 (olC (Wi.lines ++ [(⟨2, q1, (f1, f2)⟩ : Lq)])) := by rw [olC_append]; exact hA9
                          have hE9 := HOE.out.line (⟨2, q1, (f1, f2)⟩ : Lq) hA9 hF9
                          have hST9 := HST.out.keep hF9 (fun k hk => (HOE.out.zoff k (.inl (by cases hk; rfl))).1 A14 (fun k hk => (HOE.out.ow.d14 k hk).2.2.1))
                          have hW9 : ({ Wi with lines := Wi.lines ++ [⟨2, q1, (f1, f2)⟩] } : Wq) = allN E (E.free s) E.wq (l.take (i + 1)) := by rw [HTK.out]; exact HRR.out.symm
                          have hE9' := hE9.less (Z2 := fun k => k = gs) (fun k hk => .inl hk)
                          clear hE9
                          have HE9' := Lib.hid hE9'
                          have HST9 := Lib.hid hST9
                          have HW9 := Lib.hid hW9
                          clear hE9' hST9 hW9
                          clear hA9 hF9
                          go_meet
                          exact ⟨_, _, A8, c8, A12, c12, A9, c9, { Wi with lines := Wi.lines ++ [⟨2, q1, (f1, f2)⟩] }, rfl, rfl, rfl, by rw [List.length_append]; rfl, HW9, HE9', HST9⟩
                        | false =>
                          obtain ⟨hx0, hx1, hbl⟩ : w3.cell? ⟨bx, 0, none⟩ = some (.string ⟨f1.toArray⟩) ∧ w3.cell? ⟨bx, 1, none⟩ = some (.string ⟨f2.toArray⟩) ∧ bx < w3.heap.size := ⟨HBX.out.cell 0, HBX.out.cell 1, HBX.out.lt⟩
                          go_wp2_with (refine wpList_append olE rfl rfl rfl (HOE.out.ow.all.tight.alloc _) (fun k hk => .inr (Nat.le_trans (by simp) hk)) rfl (Rd.new _ #[.int .i64 3, .int .u64 0, .string ⟨f1.toArray⟩, .string ⟨f2.toArray⟩] _) rfl (fun u hu => by simp at hu; rcases hu with rfl | rfl | rfl | rfl <;> rfl) (by omega) ?_; intro A9 c9 w9 hA9 hF9 _ _)
                          replace hF9 : Frm (fun k => M.blk A14 = some k ∨ New w3 k) w3 w9 := Frm.trans ((Frm.refl _ w3).alloc (fun k hk => .inr hk) _) hF9
                          replace hA9 : App (fun k => M.blk A14 = some k ∨ New w3 k) w9 109 4 A9 (Wi.lines.length + 1) c9 (olC (Wi.lines ++ [(⟨3, q1, (f1, f2)⟩ : Lq)])) := by rw [olC_append]; exact hA9
                          have hE9 := HOE.out.line (⟨3, q1, (f1, f2)⟩ : Lq) hA9 hF9
                          have hST9 := HST.out.keep hF9 (fun k hk => (HOE.out.zoff k (.inl (by cases hk; rfl))).1 A14 (fun k hk => (HOE.out.ow.d14 k hk).2.2.1))
                          have hW9 : ({ Wi with lines := Wi.lines ++ [⟨3, q1, (f1, f2)⟩] } : Wq) = allN E (E.free s) E.wq (l.take (i + 1)) := by rw [HTK.out]; exact HRR.out.symm
                          have hE9' := hE9.less (Z2 := fun k => k = gs) (fun k hk => .inl hk)
                          clear hE9
                          have HE9' := Lib.hid hE9'
                          have HST9 := Lib.hid hST9
                          have HW9 := Lib.hid hW9
                          clear hE9' hST9 hW9
                          clear hA9 hF9
                          go_meet
                          exact ⟨_, _, A8, c8, A12, c12, A9, c9, { Wi with lines := Wi.lines ++ [⟨3, q1, (f1, f2)⟩] }, rfl, rfl, rfl, by rw [List.length_append]; rfl, HW9, HE9', HST9⟩
                    | true =>
                      have hr := HRR.out
                      rw [if_pos rfl] at hr
                      clear HRR
                      have hfc := HRC.out rfl
                      have HRR := Lib.hid hr
                      clear hr HRC
                      as_aux_lemma =>
                        obtain ⟨o2, ho2⟩ : ∃ o2, o2 = Wi.out ++ (if q2 then pfx 192 6 q1 else strc 96 64 5 f1) := ⟨_, rfl⟩
                        have hqc : IntKind.u64.wrap ((q1 : Nat) : Int) = (q1 : Nat) := IntWalk.u64_in _ (by omega)
                        have hf1l : f1.length + f2.length ≤ 4096 := by unfold fsize at hfc; simp only at hfc; omega
                        obtain ⟨hx0, hx1, hbl⟩ : w3.cell? ⟨bx, 0, none⟩ = some (.string ⟨f1.toArray⟩) ∧ w3.cell? ⟨bx, 1, none⟩ = some (.string ⟨f2.toArray⟩) ∧ bx < w3.heap.size := ⟨HBX.out.cell 0, HBX.out.cell 1, HBX.out.lt⟩
                        have HO2 := Lib.hid ho2
                        clear ho2
                        go_upto_if 137 with (fail)
                        go_cut [8] from 137 to 145 (fun v8 w4 => ∃ (A4 : Option Addr) (c4 : Nat), v8 = .slice A4 o2.length c4 ∧ o2.length ≤ Wi.out.length + 25000 ∧ Hid (OeM w w4 X (fun k => X1 k ∨ k = bx) (fun k => k = gs ∨ k = bx) pe g S1 Ao co ol Ar cr E1 A4 c4 A12 c12 A14 c14 { Wi with out := o2 }) ∧ Hid (Rd w4 (some ⟨gs, 0, none⟩) (fvs h3tab)) ∧ Hid (Blk w4 bx 71 #[.string ⟨f1.toArray⟩, .string ⟨f2.toArray⟩]))
                        case first =>
                          cases q2 with
                          | true =>
                            have ho : o2 = Wi.out ++ pfx 192 6 q1 := HO2.out
                            have hpx := pfx_length 192 6 q1
                            have hpp0 := pfx_pos 192 6 q1
                            go_wp2_with (fail)
                            refine (rprefix_nat (fun k => M.blk A8 = some k ∨ New w3 k) Wi.out A8 c8 192 6 q1 w3 (fun k hk => .inr hk) HOE.out.ow.ins.tight (by omega) (by omega) (by omega) (by omega) (by omega)).mono ?_
                            rintro e w4 ⟨A4, c4, rfl, hA4, hF4⟩
                            rw [← ho] at hA4 ⊢
                            have hol2 : o2.length ≤ Wi.out.length + 25000 := by rw [ho, List.length_append]; omega
                            have hone : o2 ≠ [] := fun e => by rw [e] at ho; have := congrArg List.length ho; rw [List.length_append] at this; simp at this; omega
                            have hE4 := HOE.out.outq hone hA4 hF4
                            have hST4 := HST.out.keep hF4 (fun k hk => (HOE.out.zoff k (.inl (by cases hk; rfl))).1 A8 (fun k hk => (HOE.out.ow.d8 k hk).2.2.1))
                            have hBX4 := HBX.out.keep hF4 ((HOE.out.zoff bx (.inr rfl)).1 A8 (fun k hk => (HOE.out.ow.d8 k hk).2.2.1))
                            clear ho hA4 hF4 hx0 hx1 hbl HOE HST HBX hpx hpp0
                            have HE4 := Lib.hid hE4
                            have HST4 := Lib.hid hST4
                            have HBX4 := Lib.hid hBX4
                            clear hE4 hST4 hBX4
                            go_wp2
                            go_meet
                            exact ⟨A4, c4, rfl, hol2, HE4, HST4, HBX4⟩
                          | false =>
                            have ho : o2 = Wi.out ++ strc 96 64 5 f1 := HO2.out
                            have hpx := strc_le 96 64 5 f1
                            have hpp0 := strc_pos 96 64 5 f1
                            go_wp2_with (fail)
                            refine (putstr_any (fun k => M.blk A8 = some k ∨ New w3 k) Wi.out A8 c8 64 5 ⟨f1.toArray⟩ w3 (fun k hk => .inr hk) HOE.out.ow.ins.tight (by omega) (by show f1.toArray.size ≤ _; simp; omega) (by omega) (by omega) (by omega)).mono ?_
                            rw [show (64 : Nat) ||| 2 ^ 5 = 96 from rfl, show f1.toArray.toList = f1 from by simp]
                            rintro e w4 ⟨A4, c4, rfl, hA4, hF4⟩
                            rw [← ho] at hA4 ⊢
                            have hol2 : o2.length ≤ Wi.out.length + 25000 := by rw [ho, List.length_append]; omega
                            have hone : o2 ≠ [] := fun e => by rw [e] at ho; have := congrArg List.length ho; rw [List.length_append] at this; simp at this; omega
                            have hE4 := HOE.out.outq hone hA4 hF4
                            have hST4 := HST.out.keep hF4 (fun k hk => (HOE.out.zoff k (.inl (by cases hk; rfl))).1 A8 (fun k hk => (HOE.out.ow.d8 k hk).2.2.1))
                            have hBX4 := HBX.out.keep hF4 ((HOE.out.zoff bx (.inr rfl)).1 A8 (fun k hk => (HOE.out.ow.d8 k hk).2.2.1))
                            clear ho hA4 hF4 hx0 hx1 hbl HOE HST HBX hpx hpp0
                            have HE4 := Lib.hid hE4
                            have HST4 := Lib.hid hST4
                            have HBX4 := Lib.hid hBX4
                            clear hE4 hST4 hBX4
                            go_wp2
                            go_meet
                            exact ⟨A4, c4, rfl, hol2, HE4, HST4, HBX4⟩
                        case rest =>
                          obtain ⟨A4, c4, rfl, hol4, hOE, hST, hBX⟩ := hcut
                          rename World => w4
                          clear HOE HST HBX hx0 hx1 hbl hqc
                          have HOE := hOE
                          have HST := hST
                          have HBX := hBX
                          clear hOE hST hBX
                          obtain ⟨hx0, hx1, hbl⟩ : w4.cell? ⟨bx, 0, none⟩ = some (.string ⟨f1.toArray⟩) ∧ w4.cell? ⟨bx, 1, none⟩ = some (.string ⟨f2.toArray⟩) ∧ bx < w4.heap.size := ⟨HBX.out.cell 0, HBX.out.cell 1, HBX.out.lt⟩
                          obtain ⟨o3, ho3⟩ : ∃ o3, o3 = o2 ++ strc 128 0 7 f2 := ⟨_, rfl⟩
                          have hpx := strc_le 128 0 7 f2
                          have hpp0 := strc_pos 128 0 7 f2
                          have HO3 := Lib.hid ho3
                          clear ho3
                          go_wp2_with (fail)
                          refine (putstr_any (fun k => M.blk A4 = some k ∨ New w4 k) o2 A4 c4 0 7 ⟨f2.toArray⟩ w4 (fun k hk => .inr hk) HOE.out.ow.ins.tight (by omega) (by show f2.toArray.size ≤ _; simp; omega) (by omega) (by omega) (by omega)).mono ?_
                          rw [show (0 : Nat) ||| 2 ^ 7 = 128 from rfl, show f2.toArray.toList = f2 from by simp, ← HO3.out]
                          rintro e w5 ⟨A5, c5, rfl, hA5, hF5⟩
                          have hone3 : o3 ≠ [] := fun e => by have := HO3.out; rw [e] at this; have := congrArg List.length this; rw [List.length_append] at this; simp at this; omega
                          have hE5 := HOE.out.outq hone3 hA5 hF5
                          have hST5 := HST.out.keep hF5 (fun k hk => (HOE.out.zoff k (.inl (by cases hk; rfl))).1 A4 (fun k hk => (HOE.out.ow.d8 k hk).2.2.1))
                          have hBX5 := HBX.out.keep hF5 ((HOE.out.zoff bx (.inr rfl)).1 A4 (fun k hk => (HOE.out.ow.d8 k hk).2.2.1))
                          clear HOE HST HBX hA5 hF5 hx0 hx1 hbl
                          have HOE := Lib.hid hE5
                          have HST := Lib.hid hST5
                          have HBX := Lib.hid hBX5
                          clear hE5 hST5 hBX5
                          obtain ⟨hokA, hnA⟩ := Tb.add_ok HINV.out.ok hfc
                          have hadd := radd_any (g := g) (f1, f2) w5.drew (HOE.out.on.tab.fresh (Frm.refl _ w5).drew) htn (by have := HFS.out; omega) (by show Wi.t.cap ≤ _; omega)
                          simp only [fld, str] at hadd
                          have hsw : ∀ w', Frm (fun k => k = g ∨ New w5 k) w5 w' → w'.cell? ⟨pe, 0, none⟩ = some (.pointer (some ⟨g, 0, none⟩)) ∧ w'.cell? ⟨bx, 0, none⟩ = some (.string ⟨f1.toArray⟩) ∧ w'.cell? ⟨bx, 1, none⟩ = some (.string ⟨f2.toArray⟩) ∧ pe < w'.heap.size ∧ bx < w'.heap.size := fun w' fr => by
                            have k := HOE.out.on.blk.keep fr (fun e => by
                              rcases e with e | e
                              · exact HOE.out.on.ps (e ▸ HOE.out.on.tab.sg)
                              · have := HOE.out.on.blk.lt; unfold New at e; omega)
                            have b := HBX.out.keep fr ((HOE.out.zoff bx (.inr rfl)).2)
                            exact ⟨k.cell 0, b.cell 0, b.cell 1, k.lt, b.lt⟩
                          have hS0 := hsw w5.drew ((Frm.refl _ _).drew)
                          have HADD := Lib.hid hadd
                          have HSW := Lib.hid hsw
                          have HOKA := Lib.hid hokA
                          clear hadd hsw hokA
                          go_upto_region 27 with (fail)
                          refine wp_region_held (by kernel_rfl) (S := fun w' => w'.cell? ⟨pe, 0, none⟩ = some (.pointer (some ⟨g, 0, none⟩)) ∧ w'.cell? ⟨bx, 0, none⟩ = some (.string ⟨f1.toArray⟩) ∧ w'.cell? ⟨bx, 1, none⟩ = some (.string ⟨f2.toArray⟩) ∧ pe < w'.heap.size ∧ bx < w'.heap.size) ?_
                          change wpAnyH _ _ _ _ _ _ _ _ w5.drew
                          refine wpAnyH_takeB (i := 0) (v := ?_) (d := some 150) rfl (by rfl) (by kernel_rfl) (fun _ _ _ h => h) (by rfl) hS0 (fun w hSw => ?_) ?_
                          rotate_left
                          · (try dsimp only at hSw); (try subst hSw); go_simp; first | done | (with_reducible rfl)
                          simp only [Act.put, List.setIfInBounds_toArray, List.set_cons_zero, List.set_cons_succ]
                          refine wpAnyH_takeB (i := 1) (v := ?_) (d := some 151) rfl (by rfl) (by kernel_rfl) (fun _ _ _ h => h) (by rfl) hS0 (fun w hSw => ?_) ?_
                          rotate_left
                          · (try dsimp only at hSw); (try subst hSw); go_simp; first | done | (with_reducible rfl)
                          simp only [Act.put, List.setIfInBounds_toArray, List.set_cons_zero, List.set_cons_succ]
                          refine wpAnyH_takeB (i := 2) (v := ?_) (d := some 152) rfl (by rfl) (by kernel_rfl) (fun _ _ _ h => h) (by rfl) hS0 (fun w hSw => ?_) ?_
                          rotate_left
                          · (try dsimp only at hSw); (try subst hSw); go_simp; first | done | (with_reducible rfl)
                          simp only [Act.put, List.setIfInBounds_toArray, List.set_cons_zero, List.set_cons_succ]
                          refine wpAnyH_takeB (i := 3) (v := ?_) (d := some 153) rfl (by rfl) (by kernel_rfl) (fun _ _ _ h => h) (by rfl) hS0 (fun w hSw => ?_) ?_
                          rotate_left
                          · (try dsimp only at hSw); (try subst hSw); go_simp; first | done | (with_reducible rfl)
                          simp only [Act.put, List.setIfInBounds_toArray, List.set_cons_zero, List.set_cons_succ]
                          refine wpAnyH_takeB (i := 4) (v := ?_) (d := some 154) rfl (by rfl) (by kernel_rfl) (fun _ _ _ h => h) (by rfl) hS0 (fun w hSw => ?_) ?_
                          rotate_left
                          · (try dsimp only at hSw); (try subst hSw); go_simp; first | done | (with_reducible rfl)
                          simp only [Act.put, List.setIfInBounds_toArray, List.set_cons_zero, List.set_cons_succ]
                          refine wpAnyH_oneB (i := 5) rfl (by kernel_rfl) (fun K hKK => ?_)
                          refine Eq.mpr (if_pos (by rfl)) ?_
                          go_wp2_with (fail)
                          refine HADD.out.mono ?_
                          rintro e w6 ⟨⟨m6, rfl⟩, S2, hT6, hF6, hS26⟩
                          replace hF6 : Frm (fun k => k = g ∨ New w5 k) w5 w6 := Frm.trans ((Frm.refl _ w5).drew) hF6
                          have hS6 := HSW.out w6 hF6
                          refine hKK.out _ _ hS6 ?_
                          clear hKK K hS0
                          try simp only [Act.put, List.setIfInBounds_toArray, List.set_cons_zero, List.set_cons_succ]
                          refine wpAnyH_done (by kernel_rfl) ?_ _
                          have hE6 := HOE.out.tabq hT6 hF6 hS26 HOKA.out (by rw [Tb.add_cap]; exact htc) (by show (Wi.t.add (f1, f2)).n ≤ _; omega) (by show Wi.t.n ≤ (Wi.t.add (f1, f2)).n; omega)
                          have hST6 := HST.out.keep hF6 (fun k hk => (HOE.out.zoff k (.inl (by cases hk; rfl))).2)
                          have hBX6 := HBX.out.keep hF6 ((HOE.out.zoff bx (.inr rfl)).2)
                          have ho3e : o3 = Wi.out ++ insB (q1, q2, false) (f1, f2) := by
                            rw [HO3.out, HO2.out, List.append_assoc]
                            rfl
                          have hr := HRR.out
                          rw [show (Wi.t.add (f1, f2)).n - 1 = Wi.t.n by omega, ← ho3e] at hr
                          obtain ⟨T6, hT6e⟩ : ∃ T6, T6 = Wi.t.add (f1, f2) := ⟨_, rfl⟩
                          rw [← hT6e] at hr hT6 hnA hE6
                          obtain ⟨TA, Tc, hTA⟩ := hT6
                          have hbt := hTA.blk
                          rw [hnA] at hbt
                          have ht2 := hbt.cell 2
                          simp only [List.getElem?_toArray, List.getElem?_cons_zero, List.getElem?_cons_succ] at ht2
                          have hgl6 := hbt.lt
                          have hwn : IntKind.u64.wrap (((Wi.t.n + 1 : Nat) : Int) - 1) = (Wi.t.n : Int) := by rw [IntWalk.u64_in _ (by omega)]; omega
                          obtain ⟨p, hpe⟩ : ∃ p, p = Wi.t.n := ⟨_, rfl⟩
                          rw [← hpe] at hr hwn ht2 htn
                          generalize p + 1 = pn at *
                          obtain ⟨hp0, hx0, hx1, hpl, hbl⟩ := hS6
                          clear HOE HST HBX HRR HADD HSW hF6 hS26 hbt hTA ho3e hT6e
                          have HOE := Lib.hid hE6
                          have HST := Lib.hid hST6
                          have HBX := Lib.hid hBX6
                          have HRR := Lib.hid hr
                          clear hE6 hST6 hBX6 hr
                          have HPE := Lib.hid hpe
                          clear hpe
                          cases fr with
                          | true =>
                            have hr := HRR.out
                            rw [if_pos rfl] at hr
                            clear HRR
                            have HRR := Lib.hid hr
                            clear hr
                            go_upto_region 29 with (fail)
                            clear hp0 hpl ht2 hgl6 hwn hx0 hx1 hbl
                            obtain ⟨hx0, hx1, hbl⟩ : w6.cell? ⟨bx, 0, none⟩ = some (.string ⟨f1.toArray⟩) ∧ w6.cell? ⟨bx, 1, none⟩ = some (.string ⟨f2.toArray⟩) ∧ bx < w6.heap.size := ⟨HBX.out.cell 0, HBX.out.cell 1, HBX.out.lt⟩
                            go_upto_region 31 with (refine wpList_append olE rfl rfl rfl (HOE.out.ow.all.tight.alloc _) (fun k hk => .inr (Nat.le_trans (by simp) hk)) rfl (Rd.new _ #[.int .i64 1, .int .u64 (p : Int), .string ⟨f1.toArray⟩, .string ⟨f2.toArray⟩] _) rfl (fun u hu => by simp at hu; rcases hu with rfl | rfl | rfl | rfl <;> rfl) (by omega) ?_; intro A9 c9 w9 hA9 hF9 _ _)
                            replace hF9 : Frm (fun k => M.blk A14 = some k ∨ New w6 k) w6 w9 := Frm.trans ((Frm.refl _ w6).alloc (fun k hk => .inr hk) _) hF9
                            replace hA9 : App (fun k => M.blk A14 = some k ∨ New w6 k) w9 109 4 A9 (Wi.lines.length + 1) c9 (olC (Wi.lines ++ [(⟨1, p, (f1, f2)⟩ : Lq)])) := by rw [olC_append]; exact hA9
                            have hE9 := HOE.out.line (⟨1, p, (f1, f2)⟩ : Lq) hA9 hF9
                            have hST9 := HST.out.keep hF9 (fun k hk => (HOE.out.zoff k (.inl (by cases hk; rfl))).1 A14 (fun k hk => (HOE.out.ow.d14 k hk).2.2.1))
                            clear HOE HST hA9 hF9 hx0 hx1 hbl HBX
                            have HOE := Lib.hid hE9
                            have HST := Lib.hid hST9
                            clear hE9 hST9
                            have hp1 : IntKind.u64.wrap ((p : Int) + 1) = ((p + 1 : Nat) : Int) := by rw [IntWalk.u64_in _ (by omega)]; omega
                            obtain ⟨p1, hp1e⟩ : ∃ p1, p1 = p + 1 := ⟨_, rfl⟩
                            rw [← hp1e] at hp1
                            obtain ⟨ct, hcte⟩ : ∃ ct, ct = max Wi.count p1 := ⟨_, rfl⟩
                            have HP1E := Lib.hid hp1e
                            have HCTE := Lib.hid hcte
                            clear hp1e hcte
                            go_upto_region 32 with (refine wpList_append nmE rfl rfl rfl (HOE.out.ow.use_.tight.alloc _) (fun k hk => .inr (Nat.le_trans (by simp) hk)) rfl (Rd.new _ #[.int .u64 (p : Int)] _) rfl (fun u hu => by simp at hu; rcases hu with rfl; rfl) (by omega) ?_; intro A7 c7 w7 hA7 hF7 _ _)
                            replace hF7 : Frm (fun k => M.blk A12 = some k ∨ New w9 k) w9 w7 := Frm.trans ((Frm.refl _ w9).alloc (fun k hk => .inr hk) _) hF7
                            replace hA7 : App (fun k => M.blk A12 = some k ∨ New w9 k) w7 32 1 A7 (Wi.uses.length + 1) c7 (nmC (Wi.uses ++ [p])) := by rw [nmC_append]; exact hA7
                            have hE7 := (HOE.out.useq p ct hA7 hF7).less (Z2 := fun k => k = gs) (fun k hk => .inl hk)
                            have hST7 := HST.out.keep hF7 (fun k hk => (HOE.out.zoff k (.inl (by cases hk; rfl))).1 A12 (fun k hk => (HOE.out.ow.d12 k hk).2.2.1))
                            have hW7 : ({ Wi with t := T6, out := o3, lines := Wi.lines ++ [⟨1, p, (f1, f2)⟩], uses := Wi.uses ++ [p], count := ct } : Wq) = allN E (E.free s) E.wq (l.take (i + 1)) := by
                              rw [HTK.out, HRR.out]
                              unfold Wq.use
                              rw [show max Wi.count (p + 1) = ct by have := HCTE.out; have := HP1E.out; omega]
                            have HE7 := Lib.hid hE7
                            have HST7 := Lib.hid hST7
                            have HW7 := Lib.hid hW7
                            clear hE7 hST7 hW7
                            clear hA7 hF7
                            go_cut [13] from 175 to 178 (fun v13 w' => v13 = .int .u64 (ct : Int) ∧ w7 = w')
                            case first =>
                              by_cases hmx : Wi.count < p1
                              · have hmi : (Wi.count : Int) < (p1 : Int) := by omega
                                have hmj : ¬ (p1 : Int) ≤ (Wi.count : Int) := by omega
                                have hce : p1 = ct := by have := HCTE.out; omega
                                have HCE := Lib.hid hce
                                clear hce
                                go_wp2
                                go_meet
                                exact ⟨by rw [HCE.out], rfl⟩
                              · have hmi : ¬ (Wi.count : Int) < (p1 : Int) := by omega
                                have hmj : (p1 : Int) ≤ (Wi.count : Int) := by omega
                                have hce : Wi.count = ct := by have := HCTE.out; omega
                                have HCE := Lib.hid hce
                                clear hce
                                go_wp2
                                go_meet
                                exact ⟨by rw [HCE.out], rfl⟩
                            case rest =>
                              obtain ⟨rfl, rfl⟩ := hcut
                              go_wp2_with (fail)
                              go_meet
                              exact ⟨_, _, A5, c5, A7, c7, A9, c9, { Wi with t := T6, out := o3, lines := Wi.lines ++ [⟨1, p, (f1, f2)⟩], uses := Wi.uses ++ [p], count := ct }, rfl, by rw [List.length_append]; rfl, rfl, by rw [List.length_append]; rfl, HW7, HE7, HST7⟩
                          | false =>
                            have hr := HRR.out
                            rw [if_neg (by simp)] at hr
                            clear HRR
                            have HRR := Lib.hid hr
                            clear hr
                            go_upto_region 33 with (fail)
                            clear hp0 hpl ht2 hgl6 hwn hx0 hx1 hbl
                            cases q2 with
                            | true =>
                              obtain ⟨hx0, hx1, hbl⟩ : w6.cell? ⟨bx, 0, none⟩ = some (.string ⟨f1.toArray⟩) ∧ w6.cell? ⟨bx, 1, none⟩ = some (.string ⟨f2.toArray⟩) ∧ bx < w6.heap.size := ⟨HBX.out.cell 0, HBX.out.cell 1, HBX.out.lt⟩
                              go_wp2_with (refine wpList_append olE rfl rfl rfl (HOE.out.ow.all.tight.alloc _) (fun k hk => .inr (Nat.le_trans (by simp) hk)) rfl (Rd.new _ #[.int .i64 2, .int .u64 (q1 : Int), .string ⟨f1.toArray⟩, .string ⟨f2.toArray⟩] _) rfl (fun u hu => by simp at hu; rcases hu with rfl | rfl | rfl | rfl <;> rfl) (by omega) ?_; intro A9 c9 w9 hA9 hF9 _ _)
                              replace hF9 : Frm (fun k => M.blk A14 = some k ∨ New w6 k) w6 w9 := Frm.trans ((Frm.refl _ w6).alloc (fun k hk => .inr hk) _) hF9
                              replace hA9 : App (fun k => M.blk A14 = some k ∨ New w6 k) w9 109 4 A9 (Wi.lines.length + 1) c9 (olC (Wi.lines ++ [(⟨2, q1, (f1, f2)⟩ : Lq)])) := by rw [olC_append]; exact hA9
                              have hE9 := HOE.out.line (⟨2, q1, (f1, f2)⟩ : Lq) hA9 hF9
                              have hST9 := HST.out.keep hF9 (fun k hk => (HOE.out.zoff k (.inl (by cases hk; rfl))).1 A14 (fun k hk => (HOE.out.ow.d14 k hk).2.2.1))
                              have hW9 : ({ Wi with t := T6, out := o3, lines := Wi.lines ++ [⟨2, q1, (f1, f2)⟩] } : Wq) = allN E (E.free s) E.wq (l.take (i + 1)) := by rw [HTK.out]; exact HRR.out.symm
                              have hE9' := hE9.less (Z2 := fun k => k = gs) (fun k hk => .inl hk)
                              clear hE9
                              have HE9' := Lib.hid hE9'
                              have HST9 := Lib.hid hST9
                              have HW9 := Lib.hid hW9
                              clear hE9' hST9 hW9
                              clear hA9 hF9
                              go_meet
                              exact ⟨_, _, A5, c5, A12, c12, A9, c9, { Wi with t := T6, out := o3, lines := Wi.lines ++ [⟨2, q1, (f1, f2)⟩] }, rfl, rfl, rfl, by rw [List.length_append]; rfl, HW9, HE9', HST9⟩
                            | false =>
                              obtain ⟨hx0, hx1, hbl⟩ : w6.cell? ⟨bx, 0, none⟩ = some (.string ⟨f1.toArray⟩) ∧ w6.cell? ⟨bx, 1, none⟩ = some (.string ⟨f2.toArray⟩) ∧ bx < w6.heap.size := ⟨HBX.out.cell 0, HBX.out.cell 1, HBX.out.lt⟩
                              go_wp2_with (refine wpList_append olE rfl rfl rfl (HOE.out.ow.all.tight.alloc _) (fun k hk => .inr (Nat.le_trans (by simp) hk)) rfl (Rd.new _ #[.int .i64 3, .int .u64 0, .string ⟨f1.toArray⟩, .string ⟨f2.toArray⟩] _) rfl (fun u hu => by simp at hu; rcases hu with rfl | rfl | rfl | rfl <;> rfl) (by omega) ?_; intro A9 c9 w9 hA9 hF9 _ _)
                              replace hF9 : Frm (fun k => M.blk A14 = some k ∨ New w6 k) w6 w9 := Frm.trans ((Frm.refl _ w6).alloc (fun k hk => .inr hk) _) hF9
                              replace hA9 : App (fun k => M.blk A14 = some k ∨ New w6 k) w9 109 4 A9 (Wi.lines.length + 1) c9 (olC (Wi.lines ++ [(⟨3, q1, (f1, f2)⟩ : Lq)])) := by rw [olC_append]; exact hA9
                              have hE9 := HOE.out.line (⟨3, q1, (f1, f2)⟩ : Lq) hA9 hF9
                              have hST9 := HST.out.keep hF9 (fun k hk => (HOE.out.zoff k (.inl (by cases hk; rfl))).1 A14 (fun k hk => (HOE.out.ow.d14 k hk).2.2.1))
                              have hW9 : ({ Wi with t := T6, out := o3, lines := Wi.lines ++ [⟨3, q1, (f1, f2)⟩] } : Wq) = allN E (E.free s) E.wq (l.take (i + 1)) := by rw [HTK.out]; exact HRR.out.symm
                              have hE9' := hE9.less (Z2 := fun k => k = gs) (fun k hk => .inl hk)
                              clear hE9
                              have HE9' := Lib.hid hE9'
                              have HST9 := Lib.hid hST9
                              have HW9 := Lib.hid hW9
                              clear hE9' hST9 hW9
                              clear hA9 hF9
                              go_meet
                              exact ⟨_, _, A5, c5, A12, c12, A9, c9, { Wi with t := T6, out := o3, lines := Wi.lines ++ [⟨3, q1, (f1, f2)⟩] }, rfl, rfl, rfl, by rw [List.length_append]; rfl, HW9, HE9', HST9⟩
            case rest =>
              obtain ⟨X2, S2, A8, c8, A12, c12, A14, c14, W2, rfl, rfl, rfl, rfl, hW2, hO2, hS2⟩ := hcut
              rename World => w8
              clear hOE hST HRR HTK HFL HFIN
              go_wp2_with (fail)
              go_roundg (gk - 1)
              case measure => omega
              case rel => exact ⟨i + 1, _, _, A8, c8, A12, c12, A14, c14, W2, rfl, rfl, rfl, rfl, by rw [Int.natCast_add]; rfl, by omega, hW2, hO2, hS2⟩
          · have hili : ¬ (i : Int) < (l.length : Int) := by omega
            obtain rfl : i = l.length := by omega
            have hWi2 : Wi = allN E (E.free s) E.wq l := by have := hWi.out; rwa [List.take_length] at this
            have hinv := allN_inv (E := E) (E.free s) hcapE l E.wq 0 HINV0.out (fun f hf => HFM.out f hf)
            rw [Nat.zero_add, ← hWi2] at hinv
            have hZ2 : Z = ((Wi.out, prefQ Wi.count Wi.count E.t.cap ++ linesN Wi.count Wi.lines), { E with t := Wi.t, begun := true, opn := if 0 < Wi.count then E.opn ++ [⟨s, Wi.count, Wi.uses⟩] else E.opn }) := by
              rw [HZ.out, hWi2]
              rfl
            have hct : Wi.count ≤ 1152921504606846976 := by have h1 := hinv.ct; have h2 := hinv.tn; omega
            have hll : Wi.lines.length ≤ 1000 := by have := hinv.ll; omega
            have hul : Wi.uses.length ≤ 1000 := by have := hinv.ul; omega
            obtain ⟨b0, hb0⟩ : ∃ b0, b0 = prefQ Wi.count Wi.count E.t.cap := ⟨_, rfl⟩
            have hb0l := prefQ_le Wi.count Wi.count E.t.cap
            rw [← hb0] at hZ2 hb0l
            have hqp := rqpre_any (New wx) [] none 0 Wi.count Wi.count E.t.cap wx Up.new App.none_ (by simp) (by omega) (by omega) hcapE
            rw [List.nil_append, ← hb0] at hqp
            have hbw := hOE.out.on.blk
            have hy0 := hbw.cell 0
            simp only [List.getElem?_toArray, List.getElem?_cons_zero] at hy0
            have hpel := hbw.lt
            obtain ⟨At2, ct2, hT2⟩ := hOE.out.on.tab
            have hbt := hT2.blk
            have ht1 := hbt.cell 1
            simp only [List.getElem?_toArray, List.getElem?_cons_zero, List.getElem?_cons_succ] at ht1
            have hgl := hbt.lt
            rw [show ({ E1 with t := Wi.t } : Qn).t.cap = E.t.cap from hinv.tc] at ht1
            clear hT2 hWi2 hWi HZ HR HAX HALOW HNO HINV0 hST
            have HZ2 := Lib.hid hZ2
            have HINV := Lib.hid hinv
            have HB0 := Lib.hid hb0
            have HB0L := Lib.hid hb0l
            have HQP := Lib.hid hqp
            have HBW := Lib.hid hbw
            have HBT := Lib.hid hbt
            clear hZ2 hinv hb0 hb0l hqp hbw hbt
            go_wp2_with (fail)
            refine HQP.out.mono ?_
            rintro e wy ⟨A5, c5, rfl, hA5, hF5⟩
            clear hy0 hpel ht1 hgl HBW HBT HQP
            have HA5 := Lib.hid hA5
            have HF5 := Lib.hid hF5
            clear hA5 hF5
            go_wp2_with (fail)
            go_loopg [9, 24] Wi.lines.length (fun kk v9 v24 wz => ∃ (j : Nat) (b : Bytes) (A6 : Option Addr) (c6 : Nat), v24 = .int .i64 (j : Int) ∧ j + kk = Wi.lines.length ∧ v9 = .slice A6 b.length c6 ∧ b.length ≤ 100 + 600000 * j ∧ b ≠ [] ∧ Hid (b = b0 ++ linesN Wi.count (Wi.lines.take j)) ∧ Hid (App (New wx) wz 5 1 A6 b.length c6 (bvs b)) ∧ Hid (Frm (New wx) wx wz))
            case atStart => exact ⟨0, b0, A5, c5, rfl, by omega, rfl, HB0L.out.1, HB0L.out.2, Lib.hid (by simp [linesN]), HA5, HF5⟩
            case round =>
              clear HF5 HA5
              obtain ⟨j, b, A6, c6, rfl, hj, rfl, hbl, hbn, hbe, hA6, hF6⟩ := hrel
              rename World => wz
              by_cases hjl : j < Wi.lines.length
              · skip
                as_aux_lemma =>
                  have hjli : (j : Int) < (Wi.lines.length : Int) := by omega
                  have hNz := hOE.out.fresh hF6.out
                  have hRz : Rd wz A14 (olC Wi.lines) := hNz.ow.all.rd
                  obtain ⟨gA, oA, rfl, hjunk⟩ := hRz.at_ (k := j * 4) (by rw [olC_len]; omega)
                  clear hjunk
                  have key := elem_cells olC1 4 (fun _ => rfl) hRz j hjl
                  have htk : linesN Wi.count (Wi.lines.take (j + 1)) = linesN Wi.count (Wi.lines.take j) ++ lineN Wi.count Wi.lines[j] := by
                    unfold linesN
                    rw [List.take_succ_eq_append_getElem hjl, List.flatMap_append]
                    simp only [List.flatMap_cons, List.flatMap_nil, List.append_nil]
                  have hli := HINV.out.li _ (List.getElem_mem hjl)
                  have hlf := HINV.out.lf _ (List.getElem_mem hjl)
                  have hln := lineN_le Wi.count Wi.lines[j] hlf
                  have htn := HINV.out.tn
                  generalize Wi.lines[j] = x at *
                  obtain ⟨xk, xi, f1, f2⟩ := x
                  simp only at hli hlf
                  have hc0 := key 0 _ (by omega) rfl
                  have hc1 := key 1 _ (by omega) rfl
                  have hc2 := key 2 _ (by omega) rfl
                  have hc3 := key 3 _ (by omega) rfl
                  simp only [Nat.add_zero] at hc0
                  have hgl := World.block_lt_of_cell? _ _ hc0
                  simp only at hgl hc0 hc1 hc2 hc3
                  obtain ⟨pl, hpl⟩ : ∃ pl : Nat, pl = if xk = 3 then 0 else xi := ⟨_, rfl⟩
                  rw [← hpl] at hc1
                  clear key
                  have hx60 : xi ≤ 1152921504606846976 := by have h1 := hli.2; omega
                  have hx61 : f1.length + f2.length ≤ 100000 := hlf
                  have hx1c : xk = 1 → xi < Wi.count := hli.1
                  obtain ⟨b2, hb2⟩ : ∃ b2, b2 = b ++ lineN Wi.count ⟨xk, xi, (f1, f2)⟩ := ⟨_, rfl⟩
                  have hb2e : b2 = b0 ++ linesN Wi.count (Wi.lines.take (j + 1)) := by rw [hb2, hbe.out, htk, List.append_assoc]
                  have hb2l : b2.length ≤ 100 + 600000 * (j + 1) := by rw [hb2, List.length_append]; omega
                  have hb2n : b2 ≠ [] := fun e => hbn (by rw [hb2] at e; exact (List.append_eq_nil_iff.1 e).1)
                  clear hNz hRz htk hli hlf hln htn
                  have HPL := Lib.hid hpl
                  have HB2 := Lib.hid hb2
                  have HB2E := Lib.hid hb2e
                  have HB2N := Lib.hid hb2n
                  have HX1C := Lib.hid hx1c
                  clear hpl hb2 hb2e hb2n hx1c
                  go_upto_block 3 with (fail)
                  go_cut [9, 25, 26] from 208 to 259 (fun v9 v25 v26 w' => ∃ (A9 : Option Addr) (c9 : Nat), v9 = .slice A9 b2.length c9 ∧ Hid (App (New wx) w' 5 1 A9 b2.length c9 (bvs b2)) ∧ Hid (Frm (New wx) wx w'))
                  case rest =>
                    obtain ⟨A9, c9, rfl, hA9, hF9⟩ := hcut
                    rename World => w9
                    clear hc0 hc1 hc2 hc3 hgl hA6 hF6 hbe
                    go_wp2_with (fail)
                    go_roundg (gk - 1)
                    case measure => omega
                    case rel => exact ⟨j + 1, b2, A9, c9, by rw [Int.natCast_add]; rfl, by omega, rfl, hb2l, HB2N.out, HB2E, hA9, hF9⟩
                  go_wp2_with (fail)
                  have hFa : Frm (New wz) wz (wz.alloc (Obj.cells #[.int .i64 (xk : Int), .int .u64 (pl : Int), .string ⟨f1.toArray⟩, .string ⟨f2.toArray⟩] 109)) := (Frm.refl _ _).alloc Up.new _
                  have hBa := Blk.new wz 109 #[.int .i64 (xk : Int), .int .u64 (pl : Int), .string ⟨f1.toArray⟩, .string ⟨f2.toArray⟩]
                  obtain ⟨bx, hbx⟩ : ∃ bx, bx = wz.heap.size := ⟨_, rfl⟩
                  rw [← hbx] at hBa ⊢
                  have hA7 := hA6.out.fresh hFa
                  have hbxa : M.blk A6 ≠ some bx := fun e => by
                    have := app_lt hA6.out (by cases b with | nil => exact absurd rfl hbn | cons x t => simp [bvs]) bx e
                    omega
                  have hF7 := hF6.out.then_new Up.new hFa
                  generalize wz.alloc (Obj.cells #[.int .i64 (xk : Int), .int .u64 (pl : Int), .string ⟨f1.toArray⟩, .string ⟨f2.toArray⟩] 109) = wa at *
                  clear hFa hbx hc0 hc1 hc2 hc3 hgl hA6 hF6 hbe
                  have hsc := rsecret_any f1 wa
                  simp only [str] at hsc
                  refine hsc.mono ?_
                  rintro e w1 ⟨rfl, hw1⟩
                  rw [hw1]
                  clear hw1 w1 hsc
                  obtain ⟨sc, hsc⟩ : ∃ sc, sc = secret f1 := ⟨_, rfl⟩
                  rw [← hsc]
                  have hup : Up (New wx) wa := fun k hk => Nat.le_trans hF7.size hk
                  obtain ⟨sv, hsv⟩ : ∃ sv : Nat, sv = if sc = true then 1 else 0 := ⟨_, rfl⟩
                  have HSC := Lib.hid hsc
                  have HA7 := Lib.hid hA7
                  have HF7 := Lib.hid hF7
                  have HBA := Lib.hid hBa
                  have HUP := Lib.hid hup
                  have HSV := Lib.hid hsv
                  have HBXA := Lib.hid hbxa
                  clear hsc hA7 hF7 hBa hup hsv hbxa
                  go_upto_if 215 with (fail)
                  go_cut [26] from 216 to 216 (fun v26 w' => v26 = .int .u8 (sv : Int) ∧ w' = wa)
                  case first =>
                    cases sc with
                    | true =>
                      obtain rfl : sv = 1 := HSV.out
                      go_wp2
                      go_meet
                      exact ⟨rfl, rfl⟩
                    | false =>
                      obtain rfl : sv = 0 := HSV.out
                      go_wp2
                      go_meet
                      exact ⟨rfl, rfl⟩
                  case rest =>
                    obtain ⟨rfl, hwc⟩ := hcut
                    rename World => wc
                    rw [hwc]
                    clear hwc wc
                    have hx0 := HBA.out.cell 0
                    have hx1 := HBA.out.cell 1
                    have hx2 := HBA.out.cell 2
                    have hx3 := HBA.out.cell 3
                    simp only [List.getElem?_toArray, List.getElem?_cons_zero, List.getElem?_cons_succ] at hx0 hx1 hx2 hx3
                    have hbl := HBA.out.lt
                    have hb3 := hbl
                    by_cases k0 : xk = 0
                    · subst k0
                      obtain rfl : pl = xi := HPL.out
                      have e2 : b2 = b ++ pfx 192 6 pl := HB2.out
                      go_wp2_with (fail)
                      refine (rprefix_nat (New wx) b A6 c6 192 6 pl wa HUP.out HA7.out (by omega) (by omega) (by omega) (by omega) (by omega)).mono ?_
                      rintro e w3 ⟨A3, c3, rfl, hA3, hF3⟩
                      rw [← e2] at hA3 ⊢
                      have hF4 := HF7.out.trans hF3
                      clear e2 hF3
                      have HA3 := Lib.hid hA3
                      have HF4 := Lib.hid hF4
                      clear hA3 hF4
                      go_wp2
                      go_meet
                      exact ⟨A3, c3, rfl, HA3, HF4⟩
                    by_cases k1 : xk = 1
                    · subst k1
                      obtain rfl : pl = xi := HPL.out
                      have hlt := HX1C.out rfl
                      have e2 : b2 = b ++ pfx 128 6 (Wi.count - 1 - pl) := HB2.out
                      have hw1 : IntKind.u64.wrap ((Wi.count : Int) - 1) = ((Wi.count - 1 : Nat) : Int) := by rw [IntWalk.u64_in _ (by omega)]; omega
                      obtain ⟨q1, hq1⟩ : ∃ q1, q1 = Wi.count - 1 := ⟨_, rfl⟩
                      rw [← hq1] at hw1 e2
                      have hw2 : IntKind.u64.wrap ((q1 : Int) - (pl : Int)) = ((q1 - pl : Nat) : Int) := by rw [IntWalk.u64_in _ (by omega)]; omega
                      obtain ⟨q2, hq2⟩ : ∃ q2, q2 = q1 - pl := ⟨_, rfl⟩
                      rw [← hq2] at hw2 e2
                      have hql : q2 ≤ 1152921504606846976 := by omega
                      have HQ1 := Lib.hid hq1
                      have HQ2 := Lib.hid hq2
                      have E2 := Lib.hid e2
                      clear hq1 hq2 e2
                      go_wp2_with (fail)
                      refine (rprefix_nat (New wx) b A6 c6 128 6 q2 wa HUP.out HA7.out (by omega) (by omega) (by omega) (by omega) (by omega)).mono ?_
                      rintro e w3 ⟨A3, c3, rfl, hA3, hF3⟩
                      rw [← E2.out] at hA3 ⊢
                      have hF4 := HF7.out.trans hF3
                      clear hF3
                      have HA3 := Lib.hid hA3
                      have HF4 := Lib.hid hF4
                      clear hA3 hF4
                      go_wp2
                      go_meet
                      exact ⟨A3, c3, rfl, HA3, HF4⟩
                    by_cases k2 : xk = 2
                    · subst k2
                      obtain rfl : pl = xi := HPL.out
                      cases sc with
                      | true =>
                        obtain rfl : sv = 1 := HSV.out
                        have hpx := pfx_length 112 4 pl
                        have hbk : b2 = b ++ (pfx 112 4 pl ++ strc 128 0 7 f2) := by
                          have := HB2.out
                          unfold lineN at this
                          simp only [← HSC.out] at this
                          exact this
                        have HBK := Lib.hid hbk
                        clear hbk
                        go_wp2_with (fail)
                        refine (rprefix_nat (fun k => M.blk A6 = some k ∨ New wa k) b A6 c6 112 4 pl wa (fun k hk => .inr hk) HA7.out.tight (by omega) (by omega) (by omega) (by omega) (by omega)).mono ?_
                        rintro e w3 ⟨A3, c3, rfl, hA3, hF3⟩
                        obtain ⟨o2, ho2⟩ : ∃ o2, o2 = b ++ pfx 112 4 pl := ⟨_, rfl⟩
                        rw [← ho2] at hA3 ⊢
                        have hr : b2 = o2 ++ strc 128 0 7 f2 := by rw [HBK.out, ho2, List.append_assoc]
                        have hlen2 : o2.length ≤ 1099511600000 := by rw [ho2, List.length_append]; omega
                        have hb3 := HBA.out.keep hF3 (fun e => by
                          rcases e with e | e
                          · exact HBXA.out e
                          · have := HBA.out.lt; unfold New at e; omega)
                        have hF03 := HF7.out.trans (hF3.mono (fun k hk => by
                          rcases hk with e | e
                          · exact HA7.out.inM k e
                          · exact HUP.out k e))
                        replace hA3 := hA3.mono (M' := New wx) (fun k hk => by
                          rcases hk with e | e
                          · exact HA7.out.inM k e
                          · exact HUP.out k e)
                        clear hx0 hx1 hx2 hx3 hbl hF3
                        have hx3 := hb3.cell 3
                        simp only [List.getElem?_toArray, List.getElem?_cons_zero, List.getElem?_cons_succ] at hx3
                        have hbl := hb3.lt
                        have HA3 := Lib.hid hA3
                        have HF03 := Lib.hid hF03
                        have HB3 := Lib.hid hb3
                        have HR := Lib.hid hr
                        have HO2 := Lib.hid ho2
                        clear hA3 hF03 hb3 hr ho2
                        go_wp2_with (fail)
                        refine (putstr_any (New wx) o2 A3 c3 0 7 ⟨f2.toArray⟩ w3 (fun k hk => Nat.le_trans HF03.out.size hk) HA3.out (by omega) (by show f2.toArray.size ≤ _; simp; omega) (by omega) (by omega) (by omega)).mono ?_
                        rw [show (0 : Nat) ||| 2 ^ 7 = 128 from rfl, show f2.toArray.toList = f2 from by simp, ← HR.out]
                        rintro e w4 ⟨A4, c4, rfl, hA4, hF4⟩
                        have hF04 := HF03.out.trans hF4
                        clear hF4
                        have HA4 := Lib.hid hA4
                        have HF04 := Lib.hid hF04
                        clear hA4 hF04
                        go_wp2
                        go_meet
                        exact ⟨A4, c4, rfl, HA4, HF04⟩
                      | false =>
                        obtain rfl : sv = 0 := HSV.out
                        have hpx := pfx_length 80 4 pl
                        have hbk : b2 = b ++ (pfx 80 4 pl ++ strc 128 0 7 f2) := by
                          have := HB2.out
                          unfold lineN at this
                          simp only [← HSC.out] at this
                          exact this
                        have HBK := Lib.hid hbk
                        clear hbk
                        go_wp2_with (fail)
                        refine (rprefix_nat (fun k => M.blk A6 = some k ∨ New wa k) b A6 c6 80 4 pl wa (fun k hk => .inr hk) HA7.out.tight (by omega) (by omega) (by omega) (by omega) (by omega)).mono ?_
                        rintro e w3 ⟨A3, c3, rfl, hA3, hF3⟩
                        obtain ⟨o2, ho2⟩ : ∃ o2, o2 = b ++ pfx 80 4 pl := ⟨_, rfl⟩
                        rw [← ho2] at hA3 ⊢
                        have hr : b2 = o2 ++ strc 128 0 7 f2 := by rw [HBK.out, ho2, List.append_assoc]
                        have hlen2 : o2.length ≤ 1099511600000 := by rw [ho2, List.length_append]; omega
                        have hb3 := HBA.out.keep hF3 (fun e => by
                          rcases e with e | e
                          · exact HBXA.out e
                          · have := HBA.out.lt; unfold New at e; omega)
                        have hF03 := HF7.out.trans (hF3.mono (fun k hk => by
                          rcases hk with e | e
                          · exact HA7.out.inM k e
                          · exact HUP.out k e))
                        replace hA3 := hA3.mono (M' := New wx) (fun k hk => by
                          rcases hk with e | e
                          · exact HA7.out.inM k e
                          · exact HUP.out k e)
                        clear hx0 hx1 hx2 hx3 hbl hF3
                        have hx3 := hb3.cell 3
                        simp only [List.getElem?_toArray, List.getElem?_cons_zero, List.getElem?_cons_succ] at hx3
                        have hbl := hb3.lt
                        have HA3 := Lib.hid hA3
                        have HF03 := Lib.hid hF03
                        have HB3 := Lib.hid hb3
                        have HR := Lib.hid hr
                        have HO2 := Lib.hid ho2
                        clear hA3 hF03 hb3 hr ho2
                        go_wp2_with (fail)
                        refine (putstr_any (New wx) o2 A3 c3 0 7 ⟨f2.toArray⟩ w3 (fun k hk => Nat.le_trans HF03.out.size hk) HA3.out (by omega) (by show f2.toArray.size ≤ _; simp; omega) (by omega) (by omega) (by omega)).mono ?_
                        rw [show (0 : Nat) ||| 2 ^ 7 = 128 from rfl, show f2.toArray.toList = f2 from by simp, ← HR.out]
                        rintro e w4 ⟨A4, c4, rfl, hA4, hF4⟩
                        have hF04 := HF03.out.trans hF4
                        clear hF4
                        have HA4 := Lib.hid hA4
                        have HF04 := Lib.hid hF04
                        clear hA4 hF04
                        go_wp2
                        go_meet
                        exact ⟨A4, c4, rfl, HA4, HF04⟩
                    · have k0i : ((xk : Int) == 0) = false := by rw [beq_eq_false_iff_ne]; omega
                      have k1i : ((xk : Int) == 1) = false := by rw [beq_eq_false_iff_ne]; omega
                      have k2i : ((xk : Int) == 2) = false := by rw [beq_eq_false_iff_ne]; omega
                      have hr1 : lineN Wi.count ⟨xk, pl, (f1, f2)⟩ = strc (if secret f1 then 56 else 40) (if secret f1 then 48 else 32) 3 f1 ++ strc 128 0 7 f2 := by
                        unfold lineN
                        simp only
                        rw [if_neg k0, if_neg k1, if_neg k2]
                      have hb2k : b2 = b ++ (strc (if secret f1 then 56 else 40) (if secret f1 then 48 else 32) 3 f1 ++ strc 128 0 7 f2) := by
                        rw [HB2.out, ← hr1]
                        unfold lineN
                        simp only
                        rw [if_neg k0, if_neg k1, if_neg k2, if_neg k0, if_neg k1, if_neg k2]
                      rw [← HSC.out] at hb2k
                      clear hr1
                      have HB2K := Lib.hid hb2k
                      clear hb2k
                      cases sc with
                      | true =>
                        obtain rfl : sv = 1 := HSV.out
                        have hpx := strc_le 56 48 3 f1
                        have hbk : b2 = b ++ (strc 56 48 3 f1 ++ strc 128 0 7 f2) := HB2K.out
                        have HBK := Lib.hid hbk
                        clear hbk
                        go_wp2_with (fail)
                        refine (putstr_any (fun k => M.blk A6 = some k ∨ New wa k) b A6 c6 48 3 ⟨f1.toArray⟩ wa (fun k hk => .inr hk) HA7.out.tight (by omega) (by show f1.toArray.size ≤ _; simp; omega) (by omega) (by omega) (by omega)).mono ?_
                        rw [show (48 : Nat) ||| 2 ^ 3 = 56 from rfl, show f1.toArray.toList = f1 from by simp]
                        rintro e w3 ⟨A3, c3, rfl, hA3, hF3⟩
                        obtain ⟨o2, ho2⟩ : ∃ o2, o2 = b ++ strc 56 48 3 f1 := ⟨_, rfl⟩
                        rw [← ho2] at hA3 ⊢
                        have hr : b2 = o2 ++ strc 128 0 7 f2 := by rw [HBK.out, ho2, List.append_assoc]
                        have hlen2 : o2.length ≤ 1099511600000 := by rw [ho2, List.length_append]; omega
                        have hb3 := HBA.out.keep hF3 (fun e => by
                          rcases e with e | e
                          · exact HBXA.out e
                          · have := HBA.out.lt; unfold New at e; omega)
                        have hF03 := HF7.out.trans (hF3.mono (fun k hk => by
                          rcases hk with e | e
                          · exact HA7.out.inM k e
                          · exact HUP.out k e))
                        replace hA3 := hA3.mono (M' := New wx) (fun k hk => by
                          rcases hk with e | e
                          · exact HA7.out.inM k e
                          · exact HUP.out k e)
                        clear hx0 hx1 hx2 hx3 hbl hF3
                        have hx3 := hb3.cell 3
                        simp only [List.getElem?_toArray, List.getElem?_cons_zero, List.getElem?_cons_succ] at hx3
                        have hbl := hb3.lt
                        have HA3 := Lib.hid hA3
                        have HF03 := Lib.hid hF03
                        have HB3 := Lib.hid hb3
                        have HR := Lib.hid hr
                        have HO2 := Lib.hid ho2
                        clear hA3 hF03 hb3 hr ho2
                        go_wp2_with (fail)
                        refine (putstr_any (New wx) o2 A3 c3 0 7 ⟨f2.toArray⟩ w3 (fun k hk => Nat.le_trans HF03.out.size hk) HA3.out (by omega) (by show f2.toArray.size ≤ _; simp; omega) (by omega) (by omega) (by omega)).mono ?_
                        rw [show (0 : Nat) ||| 2 ^ 7 = 128 from rfl, show f2.toArray.toList = f2 from by simp, ← HR.out]
                        rintro e w4 ⟨A4, c4, rfl, hA4, hF4⟩
                        have hF04 := HF03.out.trans hF4
                        clear hF4
                        have HA4 := Lib.hid hA4
                        have HF04 := Lib.hid hF04
                        clear hA4 hF04
                        go_wp2
                        go_meet
                        exact ⟨A4, c4, rfl, HA4, HF04⟩
                      | false =>
                        obtain rfl : sv = 0 := HSV.out
                        have hpx := strc_le 40 32 3 f1
                        have hbk : b2 = b ++ (strc 40 32 3 f1 ++ strc 128 0 7 f2) := HB2K.out
                        have HBK := Lib.hid hbk
                        clear hbk
                        go_wp2_with (fail)
                        refine (putstr_any (fun k => M.blk A6 = some k ∨ New wa k) b A6 c6 32 3 ⟨f1.toArray⟩ wa (fun k hk => .inr hk) HA7.out.tight (by omega) (by show f1.toArray.size ≤ _; simp; omega) (by omega) (by omega) (by omega)).mono ?_
                        rw [show (32 : Nat) ||| 2 ^ 3 = 40 from rfl, show f1.toArray.toList = f1 from by simp]
                        rintro e w3 ⟨A3, c3, rfl, hA3, hF3⟩
                        obtain ⟨o2, ho2⟩ : ∃ o2, o2 = b ++ strc 40 32 3 f1 := ⟨_, rfl⟩
                        rw [← ho2] at hA3 ⊢
                        have hr : b2 = o2 ++ strc 128 0 7 f2 := by rw [HBK.out, ho2, List.append_assoc]
                        have hlen2 : o2.length ≤ 1099511600000 := by rw [ho2, List.length_append]; omega
                        have hb3 := HBA.out.keep hF3 (fun e => by
                          rcases e with e | e
                          · exact HBXA.out e
                          · have := HBA.out.lt; unfold New at e; omega)
                        have hF03 := HF7.out.trans (hF3.mono (fun k hk => by
                          rcases hk with e | e
                          · exact HA7.out.inM k e
                          · exact HUP.out k e))
                        replace hA3 := hA3.mono (M' := New wx) (fun k hk => by
                          rcases hk with e | e
                          · exact HA7.out.inM k e
                          · exact HUP.out k e)
                        clear hx0 hx1 hx2 hx3 hbl hF3
                        have hx3 := hb3.cell 3
                        simp only [List.getElem?_toArray, List.getElem?_cons_zero, List.getElem?_cons_succ] at hx3
                        have hbl := hb3.lt
                        have HA3 := Lib.hid hA3
                        have HF03 := Lib.hid hF03
                        have HB3 := Lib.hid hb3
                        have HR := Lib.hid hr
                        have HO2 := Lib.hid ho2
                        clear hA3 hF03 hb3 hr ho2
                        go_wp2_with (fail)
                        refine (putstr_any (New wx) o2 A3 c3 0 7 ⟨f2.toArray⟩ w3 (fun k hk => Nat.le_trans HF03.out.size hk) HA3.out (by omega) (by show f2.toArray.size ≤ _; simp; omega) (by omega) (by omega) (by omega)).mono ?_
                        rw [show (0 : Nat) ||| 2 ^ 7 = 128 from rfl, show f2.toArray.toList = f2 from by simp, ← HR.out]
                        rintro e w4 ⟨A4, c4, rfl, hA4, hF4⟩
                        have hF04 := HF03.out.trans hF4
                        clear hF4
                        have HA4 := Lib.hid hA4
                        have HF04 := Lib.hid hF04
                        clear hA4 hF04
                        go_wp2
                        go_meet
                        exact ⟨A4, c4, rfl, HA4, HF04⟩
              · skip
                as_aux_lemma =>
                  have hjli : ¬ (j : Int) < (Wi.lines.length : Int) := by omega
                  obtain rfl : j = Wi.lines.length := by omega
                  have hNz := hOE.out.fresh hF6.out
                  have hbe2 : b = b0 ++ linesN Wi.count Wi.lines := by have := hbe.out; rwa [List.take_length] at this
                  have hb1 : Z.1.2 = b := by rw [HZ2.out, hbe2]
                  have hb3 : Z.1.1 = Wi.out := by rw [HZ2.out]
                  have hAb : ∀ k, M.blk A6 = some k → wx.heap.size ≤ k ∧ k < wz.heap.size := fun k hk => ⟨hA6.out.inM k hk, app_lt hA6.out (by cases b with | nil => exact absurd rfl hbn | cons x t => simp [bvs]) k hk⟩
                  have hret : ∀ k, M.blk A8 = some k ∨ M.blk A6 = some k → New w k ∧ k < wz.heap.size ∧ ¬ X1 k ∧ M.blk A12 ≠ some k := fun k hk => by
                    have hwx := hOE.out.ow.lw
                    have hs6 := hF6.out.size
                    rcases hk with hk | hk
                    · have d := hOE.out.ow.d8 k hk
                      exact ⟨d.1, by omega, d.2.2.1, d.2.2.2.1⟩
                    · have d := hAb k hk
                      exact ⟨by show _ ≤ _; omega, d.2, fun e => by have := hOE.out.on.low k e; omega, fun e => by have := (hOE.out.ow.d12 k e).2.1; omega⟩
                  have ho8 := hNz.ow.ins
                  have hl6 := hA6.out.rd
                  have hc6 := hA6.out.cap
                  clear hbe hbe2 hA6 hbl HB0L hAb
                  by_cases hcz : 0 < Wi.count
                  · have hczi : (0 : Int) < (Wi.count : Int) := by omega
                    have hE2 : Z.2 = { ({ E1 with t := Wi.t } : Qn) with opn := E1.opn ++ [⟨s, Wi.count, Wi.uses⟩] } := by
                      rw [HZ2.out, HE1.out]
                      simp only [if_pos hcz]
                    have hoc : ol.length ≤ co := hNz.on.oc
                    have hopl : ol.length ≤ 1073741824 := by have := hNz.on.len; have := hNz.on.ol; omega
                    have hbz := hNz.on.blk
                    have hy3 := hbz.cell 3
                    simp only [List.getElem?_toArray, List.getElem?_cons_zero, List.getElem?_cons_succ] at hy3
                    have hpel := hbz.lt
                    have hz3 := hbz.frozen 3
                    have happ := (hNz.on.opn.capn.mono (M' := fun k => X1 k ∨ New wz k) (fun k hk => .inl hk))
                    have hS0 : wz.drew.cell? ⟨pe, 3, none⟩ = some (.slice Ao ol.length co) ∧ pe < wz.drew.heap.size := ⟨hy3, hpel⟩
                    have HB1 := Lib.hid hb1
                    have HB3 := Lib.hid hb3
                    have HRET := Lib.hid hret
                    have HE2 := Lib.hid hE2
                    have HO8 := Lib.hid ho8
                    have HL6 := Lib.hid hl6
                    have HC6 := Lib.hid hc6
                    have HNZ := Lib.hid hNz
                    have HBZ := Lib.hid hbz
                    have HAPP := Lib.hid happ
                    have HOC := Lib.hid hoc
                    clear hb1 hb3 hret hE2 ho8 hl6 hc6 hNz hbz happ hoc
                    go_upto_region 55 with (fail)
                    refine wp_region_til (by kernel_rfl) (fun w' => w'.cell? ⟨pe, 3, none⟩ = some (.slice Ao ol.length co) ∧ pe < w'.heap.size) 24 ?_
                    change wpAnyT _ _ _ _ _ _ _ _ _ wz.drew
                    refine wpAnyT_take (i := 0) (v := ?_) (d := some 262) rfl (by rfl) (by kernel_rfl) (fun _ _ _ h => h) (by rfl) hS0 (fun w hSw => ?_) ?_
                    rotate_left
                    · (try dsimp only at hSw); go_simp; first | done | (with_reducible rfl)
                    simp only [Act.put, List.setIfInBounds_toArray, List.set_cons_zero, List.set_cons_succ]
                    refine wpAnyT_take (i := 1) (v := ?_) (d := some 263) rfl (by rfl) (by kernel_rfl) (fun _ _ _ h => h) (by rfl) hS0 (fun w hSw => ?_) ?_
                    rotate_left
                    · (try dsimp only at hSw); go_simp; first | done | (with_reducible rfl)
                    simp only [Act.put, List.setIfInBounds_toArray, List.set_cons_zero, List.set_cons_succ]
                    refine wpAnyT_take (i := 2) (v := ?_) (d := some 264) rfl (by rfl) (by kernel_rfl) (fun _ _ _ h => h) (by rfl) hS0 (fun w hSw => ?_) ?_
                    rotate_left
                    · (try dsimp only at hSw); go_simp; first | done | (with_reducible rfl)
                    simp only [Act.put, List.setIfInBounds_toArray, List.set_cons_zero, List.set_cons_succ]
                    refine wpAnyT_take (i := 3) (v := ?_) (d := some 265) rfl (by rfl) (by kernel_rfl) (fun _ _ _ h => h) (by rfl) hS0 (fun w hSw => ?_) ?_
                    rotate_left
                    · (try dsimp only at hSw); go_simp; first | done | (with_reducible rfl)
                    simp only [Act.put, List.setIfInBounds_toArray, List.set_cons_zero, List.set_cons_succ]
                    refine wpAnyT_take (i := 4) (v := ?_) (d := some 266) rfl (by rfl) (by kernel_rfl) (fun _ _ _ h => h) (by rfl) hS0 (fun w hSw => ?_) ?_
                    rotate_left
                    · (try dsimp only at hSw); go_simp; first | done | (with_reducible rfl)
                    simp only [Act.put, List.setIfInBounds_toArray, List.set_cons_zero, List.set_cons_succ]
                    refine wpAnyT_take (i := 5) (v := ?_) (d := some 267) rfl (by rfl) (by kernel_rfl) (fun _ _ _ h => h) (by rfl) hS0 (fun w hSw => ?_) ?_
                    rotate_left
                    · (try dsimp only at hSw); go_simp; first | done | (with_reducible rfl)
                    simp only [Act.put, List.setIfInBounds_toArray, List.set_cons_zero, List.set_cons_succ]
                    refine wpAnyT_take (i := 6) (v := ?_) (d := some 268) rfl (by rfl) (by kernel_rfl) (fun _ _ _ h => h) (by rfl) hS0 (fun w hSw => ?_) ?_
                    rotate_left
                    · (try dsimp only at hSw); go_simp; first | done | (with_reducible rfl)
                    simp only [Act.put, List.setIfInBounds_toArray, List.set_cons_zero, List.set_cons_succ]
                    refine wpAnyT_take (i := 7) (v := ?_) (d := some 269) rfl (by rfl) (by kernel_rfl) (fun _ _ _ h => h) (by rfl) hS0 (fun w hSw => ?_) ?_
                    rotate_left
                    · (try dsimp only at hSw); go_simp; first | done | (with_reducible rfl)
                    simp only [Act.put, List.setIfInBounds_toArray, List.set_cons_zero, List.set_cons_succ]
                    refine wpAnyT_take (i := 8) (v := ?_) (d := some 270) rfl (by rfl) (by kernel_rfl) (fun _ _ _ h => h) (by rfl) hS0 (fun w hSw => ?_) ?_
                    rotate_left
                    · (try dsimp only at hSw); go_simp; first | done | (with_reducible rfl)
                    simp only [Act.put, List.setIfInBounds_toArray, List.set_cons_zero, List.set_cons_succ]
                    refine wpAnyT_take (i := 9) (v := ?_) (d := some 271) rfl (by rfl) (by kernel_rfl) (fun _ _ _ h => h) (by rfl) hS0 (fun w hSw => ?_) ?_
                    rotate_left
                    · (try dsimp only at hSw); go_simp; first | done | (with_reducible rfl)
                    simp only [Act.put, List.setIfInBounds_toArray, List.set_cons_zero, List.set_cons_succ]
                    refine wpAnyT_take (i := 10) (v := ?_) (d := some 272) rfl (by rfl) (by kernel_rfl) (fun _ _ _ h => h) (by rfl) hS0 (fun w hSw => ?_) ?_
                    rotate_left
                    · (try dsimp only at hSw); go_simp; first | done | (with_reducible rfl)
                    simp only [Act.put, List.setIfInBounds_toArray, List.set_cons_zero, List.set_cons_succ]
                    refine wpAnyT_take (i := 11) (v := ?_) (d := some 273) rfl (by rfl) (by kernel_rfl) (fun _ _ _ h => h) (by rfl) hS0 (fun w hSw => ?_) ?_
                    rotate_left
                    · (try dsimp only at hSw); go_simp; first | done | (with_reducible rfl)
                    simp only [Act.put, List.setIfInBounds_toArray, List.set_cons_zero, List.set_cons_succ]
                    refine wpAnyT_take (i := 12) (v := ?_) (d := some 274) rfl (by rfl) (by kernel_rfl) (fun _ _ _ h => h) (by rfl) hS0 (fun w hSw => ?_) ?_
                    rotate_left
                    · (try dsimp only at hSw); go_simp; first | done | (with_reducible rfl)
                    simp only [Act.put, List.setIfInBounds_toArray, List.set_cons_zero, List.set_cons_succ]
                    refine wpAnyT_take (i := 13) (v := ?_) (d := some 275) rfl (by rfl) (by kernel_rfl) (fun _ _ _ h => h) (by rfl) hS0 (fun w hSw => ?_) ?_
                    rotate_left
                    · (try dsimp only at hSw); go_simp; first | done | (with_reducible rfl)
                    simp only [Act.put, List.setIfInBounds_toArray, List.set_cons_zero, List.set_cons_succ]
                    refine wpAnyT_take (i := 14) (v := ?_) (d := some 276) rfl (by rfl) (by kernel_rfl) (fun _ _ _ h => h) (by rfl) hS0 (fun w hSw => ?_) ?_
                    rotate_left
                    · (try dsimp only at hSw); go_simp; first | done | (with_reducible rfl)
                    simp only [Act.put, List.setIfInBounds_toArray, List.set_cons_zero, List.set_cons_succ]
                    refine wpAnyT_take (i := 15) (v := .slice Ao ol.length ol.length) (d := some 277) rfl (by rfl) (by kernel_rfl) (fun _ _ _ h => h) (by rfl) hS0 (fun w hSw => run_capG osE rfl rfl rfl rfl rfl rfl HOC.out) ?_
                    simp only [Act.put, List.setIfInBounds_toArray, List.set_cons_zero, List.set_cons_succ]
                    refine wpAnyT_take (i := 16) (v := ?_) (d := some 278) rfl (by rfl) (by kernel_rfl) (fun _ _ _ h => h) (by rfl) hS0 (fun w hSw => ?_) ?_
                    rotate_left
                    · (try dsimp only at hSw); go_simp; first | done | (with_reducible rfl)
                    simp only [Act.put, List.setIfInBounds_toArray, List.set_cons_zero, List.set_cons_succ]
                    refine wpAnyT_take (i := 17) (v := ?_) (d := some 279) rfl (by rfl) (by kernel_rfl) (fun _ _ _ h => h) (by rfl) hS0 (fun w hSw => ?_) ?_
                    rotate_left
                    · (try dsimp only at hSw); go_simp; first | done | (with_reducible rfl)
                    simp only [Act.put, List.setIfInBounds_toArray, List.set_cons_zero, List.set_cons_succ]
                    refine wpAnyT_take (i := 18) (v := ?_) (d := some 280) rfl (by rfl) (by kernel_rfl) (fun _ _ _ h => h) (by rfl) hS0 (fun w hSw => ?_) ?_
                    rotate_left
                    · (try dsimp only at hSw); go_simp; first | done | (with_reducible rfl)
                    simp only [Act.put, List.setIfInBounds_toArray, List.set_cons_zero, List.set_cons_succ]
                    refine wpAnyT_take (i := 19) (v := ?_) (d := some 281) rfl (by rfl) (by kernel_rfl) (fun _ _ _ h => h) (by rfl) hS0 (fun w hSw => ?_) ?_
                    rotate_left
                    · (try dsimp only at hSw); go_simp; first | done | (with_reducible rfl)
                    simp only [Act.put, List.setIfInBounds_toArray, List.set_cons_zero, List.set_cons_succ]
                    have hn0 := World.new_ne wz.drew _ hy3
                    refine wpAnyT_one (i := 20) rfl (by kernel_rfl) (fun K hK => ?_)
                    go_simp
                    refine hK.out _ _ (.inr (⟨by go_keep, by simp; omega⟩)) ?_
                    clear hK K
                    refine wpAnyT_one (i := 21) rfl (by kernel_rfl) (fun K hKK => ?_)
                    refine step_append2 osE rfl rfl rfl (HAPP.out.alloc _).drew (fun k hk => .inr (Nat.le_trans (by simp) hk)) rfl (Rd.new _ #[.int .u64 (s : Int), .int .u64 (Wi.count : Int), .slice A12 Wi.uses.length c12] _) rfl (fun u hu => by simp at hu; rcases hu with rfl | rfl | rfl <;> rfl) (by omega) ?_
                    intro A9 c9 w9 hA9 _ hb9 hW9
                    have hF9 : Frm (New wz) wz w9 := Frm.trans (((Frm.refl _ wz).alloc Up.new _).drew) (hW9.mono (fun k hk => by
                      rcases hk with e | e
                      · exact Nat.le_trans (by simp) e
                      · omega))
                    have hA10 : App (New wz) w9 118 3 A9 (ol.length + 1) c9 (ocC (ol ++ [(⟨⟨s, Wi.count, Wi.uses⟩, A12, c12⟩ : Ou)])) := by
                      rw [ocC_append]
                      exact (app_new hA9 hb9).mono (fun k hk => Nat.le_trans (by simp) hk)
                    have hQ10 := HNZ.out.on.push ⟨⟨s, Wi.count, Wi.uses⟩, A12, c12⟩ hA10 hF9 HNZ.out.ow.use_.rd HNZ.out.ow.use_.cap HNZ.out.ow.use_.max (fun k hk => ⟨(HNZ.out.ow.d12 k hk).2.1, (HNZ.out.ow.d12 k hk).2.2.1⟩) HINV.out.ct (by show E1.opn.length < _; rw [HE1.out]; exact hop)
                    have hA9n : ∀ k, M.blk A9 = some k → wz.heap.size ≤ k := fun k hk => hA10.inM k hk
                    have hbz9 := HBZ.out.fresh hF9
                    clear hy3 hpel hz3 hA9 hb9 hW9 hn0
                    have hy3 := hbz9.cell 3
                    simp only [List.getElem?_toArray, List.getElem?_cons_zero, List.getElem?_cons_succ] at hy3
                    have hpel := hbz9.lt
                    have hz3 := hbz9.frozen 3
                    have hS9 : w9.cell? ⟨pe, 3, none⟩ = some (.slice Ao ol.length co) ∧ pe < w9.heap.size := ⟨hy3, hpel⟩
                    have HF9 := Lib.hid hF9
                    have HA10 := Lib.hid hA10
                    have HQ10 := Lib.hid hQ10
                    have HA9N := Lib.hid hA9n
                    have HBZ9 := Lib.hid hbz9
                    clear hF9 hA10 hQ10 hA9n hbz9
                    refine hKK.out _ _ (.inr hS9) ?_
                    clear hKK K hS0
                    refine wpAnyT_one (i := 22) rfl (by kernel_rfl) (fun K hK => ?_)
                    go_simp
                    refine hK.out _ _ (.inr (hS9)) ?_
                    clear hK K
                    refine wpAnyT_one (i := 23) rfl (by kernel_rfl) (fun K hK => ?_)
                    go_simp
                    refine hK.out _ _ (.inr (hS9)) ?_
                    clear hK K
                    refine wpAnyT_one (i := 24) rfl (by kernel_rfl) (fun K hK => ?_)
                    go_simp
                    refine hK.out _ _ (.inl (by kernel_rfl)) ?_
                    clear hK K
                    refine wpAnyT_done (by kernel_rfl) ?_ _
                    have f10 : Frm (fun k => k = pe) w9 (w9.setCell ⟨pe, 3, none⟩ (.slice A9 (ol.length + 1) c9)) := (Frm.refl (fun k => k = pe) w9).setCell (p := ⟨pe, 3, none⟩) rfl _
                    have hxp : X1 pe := HNZ.out.on.xp
                    have hF10 : Frm (Own X w) w (w9.setCell ⟨pe, 3, none⟩ (.slice A9 (ol.length + 1) c9)) :=
                      (HNZ.out.frm.trans (HF9.out.mono (fun k hk => .inr (Nat.le_trans HNZ.out.frm.size hk)))).trans (f10.mono (fun k hk => hk ▸ HNZ.out.sub pe hxp))
                    have hrk : ∀ k, M.blk A8 = some k ∨ M.blk A6 = some k → ¬ (k = pe) := fun k hk e => (HRET.out k hk).2.2.1 (e ▸ hxp)
                    have ho10 := (HO8.out.fresh HF9.out).keep f10 (fun k hk => hrk k (.inl hk))
                    have hl10 := (HL6.out.fresh HF9.out).keep f10 (fun k hk => hrk k (.inr hk))
                    clear hy3 hpel hz3 hS9
                    generalize w9.setCell ⟨pe, 3, none⟩ (.slice A9 (ol.length + 1) c9) = w10 at *
                    have HF10 := Lib.hid hF10
                    have HO10 := Lib.hid ho10
                    have HL10 := Lib.hid hl10
                    clear hF10 ho10 hl10
                    go_wp2_with (fail)
                    refine bodyPost_ret (results_tmp2 rfl _ _ _) rfl ?_
                    refine ⟨A8, c8, A6, c6, fun k => X1 k ∨ M.blk A9 = some k ∨ M.blk A12 = some k, S1, A9, c9, ol ++ [(⟨⟨s, Wi.count, Wi.uses⟩, A12, c12⟩ : Ou)], ?_, ?_, ?_, ?_, ?_, ?_, HF10.out, fun k hk => ?_, fun k hk => ⟨(HRET.out k hk).1, fun e => ?_⟩⟩
                    · rw [HB1.out, HB3.out]; rfl
                    · rw [HB3.out]; exact HO10.out.rd
                    · rw [HB3.out]; exact HO10.out.cap
                    · rw [HB1.out]; exact HL10.out
                    · rw [HB1.out]; exact HC6.out
                    · rw [HE2.out]; exact HQ10.out
                    · rcases hk with hk | hk | hk
                      · exact HNZ.out.sub k hk
                      · exact .inr (Nat.le_trans HNZ.out.frm.size (HA9N.out k hk))
                      · exact .inr (HNZ.out.ow.d12 k hk).1
                    · have h1 := HRET.out k hk
                      rcases e with e | e | e
                      · exact h1.2.2.1 e
                      · have := HA9N.out k e; omega
                      · exact h1.2.2.2 e
                  · have hczi : ¬ (0 : Int) < (Wi.count : Int) := by omega
                    have hE2 : Z.2 = { E1 with t := Wi.t } := by
                      rw [HZ2.out, HE1.out]
                      simp only [if_neg hcz]
                    have HB1 := Lib.hid hb1
                    have HB3 := Lib.hid hb3
                    have HRET := Lib.hid hret
                    have HE2 := Lib.hid hE2
                    have HO8 := Lib.hid ho8
                    have HL6 := Lib.hid hl6
                    have HC6 := Lib.hid hc6
                    have HNZ := Lib.hid hNz
                    clear hb1 hb3 hret hE2 ho8 hl6 hc6 hNz
                    go_wp2_with (fail)
                    refine bodyPost_ret (results_tmp2 rfl _ _ _) rfl ?_
                    refine ⟨A8, c8, A6, c6, X1, S1, Ao, co, ol, ?_, ?_, ?_, ?_, ?_, ?_, HNZ.out.frm, HNZ.out.sub, fun k hk => ⟨(HRET.out k hk).1, (HRET.out k hk).2.2.1⟩⟩
                    · rw [HB1.out, HB3.out]; rfl
                    · rw [HB3.out]; exact HO8.out.rd
                    · rw [HB3.out]; exact HO8.out.cap
                    · rw [HB1.out]; exact HL6.out
                    · rw [HB1.out]; exact HC6.out
                    · rw [HE2.out]; exact HNZ.out.on
end Go.Proofs.Ytdgggjeiflllhaa.M

