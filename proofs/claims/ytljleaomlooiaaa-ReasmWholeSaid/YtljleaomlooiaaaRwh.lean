/- bifoldlaw24.ReasmWhole: for every input it tells true. No condition. -/
import Derived.BigQuiet
import Derived.Deep.CutBlock
import Derived.Lib.Hide
import Derived.IntWalk
import Derived.StillTailTactics
import Derived.Laws.Concat
import Derived.Test.YtljleaomlooiaaaRwp
import Derived.Test.YtljleaomlooiaaaInu
namespace Go.Proofs.Ytljleaomlooiaaa.M
open Go.ChangeShapes Go.WideShapes Go.ChangeAt Go.RowKit

set_option maxRecDepth 100000 in
set_option maxHeartbeats 4000000 in
theorem whole_walk (A1 : Option Addr) (n1 c1 : Nat) (T : Bytes) (A2 : Option Addr) (n2 c2 : Nat) (us : List Nat) (A3 : Option Addr) (n3 c3 : Nat) (rd : Bytes) (W : World) (h1 : BIn W A1 n1 c1 T) (h2 : UIn W A2 n2 c2 us) (h3 : BIn W A3 n3 c3 rd) :
    Calls Try.prog 3 #[.slice A1 n1 c1, .slice A2 n2 c2, .slice A3 n3 c3] W fun e w' => e = .returned (.bool true) ∧ Below W.heap.size W w' := by
  obtain ⟨rfl, hR1, hlow1, _, hnil1, hcap1, hm1⟩ := h1
  obtain ⟨rfl, hR2, hsm2, hcap2⟩ := h2
  obtain ⟨rfl, hR3, hlow3, _, _, hcap3, hm3⟩ := h3
  have hz1 : T.length ≤ 9223372036854775807 := Nat.le_trans hcap1 hm1
  have hz3 : rd.length ≤ 9223372036854775807 := Nat.le_trans hcap3 hm3
  clear hm1 hm3 hcap3
  have HR1 := Lib.hid hR1
  have HLOW1 := Lib.hid hlow1
  have HR2 := Lib.hid hR2
  have HR3 := Lib.hid hR3
  have HLOW3 := Lib.hid hlow3
  have HSM2 := Lib.hid hsm2
  clear hR1 hlow1 hR2 hR3 hlow3 hsm2
  go_enter Try.func3, Try.ntmps3
  go_wp2_with (fail)
  refine (known_any _).mono ?_
  rintro e w1 ⟨rfl, hF1⟩
  have HF1 := Lib.hid hF1
  clear hF1
  by_cases q1 : 300 < T.length
  · go_wp2
    go_ret
    exact ⟨rfl, HF1.out.below⟩
  by_cases q2 : 60 < us.length
  · go_wp2
    go_ret
    exact ⟨rfl, HF1.out.below⟩
  by_cases q3 : 60 < rd.length
  · go_wp2
    go_ret
    exact ⟨rfl, HF1.out.below⟩
  have hnew := bnew_any (fun k => k < W.heap.size) T.length w1 (fun k hk => Nat.lt_of_lt_of_le hk HF1.out.size)
  rw [show min T.length 4611686018427387903 = T.length by omega] at hnew
  have HNEW := Lib.hid hnew
  clear hnew
  go_wp2_with (fail)
  refine HNEW.out.mono ?_
  rintro e w2 ⟨rfl, hB2, hF2⟩
  have hF02 := HF1.out.then_new Up.new hF2
  generalize w1.heap.size = p at *
  have HB2 := Lib.hid hB2
  have HF02 := Lib.hid hF02
  clear hB2 hF2 hF02 HNEW HF1
  go_upto_region 8 with (fail)
  go_loopw [8, 9] (fun v8 v9 wr => ∃ (i : Nat) (B : Bf), i ≤ us.length ∧ v9 = .int .i64 i ∧ v8 = .string ⟨(T.take B.a).toArray⟩ ∧ Hid (BSt (fun k => k < W.heap.size) wr p B) ∧ Hid (Wh T B) ∧ Hid (Frm (New W) W wr)) (fun _ v9 _ => us.length - (intOf v9).toNat)
  case atStart => exact ⟨0, _, Nat.zero_le _, rfl, rfl, HB2, ⟨HB2.out.ok, rfl, fun q hq => (by cases hq), fun h => (by cases h), rfl⟩, HF02⟩
  case round =>
    obtain ⟨i, B, hi, rfl, rfl, hB, hw, hF⟩ := hrel
    have hNE : ∀ w', Frm (fun k => ¬ k < W.heap.size) wr w' → Frm (New W) W w' := fun w' h => hF.out.trans (h.mono (fun k hk => by unfold New; omega))
    have hNN : ∀ w', Frm (New wr) wr w' → Frm (New W) W w' := fun w' h => hF.out.then_new Up.new h
    have HNE := Lib.hid hNE
    have HNN := Lib.hid hNN
    clear hNE hNN
    by_cases hlt : i < us.length
    · obtain ⟨gU, oU, rfl, hu0⟩ := (HR2.out.fresh hF.out) i (.int .u16 (us[i] : Nat)) (by unfold u16s_; rw [List.getElem?_map, List.getElem?_eq_getElem hlt]; rfl)
      have hgU := World.block_lt_of_cell? _ _ hu0
      have husm := HSM2.out us[i] (List.getElem_mem hlt)
      generalize us[i] = u at *
      obtain ⟨a, ha⟩ : ∃ a, a = u % (T.length + 1) := ⟨_, rfl⟩
      obtain ⟨k, hk⟩ : ∃ k, k = u / 512 % (T.length - a + 1) := ⟨_, rfl⟩
      have haT : a ≤ T.length := by have := Nat.mod_lt u (show 0 < T.length + 1 by omega); omega
      have hkT : a + k ≤ T.length := by have := Nat.mod_lt (u / 512) (show 0 < T.length - a + 1 by omega); omega
      have e1 : (u : Int) % ((T.length : Int) + 1) = (a : Int) := by rw [ha, Int.natCast_emod, Int.natCast_add]; rfl
      have e2 : (u : Int) / 512 % ((T.length : Int) - (a : Int) + 1) = (k : Int) := by
        rw [hk]
        have h1 : ((u / 512 : Nat) : Int) = (u : Int) / 512 := by omega
        have h2 : ((T.length - a + 1 : Nat) : Int) = (T.length : Int) - (a : Int) + 1 := by omega
        rw [Int.natCast_emod, h1, h2]
      have HA := Lib.hid ha
      have HK := Lib.hid hk
      clear ha hk
      go_upto_region 11 with (fail)
      simp only [e1]
      go_upto_region 12 with (fail)
      simp only [e2]
      have e3 : ((a : Int) + (k : Int) == (T.length : Int)) = decide (a + k = T.length) := by
        rw [Bool.eq_iff_iff, beq_iff_eq, decide_eq_true_iff]; omega
      obtain ⟨f, hf⟩ : ∃ f : Bool, f = (decide (a + k = T.length) && decide (u % 2 = 1)) := ⟨_, rfl⟩
      obtain ⟨Aq, hAq⟩ : ∃ Aq, (if c1 = a then A1 else A1.map (·.add (a * 1))) = Aq := ⟨_, rfl⟩
      obtain ⟨cq, hcq⟩ : ∃ cq, c1 - a = cq := ⟨_, rfl⟩
      obtain ⟨b, hb⟩ : ∃ b, b = (T.drop a).take k := ⟨_, rfl⟩
      have hbl : b.length = k := by rw [hb, List.length_take, List.length_drop]; omega
      have hRq := (HR1.out.fresh hF.out).subB hcap1 a k
      rw [hAq, ← hb] at hRq
      have hlq : ∀ q, blk Aq = some q → q < W.heap.size := fun q hq => HLOW1.out q (by rw [← hAq, cut_blk] at hq; exact hq)
      have hnq : Aq = none → cq = 0 := fun e => by have := hnil1 (cut_none (hAq.trans e)); omega
      have hstep : ∀ f : Bool, (f = true → a + k = T.length) → Calls Try.prog 9 #[.pointer (some ⟨p, 0, none⟩), .int .u64 a, .slice Aq b.length cq, .bool f] wr.drew fun e w' => e = .returned (.int .i64 0) ∧ ∃ B', Hid (BSt (fun k => k < W.heap.size) w' p B') ∧ Hid (Wh T B') ∧ Hid (B'.a = B.a) ∧ Hid (Frm (New W) W w') := fun f hff => by
        have h0 := hw.out.adds (a := a) (b := b) (f := f) (by omega) (fun e => by have := hff e; omega) (by omega)
        have hst := hB.out.fresh ((Frm.refl (New wr) wr).drew)
        have hc := badd_any a b f (cb := cq) hst hRq.drew hlq (by omega) hnq (by have := hw.out.hl_le; omega) (by omega)
        rw [h0] at hc
        refine hc.mono ?_
        rintro e w' ⟨rfl, B', h1, h2, h3⟩
        refine ⟨rfl, B', h1, hw.out.add h2 h1.ok (by rw [hbl]; exact hb) (fun e => by have := hff e; omega), (AddTo.keeps h2 hw.out.ok).2.2.2.2, HNE.out _ (((Frm.refl _ wr).drew).trans h3)⟩
      have HF := Lib.hid hf
      have HAQ := Lib.hid hAq
      have HCQ := Lib.hid hcq
      have HB := Lib.hid hb
      have HBL := Lib.hid hbl
      have HRQ := Lib.hid hRq
      have HSTEP := Lib.hid hstep
      clear hf hAq hcq hb hbl hRq hstep
      go_cut [80] from 60 to 101 (fun v80 w5 => ∃ (w6 : World) (B6 : Bf), w5 = w6 ∧ v80 = .bool false ∧ Hid (BSt (fun k => k < W.heap.size) w6 p B6) ∧ Hid (Wh T B6) ∧ Hid (B6.a = B.a) ∧ Hid (Frm (New W) W w6))
      case first =>
        by_cases hend : a + k = T.length
        · have hend1 : ((a : Int) + (k : Int) == (T.length : Int)) = true := by rw [beq_iff_eq]; omega
          have hcall := HSTEP.out ((u : Int) % 2 == 1) (fun _ => hend)
          have HCALL := Lib.hid hcall
          clear hcall
          clear e3
          have hwr := IntWalk.u64_in (a : Int) (by omega)
          refine wp_region_still_tail 19 (by kernel_rfl) (by kernel_rfl) ?_
          simp only [List.take_succ_cons, List.take_zero, List.drop_succ_cons, List.drop_zero]
          refine wpStill_open (fun Wf hN hV hS => ?_)
          iterate 6 (refine hS _ _ _ (fun K hK => ?_); go_simp; refine hK _ ?_; clear hK K)
          refine hV _ _ _ (.slice Aq b.length cq) rfl (run_cutE u8s HAQ.out (by rw [HBL.out]; omega) HCQ.out rfl rfl rfl rfl rfl (j := a + k) (by omega) (by omega) (by omega)) ?_
          iterate 12 (refine hS _ _ _ (fun K hK => ?_); go_simp; refine hK _ ?_; clear hK K)
          refine hN _ ?_
          clear hwr hN hV hS
          go_wp2_with (fail)
          refine HCALL.out.mono ?_
          rintro e w6 ⟨rfl, B6, hB6, hw6, ha6, hF6⟩
          go_wp2
          go_meet
          exact ⟨w6, B6, rfl, rfl, hB6, hw6, ha6, hF6⟩
        · have hend1 : ((a : Int) + (k : Int) == (T.length : Int)) = false := by rw [beq_eq_false_iff_ne]; omega
          have hcall := HSTEP.out false (fun e => by cases e)
          have HCALL := Lib.hid hcall
          clear hcall
          clear e3
          have hwr := IntWalk.u64_in (a : Int) (by omega)
          refine wp_region_still_tail 19 (by kernel_rfl) (by kernel_rfl) ?_
          simp only [List.take_succ_cons, List.take_zero, List.drop_succ_cons, List.drop_zero]
          refine wpStill_open (fun Wf hN hV hS => ?_)
          iterate 6 (refine hS _ _ _ (fun K hK => ?_); go_simp; refine hK _ ?_; clear hK K)
          refine hV _ _ _ (.slice Aq b.length cq) rfl (run_cutE u8s HAQ.out (by rw [HBL.out]; omega) HCQ.out rfl rfl rfl rfl rfl (j := a + k) (by omega) (by omega) (by omega)) ?_
          iterate 12 (refine hS _ _ _ (fun K hK => ?_); go_simp; refine hK _ ?_; clear hK K)
          refine hN _ ?_
          clear hwr hN hV hS
          go_wp2_with (fail)
          refine HCALL.out.mono ?_
          rintro e w6 ⟨rfl, B6, hB6, hw6, ha6, hF6⟩
          go_wp2
          go_meet
          exact ⟨w6, B6, rfl, rfl, hB6, hw6, ha6, hF6⟩
      case rest =>
        obtain ⟨w6, B6, rfl, rfl, hB6, hw6, ha6, hF6⟩ := hcut
        rename World => w6
        clear HSTEP HRQ hB hw hF HNE HNN hu0 hgU e1 e2 e3 hlq hnq HAQ HCQ HB HBL HF
        have hal6 := hw6.out.a_le
        have HA6 := ha6
        clear ha6
        go_upto_if 84 with (fail)
        go_cut [8] from 84 to 101 (fun v8 w5 => ∃ (w7 : World) (B7 : Bf) (s : ByteArray), w5 = w7 ∧ v8 = .string s ∧ Hid (s = ⟨(T.take B7.a).toArray⟩) ∧ Hid (BSt (fun k => k < W.heap.size) w7 p B7) ∧ Hid (Wh T B7) ∧ Hid (Frm (New W) W w7))
        case first =>
          by_cases hr : i < rd.length
          · obtain ⟨gR, oR, rfl, hr0⟩ := (HR3.out.fresh hF6.out) i (bv rd[i]) (by unfold bvs; rw [List.getElem?_map, List.getElem?_eq_getElem hr]; rfl)
            have hgR := World.block_lt_of_cell? _ _ hr0
            unfold bv at hr0
            have hx : (rd[i].toNat : Int) ≤ 255 := by have := rd[i].toNat_lt; omega
            generalize rd[i].toNat = x at *
            have hc := bread_any (x : Int) hB6.out (by omega) (by have := hw6.out.hl_le; omega)
            obtain ⟨N, hN⟩ : ∃ N, N = B6.many x := ⟨_, rfl⟩
            have hNle : N ≤ (run B6.l B6.a).length := by rw [hN]; exact Nat.min_le_right _ _
            have hgot := hw6.out.got hNle
            obtain ⟨G, hG⟩ : ∃ G, T.take B.a = G := ⟨_, rfl⟩
            rw [HA6.out, hG, ← HA6.out] at hgot
            have hGl : G.length ≤ T.length := by rw [← hG, List.length_take]; omega
            have hgl := hw6.out.le
            have hwr := hw6.out.read hNle
            rw [← hN] at hc
            obtain ⟨R, hR⟩ : ∃ R, R = (run B6.l B6.a).take N := ⟨_, rfl⟩
            have hRl : R.length = N := by rw [hR, List.length_take]; omega
            rw [← hR] at hc hgot
            clear hN hR
            subst hRl
            have hcat : ¬ (9223372036854775807 < G.length + R.length) := by omega
            rw [hG]
            clear hNle hG hGl hgl
            have HC := Lib.hid hc
            have HGOT := Lib.hid hgot
            have HWR := Lib.hid hwr
            clear hc hgot hwr
            clear hB6 hw6
            go_wp2_with (fail)
            refine HC.out.mono ?_
            rintro e w7 ⟨Ao, co, rfl, hAo, hB7, hF7⟩
            have hRd := hAo.rd
            have hF07 := hF6.out.trans (hF7.mono (fun k hk => by unfold New; omega))
            clear hAo hF7 hr0 hgR HC hF6
            have HRD := Lib.hid hRd
            have HB7 := Lib.hid hB7
            have HF07 := Lib.hid hF07
            clear hRd hB7 hF07
            go_wp2_with (refine wpList_conv (l := R) rfl rfl rfl HRD.out ?_; simp only [str])
            go_meet
            exact ⟨w7, B6.reads R.length, _, rfl, rfl, (by show _ = _; rw [mk_cat, HGOT.out]; rfl), HB7, HWR, HF07⟩
          · go_wp2_with (fail)
            go_meet
            exact ⟨w6, B6, _, rfl, rfl, (by show _ = _; rw [HA6.out]), hB6, hw6, hF6⟩
        case rest =>
          obtain ⟨w7, B7, s, rfl, rfl, hs, hB7, hw7, hF7⟩ := hcut
          rename World => w7
          clear hB6 hw6 hF6 HA6 hal6
          obtain ⟨L, hL⟩ : ∃ L, L = T.take B7.a := ⟨_, rfl⟩
          have hs1 := hs.out
          rw [← hL] at hs1
          have hsL : s.size = L.length := by rw [hs1]; rfl
          have hLT : L.length ≤ T.length := by rw [hL, List.length_take]; omega
          have hRL : Rd w7 A1 (bvs L) := by rw [hL]; unfold bvs; rw [List.map_take]; exact (HR1.out.fresh hF7.out).take _
          have htl : s.toList = L := by rw [hs1, mk_toList]
          clear hs1
          have HL := Lib.hid hL
          have HSL := Lib.hid hsL
          have HRL := Lib.hid hRL
          clear hL hsL hRL
          go_wp2_with (first | (refine wpList_val rfl (.slice A1 L.length c1) (run_toG u8s rfl rfl rfl (by rw [HSL.out]) (by omega)) ?_) | (refine wpList_conv (l := L) rfl rfl rfl HRL.out ?_; simp only [str]))
          go_roundw
          case rel => exact ⟨i + 1, B7, by omega, by go_num, by rw [hs.out], hB7, hw7, hF7⟩
          case measure => simp [intOf]; omega
    · have hal := hw.out.a_le
      have hc := badd_any 0 T true (cb := c1) hB.out (HR1.out.fresh hF.out) HLOW1.out hcap1 hnil1 (by have := hw.out.hl_le; omega) (by omega)
      rw [hw.out.adds (a := 0) (b := T) (f := true) (by omega) (fun _ => by omega) (by omega)] at hc
      have HC := Lib.hid hc
      clear hc
      have hT64 : T.length < 18446744073709551616 := by omega
      have HT64 := Lib.hid hT64
      clear hT64
      go_wp2_with (fail)
      refine HC.out.mono ?_
      rintro e w5 ⟨rfl, B5, hB5, hA5, hF5⟩
      have hF05 := HNE.out _ hF5
      obtain ⟨q1, q2, q3, q4⟩ := hw.out.all hA5 hB5.ok HT64.out
      have hw5 := hw.out.add hA5 hB5.ok (by simp) (fun _ => by omega)
      obtain ⟨R, hR⟩ : ∃ R, R = run B5.l B5.a := ⟨_, rfl⟩
      have hgot := hw5.got (Nat.le_refl _)
      have hwr := hw5.read (Nat.le_refl _)
      have hc5 := bread_any (T.length : Int) hB5 (by omega) (by have := hw5.hl_le; omega)
      have hmany : B5.many (T.length : Int) = (run B5.l B5.a).length := by unfold Bf.many; omega
      rw [hmany, List.take_of_length_le (Nat.le_refl _)] at hc5
      obtain ⟨G, hG⟩ : ∃ G, T.take B.a = G := ⟨_, rfl⟩
      rw [q1, List.take_of_length_le (Nat.le_refl _), List.take_of_length_le (Nat.le_refl _), ← hR, q4, hG] at hgot
      have hl7 : (B5.reads (run B5.l B5.a).length).l = [] := q3
      have ha7 : (B5.reads (run B5.l B5.a).length).a = T.length := q1
      have hk7 : (B5.reads (run B5.l B5.a).length).known = true := q2
      rw [← hR] at hc5 hwr hl7 ha7 hk7
      generalize B5.reads R.length = B7 at *
      have hov7 : B7.over = true := by
        unfold Bf.over
        rw [hwr.rs, hk7, ha7, hwr.fin hk7]
        simp
      have htop7 : B7.top = T.length := by rw [hwr.ok.fin hk7, hwr.fin hk7]
      have hm7 : B7.many 5 = 0 := by unfold Bf.many; rw [hl7]; rfl
      have hh7 : hl B7.l = 0 := by rw [hl7]; rfl
      have hcat : ¬ (9223372036854775807 < G.length + R.length) := by have := congrArg List.length hgot; rw [List.length_append] at this; omega
      have hRT := (HR1.out.fresh hF05)
      rw [hG]
      have hgot2 : ((⟨G.toArray⟩ : ByteArray) ++ (⟨R.toArray⟩ : ByteArray)).toList = T := by rw [mk_cat, mk_toList, hgot]
      have HC5 := Lib.hid hc5
      have HWR := Lib.hid hwr
      have HOV7 := Lib.hid hov7
      have HTOP7 := Lib.hid htop7
      have HM7 := Lib.hid hm7
      have HH7 := Lib.hid hh7
      have HRT := Lib.hid hRT
      have HF05 := Lib.hid hF05
      clear hc5 hwr hov7 htop7 hm7 hh7 hRT hF05
      clear hl7 ha7 hk7 hmany hG hR q1 q2 q3 q4 hw5 hB5 hA5 hF5 HC HT64 hal hB hw hF HNN HNE HLOW1 HLOW3 HR2 HR3 HSM2 HB2 HF02
      go_wp2_with (fail)
      refine HC5.out.mono ?_
      rintro e w7 ⟨Ao, co, rfl, hAo, hB7, hF7⟩
      have hRd := hAo.rd
      have hF07 := HF05.out.trans (hF7.mono (fun k hk => by unfold New; omega))
      have hRT7 := HR1.out.fresh hF07
      have hd := bdone_any hB7
      rw [HOV7.out] at hd
      have HRD := Lib.hid hRd
      have HF07 := Lib.hid hF07
      have HD := Lib.hid hd
      have HRT7 := Lib.hid hRT7
      clear hRd hF07 hd hRT7
      clear hAo hB7 hF7 HRT HF05 HC5
      go_wp2_with (first | (refine wpList_conv (l := R) rfl rfl rfl HRD.out ?_; simp only [str]) | (refine wpList_conv (l := T) rfl rfl rfl HRT7.out ?_; simp only [str]))
      refine HD.out.mono ?_
      rintro e w8 ⟨rfl, hB8, hF8⟩
      have hh := bheld_any hB8
      rw [HH7.out] at hh
      have hF08 := HF07.out.then_new Up.new hF8
      have HH := Lib.hid hh
      have HF08 := Lib.hid hF08
      clear hh hF08
      clear hB8 hF8 HD HF07 HRD HRT7
      go_wp2_with (fail)
      refine HH.out.mono ?_
      rintro e w9 ⟨rfl, hB9, hF9⟩
      have hc9 := bread_any 5 hB9 (by omega) (by rw [HH7.out]; omega)
      rw [HM7.out] at hc9
      have hF09 := HF08.out.then_new Up.new hF9
      have HC9 := Lib.hid hc9
      have HF09 := Lib.hid hF09
      clear hc9 hF09
      clear hB9 hF9 HH HF08
      go_wp2_with (fail)
      refine HC9.out.mono ?_
      rintro e w10 ⟨Ao2, co2, rfl, hAo2, hB10, hF10⟩
      have hF010 := HF09.out.trans (hF10.mono (fun k hk => by unfold New; omega))
      have hbx : Hid (B7.reads 0 = B7) := by show _ = _; unfold Bf.reads; rw [dropB_zero HWR.out.ok.srt]; rfl
      rw [hbx.out] at hB10
      have ht := btop_any hB10
      rw [HTOP7.out] at ht
      have HT := Lib.hid ht
      have HF010 := Lib.hid hF010
      clear ht hF010
      clear hB10 hF10 hAo2 HC9 HF09
      go_wp2_with (fail)
      refine HT.out.mono ?_
      rintro e w11 ⟨rfl, hw11⟩
      rw [hw11]
      clear hw11
      go_wp2_with (fail)
      go_ret
      exact ⟨rfl, HF010.out.below⟩
end Go.Proofs.Ytljleaomlooiaaa.M
