/- bifoldlaw24.ReasmPlays: for every input it tells true. No condition. -/
import Derived.BigQuiet
import Derived.Deep.CutBlock
import Derived.Deep.RegionHeld3
import Derived.Lib.Hide
import Derived.IntWalk
import Derived.Test.YtljleaomlooiaaaRpb
import Derived.Test.YtljleaomlooiaaaRac
import Derived.Test.YtljleaomlooiaaaRkn
import Derived.Test.YtljleaomlooiaaaArrb
import Derived.Test.YtljleaomlooiaaaCut
namespace Go.Proofs.Ytljleaomlooiaaa.M
open Go.ChangeShapes Go.WideShapes Go.ChangeAt Go.RowKit

theorem zAct : (Try.prog.info? 43).map (·.zero) = some (some (.agg #[.int .u8 0, .int .u64 0, .slice none 0 0, .bool false, .int .i64 0])) := by kernel_rfl
theorem act_one (x : Ac) : ∀ u ∈ x.cells.toArray.toList, u.oneCell' = true := fun u hu => by
  simp only [Ac.cells, List.mem_cons, List.not_mem_nil, or_false] at hu
  rcases hu with rfl | rfl | rfl | rfl | rfl <;> rfl
/-- both behind an act -/
structure PlS (W : World) (p q : Nat) (h0 : Nat) (w : World) : Prop where
  ex : ∃ B F, RP W w (fun k => k < W.heap.size) p q B F ∧ Alk B F ∧ hl B.l ≤ h0 ∧ F.mx ≤ 4611686018427387903

set_option maxRecDepth 100000 in
set_option maxHeartbeats 4000000 in
theorem plays_walk (win : Int) (A1 : Option Addr) (n1 c1 : Nat) (l : List Ac) (W : World) (hw0 : (Lit.int .u64 win).wf = true) (hl1 : AIn W Ac.cells (AcOk W) A1 n1 c1 l) :
    Calls Try.prog 6 #[.int .u64 win, .slice A1 n1 c1] W fun e w' => e = .returned (.bool true) ∧ Below W.heap.size W w' := by
  obtain ⟨win0, win1⟩ : 0 ≤ win ∧ win ≤ 18446744073709551615 := by simp only [Lit.wf, decide_eq_true_eq, Bool.and_eq_true] at hw0; exact hw0
  clear hw0
  obtain ⟨win, rfl⟩ := Int.eq_ofNat_of_zero_le win0
  clear win0
  obtain ⟨rfl, hR1, hcap1, hm1, hok1, _⟩ := hl1
  have hz1 : l.length ≤ 9223372036854775807 := Nat.le_trans hcap1 hm1
  clear hm1
  have HR1 := Lib.hid hR1
  have HOK1 := Lib.hid hok1
  clear hR1 hok1
  go_enter Try.func6, Try.ntmps6
  go_wp2_with (fail)
  refine (known_any _).mono ?_
  rintro e w1 ⟨rfl, hF1⟩
  have HF1 := Lib.hid hF1
  clear hF1
  by_cases q1 : 50 < l.length
  · go_wp2
    go_ret
    exact ⟨rfl, HF1.out.below⟩
  obtain ⟨r4, hr4⟩ : ∃ r, r = win % 4 := ⟨_, rfl⟩
  have m4 : (win : Int) % 4 = (r4 : Int) := by omega
  have HR4 := Lib.hid hr4
  clear hr4
  go_upto_if 17 with (fail)
  go_cut [0] from 18 (fun v0 w5 => w5 = w1 ∧ ∃ u : Nat, u < 18446744073709551616 ∧ v0 = .int .u64 u)
  case first =>
    obtain ⟨r2, hr2⟩ : ∃ r, r = win % 200 := ⟨_, rfl⟩
    have m2 : (win : Int) % 200 = (r2 : Int) := by omega
    have hb2 : r2 < 18446744073709551616 := by omega
    have HR2 := Lib.hid hr2
    clear hr2
    by_cases h4 : 0 < r4
    · go_wp2
      go_meet
      exact ⟨rfl, r2, hb2, by rw [m2]⟩
    · obtain rfl : r4 = 0 := by omega
      go_wp2
      go_meet
      exact ⟨rfl, win, by omega, rfl⟩
  case rest =>
    obtain ⟨rfl, u, hu, rfl⟩ := hcut
    rename World => w1
    have hnew := bnew_any (fun k => k < W.heap.size) u w1 (fun k hk => Nat.lt_of_lt_of_le hk HF1.out.size)
    have HNEW := Lib.hid hnew
    have HU := Lib.hid hu
    clear hnew hu
    go_wp2_with (fail)
    refine HNEW.out.mono ?_
    rintro e w2 ⟨rfl, hB2, hF2⟩
    have hF02 := HF1.out.then_new Up.new hF2
    generalize w1.heap.size = p at *
    have hnew2 := rp_new u W w2 hF02 p hB2
    have HNEW2 := Lib.hid hnew2
    clear hnew2
    clear hB2 hF2 hF02 HNEW
    go_wp2_with (fail)
    refine HNEW2.out.mono ?_
    rintro e w3 ⟨q, rfl, hP3⟩
    have hs3 : Hid (PlS W p q 0 w3) := ⟨_, _, hP3, Alk.new u, by simp [hl], Nat.min_le_right _ _⟩
    clear hP3 HNEW2 HF1 HU
    go_upto_region 9 with (fail)
    go_loopw [7] (fun v7 wr => ∃ i : Nat, i ≤ l.length ∧ v7 = .int .i64 i ∧ Hid (PlS W p q (60 * i) wr)) (fun v7 _ => l.length - (intOf v7).toNat)
    case atStart => exact ⟨0, Nat.zero_le _, rfl, hs3⟩
    case round =>
      obtain ⟨i, hi, rfl, hP⟩ := hrel
      clear hs3
      obtain ⟨B, F, hP0, hA, hh0, hmx⟩ := hP.out.ex
      by_cases hlt : i < l.length
      · obtain ⟨gA, oA, rfl, hg5⟩ := HR1.out.lt (fun c => by have := congrArg List.length c; rw [flatL_length Ac.cells 5 (fun _ => rfl)] at this; simp at this; omega)
        have hRw := HR1.out.fresh hP0.frm
        obtain ⟨hx0, hx1, hx2, hx3, hx4⟩ := act_cells hRw i hlt
        obtain ⟨xk, xo, xb, xn⟩ := HOK1.out l[i] (List.getElem_mem hlt)
        generalize l[i] = x at *
        have hgA : gA < wr.heap.size := Nat.lt_of_lt_of_le hg5 hP0.frm.size
        have hbW := xb.rd
        have hblow := xb.low
        have hbcap := xb.cap
        have hbnil := xb.nil_
        clear hP hRw xb hg5
        have HP0 := Lib.hid hP0
        have HA := Lib.hid hA
        have HBW := Lib.hid hbW
        have HBLOW := Lib.hid hblow
        have HBNIL := Lib.hid hbnil
        clear hP0 hA hbW hblow hbnil
        go_upto_region 12 with (first
          | (refine wpList_new rfl rfl zAct rfl ?_; intro w6 hb6 hF6 hs6)
          | (refine wpList_store_agg rfl rfl rfl (cs := x.cells.toArray) rfl hb6 rfl (act_one x) (by kernel_rfl) ?_; intro w7 hb7 hF7 hs7))
        obtain ⟨bx, hbx⟩ : ∃ bx, bx = wr.heap.size := ⟨_, rfl⟩
        rw [← hbx] at hb6 hb7 hs6 hF7 ⊢
        have hF67 : Frm (New wr) wr w7 := hF6.trans (hF7.mono (fun q e => by
          have e2 : q = bx := e
          unfold New; omega))
        have hb7 : Blk w7 bx 43 #[.int .u8 x.k, .int .u64 x.off, .slice x.A x.b.length x.c, .bool x.fin, .int .i64 x.n] := hb7
        have hbl7 := hb7.lt
        obtain ⟨X7, hX7, hXb, hXo, hP7⟩ : ∃ X7 : Nat → Prop, (∀ k, k < W.heap.size → X7 k) ∧ X7 bx ∧ (X7 bx) ∧ RP W w7 X7 p q B F := ⟨_, fun k hk => .inl hk, .inr ⟨by omega, hbl7⟩, .inr ⟨by omega, hbl7⟩, HP0.out.more hF67⟩
        have hbR7 := HBW.out.fresh hP7.frm
        clear hbx hb6 hF6 hs6 hF7 hs7 hF67 HP0 hx0 hx1 hx2 hx3 hx4 hgA hXo HBW
        have hy0 := hb7.cell 0
        have hy1 := hb7.cell 1
        have hy2 := hb7.cell 2
        have hy3 := hb7.cell 3
        have hy4 := hb7.cell 4
        simp only [List.getElem?_toArray, List.getElem?_cons_zero, List.getElem?_cons_succ] at hy0 hy1 hy2 hy3 hy4
        have HB7 := Lib.hid hb7
        have HX7 := Lib.hid hX7
        have HP7 := Lib.hid hP7
        have HBR7 := Lib.hid hbR7
        clear hb7 hX7 hP7 hbR7
        by_cases q6 : 60 < x.b.length
        · go_wp2
          go_ret
          exact ⟨rfl, HP7.out.frm.below⟩
        obtain ⟨r8, hr8⟩ : ∃ r, r = x.k / 8 % 8 := ⟨_, rfl⟩
        have m8 : (x.k : Int) / 8 % 8 = (r8 : Int) := by omega
        have HR8 := Lib.hid hr8
        clear hr8
        go_upto_if 44 with (fail)
        go_cut [9] from 45 to 116 (fun v9 w5 => w5 = w7 ∧ ∃ o : Nat, o < 18446744073709551616 ∧ v9 = .int .u64 o)
        case first =>
          by_cases h8 : 0 < r8
          · obtain ⟨o2, ho2⟩ : ∃ o2, o2 = x.off % 100 := ⟨_, rfl⟩
            have m2 : (x.off : Int) % 100 = (o2 : Int) := by omega
            have hb2 : o2 < 18446744073709551616 := by omega
            have HO2 := Lib.hid ho2
            clear ho2
            go_wp2
            go_meet
            exact ⟨rfl, o2, hb2, by rw [m2]⟩
          · obtain rfl : r8 = 0 := by omega
            go_wp2
            go_meet
            exact ⟨rfl, x.off, xo, rfl⟩
        case rest =>
          obtain ⟨rfl, o, ho, rfl⟩ := hcut
          rename World => w7
          have hh7 : hl B.l + x.b.length ≤ 60 * (i + 1) := by omega
          obtain ⟨r7, hr7⟩ : ∃ r, r = x.k % 7 := ⟨_, rfl⟩
          have m7 : (x.k : Int) % 7 = (r7 : Int) := by omega
          have HR7 := Lib.hid hr7
          have HO := Lib.hid ho
          clear hr7 ho
          clear m8 HR8
          go_upto_block 2 with (fail)
          simp only [m7]
          clear m7
          have ok7 := HP7.out.ok
          have hT : Frm (New w7) w7 w7.drew := (Frm.refl _ _).drew
          have HR0 : Hid (RP W w7.drew X7 p q B F) := HP7.out.fresh hT
          have HRb : Hid (Rd w7.drew x.A (bvs x.b)) := HBR7.out.drew
          go_cut [4] from 50 to 116 (fun v4 w5 => ∃ w6, w5 = w6 ∧ Hid (PlS W p q (60 * (i + 1)) w6))
          case first =>
            by_cases h4 : r7 = 4
            · have e4 : ((r7 : Int) == 4) = true := by rw [h4]; rfl
              clear h4
              obtain ⟨N, hN⟩ : ∃ N, N = x.n := ⟨_, rfl⟩
              rw [← hN] at hy4 xn
              obtain ⟨hrd, hA2⟩ := HA.out.read ok7 N
              obtain ⟨R, hR⟩ : ∃ R, R = (run B.l B.a).take (B.many N) := ⟨_, rfl⟩
              rw [← hR] at hrd
              have hcA : ∀ w1 X1 F1, RP W w1 X1 p q B F1 → Calls Try.prog 10 #[.pointer (some ⟨p, 0, none⟩), .int .i64 N] w1 (RdR W w1 X1 p q R (B.reads (B.many N)) F1) := fun w1 X1 F1 h => rp_read N R hR h xn (by omega)
              have hcB : ∀ w1 X1 B1, RP W w1 X1 p q B1 F → Calls Try.prog 17 #[.pointer (some ⟨q, 0, none⟩), .int .i64 N] w1 (RdR W w1 X1 p q R B1 (F.reads N.toNat)) := fun w1 X1 B1 h => rp_rread N R hrd h (HA.out.keys ok7) xn (by rw [HA.out.held]; omega)
              have hhl : hl (B.reads (B.many N)).l ≤ 60 * (i + 1) := by
                show hl (dropB _ B.l) ≤ _
                rw [← hl_flat, dropB_flat, List.length_drop, hl_flat]
                omega
              have HBX : Hid (∀ (w1 w2 : World) (X1 : Nat → Prop), (∀ k, X7 k → X1 k) → w1.cell? ⟨bx, 4, none⟩ = some (.int .i64 N) → Frm (fun k => ¬ X1 k) w1 w2 → w2.cell? ⟨bx, 4, none⟩ = some (.int .i64 N)) := fun w1 w2 X1 hX hc f => by
                rw [f.cell (fun c => c (hX _ hXb))]; exact hc
              have HY4 : Hid (w7.drew.cell? ⟨bx, 4, none⟩ = some (.int .i64 N)) := hy4
              have hm2 : (F.reads N.toNat).mx ≤ 4611686018427387903 := hmx
              generalize B.reads (B.many N) = B2 at *
              generalize F.reads N.toNat = F2 at *
              clear hrd hN hR hy0 hy1 hy2 hy3 HRb
              have CA := Lib.hid hcA
              have CB := Lib.hid hcB
              have HA2 := Lib.hid hA2
              have HHL := Lib.hid hhl
              have OK7 := Lib.hid ok7
              have HM2 := Lib.hid hm2
              clear hcA hcB hA2 hhl ok7 hm2
              go_upto_region 21 with (fail)
              go_region_with
                (first
                  | (go_at_call 10
                     refine (CA.out _ _ _ (by first | exact HRB.out | exact HR0.out)).mono ?_
                     rintro e w5 ⟨Ao, co, X5, rfl, hRd, hXA, hXs, hR5, hF5⟩
                     have HSA : Hid (w5.cell? ⟨bx, 4, none⟩ = some (.int .i64 N)) := by first | exact HBX.out _ _ _ HXB.out HSB.out hF5 | exact HBX.out _ _ _ (fun k h => h) HY4.out hF5
                     have hsa := HSA.out
                     have HRA := Lib.hid hR5
                     have HXA : Hid (∀ k, X7 k → X5 k) := fun k hk => by first | exact hXs k (HXB.out k hk) | exact hXs k hk
                     have HDA := Lib.hid hRd
                     have HEA := Lib.hid hXA
                     have hcvA := run_conv (c := co) hRd
                     (try (have HDB2 := Lib.hid (HDB.out.offX HEB.out hF5); have hcvB2 := run_conv (c := do_) HDB2.out; simp only [str] at hcvB2))
                     simp only [str] at hcvA
                     clear hR5 hXs hRd hXA hF5)
                  | (go_at_call 17
                     refine (CB.out _ _ _ (by first | exact HRA.out | exact HR0.out)).mono ?_
                     rintro e w6 ⟨Bo, do_, X6, rfl, hRd, hXA, hXs, hR6, hF6⟩
                     have HSB : Hid (w6.cell? ⟨bx, 4, none⟩ = some (.int .i64 N)) := by first | exact HBX.out _ _ _ HXA.out HSA.out hF6 | exact HBX.out _ _ _ (fun k h => h) HY4.out hF6
                     have hsb := HSB.out
                     have HRB := Lib.hid hR6
                     have HXB : Hid (∀ k, X7 k → X6 k) := fun k hk => by first | exact hXs k (HXA.out k hk) | exact hXs k hk
                     have HDB := Lib.hid hRd
                     have HEB := Lib.hid hXA
                     have hcvB := run_conv (c := do_) hRd
                     (try (have HDA2 := Lib.hid (HDA.out.offX HEA.out hF6); have hcvA2 := run_conv (c := co) HDA2.out; simp only [str] at hcvA2))
                     simp only [str] at hcvB
                     clear hR6 hXs hRd hXA hF6)
                  | fail)
              all_goals go_wp2
              all_goals go_meet
              all_goals first
                | exact ⟨_, rfl, B2, F2, HRB.out.less (fun k hk => HXB.out k (HX7.out k hk)) (fun k hk => hk), HA2.out, HHL.out, HM2.out⟩
                | exact ⟨_, rfl, B2, F2, HRA.out.less (fun k hk => HXA.out k (HX7.out k hk)) (fun k hk => hk), HA2.out, HHL.out, HM2.out⟩
            by_cases h5 : r7 = 5
            · have e4 : ((r7 : Int) == 4) = false := by rw [beq_eq_false_iff_ne]; omega
              have e5 : ((r7 : Int) == 5) = true := by rw [h5]; rfl
              clear h5
              have hc := rp_reset o HP7.out
              have hA2 := HA.out.reset ok7 o
              have hck := HA.out.chk ok7 o true true
              rw [show (!true) = false from rfl] at hck
              have hhl : hl (B.reset' o).l ≤ 60 * (i + 1) := by
                unfold Bf.reset'
                split
                · simp [hl]
                · omega
              have hm2 : (F.reset' o).mx ≤ 4611686018427387903 := by
                unfold Rf.reset'
                split <;> exact hmx
              have HC := Lib.hid hc
              have HA2 := Lib.hid hA2
              have HCK := Lib.hid hck
              have HHL := Lib.hid hhl
              have HM2 := Lib.hid hm2
              have OK7 := Lib.hid ok7
              clear hc hA2 hck hhl hm2 ok7
              clear hy0 hy1 hy2 hy3 hy4 hT HR0 HRb
              go_wp2_with (fail)
              refine HC.out.mono ?_
              rintro e w8 ⟨rfl, hR8, hF8⟩
              have hc2 := rp_rreset o hR8
              rw [HCK.out] at hc2
              have HC2 := Lib.hid hc2
              clear hc2
              clear hR8 hF8 HC
              go_wp2_with (fail)
              refine HC2.out.mono ?_
              rintro e w9 ⟨rfl, hR9, hF9⟩
              have HR9 := Lib.hid hR9
              have HF9 := Lib.hid hF9
              clear hR9 hF9
              go_wp2
              go_meet
              exact ⟨_, rfl, _, _, HR9.out.less (fun k hk => HX7.out k hk) (fun k hk => hk), HA2.out, HHL.out, HM2.out⟩
            by_cases h6 : r7 = 6
            · have e4 : ((r7 : Int) == 4) = false := by rw [beq_eq_false_iff_ne]; omega
              have e5 : ((r7 : Int) == 5) = false := by rw [beq_eq_false_iff_ne]; omega
              have e6 : ((r7 : Int) == 6) = true := by rw [h6]; rfl
              clear h6
              have hc := rp_grow o HP7.out
              have hA2 := HA.out.grow o
              have hm2 : max F.mx (min o 4611686018427387903) ≤ 4611686018427387903 := by omega
              have HC := Lib.hid hc
              have HA2 := Lib.hid hA2
              have HM2 := Lib.hid hm2
              have OK7 := Lib.hid ok7
              clear hc hA2 hm2 ok7
              clear hy0 hy1 hy2 hy3 hy4 hT HR0 HRb
              go_wp2_with (fail)
              refine HC.out.mono ?_
              rintro e w8 ⟨rfl, hR8, hF8⟩
              have hc2 := rp_rgrow o hR8
              have HC2 := Lib.hid hc2
              clear hc2
              clear hR8 hF8 HC
              go_wp2_with (fail)
              refine HC2.out.mono ?_
              rintro e w9 ⟨rfl, hR9, hF9⟩
              have HR9 := Lib.hid hR9
              have HF9 := Lib.hid hF9
              clear hR9 hF9
              go_wp2
              go_meet
              exact ⟨_, rfl, _, _, HR9.out.less (fun k hk => HX7.out k hk) (fun k hk => hk), HA2.out, (by show hl B.l ≤ _; omega), HM2.out⟩
            · have e4 : ((r7 : Int) == 4) = false := by rw [beq_eq_false_iff_ne]; omega
              have e5 : ((r7 : Int) == 5) = false := by rw [beq_eq_false_iff_ne]; omega
              have e6 : ((r7 : Int) == 6) = false := by rw [beq_eq_false_iff_ne]; omega
              go_upto_region 18 with (fail)
              obtain ⟨bs, hbs⟩ : ∃ bs, bs = x.b := ⟨_, rfl⟩
              obtain ⟨Ax, hAx⟩ : ∃ Ax, Ax = x.A := ⟨_, rfl⟩
              obtain ⟨cx, hcx⟩ : ∃ cx, cx = x.c := ⟨_, rfl⟩
              obtain ⟨fx, hfx⟩ : ∃ fx, fx = x.fin := ⟨_, rfl⟩
              rw [← hbs, ← hAx, ← hcx] at hy2
              rw [← hfx] at hy3
              rw [← hbs, ← hAx] at HRb HBLOW
              rw [← hAx, ← hcx] at HBNIL
              rw [← hbs, ← hcx] at hbcap
              rw [← hbs] at hh7
              have hlowX : ∀ X1 : Nat → Prop, (∀ k, k < W.heap.size → X1 k) → bs ≠ [] → ∀ k, blk Ax = some k → X1 k := fun X1 h1 hn k hk => h1 k (HBLOW.out hn k hk)
              have hcA : ∀ w1 F1, RP W w1 X7 p q B F1 → Rd w1 Ax (bvs bs) → Calls Try.prog 9 #[.pointer (some ⟨p, 0, none⟩), .int .u64 o, .slice Ax bs.length cx, .bool fx] w1 fun e w2 => e = .returned (.int .i64 (B.adds o bs fx : Nat)) ∧ ∃ B2, (B.AddTo o bs fx B2) ∧ RP W w2 X7 p q B2 F1 ∧ Frm (fun k => ¬ X7 k) w1 w2 := fun w1 F1 h hr => rp_add o bs fx h hr (hlowX _ HX7.out) hbcap HBNIL.out (by omega) HO.out
              have hcB : ∀ w1 B1, RP W w1 X7 p q B1 F → Rd w1 Ax (bvs bs) → Calls Try.prog 20 #[.pointer (some ⟨q, 0, none⟩), .int .u64 o, .slice Ax bs.length cx, .bool fx] w1 fun e w2 => e = .returned (.int .i64 (B.adds o bs fx : Nat)) ∧ RP W w2 X7 p q B1 (F.add' o bs fx) ∧ Frm (fun k => ¬ X7 k) w1 w2 := fun w1 B1 h hr => by
                have h1 := rp_radd (cb := cx) o bs fx h hr (hlowX _ HX7.out) (by omega) HO.out hmx
                rw [HA.out.adds ok7] at h1
                exact h1
              have hfin : ∀ B2, B.AddTo o bs fx B2 → Alk B2 (F.add' o bs fx) ∧ hl B2.l ≤ 60 * (i + 1) := fun B2 h => ⟨HA.out.add ok7 h HO.out (by omega), by have := (AddTo.keeps h ok7).2.2.2.1; omega⟩
              have hm2 : (F.add' o bs fx).mx ≤ 4611686018427387903 := by
                unfold Rf.add'
                split <;> exact hmx
              have hrdX : ∀ w1 w2, Rd w1 Ax (bvs bs) → Frm (fun k => ¬ X7 k) w1 w2 → Rd w2 Ax (bvs bs) := fun w1 w2 h f => h.offX (fun hn => hlowX _ HX7.out (fun e => hn (by rw [e]; rfl))) f
              have hbx : ∀ w1 w2, (w1.cell? ⟨bx, 2, none⟩ = some (.slice Ax bs.length cx) ∧ w1.cell? ⟨bx, 3, none⟩ = some (.bool fx)) → Frm (fun k => ¬ X7 k) w1 w2 → (w2.cell? ⟨bx, 2, none⟩ = some (.slice Ax bs.length cx) ∧ w2.cell? ⟨bx, 3, none⟩ = some (.bool fx)) := fun w1 w2 hc f => by
                rw [f.cell (fun c => c hXb), f.cell (fun c => c hXb)]; exact hc
              have HY : Hid (w7.drew.cell? ⟨bx, 2, none⟩ = some (.slice Ax bs.length cx) ∧ w7.drew.cell? ⟨bx, 3, none⟩ = some (.bool fx)) := ⟨hy2, hy3⟩
              generalize F.add' o bs fx = F2 at *
              clear hbs hAx hcx hfx hy0 hy1 hy4 ok7 hlowX hy2 hy3
              have CA := Lib.hid hcA
              have CB := Lib.hid hcB
              have HFIN := Lib.hid hfin
              have RDX := Lib.hid hrdX
              have HBX := Lib.hid hbx
              have HM2 := Lib.hid hm2
              clear hcA hcB hfin hrdX hbx hm2
              go_region_held3 (fun w' => w'.cell? ⟨bx, 2, none⟩ = some (.slice Ax bs.length cx) ∧ w'.cell? ⟨bx, 3, none⟩ = some (.bool fx))
                (first
                  | exact HSB.out
                  | exact HSA.out
                  | exact HY.out)
                (first
                  | (go_at_call 9
                     refine (CA.out _ _ (by first | exact HRB.out | exact HR0.out) (by first | exact HDB.out | exact HRb.out)).mono ?_
                     rintro e w5 ⟨rfl, B2, hT5, hR5, hF5⟩
                     have HSA : Hid (w5.cell? ⟨bx, 2, none⟩ = some (.slice Ax bs.length cx) ∧ w5.cell? ⟨bx, 3, none⟩ = some (.bool fx)) := by first | exact HBX.out _ _ HSB.out hF5 | exact HBX.out _ _ HY.out hF5
                     have HRA := Lib.hid hR5
                     have HTA := Lib.hid hT5
                     have HDA : Hid (Rd w5 Ax (bvs bs)) := by first | exact RDX.out _ _ HDB.out hF5 | exact RDX.out _ _ HRb.out hF5
                     clear hR5 hT5 hF5)
                  | (go_at_call 20
                     refine (CB.out _ _ (by first | exact HRA.out | exact HR0.out) (by first | exact HDA.out | exact HRb.out)).mono ?_
                     rintro e w6 ⟨rfl, hR6, hF6⟩
                     have HSB : Hid (w6.cell? ⟨bx, 2, none⟩ = some (.slice Ax bs.length cx) ∧ w6.cell? ⟨bx, 3, none⟩ = some (.bool fx)) := by first | exact HBX.out _ _ HSA.out hF6 | exact HBX.out _ _ HY.out hF6
                     have HRB := Lib.hid hR6
                     have HDB : Hid (Rd w6 Ax (bvs bs)) := by first | exact RDX.out _ _ HDA.out hF6 | exact RDX.out _ _ HRb.out hF6
                     clear hR6 hF6)
                  | fail)
              all_goals go_wp2
              all_goals go_meet
              all_goals first
                | exact ⟨_, rfl, B2, F2, HRB.out.less (fun k hk => HX7.out k hk) (fun k hk => hk), (HFIN.out _ HTA.out).1, (HFIN.out _ HTA.out).2, HM2.out⟩
                | exact ⟨_, rfl, B2, F2, HRA.out.less (fun k hk => HX7.out k hk) (fun k hk => hk), (HFIN.out _ HTA.out).1, (HFIN.out _ HTA.out).2, HM2.out⟩
          case rest =>
            obtain ⟨w6, rfl, hS6⟩ := hcut
            rename World => w6
            clear HP7 HBR7 HB7 HX7 HBLOW HBNIL HA HR0 HRb hT ok7 hy0 hy1 hy2 hy3 hy4 hh7 hh0 hmx hbcap hXb hbl7
            obtain ⟨B6, F6, hP6, hA6, hh6, hm6⟩ := hS6.out.ex
            obtain ⟨m, es, ck, hm1, hm2, hm3, hm4, hm5⟩ := hP6.map
            have ok6 := hP6.ok
            have hes : es.size = hl B6.l := by rw [hm3, hA6.held]
            obtain ⟨d, hd⟩ : ∃ d, d = B6.over := ⟨_, rfl⟩
            obtain ⟨t, ht⟩ : ∃ t, t = B6.top := ⟨_, rfl⟩
            have hstep : ∀ w1 w2, (Hid (RP W w1 (fun k => k < W.heap.size) p q B6 F6) ∧ w1.cell? ⟨q, 1, none⟩ = some (.map (some m)) ∧ w1.heap[m]? = some (.map es ck)) → Frm (New w1) w1 w2 →
                Hid (Hid (RP W w2 (fun k => k < W.heap.size) p q B6 F6) ∧ w2.cell? ⟨q, 1, none⟩ = some (.map (some m)) ∧ w2.heap[m]? = some (.map es ck)) := fun w1 w2 h f => by
              have h1 := World.block_lt_of_cell? _ _ h.2.1
              have h2 := (Array.getElem?_eq_some_iff.1 h.2.2).1
              exact ⟨h.1.out.fresh f, by rw [f.cell (by unfold New; simp only at h1 ⊢; omega)]; exact h.2.1, by rw [f.block m (by unfold New; omega)]; exact h.2.2⟩
            have c1 : ∀ w1, (Hid (RP W w1 (fun k => k < W.heap.size) p q B6 F6) ∧ w1.cell? ⟨q, 1, none⟩ = some (.map (some m)) ∧ w1.heap[m]? = some (.map es ck)) → Calls Try.prog 11 #[.pointer (some ⟨p, 0, none⟩)] w1 fun e w2 => e = .returned (.bool d) ∧
                Hid (Hid (RP W w2 (fun k => k < W.heap.size) p q B6 F6) ∧ w2.cell? ⟨q, 1, none⟩ = some (.map (some m)) ∧ w2.heap[m]? = some (.map es ck)) := fun w1 h => by
              refine (rp_done h.1.out).mono ?_
              rintro e w2 ⟨rfl, f⟩
              exact ⟨by rw [hd], hstep _ _ h f⟩
            have c2 : ∀ w1, (Hid (RP W w1 (fun k => k < W.heap.size) p q B6 F6) ∧ w1.cell? ⟨q, 1, none⟩ = some (.map (some m)) ∧ w1.heap[m]? = some (.map es ck)) → Calls Try.prog 21 #[.pointer (some ⟨q, 0, none⟩)] w1 fun e w2 => e = .returned (.bool d) ∧
                Hid (Hid (RP W w2 (fun k => k < W.heap.size) p q B6 F6) ∧ w2.cell? ⟨q, 1, none⟩ = some (.map (some m)) ∧ w2.heap[m]? = some (.map es ck)) := fun w1 h => by
              refine (rp_rdone h.1.out).mono ?_
              rintro e w2 ⟨rfl, f⟩
              exact ⟨by rw [hA6.done, hd], hstep _ _ h f⟩
            have c3 : ∀ w1, (Hid (RP W w1 (fun k => k < W.heap.size) p q B6 F6) ∧ w1.cell? ⟨q, 1, none⟩ = some (.map (some m)) ∧ w1.heap[m]? = some (.map es ck)) → Calls Try.prog 12 #[.pointer (some ⟨p, 0, none⟩)] w1 fun e w2 => e = .returned (.int .i64 (es.size : Int)) ∧
                Hid (Hid (RP W w2 (fun k => k < W.heap.size) p q B6 F6) ∧ w2.cell? ⟨q, 1, none⟩ = some (.map (some m)) ∧ w2.heap[m]? = some (.map es ck)) := fun w1 h => by
              refine (rp_held h.1.out).mono ?_
              rintro e w2 ⟨rfl, f⟩
              exact ⟨by rw [hes], hstep _ _ h f⟩
            have c4 : ∀ w1, (Hid (RP W w1 (fun k => k < W.heap.size) p q B6 F6) ∧ w1.cell? ⟨q, 1, none⟩ = some (.map (some m)) ∧ w1.heap[m]? = some (.map es ck)) → Calls Try.prog 13 #[.pointer (some ⟨p, 0, none⟩)] w1 fun e w2 => e = .returned (.int .u64 (t : Nat)) ∧
                Hid (Hid (RP W w2 (fun k => k < W.heap.size) p q B6 F6) ∧ w2.cell? ⟨q, 1, none⟩ = some (.map (some m)) ∧ w2.heap[m]? = some (.map es ck)) := fun w1 h => by
              refine (rp_top h.1.out).mono ?_
              rintro e w2 ⟨rfl, rfl⟩
              exact ⟨by rw [ht], h⟩
            have c5 : ∀ w1, (Hid (RP W w1 (fun k => k < W.heap.size) p q B6 F6) ∧ w1.cell? ⟨q, 1, none⟩ = some (.map (some m)) ∧ w1.heap[m]? = some (.map es ck)) → Calls Try.prog 22 #[.pointer (some ⟨q, 0, none⟩)] w1 fun e w2 => e = .returned (.int .u64 (t : Nat)) ∧
                Hid (Hid (RP W w2 (fun k => k < W.heap.size) p q B6 F6) ∧ w2.cell? ⟨q, 1, none⟩ = some (.map (some m)) ∧ w2.heap[m]? = some (.map es ck)) := fun w1 h => by
              refine (rp_rtop h.1.out).mono ?_
              rintro e w2 ⟨rfl, rfl⟩
              exact ⟨by rw [hA6.top ok6, ht], h⟩
            have HY : Hid (Hid (RP W w6.drew (fun k => k < W.heap.size) p q B6 F6) ∧ w6.drew.cell? ⟨q, 1, none⟩ = some (.map (some m)) ∧ w6.drew.heap[m]? = some (.map es ck)) := ⟨hP6.fresh ((Frm.refl _ _).drew), hm1, hm2⟩
            have C1 := Lib.hid c1
            have C2 := Lib.hid c2
            have C3 := Lib.hid c3
            have C4 := Lib.hid c4
            have C5 := Lib.hid c5
            have HA6 := Lib.hid hA6
            have HES := Lib.hid hes
            have HSTEP := Lib.hid hstep
            clear c1 c2 c3 c4 c5 hA6 hes hstep
            clear hS6 hd ht hP6 ok6 hm1 hm2 hm3 hm4 hm5
            have hlm : ∀ w1 : World, w1.heap[m]? = some (.map es ck) → (Builtin.len_ #[46] 3 #[.map (some m)]).run Try.prog w1 = .ok (.int .i64 (es.size : Int)) w1 := fun w1 h => by
              have hMk : Try.prog.underlying 46 = some (.map (Try.prog.mapKeyOf 46) (Try.prog.mapElemOf 46)) := by kernel_rfl
              exact run_len_map w1 _ _ m es ck hMk h
            go_upto_region 29 with (fail)
            go_region_held3 (fun w' => Hid (RP W w' (fun k => k < W.heap.size) p q B6 F6) ∧ w'.cell? ⟨q, 1, none⟩ = some (.map (some m)) ∧ w'.heap[m]? = some (.map es ck))
              (first
                | exact HS9.out
                | exact HY.out)
              (first
                | (go_at_call 11
                   refine (C1.out _ (by first | exact HS9.out | exact HY.out)).mono ?_
                   rintro e w9 ⟨rfl, HS9⟩)
                | (go_at_call 21
                   refine (C2.out _ (by first | exact HS9.out | exact HY.out)).mono ?_
                   rintro e w9 ⟨rfl, HS9⟩)
                | (go_at_call 12
                   refine (C3.out _ (by first | exact HS9.out | exact HY.out)).mono ?_
                   rintro e w9 ⟨rfl, HS9⟩)
                | (go_at_call 13
                   refine (C4.out _ (by first | exact HS9.out | exact HY.out)).mono ?_
                   rintro e w9 ⟨rfl, HS9⟩)
                | (go_at_call 22
                   refine (C5.out _ (by first | exact HS9.out | exact HY.out)).mono ?_
                   rintro e w9 ⟨rfl, HS9⟩)
                | fail)
            all_goals go_wp2
            all_goals clear hlm
            all_goals go_roundw
            case rel => exact ⟨i + 1, by omega, by go_num, B6, F6, HS9.out.1.out, HA6.out, hh6, hm6⟩
            case measure => simp [intOf]; omega
      · obtain rfl : i = l.length := by omega
        go_wp2
        go_ret
        exact ⟨rfl, hP0.frm.below⟩
end Go.Proofs.Ytljleaomlooiaaa.M
