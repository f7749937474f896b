/- QdecPieces: the walk. No condition. -/
import Derived.BigQuiet
import Derived.IntWalk
import Derived.Deep.CutBlock
import Derived.Deep.LoopGhost
import Derived.Below
import Derived.Test.YtdgggjeiflllhaaQly
namespace Go.Proofs.Ytdgggjeiflllhaa.M
open Go.ChangeShapes Go.WideShapes Go.ChangeAt Go.RowKit

set_option maxRecDepth 100000 in
set_option maxHeartbeats 8000000 in
theorem pieces_walk (lm : Int) (A1 : Option Addr) (n1 c1 : Nat) (l : List Aq) (A2 : Option Addr) (n2 c2 : Nat) (cs : Bytes) (W : World) (_w0 : (Lit.int .i64 lm).wf = true) (h1 : AIn W Aq.cells (AqOk W) A1 n1 c1 l) (h2 : BIn W A2 n2 c2 cs) :
    Calls Try.prog 7 #[.int .i64 lm, .slice A1 n1 c1, .slice A2 n2 c2] W fun e w' => e = .returned (.bool true) ∧ Below W.heap.size W w' := by
  have hn1 := h1.len
  have hn2 := h2.len
  subst hn1 hn2
  obtain ⟨t0, t1⟩ := tmod5000 lm
  obtain ⟨L, hL⟩ : ∃ L, L = Int.tmod lm 5000 := ⟨_, rfl⟩
  rw [← hL] at t0 t1
  have hLs := hL.symm
  clear hL
  have H1 := Lib.hid h1
  have H2 := Lib.hid h2
  clear h1 h2
  by_cases hbig : 12 < l.length ∨ 40 < cs.length
  · go_enter Try.func7, Try.ntmps7
    go_wp2_with (fail)
    refine (known10_any _).mono ?_
    rintro e w1 ⟨rfl, hF1⟩
    have HF1 := Lib.hid hF1
    clear hF1
    by_cases hb1 : 12 < l.length
    · have hb1i : (12 : Int) < (l.length : Int) := by omega
      go_wp2
      go_ret
      exact ⟨rfl, HF1.out.below⟩
    · have hb1i : ¬ (12 : Int) < (l.length : Int) := by omega
      have hb2i : (40 : Int) < (cs.length : Int) := by omega
      go_wp2
      go_ret
      exact ⟨rfl, HF1.out.below⟩
  have hb1 : l.length ≤ 12 := by omega
  have hb2 : cs.length ≤ 40 := by omega
  have hb1i : ¬ (12 : Int) < (l.length : Int) := by omega
  have hb2i : ¬ (40 : Int) < (cs.length : Int) := by omega
  clear hbig
  go_enter Try.func7, Try.ntmps7
  go_wp2_with (fail)
  refine (known10_any _).mono ?_
  rintro e w1 ⟨rfl, hF1⟩
  have HF1 := Lib.hid hF1
  clear hF1
  have hnew := fun w' (f : Frm (New W) W w') => kqnew L 2 (by omega) (by omega) (by omega) (by omega) W w' f
  obtain ⟨D0, hD0⟩ : ∃ D : Qd, D = ⟨⟨[], 0, 0⟩, lim L, 2, [], [], [], 0, false⟩ := ⟨_, rfl⟩
  rw [show (⟨⟨[], 0, 0⟩, lim L, (max (2 : Int) 0).toNat, [], [], [], 0, false⟩ : Qd) = D0 by rw [hD0]; rfl] at hnew
  have HNEW := Lib.hid hnew
  have HD0 := Lib.hid hD0
  clear hnew hD0
  go_wp2_with (fail)
  refine (HNEW.out w1 HF1.out).mono ?_
  rintro e w2 ⟨X, pa, ga, ma, rfl, hK, hF2, hX⟩
  have HK := Lib.hid hK
  clear hK
  go_wp2_with (fail)
  refine (HNEW.out w2 HK.out.frm).mono ?_
  rintro e w3 ⟨Y, pb, gb, mb, rfl, hK2, hF3, hY⟩
  have hQ : Qk2 W w3 X pa ga ma D0 Y pb gb mb D0 := ⟨HK.out.fresh hF3, hK2, fun k hk hy => by have := HK.out.at_.low k hk; have := hY k hy; omega⟩
  have HQ := Lib.hid hQ
  clear hQ
  clear hK2 hF3 hY hF2 hX HK HF1 HNEW
  go_wp2_with (fail)
  go_loopg [9, 10] l.length (fun kk v9 v10 wx => ∃ (i : Nat) (b : Bytes) (A : Option Addr) (c : Nat), v10 = .int .i64 (i : Int) ∧ i + kk = l.length ∧ v9 = .slice A b.length c ∧ b.length ≤ 5000 * i ∧ (A = none ∨ 0 < c) ∧ Hid (App (Apart W (Both X Y)) wx 5 1 A b.length c (bvs b)) ∧ Hid (Qk2 W wx X pa ga ma D0 Y pb gb mb D0))
  case atStart => exact ⟨0, [], none, 0, rfl, by omega, rfl, by simp, .inl rfl, App.none_, HQ⟩
  case round =>
    clear HQ
    obtain ⟨i, b, A, c, rfl, hi, rfl, hbl, hAc, hA, hQ⟩ := hrel
    rename World => wx
    by_cases hil : i < l.length
    · have hili : (i : Int) < (l.length : Int) := by omega
      have hFW := hQ.out.a.frm
      have hRw := H1.out.rd.fresh hFW
      obtain ⟨g1, o1, hAe, hc0⟩ := hRw.at_ (k := i * 8) (by rw [flatL_length Aq.cells 8 (fun _ => rfl)]; omega)
      subst hAe
      have hcl := aq_cells hRw i hil
      have hok := H1.out.ok l[i] (List.getElem_mem hil)
      generalize l[i] = x at *
      obtain ⟨xk, xs, xi, xj, xm, xn, xv, xA, xc, xb⟩ := x
      have hx0 := hcl 0 _ (by omega) rfl
      have hx1 := hcl 1 _ (by omega) rfl
      have hx2 := hcl 2 _ (by omega) rfl
      have hx3 := hcl 3 _ (by omega) rfl
      have hx4 := hcl 4 _ (by omega) rfl
      have hx5 := hcl 5 _ (by omega) rfl
      have hx6 := hcl 6 _ (by omega) rfl
      have hx7 := hcl 7 _ (by omega) rfl
      have hgl := World.block_lt_of_cell? _ _ hx0
      simp only [Nat.add_zero] at hx0 hgl
      clear hcl hc0
      have hsn : xn.size ≤ 1125899906842624 := hok.n
      have hsv : xv.size ≤ 1125899906842624 := hok.v
      obtain ⟨sz, hsz⟩ : ∃ q, q = xn.size + xv.size := ⟨_, rfl⟩
      have hwa : IntKind.i64.wrap ((xn.size : Int) + (xv.size : Int)) = (sz : Int) := by rw [IntWalk.i64_in _ (by omega)]; omega
      have HSZ := Lib.hid hsz
      clear hsz
      have hcap := H1.out.cap
      have HOK := Lib.hid hok
      have HRW := Lib.hid hRw
      have HFW := Lib.hid hFW
      clear hok hRw hFW
      go_upto_region 10 with (fail)
      obtain ⟨bad, hbad⟩ : ∃ q : Bool, q = decide (100 < sz ∨ 40 < xb.length) := ⟨_, rfl⟩
      have HBAD := Lib.hid hbad
      clear hbad
      go_cut [59] from 31 to 66 (fun v59 w' => v59 = .bool bad ∧ ∃ n, w' = wx.drewN n)
      case first =>
        by_cases hg1 : 100 < sz
        · have hg1i : (100 : Int) < (sz : Int) := by omega
          have hb : bad = true := by rw [HBAD.out]; exact decide_eq_true (.inl hg1)
          go_quiet (fail)
          all_goals go_wp2
          all_goals go_meet
          all_goals exact ⟨by rw [hb], _, rfl⟩
        · have hg1i : ¬ (100 : Int) < (sz : Int) := by omega
          by_cases hg2 : 40 < xb.length
          · have hg2i : (40 : Int) < (xb.length : Int) := by omega
            have hb : bad = true := by rw [HBAD.out]; exact decide_eq_true (.inr hg2)
            go_quiet (fail)
            all_goals go_wp2
            all_goals go_meet
            all_goals exact ⟨by rw [hb], _, rfl⟩
          · have hg2i : ¬ (40 : Int) < (xb.length : Int) := by omega
            have hb : bad = false := by rw [HBAD.out]; exact decide_eq_false (by omega)
            go_quiet (fail)
            all_goals go_wp2
            all_goals go_meet
            all_goals exact ⟨by rw [hb], _, rfl⟩
      case rest =>
        obtain ⟨rfl, n9, hw9⟩ := hcut
        rename World => w9
        have hF9 : Frm (New wx) wx w9 := by rw [hw9]; exact (Frm.refl _ _).drewN n9
        have hQ9 := hQ.out.fresh hF9
        clear hw9
        cases bad with
        | true =>
          go_wp2
          go_ret
          exact ⟨rfl, hQ9.a.frm.below⟩
        | false =>
          have hsm : ¬ (100 < sz ∨ 40 < xb.length) := of_decide_eq_false HBAD.out.symm
          have hA9 := hA.out.fresh hF9
          have hc8 : ∀ q u, wx.cell? ⟨g1, q, none⟩ = some u → w9.cell? ⟨g1, q, none⟩ = some u := fun q u h => by rw [hF9.cell (p := ⟨g1, q, none⟩) (by unfold New; simp only; omega)]; exact h
          have hy0 := hc8 _ _ hx0
          have hy1 := hc8 _ _ hx1
          have hy2 := hc8 _ _ hx2
          have hy3 := hc8 _ _ hx3
          have hy4 := hc8 _ _ hx4
          have hy5 := hc8 _ _ hx5
          have hy6 := hc8 _ _ hx6
          have hy7 := hc8 _ _ hx7
          have hgl9 := Nat.lt_of_lt_of_le hgl hF9.size
          have hin := act_any ⟨xk, xs, xi, xj, xm, xn, xv, xA, xc, xb⟩ w9 HOK.out.k HOK.out.i (by have := HSZ.out; show xn.size ≤ 100; omega) (by have := HSZ.out; show xv.size ≤ 100; omega) (by show xb.length ≤ 40; omega) ((HOK.out.b.rd.fresh HFW.out).fresh hF9)
          simp only at hin
          clear hx0 hx1 hx2 hx3 hx4 hx5 hx6 hx7 hc8 hgl hQ hA
          have HIN := Lib.hid hin
          have HQ9 := Lib.hid hQ9
          have HA9 := Lib.hid hA9
          clear hin hQ9 hA9
          go_wp2_with (fail)
          refine HIN.out.mono ?_
          rintro e w10 ⟨li, Ai, ci, rfl, hlil, hRi, hF10⟩
          have hQ10 := HQ9.out.fresh hF10
          have hA10 := HA9.out.fresh hF10
          have hup : Up (Apart W (Both X Y)) w10 := fun k hk => ⟨Nat.le_trans hQ10.a.frm.size hk, fun q => by
            rcases q with q | q
            · have := hQ10.a.at_.low k q; omega
            · have := hQ10.b.at_.low k q; omega⟩
          have HQ10 := Lib.hid hQ10
          have HA10 := Lib.hid hA10
          clear hQ10 hA10
          clear hF10 HIN HQ9 HA9 hy0 hy1 hy2 hy3 hy4 hy5 hy6 hy7 hgl9
          go_wp2_with (refine wpList_append u8s rfl rfl rfl HA10.out hup rfl hRi (by rw [bvs_length, Nat.mul_one]) (bvs_one _) (by omega) ?_; intro A6 c6 w6 hA6 hF6 hblk _)
          have hAc6 : A6 = none ∨ 0 < c6 := by
            rcases hblk with ⟨e1, e2⟩ | ⟨_, e2⟩
            · rcases hAc with e | e
              · subst e
                cases A6 with
                | none => exact .inl rfl
                | some z => cases e1
              · exact .inr (by rw [e2]; exact e)
            · have := hA6.cap; exact .inr (by omega)
          have hQ6 : Qk2 W w6 X pa ga ma D0 Y pb gb mb D0 := ⟨HQ10.out.a.apart (hF6.mono (fun k hk => ⟨hk.1, fun q => hk.2 (.inl q)⟩)), HQ10.out.b.apart (hF6.mono (fun k hk => ⟨hk.1, fun q => hk.2 (.inr q)⟩)), HQ10.out.dis⟩
          have hlen : b.length + li.length = (b ++ li).length := List.length_append.symm
          rw [← bvs_append, hlen] at hA6
          rw [hlen]
          have hlb : (b ++ li).length ≤ 5000 * (i + 1) := by rw [← hlen]; omega
          generalize b ++ li = b2 at *
          have HA6 := Lib.hid hA6
          have HQ6 := Lib.hid hQ6
          clear hA6 hQ6
          go_roundg (gk - 1)
          case measure => omega
          case rel => exact ⟨i + 1, b2, A6, c6, rfl, by omega, rfl, hlb, hAc6, HA6, HQ6⟩
    · have hili : ¬ (i : Int) < (l.length : Int) := by omega
      have hb60 : b.length ≤ 60000 := by omega
      clear hbl hi
      have hD0r : D0.rest = [] := by rw [HD0.out]
      have hD0n : D0.t.n = 0 := by rw [HD0.out]
      have hD0b : D0.bad = false := by rw [HD0.out]
      have hfd := kqfeed hQ.out.a b A c hA.out.rd (by rw [hD0r]; simp only [List.length_nil]; omega) (by rw [hD0r, hD0n]; simp only [List.length_nil]; omega)
      obtain ⟨RA, hRA⟩ : ∃ q, q = D0.feed b := ⟨_, rfl⟩
      rw [← hRA] at hfd
      obtain ⟨ea, DA⟩ := RA
      have HFD := Lib.hid hfd
      have HRA := Lib.hid hRA
      clear hfd hRA
      go_wp2_with (fail)
      refine HFD.out.mono ?_
      rintro e w4 ⟨X4, hK4, rfl, f4, s4⟩
      have hQ4 := hQ.out.one hK4 f4 s4
      have hA4 := hA.out.past hAc (X' := Both X4 Y) (f4.mono (fun k hk => hk.imp .inl id)) (fun k hk => by
        rcases hk with q | q
        · exact (s4 k q).imp .inl id
        · exact .inl (.inr q))
      have hkp : QKept w4 (Both X4 Y) A (bvs b) := ⟨hA4.rd, fun k hk => by
        rcases hAc with e | e
        · subst e; cases hk
        · exact hA4.gone e k hk⟩
      have hcap4 := hA4.cap
      simp only at hQ4
      have hgood := hQ.out.a.at_.good
      have HQ4 := Lib.hid hQ4
      have HKP := Lib.hid hkp
      clear hQ4 hkp
      clear hA4 hA hQ hK4 f4 s4 hAc HFD
      go_wp2_with (fail)
      obtain ⟨hD0ok, hD0cap, hD0lim⟩ := hgood
      have hpi0 := PieceI.start hD0b hD0r
      have HPI0 := Lib.hid hpi0
      clear hpi0
      go_loopg [9, 12, 13] (cs.length + 1) (fun kk v9 v12 v13 wx => ∃ (i : Nat) (p q : Bytes) (A : Option Addr) (c : Nat) (B : Qd) (Y : Nat → Prop), v13 = .int .i64 (i : Int) ∧ v9 = .slice A q.length c ∧ v12 = .bool B.bad ∧ q.length ≤ c ∧ i ≤ cs.length + 1 ∧ (q ≠ [] → i ≤ cs.length ∧ cs.length + 1 ≤ i + kk) ∧ B.t.n + B.rest.length ≤ p.length ∧ p.length + q.length ≤ 60000 ∧ Hid (p ++ q = b) ∧ Hid (PieceI D0 B p) ∧ Hid (QKept wx (Both X4 Y) A (bvs q)) ∧ Hid (Qk2 W wx X4 pa ga ma DA Y pb gb mb B))
      case atStart => exact ⟨0, [], b, A, c, D0, Y, rfl, rfl, by rw [hD0b], hcap4, by omega, fun _ => ⟨by omega, by omega⟩, by rw [hD0n, hD0r]; simp, by simpa using hb60, rfl, HPI0, HKP, HQ4⟩
      case round =>
        clear HPI0 HKP HQ4
        obtain ⟨j, p, q, A, c, B, Y, rfl, rfl, rfl, hqc, hjc, hjm, hphi, hpq, hPQ, hPI, hkp, hQ⟩ := hrel
        rename World => wx
        by_cases hq0 : q = []
        · have hPI2 := hPI.out
          have hPQ2 := hPQ.out
          rw [hq0, List.append_nil] at hPQ2
          rw [hPQ2] at hPI2
          obtain ⟨hw1, hw2⟩ := hPI2.whole
          rw [← HRA.out] at hw1 hw2
          simp only at hw1 hw2
          subst hq0
          rw [show ([] : Bytes).length = 0 from rfl]
          clear hjm hPQ hkp hPI2 hPQ2
          cases hbb : B.bad with
          | true =>
            rw [hbb] at hw1
            have hea : ¬ ea = 0 := fun e => by have := hw1.1 e; cases this
            have heai : ¬ (ea : Int) = 0 := by omega
            have hfr := hQ.out.a.frm
            have HFR := Lib.hid hfr
            clear hfr
            clear hw1 hw2
            go_upto_region 23 with (fail)
            refine wp_region_held (by kernel_rfl) (S := fun w' => w' = wx.drew) ?_
            change wpAnyH _ _ _ _ _ _ _ _ wx.drew
            have hS : wx.drew = wx.drew := rfl
            refine wpAnyH_takeB (i := 0) (v := ?_) (d := some 101) rfl (by rfl) (by kernel_rfl) (fun _ _ _ h => h) (by rfl) hS (fun w hSw => ?_) ?_
            rotate_left
            · (try dsimp only at hSw); (try subst hSw); go_simp; first | done | (with_reducible rfl)
            simp only [Act.put, List.setIfInBounds_toArray, List.set_cons_zero, List.set_cons_succ]
            refine wpAnyH_takeB (i := 1) (v := .bool true) (d := some 102) rfl (by rfl) (by kernel_rfl) (fun _ _ _ h => h) (by rfl) hS (fun w hSw => by go_simp) ?_
            simp only [Act.put, List.setIfInBounds_toArray, List.set_cons_zero, List.set_cons_succ]
            refine wpAnyH_takeB (i := 2) (v := ?_) (d := some 103) rfl (by rfl) (by kernel_rfl) (fun _ _ _ h => h) (by rfl) hS (fun w hSw => ?_) ?_
            rotate_left
            · (try dsimp only at hSw); (try subst hSw); go_simp; first | done | (with_reducible rfl)
            simp only [Act.put, List.setIfInBounds_toArray, List.set_cons_zero, List.set_cons_succ]
            refine wpAnyH_takeB (i := 3) (v := .bool true) (d := some 104) rfl (by rfl) (by kernel_rfl) (fun _ _ _ h => h) (by rfl) hS (fun w hSw => by go_simp) ?_
            simp only [Act.put, List.setIfInBounds_toArray, List.set_cons_zero, List.set_cons_succ]
            refine wpAnyH_takeB (i := 4) (v := ?_) (d := some 105) rfl (by rfl) (by kernel_rfl) (fun _ _ _ h => h) (by rfl) hS (fun w hSw => ?_) ?_
            rotate_left
            · (try dsimp only at hSw); (try subst hSw); go_simp; first | done | (with_reducible rfl)
            simp only [Act.put, List.setIfInBounds_toArray, List.set_cons_zero, List.set_cons_succ]
            refine wpAnyH_takeB (i := 5) (v := ?_) (d := some 106) rfl (by rfl) (by kernel_rfl) (fun _ _ _ h => h) (by rfl) hS (fun w hSw => ?_) ?_
            rotate_left
            · (try dsimp only at hSw); (try subst hSw); go_simp; first | done | (with_reducible rfl)
            simp only [Act.put, List.setIfInBounds_toArray, List.set_cons_zero, List.set_cons_succ]
            refine wpAnyH_takeB (i := 6) (v := ?_) (d := some 107) rfl (by rfl) (by kernel_rfl) (fun _ _ _ h => h) (by rfl) hS (fun w hSw => ?_) ?_
            rotate_left
            · (try dsimp only at hSw); (try subst hSw); go_simp; first | done | (with_reducible rfl)
            simp only [Act.put, List.setIfInBounds_toArray, List.set_cons_zero, List.set_cons_succ]
            refine wpAnyH_skipB (i := 7) (d := some 108) rfl (by rfl) (by kernel_rfl) (fun _ _ _ h => h) (by rfl) hS ?_
            simp only [Act.put, List.setIfInBounds_toArray, List.set_cons_zero, List.set_cons_succ]
            refine wpAnyH_skipB (i := 8) (d := some 109) rfl (by rfl) (by kernel_rfl) (fun _ _ _ h => h) (by rfl) hS ?_
            simp only [Act.put, List.setIfInBounds_toArray, List.set_cons_zero, List.set_cons_succ]
            refine wpAnyH_skipB (i := 9) (d := some 110) rfl (by rfl) (by kernel_rfl) (fun _ _ _ h => h) (by rfl) hS ?_
            simp only [Act.put, List.setIfInBounds_toArray, List.set_cons_zero, List.set_cons_succ]
            refine wpAnyH_skipB (i := 10) (d := some 111) rfl (by rfl) (by kernel_rfl) (fun _ _ _ h => h) (by rfl) hS ?_
            simp only [Act.put, List.setIfInBounds_toArray, List.set_cons_zero, List.set_cons_succ]
            refine wpAnyH_skipB (i := 11) (d := some 112) rfl (by rfl) (by kernel_rfl) (fun _ _ _ h => h) (by rfl) hS ?_
            simp only [Act.put, List.setIfInBounds_toArray, List.set_cons_zero, List.set_cons_succ]
            refine wpAnyH_skipB (i := 12) (d := some 113) rfl (by rfl) (by kernel_rfl) (fun _ _ _ h => h) (by rfl) hS ?_
            simp only [Act.put, List.setIfInBounds_toArray, List.set_cons_zero, List.set_cons_succ]
            refine wpAnyH_skipB (i := 13) (d := some 114) rfl (by rfl) (by kernel_rfl) (fun _ _ _ h => h) (by rfl) hS ?_
            simp only [Act.put, List.setIfInBounds_toArray, List.set_cons_zero, List.set_cons_succ]
            refine wpAnyH_skipB (i := 14) (d := some 115) rfl (by rfl) (by kernel_rfl) (fun _ _ _ h => h) (by rfl) hS ?_
            simp only [Act.put, List.setIfInBounds_toArray, List.set_cons_zero, List.set_cons_succ]
            refine wpAnyH_skipB (i := 15) (d := some 116) rfl (by rfl) (by kernel_rfl) (fun _ _ _ h => h) (by rfl) hS ?_
            simp only [Act.put, List.setIfInBounds_toArray, List.set_cons_zero, List.set_cons_succ]
            refine wpAnyH_skipB (i := 16) (d := some 117) rfl (by rfl) (by kernel_rfl) (fun _ _ _ h => h) (by rfl) hS ?_
            simp only [Act.put, List.setIfInBounds_toArray, List.set_cons_zero, List.set_cons_succ]
            refine wpAnyH_skipB (i := 17) (d := some 118) rfl (by rfl) (by kernel_rfl) (fun _ _ _ h => h) (by rfl) hS ?_
            simp only [Act.put, List.setIfInBounds_toArray, List.set_cons_zero, List.set_cons_succ]
            refine wpAnyH_skipB (i := 18) (d := some 119) rfl (by rfl) (by kernel_rfl) (fun _ _ _ h => h) (by rfl) hS ?_
            simp only [Act.put, List.setIfInBounds_toArray, List.set_cons_zero, List.set_cons_succ]
            refine wpAnyH_skipB (i := 19) (d := some 120) rfl (by rfl) (by kernel_rfl) (fun _ _ _ h => h) (by rfl) hS ?_
            simp only [Act.put, List.setIfInBounds_toArray, List.set_cons_zero, List.set_cons_succ]
            refine wpAnyH_skipB (i := 20) (d := some 121) rfl (by rfl) (by kernel_rfl) (fun _ _ _ h => h) (by rfl) hS ?_
            simp only [Act.put, List.setIfInBounds_toArray, List.set_cons_zero, List.set_cons_succ]
            refine wpAnyH_skipB (i := 21) (d := some 122) rfl (by rfl) (by kernel_rfl) (fun _ _ _ h => h) (by rfl) hS ?_
            simp only [Act.put, List.setIfInBounds_toArray, List.set_cons_zero, List.set_cons_succ]
            refine wpAnyH_skipB (i := 22) (d := some 123) rfl (by rfl) (by kernel_rfl) (fun _ _ _ h => h) (by rfl) hS ?_
            simp only [Act.put, List.setIfInBounds_toArray, List.set_cons_zero, List.set_cons_succ]
            refine wpAnyH_skipB (i := 23) (d := some 124) rfl (by rfl) (by kernel_rfl) (fun _ _ _ h => h) (by rfl) hS ?_
            simp only [Act.put, List.setIfInBounds_toArray, List.set_cons_zero, List.set_cons_succ]
            refine wpAnyH_skipB (i := 24) (d := some 125) rfl (by rfl) (by kernel_rfl) (fun _ _ _ h => h) (by rfl) hS ?_
            simp only [Act.put, List.setIfInBounds_toArray, List.set_cons_zero, List.set_cons_succ]
            refine wpAnyH_skipB (i := 25) (d := some 126) rfl (by rfl) (by kernel_rfl) (fun _ _ _ h => h) (by rfl) hS ?_
            simp only [Act.put, List.setIfInBounds_toArray, List.set_cons_zero, List.set_cons_succ]
            refine wpAnyH_skipB (i := 26) (d := some 127) rfl (by rfl) (by kernel_rfl) (fun _ _ _ h => h) (by rfl) hS ?_
            simp only [Act.put, List.setIfInBounds_toArray, List.set_cons_zero, List.set_cons_succ]
            refine wpAnyH_skipB (i := 27) (d := some 128) rfl (by rfl) (by kernel_rfl) (fun _ _ _ h => h) (by rfl) hS ?_
            simp only [Act.put, List.setIfInBounds_toArray, List.set_cons_zero, List.set_cons_succ]
            refine wpAnyH_skipB (i := 28) (d := some 129) rfl (by rfl) (by kernel_rfl) (fun _ _ _ h => h) (by rfl) hS ?_
            simp only [Act.put, List.setIfInBounds_toArray, List.set_cons_zero, List.set_cons_succ]
            refine wpAnyH_skipB (i := 29) (d := some 130) rfl (by rfl) (by kernel_rfl) (fun _ _ _ h => h) (by rfl) hS ?_
            simp only [Act.put, List.setIfInBounds_toArray, List.set_cons_zero, List.set_cons_succ]
            refine wpAnyH_skipB (i := 30) (d := some 131) rfl (by rfl) (by kernel_rfl) (fun _ _ _ h => h) (by rfl) hS ?_
            simp only [Act.put, List.setIfInBounds_toArray, List.set_cons_zero, List.set_cons_succ]
            refine wpAnyH_skipB (i := 31) (d := some 132) rfl (by rfl) (by kernel_rfl) (fun _ _ _ h => h) (by rfl) hS ?_
            simp only [Act.put, List.setIfInBounds_toArray, List.set_cons_zero, List.set_cons_succ]
            refine wpAnyH_takeB (i := 32) (v := ?_) (d := some 133) rfl (by rfl) (by kernel_rfl) (fun _ _ _ h => h) (by rfl) hS (fun w hSw => ?_) ?_
            rotate_left
            · (try dsimp only at hSw); (try subst hSw); go_simp; first | done | (with_reducible rfl)
            simp only [Act.put, List.setIfInBounds_toArray, List.set_cons_zero, List.set_cons_succ]
            refine wpAnyH_takeB (i := 33) (v := ?_) (d := some 134) rfl (by rfl) (by kernel_rfl) (fun _ _ _ h => h) (by rfl) hS (fun w hSw => ?_) ?_
            rotate_left
            · (try dsimp only at hSw); (try subst hSw); go_simp; first | done | (with_reducible rfl)
            simp only [Act.put, List.setIfInBounds_toArray, List.set_cons_zero, List.set_cons_succ]
            refine wpAnyH_oneB (i := 34) rfl (by kernel_rfl) (fun K hK => ?_)
            refine Eq.mpr (if_pos (by rfl)) ?_
            go_simp
            refine hK.out _ _ (hS) ?_
            clear hK K
            try simp only [Act.put, List.setIfInBounds_toArray, List.set_cons_zero, List.set_cons_succ]
            refine wpAnyH_done (by kernel_rfl) ?_ _
            go_wp2_with (fail)
            go_ret
            exact ⟨rfl, (HFR.out.drew).below⟩
          | false =>
            rw [hbb] at hw1 hw2
            have hda := hw2 rfl
            have hea := hw1.2 rfl
            subst hda hea
            have hPIb : D0.feed p = (0, DA) := by
              rcases hPI.out with ⟨_, h⟩ | ⟨h, _⟩
              · exact h
              · rw [hbb] at h; cases h
            have hout : DA.out = [] := by have := feed_out D0 p; rw [hPIb] at this; rw [this, HD0.out]
            have hQd := hQ.out.fresh ((Frm.refl (New wx) wx).drew)
            have hsa := kqsend2 hQd.a (by rw [hout]; simp) (by have := hpq; omega)
            have hsb := fun w' Y' (h : QKt W w' Y' pb gb mb DA) => kqsend2 h (by rw [hout]; simp) (by have := hpq; omega)
            obtain ⟨ls, hls⟩ : ∃ z, z = DA.send.1 := ⟨_, rfl⟩
            rw [← hls] at hsa hsb
            clear hls hw1 hw2
            have HQD := Lib.hid hQd
            have HSA := Lib.hid hsa
            have HSB := Lib.hid hsb
            clear hQd hsa hsb
            go_upto_region 23 with (fail)
            refine wp_region_held (by kernel_rfl) (S := fun _ => True) ?_
            change wpAnyH _ _ _ _ _ _ _ _ wx.drew
            have hS : True := trivial
            refine wpAnyH_takeB (i := 0) (v := ?_) (d := some 101) rfl (by rfl) (by kernel_rfl) (fun _ _ _ h => h) (by rfl) hS (fun w hSw => ?_) ?_
            rotate_left
            · (try dsimp only at hSw); (try subst hSw); go_simp; first | done | (with_reducible rfl)
            simp only [Act.put, List.setIfInBounds_toArray, List.set_cons_zero, List.set_cons_succ]
            refine wpAnyH_takeB (i := 1) (v := .bool false) (d := some 102) rfl (by rfl) (by kernel_rfl) (fun _ _ _ h => h) (by rfl) hS (fun w hSw => by go_simp) ?_
            simp only [Act.put, List.setIfInBounds_toArray, List.set_cons_zero, List.set_cons_succ]
            refine wpAnyH_takeB (i := 2) (v := ?_) (d := some 103) rfl (by rfl) (by kernel_rfl) (fun _ _ _ h => h) (by rfl) hS (fun w hSw => ?_) ?_
            rotate_left
            · (try dsimp only at hSw); (try subst hSw); go_simp; first | done | (with_reducible rfl)
            simp only [Act.put, List.setIfInBounds_toArray, List.set_cons_zero, List.set_cons_succ]
            refine wpAnyH_takeB (i := 3) (v := .bool true) (d := some 104) rfl (by rfl) (by kernel_rfl) (fun _ _ _ h => h) (by rfl) hS (fun w hSw => by go_simp) ?_
            simp only [Act.put, List.setIfInBounds_toArray, List.set_cons_zero, List.set_cons_succ]
            refine wpAnyH_takeB (i := 4) (v := ?_) (d := some 105) rfl (by rfl) (by kernel_rfl) (fun _ _ _ h => h) (by rfl) hS (fun w hSw => ?_) ?_
            rotate_left
            · (try dsimp only at hSw); (try subst hSw); go_simp; first | done | (with_reducible rfl)
            simp only [Act.put, List.setIfInBounds_toArray, List.set_cons_zero, List.set_cons_succ]
            refine wpAnyH_takeB (i := 5) (v := ?_) (d := some 106) rfl (by rfl) (by kernel_rfl) (fun _ _ _ h => h) (by rfl) hS (fun w hSw => ?_) ?_
            rotate_left
            · (try dsimp only at hSw); (try subst hSw); go_simp; first | done | (with_reducible rfl)
            simp only [Act.put, List.setIfInBounds_toArray, List.set_cons_zero, List.set_cons_succ]
            refine wpAnyH_takeB (i := 6) (v := ?_) (d := some 107) rfl (by rfl) (by kernel_rfl) (fun _ _ _ h => h) (by rfl) hS (fun w hSw => ?_) ?_
            rotate_left
            · (try dsimp only at hSw); (try subst hSw); go_simp; first | done | (with_reducible rfl)
            simp only [Act.put, List.setIfInBounds_toArray, List.set_cons_zero, List.set_cons_succ]
            refine wpAnyH_takeB (i := 7) (v := ?_) (d := some 108) rfl (by rfl) (by kernel_rfl) (fun _ _ _ h => h) (by rfl) hS (fun w hSw => ?_) ?_
            rotate_left
            · (try dsimp only at hSw); (try subst hSw); go_simp; first | done | (with_reducible rfl)
            simp only [Act.put, List.setIfInBounds_toArray, List.set_cons_zero, List.set_cons_succ]
            refine wpAnyH_takeB (i := 10) (v := ?_) (d := some 111) rfl (by rfl) (by kernel_rfl) (fun _ _ _ h => h) (by rfl) hS (fun w hSw => ?_) ?_
            rotate_left
            · (try dsimp only at hSw); (try subst hSw); go_simp; first | done | (with_reducible rfl)
            simp only [Act.put, List.setIfInBounds_toArray, List.set_cons_zero, List.set_cons_succ]
            refine wpAnyH_oneB (i := 8) rfl (by kernel_rfl) (fun K hKK => ?_)
            refine Eq.mpr (if_pos (by rfl)) ?_
            go_wp2_with (fail)
            refine (kqtable HQD.out.a).mono ?_
            rintro e9 w9 ⟨rfl, hw9⟩
            rw [hw9]
            clear hw9 w9
            refine hKK.out _ _ trivial ?_
            clear hKK K
            try simp only [Act.put, List.setIfInBounds_toArray, List.set_cons_zero, List.set_cons_succ]
            refine wpAnyH_oneB (i := 9) rfl (by kernel_rfl) (fun K hKK => ?_)
            refine Eq.mpr (if_pos (by rfl)) ?_
            go_wp2_with (fail)
            refine (kqcount HQD.out.a).mono ?_
            rintro e9 w9 ⟨rfl, hw9⟩
            rw [hw9]
            clear hw9 w9
            refine hKK.out _ _ trivial ?_
            clear hKK K
            try simp only [Act.put, List.setIfInBounds_toArray, List.set_cons_zero, List.set_cons_succ]
            refine wpAnyH_oneB (i := 11) rfl (by kernel_rfl) (fun K hKK => ?_)
            refine Eq.mpr (if_pos (by rfl)) ?_
            go_wp2_with (fail)
            refine (kqtable HQD.out.b).mono ?_
            rintro e9 w9 ⟨rfl, hw9⟩
            rw [hw9]
            clear hw9 w9
            refine hKK.out _ _ trivial ?_
            clear hKK K
            try simp only [Act.put, List.setIfInBounds_toArray, List.set_cons_zero, List.set_cons_succ]
            refine wpAnyH_oneB (i := 12) rfl (by kernel_rfl) (fun K hKK => ?_)
            refine Eq.mpr (if_pos (by rfl)) ?_
            go_wp2_with (fail)
            refine (kqcount HQD.out.b).mono ?_
            rintro e9 w9 ⟨rfl, hw9⟩
            rw [hw9]
            clear hw9 w9
            refine hKK.out _ _ trivial ?_
            clear hKK K
            try simp only [Act.put, List.setIfInBounds_toArray, List.set_cons_zero, List.set_cons_succ]
            refine wpAnyH_takeB (i := 13) (v := ?_) (d := some 114) rfl (by rfl) (by kernel_rfl) (fun _ _ _ h => h) (by rfl) hS (fun w hSw => ?_) ?_
            rotate_left
            · (try dsimp only at hSw); (try subst hSw); go_simp; first | done | (with_reducible rfl)
            simp only [Act.put, List.setIfInBounds_toArray, List.set_cons_zero, List.set_cons_succ]
            refine wpAnyH_takeB (i := 14) (v := ?_) (d := some 115) rfl (by rfl) (by kernel_rfl) (fun _ _ _ h => h) (by rfl) hS (fun w hSw => ?_) ?_
            rotate_left
            · (try dsimp only at hSw); (try subst hSw); go_simp; first | done | (with_reducible rfl)
            simp only [Act.put, List.setIfInBounds_toArray, List.set_cons_zero, List.set_cons_succ]
            refine wpAnyH_takeB (i := 15) (v := ?_) (d := some 116) rfl (by rfl) (by kernel_rfl) (fun _ _ _ h => h) (by rfl) hS (fun w hSw => ?_) ?_
            rotate_left
            · (try dsimp only at hSw); (try subst hSw); go_simp; first | done | (with_reducible rfl)
            simp only [Act.put, List.setIfInBounds_toArray, List.set_cons_zero, List.set_cons_succ]
            refine wpAnyH_takeB (i := 18) (v := ?_) (d := some 119) rfl (by rfl) (by kernel_rfl) (fun _ _ _ h => h) (by rfl) hS (fun w hSw => ?_) ?_
            rotate_left
            · (try dsimp only at hSw); (try subst hSw); go_simp; first | done | (with_reducible rfl)
            simp only [Act.put, List.setIfInBounds_toArray, List.set_cons_zero, List.set_cons_succ]
            refine wpAnyH_oneB (i := 16) rfl (by kernel_rfl) (fun K hKK => ?_)
            refine Eq.mpr (if_pos (by rfl)) ?_
            go_wp2_with (fail)
            refine (kqtable HQD.out.a).mono ?_
            rintro e9 w9 ⟨rfl, hw9⟩
            rw [hw9]
            clear hw9 w9
            refine hKK.out _ _ trivial ?_
            clear hKK K
            try simp only [Act.put, List.setIfInBounds_toArray, List.set_cons_zero, List.set_cons_succ]
            refine wpAnyH_oneB (i := 17) rfl (by kernel_rfl) (fun K hKK => ?_)
            refine Eq.mpr (if_pos (by rfl)) ?_
            go_wp2_with (fail)
            refine (kqsize HQD.out.a).mono ?_
            rintro e9 w9 ⟨rfl, hw9⟩
            rw [hw9]
            clear hw9 w9
            refine hKK.out _ _ trivial ?_
            clear hKK K
            try simp only [Act.put, List.setIfInBounds_toArray, List.set_cons_zero, List.set_cons_succ]
            refine wpAnyH_oneB (i := 19) rfl (by kernel_rfl) (fun K hKK => ?_)
            refine Eq.mpr (if_pos (by rfl)) ?_
            go_wp2_with (fail)
            refine (kqtable HQD.out.b).mono ?_
            rintro e9 w9 ⟨rfl, hw9⟩
            rw [hw9]
            clear hw9 w9
            refine hKK.out _ _ trivial ?_
            clear hKK K
            try simp only [Act.put, List.setIfInBounds_toArray, List.set_cons_zero, List.set_cons_succ]
            refine wpAnyH_oneB (i := 20) rfl (by kernel_rfl) (fun K hKK => ?_)
            refine Eq.mpr (if_pos (by rfl)) ?_
            go_wp2_with (fail)
            refine (kqsize HQD.out.b).mono ?_
            rintro e9 w9 ⟨rfl, hw9⟩
            rw [hw9]
            clear hw9 w9
            refine hKK.out _ _ trivial ?_
            clear hKK K
            try simp only [Act.put, List.setIfInBounds_toArray, List.set_cons_zero, List.set_cons_succ]
            refine wpAnyH_takeB (i := 21) (v := ?_) (d := some 122) rfl (by rfl) (by kernel_rfl) (fun _ _ _ h => h) (by rfl) hS (fun w hSw => ?_) ?_
            rotate_left
            · (try dsimp only at hSw); (try subst hSw); go_simp; first | done | (with_reducible rfl)
            simp only [Act.put, List.setIfInBounds_toArray, List.set_cons_zero, List.set_cons_succ]
            refine wpAnyH_takeB (i := 22) (v := ?_) (d := some 123) rfl (by rfl) (by kernel_rfl) (fun _ _ _ h => h) (by rfl) hS (fun w hSw => ?_) ?_
            rotate_left
            · (try dsimp only at hSw); (try subst hSw); go_simp; first | done | (with_reducible rfl)
            simp only [Act.put, List.setIfInBounds_toArray, List.set_cons_zero, List.set_cons_succ]
            refine wpAnyH_takeB (i := 23) (v := ?_) (d := some 124) rfl (by rfl) (by kernel_rfl) (fun _ _ _ h => h) (by rfl) hS (fun w hSw => ?_) ?_
            rotate_left
            · (try dsimp only at hSw); (try subst hSw); go_simp; first | done | (with_reducible rfl)
            simp only [Act.put, List.setIfInBounds_toArray, List.set_cons_zero, List.set_cons_succ]
            refine wpAnyH_takeB (i := 24) (v := ?_) (d := some 125) rfl (by rfl) (by kernel_rfl) (fun _ _ _ h => h) (by rfl) hS (fun w hSw => ?_) ?_
            rotate_left
            · (try dsimp only at hSw); (try subst hSw); go_simp; first | done | (with_reducible rfl)
            simp only [Act.put, List.setIfInBounds_toArray, List.set_cons_zero, List.set_cons_succ]
            refine wpAnyH_takeB (i := 27) (v := ?_) (d := some 128) rfl (by rfl) (by kernel_rfl) (fun _ _ _ h => h) (by rfl) hS (fun w hSw => ?_) ?_
            rotate_left
            · (try dsimp only at hSw); (try subst hSw); go_simp; first | done | (with_reducible rfl)
            simp only [Act.put, List.setIfInBounds_toArray, List.set_cons_zero, List.set_cons_succ]
            refine wpAnyH_oneB (i := 25) rfl (by kernel_rfl) (fun K hKK => ?_)
            refine Eq.mpr (if_pos (by rfl)) ?_
            go_wp2_with (fail)
            refine HSA.out.mono ?_
            rintro e w6 ⟨X6, A6, c6, hK6, rfl, hA6, f6, s6, o6⟩
            have hQ6 := HQD.out.one hK6 f6 s6
            have hA6f : QKept w6 (Both X6 Y) A6 (bvs ls) ∨ True := .inr trivial
            refine hKK.out _ _ trivial ?_
            clear hKK K hA6f
            try simp only [Act.put, List.setIfInBounds_toArray, List.set_cons_zero, List.set_cons_succ]
            have hS6 : Rd w6 A6 (bvs ls) := hA6.rd
            refine wpAnyH_mono (S1 := fun w' => Rd w' A6 (bvs ls)) (fun _ _ => trivial) _ _ _ _ ?_
            refine wpAnyH_takeB (i := 26) (v := .string ⟨ls.toArray⟩) (d := some 127) rfl (by rfl) (by kernel_rfl) (fun _ _ _ h => h) (by rfl) hS6 (fun w hSw => run_convo rfl rfl hSw) ?_
            simp only [Act.put, List.setIfInBounds_toArray, List.set_cons_zero, List.set_cons_succ]
            have hA6Y : QKept w6 Y A6 (bvs ls) := ⟨hA6.rd, fun k hk => ⟨fun hy => by
              rcases o6 k hk with z | z
              · exact HQD.out.dis k z hy
              · have := HQD.out.b.at_.low k hy; omega, (hA6.far k hk).2⟩⟩
            have hsb6 := HSB.out w6 Y hQ6.b
            have HSB6 := Lib.hid hsb6
            clear hsb6
            refine wpAnyH_oneB (i := 28) rfl (by kernel_rfl) (fun K hKK => ?_)
            refine Eq.mpr (if_pos (by rfl)) ?_
            go_wp2_with (fail)
            refine HSB6.out.mono ?_
            rintro e w7 ⟨Y7, A7, c7, hK7, rfl, hA7, f7, s7, o7⟩
            have hS7 : Rd w7 A7 (bvs ls) ∧ Rd w7 A6 (bvs ls) := ⟨hA7.rd, (hA6Y.keep f7 s7).rd⟩
            have hfr := hK7.frm
            have HFR := Lib.hid hfr
            clear hfr
            refine hKK.out _ _ hS7.2 ?_
            clear hKK K
            try simp only [Act.put, List.setIfInBounds_toArray, List.set_cons_zero, List.set_cons_succ]
            refine wpAnyH_mono (S1 := fun w' => Rd w' A7 (bvs ls) ∧ Rd w' A6 (bvs ls)) (fun _ h => h.2) _ _ _ _ ?_
            refine wpAnyH_takeB (i := 29) (v := .string ⟨ls.toArray⟩) (d := some 130) rfl (by rfl) (by kernel_rfl) (fun _ _ _ h => h) (by rfl) hS7 (fun w hSw => run_convo rfl rfl hSw.1) ?_
            simp only [Act.put, List.setIfInBounds_toArray, List.set_cons_zero, List.set_cons_succ]
            refine wpAnyH_takeB (i := 30) (v := ?_) (d := some 131) rfl (by rfl) (by kernel_rfl) (fun _ _ _ h => h) (by rfl) hS7 (fun w hSw => ?_) ?_
            rotate_left
            · (try dsimp only at hSw); (try subst hSw); go_simp; first | done | (with_reducible rfl)
            simp only [Act.put, List.setIfInBounds_toArray, List.set_cons_zero, List.set_cons_succ]
            refine wpAnyH_takeB (i := 31) (v := ?_) (d := some 132) rfl (by rfl) (by kernel_rfl) (fun _ _ _ h => h) (by rfl) hS7 (fun w hSw => ?_) ?_
            rotate_left
            · (try dsimp only at hSw); (try subst hSw); go_simp; first | done | (with_reducible rfl)
            simp only [Act.put, List.setIfInBounds_toArray, List.set_cons_zero, List.set_cons_succ]
            refine wpAnyH_takeB (i := 32) (v := ?_) (d := some 133) rfl (by rfl) (by kernel_rfl) (fun _ _ _ h => h) (by rfl) hS7 (fun w hSw => ?_) ?_
            rotate_left
            · (try dsimp only at hSw); (try subst hSw); go_simp; first | done | (with_reducible rfl)
            simp only [Act.put, List.setIfInBounds_toArray, List.set_cons_zero, List.set_cons_succ]
            refine wpAnyH_takeB (i := 33) (v := ?_) (d := some 134) rfl (by rfl) (by kernel_rfl) (fun _ _ _ h => h) (by rfl) hS7 (fun w hSw => ?_) ?_
            rotate_left
            · (try dsimp only at hSw); (try subst hSw); go_simp; first | done | (with_reducible rfl)
            simp only [Act.put, List.setIfInBounds_toArray, List.set_cons_zero, List.set_cons_succ]
            refine wpAnyH_oneB (i := 34) rfl (by kernel_rfl) (fun K hK => ?_)
            refine Eq.mpr (if_pos (by rfl)) ?_
            go_simp
            refine hK.out _ _ (hS7) ?_
            clear hK K
            try simp only [Act.put, List.setIfInBounds_toArray, List.set_cons_zero, List.set_cons_succ]
            refine wpAnyH_done (by kernel_rfl) ?_ _
            go_wp2_with (fail)
            go_ret
            exact ⟨rfl, HFR.out.below⟩
        · have hqp : 0 < q.length := List.length_pos_iff.2 hq0
          have hqpi : (0 : Int) < (q.length : Int) := by omega
          obtain ⟨hj1, hj2⟩ := hjm hq0
          clear hjm hjc
          go_upto_if 80 with (fail)
          go_cut [14] from 70 to 100 (fun v14 w' => ∃ m : Nat, v14 = .int .i64 (m : Int) ∧ m ≤ q.length ∧ (j = cs.length → m = q.length) ∧ w' = wx)
          case first =>
            by_cases hjl : j < cs.length
            · have hjli : (j : Int) < (cs.length : Int) := by omega
              obtain ⟨g2, o2, rfl, hcx⟩ := (H2.out.rd.fresh hQ.out.a.frm).at_ (k := j) (by rw [bvs_length]; exact hjl)
              have hgl2 := World.block_lt_of_cell? _ _ hcx
              simp only at hgl2
              have hcap2 := H2.out.cap
              obtain ⟨y, hy⟩ : ∃ y : Nat, (bvs cs)[j]'(by rw [bvs_length]; exact hjl) = .int .u8 (y : Int) := ⟨(cs[j]).toNat, by simp [bvs, bv]⟩
              rw [hy] at hcx
              obtain ⟨m, hm⟩ : ∃ m : Nat, (y : Int) % 4 = (m : Int) := ⟨y % 4, by omega⟩
              clear hy
              by_cases hmq : m < q.length
              · have hmq1 : (m : Int) < (q.length : Int) := by omega
                have hmq2 : ¬ (q.length : Int) < (m : Int) := by omega
                have hmq3 : (m : Int) ≤ (q.length : Int) := by omega
                go_wp2
                go_meet
                exact ⟨m, rfl, by omega, fun e => by omega, rfl⟩
              · have hmq1 : ¬ (m : Int) < (q.length : Int) := by omega
                by_cases hme : m = q.length
                · have hmq2 : ¬ (q.length : Int) < (m : Int) := by omega
                  have hmq3 : (m : Int) ≤ (q.length : Int) := by omega
                  go_wp2
                  go_meet
                  first
                    | exact ⟨m, rfl, by omega, fun e => by omega, rfl⟩
                    | exact ⟨q.length, rfl, by omega, fun e => rfl, rfl⟩
                · have hmq2 : (q.length : Int) < (m : Int) := by omega
                  have hmq3 : ¬ (m : Int) ≤ (q.length : Int) := by omega
                  go_wp2
                  go_meet
                  exact ⟨q.length, rfl, by omega, fun e => rfl, rfl⟩
            · have hjli : ¬ (j : Int) < (cs.length : Int) := by omega
              go_wp2
              go_meet
              exact ⟨q.length, rfl, by omega, fun e => rfl, rfl⟩
          case rest =>
            obtain ⟨m, rfl, hmq, hml, rfl⟩ := hcut
            have htl : (q.take m).length = m := by rw [List.length_take]; omega
            have htd : bvs (q.take m) = (bvs q).take m := by unfold bvs; rw [List.map_take]
            have hfd := kqfeed hQ.out.b (q.take m) A c (by rw [htd]; exact hkp.out.rd.take m) (by rw [htl]; omega) (by rw [htl]; omega)
            rw [htl] at hfd
            have hstp := hPI.out.step (x := q.take m) hD0b hD0ok hD0cap hD0lim
            obtain ⟨gb1, gb2, gb3⟩ := hQ.out.b.at_.good
            have hphi2 := feed_phi gb1 gb2 gb3 (q.take m)
            rw [htl] at hphi2
            have hmc : m ≤ c := by omega
            obtain ⟨RB, hRB⟩ : ∃ z, z = B.feed (q.take m) := ⟨_, rfl⟩
            rw [← hRB] at hfd hstp hphi2
            obtain ⟨eb, B'⟩ := RB
            simp only at hstp hphi2
            obtain ⟨hP1, hP2, hP3⟩ := hstp
            have hbb : (!decide (eb = 0) || B.bad) = B'.bad := by
              cases hx : B'.bad with
              | false =>
                have h0 := hP2.2 hx
                have hB : B.bad = false := by
                  cases hy : B.bad with
                  | false => rfl
                  | true => have := hP3 hy; rw [hx] at this; cases this
                simp [h0, hB]
              | true =>
                have h0 : ¬ eb = 0 := fun e => by have := hP2.1 e; rw [hx] at this; cases this
                simp [h0]
            clear hRB hP2 hP3
            obtain ⟨q2, hq2⟩ : ∃ z, z = q.drop m := ⟨_, rfl⟩
            have hq2l : q2.length = q.length - m := by rw [hq2, List.length_drop]
            have hPQ2 : Hid ((p ++ q.take m) ++ q2 = b) := by show _ = _; rw [hq2, List.append_assoc, List.take_append_drop]; exact hPQ.out
            have hpl2 : (p ++ q.take m).length = p.length + m := by rw [List.length_append, htl]
            have htmw : ∀ w' : World, QKept w' (Both X4 Y) A (bvs q) → True := fun _ _ => trivial
            clear htmw
            generalize p ++ q.take m = p2 at *
            obtain ⟨n3, hn3⟩ : ∃ z, z = q.length - m := ⟨_, rfl⟩
            have HFD := Lib.hid hfd
            have HP1 := Lib.hid hP1
            have HBB := Lib.hid hbb
            have HQ2 := Lib.hid hq2
            have HQ2L := Lib.hid hq2l
            have HPL2 := Lib.hid hpl2
            have HTD := Lib.hid htd
            have HN3 := Lib.hid hn3
            clear hfd hP1 hbb hq2 hq2l hpl2 htd hn3
            clear htl
            go_wp2_with (refine wpList_val rfl (.slice A m c) (qrun_to rfl rfl rfl rfl hmc) ?_)
            refine HFD.out.mono ?_
            rintro e w5 ⟨Y5, hK5, rfl, f5, s5⟩
            have hQ5 := hQ.out.two hK5 f5 s5
            have hkp5 := hkp.out.keep (w' := w5) (X' := Both X4 Y5) (f5.mono (fun k hk => hk.imp .inr id)) (fun k hk => by
              rcases hk with z | z
              · exact .inl (.inl z)
              · exact (s5 k z).imp .inr id)
            obtain ⟨A3, hA3, hR3⟩ := hkp5.rd.from_ hqc m
            have hbk3 : M.blk A3 = M.blk A := by
              rw [← hA3]
              split
              · rfl
              · cases A with
                | none => rfl
                | some z => simp only [M.blk, Option.map_some, Addr.add]; split <;> rfl
            have hkq : QKept w5 (Both X4 Y5) A3 (bvs q2) := ⟨by rw [HQ2.out]; exact hR3, fun k hk => hkp5.far k (by rw [← hbk3]; exact hk)⟩
            obtain ⟨c3, hc3⟩ : ∃ z, z = c - m := ⟨_, rfl⟩
            simp only at hQ5
            have HQ5 := Lib.hid hQ5
            have HKQ := Lib.hid hkq
            have HA3 := Lib.hid hA3
            have HC3 := Lib.hid hc3
            clear hQ5 hkq hA3 hc3
            clear hkp5 hR3 hbk3 hkp hQ hK5 f5 s5 HFD hPI hPQ
            have hbbo := HBB.out
            by_cases he0 : eb = 0
            · have he0i : (eb : Int) = 0 := by omega
              have hb3 : B.bad = B'.bad := by rw [← hbbo]; simp [he0]
              have HB3 := Lib.hid hb3
              clear hb3
              clear hbbo HBB
              go_wp2_with (refine wpList_val rfl (.slice A3 n3 c3) (by rw [← HA3.out, HN3.out, HC3.out]; exact run_from rfl rfl rfl rfl hmq) ?_)
              go_roundg (gk - 1)
              case measure => omega
              case rel =>
                have e1 := HQ2L.out
                have e2 := HN3.out
                have e3 := HC3.out
                have e4 := HPL2.out
                refine ⟨j + 1, p2, q2, A3, c3, B', Y5, rfl, by rw [e1, e2], by rw [HB3.out], by omega, by omega, fun hq => ?_, by omega, by omega, hPQ2, HP1, HKQ, HQ5⟩
                have h9 : 0 < q2.length := List.length_pos_iff.2 hq
                have h10 : j ≠ cs.length := fun e => by have := hml e; omega
                exact ⟨by omega, by omega⟩
            · have he0i : ¬ (eb : Int) = 0 := by omega
              have hb3 : true = B'.bad := by rw [← hbbo]; simp [he0]
              have HB3 := Lib.hid hb3
              clear hb3
              clear hbbo HBB
              go_wp2_with (refine wpList_val rfl (.slice A3 n3 c3) (by rw [← HA3.out, HN3.out, HC3.out]; exact run_from rfl rfl rfl rfl hmq) ?_)
              go_roundg (gk - 1)
              case measure => omega
              case rel =>
                have e1 := HQ2L.out
                have e2 := HN3.out
                have e3 := HC3.out
                have e4 := HPL2.out
                refine ⟨j + 1, p2, q2, A3, c3, B', Y5, rfl, by rw [e1, e2], by rw [← HB3.out], by omega, by omega, fun hq => ?_, by omega, by omega, hPQ2, HP1, HKQ, HQ5⟩
                have h9 : 0 < q2.length := List.length_pos_iff.2 hq
                have h10 : j ≠ cs.length := fun e => by have := hml e; omega
                exact ⟨by omega, by omega⟩
end Go.Proofs.Ytdgggjeiflllhaa.M
