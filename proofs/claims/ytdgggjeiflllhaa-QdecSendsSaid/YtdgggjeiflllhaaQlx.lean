/- QdecSends: the walk. No condition. -/
import Derived.BigQuiet
import Derived.IntWalk
import Derived.Deep.CutBlock
import Derived.Deep.LoopGhost
import Derived.Below
import Derived.Test.YtdgggjeiflllhaaQls
namespace Go.Proofs.Ytdgggjeiflllhaa.M
open Go.ChangeShapes Go.WideShapes Go.ChangeAt Go.RowKit

set_option maxRecDepth 100000 in
set_option maxHeartbeats 4000000 in
theorem sends_walk (ib ic ig : Int) (W : World) (w0 : (Lit.int .u8 ib).wf = true) (w1 : (Lit.int .u8 ic).wf = true) (w2 : (Lit.int .u8 ig).wf = true) :
    Calls Try.prog 9 #[.int .u8 ib, .int .u8 ic, .int .u8 ig] W fun e w' => e = .returned (.bool true) ∧ Below W.heap.size W w' := by
  obtain ⟨a0, a1⟩ := bounds_u8 w0
  obtain ⟨b0, b1⟩ := bounds_u8 w1
  obtain ⟨c0, c1⟩ := bounds_u8 w2
  obtain ⟨a, rfl⟩ := Int.eq_ofNat_of_zero_le a0
  obtain ⟨b, rfl⟩ := Int.eq_ofNat_of_zero_le b0
  obtain ⟨c, rfl⟩ := Int.eq_ofNat_of_zero_le c0
  clear w0 w1 w2 a0 b0 c0
  obtain ⟨N, hN⟩ : ∃ N : Nat, (a : Int) % 6 = (N : Int) := ⟨a % 6, by omega⟩
  obtain ⟨na, hna⟩ : ∃ n : Nat, (b : Int) % 4 = (n : Int) := ⟨b % 4, by omega⟩
  obtain ⟨nc, hnc⟩ : ∃ n : Nat, (c : Int) % 3 = (n : Int) := ⟨c % 3, by omega⟩
  have hN6 : N < 6 := by omega
  have hna4 : na < 4 := by omega
  have hnc3 : nc < 3 := by omega
  go_enter Try.func9, Try.ntmps9
  go_wp2_with (fail)
  refine (known10_any _).mono ?_
  rintro e w1 ⟨rfl, hF1⟩
  have HF1 := Lib.hid hF1
  clear hF1
  go_wp2_with (fail)
  refine (kqnew 4096 4 (by omega) (by omega) (by omega) (by omega) W w1 HF1.out).mono ?_
  rintro e w2 ⟨X, pd, g, bm, rfl, hK, _, _⟩
  replace hK : QKt W w2 X pd g bm ⟨⟨[], 0, 0⟩, 4096, 4, [], [], [], 0, false⟩ := hK
  have hp := rprefix_nat (Apart W X) [] none 0 32 5 4096 w2 (Apart.up hK) App.none_ (by simp) (by omega) (by omega) (by omega) (by omega)
  rw [show ([] : Bytes) ++ pfx 32 5 4096 = sB 0 by unfold sB sBi; simp] at hp
  have HK := Lib.hid hK
  have HP := Lib.hid hp
  clear hK hp
  go_wp2_with (fail)
  refine HP.out.mono ?_
  rintro e w3 ⟨A3, c3, rfl, hA3, hF3⟩
  have hK3 := HK.out.apart hF3
  have HA3 := Lib.hid hA3
  have HK3 := Lib.hid hK3
  clear hA3 hK3
  clear hF3 HK HP
  go_wp2_with (fail)
  go_loopg [8, 9] N (fun kk v8 v9 wx => ∃ (i : Nat) (l : Bytes) (A : Option Addr) (c : Nat), v9 = .int .i64 (i : Int) ∧ i + kk = N ∧ v8 = .slice A l.length c ∧ Hid (l = sB i) ∧ Hid (App (Apart W X) wx 5 1 A l.length c (bvs l)) ∧ Hid (QKt W wx X pd g bm ⟨⟨[], 0, 0⟩, 4096, 4, [], [], [], 0, false⟩))
  case atStart => exact ⟨0, sB 0, A3, c3, rfl, by omega, rfl, rfl, HA3, HK3⟩
  case round =>
    clear HA3 HK3 HF1
    obtain ⟨i, l, A, cl, rfl, hi, rfl, hl, hA, hK⟩ := hrel
    rename World => wx
    have hll : l.length ≤ 5 + 3 * i := by rw [hl.out]; unfold sB sBi; have := pfx_length 32 5 4096; rw [List.length_append, show (pfx 32 5 4096).length = 3 by kernel_rfl]; have h3 : ∀ n : Nat, ((List.range n).flatMap (fun i => [65, UInt8.ofNat (97 + i), 0])).length = 3 * n := fun n => (by induction n with | zero => rfl | succ n ih => rw [List.range_succ, List.flatMap_append, List.length_append, ih]; simp; omega); rw [h3]; omega
    by_cases hin : i < N
    · have hini : (i : Int) < (N : Int) := by omega
      have hw8 : IntKind.u8.wrap (97 + (i : Int)) = 97 + (i : Int) := IntWalk.u8_in _ (by omega)
      have hap := Apart.up hK.out
      have hnew : bvs l ++ [Value.int .u8 65, Value.int .u8 (97 + (i : Int)), Value.int .u8 0] = bvs (sB (i + 1)) := by
        have h1 : sB (i + 1) = l ++ [65, UInt8.ofNat (97 + i), 0] := by rw [hl.out]; unfold sB; rw [sBi_succ, List.append_assoc]
        have h2 : (UInt8.ofNat (97 + i)).toNat = 97 + i := by simp; omega
        rw [h1, bvs_append]
        unfold bvs
        simp only [List.map_cons, List.map_nil, bv, h2]
        simp
      have hlen : l.length + 3 = (sB (i + 1)).length := by have := congrArg List.length hnew; simpa using this
      have HNEW := Lib.hid hnew
      have HLEN := Lib.hid hlen
      clear hnew hlen
      go_wp2_with (refine wpList_append_lit u8s rfl rfl rfl hA.out hap rfl rfl (fun u hu => by simp at hu; rcases hu with rfl | rfl | rfl <;> rfl) (by omega) ?_; intro A6 c6 w6 hA6 hF6 _ _)
      have hK6 := hK.out.apart hF6
      rw [HNEW.out, HLEN.out] at hA6
      rw [HLEN.out]
      go_roundg (gk - 1)
      case measure => omega
      case rel => exact ⟨i + 1, sB (i + 1), A6, c6, rfl, by omega, rfl, rfl, hA6, hK6⟩
    · have hini : ¬ (i : Int) < (N : Int) := by omega
      obtain rfl : i = N := by omega
      have hfd := kqfeed hK.out l A cl hA.out.rd (by simp only [List.length_nil]; omega) (by simp only [List.length_nil]; omega)
      rw [hl.out, s_feed i hN6] at hfd
      rw [← hl.out] at hfd
      have HFD := Lib.hid hfd
      clear hfd
      go_wp2_with (fail)
      refine HFD.out.mono ?_
      rintro e w4 ⟨X4, hK4, rfl, _, _⟩
      simp only at hK4
      have HK4 := Lib.hid hK4
      clear hK4
      clear hA hK hl hll
      go_wp2_with (fail)
      go_loopg [10, 11, 12] na (fun kk v10 v11 v12 wx => ∃ (j t : Nat) (o : Bytes) (A : Option Addr) (c : Nat) (X : Nat → Prop), v12 = .int .i64 (j : Int) ∧ j + kk = na ∧ v10 = .slice A o.length c ∧ v11 = .int .u64 (t : Int) ∧ t ≤ i ∧ o.length ≤ 13 * j ∧ (A = none ∨ 0 < c) ∧ Hid (App (Apart W X) wx 5 1 A o.length c (bvs o)) ∧ Hid (QKt W wx X pd g bm (sD i o t)))
      case atStart => exact ⟨0, 0, [], none, 0, X4, rfl, by omega, rfl, rfl, by omega, by simp, .inl rfl, App.none_, HK4⟩
      case round =>
        clear HK4
        obtain ⟨j, t, o, A, cl, X5, rfl, hj, rfl, rfl, ht, hol, hAc, hA, hK⟩ := hrel
        rename World => wx
        by_cases hjn : j < na ∧ 0 < i
        · obtain ⟨hjn, hi0⟩ := hjn
          have hjni : (j : Int) < (na : Int) := by omega
          have hi0i : (0 : Int) < (i : Int) := by omega
          have hwj : IntKind.u64.wrap (j : Int) = (j : Int) := IntWalk.u64_in _ (by omega)
          have hwN : IntKind.u64.wrap (i : Int) = (i : Int) := IntWalk.u64_in _ (by omega)
          obtain ⟨q, hq⟩ : ∃ q : Nat, q = j % i := ⟨_, rfl⟩
          have hqi : q < i := by rw [hq]; exact Nat.mod_lt _ hi0
          have htm : Int.tmod (j : Int) (i : Int) = (q : Int) := by rw [Int.tmod_eq_emod_of_nonneg (by omega), hq]; rfl
          have hem : (j : Int) % (i : Int) = (q : Int) := by rw [hq]; rfl
          have hwq : IntKind.u64.wrap ((q : Int) + 1) = ((q + 1 : Nat) : Int) := by rw [IntWalk.u64_in _ (by omega)]; omega
          have hp := rqpre_any (New wx) [] none 0 (q + 1) (q + 1) 4096 wx Up.new App.none_ (by simp) (by omega) (by omega) (by omega)
          rw [List.nil_append] at hp
          have hpl : (prefQ (q + 1) (q + 1) 4096).length ≤ 24 := by unfold prefQ; rw [List.length_append, if_pos (Nat.le_refl _)]; have := pfx_length 0 8 (encQ (q + 1) 4096); have := pfx_length 0 7 (q + 1 - (q + 1)); omega
          have hsd := fun o2 => s_dec i (q + 1) j t o2 hN6 (by omega) (by omega)
          generalize prefQ (q + 1) (q + 1) 4096 = l1 at *
          clear hq
          have HP := Lib.hid hp
          have HSD := Lib.hid hsd
          clear hp hsd
          go_wp2_with (fail)
          refine HP.out.mono ?_
          rintro e w5 ⟨A5, c5, rfl, hA5, hF5⟩
          have hup5 : Up (New wx) w5 := Up.new.of hF5.size
          have HA5 := Lib.hid hA5
          have HF5 := Lib.hid hF5
          clear hA5 hF5
          go_upto_region 18 with (refine wpList_append_lit u8s rfl rfl rfl HA5.out hup5 rfl rfl (fun u hu => by simp at hu; subst hu; rfl) (by omega) ?_; intro A6 c6 w6 hA6 hF6 _ _)
          have hF06 := HF5.out.trans hF6
          have hK6 := hK.out.fresh hF06
          have hW6 := hA.out.fresh hF06
          have h6 : bvs l1 ++ [Value.int .u8 128] = bvs (l1 ++ [128]) := by rw [bvs_append]; rfl
          have h6l : l1.length + 1 = (l1 ++ [128]).length := by simp
          simp only at hA6
          rw [h6, h6l] at hA6
          rw [h6l]
          have hd := kqdec hK6 j (l1 ++ [128]) A6 c6 hA6.rd hA6.cap (by rw [← h6l]; omega) (fun k hk => by
            obtain ⟨g9, o9, rfl, h9⟩ := hA6.rd.lt (by rw [← h6]; simp)
            have hkg : g9 = k := by simpa using hk
            subst hkg
            exact ⟨fun e => by have h1 := hK.out.at_.low g9 e; have h2 := hA6.inM g9 rfl; unfold New at h2; omega, h9⟩) (by omega) (by show o.length ≤ _; omega)
          rw [HSD.out] at hd
          generalize l1 ++ [128] = l2 at *
          clear h6 hA6 hF6 HF5 HA5 HP
          have HD := Lib.hid hd
          have HW6 := Lib.hid hW6
          have H6L := Lib.hid h6l
          clear hd hW6 h6l
          go_wp2_with (fail)
          refine HD.out.mono ?_
          rintro e w7 ⟨X6, A7, c7, hK7, rfl, _, _, f7, s7⟩
          have hW7 := HW6.out.past hAc f7 s7
          have hp := rprefix_nat (Apart W X6) o A cl 128 7 j w7 (Apart.up hK7) hW7 (by omega) (by decide) (by decide) (by decide) (by omega)
          have hpl7 := pfx_length 128 7 j
          obtain ⟨o2, ho2⟩ : ∃ o2, o2 = o ++ pfx 128 7 j := ⟨_, rfl⟩
          have ho2l : o2.length ≤ 13 * (j + 1) := by rw [ho2, List.length_append]; omega
          simp only at hK7
          rw [← ho2] at hp hK7
          have ho2n : o2 ≠ [] := by rw [ho2]; exact pfx_ne _ _ _ _
          clear ho2
          have HP := Lib.hid hp
          have HK7 := Lib.hid hK7
          clear hp hK7
          clear f7 s7 hW7 hK6 hF06 HD HW6
          go_wp2_with (fail)
          refine HP.out.mono ?_
          rintro e w8 ⟨A8, c8, rfl, hA8, hF8⟩
          have hK8 := HK7.out.apart hF8
          have hc8 : A8 = none ∨ 0 < c8 := .inr (by have := hA8.cap; have h0 : 0 < o2.length := List.length_pos_iff.2 ho2n; omega)
          by_cases hmx : t < q + 1
          · have hmi : (t : Int) < ((q + 1 : Nat) : Int) := by omega
            have hmj : ¬ ((q + 1 : Nat) : Int) ≤ (t : Int) := by omega
            rw [show max t (q + 1) = q + 1 by omega] at hK8
            have HA8 := Lib.hid hA8
            have HK8 := Lib.hid hK8
            clear hA8 hK8
            go_wp2
            go_roundg (gk - 1)
            case measure => omega
            case rel => exact ⟨j + 1, q + 1, o2, A8, c8, X6, rfl, by omega, rfl, rfl, by omega, ho2l, hc8, HA8, HK8⟩
          · have hmi : ¬ (t : Int) < ((q + 1 : Nat) : Int) := by omega
            have hmj : ((q + 1 : Nat) : Int) ≤ (t : Int) := by omega
            rw [show max t (q + 1) = t by omega] at hK8
            have HA8 := Lib.hid hA8
            have HK8 := Lib.hid hK8
            clear hA8 hK8
            go_wp2
            go_roundg (gk - 1)
            case measure => omega
            case rel => exact ⟨j + 1, t, o2, A8, c8, X6, rfl, by omega, rfl, rfl, ht, ho2l, hc8, HA8, HK8⟩
        · have hol2 : o.length ≤ 39 := by omega
          go_upto_region 14 with (fail)
          go_cut [49] from 40 to 80 (fun v49 w' => v49 = .bool false ∧ w' = wx)
          case first =>
            by_cases hj2 : j < na
            · have hji : (j : Int) < (na : Int) := by omega
              have hi0 : ¬ (0 : Int) < (i : Int) := by omega
              have hi0n : decide (0 < i) = false := decide_eq_false (by omega)
              go_wp2
              all_goals go_meet
              all_goals exact ⟨rfl, rfl⟩
            · have hji : ¬ (j : Int) < (na : Int) := by omega
              go_wp2
              all_goals go_meet
              all_goals exact ⟨rfl, rfl⟩
          case rest =>
            obtain ⟨rfl, rfl⟩ := hcut
            clear hjn
            go_wp2_with (fail)
            go_loopg [10, 17] nc (fun kk v10 v17 wx => ∃ (m : Nat) (o : Bytes) (A : Option Addr) (c : Nat) (X : Nat → Prop), v17 = .int .i64 (m : Int) ∧ m + kk = nc ∧ v10 = .slice A o.length c ∧ o.length ≤ 39 + 13 * m ∧ (A = none ∨ 0 < c) ∧ Hid (App (Apart W X) wx 5 1 A o.length c (bvs o)) ∧ Hid (QKt W wx X pd g bm (sD i o t)))
            case atStart => exact ⟨0, o, A, cl, X5, rfl, by omega, rfl, by omega, hAc, hA, hK⟩
            case round =>
              clear hA hK hAc hol hol2
              obtain ⟨m, o, A, cl, X5, rfl, hm, rfl, hol, hAc, hA, hK⟩ := hrel
              rename World => wx
              by_cases hmn : m < nc
              · have hmni : (m : Int) < (nc : Int) := by omega
                have hwm : IntKind.u64.wrap (m : Int) = (m : Int) := IntWalk.u64_in _ (by omega)
                have hwm2 : IntKind.u64.wrap ((m : Int) + 100) = ((m + 100 : Nat) : Int) := by rw [IntWalk.u64_in _ (by omega)]; omega
                have hc := kqcancel hK.out (m + 100) (by omega) (by show o.length ≤ _; omega)
                rw [s_cancel] at hc
                have HC := Lib.hid hc
                clear hc
                go_wp2_with (fail)
                refine HC.out.mono ?_
                rintro e w7 ⟨X6, hK7, rfl, f7, s7⟩
                have hW7 := hA.out.past hAc f7 s7
                have hp := rprefix_nat (Apart W X6) o A cl 64 6 (m + 100) w7 (Apart.up hK7) hW7 (by omega) (by decide) (by decide) (by decide) (by omega)
                have hpl7 := pfx_length 64 6 (m + 100)
                obtain ⟨o2, ho2⟩ : ∃ o2, o2 = o ++ pfx 64 6 (m + 100) := ⟨_, rfl⟩
                have ho2l : o2.length ≤ 39 + 13 * (m + 1) := by rw [ho2, List.length_append]; omega
                rw [← ho2] at hp hK7
                have ho2n : o2 ≠ [] := by rw [ho2]; exact pfx_ne _ _ _ _
                clear ho2
                have HP := Lib.hid hp
                have HK7 := Lib.hid hK7
                clear hp hK7
                clear f7 s7 hW7
                go_wp2_with (fail)
                refine HP.out.mono ?_
                rintro e w8 ⟨A8, c8, rfl, hA8, hF8⟩
                have hK8 := HK7.out.apart hF8
                have hc8 : A8 = none ∨ 0 < c8 := .inr (by have := hA8.cap; have h0 : 0 < o2.length := List.length_pos_iff.2 ho2n; omega)
                have HA8 := Lib.hid hA8
                have HK8 := Lib.hid hK8
                clear hA8 hK8
                go_wp2
                go_roundg (gk - 1)
                case measure => omega
                case rel => exact ⟨m + 1, o2, A8, c8, X6, rfl, by omega, rfl, ho2l, hc8, HA8, HK8⟩
              · have hmni : ¬ (m : Int) < (nc : Int) := by omega
                obtain ⟨u, hu⟩ : ∃ u, u = i - t := ⟨_, rfl⟩
                have hwi2 : IntKind.u64.wrap ((i : Int) - (t : Int)) = (u : Int) := by rw [show ((i : Int) - (t : Int)) = (u : Int) by omega]; exact IntWalk.u64_in _ (by omega)
                have hwi3 : IntKind.u64.wrap (i : Int) = (i : Int) := IntWalk.u64_in _ (by omega)
                obtain ⟨o2, ho2⟩ : ∃ o2, o2 = (sD i o t).send.1 := ⟨_, rfl⟩
                have hs2 : (sD i o t).send = (o2, sD i [] i) := by rw [ho2, s_send i t o ht]
                rw [s_send i t o ht, ← hu] at ho2
                simp only at ho2
                have hp := rprefix_nat (Apart W X5) o A cl 0 6 u wx (Apart.up hK.out) hA.out (by omega) (by decide) (by decide) (by decide) (by omega)
                have hpl7 := pfx_length 0 6 u
                have HP := Lib.hid hp
                have HS2 := Lib.hid hs2
                have HO2 := Lib.hid ho2
                clear hp hs2 ho2
                clear hu
                go_upto_if 104 with (fail)
                go_cut [10] from 81 (fun v10 w' => ∃ (A2 : Option Addr) (c2 : Nat), v10 = .slice A2 o2.length c2 ∧ Hid (QKept w' X5 A2 (bvs o2)) ∧ Hid (QKt W w' X5 pd g bm (sD i o t)))
                case first =>
                  by_cases hu0 : 0 < u
                  · have hui : (0 : Int) < (u : Int) := by omega
                    have ho3 := HO2.out
                    rw [if_pos hu0] at ho3
                    have hp2 := HP.out
                    have hlen2 : (o ++ pfx 0 6 u).length = o2.length := by rw [ho3]
                    rw [← ho3] at hp2
                    have HP2 := Lib.hid hp2
                    have HO3 := Lib.hid ho3
                    clear hp2 ho3
                    clear HP hlen2
                    go_wp2_with (go_at_call 35; refine HP2.out.mono ?_; rintro e2 w2 ⟨A2, c2, rfl, hA2, hF2⟩)
                    go_meet
                    have hne : o2 ≠ [] := by rw [HO3.out]; exact pfx_ne _ _ _ _
                    refine ⟨A2, c2, rfl, ⟨hA2.rd, hA2.gone (by have := hA2.cap; have h0 : 0 < o2.length := List.length_pos_iff.2 hne; omega)⟩, hK.out.apart hF2⟩
                  · have hui : ¬ (0 : Int) < (u : Int) := by omega
                    have ho3 := HO2.out
                    rw [if_neg hu0] at ho3
                    have HO3 := Lib.hid ho3
                    clear ho3
                    go_wp2
                    go_meet
                    refine ⟨A, cl, by rw [HO3.out], ?_, hK⟩
                    show QKept _ _ _ _
                    rw [HO3.out]
                    refine ⟨hA.out.rd, fun k hk => ?_⟩
                    rcases hAc with rfl | hAc
                    · cases hk
                    · exact hA.out.gone hAc k hk
                case rest =>
                  obtain ⟨A2, c2, rfl, hW2, hK2⟩ := hcut
                  rename World => w2
                  clear hA hK hAc HP
                  have hsd := kqsend (hK2.out.fresh ((Frm.refl (New w2) w2).drew)) (by show o.length ≤ _; omega) (by show i ≤ _; omega)
                  rw [HS2.out] at hsd
                  simp only at hsd
                  have hss : ∀ w', (Op.equalIn 10000 9 (str o2) (str o2)).run Try.prog w' = .ok true w' := fun w' => by rw [run_eq_str o2 o2 9999 w']; simp
                  have hsd2 := fun w' X' (h : QKt W w' X' pd g bm (sD i [] i)) => kqsend h (by show (0 : Nat) ≤ _; omega) (by show i ≤ _; omega)
                  rw [show (sD i [] i).send = ([], sD i [] i) by rw [s_send i i [] (Nat.le_refl _), if_neg (by omega)]] at hsd2
                  simp only at hsd2
                  have HSD := Lib.hid hsd
                  have HSD2 := Lib.hid hsd2
                  clear hsd hsd2
                  go_upto_region 31 with (fail)
                  have hS : Rd w2.drew A2 (bvs o2) := hW2.out.rd.drew
                  refine wp_region_held (by kernel_rfl) (S := fun w' => Rd w' A2 (bvs o2)) ?_
                  change wpAnyH _ _ _ _ _ _ _ _ w2.drew
                  refine wpAnyH_takeB (i := 0) (v := ?_) (d := some 108) rfl (by rfl) (by kernel_rfl) (fun _ _ _ h => h) (by rfl) hS (fun w hSw => ?_) ?_
                  rotate_left
                  · (try dsimp only at hSw); (try subst hSw); go_simp; first | done | (with_reducible rfl)
                  simp only [Act.put, List.setIfInBounds_toArray, List.set_cons_zero, List.set_cons_succ]
                  refine wpAnyH_takeB (i := 3) (v := ?_) (d := some 111) rfl (by rfl) (by kernel_rfl) (fun _ _ _ h => h) (by rfl) hS (fun w hSw => ?_) ?_
                  rotate_left
                  · (try dsimp only at hSw); (try subst hSw); go_simp; first | done | (with_reducible rfl)
                  simp only [Act.put, List.setIfInBounds_toArray, List.set_cons_zero, List.set_cons_succ]
                  refine wpAnyH_takeB (i := 4) (v := .string ⟨o2.toArray⟩) (d := some 112) rfl (by rfl) (by kernel_rfl) (fun _ _ _ h => h) (by rfl) hS (fun w hSw => run_convo rfl rfl hSw) ?_
                  simp only [Act.put, List.setIfInBounds_toArray, List.set_cons_zero, List.set_cons_succ]
                  refine wpAnyH_oneB (i := 1) rfl (by kernel_rfl) (fun K hKK => ?_)
                  refine Eq.mpr (if_pos (by rfl)) ?_
                  go_wp2_with (fail)
                  refine HSD.out.mono ?_
                  rintro e w3 ⟨X3, A3, c3, hK3, rfl, hA3, f3, s3⟩
                  have hW3 := (hW2.out.fresh (Frm.refl (New w2) w2).drew).keep (w' := w3) (X' := X3) f3 s3
                  have hS3 : Rd w3 A3 (bvs o2) ∧ Rd w3 A2 (bvs o2) := ⟨hA3.rd, hW3.rd⟩
                  refine hKK.out _ _ hW3.rd ?_
                  clear hKK K
                  try simp only [Act.put, List.setIfInBounds_toArray, List.set_cons_zero, List.set_cons_succ]
                  refine wpAnyH_mono (S1 := fun w' => Rd w' A3 (bvs o2) ∧ Rd w' A2 (bvs o2)) (fun _ h => h.2) _ _ _ _ ?_
                  refine wpAnyH_takeB (i := 2) (v := .string ⟨o2.toArray⟩) (d := some 110) rfl (by rfl) (by kernel_rfl) (fun _ _ _ h => h) (by rfl) hS3 (fun w hSw => run_convo rfl rfl hSw.1) ?_
                  simp only [Act.put, List.setIfInBounds_toArray, List.set_cons_zero, List.set_cons_succ]
                  refine wpAnyH_takeB (i := 5) (v := ?_) (d := some 113) rfl (by rfl) (by kernel_rfl) (fun _ _ _ h => h) (by rfl) hS3 (fun w hSw => ?_) ?_
                  rotate_left
                  · (try dsimp only at hSw); (try subst hSw); go_simp; first | done | (with_reducible rfl)
                  simp only [Act.put, List.setIfInBounds_toArray, List.set_cons_zero, List.set_cons_succ]
                  refine wpAnyH_takeB (i := 6) (v := ?_) (d := some 114) rfl (by rfl) (by kernel_rfl) (fun _ _ _ h => h) (by rfl) hS3 (fun w hSw => ?_) ?_
                  rotate_left
                  · (try dsimp only at hSw); (try subst hSw); go_simp; first | done | (with_reducible rfl)
                  simp only [Act.put, List.setIfInBounds_toArray, List.set_cons_zero, List.set_cons_succ]
                  refine wpAnyH_takeB (i := 7) (v := ?_) (d := some 115) rfl (by rfl) (by kernel_rfl) (fun _ _ _ h => h) (by rfl) hS3 (fun w hSw => ?_) ?_
                  rotate_left
                  · (try dsimp only at hSw); (try subst hSw); go_simp; first | done | (with_reducible rfl)
                  simp only [Act.put, List.setIfInBounds_toArray, List.set_cons_zero, List.set_cons_succ]
                  have hsd2 := HSD2.out w3 X3 hK3
                  have HSE := Lib.hid hsd2
                  clear hsd2
                  refine wpAnyH_oneB (i := 8) rfl (by kernel_rfl) (fun K hKK => ?_)
                  refine Eq.mpr (if_pos (by rfl)) ?_
                  go_wp2_with (fail)
                  refine HSE.out.mono ?_
                  rintro e w4 ⟨X4, A4, c4, hK4, rfl, hA4, f4, s4⟩
                  have hS4 : Rd w4 A3 (bvs o2) ∧ Rd w4 A2 (bvs o2) := ⟨(hA3.keep f4 s4).rd, (hW3.keep f4 s4).rd⟩
                  have HK4 := Lib.hid hK4
                  clear hK4
                  refine hKK.out _ _ hS4 ?_
                  clear hKK K
                  try simp only [Act.put, List.setIfInBounds_toArray, List.set_cons_zero, List.set_cons_succ]
                  refine wpAnyH_takeB (i := 9) (v := ?_) (d := some 117) rfl (by rfl) (by kernel_rfl) (fun _ _ _ h => h) (by rfl) hS4 (fun w hSw => ?_) ?_
                  rotate_left
                  · (try dsimp only at hSw); (try subst hSw); go_simp; first | done | (with_reducible rfl)
                  simp only [Act.put, List.setIfInBounds_toArray, List.set_cons_zero, List.set_cons_succ]
                  refine wpAnyH_takeB (i := 10) (v := ?_) (d := some 118) rfl (by rfl) (by kernel_rfl) (fun _ _ _ h => h) (by rfl) hS4 (fun w hSw => ?_) ?_
                  rotate_left
                  · (try dsimp only at hSw); (try subst hSw); go_simp; first | done | (with_reducible rfl)
                  simp only [Act.put, List.setIfInBounds_toArray, List.set_cons_zero, List.set_cons_succ]
                  refine wpAnyH_takeB (i := 11) (v := ?_) (d := some 119) rfl (by rfl) (by kernel_rfl) (fun _ _ _ h => h) (by rfl) hS4 (fun w hSw => ?_) ?_
                  rotate_left
                  · (try dsimp only at hSw); (try subst hSw); go_simp; first | done | (with_reducible rfl)
                  simp only [Act.put, List.setIfInBounds_toArray, List.set_cons_zero, List.set_cons_succ]
                  refine wpAnyH_oneB (i := 12) rfl (by kernel_rfl) (fun K hK => ?_)
                  refine Eq.mpr (if_pos (by rfl)) ?_
                  go_simp
                  refine hK.out _ _ (hS4) ?_
                  clear hK K
                  try simp only [Act.put, List.setIfInBounds_toArray, List.set_cons_zero, List.set_cons_succ]
                  refine wpAnyH_done (by kernel_rfl) ?_ _
                  go_wp2_with (fail)
                  go_ret
                  exact ⟨rfl, HK4.out.frm.below⟩
end Go.Proofs.Ytdgggjeiflllhaa.M
