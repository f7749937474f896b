/- Qd -/
import Derived.BigQuiet
import Derived.Deep.CutBlock
import Derived.Lib.Hide
import Derived.IntWalk
import Derived.Test.YtdgggjeiflllhaaZyQr
import Derived.Test.YtdgggjeiflllhaaZyRnum

namespace Go.Proofs.Ytdgggjeiflllhaa.M
open Go.ChangeShapes Go.WideShapes Go.ChangeAt Go.RowKit
theorem qdec_nat_any (e t cap : Nat) (w : World) (he : e ≤ 4611686018427387903) (ht : t ≤ 2305843009213693951) (hcap : cap ≤ 4096) :
    Calls Try.prog 100 #[.int .u64 (e : Int), .int .u64 (t : Int), .int .i64 (cap : Int)] w fun x w' => x = .returned (.tuple #[.int .u64 ((decQ e t cap).1 : Nat), .int .i64 ((decQ e t cap).2 : Nat)]) ∧ ∃ n, w' = w.drewN n := by
  have h := qdec_any (e : Int) (t : Int) (cap : Int) w (by omega) (by omega) (by omega) (by omega) (by omega) (by omega)
  rw [qdec_nat] at h
  exact h
set_option maxRecDepth 100000 in
set_option maxHeartbeats 4000000 in
theorem qrpf_any (b : Bytes) (A : Option Addr) (c total cap : Nat) (w : World) (hR : Rd w A (bvs b)) (hl : b.length ≤ 1099511627776) (hc : b.length ≤ c) (ht : total ≤ 2305843009213693951) (hcap : cap ≤ 4096) :
    Calls Try.prog 63 #[.slice A b.length c, .int .u64 (total : Int), .int .i64 (cap : Int)] w fun e w' => e = .returned (.tuple #[.int .u64 ((rpfQ b total cap).1 : Nat), .int .u64 ((rpfQ b total cap).2.1 : Nat), .int .i64 ((rpfQ b total cap).2.2.1 : Nat), .int .i64 ((rpfQ b total cap).2.2.2 : Nat)]) ∧ ∃ n, w' = w.drewN n := by
  have h1 := nrdp_any b A c 8 w hR (by omega) (by decide) (by decide)
  have hg1 := rdp_range b 8 (by decide)
  obtain ⟨R, hRq⟩ : ∃ R, R = rpfQ b total cap := ⟨_, rfl⟩
  rw [← hRq]
  unfold rpfQ at hRq
  unfold Ret3 at h1
  rcases hq1 : rdp b 8 with ⟨en, k, e⟩
  rw [hq1] at h1 hg1 hRq
  simp only at h1 hg1 hRq
  by_cases he : e = 0
  · subst he
    obtain ⟨g1, g2, g3⟩ := hg1 rfl
    rw [if_neg (by simp)] at hRq
    rw [show ((0 : Nat) : Int) = 0 from rfl] at h1
    obtain ⟨A2, hA2, hR2⟩ := hR.from_ hc k
    have h2 := nrdp_any (b.drop k) A2 (c - k) 7
    have hg2 := rdp_range (b.drop k) 7 (by decide)
    unfold Ret3 at h2
    have hdl : (b.drop k).length = b.length - k := List.length_drop
    rcases hq2 : rdp (b.drop k) 7 with ⟨d, n, e⟩
    rw [hq2] at h2 hg2 hRq
    rw [hdl] at h2 hg2
    simp only at h2 hg2 hRq
    have h2w := fun (w' : World) (h : Rd w' A2 (bvs (b.drop k))) => h2 w' h (by omega) (by decide) (by decide)
    clear h2 hg1
    by_cases he2 : e = 0
    · subst he2
      obtain ⟨k1, k2, k3⟩ := hg2 rfl
      rw [if_neg (by simp)] at hRq
      rw [show ((0 : Nat) : Int) = 0 from rfl] at h2w
      have hdc := fun w' => qdec_nat_any en total cap w' g3 ht hcap
      have hdle := decQ_le en total cap
      rcases hq3 : decQ en total cap with ⟨cnt, e⟩
      rw [hq3] at hdc hdle hRq
      simp only at hdc hdle hRq
      clear hg2
      by_cases he3 : e = 0
      · subst he3
        rw [if_neg (by simp)] at hRq
        rw [show ((0 : Nat) : Int) = 0 from rfl] at hdc
        have hcb := hdle rfl
        have hmq : mostQ cap ≤ 128 := by unfold mostQ; omega
        obtain ⟨gA, oA, rfl, hxk⟩ := hR.at_ (k := k) (by simp [bvs]; omega)
        simp only [bvs, List.getElem_map, bv] at hxk
        have hgl := World.block_lt_of_cell? _ _ hxk
        simp only at hgl
        have hhd : ((b.drop k).headD 0).toNat = (b[k]'(by omega)).toNat := by
          rw [List.drop_eq_getElem_cons (by omega)]; rfl
        rw [hhd] at hRq
        have hy := (b[k]'(by omega)).toNat_lt
        generalize (b[k]'(by omega)).toNat = y at *
        have hadd := fun w' => add64 (cnt : Int) (d : Int) 0 (by omega) (by omega) (by omega) (by omega) w'
        rw [show ((cnt : Int) + (d : Int) + 0) % 18446744073709551616 = ((cnt + d : Nat) : Int) by omega, show ((cnt : Int) + (d : Int) + 0) / 18446744073709551616 = 0 by omega] at hadd
        have hkb : (k : Int) < (b.length : Int) := by omega
        have hwkn : IntKind.i64.wrap ((k : Int) + (n : Int)) = ((k + n : Nat) : Int) := by
          rw [show ((k : Int) + (n : Int)) = ((k + n : Nat) : Int) by omega]
          exact IntWalk.i64_in _ (by omega)
        clear hdle hhd
        by_cases hs : 128 ≤ y
        · have q7 : (((y : Int) / 128) == 1) = true := by rw [beq_iff_eq]; omega
          have q7p : ((y : Int) / 128) = 1 := by omega
          rw [if_pos hs] at hRq
          by_cases hcd : cnt ≤ d
          · have hcdi : (cnt : Int) ≤ (d : Int) := by omega
            rw [if_pos (.inl hcd)] at hRq
            have H1 := Lib.hid h1
            have H2W := Lib.hid h2w
            have HRQ := Lib.hid hRq
            have HR2 := Lib.hid hR2
            have HA2 := Lib.hid hA2
            have HDL := Lib.hid hdl
            have HDC := Lib.hid hdc
            clear h1 h2w hRq hR2 hA2 hdl hdc
            go_enter Try.func63, Try.ntmps63
            go_upto_region 4 with (go_at_call 91; refine H1.out.mono ?_; rintro e1 w1 ⟨rfl, n1, rfl⟩)
            have hR21 := HR2.out.drewN n1
            have HR21 := Lib.hid hR21
            clear hR21
            go_upto_region 7 with (first
              | (refine wpList_val rfl (.slice A2 (b.length - k) (c - k)) (by rw [← HA2.out]; exact run_from rfl rfl rfl rfl g2) ?_)
              | (go_at_call 91; refine (H2W.out _ HR21.out).mono ?_; rintro e2 w2 ⟨rfl, n2, rfl⟩))
            go_wp2_with (go_at_call 100; refine (HDC.out _).mono ?_; rintro e3 w3 ⟨rfl, n3, rfl⟩)
            refine bodyPost_ret (v := .tuple #[.int .u64 (R.1 : Nat), .int .u64 (R.2.1 : Nat), .int .i64 (R.2.2.1 : Nat), .int .i64 (R.2.2.2 : Nat)]) (by rw [HRQ.out]; simp [results, Try.results63, go_sem]) rfl ?_
            exact ⟨rfl, _, rfl⟩
          have hcdi : ¬ (cnt : Int) ≤ (d : Int) := by omega
          obtain ⟨bs, hbs⟩ : ∃ bs, bs = cnt - d - 1 := ⟨_, rfl⟩
          have hw1 : IntKind.u64.wrap ((cnt : Int) - (d : Int)) = ((cnt - d : Nat) : Int) := by
            rw [show ((cnt : Int) - (d : Int)) = ((cnt - d : Nat) : Int) by omega]
            exact IntWalk.u64_in _ (by omega)
          have hw2 : IntKind.u64.wrap (((cnt - d : Nat) : Int) - 1) = (bs : Int) := by
            rw [show (((cnt - d : Nat) : Int) - 1) = (bs : Int) by omega]
            exact IntWalk.u64_in _ (by omega)
          have hbm : ¬ 4611686018427387903 < bs := by omega
          have hbmi : ¬ (4611686018427387903 : Int) < (bs : Int) := by omega
          rw [← hbs, if_neg (by omega)] at hRq
          generalize hcmd : cnt - d = cd at *
          have HBS := Lib.hid hbs
          have HCMD := Lib.hid hcmd
          clear hbs hcmd
          have H1 := Lib.hid h1
          have H2W := Lib.hid h2w
          have HRQ := Lib.hid hRq
          have HR2 := Lib.hid hR2
          have HA2 := Lib.hid hA2
          have HDL := Lib.hid hdl
          have HDC := Lib.hid hdc
          clear h1 h2w hRq hR2 hA2 hdl hdc
          go_enter Try.func63, Try.ntmps63
          go_upto_region 4 with (go_at_call 91; refine H1.out.mono ?_; rintro e1 w1 ⟨rfl, n1, rfl⟩)
          have hR21 := HR2.out.drewN n1
          have HR21 := Lib.hid hR21
          clear hR21
          go_upto_region 7 with (first
            | (refine wpList_val rfl (.slice A2 (b.length - k) (c - k)) (by rw [← HA2.out]; exact run_from rfl rfl rfl rfl g2) ?_)
            | (go_at_call 91; refine (H2W.out _ HR21.out).mono ?_; rintro e2 w2 ⟨rfl, n2, rfl⟩))
          go_wp2_with (go_at_call 100; refine (HDC.out _).mono ?_; rintro e3 w3 ⟨rfl, n3, rfl⟩)
          refine bodyPost_ret (v := .tuple #[.int .u64 (R.1 : Nat), .int .u64 (R.2.1 : Nat), .int .i64 (R.2.2.1 : Nat), .int .i64 (R.2.2.2 : Nat)]) (by rw [HRQ.out]; simp [results, Try.results63, go_sem]) rfl ?_
          exact ⟨rfl, _, rfl⟩
        · have q7 : (((y : Int) / 128) == 1) = false := beq_eq_false_iff_ne.2 (by omega)
          have q7p : ¬ ((y : Int) / 128) = 1 := by omega
          rw [if_neg hs] at hRq
          obtain ⟨bs, hbs⟩ : ∃ bs, bs = cnt + d := ⟨_, rfl⟩
          rw [← hbs] at hRq hadd
          by_cases hbm : 4611686018427387903 < bs
          · have hbmi : (4611686018427387903 : Int) < (bs : Int) := by omega
            rw [if_pos hbm] at hRq
            have HBS := Lib.hid hbs
            clear hbs
            have H1 := Lib.hid h1
            have H2W := Lib.hid h2w
            have HRQ := Lib.hid hRq
            have HR2 := Lib.hid hR2
            have HA2 := Lib.hid hA2
            have HDL := Lib.hid hdl
            have HDC := Lib.hid hdc
            clear h1 h2w hRq hR2 hA2 hdl hdc
            go_enter Try.func63, Try.ntmps63
            go_upto_region 4 with (go_at_call 91; refine H1.out.mono ?_; rintro e1 w1 ⟨rfl, n1, rfl⟩)
            have hR21 := HR2.out.drewN n1
            have HR21 := Lib.hid hR21
            clear hR21
            go_upto_region 7 with (first
              | (refine wpList_val rfl (.slice A2 (b.length - k) (c - k)) (by rw [← HA2.out]; exact run_from rfl rfl rfl rfl g2) ?_)
              | (go_at_call 91; refine (H2W.out _ HR21.out).mono ?_; rintro e2 w2 ⟨rfl, n2, rfl⟩))
            go_wp2_with (go_at_call 100; refine (HDC.out _).mono ?_; rintro e3 w3 ⟨rfl, n3, rfl⟩)
            refine bodyPost_ret (v := .tuple #[.int .u64 (R.1 : Nat), .int .u64 (R.2.1 : Nat), .int .i64 (R.2.2.1 : Nat), .int .i64 (R.2.2.2 : Nat)]) (by rw [HRQ.out]; simp [results, Try.results63, go_sem]) rfl ?_
            exact ⟨rfl, _, rfl⟩
          have hbmi : ¬ (4611686018427387903 : Int) < (bs : Int) := by omega
          rw [if_neg hbm] at hRq
          have HBS := Lib.hid hbs
          clear hbs
          have H1 := Lib.hid h1
          have H2W := Lib.hid h2w
          have HRQ := Lib.hid hRq
          have HR2 := Lib.hid hR2
          have HA2 := Lib.hid hA2
          have HDL := Lib.hid hdl
          have HDC := Lib.hid hdc
          clear h1 h2w hRq hR2 hA2 hdl hdc
          go_enter Try.func63, Try.ntmps63
          go_upto_region 4 with (go_at_call 91; refine H1.out.mono ?_; rintro e1 w1 ⟨rfl, n1, rfl⟩)
          have hR21 := HR2.out.drewN n1
          have HR21 := Lib.hid hR21
          clear hR21
          go_upto_region 7 with (first
            | (refine wpList_val rfl (.slice A2 (b.length - k) (c - k)) (by rw [← HA2.out]; exact run_from rfl rfl rfl rfl g2) ?_)
            | (go_at_call 91; refine (H2W.out _ HR21.out).mono ?_; rintro e2 w2 ⟨rfl, n2, rfl⟩))
          go_wp2_with (go_at_call 100; refine (HDC.out _).mono ?_; rintro e3 w3 ⟨rfl, n3, rfl⟩)
          refine bodyPost_ret (v := .tuple #[.int .u64 (R.1 : Nat), .int .u64 (R.2.1 : Nat), .int .i64 (R.2.2.1 : Nat), .int .i64 (R.2.2.2 : Nat)]) (by rw [HRQ.out]; simp [results, Try.results63, go_sem]) rfl ?_
          exact ⟨rfl, _, rfl⟩
      · have he3i : ((e : Int) == 0) = false := beq_eq_false_iff_ne.2 (by omega)
        have he3j : ¬ (e : Int) = 0 := by omega
        rw [if_pos he3] at hRq
        have H1 := Lib.hid h1
        have H2W := Lib.hid h2w
        have HRQ := Lib.hid hRq
        have HR2 := Lib.hid hR2
        have HA2 := Lib.hid hA2
        have HDL := Lib.hid hdl
        have HDC := Lib.hid hdc
        clear h1 h2w hRq hR2 hA2 hdl hdc
        go_enter Try.func63, Try.ntmps63
        go_upto_region 4 with (go_at_call 91; refine H1.out.mono ?_; rintro e1 w1 ⟨rfl, n1, rfl⟩)
        have hR21 := HR2.out.drewN n1
        have HR21 := Lib.hid hR21
        clear hR21
        go_upto_region 7 with (first
          | (refine wpList_val rfl (.slice A2 (b.length - k) (c - k)) (by rw [← HA2.out]; exact run_from rfl rfl rfl rfl g2) ?_)
          | (go_at_call 91; refine (H2W.out _ HR21.out).mono ?_; rintro e2 w2 ⟨rfl, n2, rfl⟩))
        go_wp2_with (go_at_call 100; refine (HDC.out _).mono ?_; rintro e3 w3 ⟨rfl, n3, rfl⟩)
        refine bodyPost_ret (v := .tuple #[.int .u64 (R.1 : Nat), .int .u64 (R.2.1 : Nat), .int .i64 (R.2.2.1 : Nat), .int .i64 (R.2.2.2 : Nat)]) (by rw [HRQ.out]; simp [results, Try.results63, go_sem]) rfl ?_
        exact ⟨rfl, _, rfl⟩
    · have he2i : ((e : Int) == 0) = false := beq_eq_false_iff_ne.2 (by omega)
      have he2j : ¬ (e : Int) = 0 := by omega
      rw [if_pos he2] at hRq
      clear hg2
      have H1 := Lib.hid h1
      have H2W := Lib.hid h2w
      have HRQ := Lib.hid hRq
      have HR2 := Lib.hid hR2
      have HA2 := Lib.hid hA2
      have HDL := Lib.hid hdl
      clear h1 h2w hRq hR2 hA2 hdl
      go_enter Try.func63, Try.ntmps63
      go_upto_region 4 with (go_at_call 91; refine H1.out.mono ?_; rintro e1 w1 ⟨rfl, n1, rfl⟩)
      have hR21 := HR2.out.drewN n1
      have HR21 := Lib.hid hR21
      clear hR21
      go_wp2_with (first
        | (refine wpList_val rfl (.slice A2 (b.length - k) (c - k)) (by rw [← HA2.out]; exact run_from rfl rfl rfl rfl g2) ?_)
        | (go_at_call 91; refine (H2W.out _ HR21.out).mono ?_; rintro e2 w2 ⟨rfl, n2, rfl⟩))
      refine bodyPost_ret (v := .tuple #[.int .u64 (R.1 : Nat), .int .u64 (R.2.1 : Nat), .int .i64 (R.2.2.1 : Nat), .int .i64 (R.2.2.2 : Nat)]) (by rw [HRQ.out]; simp [results, Try.results63, go_sem]) rfl ?_
      exact ⟨rfl, n1 + n2, rfl⟩
  · have hei : ((e : Int) == 0) = false := beq_eq_false_iff_ne.2 (by omega)
    have hej : ¬ (e : Int) = 0 := by omega
    rw [if_pos he] at hRq
    have H1 := Lib.hid h1
    have HRQ := Lib.hid hRq
    clear h1 hRq
    go_enter Try.func63, Try.ntmps63
    go_wp2_with (go_at_call 91; refine H1.out.mono ?_; rintro e1 w1 ⟨rfl, n1, rfl⟩)
    refine bodyPost_ret (v := .tuple #[.int .u64 (R.1 : Nat), .int .u64 (R.2.1 : Nat), .int .i64 (R.2.2.1 : Nat), .int .i64 (R.2.2.2 : Nat)]) (by rw [HRQ.out]; simp [results, Try.results63, go_sem]) rfl ?_
    exact ⟨rfl, n1, rfl⟩
end Go.Proofs.Ytdgggjeiflllhaa.M
namespace Go.Proofs.Ytdgggjeiflllhaa.M
open Go.ChangeShapes Go.WideShapes Go.ChangeAt Go.RowKit
theorem encQ_le (c cap : Nat) (h : cap ≤ 4096) : encQ c cap ≤ 256 := by
  unfold encQ
  have hm : mostQ cap ≤ 128 := by unfold mostQ; omega
  generalize mostQ cap = m at *
  split
  · omega
  · rename_i h2
    have : c % (2 * m) < 2 * m := Nat.mod_lt _ (by omega)
    omega
end Go.Proofs.Ytdgggjeiflllhaa.M

