/- bifoldlaw24.ReasmBounds: for every input it tells true. No condition. -/
import Derived.BigQuiet
import Derived.Deep.CutBlock
import Derived.Lib.Hide
import Derived.IntWalk
import Derived.Test.YtljleaomlooiaaaRkn
import Derived.Test.YtljleaomlooiaaaArrb
namespace Go.Proofs.Ytljleaomlooiaaa.M
open Go.ChangeShapes Go.WideShapes Go.ChangeAt Go.RowKit

theorem made_u8 (m : Nat) : madeCells (Value.int .u8 0).cells (m * 1) = (bvs (List.replicate m 0)).toArray := by
  apply Array.ext'
  rw [Nat.mul_one, show (Value.int .u8 0).cells = #[Value.int .u8 0] from rfl, toList_madeCells_one]
  simp [bvs, bv]
theorem u8_info : ∃ i, Try.prog.info? 5 = some i ∧ i.zero = some (.int .u8 0) ∧ i.size = 1 ∧ i.bytes = 1 := by
  have h : (Try.prog.info? 5).map (fun i => (i.zero, i.size, i.bytes)) = some (some (.int .u8 0), 1, 1) := by kernel_rfl
  obtain ⟨i, hi, hz, hs, hb⟩ := info_parts h
  exact ⟨i, hi, hz, hs, hb⟩
theorem news_empty {off : Nat} {b : Bytes} {l : List Pc} {c a : Nat} (hs : Srt c l) (ha : off ≤ a) (h : off + b.length ≤ a ∨ b = []) : news off b (off + b.length) l a = [] := by
  have h1 := news_stop off b l c a hs ha
  have h2 := news_srt off b l c a hs ha
  cases hn : news off b (off + b.length) l a with
  | nil => rfl
  | cons p r =>
    rw [hn] at h1 h2
    have h3 := h1 p (by simp)
    have h4 := h2.1
    have h5 := List.length_pos_iff.2 h2.2.1
    unfold Pc.stop at h3
    rcases h with h | h
    · omega
    · rw [h] at h3
      simp only [List.length_nil] at h3
      omega
theorem AddTo.keeps {B B' : Bf} {off : Nat} {b : Bytes} {f : Bool} (h : B.AddTo off b f B') (ho : B.Ok) : B'.win = B.win ∧ B'.reset = B.reset ∧ (f = false → B'.known = B.known ∧ B'.fin = B.fin) ∧ hl B'.l ≤ hl B.l + b.length ∧ B'.a = B.a := by
  unfold Bf.AddTo at h
  split at h
  · obtain ⟨l', hp, _, rfl⟩ := h
    refine ⟨rfl, rfl, fun hf => ?_, ?_, rfl⟩
    · subst hf
      simp
    · have h1 := news_hl (b := b) (off := off) ho.srt (a := max off B.a) (by omega)
      have h2 := (flat_perm hp).length_eq
      rw [hl_flat, hl_flat, hl_app] at h2
      simp only
      omega
  · subst h
    exact ⟨rfl, rfl, fun _ => ⟨rfl, rfl⟩, by omega, rfl⟩
theorem chk_open {B : Bf} {stop : Nat} {fits : Bool} (h : B.known = false) : B.chk stop fits false = if fits = false ∨ B.win < stop then 31 else 0 := by
  unfold Bf.chk
  rw [h]
  simp
theorem adds_open {B : Bf} {off : Nat} {b : Bytes} (h : B.known = false) (ho : off + b.length < 18446744073709551616) : B.adds off b false = if B.win < off + b.length then 31 else 0 := by
  unfold Bf.adds
  have e : stp off b = off + b.length := by unfold stp; exact Nat.mod_eq_of_lt ho
  rw [chk_open h, e]
  have e2 : decide (off ≤ off + b.length) = true := by simp
  rw [e2]
  simp
theorem adds_far {B : Bf} {off : Nat} {b : Bytes} {f : Bool} (h : B.win < 4611686018427387904) (hb : b.length < 256) (ho : off = 18446744073709551615 ∨ (off = 4611686018427387904 ∧ b.length = 0)) : B.adds off b f = 31 := by
  unfold Bf.adds Bf.chk
  rw [if_pos]
  unfold stp
  rcases ho with rfl | ⟨rfl, hb0⟩
  · by_cases hb0 : b.length = 0
    · right; omega
    · left
      rw [decide_eq_false_iff_not]
      omega
  · right; omega

set_option maxRecDepth 100000 in
set_option maxHeartbeats 4000000 in
theorem bounds_walk (t a d g : Int) (W : World) (w0 : (Lit.int .u16 t).wf = true) (w1 : (Lit.int .u16 a).wf = true) (w2 : (Lit.int .u8 d).wf = true) (w3 : (Lit.int .u16 g).wf = true) :
    Calls Try.prog 4 #[.int .u16 t, .int .u16 a, .int .u8 d, .int .u16 g] W fun e w' => e = .returned (.bool true) ∧ Below W.heap.size W w' := by
  obtain ⟨t0, t1⟩ := bounds_u16 w0
  obtain ⟨a0, a1⟩ := bounds_u16 w1
  obtain ⟨d0, d1⟩ := bounds_u8 w2
  obtain ⟨g0, g1⟩ := bounds_u16 w3
  obtain ⟨win, rfl⟩ := Int.eq_ofNat_of_zero_le t0
  obtain ⟨off, rfl⟩ := Int.eq_ofNat_of_zero_le a0
  obtain ⟨n, rfl⟩ := Int.eq_ofNat_of_zero_le d0
  obtain ⟨gr, rfl⟩ := Int.eq_ofNat_of_zero_le g0
  clear w0 w1 w2 w3 t0 a0 d0 g0
  obtain ⟨ui, hui, huz, hus, hub⟩ := u8_info
  have HUS := Lib.hid hus
  have HUB := Lib.hid hub
  clear hus hub
  go_enter Try.func4, Try.ntmps4
  go_wp2_with (fail)
  refine (known_any _).mono ?_
  rintro e w1 ⟨rfl, hF1⟩
  have hnew := bnew_any (fun k => k < W.heap.size) win w1 (fun k hk => Nat.lt_of_lt_of_le hk hF1.size)
  rw [show min win 4611686018427387903 = win by omega] at hnew
  have HF1 := Lib.hid hF1
  have HNEW := Lib.hid hnew
  clear hF1 hnew
  go_wp2_with (fail)
  refine HNEW.out.mono ?_
  rintro e w2 ⟨rfl, hB2, hF2⟩
  have hF02 := HF1.out.then_new Up.new hF2
  clear hF2 HNEW HF1
  generalize w1.heap.size = p at *
  have HC : Hid (madeCells (Value.int .u8 0).cells (n * ui.size) = (bvs (List.replicate n 0)).toArray) := by show _ = _; rw [HUS.out, made_u8]
  have HB2 := Lib.hid hB2
  have HF02 := Lib.hid hF02
  clear hB2 hF02
  go_wp2_with (refine wpList_make rfl Try.underlying22 hui huz rfl (m := n) rfl rfl (by rw [HUB.out]; omega) (by unfold maxLen; omega) ?_; intro w3 hb3 hF3 hs3; clear hs3; rw [HC.out] at hb3)
  have hF03 := HF02.out.then_new Up.new hF3
  have hRb : Rd w3 (some ⟨w2.heap.size, 0, none⟩) (bvs (List.replicate n 0)) := by simpa using hb3.rd
  have hbE : ∃ E : Nat → Prop, E w2.heap.size ∧ (∀ k, k < W.heap.size → E k) ∧ BSt E w3 p ⟨[], 0, 0, win, 0, false, false⟩ := ⟨_, .inr ⟨Nat.le_refl _, hb3.lt⟩, fun k hk => .inl hk, HB2.out.more hF3⟩
  obtain ⟨E, hE, hEW, hB3⟩ := hbE
  have hbl : (List.replicate n (0 : UInt8)).length = n := List.length_replicate
  obtain ⟨b, hb⟩ : ∃ b : Bytes, b = List.replicate n 0 := ⟨_, rfl⟩
  rw [← hb] at hRb hbl
  have hadd := badd_any off b false (cb := n) hB3 hRb (fun k hk => by simp only [blk_some, Option.some.injEq] at hk; rw [← hk]; exact hE) (by omega) (fun e => by cases e) (by rw [hbl]; simp only [hl]; omega) (by omega)
  have hao : Bf.adds ⟨[], 0, 0, win, 0, false, false⟩ off b false = if win < off + n then 31 else 0 := by rw [adds_open rfl (by omega), hbl]
  rw [hbl, hao] at hadd
  obtain ⟨gb, hgb⟩ : ∃ gb, gb = w2.heap.size := ⟨_, rfl⟩
  rw [← hgb] at hadd hRb hE ⊢
  have hlit : ∀ w', Frm (fun k => ¬ E k) w3 w' → Rd w' (some ⟨gb, 0, none⟩) (bvs b) := fun w' hF => hRb.keep hF (fun k hk c => by simp only [blk_some, Option.some.injEq] at hk; exact c (by rw [← hk]; exact hE))
  obtain ⟨r1, hr1⟩ : ∃ r1, r1 = if win < off + n then 31 else 0 := ⟨_, rfl⟩
  rw [← hr1] at hadd
  have hokB := hB3.ok
  have HADD := Lib.hid hadd
  have HF03 := Lib.hid hF03
  have HLIT := Lib.hid hlit
  have HE := Lib.hid hE
  have HEW := Lib.hid hEW
  have HR1 := Lib.hid hr1
  have HOKB := Lib.hid hokB
  have HBL := Lib.hid hbl
  have HAO := Lib.hid hao
  clear hadd hF03 hlit hE hEW hr1 hokB hbl hao
  clear hF3 hb3 hRb hB3 HB2 HF02 hb HC hgb
  go_wp2_with (fail)
  refine HADD.out.mono ?_
  rintro e w4 ⟨rfl, B4, hB4, hA4, hF4⟩
  obtain ⟨hk1, hk2, hk3, hk4, hk5⟩ := AddTo.keeps (B := ⟨[], 0, 0, win, 0, false, false⟩) (off := off) (b := b) (f := false) hA4 HOKB.out
  obtain ⟨hk3, _⟩ := hk3 rfl
  simp only at hk1 hk2 hk3 hk4
  have hF34 := Lib.hid hF4
  obtain ⟨mx, hmx⟩ : ∃ mx, mx = max win gr := ⟨_, rfl⟩
  have hg := bgrow_any gr hB4
  have hgw : ({ B4 with win := max B4.win (min gr 4611686018427387903) } : Bf) = { B4 with win := mx } := by rw [hk1, hmx, show min gr 4611686018427387903 = gr by omega]
  rw [hgw] at hg
  have hk4 : hl B4.l ≤ n := by have := HBL.out; simp only [hl] at hk4; omega
  obtain ⟨r2, hr2⟩ : ∃ r2, r2 = if mx < off + n then 31 else 0 := ⟨_, rfl⟩
  have hmi : max (win : Int) (gr : Int) = (mx : Int) := by omega
  have hmxl : mx ≤ 65535 := by omega
  have h1 : (r1 = 0 ∧ (off : Int) + (n : Int) ≤ (win : Int)) ∨ (r1 = 31 ∧ ¬ (off : Int) + (n : Int) ≤ (win : Int)) := by
    have := HR1.out
    split at this
    · exact .inr ⟨this, by omega⟩
    · exact .inl ⟨this, by omega⟩
  have h2 : (r2 = 0 ∧ (off : Int) + (n : Int) ≤ (mx : Int)) ∨ (r2 = 31 ∧ ¬ (off : Int) + (n : Int) ≤ (mx : Int)) := by
    split at hr2
    · exact .inr ⟨hr2, by omega⟩
    · exact .inl ⟨hr2, by omega⟩
  have HW : Hid (∀ w', Frm (fun k => ¬ E k) w3 w' → Below W.heap.size W w') := fun w' hF => (HF03.out.trans (hF.mono (fun k hk => Nat.le_of_not_lt (fun c => hk (HEW.out k c))))).below
  have hnil : ∀ B : Bf, B.known = false → B.win = mx → B.adds off b false = r2 := fun B hB1 hB2 => by rw [adds_open hB1 (by rw [HBL.out]; omega), hB2, HBL.out, hr2]
  have HG := Lib.hid hg
  have HGW := Lib.hid hgw
  have HMX := Lib.hid hmx
  have HR2 := Lib.hid hr2
  have HK1 := Lib.hid hk1
  have HK2 := Lib.hid hk2
  have HK3 := Lib.hid hk3
  have HNIL := Lib.hid hnil
  clear hg hgw hmx hr2 hk1 hk2 hk3 hnil
  clear hA4 hF4 hB4 HADD HOKB HAO HF03
  have HH1 := Lib.hid h1
  clear h1
  have HH2 := Lib.hid h2
  clear h2
  rcases HH1.out with ⟨e1, h1⟩ | ⟨e1, h1⟩
  all_goals
    subst e1
    clear HH1
    go_wp2_with (fail)
    refine HG.out.mono ?_
    rintro e w5 ⟨rfl, hB5, hF5⟩
    have hF35 := hF34.out.trans hF5
    have hadd := badd_any off b false (cb := n) hB5 (HLIT.out w5 hF35) (fun k hk => by simp only [blk_some, Option.some.injEq] at hk; rw [← hk]; exact HE.out) (by rw [HBL.out]; exact Nat.le_refl _) (fun e => by cases e) (by rw [HBL.out]; simp only; omega) (by omega)
    have hn5 := HNIL.out { B4 with win := mx } HK3.out rfl
    rw [HBL.out, hn5] at hadd
    clear hn5
    have hok5 := hB5.ok
    have HF35 := Lib.hid hF35
    have HADD := Lib.hid hadd
    have HOK5 := Lib.hid hok5
    clear hadd hok5
    clear hB5 hF5 hF35 HG hF34
    go_wp2_with (fail)
    refine HADD.out.mono ?_
    rintro e w6 ⟨rfl, B6, hB6, hA6, hF6⟩
    obtain ⟨hq1, hq2, hq3, hq4, hq5⟩ := AddTo.keeps (B := { B4 with win := mx }) (off := off) (b := b) (f := false) hA6 HOK5.out
    simp only at hq1 hq4
    have hF36 := HF35.out.trans hF6
    have hl6 : hl B6.l ≤ 1000 := by have := HBL.out; omega
    have hadd := badd_any 18446744073709551615 b false (cb := n) hB6 (HLIT.out w6 hF36) (fun k hk => by simp only [blk_some, Option.some.injEq] at hk; rw [← hk]; exact HE.out) (by rw [HBL.out]; exact Nat.le_refl _) (fun e => by cases e) (by rw [HBL.out]; omega) (by decide)
    have hf1 : B6.adds 18446744073709551615 b false = 31 := adds_far (by omega) (by rw [HBL.out]; omega) (.inl rfl)
    have hbig : ((18446744073709551615 : Nat) : Int) = 18446744073709551615 := by omega
    rw [HBL.out, hf1, hbig] at hadd
    clear hbig
    have hok6 := hB6.ok
    have HF36 := Lib.hid hF36
    clear HADD
    have HADD := Lib.hid hadd
    have HOK6 := Lib.hid hok6
    have HQ1 := Lib.hid hq1
    have HF1 := Lib.hid hf1
    clear hadd hok6 hq1 hf1
    clear hB6 hF6 hF36 hA6 hq2 hq3 hq5 HF35 HOK5
    rcases HH2.out with ⟨e2, h2⟩ | ⟨e2, h2⟩
    all_goals try (exfalso; omega)
    all_goals
      subst e2
      go_wp2_with (fail)
      refine HADD.out.mono ?_
      rintro e w7 ⟨rfl, B7, hB7, hA7, hF7⟩
      obtain rfl : B7 = B6 := AddTo.no (off := 18446744073709551615) (b := b) (f := false) hA7 (fun c => by rw [HF1.out] at c; cases c.1)
      have hF37 := HF36.out.trans hF7
      have hadd := badd_any 4611686018427387904 [] true (Ab := none) (cb := 0) hB7 Rd.nil (fun k hk => by cases hk) (Nat.le_refl _) (fun _ => rfl) (by simp only [List.length_nil]; omega) (by decide)
      have hf2 : B7.adds 4611686018427387904 [] true = 31 := adds_far (by have := HQ1.out; omega) (by simp) (.inr ⟨rfl, rfl⟩)
      have hbig : ((4611686018427387904 : Nat) : Int) = 4611686018427387904 := by omega
      rw [hf2, hbig] at hadd
      clear hbig
      have HF37 := Lib.hid hF37
      have HADD2 := Lib.hid hadd
      clear hadd hB7 hF7 hF37 hA7 hf2
      go_wp2_with (fail)
      refine HADD2.out.mono ?_
      rintro e w8 ⟨rfl, B8, hB8, hA8, hF8⟩
      have hF38 := HF37.out.trans hF8
      have HF38 := Lib.hid hF38
      clear hB8 hA8 hF8 hF38 HADD2
      go_wp2
      all_goals go_ret
      all_goals exact ⟨rfl, HW.out _ HF38.out⟩
end Go.Proofs.Ytljleaomlooiaaa.M
