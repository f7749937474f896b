/- SemLengths: the walk. No condition. -/
import Derived.BigQuiet
import Derived.Deep.CutBlock
import Derived.Lib.Hide
import Derived.IntWalk
import Derived.Test.YtpojejdddgdjdaaDoorSkn
import Derived.Test.YtpojejdddgdjdaaDoorSro
import Derived.Test.YtpojejdddgdjdaaDoorSrq
import Derived.Test.YtpojejdddgdjdaaDoorSaz
import Derived.Test.YtpojejdddgdjdaaDoorSlp
namespace Go.Proofs.YtpojejdddgdjdaaDoor.M
open Go.ChangeShapes Go.WideShapes Go.ChangeAt Go.RowKit

theorem App.setC {M : Nat → Prop} {w : World} {e size n c : Nat} {A : Option Addr} {xs : List Value} (h : App M w e size A n c xs) (j : Nat) (hj : j < xs.length) :
    ∃ g off, A = some ⟨g, off, none⟩ ∧ w.cell? ⟨g, off + j, none⟩ = some xs[j] ∧ w.frozen? ⟨g, off + j, none⟩ = false ∧ M g ∧ g < w.heap.size ∧
      ∀ u : Value, App M (w.setCell ⟨g, off + j, none⟩ u) e size A n c (xs.set j u) := by
  have hl := h.len
  have hcap := h.cap
  have hn : 0 < n := by
    rcases Nat.eq_zero_or_pos n with h0 | h0
    · rw [h0, Nat.zero_mul] at hl; omega
    · exact h0
  obtain ⟨g, off, cur, rfl, hb, hsz, hM⟩ := h.own (by omega)
  have hB : Blk w g e cur := hb
  obtain ⟨g2, off2, e2, hc⟩ := h.rd j xs[j] (List.getElem?_eq_getElem hj)
  simp only [Option.some.injEq, Addr.mk.injEq] at e2
  obtain ⟨rfl, rfl, _⟩ := e2
  refine ⟨g, off, rfl, hc, hB.frozen _, hM, hB.lt, fun u => ?_⟩
  have hS := hB.set_ (off + j) u
  refine ⟨by rw [List.length_set]; exact hl, h.cap, h.max, h.nil_, ?_, h.inM, fun hn => ⟨g, off, _, rfl, hS, by simpa using hsz, hM⟩⟩
  intro i v hv
  refine ⟨g, off, rfl, ?_⟩
  rw [hS.cell]
  have hcs : off + j < cur.size := by
    have h1 := hB.cell (off + j)
    rw [hc] at h1
    exact (Array.getElem?_eq_some_iff.1 h1.symm).1
  by_cases hij : i = j
  · subst hij
    rw [List.getElem?_set_self hj] at hv
    rw [Array.getElem?_setIfInBounds, if_pos rfl, if_pos hcs]
    exact hv
  · rw [List.getElem?_set_ne (fun c => hij c.symm)] at hv
    rw [Array.getElem?_setIfInBounds, if_neg (by omega)]
    obtain ⟨g3, off3, e3, hc3⟩ := h.rd i v hv
    simp only [Option.some.injEq, Addr.mk.injEq] at e3
    obtain ⟨rfl, rfl, _⟩ := e3
    rw [← hB.cell]
    exact hc3
/-- a message of these fields, and of a body of noughts -/
def lmv (A : Option Addr) (c : Nat) (L : List Fld) (g k : Nat) : MV := ⟨A, c, L, some ⟨g, 0, none⟩, k, List.replicate k 0, none, 0, []⟩
theorem rcls_lmv (A : Option Addr) (c : Nat) (L : List Fld) (g k : Nat) : rcls (lmv A c L g k) = rcls (lmv none 0 L 0 k) := rfl
theorem len_req (A : Option Addr) (c : Nat) (L : List Fld) (g k : Nat) (w : World) (hR : Rd w A (fvs L)) (hb : Rd w (some ⟨g, 0, none⟩) (bvs (List.replicate k 0))) (hz : fsizes L ≤ 5240) (hl : L.length ≤ 70) (hk : k ≤ 300) :
    Calls Tryd.prog 13 #[.agg #[.slice A L.length c, .slice (some ⟨g, 0, none⟩) k k, .slice none 0 0]] w fun e w' => ∃ r : RV, e = .returned (.tuple #[.agg r.cells, .int .i64 (rcls (lmv none 0 L 0 k) : Nat)]) ∧ Frm (New w) w w' := by
  have hbl : (List.replicate k (0 : UInt8)).length = k := List.length_replicate
  have h := request_any (lmv A c L g k) w ⟨hR, hb, Rd.nil⟩ ⟨by show fsizes L ≤ _; omega, by show L.length ≤ _; omega, Nat.zero_le _, Nat.zero_le _, by show (List.replicate k (0 : UInt8)).length ≤ _; omega⟩ (by show (List.replicate k (0 : UInt8)).length ≤ _; omega) (Nat.zero_le _)
  simp only [MV.cells, lmv, hbl] at h
  refine h.mono ?_
  rintro e w' ⟨r, rfl, _, _, hF⟩
  exact ⟨r, rfl, hF⟩
theorem len_of (A : Option Addr) (c : Nat) (L : List Fld) (g k : Nat) (w : World) (hR : Rd w A (fvs L)) (hb : Rd w (some ⟨g, 0, none⟩) (bvs (List.replicate k 0))) (hz : fsizes L ≤ 5240) (hl : L.length ≤ 70) (hk : k ≤ 300) :
    Calls Tryd.prog 14 #[.agg #[.slice A L.length c, .slice (some ⟨g, 0, none⟩) k k, .slice none 0 0]] w fun e w' => ∃ r : RV, e = .returned (.tuple #[.agg r.cells, .int .i64 (rcls (lmv none 0 L 0 k) : Nat)]) ∧ Frm (New w) w w' := by
  have hbl : (List.replicate k (0 : UInt8)).length = k := List.length_replicate
  have h := rof_any (lmv A c L g k) w ⟨hR, hb, Rd.nil⟩ ⟨by show fsizes L ≤ _; omega, by show L.length ≤ _; omega, Nat.zero_le _, Nat.zero_le _, by show (List.replicate k (0 : UInt8)).length ≤ _; omega⟩
  simp only [MV.cells, lmv, hbl] at h
  refine h.mono ?_
  rintro e w' ⟨r, rfl, _, _, hF⟩
  exact ⟨r, rfl, hF⟩
theorem set_val (L : List Fld) (s : Bytes) : ∀ (i : Nat) (hi : i < L.length), (fvs L).set (2 * i + 1) (str s) = fvs (L.set i (L[i].1, s)) := by
  induction L with
  | nil => intro i hi; simp at hi
  | cons f r ih =>
    intro i hi
    cases i with
    | zero => rfl
    | succ i =>
      have e : fvs (f :: r) = str f.1 :: str f.2 :: fvs r := rfl
      have e2 : fvs ((f :: r).set (i + 1) ((f :: r)[i + 1].1, s)) = str f.1 :: str f.2 :: fvs (r.set i ((r[i]'(by simpa using hi)).1, s)) := rfl
      rw [e, e2, show 2 * (i + 1) + 1 = (2 * i + 1) + 1 + 1 by omega, List.set_cons_succ, List.set_cons_succ, ih i (by simpa using hi)]

set_option maxRecDepth 100000 in
set_option maxHeartbeats 4000000 in
theorem lengths_walk (n z l : Int) (tx : ByteArray) (tw : Bool) (W : World) (hn : (Lit.int .u16 n).wf = true) (hz : (Lit.int .u8 z).wf = true) (hl : (Lit.int .i8 l).wf = true) (htx : tx.size ≤ 1125899906842624) :
    Calls Tryd.prog 8 #[.int .u16 n, .int .u8 z, .int .i8 l, .string tx, .bool tw] W fun e w' => e = .returned (.bool true) ∧ Below W.heap.size W w' := by
  have hn2 : 0 ≤ n ∧ n ≤ 65535 := by simp only [Lit.wf, decide_eq_true_eq, Bool.and_eq_true] at hn; exact hn
  have hz2 : 0 ≤ z ∧ z ≤ 255 := by simp only [Lit.wf, decide_eq_true_eq, Bool.and_eq_true] at hz; exact hz
  have hl2 : -128 ≤ l ∧ l ≤ 127 := by simp only [Lit.wf, decide_eq_true_eq, Bool.and_eq_true] at hl; exact hl
  clear hn hz hl
  obtain ⟨n0, n1⟩ := hn2
  obtain ⟨z0, z1⟩ := hz2
  obtain ⟨l0, l1⟩ := hl2
  obtain ⟨s, rfl⟩ : ∃ s : Bytes, tx = ⟨s.toArray⟩ := ⟨tx.data.toList, by cases tx; simp⟩
  have hsl : s.length ≤ 1125899906842624 := by simpa [ByteArray.size] using htx
  clear htx
  have hk := known_any W
  have hfr : ∀ (w : World) t cs, Frm (New w) w (w.alloc (.cells cs t)) := fun w t cs => (Frm.refl _ w).alloc Up.new _
  have HK := Lib.hid hk
  have HFR := Lib.hid hfr
  clear hk hfr
  go_enter Tryd.func8, Tryd.ntmps8
  go_upto_region 3 with (go_at_call 11; refine HK.out.mono ?_; rintro e w1 ⟨rfl, hF1⟩)
  by_cases h20 : (20 : Int) < s.length
  · go_wp2_with (fail)
    go_ret
    exact ⟨rfl, hF1.below⟩
  have hfw := hF1.size
  have HF1 := Lib.hid hF1
  have HFW := Lib.hid hfw
  clear hF1 hfw
  clear HK
  obtain ⟨k, hk⟩ : ∃ k : Nat, (k : Int) = n % 300 := ⟨(n % 300).toNat, by omega⟩
  have hk3 : k < 300 := by omega
  have hkt : Int.tmod n 300 = (k : Int) := by rw [hk]; exact Int.tmod_eq_emod_of_nonneg n0
  obtain ⟨zc, hzc⟩ : ∃ zc : Nat, (zc : Int) = z % 10 := ⟨(z % 10).toNat, by omega⟩
  have hz9 : zc < 10 := by omega
  have hzt : Int.tmod z 10 = (zc : Int) := by rw [hzc]; exact Int.tmod_eq_emod_of_nonneg z0
  have HZC := Lib.hid hzc
  clear hzc
  obtain ⟨lm, hlm, hlm0, hlm1⟩ : ∃ lm : Int, Int.tmod l 2 = lm ∧ -1 ≤ lm ∧ lm ≤ 1 := ⟨Int.tmod l 2, rfl, by have := Int.lt_tmod_of_pos l (show (0 : Int) < 2 by omega); omega, by have := Int.tmod_lt_of_pos l (show (0 : Int) < 2 by omega); omega⟩
  obtain ⟨kk, hkk⟩ : ∃ kk : Nat, (kk : Int) = max ((k : Int) + lm) 0 := ⟨(max ((k : Int) + lm) 0).toNat, by omega⟩
  have hkk3 : kk < 1000 := by omega
  have hd0 : ∀ w, Calls Tryd.prog 23 #[.int .i64 (max ((k : Int) + lm) 0)] w fun e w' => e = .returned (.string ⟨(decB kk).toArray⟩) ∧ w = w' := fun w => by rw [← hkk]; exact rdec_any kk w (by omega)
  go_upto_region 6 with (fail)
  rw [← hk]
  have HD0 := Lib.hid hd0
  have HK := Lib.hid hk
  have HKK := Lib.hid hkk
  have HKT := Lib.hid hkt
  clear hd0 hk hkk hkt
  go_upto_region 8 with (go_at_call 23; refine (HD0.out _).mono ?_; rintro e w' ⟨rfl, hw⟩; rw [← hw]; clear hw w')
  rw [show decB kk = zeros 0 kk from rfl]
  have hdl : (decB kk).length ≤ 3 := decB_len 2 kk (by omega)
  go_loopw [12, 13] (fun v12 v13 wr => ∃ i : Nat, i ≤ zc ∧ v13 = .int .i64 i ∧ v12 = .string ⟨(zeros i kk).toArray⟩ ∧ wr = w1) (fun _ v13 _ => zc - (intOf v13).toNat)
  case atStart => exact ⟨0, by omega, rfl, rfl, rfl⟩
  case round =>
    obtain ⟨i, hi, rfl, rfl, rfl⟩ := hrel
    rename World => w1
    have hzl := zeros_len i kk
    by_cases hiz : i < zc
    · have hz2 : zeros (i + 1) kk = 48 :: zeros i kk := zeros_succ i kk
      have hcat : (⟨#[48]⟩ : ByteArray) ++ ⟨(zeros i kk).toArray⟩ = ⟨(48 :: zeros i kk).toArray⟩ := by
        apply ByteArray.ext
        simp
      have hzl2 : ¬ 9223372036854775807 < 1 + (zeros i kk).length := by omega
      have hizI : (i : Int) < z % 10 := by have := HZC.out; omega
      go_wp2_with (fail)
      go_roundw
      case rel => exact ⟨i + 1, by omega, by go_num, by first | rfl | trivial | (rw [hz2]), by first | rfl | trivial⟩
      case measure => simp [intOf]; omega
    · obtain rfl : i = zc := by omega
      have hnot : ¬ (i : Int) < z % 10 := by have := HZC.out; omega
      have hvl : (zeros i kk).length ≤ 1000 := by omega
      go_upto_region 11 with (fail)
      clear hnot
      obtain ⟨v, hv⟩ : ∃ v, v = zeros i kk := ⟨_, rfl⟩
      rw [← hv]
      rw [← hv] at hvl
      have HV := Lib.hid hv
      clear hv
      have hdk : ∀ w, Calls Tryd.prog 23 #[.int .i64 (k : Int)] w fun e w' => e = .returned (.string ⟨(decB k).toArray⟩) ∧ w = w' := fun w => rdec_any k w (by omega)
      have hA2 : App (New w1) (w1.alloc (.cells #[.string ⟨#[58, 109, 101, 116, 104, 111, 100]⟩, .string ⟨#[80, 85, 84]⟩, .string ⟨#[58, 115, 99, 104, 101, 109, 101]⟩, .string ⟨#[104, 116, 116, 112, 115]⟩, .string ⟨#[58, 112, 97, 116, 104]⟩, .string ⟨#[47]⟩, .string ⟨#[99, 111, 110, 116, 101, 110, 116, 45, 108, 101, 110, 103, 116, 104]⟩, .string ⟨v.toArray⟩] 34)) 34 2 (some ⟨w1.heap.size, 0, none⟩) 4 4 (fvs (lenL v false (decB k))) :=
        App.full (Rd.new w1 #[.string ⟨#[58, 109, 101, 116, 104, 111, 100]⟩, .string ⟨#[80, 85, 84]⟩, .string ⟨#[58, 115, 99, 104, 101, 109, 101]⟩, .string ⟨#[104, 116, 116, 112, 115]⟩, .string ⟨#[58, 112, 97, 116, 104]⟩, .string ⟨#[47]⟩, .string ⟨#[99, 111, 110, 116, 101, 110, 116, 45, 108, 101, 110, 103, 116, 104]⟩, .string ⟨v.toArray⟩] 34) rfl (by decide) (fun c => by cases c) (fun q hq => by simp at hq; show w1.heap.size ≤ q; omega) (fun _ => ⟨_, 0, _, rfl, heap_alloc_new w1 _, by simp, Nat.le_refl _⟩)
      have hF12 := HFR.out w1 34 #[.string ⟨#[58, 109, 101, 116, 104, 111, 100]⟩, .string ⟨#[80, 85, 84]⟩, .string ⟨#[58, 115, 99, 104, 101, 109, 101]⟩, .string ⟨#[104, 116, 116, 112, 115]⟩, .string ⟨#[58, 112, 97, 116, 104]⟩, .string ⟨#[47]⟩, .string ⟨#[99, 111, 110, 116, 101, 110, 116, 45, 108, 101, 110, 103, 116, 104]⟩, .string ⟨v.toArray⟩]
      go_upto_region 12 with (fail)
      obtain ⟨gL, hgL⟩ : ∃ gL, gL = w1.heap.size := ⟨_, rfl⟩
      rw [← hgL] at hA2 ⊢
      generalize w1.alloc (.cells #[.string ⟨#[58, 109, 101, 116, 104, 111, 100]⟩, .string ⟨#[80, 85, 84]⟩, .string ⟨#[58, 115, 99, 104, 101, 109, 101]⟩, .string ⟨#[104, 116, 116, 112, 115]⟩, .string ⟨#[58, 112, 97, 116, 104]⟩, .string ⟨#[47]⟩, .string ⟨#[99, 111, 110, 116, 101, 110, 116, 45, 108, 101, 110, 103, 116, 104]⟩, .string ⟨v.toArray⟩] 34) = w1b at *
      clear hgL
      have HDK := Lib.hid hdk
      have HA2 := Lib.hid hA2
      have HF12 := Lib.hid hF12
      clear hdk hA2 hF12
      go_upto_if 52 with (fail)
      go_cut [14] from 53 (fun v14 w' => ∃ A c, v14 = .slice A (lenL v tw (decB k)).length c ∧ Hid (App (New w1) w' 34 2 A (lenL v tw (decB k)).length c (fvs (lenL v tw (decB k)))) ∧ Hid (Frm (New w1) w1 w'))
      case first =>
        cases tw with
        | false =>
          go_wp2_with (fail)
          go_meet
          exact ⟨_, 4, rfl, HA2, HF12⟩
        | true =>
          go_wp2_with (first
            | (go_at_call 23; refine (HDK.out _).mono ?_; rintro e w' ⟨rfl, hw⟩; rw [← hw]; clear hw w')
            | (at_builtin; refine wpList_append_lit flds rfl rfl rfl HA2.out (Up.new.frm HF12.out) rfl rfl (fld_one _ _) (by decide) ?_; intro A9 c9 w9 hA9 hF9 _ _; have HA9 := Lib.hid hA9; have HF9 := Lib.hid hF9; clear hA9 hF9))
          go_meet
          exact ⟨A9, c9, rfl, HA9, Lib.hid (HF12.out.trans HF9.out)⟩
      case rest =>
        obtain ⟨A, c, rfl, HA, HF⟩ := hcut
        rename World => w2
        obtain ⟨L, hL⟩ : ∃ L, L = lenL v tw (decB k) := ⟨_, rfl⟩
        rw [← hL] at HA ⊢
        have hLl : 4 ≤ L.length ∧ L.length ≤ 5 := by rw [hL]; cases tw <;> simp [lenL, kPut]
        obtain ⟨hL4, hL5⟩ := hLl
        have hd3 : (decB k).length ≤ 3 := decB_len 2 k (by omega)
        have hLz : fsizes L ≤ 1300 := by
          rw [hL]
          cases tw <;> simp [lenL, kPut, fsizes, fsize, bMe, bSc, bPa, bCL] <;> omega
        have hL3 : L[3].1 = bCL := by
          subst hL
          cases tw <;> rfl
        have hlaw := lenL_law i kk k tw (lmv none 0 L 0 k) (by rw [← HV.out]; exact hL) List.length_replicate rfl hk3 (by omega) hkk3
        rw [← HV.out] at hlaw
        obtain ⟨ok, hok⟩ : ∃ ok, ok = (decide (v.length ≤ 9) && decide (kk = k)) := ⟨_, rfl⟩
        rw [← hok] at hlaw
        obtain ⟨ui, hui, huz, hus, hub⟩ := u8_info
        have hC : madeCells (Value.int .u8 0).cells (k * ui.size) = (bvs (List.replicate k 0)).toArray := by rw [hus]; exact made_u8 k
        have hRd2 : ∀ (w' : World) (g : Nat), Blk w' g 5 (bvs (List.replicate k 0)).toArray → Rd w' (some ⟨g, 0, none⟩) (bvs (List.replicate k 0)) := fun w' g h => by
          have := h.rd
          rw [List.toList_toArray] at this
          exact this
        have hrq : ∀ (w' : World), Frm (New w2) w2 w' → Blk w' w2.heap.size 5 (bvs (List.replicate k 0)).toArray → Calls Tryd.prog 13 #[.agg #[.slice A L.length c, .slice (some ⟨w2.heap.size, 0, none⟩) k k, .slice none 0 0]] w' fun e w3 => ∃ r : RV, e = .returned (.tuple #[.agg r.cells, .int .i64 (rcls (lmv none 0 L 0 k) : Nat)]) ∧ Frm (New w') w' w3 := fun w' f hb => len_req A c L _ k w' (HA.out.rd.fresh f) (hRd2 w' _ hb) (by omega) (by omega) (by omega)
        rw [hlaw] at hrq
        have HC := Lib.hid hC
        have HRD2 := Lib.hid hRd2
        have HRQ := Lib.hid hrq
        have HL := Lib.hid hL
        have HLAW := Lib.hid hlaw
        have HOK := Lib.hid hok
        clear hC hRd2 hrq hL hlaw hok
        go_upto_region 15 with (first
          | (refine wpList_make rfl Tryd.underlying23 hui huz rfl (m := k) rfl rfl (by rw [hub]; omega) (by unfold maxLen; omega) ?_; intro w3 hb3 hF3 hs3; rw [HC.out] at hb3)
          | (go_at_call 13; refine (HRQ.out _ hF3 hb3).mono ?_; intro e w4 hR; obtain ⟨⟨p1, p2, p3, p4, a1, d1, f1, a2, d2, b1, a3, d3, t1⟩, rfl, hF4⟩ := hR; simp only [RV.cells])
          | (refine wpList_new rfl rfl zReq rfl ?_; intro w5 hb5 hF5 hs5)
          | (refine wpList_store_agg rfl rfl rfl rfl hb5 rfl (req_one _ _ _ _ _ _ _ _ _ _ _ _ _) (by kernel_rfl) ?_; intro w6 hb6 hF6 hs6))
        have hF26 : Frm (New w2) w2 w6 := (hF3.then_new Up.new hF4).then_new Up.new (hF5.trans (hF6.mono (fun q hq => by subst hq; unfold New; omega)))
        have hA6 := HA.out.fresh hF26
        have hF06 := (HF1.out.then_new Up.new HF.out).then_new Up.new hF26
        clear hb3 hF3 hs3 hF4 hb5 hF5 hs5 hb6 hF6 hs6 hF26 HRQ HF1
        have hmx : max ((k : Int) + lm) 0 = (kk : Int) := HKK.out.symm
        have HA6 := Lib.hid hA6
        have HF06 := Lib.hid hF06
        clear hA6 hF06
        obtain ⟨cls, hcls⟩ : ∃ cls : Nat, cls = if ok = true then 0 else 1 := ⟨_, rfl⟩
        simp only [← hcls]
        have HCLS := Lib.hid hcls
        clear hcls
        rw [hmx]
        go_cut [17] from 67 (fun v17 w' => v17 = .bool ok ∧ w' = w6)
        case first =>
          by_cases h9 : v.length ≤ 9
          · have h9i : (v.length : Int) ≤ 9 := by omega
            by_cases hkq : kk = k
            · have hko : ok = true := by rw [HOK.out, decide_eq_true h9, decide_eq_true hkq]; rfl
              subst hkq
              have HKO := Lib.hid hko
              clear hko
              go_wp2_with (fail)
              go_meet
              exact ⟨by first | (rw [HKO.out]; done) | (rw [HKO.out]; rfl), rfl⟩
            · have hko : ok = false := by rw [HOK.out, decide_eq_true h9, decide_eq_false hkq]; rfl
              have hki : ¬ (kk : Int) = (k : Int) := by omega
              have hkb : ((kk : Int) == (k : Int)) = false := beq_eq_false_iff_ne.2 hki
              have HKO := Lib.hid hko
              clear hko
              go_wp2_with (fail)
              go_meet
              exact ⟨by first | (rw [HKO.out]; done) | (rw [HKO.out]; rfl), rfl⟩
          · have hko : ok = false := by rw [HOK.out, decide_eq_false h9]; rfl
            have h9i : ¬ (v.length : Int) ≤ 9 := by omega
            have HKO := Lib.hid hko
            clear hko
            go_wp2_with (fail)
            go_meet
            exact ⟨by first | (rw [HKO.out]; done) | (rw [HKO.out]; rfl), rfl⟩
        case rest =>
          obtain ⟨rfl, rfl⟩ := hcut
          rename World => w6
          have hLs : 2 * 3 + 1 < (fvs L).length := by rw [fvs_length]; omega
          obtain ⟨gA, oA, rfl, hce, hfz, hMg, hgl, hAset⟩ := HA6.out.setC (2 * 3 + 1) hLs
          have hA7 := hAset (.string ⟨s.toArray⟩)
          have hsv := set_val L s 3 (by omega)
          have hA8 : App (New w1) (w6.setCell ⟨gA, oA + (2 * 3 + 1), none⟩ (.string ⟨s.toArray⟩)) 34 2 (some ⟨gA, oA, none⟩) L.length c (fvs (L.set 3 (L[3].1, s))) := by
            rw [← hsv]
            exact hA7
          have hF67 : Frm (New W) W (w6.setCell ⟨gA, oA + (2 * 3 + 1), none⟩ (.string ⟨s.toArray⟩)) := HF06.out.trans (Frm.setCell (M := New W) (Frm.refl _ w6) (p := ⟨gA, oA + (2 * 3 + 1), none⟩) (by have h1 := hMg; have h2 := HFW.out; unfold New at h1 ⊢; simp only; omega) _)
          have hoff : oA + (2 * 3 + 1) = oA + 6 + 1 := by omega
          rw [hoff] at hce hfz hA8 hF67
          obtain ⟨old, hold⟩ : ∃ old, old = (fvs L)[2 * 3 + 1] := ⟨_, rfl⟩
          rw [← hold] at hce
          clear hAset hA7 hold hsv hoff
          have HA8 := Lib.hid hA8
          have HF67 := Lib.hid hF67
          clear hA8 hF67
          go_upto_region 17 with (fail)
          have hA8 := HA8.out
          have hF67 := HF67.out
          clear HA8 HF67 HA6 HF06 hce hfz
          generalize w6.setCell ⟨gA, oA + 6 + 1, none⟩ (.string ⟨s.toArray⟩) = w7 at *
          have hLsl : L.length = (L.set 3 (L[3].1, s)).length := List.length_set.symm
          rw [hLsl] at hA8 ⊢
          clear hLsl
          have hLz2 : fsizes (L.set 3 (L[3].1, s)) ≤ 5240 := by
            rw [hL3]
            have h1 : L = kPut ++ ((bCL, v) :: (if tw then [(bCL, decB k)] else [])) := HL.out
            rw [h1]
            cases tw <;> simp [kPut, fsizes, fsize, bMe, bSc, bPa, bCL] <;> omega
          have hLl2 : (L.set 3 (L[3].1, s)).length ≤ 70 := by rw [List.length_set]; omega
          generalize L.set 3 (L[3].1, s) = L2 at *
          have hrq : ∀ (w' : World), Frm (New w7) w7 w' → Blk w' w7.heap.size 5 (bvs (List.replicate k 0)).toArray → Calls Tryd.prog 13 #[.agg #[.slice (some ⟨gA, oA, none⟩) L2.length c, .slice (some ⟨w7.heap.size, 0, none⟩) k k, .slice none 0 0]] w' fun e w3 => ∃ r : RV, e = .returned (.tuple #[.agg r.cells, .int .i64 (rcls (lmv none 0 L2 0 k) : Nat)]) ∧ Frm (New w') w' w3 := fun w' f hb => len_req _ c L2 _ k w' (hA8.rd.fresh f) (HRD2.out w' _ hb) hLz2 hLl2 (by omega)
          generalize hrc : rcls (lmv none 0 L2 0 k) = rc at *
          have HRQ := Lib.hid hrq
          have HF67 := Lib.hid hF67
          have HRC := Lib.hid hrc
          clear hrq hF67 hrc
          go_upto_region 18 with (first
            | (refine wpList_make rfl Tryd.underlying23 hui huz rfl (m := k) rfl rfl (by rw [hub]; omega) (by unfold maxLen; omega) ?_; intro w3 hb3 hF3 hs3; rw [HC.out] at hb3)
            | (go_at_call 13; refine (HRQ.out _ hF3 hb3).mono ?_; intro e w4 hR; obtain ⟨⟨p1, p2, p3, p4, a1, d1, f1, a2, d2, b1, a3, d3, t1⟩, rfl, hF4⟩ := hR; simp only [RV.cells])
            | (refine wpList_new rfl rfl zReq rfl ?_; intro w5 hb5 hF5 hs5)
            | (refine wpList_store_agg rfl rfl rfl rfl hb5 rfl (req_one _ _ _ _ _ _ _ _ _ _ _ _ _) (by kernel_rfl) ?_; intro w8 hb8 hF8 hs8))
          have hF78 : Frm (New w7) w7 w8 := (hF3.then_new Up.new hF4).then_new Up.new (hF5.trans (hF8.mono (fun q hq => by subst hq; unfold New; omega)))
          have hA9 := hA8.rd.fresh hF78
          have hF08 := HF67.out.then_new Up.new hF78
          clear hb3 hF3 hs3 hF4 hb5 hF5 hs5 hb8 hF8 hs8 hF78 HRQ HF67 hA8
          have hof : ∀ (w' : World), Frm (New w8) w8 w' → Blk w' w8.heap.size 5 (bvs (List.replicate k 0)).toArray → Calls Tryd.prog 14 #[.agg #[.slice (some ⟨gA, oA, none⟩) L2.length c, .slice (some ⟨w8.heap.size, 0, none⟩) k k, .slice none 0 0]] w' fun e w3 => ∃ r : RV, e = .returned (.tuple #[.agg r.cells, .int .i64 (rc : Nat)]) ∧ Frm (New w') w' w3 := fun w' f hb => by
            rw [← HRC.out]
            exact len_of _ c L2 _ k w' (hA9.fresh f) (HRD2.out w' _ hb) hLz2 hLl2 (by omega)
          have HOF := Lib.hid hof
          have HF08 := Lib.hid hF08
          clear hof hF08
          go_upto_region 19 with (first
            | (refine wpList_make rfl Tryd.underlying23 hui huz rfl (m := k) rfl rfl (by rw [hub]; omega) (by unfold maxLen; omega) ?_; intro w3 hb3 hF3 hs3; rw [HC.out] at hb3)
            | (go_at_call 14; refine (HOF.out _ hF3 hb3).mono ?_; intro e w4 hR; obtain ⟨⟨q1, q2, q3, q4, a4, d4, f4, a5, d5, b5, a6, d6, t6⟩, rfl, hF4⟩ := hR; simp only [RV.cells])
            | (refine wpList_new rfl rfl zReq rfl ?_; intro w5 hb5 hF5 hs5)
            | (refine wpList_store_agg rfl rfl rfl rfl hb5 rfl (req_one _ _ _ _ _ _ _ _ _ _ _ _ _) (by kernel_rfl) ?_; intro w9 hb9 hF9 hs9))
          have hF89 : Frm (New w8) w8 w9 := (hF3.then_new Up.new hF4).then_new Up.new (hF5.trans (hF9.mono (fun q hq => by subst hq; unfold New; omega)))
          have hF09 := HF08.out.then_new Up.new hF89
          clear hb3 hF3 hs3 hF4 hb5 hF5 hs5 hb9 hF9 hs9 hF89 HOF HF08
          have HF09 := Lib.hid hF09
          clear hF09
          have hc9 := HCLS.out
          clear HOK
          cases ok with
          | true =>
            have hc0 : cls = 0 := hc9
            clear HCLS hc9 HLAW
            subst hc0
            go_wp2_with (fail)
            go_ret
            exact ⟨rfl, HF09.out.below⟩
          | false =>
            have hc0 : cls = 1 := hc9
            clear HCLS hc9 HLAW
            subst hc0
            go_wp2_with (fail)
            go_ret
            exact ⟨rfl, HF09.out.below⟩
end Go.Proofs.YtpojejdddgdjdaaDoor.M
