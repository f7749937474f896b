/- SemPseudo: the walk. No condition. -/
import Derived.BigQuiet
import Derived.Deep.CutBlock
import Derived.Lib.Hide
import Derived.IntWalk
import Derived.Test.YtpojejdddgdjdaaDoorSkn
import Derived.Test.YtpojejdddgdjdaaDoorSro
import Derived.Test.YtpojejdddgdjdaaDoorSrq
import Derived.Test.YtpojejdddgdjdaaDoorSar
import Derived.Test.YtpojejdddgdjdaaDoorSpp
import Derived.Test.YtpojejdddgdjdaaDoorReg
import Derived.Test.YtpojejdddgdjdaaDoorCut
import Derived.Test.YtpojejdddgdjdaaDoorInb
namespace Go.Proofs.YtpojejdddgdjdaaDoor.M
open Go.ChangeShapes Go.WideShapes Go.ChangeAt Go.RowKit

def kOf (b : UInt8) : Nat := if b.toNat % 6 = 4 ∧ b.toNat < 128 then 5 else b.toNat % 6
theorem kOf_lt (b : UInt8) : kOf b < 6 := by unfold kOf; split <;> omega
def cntA (l : List Nat) : Array Value := ((List.range 6).map (fun q => Value.int .i64 ((l.count q : Nat) : Int))).toArray
theorem cntA_size (l : List Nat) : (cntA l).size = 6 := by simp [cntA]
theorem cntA_get (l : List Nat) (q : Nat) (h : q < 6) : (cntA l)[q]? = some (.int .i64 ((l.count q : Nat) : Int)) := by
  unfold cntA
  simp [h]
theorem cntA_set (l : List Nat) (q : Nat) (h : q < 6) : (cntA l).setIfInBounds q (.int .i64 ((l.count q : Nat) + 1 : Int)) = cntA (l ++ [q]) := by
  apply Array.ext
  · rw [Array.size_setIfInBounds, cntA_size, cntA_size]
  · intro i h1 h2
    rw [cntA_size] at h2
    apply Option.some.inj
    rw [← Array.getElem?_eq_getElem, ← Array.getElem?_eq_getElem, cntA_get _ _ h2, Array.getElem?_setIfInBounds, List.count_append]
    by_cases c : q = i
    · subst c
      rw [if_pos rfl, if_pos (by rw [cntA_size]; exact h)]
      simp
    · rw [if_neg c, cntA_get _ _ h2]
      simp [c]
theorem okV_count {l : List Nat} (h : okV l.reverse = true) (q : Nat) (hq : q < 5) : decide (q ∈ l) = decide (l.count q = 1) := by
  have key : ∀ r : List Nat, okV r = true → r.count q ≤ 1 := fun r => by
    induction r with
    | nil => intro _; simp
    | cons k r ih =>
      intro h
      have e : okV (k :: r) = (okV r && (decide (k = 5) || (decide (5 ∉ r) && (decide (k ∉ r) && decide (k ≠ 4))))) := rfl
      rw [e, Bool.and_eq_true] at h
      have h1 := ih h.1
      rw [List.count_cons]
      by_cases hk : k = q
      · subst hk
        have h2 := h.2
        rw [decide_eq_false (show ¬ k = 5 by omega), Bool.false_or] at h2
        simp only [Bool.and_eq_true, decide_eq_true_eq] at h2
        rw [List.count_eq_zero.2 h2.2.1]
        simp
      · have : (k == q) = false := beq_eq_false_iff_ne.2 hk
        rw [this]
        simpa using h1
  have h1 := key _ h
  rw [List.count_reverse] at h1
  have h2 : q ∈ l ↔ 0 < l.count q := List.count_pos_iff.symm
  exact decide_eq_decide.2 (by rw [h2]; omega)
theorem fk_sizes (l : List Nat) : fsizes (l.map fk) ≤ 60 * l.length := by
  induction l with
  | nil => exact Nat.le_refl _
  | cons k r ih =>
    have hk : fsize (fk k) ≤ 60 := by
      by_cases h6 : k < 6
      · have : ∀ q, q < 6 → fsize (fk q) ≤ 60 := by decide
        exact this k h6
      · have : fk k = ([], []) := by unfold fk; rw [List.getD_eq_getElem?_getD, List.getElem?_eq_none (by show 6 ≤ k; omega)]; rfl
        rw [this]; decide
    rw [List.map_cons]
    have : fsizes (fk k :: r.map fk) = fsize (fk k) + fsizes (r.map fk) := by simp [fsizes]
    rw [this, List.length_cons]
    omega
def pfA : Array Value := (fvs pf6).toArray
theorem zMsg : (Tryd.prog.info? 25).map (·.zero) = some (some (.agg #[.slice none 0 0, .slice none 0 0, .slice none 0 0])) := by kernel_rfl
theorem zCnt : (Tryd.prog.info? 46).map (·.zero) = some (some (.agg #[.int .i64 0, .int .i64 0, .int .i64 0, .int .i64 0, .int .i64 0, .int .i64 0])) := by kernel_rfl
theorem cnt_one (a b c d e f : Int) : ∀ u ∈ #[Value.int .i64 a, .int .i64 b, .int .i64 c, .int .i64 d, .int .i64 e, .int .i64 f].toList, u.oneCell' = true := fun u hu => by
  simp only [List.mem_cons, List.not_mem_nil, or_false] at hu
  rcases hu with rfl | rfl | rfl | rfl | rfl | rfl <;> rfl
set_option maxRecDepth 100000 in
set_option maxHeartbeats 4000000 in
theorem pseudo_walk (A : Option Addr) (n c : Nat) (od : Bytes) (bh : Bool) (at_ : Int) (W : World) (h : BIn W A n c od) (_hat : (Lit.int .u8 at_).wf = true) :
    Calls Tryd.prog 7 #[.slice A n c, .bool bh, .int .u8 at_] W fun e w' => e = .returned (.bool true) ∧ Below W.heap.size W w' := by
  clear _hat
  obtain ⟨rfl, hR⟩ : n = od.length ∧ Rd W A (bvs od) := ⟨h.len, h.rd⟩
  clear h
  have hk := known_any W
  have hfr : ∀ (w : World) t cs, Frm (New w) w (w.alloc (.cells cs t)) := fun w t cs => (Frm.refl _ w).alloc Up.new _
  have HK := Lib.hid hk
  have HFR := Lib.hid hfr
  have HR := Lib.hid hR
  clear hk hfr hR
  go_enter Tryd.func7, Tryd.ntmps7
  go_upto_region 3 with (go_at_call 11; refine HK.out.mono ?_; rintro e w1 ⟨rfl, hF1⟩)
  by_cases h8 : (8 : Int) < od.length
  · go_wp2_with (fail)
    go_ret
    exact ⟨rfl, hF1.below⟩
  have hod : od.length ≤ 8 := by omega
  have HF1 := Lib.hid hF1
  clear hF1
  clear HK
  go_upto_region 6 with (fail)
  have hb2 := Blk.new w1 34 pfA
  have hF12 := HFR.out w1 34 pfA
  have hpf : pfA = #[.string ⟨#[58, 109, 101, 116, 104, 111, 100]⟩, .string ⟨#[71, 69, 84]⟩, .string ⟨#[58, 115, 99, 104, 101, 109, 101]⟩, .string ⟨#[104, 116, 116, 112, 115]⟩, .string ⟨#[58, 97, 117, 116, 104, 111, 114, 105, 116, 121]⟩, .string ⟨#[120]⟩, .string ⟨#[58, 112, 97, 116, 104]⟩, .string ⟨#[47, 121]⟩, .string ⟨#[58, 115, 116, 97, 116, 117, 115]⟩, .string ⟨#[50, 48, 48]⟩, .string ⟨#[97]⟩, .string ⟨#[98]⟩] := rfl
  rw [hpf] at hb2 hF12
  obtain ⟨gA, hgA⟩ : ∃ gA, gA = w1.heap.size := ⟨_, rfl⟩
  rw [← hgA] at hb2 ⊢
  generalize w1.alloc (.cells #[.string ⟨#[58, 109, 101, 116, 104, 111, 100]⟩, .string ⟨#[71, 69, 84]⟩, .string ⟨#[58, 115, 99, 104, 101, 109, 101]⟩, .string ⟨#[104, 116, 116, 112, 115]⟩, .string ⟨#[58, 97, 117, 116, 104, 111, 114, 105, 116, 121]⟩, .string ⟨#[120]⟩, .string ⟨#[58, 112, 97, 116, 104]⟩, .string ⟨#[47, 121]⟩, .string ⟨#[58, 115, 116, 97, 116, 117, 115]⟩, .string ⟨#[50, 48, 48]⟩, .string ⟨#[97]⟩, .string ⟨#[98]⟩] 34) = w2 at *
  have hgAl := hb2.lt
  have hgA1 : w1.heap.size ≤ gA := by omega
  clear hgA hpf
  have HB2 := Lib.hid hb2
  clear hb2
  have HF12 := Lib.hid hF12
  clear hF12
  go_upto_region 9 with (first
    | (refine wpList_new rfl rfl zMsg rfl ?_; intro w3 hb3 hF3 hs3)
    | (refine wpList_new rfl rfl zCnt rfl ?_; intro w4 hb4 hF4 hs4)
    | (refine wpList_store_agg rfl rfl rfl rfl hb4 rfl (cnt_one _ _ _ _ _ _) (by kernel_rfl) ?_; intro w5 hb5 hF5 hs5))
  obtain ⟨gM, hgM⟩ : ∃ gM, gM = w2.heap.size := ⟨_, rfl⟩
  rw [← hgM] at hb3 hs3 ⊢
  obtain ⟨gC, hgC⟩ : ∃ gC, gC = gM + 1 := ⟨_, rfl⟩
  rw [hs3, ← hgC] at hb5 hb4 hF5
  rw [← hgC]
  have hl3 := hb3.lt
  have hgAM : gA < gM := by omega
  have hgMC : gM < gC := by omega
  have hF35 : Frm (New w3) w3 w5 := hF4.trans (hF5.mono (fun q hq => by subst hq; unfold New; omega))
  have hbM := hb3.fresh hF35
  have hF25 := hF3.then_new Up.new hF35
  have hbA := HB2.out.fresh hF25
  have hF05 := (HF1.out.then_new Up.new HF12.out).then_new Up.new hF25
  have hgCl := hb5.lt
  have hW1 := HF1.out.size
  have hgAW : W.heap.size ≤ gA := by omega
  have hlA := hbA.lt
  have HC5 := Lib.hid (show Blk w5 gC 46 (cntA []) from hb5)
  clear hgM hgC hb3 hb4 hb5 hF4 hF5 hs4 hs5 hF3 hs3 hF35 hF25 HB2 HF12 HF1 hl3
  have HBM := Lib.hid hbM
  have HBA := Lib.hid hbA
  have HF05 := Lib.hid hF05
  clear hbM hbA hF05
  obtain ⟨ks, hks⟩ : ∃ ks, ks = od.map kOf := ⟨_, rfl⟩
  have hkl : ks.length = od.length := by rw [hks, List.length_map]
  have hk6 : ∀ k ∈ ks, k < 6 := fun k hk => by
    rw [hks] at hk
    obtain ⟨b, _, rfl⟩ := List.mem_map.1 hk
    exact kOf_lt b
  have hkj : ∀ j (hj : j < od.length), ks[j]'(by omega) = kOf od[j] := fun j hj => by
    subst hks
    rw [List.getElem_map]
  have HKS := Lib.hid hks
  have HK6 := Lib.hid hk6
  have HKJ := Lib.hid hkj
  clear hks hk6 hkj
  go_upto_region 10 with (fail)
  go_loopw [10, 11, 12] (fun v10 v11 v12 wr => ∃ (j : Nat) (A2 : Option Addr) (c2 : Nat), j ≤ od.length ∧ v12 = .int .i64 j ∧ v10 = .bool (okV (ks.take j).reverse) ∧ v11 = .bool (decide (5 ∈ ks.take j)) ∧ Hid (Blk wr gM 25 #[.slice A2 (ks.take j).length c2, .slice none 0 0, .slice none 0 0]) ∧ Hid (App (New w5) wr 34 2 A2 (ks.take j).length c2 (fvs ((ks.take j).map fk))) ∧ Hid (Blk wr gC 46 (cntA (ks.take j))) ∧ Hid (Frm (fun q => (q = gM ∨ q = gC) ∨ New w5 q) w5 wr)) (fun _ _ v12 _ => od.length - (intOf v12).toNat)
  case atStart => exact ⟨0, none, 0, Nat.zero_le _, rfl, rfl, rfl, HBM.out, App.none_, HC5.out, Frm.refl _ _⟩
  case round =>
    obtain ⟨j, A2, c2, hj, rfl, rfl, rfl, hM, hAp, hC, hF⟩ := hrel
    have hNW : ∀ w', Frm (fun q => (q = gM ∨ q = gC) ∨ New w5 q) w5 w' → Frm (New W) W w' := fun w' f => HF05.out.trans (f.mono (fun q hq => by
      have := HF05.out.size
      rcases hq with (rfl | rfl) | hq
      · unfold New; omega
      · unfold New; omega
      · unfold New at hq ⊢; omega))
    have hbAr := HBA.out.keep hF.out (fun hq => by rcases hq with (hq | hq) | hq; exact absurd hq (by omega); exact absurd hq (by omega); unfold New at hq; omega)
    have HNW := Lib.hid hNW
    have HBAR := Lib.hid hbAr
    clear hNW hbAr
    by_cases hjl : j < od.length
    · have hRr := HR.out.fresh (HNW.out _ hF.out)
      obtain ⟨gO, oO, rfl, hco⟩ := hRr.at_ (k := j) (by simpa using hjl)
      have hgO := World.block_lt_of_cell? _ _ hco
      simp only [bvs, List.getElem_map, bv] at hco hgO
      have hkk := HKJ.out j hjl
      have htk : ks.take (j + 1) = ks.take j ++ [ks[j]'(by omega)] := List.take_succ_eq_append_getElem (by omega)
      rw [hkk] at htk
      generalize od[j] = b at *
      have hb255 := b.toNat_lt
      have hm6 : (b.toNat : Int) % 6 < 6 ∧ 0 ≤ (b.toNat : Int) % 6 := ⟨by omega, by omega⟩
      obtain ⟨k6, hk6e⟩ : ∃ k6 : Nat, (k6 : Int) = (b.toNat : Int) % 6 := ⟨b.toNat % 6, by omega⟩
      have hkOf : kOf b = if k6 = 4 ∧ b.toNat < 128 then 5 else k6 := by
        have e : b.toNat % 6 = k6 := by omega
        unfold kOf
        rw [e]
      go_upto_region 13 with (fail)
      rw [← hk6e]
      obtain ⟨q5, hq5⟩ : ∃ q5 : Bool, q5 = decide (k6 = 4 ∧ b.toNat < 128) := ⟨_, rfl⟩
      have HK6E := Lib.hid hk6e
      have HKOF := Lib.hid hkOf
      clear hk6e hkOf
      clear hm6
      go_cut [43, 44, 45, 46, 47, 48, 49, 50, 51] from 52 to 89 (fun _ _ _ _ _ _ _ _ v51 w' => v51 = .bool q5 ∧ w' = wr)
      case first =>
        by_cases h4 : k6 = 4
        · subst h4
          by_cases h128 : (b.toNat : Int) < 128
          · have hq : q5 = true := by rw [hq5]; exact decide_eq_true ⟨rfl, by omega⟩
            have HQ5 := Lib.hid hq5
            have HQ := Lib.hid hq
            clear hq5 hq
            go_wp2_with (fail)
            go_meet
            exact ⟨by rw [HQ.out], rfl⟩
          · have hq : q5 = false := by rw [hq5]; exact decide_eq_false (fun c => by have := c.2; omega)
            have HQ5 := Lib.hid hq5
            have HQ := Lib.hid hq
            clear hq5 hq
            go_wp2_with (fail)
            go_meet
            exact ⟨by rw [HQ.out], rfl⟩
        · have hq : q5 = false := by rw [hq5]; exact decide_eq_false (fun c => h4 c.1)
          have h4b : ((k6 : Int) == 4) = false := beq_eq_false_iff_ne.2 (by omega)
          have HQ5 := Lib.hid hq5
          have HQ := Lib.hid hq
          clear hq5 hq
          go_wp2_with (fail)
          go_meet
          exact ⟨by rw [HQ.out], rfl⟩
      case rest =>
        obtain ⟨rfl, rfl⟩ := hcut
        rename World => wr
        go_upto_if 51 with (fail)
        obtain ⟨kq, hkq⟩ : ∃ kq, kq = kOf b := ⟨_, rfl⟩
        have hkq2 : kq = if q5 = true then 5 else k6 := by
          rw [hkq, HKOF.out, hq5]
          by_cases hc : k6 = 4 ∧ b.toNat < 128
          · rw [if_pos hc, if_pos (decide_eq_true hc)]
          · rw [if_neg hc, decide_eq_false hc]; rfl
        rw [← hkq] at htk
        have hkq6 : kq < 6 := by rw [hkq]; exact kOf_lt b
        have HKQ := Lib.hid hkq
        have HKQ2 := Lib.hid hkq2
        have HQ5 := Lib.hid hq5
        clear hkq hkq2 hq5
        go_cut [13] from 52 to 89 (fun v13 w' => v13 = .int .i64 (kq : Nat) ∧ w' = wr)
        case first =>
          cases q5 with
          | true =>
            have e := HKQ2.out
            rw [if_pos rfl] at e
            have E := Lib.hid e
            clear e
            go_wp2_with (fail)
            go_meet
            exact ⟨by rw [E.out]; rfl, rfl⟩
          | false =>
            have e := HKQ2.out
            rw [if_neg Bool.false_ne_true] at e
            have E := Lib.hid e
            clear e
            go_wp2_with (fail)
            go_meet
            exact ⟨by rw [E.out], rfl⟩
        case rest =>
          obtain ⟨rfl, rfl⟩ := hcut
          rename World => wr
          clear HKQ2 HQ5 HKOF HK6E HKQ hco
          have hA0 : wr.cell? ⟨gA, kq * 2, none⟩ = some (str (fk kq).1) ∧ wr.cell? ⟨gA, kq * 2 + 1, none⟩ = some (str (fk kq).2) := by
            have h0 := HBAR.out.cell (kq * 2)
            have h1 := HBAR.out.cell (kq * 2 + 1)
            obtain rfl | rfl | rfl | rfl | rfl | rfl : kq = 0 ∨ kq = 1 ∨ kq = 2 ∨ kq = 3 ∨ kq = 4 ∨ kq = 5 := by omega
            all_goals exact ⟨h0, h1⟩
          have hlAr := HBAR.out.lt
          have hMc := hM.out.cell 0
          simp only [List.getElem?_toArray, List.getElem?_cons_zero] at hMc
          have hMf := hM.out.frozen 0
          have hMl := hM.out.lt
          obtain ⟨hA0a, hA0b⟩ := hA0
          simp only [str] at hA0a hA0b
          obtain ⟨fa, hfa⟩ : ∃ fa, fa = (fk kq).1 := ⟨_, rfl⟩
          obtain ⟨fb, hfb⟩ : ∃ fb, fb = (fk kq).2 := ⟨_, rfl⟩
          rw [← hfa] at hA0a
          rw [← hfb] at hA0b
          obtain ⟨nn, hnn⟩ : ∃ nn, nn = (ks.take j).length := ⟨_, rfl⟩
          rw [← hnn] at hMc
          have hApn := hAp.out
          rw [← hnn] at hApn
          have hnn8 : nn ≤ 8 := by rw [hnn, List.length_take]; omega
          have hkqi : (kq : Int) < 6 := by omega
          have HFA := Lib.hid hfa
          have HFB := Lib.hid hfb
          have HNN := Lib.hid hnn
          have HAPN := Lib.hid hApn
          clear hfa hfb hnn hApn
          have hSS : ∀ w', Frm (New w5) wr w' → w'.cell? ⟨gM, 0, none⟩ = some (.slice A2 nn c2) ∧ w'.cell? ⟨gA, kq * 2, none⟩ = some (.string ⟨fa.toArray⟩) ∧ w'.cell? ⟨gA, kq * 2 + 1, none⟩ = some (.string ⟨fb.toArray⟩) := fun w' h => ⟨by rw [h.cell (p := ⟨gM, 0, none⟩) (by show ¬ (w5.heap.size ≤ gM); omega)]; exact hMc, by rw [h.cell (p := ⟨gA, kq * 2, none⟩) (by show ¬ (w5.heap.size ≤ gA); omega)]; exact hA0a, by rw [h.cell (p := ⟨gA, kq * 2 + 1, none⟩) (by show ¬ (w5.heap.size ≤ gA); omega)]; exact hA0b⟩
          have hUp : Up (New w5) wr := Up.new.frm hF.out
          have hS0 := hSS wr.drew ((Frm.refl (New w5) wr).drew)
          go_upto_region 15 with (fail)
          refine wp_region_til (by kernel_rfl) (fun w' => w'.cell? ⟨gM, 0, none⟩ = some (.slice A2 nn c2) ∧ w'.cell? ⟨gA, kq * 2, none⟩ = some (.string ⟨fa.toArray⟩) ∧ w'.cell? ⟨gA, kq * 2 + 1, none⟩ = some (.string ⟨fb.toArray⟩)) 9 ?_
          refine wpAnyT_take (i := 0) (v := ?_) (d := some 52) rfl (by rfl) (by kernel_rfl) (fun _ _ _ h => h) (by rfl) hS0 (fun w hSw => ?_) ?_
          rotate_left
          · (try dsimp only at hSw); go_simp; first | done | (with_reducible rfl)
          simp only [Act.put, List.setIfInBounds_toArray, List.set_cons_zero, List.set_cons_succ]
          refine wpAnyT_take (i := 1) (v := ?_) (d := some 53) rfl (by rfl) (by kernel_rfl) (fun _ _ _ h => h) (by rfl) hS0 (fun w hSw => ?_) ?_
          rotate_left
          · (try dsimp only at hSw); go_simp; first | done | (with_reducible rfl)
          simp only [Act.put, List.setIfInBounds_toArray, List.set_cons_zero, List.set_cons_succ]
          refine wpAnyT_take (i := 2) (v := ?_) (d := some 54) rfl (by rfl) (by kernel_rfl) (fun _ _ _ h => h) (by rfl) hS0 (fun w hSw => ?_) ?_
          rotate_left
          · (try dsimp only at hSw); go_simp; first | done | (with_reducible rfl)
          simp only [Act.put, List.setIfInBounds_toArray, List.set_cons_zero, List.set_cons_succ]
          refine wpAnyT_take (i := 3) (v := ?_) (d := some 55) rfl (by rfl) (by kernel_rfl) (fun _ _ _ h => h) (by rfl) hS0 (fun w hSw => ?_) ?_
          rotate_left
          · (try dsimp only at hSw); go_simp; first | done | (with_reducible rfl)
          simp only [Act.put, List.setIfInBounds_toArray, List.set_cons_zero, List.set_cons_succ]
          refine wpAnyT_take (i := 4) (v := ?_) (d := some 56) rfl (by rfl) (by kernel_rfl) (fun _ _ _ h => h) (by rfl) hS0 (fun w hSw => ?_) ?_
          rotate_left
          · (try dsimp only at hSw); go_simp; first | done | (with_reducible rfl)
          simp only [Act.put, List.setIfInBounds_toArray, List.set_cons_zero, List.set_cons_succ]
          refine wpAnyT_take (i := 5) (v := ?_) (d := some 57) rfl (by rfl) (by kernel_rfl) (fun _ _ _ h => h) (by rfl) hS0 (fun w hSw => ?_) ?_
          rotate_left
          · (try dsimp only at hSw); go_simp; first | done | (with_reducible rfl)
          simp only [Act.put, List.setIfInBounds_toArray, List.set_cons_zero, List.set_cons_succ]
          have hF81 : Frm (New w5) wr (wr.alloc (.cells #[.string ⟨fa.toArray⟩, .string ⟨fb.toArray⟩] 34)).drew := ((Frm.refl (New w5) wr).alloc hUp _).drew
          refine wpAnyT_one (i := 6) rfl (by kernel_rfl) (fun K hK => ?_)
          go_simp
          refine hK.out _ _ (.inr ((hSS _ hF81))) ?_
          clear hK K
          have hlitR : Rd (wr.alloc (.cells #[.string ⟨fa.toArray⟩, .string ⟨fb.toArray⟩] 34)).drew (some ⟨wr.heap.size, 0, none⟩) [.string ⟨fa.toArray⟩, .string ⟨fb.toArray⟩] := (Rd.new wr #[.string ⟨fa.toArray⟩, .string ⟨fb.toArray⟩] 34).drew
          refine wpAnyT_one (i := 7) rfl (by kernel_rfl) (fun K hK => ?_)
          (refine step_append2 (M := New w5) (A := A2) (n := nn) (c := c2) (xs := fvs ((ks.take j).map fk)) (news := [.string ⟨fa.toArray⟩, .string ⟨fb.toArray⟩]) flds rfl rfl rfl ((HAPN.out.alloc _).drew) (Up.frm (M' := New w5) hUp hF81) rfl hlitR rfl (fld_one _ _) (by omega) ?_; intro A6 c6 w6 hA6 hF6 _ _)
          refine hK.out _ _ (.inr ((hSS _ (hF81.trans hF6)))) ?_
          clear hK K
          have hF86 := hF81.trans hF6
          have hS6 := hSS _ hF86
          have hd6 := hS6.1
          have hz6 : w6.frozen? ⟨gM, 0, none⟩ = false := by rw [hF86.frozen (p := ⟨gM, 0, none⟩) (by show ¬ (w5.heap.size ≤ gM); omega)]; exact hMf
          have hM6 : gM < w6.heap.size := by have := hF86.size; omega
          have HA6 := Lib.hid hA6
          have HF86 := Lib.hid hF86
          clear hA6 hF6 hF86 hF81 hSS hS0 hlitR hA0a hA0b hMc hMf
          refine wpAnyT_one (i := 8) rfl (by kernel_rfl) (fun K hK => ?_)
          go_simp
          refine hK.out _ _ (.inr (hS6)) ?_
          clear hK K
          refine wpAnyT_one (i := 9) rfl (by kernel_rfl) (fun K hK => ?_)
          go_simp
          refine hK.out _ _ (.inl (by kernel_rfl)) ?_
          clear hK K
          refine wpAnyT_done (by kernel_rfl) ?_ _
          clear hd6 hz6 hS6 hM6
          have hset : Frm (fun q => q = gM) w6 (w6.setCell ⟨gM, 0, none⟩ (.slice A6 (nn + 1) c6)) := Frm.setCell (M := fun q => q = gM) (Frm.refl _ w6) (p := ⟨gM, 0, none⟩) rfl _
          have hM6 := hM.out.keep HF86.out (by show ¬ (w5.heap.size ≤ gM); omega)
          have hM7 := hM6.set_ 0 (.slice A6 (nn + 1) c6)
          simp only [List.setIfInBounds_toArray, List.set_cons_zero] at hM7
          have hC7 := (hC.out.keep HF86.out (by show ¬ (w5.heap.size ≤ gC); omega)).far (p := ⟨gM, 0, none⟩) (by simp only; omega) (.slice A6 (nn + 1) c6)
          have hA7 := HA6.out.keep hset (fun q hq e => by have := HA6.out.inM q hq; unfold New at this; omega)
          have hF57 : Frm (fun q => (q = gM ∨ q = gC) ∨ New w5 q) w5 (w6.setCell ⟨gM, 0, none⟩ (.slice A6 (nn + 1) c6)) := (hF.out.trans (HF86.out.mono (fun q hq => .inr hq))).trans (hset.mono (fun q hq => .inl (.inl hq)))
          generalize w6.setCell ⟨gM, 0, none⟩ (.slice A6 (nn + 1) c6) = w7 at *
          clear hM6 hset HA6 HF86 hUp hlAr hMl
          have hcc := hC7.cell kq
          rw [cntA_get _ _ hkq6] at hcc
          have hcf := hC7.frozen kq
          have hcl := hC7.lt
          have hcnt : (ks.take j).count kq ≤ 8 := Nat.le_trans List.count_le_length (by rw [List.length_take]; omega)
          have hcm : (ks.take j).count kq = 0 ↔ kq ∉ ks.take j := List.count_eq_zero
          obtain ⟨cn, hcn⟩ : ∃ cn, cn = (ks.take j).count kq := ⟨_, rfl⟩
          rw [← hcn] at hcc hcnt hcm
          obtain ⟨ob, hob⟩ : ∃ ob, ob = okV (ks.take j).reverse := ⟨_, rfl⟩
          obtain ⟨ot, hot⟩ : ∃ ot, ot = decide (5 ∈ ks.take j) := ⟨_, rfl⟩
          rw [← hob, ← hot]
          have hkqi0 : (0 : Int) ≤ (kq : Int) := by omega
          have HM7 := Lib.hid hM7
          have HC7 := Lib.hid hC7
          have HA7 := Lib.hid hA7
          have HF57 := Lib.hid hF57
          have HCN := Lib.hid hcn
          have HOB := Lib.hid hob
          have HOT := Lib.hid hot
          have HCM := Lib.hid hcm
          clear hM7 hC7 hA7 hF57 hcn hob hot hcm
          go_upto_region 17 with (fail)
          have hset : Frm (fun q => q = gC) w7 (w7.setCell ⟨gC, kq, none⟩ (.int .i64 ((cn : Int) + 1))) := Frm.setCell (M := fun q => q = gC) (Frm.refl _ w7) (p := ⟨gC, kq, none⟩) rfl _
          have hC8 := HC7.out.set_ kq (.int .i64 ((cn : Int) + 1))
          have hcs := cntA_set (ks.take j) kq hkq6
          rw [← HCN.out] at hcs
          rw [hcs] at hC8
          have hM8 := HM7.out.far (p := ⟨gC, kq, none⟩) (by simp only; omega) (.int .i64 ((cn : Int) + 1))
          have hA8 := HA7.out.keep hset (fun q hq e => by have := HA7.out.inM q hq; unfold New at this; omega)
          have hF58 := HF57.out.trans (hset.mono (fun q hq => .inl (.inr hq)))
          generalize w7.setCell ⟨gC, kq, none⟩ (.int .i64 ((cn : Int) + 1)) = w8 at *
          have hcc8 := hC8.cell kq
          rw [← hcs, Array.getElem?_setIfInBounds, if_pos rfl, if_pos (by rw [cntA_size]; exact hkq6)] at hcc8
          have hcl8 := hC8.lt
          clear hset hcs HC7 HM7 HA7 HF57 hcc hcf hcl
          have HC8 := Lib.hid hC8
          have HM8 := Lib.hid hM8
          have HA8 := Lib.hid hA8
          have HF58 := Lib.hid hF58
          clear hC8 hM8 hA8 hF58
          obtain ⟨nb, hnb⟩ : ∃ nb, nb = (ob && (decide (kq = 5) || (!ot && (decide (cn = 0) && decide (kq ≠ 4))))) := ⟨_, rfl⟩
          have HNB := Lib.hid hnb
          clear hnb
          go_cut [10] from 66 to 89 (fun v10 w' => v10 = .bool nb ∧ w' = w8)
          case first =>
            cases ob with
            | false =>
              have e : nb = false := by rw [HNB.out]; rfl
              have E := Lib.hid e
              clear e
              go_wp2_with (fail)
              go_meet
              exact ⟨by rw [E.out], rfl⟩
            | true =>
            by_cases h5 : kq = 5
            · have e : nb = true := by rw [HNB.out, decide_eq_true h5]; rfl
              have h5i : ((kq : Int) == 5) = true := beq_iff_eq.2 (by omega)
              have E := Lib.hid e
              have H5 := Lib.hid h5
              clear e h5
              go_wp2_with (fail)
              go_meet
              exact ⟨by rw [E.out], rfl⟩
            have h5i : ((kq : Int) == 5) = false := beq_eq_false_iff_ne.2 (by omega)
            cases ot with
            | true =>
              have e : nb = false := by rw [HNB.out, decide_eq_false h5]; rfl
              have E := Lib.hid e
              have H5 := Lib.hid h5
              clear e h5
              go_wp2_with (fail)
              go_meet
              exact ⟨by rw [E.out], rfl⟩
            | false =>
            by_cases h0 : cn = 0
            · have h0i : ((cn : Int) + 1 == 1) = true := beq_iff_eq.2 (by omega)
              by_cases h4 : kq = 4
              · have e : nb = false := by rw [HNB.out, decide_eq_false h5, decide_eq_false (show ¬ kq ≠ 4 from fun c => c h4)]; simp
                have h4i : ((kq : Int) == 4) = true := beq_iff_eq.2 (by omega)
                have h4j : ((kq : Int) != 4) = false := by simp [bne, h4i]
                have E := Lib.hid e
                have H5 := Lib.hid h5
                have H0 := Lib.hid h0
                have H4 := Lib.hid h4
                clear e h5 h0 h4
                go_wp2_with (fail)
                go_meet
                exact ⟨by rw [E.out], rfl⟩
              · have e : nb = true := by rw [HNB.out, decide_eq_true h0, decide_eq_true (show kq ≠ 4 from h4)]; simp
                have h4i : ((kq : Int) == 4) = false := beq_eq_false_iff_ne.2 (by omega)
                have h4j : ((kq : Int) != 4) = true := by simp [bne, h4i]
                have E := Lib.hid e
                have H5 := Lib.hid h5
                have H0 := Lib.hid h0
                have H4 := Lib.hid h4
                clear e h5 h0 h4
                go_wp2_with (fail)
                go_meet
                exact ⟨by rw [E.out], rfl⟩
            · have e : nb = false := by rw [HNB.out, decide_eq_false h5, decide_eq_false h0]; simp
              have h0i : ((cn : Int) + 1 == 1) = false := beq_eq_false_iff_ne.2 (by omega)
              have E := Lib.hid e
              have H5 := Lib.hid h5
              have H0 := Lib.hid h0
              clear e h5 h0
              go_wp2_with (fail)
              go_meet
              exact ⟨by rw [E.out], rfl⟩
          case rest =>
            obtain ⟨rfl, rfl⟩ := hcut
            rename World => w8
            go_upto_region 18 with (fail)
            have hl1 : nn + 1 = (ks.take (j + 1)).length := by rw [htk, List.length_append, ← HNN.out]; rfl
            have hfv : fvs ((ks.take j).map fk) ++ [.string ⟨fa.toArray⟩, .string ⟨fb.toArray⟩] = fvs ((ks.take (j + 1)).map fk) := by
              rw [htk, List.map_append, fvs_append, HFA.out, HFB.out]; rfl
            have ho1 : nb = okV (ks.take (j + 1)).reverse := by
              rw [htk, List.reverse_append]
              have e : okV (kq :: (ks.take j).reverse) = (okV (ks.take j).reverse && (decide (kq = 5) || (decide (5 ∉ (ks.take j).reverse) && (decide (kq ∉ (ks.take j).reverse) && decide (kq ≠ 4))))) := rfl
              show nb = okV (kq :: (ks.take j).reverse)
              rw [e, HNB.out, HOB.out, HOT.out]
              simp only [List.mem_reverse]
              have e0 : decide (cn = 0) = decide (kq ∉ ks.take j) := decide_eq_decide.2 HCM.out
              rw [e0]
              simp
            have ho2 : (ot || decide (kq = 5)) = decide (5 ∈ ks.take (j + 1)) := by
              rw [htk, HOT.out]
              by_cases h2 : kq = 5
              · subst h2; simp
              · have h3 : ¬ 5 = kq := fun hh => h2 hh.symm
                simp [h2, h3]
            have htkc : ks.take j ++ [kq] = ks.take (j + 1) := htk.symm
            have hC9 := HC8.out
            rw [htkc] at hC9
            have hM9 := HM8.out
            have hA9 := HA8.out
            rw [hfv] at hA9
            rw [hl1] at hM9 hA9
            have hF9 := HF58.out
            clear htkc hl1 hfv htk
            have HC9 := Lib.hid hC9
            have HM9 := Lib.hid hM9
            have HA9 := Lib.hid hA9
            have HF9 := Lib.hid hF9
            have HO1 := Lib.hid ho1
            have HO2 := Lib.hid ho2
            clear hC9 hM9 hA9 hF9 ho1 ho2
            clear HC8 HM8 HA8 HF58 HNB HOB HOT HCM HCN hcc8
            by_cases h5 : kq = 5
            · have h5i : ((kq : Int) == 5) = true := beq_iff_eq.2 (by omega)
              have e : (ot || decide (kq = 5)) = true := by rw [decide_eq_true h5]; simp
              have H5 := Lib.hid h5
              clear h5
              cases ot with
              | true =>
                have E := Lib.hid e
                clear e
                go_wp2_with (fail)
                go_roundw
                case rel => exact ⟨j + 1, A6, c6, by omega, by go_num, by rw [HO1.out], by rw [← HO2.out]; exact (congrArg Value.bool E.out).symm, HM9.out, HA9.out, HC9.out, HF9.out⟩
                case measure => simp [intOf]; omega
              | false =>
                have E := Lib.hid e
                clear e
                go_wp2_with (fail)
                go_roundw
                case rel => exact ⟨j + 1, A6, c6, by omega, by go_num, by rw [HO1.out], by rw [← HO2.out]; exact (congrArg Value.bool E.out).symm, HM9.out, HA9.out, HC9.out, HF9.out⟩
                case measure => simp [intOf]; omega
            · have h5i : ((kq : Int) == 5) = false := beq_eq_false_iff_ne.2 (by omega)
              have e : (ot || decide (kq = 5)) = ot := by rw [decide_eq_false h5]; simp
              have H5 := Lib.hid h5
              clear h5
              cases ot with
              | true =>
                have E := Lib.hid e
                clear e
                go_wp2_with (fail)
                go_roundw
                case rel => exact ⟨j + 1, A6, c6, by omega, by go_num, by rw [HO1.out], by rw [← HO2.out]; exact (congrArg Value.bool E.out).symm, HM9.out, HA9.out, HC9.out, HF9.out⟩
                case measure => simp [intOf]; omega
              | false =>
                have E := Lib.hid e
                clear e
                go_wp2_with (fail)
                go_roundw
                case rel => exact ⟨j + 1, A6, c6, by omega, by go_num, by rw [HO1.out], by rw [← HO2.out]; exact (congrArg Value.bool E.out).symm, HM9.out, HA9.out, HC9.out, HF9.out⟩
                case measure => simp [intOf]; omega
    · have hjn : j = od.length := by omega
      have htk : ks.take j = ks := List.take_of_length_le (by omega)
      rw [htk] at hM hAp hC
      rw [htk]
      have hF0r := HNW.out _ hF.out
      clear htk HBA HNW HBAR HR
      have hl8 : ks.length ≤ 8 := by omega
      have hlaw := pseudo_law HK6.out hl8 (mvF none 0 (ks.map fk)) rfl rfl rfl
      obtain ⟨op, hop⟩ : ∃ op, op = okP ks := ⟨_, rfl⟩
      rw [← hop] at hlaw
      have hop2 : op = (okV ks.reverse && (decide (ks.count 0 = 1) && (decide (ks.count 1 = 1) && decide (ks.count 3 = 1)))) := by
        rw [hop]
        unfold okP
        cases ho : okV ks.reverse with
        | false => rfl
        | true =>
          rw [okV_count ho 0 (by omega), okV_count ho 1 (by omega), okV_count ho 3 (by omega)]
      have hc0 := hC.out.cell 0
      have hc1 := hC.out.cell 1
      have hc3 := hC.out.cell 3
      rw [cntA_get _ _ (by omega)] at hc0 hc1 hc3
      obtain ⟨ob, hob⟩ : ∃ ob, ob = okV ks.reverse := ⟨_, rfl⟩
      obtain ⟨o5, ho5⟩ : ∃ o5, o5 = decide (5 ∈ ks) := ⟨_, rfl⟩
      rw [← hob] at hop2 ⊢
      rw [← ho5]
      generalize ks.count 0 = n0 at *
      generalize ks.count 1 = n1 at *
      generalize ks.count 3 = n3 at *
      have hCl := hC.out.lt
      have HLAW := Lib.hid hlaw
      have HOP := Lib.hid hop
      have HOP2 := Lib.hid hop2
      have HOB := Lib.hid hob
      have HO5 := Lib.hid ho5
      have HF0R := Lib.hid hF0r
      clear hlaw hop hop2 hob ho5 hF0r
      clear HKS HKJ
      go_upto_region 19 with (fail)
      go_cut [10] from 90 (fun v10 w' => v10 = .bool op ∧ w' = wr)
      case first =>
        cases ob with
        | false =>
          have e : op = false := by rw [HOP2.out]; rfl
          have E := Lib.hid e
          clear e
          go_wp2_with (fail)
          go_meet
          exact ⟨by rw [E.out], rfl⟩
        | true =>
        by_cases h0 : n0 = 1
        · have h0i : ((n0 : Int) == 1) = true := beq_iff_eq.2 (by omega)
          by_cases h1 : n1 = 1
          · have h1i : ((n1 : Int) == 1) = true := beq_iff_eq.2 (by omega)
            by_cases h3 : n3 = 1
            · have h3i : ((n3 : Int) == 1) = true := beq_iff_eq.2 (by omega)
              have e : op = true := by rw [HOP2.out, decide_eq_true h0, decide_eq_true h1, decide_eq_true h3]; rfl
              have E := Lib.hid e
              have H0 := Lib.hid h0
              have H1 := Lib.hid h1
              have H3 := Lib.hid h3
              clear e h0 h1 h3
              go_wp2_with (fail)
              go_meet
              exact ⟨by rw [E.out], rfl⟩
            · have h3i : ((n3 : Int) == 1) = false := beq_eq_false_iff_ne.2 (by omega)
              have e : op = false := by rw [HOP2.out, decide_eq_false h3]; simp
              have E := Lib.hid e
              have H0 := Lib.hid h0
              have H1 := Lib.hid h1
              have H3 := Lib.hid h3
              clear e h0 h1 h3
              go_wp2_with (fail)
              go_meet
              exact ⟨by rw [E.out], rfl⟩
          · have h1i : ((n1 : Int) == 1) = false := beq_eq_false_iff_ne.2 (by omega)
            have e : op = false := by rw [HOP2.out, decide_eq_false h1]; simp
            have E := Lib.hid e
            have H0 := Lib.hid h0
            have H1 := Lib.hid h1
            clear e h0 h1
            go_wp2_with (fail)
            go_meet
            exact ⟨by rw [E.out], rfl⟩
        · have h0i : ((n0 : Int) == 1) = false := beq_eq_false_iff_ne.2 (by omega)
          have e : op = false := by rw [HOP2.out, decide_eq_false h0]; simp
          have E := Lib.hid e
          have H0 := Lib.hid h0
          clear e h0
          go_wp2_with (fail)
          go_meet
          exact ⟨by rw [E.out], rfl⟩
      case rest =>
        obtain ⟨rfl, rfl⟩ := hcut
        rename World => wr
        have hsz : fsizes (ks.map fk) ≤ 5240 := by have := fk_sizes ks; omega
        have hlm : (ks.map fk).length ≤ 70 := by rw [List.length_map]; omega
        have hln : (ks.map fk).length = ks.length := List.length_map _
        have hRq : ∀ w', Rd w' A2 (fvs (ks.map fk)) → Calls Tryd.prog 13 #[.agg #[.slice A2 ks.length c2, .slice none 0 0, .slice none 0 0]] w' fun e w2 => ∃ r : RV, e = .returned (.tuple #[.agg r.cells, .int .i64 (rcls (mvF none 0 (ks.map fk)) : Nat)]) ∧ RIn w2 r ∧ r.q = rq (mvF none 0 (ks.map fk)) ∧ Frm (New w') w' w2 := fun w' h => by
          have := kreq (ks.map fk) A2 c2 w' h hsz hlm
          rw [hln] at this
          exact this
        have hOf : ∀ w', Rd w' A2 (fvs (ks.map fk)) → Calls Tryd.prog 14 #[.agg #[.slice A2 ks.length c2, .slice none 0 0, .slice none 0 0]] w' fun e w2 => ∃ r : RV, e = .returned (.tuple #[.agg r.cells, .int .i64 (rcls (mvF none 0 (ks.map fk)) : Nat)]) ∧ RIn w2 r ∧ r.q = rq (mvF none 0 (ks.map fk)) ∧ Frm (New w') w' w2 := fun w' h => by
          have := rof_any (mvF A2 c2 (ks.map fk)) w' (mvF_in h) ⟨by show fsizes (ks.map fk) ≤ _; omega, by show (ks.map fk).length ≤ _; omega, Nat.zero_le _, Nat.zero_le _, Nat.zero_le _⟩
          unfold RqR at this
          rw [rcls_mvF, rq_mvF] at this
          have e : (mvF A2 c2 (ks.map fk)).cells = #[.slice A2 ks.length c2, .slice none 0 0, .slice none 0 0] := by unfold MV.cells mvF; rw [hln]; rfl
          rw [e] at this
          exact this
        have hRd := hAp.out.rd
        have hlaw := HLAW.out
        generalize rcls (mvF none 0 (ks.map fk)) = rc at *
        generalize rq (mvF none 0 (ks.map fk)) = rqm at *
        have hq1 := hRq wr hRd
        clear hkl hjn hl8
        generalize ks.length = nn at *
        clear hRq HLAW HOP HOP2 HOB HO5 hc0 hc1 hc3 hC HK6
        have HQ1 := Lib.hid hq1
        have HOF := Lib.hid hOf
        have HLAW := Lib.hid hlaw
        have HRD := Lib.hid hRd
        clear hq1 hOf hlaw hRd
        clear hsz hlm hln
        go_upto_region 21 with (first
          | (refine wpList_load_agg agM rfl rfl rfl hM.out rfl ?_)
          | (go_at_call 13; refine HQ1.out.mono ?_; intro e w4 hR; obtain ⟨⟨p1, p2, p3, p4, a1, c1, f, a2, c5, b, a3, c3, t⟩, rfl, hin, hq, hF4⟩ := hR; simp only [RV.cells])
          | (refine wpList_new rfl rfl zReq rfl ?_; intro w5 hb5 hF5 hs5)
          | (refine wpList_store_agg rfl rfl rfl rfl hb5 rfl (req_one _ _ _ _ _ _ _ _ _ _ _ _ _) (by kernel_rfl) ?_; intro w6 hb6 hF6 hs6))
        obtain ⟨g3, hg3⟩ : ∃ g3, g3 = w4.heap.size := ⟨_, rfl⟩
        rw [← hg3] at hb6 hb5 hF6 ⊢
        have hF46 : Frm (New w4) w4 w6 := hF5.trans (hF6.mono (fun k hk => by subst hk; unfold New; omega))
        have hF26 : Frm (New wr) wr w6 := hF4.then_new Up.new hF46
        have hM6 := hM.out.fresh hF26
        have hof := HOF.out w6 (HRD.out.fresh hF26)
        have hF06 := HF0R.out.then_new Up.new hF26
        clear hg3 hb5 hF5 hs5 hF6 hs6 hF46 hF4 hin hM HQ1 HOF HRD HF0R hF26
        have HG6 := Lib.hid hb6
        clear hb6
        have HM6 := Lib.hid hM6
        have HOF := Lib.hid hof
        have HF06 := Lib.hid hF06
        have HQA := Lib.hid hq
        clear hM6 hof hF06 hq
        go_upto_region 22 with (first
          | (refine wpList_load_agg agM rfl rfl rfl HM6.out rfl ?_)
          | (go_at_call 14; refine HOF.out.mono ?_; intro e w7 hR; obtain ⟨⟨q1, q2, q3, q4, a4, c4, f', a5, c6, b', a6, c7, t'⟩, rfl, hin, hq, hF7⟩ := hR; simp only [RV.cells])
          | (refine wpList_new rfl rfl zReq rfl ?_; intro w8 hb8 hF8 hs8)
          | (refine wpList_store_agg rfl rfl rfl rfl hb8 rfl (req_one _ _ _ _ _ _ _ _ _ _ _ _ _) (by kernel_rfl) ?_; intro w9 hb9 hF9 hs9))
        obtain ⟨g5, hg5⟩ : ∃ g5, g5 = w7.heap.size := ⟨_, rfl⟩
        rw [← hg5] at hb9 hb8 hF9 ⊢
        have hF79 : Frm (New w7) w7 w9 := hF8.trans (hF9.mono (fun k hk => by subst hk; unfold New; omega))
        have hF69 : Frm (New w6) w6 w9 := hF7.then_new Up.new hF79
        have hg39 := HG6.out.fresh hF69
        have hF09 := HF06.out.then_new Up.new hF69
        have heq := hq.trans HQA.out.symm
        simp only [RV.q, RQ.mk.injEq] at heq
        obtain ⟨rfl, rfl, rfl, rfl, rfl, rfl, rfl⟩ := heq
        have hl3 := hg39.lt
        have hl5 := hb9.lt
        clear hg5 hb8 hF8 hs8 hF9 hs9 hF79 hF69 hF7 hin hq HQA HOF HM6 HG6 HF06
        have hy3 := hg39.cell 3
        have hy4 := hg39.cell 4
        simp only [List.getElem?_toArray, List.getElem?_cons_zero, List.getElem?_cons_succ] at hy3 hy4
        have hz3 := hb9.cell 3
        have hz4 := hb9.cell 4
        simp only [List.getElem?_toArray, List.getElem?_cons_zero, List.getElem?_cons_succ] at hz3 hz4
        have HG39 := Lib.hid hg39
        have HB9 := Lib.hid hb9
        have HF09 := Lib.hid hF09
        clear hg39 hb9 hF09
        cases op with
        | true =>
          have e : rc = 0 := by rw [HLAW.out]; rfl
          subst e
          clear HLAW
          go_wp2_with (fail)
          go_ret
          exact ⟨rfl, HF09.out.below⟩
        | false =>
          have e : rc = 1 := by rw [HLAW.out]; rfl
          subst e
          clear HLAW
          go_wp2_with (fail)
          go_ret
          exact ⟨rfl, HF09.out.below⟩
end Go.Proofs.YtpojejdddgdjdaaDoor.M
