/- bifoldlaw6.str, bytes: what they append. Lengths below 2^40. -/
import Derived.Deep.CutBlock
import Derived.Test.YtcebckkpablagaaHpl
import Derived.Test.YtcebckkpablagaaStr
import Derived.Test.YtcebckkpablagaaArr
namespace Go.Proofs.Ytcebckkpablagaa.M
open Go.ChangeShapes Go.WideShapes Go.ChangeAt Go.RowKit

theorem lstr_any (M : Nat → Prop) (l : List UInt8) (A : Option Addr) (c : Nat) (s : ByteArray) (coded : Bool) (w : World) (hu : Up M w) (hA : App M w 5 1 A l.length c (bvs l)) (hl : l.length ≤ 1099511627000) (hs : s.size ≤ 1099511627776) :
    Calls Try.prog 42 #[.slice A l.length c, .string s, .bool coded] w (RetA M w (l ++ strS coded s.data.toList)) := by
  cases coded with
  | true =>
    have hp : Calls Try.prog 17 #[.slice A l.length c, .int .u8 0, .int .i64 7, .string s] w (RetA M w (l ++ strS true s.data.toList)) := putstr_any M l A c 0 7 s w hu hA hl hs (by omega) (by omega) (by omega)
    have HP := Lib.hid hp
    have HA := Lib.hid hA
    clear hp hA
    go_enter Try.func42, Try.ntmps42
    go_wp2_with (fail)
    refine HP.out.mono ?_
    rintro e w2 ⟨A2, c2, rfl, hA2, hF2⟩
    go_wp2
    go_ret
    exact ⟨A2, c2, by simp, hA2, hF2⟩
  | false =>
    have HS2 : Hid (l ++ strS false s.data.toList = (l ++ pfx 0 7 s.size) ++ s.data.toList) := by
      show _ = _
      unfold strS
      rw [if_neg (by decide), size_len, List.append_assoc]
    have hpl0 := pfx_length 0 7 s.size
    have hp : Calls Try.prog 39 #[.slice A l.length c, .int .u8 0, .int .i64 7, .int .u64 (s.size : Int)] w (RetA M w (l ++ pfx 0 7 s.size)) := rprefix_nat M l A c 0 7 s.size w hu hA (by omega) (by omega) (by omega) (by omega) (by omega)
    have HP := Lib.hid hp
    have HA := Lib.hid hA
    clear hp hA
    go_enter Try.func42, Try.ntmps42
    go_wp2_with (fail)
    refine HP.out.mono ?_
    rintro e w2 ⟨A2, c2, rfl, hA2, hF2⟩
    have hln : (l ++ pfx 0 7 s.size).length ≤ 1099511627020 := by rw [List.length_append]; omega
    generalize l ++ pfx 0 7 s.size = l2 at *
    go_wp2_with (at_builtin; refine wpList_append_string u8s rfl strs_under rfl rfl hA2 (hu.of hF2.size) rfl (by omega) ?_; intro A3 c3 w3 hA3 hF3 _ _; clear hA2)
    go_ret
    rw [HS2.out]
    refine ⟨A3, c3, ?_, ?_, hF2.trans hF3⟩
    · show Ending.returned (.slice A3 (l2.length + s.size) c3) = _
      rw [List.length_append, size_len]
    · rw [List.length_append, size_len, bvs_append]; exact hA3

theorem App.less {M : Nat → Prop} {w : World} {e size n c b : Nat} {A : Option Addr} {xs : List Value} (h : App M w e size A n c xs) (hb : ∀ k, blk A = some k → k ≠ b) : App (fun k => M k ∧ k ≠ b) w e size A n c xs :=
  { h with
    inM := fun k hk => ⟨h.inM k hk, hb k hk⟩
    own := fun hn => by
      obtain ⟨g, off, cur, a, b, d, f⟩ := h.own hn
      exact ⟨g, off, cur, a, b, d, f, hb g (by rw [a]; rfl)⟩ }
/-- a part of a block: kind, index, name, value, whether coded -/
structure Pt where
  k : Nat
  i : Nat
  n : Bytes
  v : Bytes
  h : Bool
structure Pt.Ok (x : Pt) : Prop where
  k : x.k ≤ 255
  i : x.i ≤ 18446744073709551615
def Pt.cells (x : Pt) : List Value := [.int .u8 x.k, .int .u64 x.i, str x.n, str x.v, .bool x.h]
def fK (q : Nat) : Nat := if q = 4 then 0 else if q = 5 then 16 else 64
def kK (q : Nat) : Nat := if q = 4 then 4 else if q = 5 then 4 else 6
def ptB (x : Pt) : Bytes := if x.k % 8 < 2 then pfx 128 7 x.i else if x.k % 8 = 7 then pfx 32 5 x.i else litB (fK (x.k % 8)) (kK (x.k % 8)) x.i x.n x.v x.h
theorem ptB_length (x : Pt) : (ptB x).length ≤ 4 * (x.n.length + x.v.length) + 60 := by
  have h1 := pfx_length 128 7 x.i
  have h2 := pfx_length 32 5 x.i
  have h3 := litB_length (fK (x.k % 8)) (kK (x.k % 8)) x.i x.n x.v x.h
  unfold ptB
  split
  · omega
  · split <;> omega

set_option maxRecDepth 100000 in
set_option maxHeartbeats 4000000 in
theorem bytes_any (M : Nat → Prop) (l : List UInt8) (A : Option Addr) (c : Nat) (x : Pt) (w : World) (hx : x.Ok) (hu : Up M w) (hA : App M w 5 1 A l.length c (bvs l)) (hlow : ∀ k, blk A = some k → k < w.heap.size) (hl : l.length ≤ 1099511600000) (hs : x.n.length ≤ 1000 ∧ x.v.length ≤ 1000) :
    Calls Try.prog 41 #[.slice A l.length c, .agg x.cells.toArray] w (RetA M w (l ++ ptB x)) := by
  obtain ⟨k, i, n, v, h⟩ := x
  obtain ⟨hk, hi⟩ := hx
  simp only at hk hi hs
  obtain ⟨hn, hv⟩ := hs
  simp only [Pt.cells, str]
  have hF1 : Frm (New w) w (w.alloc (Obj.cells #[.int .u8 k, .int .u64 i, .string ⟨n.toArray⟩, .string ⟨v.toArray⟩, .bool h] 83)) := (Frm.refl _ _).alloc Up.new _
  have hB1 := Blk.new w 83 #[.int .u8 k, .int .u64 i, .string ⟨n.toArray⟩, .string ⟨v.toArray⟩, .bool h]
  have hA1 := hA.fresh hF1
  have hu1 := hu.of hF1.size
  have hFM := hF1.up hu
  have hsn : (⟨n.toArray⟩ : ByteArray).size = n.length := by simp [ByteArray.size]
  have hsv : (⟨v.toArray⟩ : ByteArray).size = v.length := by simp [ByteArray.size]
  obtain ⟨q, hq⟩ : ∃ q, q = k % 8 := ⟨_, rfl⟩
  have hmod : (k : Int) % 8 = (q : Int) := by omega
  have hmod2 : Int.tmod (k : Int) 8 = (q : Int) := by rw [Int.tmod_eq_emod_of_nonneg (by omega)]; omega
  have hq8 : q < 8 := by omega
  have HPT : Hid (ptB ⟨k, i, n, v, h⟩ = if q < 2 then pfx 128 7 i else if q = 7 then pfx 32 5 i else litB (fK q) (kK q) i n v h) := by
    show _ = _
    rw [hq]; rfl
  have hA1 := hA1.less (fun k hk e => by have := hlow k hk; rw [e] at this; exact absurd this (Nat.lt_irrefl _)) (b := w.heap.size)
  clear hq hA hF1
  have HB1 := Lib.hid hB1
  have HA1 := Lib.hid hA1
  have HU1 := Lib.hid hu1
  have HU := Lib.hid hu
  have HFM := Lib.hid hFM
  clear hB1 hA1 hu1 hu hFM
  go_enter Try.func41, Try.ntmps41
  go_upto_region 1 with (fail)
  generalize w.alloc (Obj.cells #[.int .u8 k, .int .u64 i, .string ⟨n.toArray⟩, .string ⟨v.toArray⟩, .bool h] 83) = w1 at *
  generalize hb : w.heap.size = b at *
  have HB := Lib.hid hb
  clear hb
  have hc1 := HB1.out
  have hx0 := hc1.cell 0
  have hx1 := hc1.cell 1
  have hx2 := hc1.cell 2
  have hx3 := hc1.cell 3
  have hx4 := hc1.cell 4
  simp only [List.getElem?_toArray, List.getElem?_cons_zero, List.getElem?_cons_succ] at hx0 hx1 hx2 hx3 hx4
  have hlt1 := hc1.lt
  have HC1 := Lib.hid hc1
  clear hc1
  by_cases q2 : q < 2
  · have hE : Hid (ptB ⟨k, i, n, v, h⟩ = pfx 128 7 i) := by show _ = _; rw [HPT.out, if_pos q2]
    have hp : Calls Try.prog 39 #[.slice A l.length c, .int .u8 128, .int .i64 7, .int .u64 (i : Int)] w1 (RetA M w1 (l ++ pfx 128 7 i)) := rprefix_nat M l A c 128 7 i w1 HU1.out (HA1.out.mono (fun _ h => h.1)) (by omega) (by omega) (by omega) (by omega) hi
    have HP := Lib.hid hp
    clear hp
    clear HPT
    go_wp2_with (fail)
    refine HP.out.mono ?_
    rintro e w2 ⟨A2, c2, rfl, hA2, hF2⟩
    go_wp2
    go_ret
    rw [hE.out]
    exact ⟨A2, c2, by simp, hA2, HFM.out.trans hF2⟩
  by_cases q7 : q = 7
  · have hE : Hid (ptB ⟨k, i, n, v, h⟩ = pfx 32 5 i) := by show _ = _; rw [HPT.out, if_neg q2, if_pos q7]
    have hp : Calls Try.prog 39 #[.slice A l.length c, .int .u8 32, .int .i64 5, .int .u64 (i : Int)] w1 (RetA M w1 (l ++ pfx 32 5 i)) := rprefix_nat M l A c 32 5 i w1 HU1.out (HA1.out.mono (fun _ h => h.1)) (by omega) (by omega) (by omega) (by omega) hi
    subst q7
    have HP := Lib.hid hp
    clear hp
    clear HPT
    go_wp2_with (fail)
    refine HP.out.mono ?_
    rintro e w2 ⟨A2, c2, rfl, hA2, hF2⟩
    go_wp2
    go_ret
    rw [hE.out]
    exact ⟨A2, c2, by simp, hA2, HFM.out.trans hF2⟩
  have hE : Hid (ptB ⟨k, i, n, v, h⟩ = litB (fK q) (kK q) i n v h) := by show _ = _; rw [HPT.out, if_neg q2, if_neg q7]
  have hfk : fK q ≤ 255 ∧ 1 ≤ kK q ∧ kK q ≤ 8 := by unfold fK kK; split <;> (try split) <;> omega
  clear HPT
  go_upto_region 6 with (fail)
  go_cut [6, 7] from 35 (fun v6 v7 w5 => ∃ w3, w5 = w3 ∧ v6 = .int .u8 (fK q) ∧ v7 = .int .i64 (kK q) ∧ Hid (Frm (New w1) w1 w3))
  case first =>
    have hqq : q = 2 ∨ q = 3 ∨ q = 4 ∨ q = 5 ∨ q = 6 := by omega
    rcases hqq with rfl | rfl | rfl | rfl | rfl
    all_goals go_region
    all_goals go_wp2
    all_goals go_meet
    all_goals exact ⟨_, rfl, rfl, rfl, (((Frm.refl _ _).alloc Up.new _).alloc Up.new _).drewN _⟩
  case rest =>
    obtain ⟨w3, rfl, rfl, rfl, hF3⟩ := hcut
    rename World => w3
    have hc3 := HC1.out.fresh hF3.out
    clear hx0 hx1 hx2 hx3 hx4 hlt1
    have hx1 := hc3.cell 1
    have hx2 := hc3.cell 2
    have hx3 := hc3.cell 3
    have hx4 := hc3.cell 4
    simp only [List.getElem?_toArray, List.getElem?_cons_zero, List.getElem?_cons_succ] at hx1 hx2 hx3 hx4
    have hlt3 := hc3.lt
    have hA3 := HA1.out.fresh hF3.out
    have hu3 : Up (fun k => M k ∧ k ≠ b) w3 := fun k hk => ⟨HU1.out.of hF3.out.size k hk, by omega⟩
    have hFM3 := HFM.out.then_new HU.out hF3.out
    have hM : ∀ k, M k ∧ k ≠ b → M k := fun k hk => hk.1
    have hpl := pfx_length (fK q) (kK q) i
    have hsl := strS_length h n
    have HC3 := Lib.hid hc3
    have HA3 := Lib.hid hA3
    have HFM3 := Lib.hid hFM3
    have HM := Lib.hid hM
    have HU3 := Lib.hid hu3
    clear hc3 hA3 hFM3 hM hu3
    go_wp2_with (fail)
    refine (rprefix_nat (fun k => M k ∧ k ≠ b) l A c (fK q) (kK q) i w3 HU3.out HA3.out (by omega) hfk.1 hfk.2.1 hfk.2.2 hi).mono ?_
    rintro e w4 ⟨A4, c4, rfl, hA4, hF4⟩
    have hc4 := HC3.out.keep hF4 (fun c => c.2 rfl)
    clear hx1 hx2 hx3 hx4 hlt3
    have hx1 := hc4.cell 1
    have hx2 := hc4.cell 2
    have hx3 := hc4.cell 3
    have hx4 := hc4.cell 4
    simp only [List.getElem?_toArray, List.getElem?_cons_zero, List.getElem?_cons_succ] at hx1 hx2 hx3 hx4
    have hlt4 := hc4.lt
    have hu4 := HU3.out.of hF4.size
    have hFM4 := HFM3.out.trans (hF4.mono HM.out)
    have hEE : Hid (l ++ ptB ⟨k, i, n, v, h⟩ = ((l ++ pfx (fK q) (kK q) i) ++ (if i = 0 then strS h n else [])) ++ strS h v) := by
      show _ = _
      rw [hE.out]
      unfold litB
      simp only [List.append_assoc]
    have hln : (l ++ pfx (fK q) (kK q) i).length ≤ 1099511600020 := by rw [List.length_append]; omega
    generalize l ++ pfx (fK q) (kK q) i = l2 at *
    have HC4 := Lib.hid hc4
    have HA4 := Lib.hid hA4
    have HFM4 := Lib.hid hFM4
    have HU4 := Lib.hid hu4
    have HF4 := Lib.hid hF4
    clear hc4 hA4 hFM4 hu4 hF4
    clear HC3 HA3 HFM3 hE
    by_cases h0 : i = 0
    · subst h0
      rw [if_pos rfl] at hEE
      rw [show ((0 : Nat) : Int) = 0 from rfl] at hx1
      go_wp2_with (fail)
      refine (lstr_any (fun k => M k ∧ k ≠ b) l2 A4 c4 ⟨n.toArray⟩ h w4 HU4.out HA4.out (by omega) (by omega)).mono ?_
      rintro e w5 ⟨A5, c5, rfl, hA5, hF5⟩
      rw [show (⟨n.toArray⟩ : ByteArray).data.toList = n from rfl] at hA5 ⊢
      have hc5 := HC4.out.keep hF5 (fun c => c.2 rfl)
      clear hx1 hx2 hx3 hx4 hlt4
      have hx1 := hc5.cell 1
      have hx2 := hc5.cell 2
      have hx3 := hc5.cell 3
      have hx4 := hc5.cell 4
      simp only [List.getElem?_toArray, List.getElem?_cons_zero, List.getElem?_cons_succ] at hx1 hx2 hx3 hx4
      have hlt5 := hc5.lt
      have hu5 := HU4.out.of hF5.size
      have hFM5 := HFM4.out.trans (hF5.mono HM.out)
      have hln5 : (l2 ++ strS h n).length ≤ 1099511610020 := by rw [List.length_append]; omega
      generalize l2 ++ strS h n = l3 at *
      have HC5 := Lib.hid hc5
      have HA5 := Lib.hid hA5
      have HFM5 := Lib.hid hFM5
      have HU5 := Lib.hid hu5
      have HF5 := Lib.hid hF5
      clear hc5 hA5 hFM5 hu5 hF5
      go_wp2_with (fail)
      refine (lstr_any (fun k => M k ∧ k ≠ b) l3 A5 c5 ⟨v.toArray⟩ h w5 HU5.out HA5.out (by omega) (by omega)).mono ?_
      rintro e w6 ⟨A6, c6, rfl, hA6, hF6⟩
      rw [show (⟨v.toArray⟩ : ByteArray).data.toList = v from rfl] at hA6 ⊢
      go_wp2
      go_ret
      rw [hEE.out]
      exact ⟨A6, c6, by simp, hA6.mono HM.out, HFM5.out.trans (hF6.mono HM.out)⟩
    · rw [if_neg h0, List.append_nil] at hEE
      have h0' : ((i : Int) == 0) = false := by rw [beq_eq_false_iff_ne]; omega
      go_wp2_with (fail)
      refine (lstr_any (fun k => M k ∧ k ≠ b) l2 A4 c4 ⟨v.toArray⟩ h w4 HU4.out HA4.out (by omega) (by omega)).mono ?_
      rintro e w6 ⟨A6, c6, rfl, hA6, hF6⟩
      rw [show (⟨v.toArray⟩ : ByteArray).data.toList = v from rfl] at hA6 ⊢
      go_wp2
      go_ret
      rw [hEE.out]
      exact ⟨A6, c6, by simp, hA6.mono HM.out, HFM4.out.trans (hF6.mono HM.out)⟩
end Go.Proofs.Ytcebckkpablagaa.M
