/- Hufa -/
import Derived.Test.YtdgggjeiflllhaaZyMem
import Derived.Test.YtdgggjeiflllhaaZyArr
import Derived.StillTailTactics
import Derived.BigRegion
import Derived.RegionTactic
import Derived.Outline
import Derived.IntWalk

namespace Go.Proofs.Ytdgggjeiflllhaa.M
open Go.ChangeShapes Go.WideShapes Go.ChangeAt Go.RowKit
def lens : List Nat := [13, 23, 28, 28, 28, 28, 28, 28, 28, 24, 30, 28, 28, 30, 28, 28, 28, 28, 28, 28, 28, 28, 30, 28, 28, 28, 28, 28, 28, 28, 28, 28, 6, 10, 10, 12, 13, 6, 8, 11, 10, 10, 8, 11, 8, 6, 6, 6, 5, 5, 5, 6, 6, 6, 6, 6, 6, 6, 7, 8, 15, 6, 12, 10, 13, 6, 7, 7, 7, 7, 7, 7, 7, 7, 7, 7, 7, 7, 7, 7, 7, 7, 7, 7, 7, 7, 7, 7, 8, 7, 8, 13, 19, 13, 14, 6, 15, 5, 6, 5, 6, 5, 6, 6, 6, 5, 7, 7, 6, 6, 6, 5, 6, 7, 6, 5, 5, 6, 7, 7, 7, 7, 7, 15, 11, 14, 13, 28, 20, 22, 20, 20, 22, 22, 22, 23, 22, 23, 23, 23, 23, 23, 24, 23, 24, 24, 22, 23, 24, 23, 23, 23, 23, 21, 22, 23, 22, 23, 23, 24, 22, 21, 20, 22, 22, 23, 23, 21, 23, 22, 22, 24, 21, 22, 23, 23, 21, 21, 22, 21, 23, 22, 23, 23, 20, 22, 22, 22, 23, 22, 22, 23, 26, 26, 20, 19, 22, 23, 22, 25, 26, 26, 26, 27, 27, 26, 24, 25, 19, 21, 26, 27, 27, 26, 27, 24, 21, 21, 26, 26, 28, 27, 27, 27, 20, 24, 20, 21, 22, 21, 21, 23, 22, 22, 25, 25, 24, 24, 26, 23, 26, 27, 26, 26, 27, 27, 27, 27, 27, 28, 27, 27, 27, 27, 27, 26, 30]
def LENS : Array Value := (lens.map fun n : Nat => Value.int .u8 (n : Int)).toArray
def Z8 (n : Nat) : Array Value := Array.replicate n (.int .u8 0)
theorem Z8_size (n : Nat) : (Z8 n).size = n := by simp [Z8]
theorem lens_length : lens.length = 257 := by decide +kernel
theorem LENS_size : LENS.size = 257 := by decide +kernel
theorem LENS_one : ∀ u ∈ LENS.toList, u.oneCell' = true := fun u hu => by
  simp only [LENS] at hu
  obtain ⟨b, _, rfl⟩ := List.mem_map.1 hu
  rfl
theorem LENS_get (i : Nat) (h : i < 257) : LENS[i]? = some (.int .u8 ((lens.getD i 0 : Nat) : Int)) := by
  have hi : i < lens.length := by rw [lens_length]; exact h
  simp [LENS, List.getElem?_eq_getElem hi]
theorem a147 : Agg Try.prog 189 257 := ⟨⟨_, Try.underlying189, rfl⟩, by kernel_rfl⟩
theorem z147 : (Try.prog.info? 189).map (·.zero) = some (some (.agg (Z8 257))) := by kernel_rfl
set_option maxRecDepth 100000 in
set_option maxHeartbeats 4000000 in
theorem lengths_any (w : World) : Calls Try.prog 139 #[] w fun e w' => e = .returned (.agg LENS) ∧ Frm (New w) w w' := by
  go_enter Try.func139, Try.ntmps139
  go_wp2_with (first
    | (refine wpList_new rfl rfl z147 rfl ?_; intro w1 hb1 hF1 hs1)
    | (refine wpList_store_agg rfl rfl rfl rfl hb1 (by rw [LENS_size]; exact Z8_size 257) LENS_one (by rw [LENS_size]; exact a147.size) ?_; intro w2 hb2 hF2 hs2)
    | (refine wpList_val rfl (.agg LENS) (by kernel_rfl) ?_))
  refine bodyPost_ret (results_agg a147 rfl rfl hb2 LENS_size) rfl ⟨rfl, hF1.trans (hF2.mono (fun k hk => ?_))⟩
  subst hk; exact Nat.le_refl _
def bitsIn (l : List UInt8) : Nat := (l.map fun b => lens.getD b.toNat 0).sum
def hlen (l : List UInt8) : Nat := (bitsIn l + 7) / 8
theorem lens_le : ∀ i, lens.getD i 0 ≤ 30 := by
  have key : ∀ i : Fin 257, lens.getD i.val 0 ≤ 30 := by decide +kernel
  intro i
  by_cases h : i < 257
  · exact key ⟨i, h⟩
  · rw [List.getD_eq_getElem?_getD, List.getElem?_eq_none (by rw [lens_length]; omega)]; exact Nat.zero_le _
theorem bitsIn_snoc (l : List UInt8) (b : UInt8) : bitsIn (l ++ [b]) = bitsIn l + lens.getD b.toNat 0 := by simp [bitsIn]
theorem bitsIn_le (l : List UInt8) : bitsIn l ≤ 30 * l.length := by
  induction l with
  | nil => simp [bitsIn]
  | cons b l ih =>
    have := lens_le b.toNat
    simp only [bitsIn, List.map_cons, List.sum_cons, List.length_cons] at ih ⊢
    omega
theorem take_snoc (s : ByteArray) (k : Nat) (h : k < s.size) : s.data.toList.take (k + 1) = s.data.toList.take k ++ [s[k]] := by
  rw [List.take_succ_eq_append_getElem (by rw [Array.length_toList]; exact h)]; rfl
end Go.Proofs.Ytdgggjeiflllhaa.M
namespace Go.Proofs.Ytdgggjeiflllhaa.M
open Go.ChangeShapes Go.WideShapes Go.ChangeAt Go.RowKit
def vN (k : IntKind) (l : List Nat) : Array Value := (l.map fun n : Nat => Value.int k (n : Int)).toArray
theorem vN_size (k : IntKind) (l : List Nat) : (vN k l).size = l.length := by simp [vN]
theorem vN_get {k : IntKind} {l : List Nat} {i : Nat} (h : i < l.length) : (vN k l)[i]? = some (.int k ((l.getD i 0 : Nat) : Int)) := by
  simp [vN, List.getElem?_eq_getElem h]
theorem vN_set (k : IntKind) (l : List Nat) (i x : Nat) : (vN k l).setIfInBounds i (.int k (x : Int)) = vN k (l.set i x) := by
  apply Array.ext'
  simp [vN, List.map_set]
theorem vN_one (k : IntKind) (l : List Nat) : ∀ u ∈ (vN k l).toList, u.oneCell' = true := fun u hu => by
  simp only [vN] at hu
  obtain ⟨b, _, rfl⟩ := List.mem_map.1 hu
  rfl
def bump (c : List Nat) (x : Nat) : List Nat := c.set x (c.getD x 0 + 1)
def cntTo (k : Nat) : List Nat := (lens.take k).foldl bump (List.replicate 32 0)
theorem bump_length (c : List Nat) (x : Nat) : (bump c x).length = c.length := by simp [bump]
theorem cntTo_length (k : Nat) : (cntTo k).length = 32 := by
  unfold cntTo
  have : ∀ (l c : List Nat), (l.foldl bump c).length = c.length := by
    intro l; induction l with
    | nil => intro c; rfl
    | cons x l ih => intro c; simp [List.foldl_cons, ih, bump_length]
  rw [this]; rfl
theorem cntTo_succ (k : Nat) (h : k < 257) : cntTo (k + 1) = bump (cntTo k) (lens.getD k 0) := by
  have hk : k < lens.length := by rw [lens_length]; exact h
  unfold cntTo
  rw [List.take_succ_eq_append_getElem hk, List.foldl_append]
  simp [List.getElem?_eq_getElem hk]
theorem cntTo_le (k : Nat) : ∀ i, (cntTo k).getD i 0 ≤ k := by
  induction k with
  | zero =>
    intro i
    have : cntTo 0 = List.replicate 32 0 := rfl
    rw [this, List.getD_eq_getElem?_getD, List.getElem?_replicate]
    split <;> simp
  | succ k ih =>
    intro i
    by_cases h : k < 257
    · rw [cntTo_succ k h]
      unfold bump
      by_cases hi : lens.getD k 0 = i
      · by_cases hl : i < (cntTo k).length
        · have := ih i
          rw [hi, List.getD_eq_getElem?_getD, List.getElem?_set_self hl]
          show (cntTo k).getD i 0 + 1 ≤ k + 1
          omega
        · rw [List.getD_eq_getElem?_getD, List.getElem?_eq_none (by simp; omega)]; simp
      · have := ih i
        rw [List.getD_eq_getElem?_getD, List.getElem?_set_ne hi, ← List.getD_eq_getElem?_getD]
        omega
    · have : cntTo (k + 1) = cntTo k := by
        unfold cntTo
        rw [List.take_of_length_le (by rw [lens_length]; omega), List.take_of_length_le (by rw [lens_length]; omega)]
      rw [this]; exact Nat.le_succ_of_le (ih i)
def firstTo : Nat → List Nat
  | 0 => List.replicate 32 0
  | k + 1 => (firstTo k).set (k + 2) (((firstTo k).getD (k + 1) 0 + (cntTo 257).getD (k + 1) 0) * 2)
theorem firstTo_length (k : Nat) : (firstTo k).length = 32 := by
  induction k with
  | zero => rfl
  | succ k ih => simp [firstTo, ih]
theorem firstTo_small : ∀ k : Fin 31, ∀ i : Fin 31, (firstTo k.val).getD i.val 0 + (cntTo 257).getD i.val 0 ≤ 1073741824 := by decide +kernel
theorem z156 : (Try.prog.info? 206).map (·.zero) = some (some (.agg (vN .u32 (List.replicate 32 0)))) := by kernel_rfl
theorem z157 : (Try.prog.info? 207).map (·.zero) = some (some (.agg (vN .i64 (List.replicate 32 0)))) := by kernel_rfl
theorem a156 : Agg Try.prog 206 32 := ⟨⟨_, Try.underlying206, rfl⟩, by kernel_rfl⟩
theorem a157 : Agg Try.prog 207 32 := ⟨⟨_, Try.underlying207, rfl⟩, by kernel_rfl⟩
structure Fst1 (g : Nat) (w : World) (k : Nat) (wr : World) : Prop where
  frm : Frm (New w) w wr
  n : Blk wr (w.heap.size + 3) 207 (vN .i64 (cntTo k))
  o : Blk wr (w.heap.size + 2) 206 (vN .u32 (List.replicate 32 0))
  r1 : Blk wr w.heap.size 206 (vN .u32 (List.replicate 32 0))
  r2 : Blk wr (w.heap.size + 1) 207 (vN .i64 (List.replicate 32 0))
  l : Blk wr g 189 LENS
structure Fst2 (w : World) (k : Nat) (wr : World) : Prop where
  frm : Frm (New w) w wr
  n : Blk wr (w.heap.size + 3) 207 (vN .i64 (cntTo 257))
  o : Blk wr (w.heap.size + 2) 206 (vN .u32 (firstTo k))
  r1 : Blk wr w.heap.size 206 (vN .u32 (List.replicate 32 0))
  r2 : Blk wr (w.heap.size + 1) 207 (vN .i64 (List.replicate 32 0))
set_option maxRecDepth 100000 in
set_option maxHeartbeats 2000000 in
theorem firsts_any (g : Nat) (w : World) (hb : Blk w g 189 LENS) : Calls Try.prog 146 #[.pointer (some ⟨g, 0, none⟩)] w fun e w' =>
    e = .returned (.tuple #[.agg (vN .u32 (firstTo 30)), .agg (vN .i64 (cntTo 257))]) ∧ Frm (New w) w w' := by
  have t1 := trivial
  have t2 := trivial
  have t3 := trivial
  have t4 := trivial
  go_enter Try.func146, Try.ntmps146
  go_wp2_with (first
    | (clear t1; refine wpList_new rfl rfl z156 rfl ?_; intro wa hba hFa hsa)
    | (clear t2; refine wpList_new rfl rfl z157 rfl ?_; intro wb hbb hFb hsb)
    | (clear t3; refine wpList_new rfl rfl z156 rfl ?_; intro wc hbc hFc hsc)
    | (clear t4; refine wpList_new rfl rfl z157 rfl ?_; intro w1 hb1 hF1 hs1))
  have hF : Frm (New w) w w1 := ((hFa.then_new Up.new hFb).then_new Up.new hFc).then_new Up.new hF1
  have ha : Blk w1 w.heap.size 206 (vN .u32 (List.replicate 32 0)) := ((hba.fresh hFb).fresh hFc).fresh hF1
  have hb2 : Blk w1 wa.heap.size 207 (vN .i64 (List.replicate 32 0)) := (hbb.fresh hFc).fresh hF1
  have hc : Blk w1 wb.heap.size 206 (vN .u32 (List.replicate 32 0)) := hbc.fresh hF1
  have hd : Blk w1 wc.heap.size 207 (vN .i64 (List.replicate 32 0)) := hb1
  have HL := Lib.hid (hb.fresh hF)
  have hgl : g < w.heap.size := hb.lt
  have l1 : wa.heap.size = w.heap.size + 1 := hsa
  have l2 : wb.heap.size = w.heap.size + 2 := by omega
  have l3 : wc.heap.size = w.heap.size + 3 := by omega
  rw [l1] at hb2
  rw [l2] at hc
  rw [l3] at hd
  try simp only [l1, l2, l3]
  clear hba hbb hbc hb1 hFa hFb hFc hF1 hsa hsb hsc hs1 l1 l2 l3 hb
  have H := Lib.hid (show Fst1 g w 0 w1 from ⟨hF, by have := cntTo_length 0; exact hd, hc, ha, hb2, HL.out⟩)
  clear hF ha hb2 hc hd HL
  go_loopw [10] (fun i wr => ∃ k : Nat, k ≤ 257 ∧ i = .int .i64 k ∧ Hid (Fst1 g w k wr)) (fun i _ => 257 - (intOf i).toNat)
  case atStart => exact ⟨0, by omega, rfl, H⟩
  case round =>
    obtain ⟨k, hk, rfl, hR⟩ := hrel
    clear H
    by_cases hlt : k < 257
    · obtain ⟨hF, hn, ho, hr1, hr2, hL⟩ := hR.out
      have hx := lens_le k
      have hc1 : wr.cell? ⟨g, k, none⟩ = some (.int .u8 ((lens.getD k 0 : Nat) : Int)) := by rw [hL.cell]; exact LENS_get _ hlt
      have hc2 : wr.cell? ⟨w.heap.size + 3, lens.getD k 0, none⟩ = some (.int .i64 (((cntTo k).getD (lens.getD k 0) 0 : Nat) : Int)) := by
        rw [hn.cell]; exact vN_get (by rw [cntTo_length]; omega)
      have hc3 := hn.frozen (lens.getD k 0)
      have hle := cntTo_le k (lens.getD k 0)
      have hst : Fst1 g w (k + 1) (wr.setCell ⟨w.heap.size + 3, lens.getD k 0, none⟩ (.int .i64 (((cntTo k).getD (lens.getD k 0) 0 : Nat) + 1 : Int))) := by
        refine ⟨hF.setCell (by show w.heap.size ≤ w.heap.size + 3; omega) _, ?_, ho.far (by simp) _, hr1.far (by simp) _, hr2.far (by simp) _, hL.far (by show g ≠ w.heap.size + 3; omega) _⟩
        have := hn.set_ (lens.getD k 0) (.int .i64 (((cntTo k).getD (lens.getD k 0) 0 + 1 : Nat) : Int))
        rw [vN_set] at this
        rw [cntTo_succ k hlt]
        exact this
      have HST := Lib.hid hst
      clear hst hF hn ho hr1 hr2 hL hR
      generalize lens.getD k 0 = x at *
      generalize (cntTo k).getD x 0 = y at *
      go_wp2
      go_roundw
      case rel => exact ⟨k + 1, by omega, by go_num, HST⟩
      case measure => simp [intOf]; omega
    · obtain rfl : k = 257 := by omega
      go_wp2
      clear hlt hk
      rw [show ((257 : Nat) : Int) = 257 from rfl]
      obtain ⟨hF, hn, ho, hr1, hr2, _⟩ := hR.out
      have H2 := Lib.hid (show Fst2 w 0 wr from ⟨hF, hn, ho, hr1, hr2⟩)
      clear hR hF hn ho hr1 hr2
      go_loopw [8] (fun i wr => ∃ k : Nat, k ≤ 30 ∧ i = .int .i64 ((k : Int) + 1) ∧ Hid (Fst2 w k wr)) (fun i _ => 31 - (intOf i).toNat)
      case atStart => exact ⟨0, by omega, rfl, H2⟩
      case round =>
        obtain ⟨k, hk, rfl, hR⟩ := hrel
        clear H2
        by_cases hlt : k < 30
        · obtain ⟨hF, hn, ho, hr1, hr2⟩ := hR.out
          have hl1 := firstTo_length k
          have hl2 := cntTo_length 257
          have hc1 : wr.cell? ⟨w.heap.size + 2, k + 1, none⟩ = some (.int .u32 (((firstTo k).getD (k + 1) 0 : Nat) : Int)) := by rw [ho.cell]; exact vN_get (by omega)
          have hc2 : wr.cell? ⟨w.heap.size + 3, k + 1, none⟩ = some (.int .i64 (((cntTo 257).getD (k + 1) 0 : Nat) : Int)) := by rw [hn.cell]; exact vN_get (by omega)
          have hc3 : wr.cell? ⟨w.heap.size + 2, k + 2, none⟩ = some (.int .u32 (((firstTo k).getD (k + 2) 0 : Nat) : Int)) := by rw [ho.cell]; exact vN_get (by omega)
          have hc4 := ho.frozen (k + 2)
          have hsm := firstTo_small ⟨k, by omega⟩ ⟨k + 1, by omega⟩
          simp only at hsm
          have hst : Fst2 w (k + 1) ((wr.setCell ⟨w.heap.size + 2, k + 2, none⟩ (.int .u32 ((((firstTo k).getD (k + 1) 0 : Nat) + ((cntTo 257).getD (k + 1) 0 : Nat) : Int) * 2))).drew) := by
            refine ⟨(hF.setCell (by show w.heap.size ≤ w.heap.size + 2; omega) _).drew, hn.far (by simp) _, ?_, hr1.far (by simp) _, hr2.far (by simp) _⟩
            have := ho.set_ (k + 2) (.int .u32 ((((firstTo k).getD (k + 1) 0 + (cntTo 257).getD (k + 1) 0) * 2 : Nat) : Int))
            rw [vN_set] at this
            exact Blk.drew (by simpa [firstTo] using this)
          have HST := Lib.hid hst
          clear hst hF hn ho hr1 hr2 hR hl1 hl2
          generalize (firstTo k).getD (k + 1) 0 = x at *
          generalize (cntTo 257).getD (k + 1) 0 = y at *
          generalize (firstTo k).getD (k + 2) 0 = z at *
          have g1 : (0 : Int) ≤ (k : Int) + 1 := by omega
          have g2 : (k : Int) + 1 < 32 := by omega
          have g3 : ((k : Int) + 1).toNat = k + 1 := by omega
          have g4 : IntKind.i64.wrap ((k : Int) + 1 + 1) = (k : Int) + 2 := by rw [IntWalk.i64_in _ (by omega)]; omega
          have g5 : (0 : Int) ≤ (k : Int) + 2 := by omega
          have g6 : (k : Int) + 2 < 32 := by omega
          have g7 : ((k : Int) + 2).toNat = k + 2 := by omega
          have g8 : IntKind.u32.wrap (y : Int) = (y : Int) := IntWalk.u32_in _ (by omega)
          have g9 : IntKind.u32.wrap ((x : Int) + (y : Int)) = (x : Int) + (y : Int) := IntWalk.u32_in _ (by omega)
          have g10 : IntKind.u32.wrap (((x : Int) + (y : Int)) * 2) = ((x : Int) + (y : Int)) * 2 := IntWalk.u32_in _ (by omega)
          go_wp2
          go_still_tail 12, (by kernel_rfl)
          change wpList _ _ _ _ _ wr.drew
          clear g1 g2 g3 g4 g5 g6 g7 g8 g9 g10
          go_wp2
          go_roundw
          case rel => exact ⟨k + 1, by omega, by go_num, HST⟩
          case measure => simp [intOf]; omega
        · obtain rfl : k = 30 := by omega
          clear hlt hk
          obtain ⟨hF, hn, ho, hr1, hr2⟩ := hR.out
          clear hR
          go_wp2
          refine wp_region_any (by kernel_rfl) ?_
          change wpAny _ _ _ _ _ _ _ wr.drew
          have hF := hF.drew
          have hn := hn.drew
          have ho := ho.drew
          have hr1 := hr1.drew
          have hr2 := hr2.drew
          have hs1 := (vN_size .u32 (firstTo 30)).trans (firstTo_length 30)
          have hs2 := (vN_size .i64 (cntTo 257)).trans (cntTo_length 257)
          refine wpAny_ready (rs := [0, 1]) (by kernel_rfl) (by simp) ?_
          refine AllReady.cons rfl (fun K hK => ?_) (AllReady.cons rfl (fun K hK => ?_) AllReady.nil)
          · refine step_load_agg a156 rfl rfl rfl ho hs1 ?_; refine hK _ _ ?_; clear hK K
            refine wpAny_ready (rs := [1, 2]) (by kernel_rfl) (by simp) ?_
            refine AllReady.cons rfl (fun K hK => ?_) (AllReady.cons rfl (fun K hK => ?_) AllReady.nil)
            · refine step_load_agg a157 rfl rfl rfl hn hs2 ?_; refine hK _ _ ?_; clear hK K
              refine wpAny_ready (rs := [2]) (by kernel_rfl) (by simp) ?_
              refine AllReady.cons rfl (fun K hK => ?_) AllReady.nil
              refine step_store_agg rfl rfl rfl rfl hr1 (by rw [hs1]; simp [vN_size]) (vN_one _ _) (by rw [hs1]; exact a156.size) ?_; intro wx hbx hFx hsx; refine hK _ _ ?_; clear hK K; have ho := ho.keep hFx (by omega); have hn := hn.keep hFx (by omega); have hr2 := hr2.keep hFx (by omega); have hF := hF.trans (hFx.mono (fun k hk => by subst hk; exact Nat.le_refl _)); clear hr1
              refine wpAny_ready (rs := [3]) (by kernel_rfl) (by simp) ?_
              refine AllReady.cons rfl (fun K hK => ?_) AllReady.nil
              refine step_store_agg rfl rfl rfl rfl hr2 (by rw [hs2]; simp [vN_size]) (vN_one _ _) (by rw [hs2]; exact a157.size) ?_; intro wy hby hFy hsy; refine hK _ _ ?_; clear hK K; have hbx := hbx.keep hFy (by omega); have hF := hF.trans (hFy.mono (fun k hk => by subst hk; show w.heap.size ≤ w.heap.size + 1; omega)); clear hr2
              refine wpAny_done (by kernel_rfl) ?_ _
              go_wp2
              refine bodyPost_ret (results_agg2 a156 a157 rfl rfl hbx hs1 rfl hby hs2) rfl ⟨rfl, hF⟩
            · refine step_store_agg rfl rfl rfl rfl hr1 (by rw [hs1]; simp [vN_size]) (vN_one _ _) (by rw [hs1]; exact a156.size) ?_; intro wx hbx hFx hsx; refine hK _ _ ?_; clear hK K; have ho := ho.keep hFx (by omega); have hn := hn.keep hFx (by omega); have hr2 := hr2.keep hFx (by omega); have hF := hF.trans (hFx.mono (fun k hk => by subst hk; exact Nat.le_refl _)); clear hr1
              refine wpAny_ready (rs := [1]) (by kernel_rfl) (by simp) ?_
              refine AllReady.cons rfl (fun K hK => ?_) AllReady.nil
              refine step_load_agg a157 rfl rfl rfl hn hs2 ?_; refine hK _ _ ?_; clear hK K
              refine wpAny_ready (rs := [3]) (by kernel_rfl) (by simp) ?_
              refine AllReady.cons rfl (fun K hK => ?_) AllReady.nil
              refine step_store_agg rfl rfl rfl rfl hr2 (by rw [hs2]; simp [vN_size]) (vN_one _ _) (by rw [hs2]; exact a157.size) ?_; intro wy hby hFy hsy; refine hK _ _ ?_; clear hK K; have hbx := hbx.keep hFy (by omega); have hF := hF.trans (hFy.mono (fun k hk => by subst hk; show w.heap.size ≤ w.heap.size + 1; omega)); clear hr2
              refine wpAny_done (by kernel_rfl) ?_ _
              go_wp2
              refine bodyPost_ret (results_agg2 a156 a157 rfl rfl hbx hs1 rfl hby hs2) rfl ⟨rfl, hF⟩
          · refine step_load_agg a157 rfl rfl rfl hn hs2 ?_; refine hK _ _ ?_; clear hK K
            refine wpAny_ready (rs := [0]) (by kernel_rfl) (by simp) ?_
            refine AllReady.cons rfl (fun K hK => ?_) AllReady.nil
            refine step_load_agg a156 rfl rfl rfl ho hs1 ?_; refine hK _ _ ?_; clear hK K
            refine wpAny_ready (rs := [2]) (by kernel_rfl) (by simp) ?_
            refine AllReady.cons rfl (fun K hK => ?_) AllReady.nil
            refine step_store_agg rfl rfl rfl rfl hr1 (by rw [hs1]; simp [vN_size]) (vN_one _ _) (by rw [hs1]; exact a156.size) ?_; intro wx hbx hFx hsx; refine hK _ _ ?_; clear hK K; have ho := ho.keep hFx (by omega); have hn := hn.keep hFx (by omega); have hr2 := hr2.keep hFx (by omega); have hF := hF.trans (hFx.mono (fun k hk => by subst hk; exact Nat.le_refl _)); clear hr1
            refine wpAny_ready (rs := [3]) (by kernel_rfl) (by simp) ?_
            refine AllReady.cons rfl (fun K hK => ?_) AllReady.nil
            refine step_store_agg rfl rfl rfl rfl hr2 (by rw [hs2]; simp [vN_size]) (vN_one _ _) (by rw [hs2]; exact a157.size) ?_; intro wy hby hFy hsy; refine hK _ _ ?_; clear hK K; have hbx := hbx.keep hFy (by omega); have hF := hF.trans (hFy.mono (fun k hk => by subst hk; show w.heap.size ≤ w.heap.size + 1; omega)); clear hr2
            refine wpAny_done (by kernel_rfl) ?_ _
            go_wp2
            refine bodyPost_ret (results_agg2 a156 a157 rfl rfl hbx hs1 rfl hby hs2) rfl ⟨rfl, hF⟩
end Go.Proofs.Ytdgggjeiflllhaa.M
namespace Go.Proofs.Ytdgggjeiflllhaa.M
open Go.ChangeShapes Go.WideShapes Go.ChangeAt Go.RowKit
def vP (k1 k2 : IntKind) (l : List (Nat × Nat)) : Array Value := (l.flatMap fun p => [Value.int k1 (p.1 : Int), Value.int k2 (p.2 : Int)]).toArray
section
variable {k1 k2 : IntKind}
theorem vP_get : ∀ (l : List (Nat × Nat)) (i : Nat), i < l.length → (vP k1 k2 l)[i * 2]? = some (.int k1 (((l.getD i (0, 0)).1 : Nat) : Int)) ∧ (vP k1 k2 l)[i * 2 + 1]? = some (.int k2 (((l.getD i (0, 0)).2 : Nat) : Int))
  | [], i, h => by simp at h
  | p :: l, 0, _ => by simp [vP]
  | p :: l, i + 1, h => by
    have ih := vP_get l i (by simpa using h)
    simp only [vP, List.getElem?_toArray, List.flatMap_cons] at ih ⊢
    rw [show (i + 1) * 2 = i * 2 + 2 from by omega]
    exact ⟨ih.1, ih.2⟩
theorem vP_set (l : List (Nat × Nat)) : ∀ (i x y : Nat), ((vP k1 k2 l).setIfInBounds (i * 2) (.int k1 (x : Int))).setIfInBounds (i * 2 + 1) (.int k2 (y : Int)) = vP k1 k2 (l.set i (x, y)) := by
  induction l with
  | nil => intro i x y; rfl
  | cons p l ih =>
    intro i x y
    apply Array.ext'
    cases i with
    | zero => simp [vP]
    | succ i =>
      have := congrArg Array.toList (ih i x y)
      simp only [vP, Array.toList_setIfInBounds] at this ⊢
      rw [show (i + 1) * 2 = i * 2 + 2 from by omega]
      simp only [List.flatMap_cons, List.cons_append, List.nil_append, List.set_cons_succ]
      rw [this]
end
def nextTo (k : Nat) : List Nat := (lens.take k).foldl bump (firstTo 30)
def codesTo : Nat → List (Nat × Nat)
  | 0 => List.replicate 257 (0, 0)
  | k + 1 => (codesTo k).set k ((nextTo k).getD (lens.getD k 0) 0, lens.getD k 0)
theorem codesTo_length (k : Nat) : (codesTo k).length = 257 := by
  induction k with
  | zero => exact List.length_replicate
  | succ k ih => simp [codesTo, ih]
def codes : List (Nat × Nat) := codesTo 257
theorem codes_length : codes.length = 257 := codesTo_length 257
theorem run_index_agg {P : Program} (T e n : Nat) (hT : P.underlying T = some (.array n e)) (he : P.underlying e = some (.int .u8)) (hs : (P.info? e).map (·.size) = some 1)
    (cs : Array Value) (i : Nat) (hi : i < n) (v : Value) (hv : cs[i]? = some v) (w : World) : (Instr.index T (.agg cs) (.int .i64 i)).run P w = .ok v w := by
  cases hq : P.info? e with
  | none => rw [hq] at hs; cases hs
  | some q =>
    rw [hq] at hs
    have hs' : q.size = 1 := by simpa using hs
    simp [Instr.index, asIntOf, run_underlying hT, run_underlying he, hi, sizeOf, typeInfo, hq, hs', part, isAgg, hv]
theorem idx147 (i : Nat) (hi : i < 257) (w : World) : (Instr.index 189 (.agg LENS) (.int .i64 i)).run Try.prog w = .ok (.int .u8 ((lens.getD i 0 : Nat) : Int)) w :=
  run_index_agg _ _ 257 Try.underlying189 Try.underlying5 (by kernel_rfl) LENS i hi _ (LENS_get i hi) w
end Go.Proofs.Ytdgggjeiflllhaa.M
namespace Go.Proofs.Ytdgggjeiflllhaa.M
open Go.ChangeShapes Go.WideShapes Go.ChangeAt Go.RowKit
def emit : Nat → Nat → Nat → List UInt8
  | 0, _, _ => []
  | f + 1, acc, n => if n < 8 then [] else UInt8.ofNat (acc / 2 ^ (n - 8)) :: emit f acc (n - 8)
def hgo : List UInt8 → Nat → Nat → List UInt8
  | [], acc, n => if n = 0 then [] else [UInt8.ofNat (acc * 2 ^ (8 - n) + (2 ^ (8 - n) - 1))]
  | b :: r, acc, n =>
    let p := codes.getD b.toNat (0, 0)
    emit 5 (acc * 2 ^ p.2 + p.1) (n + p.2) ++ hgo r ((acc * 2 ^ p.2 + p.1) % 2 ^ ((n + p.2) % 8)) ((n + p.2) % 8)
def hcode (l : List UInt8) : List UInt8 := hgo l 0 0
theorem codes_fit : ∀ i : Fin 257, (codes.getD i.val (0, 0)).1 < 2 ^ (codes.getD i.val (0, 0)).2 ∧ (codes.getD i.val (0, 0)).2 ≤ 30 ∧ 5 ≤ (codes.getD i.val (0, 0)).2 ∧ (codes.getD i.val (0, 0)).1 < 1073741824 := by decide +kernel
theorem emit_length : ∀ (f acc n : Nat), (emit f acc n).length ≤ f
  | 0, _, _ => by simp [emit]
  | f + 1, acc, n => by
    unfold emit
    split
    · simp
    · have := emit_length f acc (n - 8); simp; omega
set_option maxRecDepth 10000
theorem wraps64 (n : Int) (h₀ : 0 ≤ n) (h₁ : n < 2 ^ 64) : IntKind.u64.wrap n = n := IntWalk.u64_in n (by omega)
theorem wrap_u64 (n : Int) : IntKind.u64.wrap n = n % 18446744073709551616 := by simp [IntKind.wrap, IntKind.bits, IntKind.signed]
theorem or_acc (a m c : Nat) (hm : m ≤ 30) (hc : c < 2 ^ m) : bits .or .u64 (IntKind.u64.wrap ((a : Int) * 2 ^ m)) (c : Int) = ((a * 2 ^ m % 18446744073709551616 + c : Nat) : Int) := by
  have e1 : IntKind.u64.wrap ((a : Int) * 2 ^ m) = ((a * 2 ^ m % 18446744073709551616 : Nat) : Int) := by
    rw [wrap_u64]; simp only [Int.natCast_emod, Int.natCast_mul, Int.natCast_pow]; rfl
  have hd : (18446744073709551616 : Nat) = 2 ^ m * 2 ^ (64 - m) := by rw [← Nat.pow_add, show m + (64 - m) = 64 from by omega]
  have h0 : (a * 2 ^ m % 18446744073709551616) % 2 ^ m = 0 := by
    rw [hd, Nat.mod_mul_right_mod]; exact Nat.mul_mod_left _ _
  have hp : 2 ^ m ≤ 2 ^ 30 := Nat.pow_le_pow_right (by decide) hm
  have hlt := Nat.mod_lt (a * 2 ^ m) (show 18446744073709551616 > 0 by decide)
  rw [e1, bits_join .u64 64 (by decide) wraps64 m ((a * 2 ^ m % 18446744073709551616 : Nat) : Int) (c : Int) (by omega) (by
    rw [show ((2 : Int) ^ m) = ((2 ^ m : Nat) : Int) from by simp]; exact_mod_cast h0) (by omega) (by omega) (by
    rw [show ((2 : Int) ^ m) = ((2 ^ m : Nat) : Int) from by simp]; exact_mod_cast hc) (by omega)]
  exact (Int.natCast_add _ _).symm
theorem last_byte (a N : Nat) (h0 : 1 ≤ N) (h8 : N < 8) :
    bits .or .u8 (IntKind.u64.wrap ((a : Int) * 2 ^ (8 - N)) % 256) ((2 ^ (8 - N) - 1) % 256) = ((a % 2 ^ N * 2 ^ (8 - N) + (2 ^ (8 - N) - 1) : Nat) : Int) := by
  have hp : 2 ^ N * 2 ^ (8 - N) = 256 := by rw [← Nat.pow_add, show N + (8 - N) = 8 from by omega]
  have hd : (18446744073709551616 : Nat) = 256 * 72057594037927936 := rfl
  have e1 : IntKind.u64.wrap ((a : Int) * 2 ^ (8 - N)) % 256 = ((a % 2 ^ N * 2 ^ (8 - N) : Nat) : Int) := by
    have h1 : IntKind.u64.wrap ((a : Int) * 2 ^ (8 - N)) = ((a * 2 ^ (8 - N) % 18446744073709551616 : Nat) : Int) := by
      rw [wrap_u64]; simp only [Int.natCast_emod, Int.natCast_mul, Int.natCast_pow]; rfl
    have h2 : a * 2 ^ (8 - N) % 18446744073709551616 % 256 = a % 2 ^ N * 2 ^ (8 - N) := by
      rw [hd, Nat.mod_mul_right_mod, ← hp, Nat.mul_mod_mul_right]
    rw [h1, show (256 : Int) = ((256 : Nat) : Int) from rfl, ← Int.natCast_emod, h2]
  have hpos : 1 ≤ 2 ^ (8 - N) := Nat.one_le_two_pow
  have hle : 2 ^ (8 - N) ≤ 2 ^ 7 := Nat.pow_le_pow_right (by decide) (by omega)
  have e2 : ((2 : Int) ^ (8 - N) - 1) % 256 = ((2 ^ (8 - N) - 1 : Nat) : Int) := by
    rw [show ((2 : Int) ^ (8 - N)) = ((2 ^ (8 - N) : Nat) : Int) from by simp]; omega
  have hlt : a % 2 ^ N < 2 ^ N := Nat.mod_lt _ (Nat.two_pow_pos N)
  have hm := Nat.mul_le_mul_right (2 ^ (8 - N)) hlt
  rw [hp, Nat.succ_mul] at hm
  rw [e1, e2, bits_join .u8 8 (by decide) wraps_u8 (8 - N) _ _ (by omega) (by
    rw [show ((2 : Int) ^ (8 - N)) = ((2 ^ (8 - N) : Nat) : Int) from by simp]; exact_mod_cast Nat.mul_mod_left _ _) (by omega) (by omega) (by
    rw [show ((2 : Int) ^ (8 - N)) = ((2 ^ (8 - N) : Nat) : Int) from by simp]; omega) (by omega)]
  exact (Int.natCast_add _ _).symm
theorem emit_done (f acc n : Nat) (h : n < 8) : emit f acc n = [] := by
  cases f with
  | zero => rfl
  | succ f => rw [emit, if_pos h]
end Go.Proofs.Ytdgggjeiflllhaa.M

