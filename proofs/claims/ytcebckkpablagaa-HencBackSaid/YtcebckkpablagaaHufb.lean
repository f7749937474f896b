/- Package huff: firsts, codes: the tables that they make. No condition. -/
import Derived.Test.YtcebckkpablagaaHufa
import Derived.StillTailTactics
import Derived.BigRegion
import Derived.RegionTactic
import Derived.Outline
import Derived.IntWalk
namespace Go.Proofs.Ytcebckkpablagaa.M
open Go.ChangeShapes Go.WideShapes Go.ChangeAt Go.RowKit

/-- numbers as cells -/
def vN (k : IntKind) (l : List Nat) : Array Value := (l.map fun n : Nat => Value.int k (n : Int)).toArray
theorem vN_size (k : IntKind) (l : List Nat) : (vN k l).size = l.length := by simp [vN]
theorem vN_get {k : IntKind} {l : List Nat} {i : Nat} (h : i < l.length) : (vN k l)[i]? = some (.int k ((l.getD i 0 : Nat) : Int)) := by
  simp [vN, List.getElem?_eq_getElem h]
theorem vN_set (k : IntKind) (l : List Nat) (i x : Nat) : (vN k l).setIfInBounds i (.int k (x : Int)) = vN k (l.set i x) := by
  apply Array.ext'
  simp [vN, List.map_set]
theorem vN_one (k : IntKind) (l : List Nat) : ∀ u ∈ (vN k l).toList, u.oneCell' = true := fun u hu => by
  simp only [vN] at hu
  obtain ⟨b, _, rfl⟩ := List.mem_map.1 hu
  rfl

/-- how many codes of each length the first k signs have -/
def bump (c : List Nat) (x : Nat) : List Nat := c.set x (c.getD x 0 + 1)
def cntTo (k : Nat) : List Nat := (lens.take k).foldl bump (List.replicate 32 0)
theorem bump_length (c : List Nat) (x : Nat) : (bump c x).length = c.length := by simp [bump]
theorem cntTo_length (k : Nat) : (cntTo k).length = 32 := by
  unfold cntTo
  have : ∀ (l c : List Nat), (l.foldl bump c).length = c.length := by
    intro l; induction l with
    | nil => intro c; rfl
    | cons x l ih => intro c; simp [List.foldl_cons, ih, bump_length]
  rw [this]; rfl
theorem cntTo_succ (k : Nat) (h : k < 257) : cntTo (k + 1) = bump (cntTo k) (lens.getD k 0) := by
  have hk : k < lens.length := by rw [lens_length]; exact h
  unfold cntTo
  rw [List.take_succ_eq_append_getElem hk, List.foldl_append]
  simp [List.getElem?_eq_getElem hk]
theorem cntTo_le (k : Nat) : ∀ i, (cntTo k).getD i 0 ≤ k := by
  induction k with
  | zero =>
    intro i
    have : cntTo 0 = List.replicate 32 0 := rfl
    rw [this, List.getD_eq_getElem?_getD, List.getElem?_replicate]
    split <;> simp
  | succ k ih =>
    intro i
    by_cases h : k < 257
    · rw [cntTo_succ k h]
      unfold bump
      by_cases hi : lens.getD k 0 = i
      · by_cases hl : i < (cntTo k).length
        · have := ih i
          rw [hi, List.getD_eq_getElem?_getD, List.getElem?_set_self hl]
          show (cntTo k).getD i 0 + 1 ≤ k + 1
          omega
        · rw [List.getD_eq_getElem?_getD, List.getElem?_eq_none (by simp; omega)]; simp
      · have := ih i
        rw [List.getD_eq_getElem?_getD, List.getElem?_set_ne hi, ← List.getD_eq_getElem?_getD]
        omega
    · have : cntTo (k + 1) = cntTo k := by
        unfold cntTo
        rw [List.take_of_length_le (by rw [lens_length]; omega), List.take_of_length_le (by rw [lens_length]; omega)]
      rw [this]; exact Nat.le_succ_of_le (ih i)
/-- the first code of each length up to k -/
def firstTo : Nat → List Nat
  | 0 => List.replicate 32 0
  | k + 1 => (firstTo k).set (k + 2) (((firstTo k).getD (k + 1) 0 + (cntTo 257).getD (k + 1) 0) * 2)
theorem firstTo_length (k : Nat) : (firstTo k).length = 32 := by
  induction k with
  | zero => rfl
  | succ k ih => simp [firstTo, ih]
theorem firstTo_small : ∀ k : Fin 31, ∀ i : Fin 31, (firstTo k.val).getD i.val 0 + (cntTo 257).getD i.val 0 ≤ 1073741824 := by decide +kernel

theorem z156 : (Try.prog.info? 156).map (·.zero) = some (some (.agg (vN .u32 (List.replicate 32 0)))) := by kernel_rfl
theorem z157 : (Try.prog.info? 157).map (·.zero) = some (some (.agg (vN .i64 (List.replicate 32 0)))) := by kernel_rfl
theorem a156 : Agg Try.prog 156 32 := ⟨⟨_, Try.underlying156, rfl⟩, by kernel_rfl⟩
theorem a157 : Agg Try.prog 157 32 := ⟨⟨_, Try.underlying157, rfl⟩, by kernel_rfl⟩

/-- the first loop of firsts: k signs are counted -/
structure Fst1 (g : Nat) (w : World) (k : Nat) (wr : World) : Prop where
  frm : Frm (New w) w wr
  n : Blk wr (w.heap.size + 3) 157 (vN .i64 (cntTo k))
  o : Blk wr (w.heap.size + 2) 156 (vN .u32 (List.replicate 32 0))
  r1 : Blk wr w.heap.size 156 (vN .u32 (List.replicate 32 0))
  r2 : Blk wr (w.heap.size + 1) 157 (vN .i64 (List.replicate 32 0))
  l : Blk wr g 147 LENS

/-- the second loop of firsts -/
structure Fst2 (w : World) (k : Nat) (wr : World) : Prop where
  frm : Frm (New w) w wr
  n : Blk wr (w.heap.size + 3) 157 (vN .i64 (cntTo 257))
  o : Blk wr (w.heap.size + 2) 156 (vN .u32 (firstTo k))
  r1 : Blk wr w.heap.size 156 (vN .u32 (List.replicate 32 0))
  r2 : Blk wr (w.heap.size + 1) 157 (vN .i64 (List.replicate 32 0))

set_option maxRecDepth 100000 in
set_option maxHeartbeats 2000000 in
theorem firsts_any (g : Nat) (w : World) (hb : Blk w g 147 LENS) : Calls Try.prog 99 #[.pointer (some ⟨g, 0, none⟩)] w fun e w' =>
    e = .returned (.tuple #[.agg (vN .u32 (firstTo 30)), .agg (vN .i64 (cntTo 257))]) ∧ Frm (New w) w w' := by
  have t1 := trivial
  have t2 := trivial
  have t3 := trivial
  have t4 := trivial
  go_enter Try.func99, Try.ntmps99
  go_wp2_with (first
    | (clear t1; refine wpList_new rfl rfl z156 rfl ?_; intro wa hba hFa hsa)
    | (clear t2; refine wpList_new rfl rfl z157 rfl ?_; intro wb hbb hFb hsb)
    | (clear t3; refine wpList_new rfl rfl z156 rfl ?_; intro wc hbc hFc hsc)
    | (clear t4; refine wpList_new rfl rfl z157 rfl ?_; intro w1 hb1 hF1 hs1))
  have hF : Frm (New w) w w1 := ((hFa.then_new Up.new hFb).then_new Up.new hFc).then_new Up.new hF1
  have ha : Blk w1 w.heap.size 156 (vN .u32 (List.replicate 32 0)) := ((hba.fresh hFb).fresh hFc).fresh hF1
  have hb2 : Blk w1 wa.heap.size 157 (vN .i64 (List.replicate 32 0)) := (hbb.fresh hFc).fresh hF1
  have hc : Blk w1 wb.heap.size 156 (vN .u32 (List.replicate 32 0)) := hbc.fresh hF1
  have hd : Blk w1 wc.heap.size 157 (vN .i64 (List.replicate 32 0)) := hb1
  have HL := Lib.hid (hb.fresh hF)
  have hgl : g < w.heap.size := hb.lt
  have l1 : wa.heap.size = w.heap.size + 1 := hsa
  have l2 : wb.heap.size = w.heap.size + 2 := by omega
  have l3 : wc.heap.size = w.heap.size + 3 := by omega
  rw [l1] at hb2
  rw [l2] at hc
  rw [l3] at hd
  try simp only [l1, l2, l3]
  clear hba hbb hbc hb1 hFa hFb hFc hF1 hsa hsb hsc hs1 l1 l2 l3 hb
  have H := Lib.hid (show Fst1 g w 0 w1 from ⟨hF, by have := cntTo_length 0; exact hd, hc, ha, hb2, HL.out⟩)
  clear hF ha hb2 hc hd HL
  go_loopw [10] (fun i wr => ∃ k : Nat, k ≤ 257 ∧ i = .int .i64 k ∧ Hid (Fst1 g w k wr)) (fun i _ => 257 - (intOf i).toNat)
  case atStart => exact ⟨0, by omega, rfl, H⟩
  case round =>
    obtain ⟨k, hk, rfl, hR⟩ := hrel
    clear H
    by_cases hlt : k < 257
    · obtain ⟨hF, hn, ho, hr1, hr2, hL⟩ := hR.out
      have hx := lens_le k
      have hc1 : wr.cell? ⟨g, k, none⟩ = some (.int .u8 ((lens.getD k 0 : Nat) : Int)) := by rw [hL.cell]; exact LENS_get _ hlt
      have hc2 : wr.cell? ⟨w.heap.size + 3, lens.getD k 0, none⟩ = some (.int .i64 (((cntTo k).getD (lens.getD k 0) 0 : Nat) : Int)) := by
        rw [hn.cell]; exact vN_get (by rw [cntTo_length]; omega)
      have hc3 := hn.frozen (lens.getD k 0)
      have hle := cntTo_le k (lens.getD k 0)
      have hst : Fst1 g w (k + 1) (wr.setCell ⟨w.heap.size + 3, lens.getD k 0, none⟩ (.int .i64 (((cntTo k).getD (lens.getD k 0) 0 : Nat) + 1 : Int))) := by
        refine ⟨hF.setCell (by show w.heap.size ≤ w.heap.size + 3; omega) _, ?_, ho.far (by simp) _, hr1.far (by simp) _, hr2.far (by simp) _, hL.far (by show g ≠ w.heap.size + 3; omega) _⟩
        have := hn.set_ (lens.getD k 0) (.int .i64 (((cntTo k).getD (lens.getD k 0) 0 + 1 : Nat) : Int))
        rw [vN_set] at this
        rw [cntTo_succ k hlt]
        exact this
      have HST := Lib.hid hst
      clear hst hF hn ho hr1 hr2 hL hR
      generalize lens.getD k 0 = x at *
      generalize (cntTo k).getD x 0 = y at *
      go_wp2
      go_roundw
      case rel => exact ⟨k + 1, by omega, by go_num, HST⟩
      case measure => simp [intOf]; omega
    · obtain rfl : k = 257 := by omega
      go_wp2
      clear hlt hk
      rw [show ((257 : Nat) : Int) = 257 from rfl]
      obtain ⟨hF, hn, ho, hr1, hr2, _⟩ := hR.out
      have H2 := Lib.hid (show Fst2 w 0 wr from ⟨hF, hn, ho, hr1, hr2⟩)
      clear hR hF hn ho hr1 hr2
      go_loopw [8] (fun i wr => ∃ k : Nat, k ≤ 30 ∧ i = .int .i64 ((k : Int) + 1) ∧ Hid (Fst2 w k wr)) (fun i _ => 31 - (intOf i).toNat)
      case atStart => exact ⟨0, by omega, rfl, H2⟩
      case round =>
        obtain ⟨k, hk, rfl, hR⟩ := hrel
        clear H2
        by_cases hlt : k < 30
        · obtain ⟨hF, hn, ho, hr1, hr2⟩ := hR.out
          have hl1 := firstTo_length k
          have hl2 := cntTo_length 257
          have hc1 : wr.cell? ⟨w.heap.size + 2, k + 1, none⟩ = some (.int .u32 (((firstTo k).getD (k + 1) 0 : Nat) : Int)) := by rw [ho.cell]; exact vN_get (by omega)
          have hc2 : wr.cell? ⟨w.heap.size + 3, k + 1, none⟩ = some (.int .i64 (((cntTo 257).getD (k + 1) 0 : Nat) : Int)) := by rw [hn.cell]; exact vN_get (by omega)
          have hc3 : wr.cell? ⟨w.heap.size + 2, k + 2, none⟩ = some (.int .u32 (((firstTo k).getD (k + 2) 0 : Nat) : Int)) := by rw [ho.cell]; exact vN_get (by omega)
          have hc4 := ho.frozen (k + 2)
          have hsm := firstTo_small ⟨k, by omega⟩ ⟨k + 1, by omega⟩
          simp only at hsm
          have hst : Fst2 w (k + 1) ((wr.setCell ⟨w.heap.size + 2, k + 2, none⟩ (.int .u32 ((((firstTo k).getD (k + 1) 0 : Nat) + ((cntTo 257).getD (k + 1) 0 : Nat) : Int) * 2))).drew) := by
            refine ⟨(hF.setCell (by show w.heap.size ≤ w.heap.size + 2; omega) _).drew, hn.far (by simp) _, ?_, hr1.far (by simp) _, hr2.far (by simp) _⟩
            have := ho.set_ (k + 2) (.int .u32 ((((firstTo k).getD (k + 1) 0 + (cntTo 257).getD (k + 1) 0) * 2 : Nat) : Int))
            rw [vN_set] at this
            exact Blk.drew (by simpa [firstTo] using this)
          have HST := Lib.hid hst
          clear hst hF hn ho hr1 hr2 hR hl1 hl2
          generalize (firstTo k).getD (k + 1) 0 = x at *
          generalize (cntTo 257).getD (k + 1) 0 = y at *
          generalize (firstTo k).getD (k + 2) 0 = z at *
          have g1 : (0 : Int) ≤ (k : Int) + 1 := by omega
          have g2 : (k : Int) + 1 < 32 := by omega
          have g3 : ((k : Int) + 1).toNat = k + 1 := by omega
          have g4 : IntKind.i64.wrap ((k : Int) + 1 + 1) = (k : Int) + 2 := by rw [IntWalk.i64_in _ (by omega)]; omega
          have g5 : (0 : Int) ≤ (k : Int) + 2 := by omega
          have g6 : (k : Int) + 2 < 32 := by omega
          have g7 : ((k : Int) + 2).toNat = k + 2 := by omega
          have g8 : IntKind.u32.wrap (y : Int) = (y : Int) := IntWalk.u32_in _ (by omega)
          have g9 : IntKind.u32.wrap ((x : Int) + (y : Int)) = (x : Int) + (y : Int) := IntWalk.u32_in _ (by omega)
          have g10 : IntKind.u32.wrap (((x : Int) + (y : Int)) * 2) = ((x : Int) + (y : Int)) * 2 := IntWalk.u32_in _ (by omega)
          go_wp2
          go_still_tail 12, (by kernel_rfl)
          change wpList _ _ _ _ _ wr.drew
          clear g1 g2 g3 g4 g5 g6 g7 g8 g9 g10
          go_wp2
          go_roundw
          case rel => exact ⟨k + 1, by omega, by go_num, HST⟩
          case measure => simp [intOf]; omega
        · obtain rfl : k = 30 := by omega
          clear hlt hk
          obtain ⟨hF, hn, ho, hr1, hr2⟩ := hR.out
          clear hR
          go_wp2
          refine wp_region_any (by kernel_rfl) ?_
          change wpAny _ _ _ _ _ _ _ wr.drew
          have hF := hF.drew
          have hn := hn.drew
          have ho := ho.drew
          have hr1 := hr1.drew
          have hr2 := hr2.drew
          have hs1 := (vN_size .u32 (firstTo 30)).trans (firstTo_length 30)
          have hs2 := (vN_size .i64 (cntTo 257)).trans (cntTo_length 257)
          refine wpAny_ready (rs := [0, 1]) (by kernel_rfl) (by simp) ?_
          refine AllReady.cons rfl (fun K hK => ?_) (AllReady.cons rfl (fun K hK => ?_) AllReady.nil)
          · refine step_load_agg a156 rfl rfl rfl ho hs1 ?_; refine hK _ _ ?_; clear hK K
            refine wpAny_ready (rs := [1, 2]) (by kernel_rfl) (by simp) ?_
            refine AllReady.cons rfl (fun K hK => ?_) (AllReady.cons rfl (fun K hK => ?_) AllReady.nil)
            · refine step_load_agg a157 rfl rfl rfl hn hs2 ?_; refine hK _ _ ?_; clear hK K
              refine wpAny_ready (rs := [2]) (by kernel_rfl) (by simp) ?_
              refine AllReady.cons rfl (fun K hK => ?_) AllReady.nil
              refine step_store_agg rfl rfl rfl rfl hr1 (by rw [hs1]; simp [vN_size]) (vN_one _ _) (by rw [hs1]; exact a156.size) ?_; intro wx hbx hFx hsx; refine hK _ _ ?_; clear hK K; have ho := ho.keep hFx (by omega); have hn := hn.keep hFx (by omega); have hr2 := hr2.keep hFx (by omega); have hF := hF.trans (hFx.mono (fun k hk => by subst hk; exact Nat.le_refl _)); clear hr1
              refine wpAny_ready (rs := [3]) (by kernel_rfl) (by simp) ?_
              refine AllReady.cons rfl (fun K hK => ?_) AllReady.nil
              refine step_store_agg rfl rfl rfl rfl hr2 (by rw [hs2]; simp [vN_size]) (vN_one _ _) (by rw [hs2]; exact a157.size) ?_; intro wy hby hFy hsy; refine hK _ _ ?_; clear hK K; have hbx := hbx.keep hFy (by omega); have hF := hF.trans (hFy.mono (fun k hk => by subst hk; show w.heap.size ≤ w.heap.size + 1; omega)); clear hr2
              refine wpAny_done (by kernel_rfl) ?_ _
              go_wp2
              refine bodyPost_ret (results_agg2 a156 a157 rfl rfl hbx hs1 rfl hby hs2) rfl ⟨rfl, hF⟩
            · refine step_store_agg rfl rfl rfl rfl hr1 (by rw [hs1]; simp [vN_size]) (vN_one _ _) (by rw [hs1]; exact a156.size) ?_; intro wx hbx hFx hsx; refine hK _ _ ?_; clear hK K; have ho := ho.keep hFx (by omega); have hn := hn.keep hFx (by omega); have hr2 := hr2.keep hFx (by omega); have hF := hF.trans (hFx.mono (fun k hk => by subst hk; exact Nat.le_refl _)); clear hr1
              refine wpAny_ready (rs := [1]) (by kernel_rfl) (by simp) ?_
              refine AllReady.cons rfl (fun K hK => ?_) AllReady.nil
              refine step_load_agg a157 rfl rfl rfl hn hs2 ?_; refine hK _ _ ?_; clear hK K
              refine wpAny_ready (rs := [3]) (by kernel_rfl) (by simp) ?_
              refine AllReady.cons rfl (fun K hK => ?_) AllReady.nil
              refine step_store_agg rfl rfl rfl rfl hr2 (by rw [hs2]; simp [vN_size]) (vN_one _ _) (by rw [hs2]; exact a157.size) ?_; intro wy hby hFy hsy; refine hK _ _ ?_; clear hK K; have hbx := hbx.keep hFy (by omega); have hF := hF.trans (hFy.mono (fun k hk => by subst hk; show w.heap.size ≤ w.heap.size + 1; omega)); clear hr2
              refine wpAny_done (by kernel_rfl) ?_ _
              go_wp2
              refine bodyPost_ret (results_agg2 a156 a157 rfl rfl hbx hs1 rfl hby hs2) rfl ⟨rfl, hF⟩
          · refine step_load_agg a157 rfl rfl rfl hn hs2 ?_; refine hK _ _ ?_; clear hK K
            refine wpAny_ready (rs := [0]) (by kernel_rfl) (by simp) ?_
            refine AllReady.cons rfl (fun K hK => ?_) AllReady.nil
            refine step_load_agg a156 rfl rfl rfl ho hs1 ?_; refine hK _ _ ?_; clear hK K
            refine wpAny_ready (rs := [2]) (by kernel_rfl) (by simp) ?_
            refine AllReady.cons rfl (fun K hK => ?_) AllReady.nil
            refine step_store_agg rfl rfl rfl rfl hr1 (by rw [hs1]; simp [vN_size]) (vN_one _ _) (by rw [hs1]; exact a156.size) ?_; intro wx hbx hFx hsx; refine hK _ _ ?_; clear hK K; have ho := ho.keep hFx (by omega); have hn := hn.keep hFx (by omega); have hr2 := hr2.keep hFx (by omega); have hF := hF.trans (hFx.mono (fun k hk => by subst hk; exact Nat.le_refl _)); clear hr1
            refine wpAny_ready (rs := [3]) (by kernel_rfl) (by simp) ?_
            refine AllReady.cons rfl (fun K hK => ?_) AllReady.nil
            refine step_store_agg rfl rfl rfl rfl hr2 (by rw [hs2]; simp [vN_size]) (vN_one _ _) (by rw [hs2]; exact a157.size) ?_; intro wy hby hFy hsy; refine hK _ _ ?_; clear hK K; have hbx := hbx.keep hFy (by omega); have hF := hF.trans (hFy.mono (fun k hk => by subst hk; show w.heap.size ≤ w.heap.size + 1; omega)); clear hr2
            refine wpAny_done (by kernel_rfl) ?_ _
            go_wp2
            refine bodyPost_ret (results_agg2 a156 a157 rfl rfl hbx hs1 rfl hby hs2) rfl ⟨rfl, hF⟩
end Go.Proofs.Ytcebckkpablagaa.M
