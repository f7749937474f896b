/- Lev -/
import Derived.Test.YtdgggjeiflllhaaZyDecp
import Derived.Deep.CutBlock
import Derived.Deep.RegionHeld3
import Derived.Test.YtdgggjeiflllhaaZyMem
import Derived.Test.YtdgggjeiflllhaaZyUnw

namespace Go.Proofs.Ytdgggjeiflllhaa.M
open Go.ChangeShapes Go.WideShapes Go.ChangeAt Go.RowKit
def atL : List Nat := [0, 0, 0, 0, 0, 0, 10, 36, 68, 74, 74, 79, 82, 84, 90, 92, 95, 95, 95, 95, 98, 106, 119, 145, 174, 186, 190, 205, 224, 253, 253, 257]
theorem atL_at : ∀ i : Fin 32, atL.getD i.val 0 = at_ i.val := by decide +kernel
def levL (k : Nat) : List Nat := (List.range 32).flatMap fun i => if 1 ≤ i ∧ i ≤ k then [(firstTo 30).getD i 0, (cntTo 257).getD i 0, atL.getD i 0] else [0, 0, if i = k + 1 then atL.getD i 0 else 0]
theorem levL_zero : levL 0 = List.replicate 96 0 := by decide +kernel
theorem levL_len : ∀ k : Fin 31, (levL k.val).length = 96 := by decide +kernel
theorem levL_set1 : ∀ k : Fin 30, (((levL k.val).set ((k.val + 1) * 3) ((firstTo 30).getD (k.val + 1) 0)).set ((k.val + 1) * 3 + 1) ((cntTo 257).getD (k.val + 1) 0)).set ((k.val + 2) * 3 + 2) (atL.getD (k.val + 1) 0 + (cntTo 257).getD (k.val + 1) 0) = levL (k.val + 1) := by decide +kernel
theorem levL_at : ∀ k : Fin 30, (levL k.val).getD ((k.val + 1) * 3 + 2) 0 = atL.getD (k.val + 1) 0 := by decide +kernel
theorem levL_done : ∀ i : Fin 31, (levL 30).getD (i.val * 3) 0 = (firstTo 30).getD i.val 0 ∧ (levL 30).getD (i.val * 3 + 1) 0 = (cntTo 257).getD i.val 0 ∧ (levL 30).getD (i.val * 3 + 2) 0 = atL.getD i.val 0 := by decide +kernel
def ordTo : Nat → List Nat
  | 0 => List.replicate 257 0
  | k + 1 => (ordTo k).set (atL.getD (lens.getD k 0) 0 + (cntTo k).getD (lens.getD k 0) 0) k
theorem ordTo_len (k : Nat) : (ordTo k).length = 257 := by
  induction k with
  | zero => exact List.length_replicate
  | succ k ih => simp [ordTo, ih]
theorem ordTo_ord : ordTo 257 = ord_ := by decide +kernel
theorem ord_fit : ∀ k : Fin 257, atL.getD (lens.getD k.val 0) 0 + (cntTo k.val).getD (lens.getD k.val 0) 0 < 257 := by decide +kernel
theorem z141 : (Try.prog.info? 202).map (·.zero) = some (some (.agg (vN .i64 (List.replicate 96 0)))) := by kernel_rfl
theorem z142 : (Try.prog.info? 203).map (·.zero) = some (some (.agg (vN .i64 (List.replicate 257 0)))) := by kernel_rfl
theorem a141 : Agg Try.prog 202 96 := ⟨⟨_, Try.underlying202, rfl⟩, by kernel_rfl⟩
theorem a142 : Agg Try.prog 203 257 := ⟨⟨_, Try.underlying203, rfl⟩, by kernel_rfl⟩
end Go.Proofs.Ytdgggjeiflllhaa.M
namespace Go.Proofs.Ytdgggjeiflllhaa.M
open Go.ChangeShapes Go.WideShapes Go.ChangeAt Go.RowKit
structure Lv1 (w : World) (g4 g5 g6 k : Nat) (wr : World) : Prop where
  frm : Frm (New w) w wr
  l4 : w.heap.size + 3 < g4
  l5 : w.heap.size + 3 < g5
  l6 : w.heap.size + 3 < g6
  r1 : Blk wr w.heap.size 202 (vN .i64 (List.replicate 96 0))
  r2 : Blk wr (w.heap.size + 1) 203 (vN .i64 (List.replicate 257 0))
  o : Blk wr (w.heap.size + 2) 202 (vN .i64 (levL k))
  s : Blk wr (w.heap.size + 3) 203 (vN .i64 (List.replicate 257 0))
  b4 : Blk wr g4 189 LENS
  b5 : Blk wr g5 206 (vN .u32 (firstTo 30))
  b6 : Blk wr g6 207 (vN .i64 (cntTo 257))
theorem Lv1.next {w wr w' : World} {g4 g5 g6 k : Nat} (h : Lv1 w g4 g5 g6 k wr) (f : Frm (fun j => j = w.heap.size + 2) wr w') (hb : Blk w' (w.heap.size + 2) 202 (vN .i64 (levL (k + 1)))) : Lv1 w g4 g5 g6 (k + 1) w' := by
  have h4 := h.l4
  have h5 := h.l5
  have h6 := h.l6
  exact ⟨h.frm.trans (f.mono (fun j hj => by rw [hj]; unfold New; omega)), h4, h5, h6, h.r1.keep f (by omega), h.r2.keep f (by omega), hb, h.s.keep f (by omega), h.b4.keep f (by omega), h.b5.keep f (by omega), h.b6.keep f (by omega)⟩
structure Lv2 (w : World) (g4 g8 k : Nat) (wr : World) : Prop where
  frm : Frm (New w) w wr
  l8 : w.heap.size + 3 < g8
  r1 : Blk wr w.heap.size 202 (vN .i64 (List.replicate 96 0))
  r2 : Blk wr (w.heap.size + 1) 203 (vN .i64 (List.replicate 257 0))
  o : Blk wr (w.heap.size + 2) 202 (vN .i64 (levL 30))
  s : Blk wr (w.heap.size + 3) 203 (vN .i64 (ordTo k))
  b8 : Blk wr g8 207 (vN .i64 (cntTo k))
set_option maxRecDepth 100000 in
set_option maxHeartbeats 4000000 in
theorem levels_any (w : World) : Calls Try.prog 145 #[] w fun e w' => e = .returned (.tuple #[.agg (vN .i64 (levL 30)), .agg (vN .i64 ord_)]) ∧ Frm (New w) w w' := by
  have t1 := trivial
  have t2 := trivial
  have t3 := trivial
  have t4 := trivial
  have t5 := trivial
  have t6 := trivial
  have t7 := trivial
  have t8 := trivial
  have t9 := trivial
  have t10 := trivial
  go_enter Try.func145, Try.ntmps145
  go_wp2_with (first
    | (clear t1; refine wpList_new rfl rfl z141 rfl ?_; intro wa hba hFa hsa)
    | (clear t2; refine wpList_new rfl rfl z142 rfl ?_; intro wb hbb hFb hsb)
    | (clear t3; refine wpList_new rfl rfl z141 rfl ?_; intro wc hbc hFc hsc)
    | (clear t4; refine wpList_new rfl rfl z142 rfl ?_; intro wd hbd hFd hsd)
    | (go_at_call 139; refine (lengths_any _).mono ?_; rintro e we ⟨rfl, hFe⟩)
    | (clear t5; refine wpList_new rfl rfl z147 rfl ?_; intro wf hbf hFf hsf)
    | (clear t6; refine wpList_store_agg rfl rfl rfl rfl hbf (by rw [LENS_size]; exact Z8_size 257) LENS_one (by rw [LENS_size]; exact a147.size) ?_; intro wg hbg hFg hsg)
    | (go_at_call 146; refine (firsts_any _ _ hbg).mono ?_; rintro e wh ⟨rfl, hFh⟩)
    | (clear t7; refine wpList_new rfl rfl z156 rfl ?_; intro wi hbi hFi hsi)
    | (clear t8; refine wpList_new rfl rfl z157 rfl ?_; intro wj hbj hFj hsj)
    | (clear t9; refine wpList_store_agg rfl rfl rfl rfl (hbi.fresh hFj) (by rw [vN_size, firstTo_length]; rfl) (vN_one _ _) (by rw [vN_size, firstTo_length]; exact a156.size) ?_; intro wk hbk hFk hsk)
    | (clear t10; refine wpList_store_agg rfl rfl rfl rfl (hbj.keep hFk (by omega)) (by rw [vN_size, cntTo_length]; rfl) (vN_one _ _) (by rw [vN_size, cntTo_length]; exact a157.size) ?_; intro wl hbl hFl hsl))
  have c1 := hFe.size
  have c2 := hFh.size
  have s1 : wa.heap.size = w.heap.size + 1 := hsa
  have s2 : wb.heap.size = w.heap.size + 2 := by omega
  have s3 : wc.heap.size = w.heap.size + 3 := by omega
  have s4 : wd.heap.size = w.heap.size + 4 := by omega
  have hFd' : Frm (New w) w wd := ((hFa.then_new Up.new hFb).then_new Up.new hFc).then_new Up.new hFd
  have hFf' : Frm (New w) w wf := (hFd'.then_new Up.new hFe).then_new Up.new hFf
  have hFg' : Frm (New w) w wg := hFf'.trans (hFg.mono (fun k hk => by subst hk; show w.heap.size ≤ we.heap.size; omega))
  have hFj' : Frm (New w) w wj := ((hFg'.then_new Up.new hFh).then_new Up.new hFi).then_new Up.new hFj
  have hFl' : Frm (New w) w wl := (hFj'.trans (hFk.mono (fun k hk => by subst hk; show w.heap.size ≤ wh.heap.size; omega))).trans (hFl.mono (fun k hk => by subst hk; show w.heap.size ≤ wi.heap.size; omega))
  have late : ∀ {b t : Nat} {cs : Array Value}, Blk wd b t cs → b < w.heap.size + 4 → Blk wl b t cs := fun {b t cs} hb hlt =>
    (((((((hb.fresh hFe).fresh hFf).keep hFg (by omega)).fresh hFh).fresh hFi).fresh hFj).keep hFk (by omega)).keep hFl (by omega)
  have hr1 := late (((hba.fresh hFb).fresh hFc).fresh hFd) (by omega)
  have hr2 := late ((hbb.fresh hFc).fresh hFd) (by omega)
  have ho := late (hbc.fresh hFd) (by omega)
  have hs := late hbd (by omega)
  have hb4 : Blk wl we.heap.size 189 LENS := ((((hbg.fresh hFh).fresh hFi).fresh hFj).keep hFk (by omega)).keep hFl (by omega)
  have hb5 : Blk wl wh.heap.size 206 (vN .u32 (firstTo 30)) := hbk.keep hFl (by omega)
  have q4 : w.heap.size + 3 < we.heap.size := by omega
  have q5 : w.heap.size + 3 < wh.heap.size := by omega
  have q6 : w.heap.size + 3 < wi.heap.size := by omega
  have s6 : wi.heap.size = wh.heap.size + 1 := hsi
  rw [s6] at hbl q6
  rw [s1] at hr2
  rw [s2] at ho
  rw [s3] at hs
  try simp only [s1, s2, s3, s6]
  generalize we.heap.size = g4 at *
  generalize wh.heap.size = g5 at *
  have H := Lib.hid (show Lv1 w g4 g5 (g5 + 1) 0 wl from ⟨hFl', q4, q5, q6, hr1, hr2, by rw [levL_zero]; exact ho, hs, hb4, hb5, hbl⟩)
  clear late hba hbb hbc hbd hbf hbg hbi hbj hbk hbl hFa hFb hFc hFd hFe hFf hFg hFh hFi hFj hFk hFl hsa hsb hsc hsd hsf hsg hsi hsj hsk hsl c1 c2 s1 s2 s3 s4 s6 hFd' hFf' hFg' hFj' hFl' hr1 hr2 ho hs hb4 hb5 q4 q5 q6
  go_loopw [7] (fun i wr => ∃ k : Nat, k ≤ 30 ∧ i = .int .i64 ((k : Int) + 1) ∧ Hid (Lv1 w g4 g5 (g5 + 1) k wr)) (fun i _ => 31 - (intOf i).toNat)
  case atStart => exact ⟨0, by omega, rfl, H⟩
  case round =>
    obtain ⟨k, hk, rfl, hR⟩ := hrel
    clear H
    by_cases hlt : k < 30
    · have hC := hR.out
      have hl1 := firstTo_length 30
      have hl2 := cntTo_length 257
      have hll := levL_len ⟨k, by omega⟩
      simp only at hll
      have hc5 : wr.cell? ⟨g5, k + 1, none⟩ = some (.int .u32 (((firstTo 30).getD (k + 1) 0 : Nat) : Int)) := by rw [hC.b5.cell]; exact vN_get (by omega)
      have hc6 : wr.cell? ⟨g5 + 1, k + 1, none⟩ = some (.int .i64 (((cntTo 257).getD (k + 1) 0 : Nat) : Int)) := by rw [hC.b6.cell]; exact vN_get (by omega)
      have ho1 : wr.cell? ⟨w.heap.size + 2, (k + 1) * 3, none⟩ = some (.int .i64 (((levL k).getD ((k + 1) * 3) 0 : Nat) : Int)) := by rw [hC.o.cell]; exact vN_get (by omega)
      have ho2 : wr.cell? ⟨w.heap.size + 2, (k + 1) * 3 + 1, none⟩ = some (.int .i64 (((levL k).getD ((k + 1) * 3 + 1) 0 : Nat) : Int)) := by rw [hC.o.cell]; exact vN_get (by omega)
      have hz1 := hC.o.frozen ((k + 1) * 3)
      have hz2 := hC.o.frozen ((k + 1) * 3 + 1)
      have hsm := firstTo_small ⟨30, by omega⟩ ⟨k + 1, by omega⟩
      simp only at hsm
      have hne5 : ¬ w.heap.size + 2 = g5 := by have := hC.l5; omega
      have hne6 : ¬ w.heap.size + 2 = g5 + 1 := by have := hC.l6; omega
      have hlt5 := hC.b5.lt
      have hlt6 := hC.b6.lt
      have hlto := hC.o.lt
      clear hC hl1 hl2
      generalize hf1 : (firstTo 30).getD (k + 1) 0 = f1 at *
      generalize hn1 : (cntTo 257).getD (k + 1) 0 = n1 at *
      generalize (levL k).getD ((k + 1) * 3) 0 = z1 at *
      generalize (levL k).getD ((k + 1) * 3 + 1) 0 = z2 at *
      have g1 : (0 : Int) ≤ (k : Int) + 1 := by omega
      have g2 : (k : Int) + 1 < 32 := by omega
      have g3 : ((k : Int) + 1).toNat = k + 1 := by omega
      generalize hgo : w.heap.size + 2 = go at *
      have HF1 := Lib.hid hf1
      have HN1 := Lib.hid hn1
      have HGO := Lib.hid hgo
      clear hf1 hn1 hgo
      go_upto_region 8 with (fail)
      have hwf : IntKind.i64.wrap (f1 : Int) = (f1 : Int) := IntWalk.i64_in _ (by omega)
      go_cut [] from 16 to 44 (fun w5 => Hid (Blk w5 go 202 (vN .i64 (((levL k).set ((k + 1) * 3) f1).set ((k + 1) * 3 + 1) n1))) ∧ Hid (Frm (fun j => j = go) wr w5))
      case first =>
        go_region_held3 (fun w' => w'.cell? ⟨g5, k + 1, none⟩ = some (.int .u32 (f1 : Int)) ∧ w'.cell? ⟨g5 + 1, k + 1, none⟩ = some (.int .i64 (n1 : Int)))
          (first | exact ⟨hc5, hc6⟩ | go_keep | (constructor <;> go_keep))
          (fail)
        all_goals go_wp2
        all_goals go_meet
        all_goals
          have h1 := hR.out.o
          rw [HGO.out] at h1
          rw [← vN_set, ← vN_set]
          refine ⟨?_, ?_⟩
          · first
              | exact (h1.drew.set_ _ _).set_ _ _
              | exact ((h1.set_ _ _).set_ _ _).drew
              | exact ((h1.set_ _ _).drew.set_ _ _)
          · show Frm (fun j => j = go) wr _
            first
              | exact ((Frm.refl (fun j => j = go) wr).drew.setCell (p := ⟨go, (k + 1) * 3, none⟩) rfl _).setCell (p := ⟨go, (k + 1) * 3 + 1, none⟩) rfl _
              | exact (((Frm.refl (fun j => j = go) wr).setCell (p := ⟨go, (k + 1) * 3, none⟩) rfl _).setCell (p := ⟨go, (k + 1) * 3 + 1, none⟩) rfl _).drew
      case rest =>
        obtain ⟨hb5, hf5⟩ := hcut
        rename World => w5
        have hL1 := levL_at ⟨k, by omega⟩
        have hL2 := levL_set1 ⟨k, by omega⟩
        simp only at hL1 hL2
        rw [HF1.out, HN1.out] at hL2
        clear hc5 hc6 ho1 ho2 hz1 hz2 hlt5 hlt6 hlto
        have hb6 := hR.out.b6.keep hf5.out (fun e => hne6 e.symm)
        have hc6 : w5.cell? ⟨g5 + 1, k + 1, none⟩ = some (.int .i64 (n1 : Int)) := by rw [hb6.cell, ← HN1.out]; exact vN_get (by rw [cntTo_length]; omega)
        have hle : (((levL k).set ((k + 1) * 3) f1).set ((k + 1) * 3 + 1) n1).length = 96 := by simp [hll]
        have hq1 : (((levL k).set ((k + 1) * 3) f1).set ((k + 1) * 3 + 1) n1).getD ((k + 1) * 3 + 2) 0 = atL.getD (k + 1) 0 := by
          rw [← hL1, List.getD_eq_getElem?_getD, List.getElem?_set_ne (by omega), List.getElem?_set_ne (by omega), ← List.getD_eq_getElem?_getD]
        have ho1 : w5.cell? ⟨go, (k + 1) * 3 + 2, none⟩ = some (.int .i64 ((atL.getD (k + 1) 0 : Nat) : Int)) := by rw [hb5.out.cell, ← hq1]; exact vN_get (by omega)
        have ho2 : w5.cell? ⟨go, (k + 2) * 3 + 2, none⟩ = some (.int .i64 (((((levL k).set ((k + 1) * 3) f1).set ((k + 1) * 3 + 1) n1).getD ((k + 2) * 3 + 2) 0 : Nat) : Int)) := by rw [hb5.out.cell]; exact vN_get (by omega)
        have hz2 := hb5.out.frozen ((k + 2) * 3 + 2)
        have hlt6 := hb6.lt
        have hlto := hb5.out.lt
        have hat : atL.getD (k + 1) 0 ≤ 257 := by
          have : ∀ i : Fin 32, atL.getD i.val 0 ≤ 257 := by decide
          exact this ⟨k + 1, by omega⟩
        have HST : Hid (∀ v, v = ((atL.getD (k + 1) 0 + n1 : Nat) : Int) → ∀ w6, w6 = w5.drew.setCell ⟨go, (k + 2) * 3 + 2, none⟩ (.int .i64 v) → Lv1 w g4 g5 (g5 + 1) (k + 1) w6) := by
          intro v hv w6 h6
          subst hv
          subst h6
          have hbf := (hb5.out.drew).set_ ((k + 2) * 3 + 2) (.int .i64 ((atL.getD (k + 1) 0 + n1 : Nat) : Int))
          rw [vN_set, hL2] at hbf
          rw [← HGO.out] at hbf hf5
          refine hR.out.next (hf5.out.drew.setCell (by rw [HGO.out]) _) ?_
          rw [HGO.out] at hbf ⊢
          exact hbf
        generalize (((levL k).set ((k + 1) * 3) f1).set ((k + 1) * 3 + 1) n1).getD ((k + 2) * 3 + 2) 0 = z3 at *
        generalize atL.getD (k + 1) 0 = a1 at *
        have g4' : IntKind.i64.wrap ((k : Int) + 1 + 1) = (k : Int) + 2 := by rw [IntWalk.i64_in _ (by omega)]; omega
        have g5' : (0 : Int) ≤ (k : Int) + 2 := by omega
        have g6' : (k : Int) + 2 < 32 := by omega
        have g7' : ((k : Int) + 2).toNat = k + 2 := by omega
        have g8' : IntKind.i64.wrap ((a1 : Int) + (n1 : Int)) = (a1 : Int) + (n1 : Int) := IntWalk.i64_in _ (by omega)
        clear hL1 hL2 hle hq1 hb6 hb5 hf5 hll hsm
        go_wp2
        go_still_tail 12, (by kernel_rfl)
        change wpList _ _ _ _ _ w5.drew
        clear g1 g2 g3 g4' g5' g6' g7' g8'
        go_wp2
        go_roundw
        case rel => exact ⟨k + 1, by omega, by go_num, HST.out _ (by push_cast; rfl) _ rfl⟩
        case measure => simp [intOf]; omega
    · obtain rfl : k = 30 := by omega
      have t11 := trivial
      have hC := hR.out
      go_wp2_with (first
        | (clear t11; refine wpList_new rfl rfl z157 rfl ?_; intro wn hbn hFn hsn)
        | (refine wpList_load_agg a147 rfl rfl rfl (hC.b4.fresh hFn) LENS_size ?_))
      have hl8 : w.heap.size + 3 < wr.heap.size := by have := hC.l4; have := hC.b4.lt; omega
      have H2 := Lib.hid (show Lv2 w g4 wr.heap.size 0 wn from ⟨hC.frm.then_new Up.new hFn, hl8, hC.r1.fresh hFn, hC.r2.fresh hFn, hC.o.fresh hFn, hC.s.fresh hFn, hbn⟩)
      generalize wr.heap.size = g8 at *
      clear hC hR hbn hFn hsn hl8 hlt hk
      go_loopw [46] (fun i wr => ∃ k : Nat, k ≤ 257 ∧ i = .int .i64 k ∧ Hid (Lv2 w g4 g8 k wr)) (fun i _ => 257 - (intOf i).toNat)
      case atStart => exact ⟨0, by omega, rfl, H2⟩
      case round =>
        obtain ⟨k, hk, rfl, hR⟩ := hrel
        clear H2
        rename World => wr2
        by_cases hlt : k < 257
        · have hC := hR.out
          have hx := lens_le k
          have hidx := fun W => idx147 k hlt W
          have hfit := ord_fit ⟨k, hlt⟩
          have hLd := levL_done ⟨lens.getD k 0, by omega⟩
          simp only at hfit hLd
          have hll := levL_len ⟨30, by omega⟩
          simp only at hll
          have hc1 : wr2.cell? ⟨w.heap.size + 2, lens.getD k 0 * 3 + 2, none⟩ = some (.int .i64 ((atL.getD (lens.getD k 0) 0 : Nat) : Int)) := by rw [hC.o.cell, ← hLd.2.2]; exact vN_get (by omega)
          have hc2 : wr2.cell? ⟨g8, lens.getD k 0, none⟩ = some (.int .i64 (((cntTo k).getD (lens.getD k 0) 0 : Nat) : Int)) := by rw [hC.b8.cell]; exact vN_get (by rw [cntTo_length]; omega)
          have hc3 : wr2.cell? ⟨w.heap.size + 3, atL.getD (lens.getD k 0) 0 + (cntTo k).getD (lens.getD k 0) 0, none⟩ = some (.int .i64 (((ordTo k).getD (atL.getD (lens.getD k 0) 0 + (cntTo k).getD (lens.getD k 0) 0) 0 : Nat) : Int)) := by rw [hC.s.cell]; exact vN_get (by rw [ordTo_len]; exact hfit)
          have hz3 := hC.s.frozen (atL.getD (lens.getD k 0) 0 + (cntTo k).getD (lens.getD k 0) 0)
          have hz2 := hC.b8.frozen (lens.getD k 0)
          have hlt8 := hC.b8.lt
          have hlto := hC.o.lt
          have hlts := hC.s.lt
          have hn8 : ¬ w.heap.size + 3 = g8 := by have := hC.l8; omega
          have hn8' : ¬ g8 = w.heap.size + 3 := by have := hC.l8; omega
          have hn9 : ¬ g8 = w.heap.size + 2 := by have := hC.l8; omega
          have hcl := cntTo_le k (lens.getD k 0)
          have HN : Hid (Lv2 w g4 g8 (k + 1) ((wr2.drew.setCell ⟨w.heap.size + 3, atL.getD (lens.getD k 0) 0 + (cntTo k).getD (lens.getD k 0) 0, none⟩ (.int .i64 (k : Int))).setCell ⟨g8, lens.getD k 0, none⟩ (.int .i64 (((cntTo k).getD (lens.getD k 0) 0 : Nat) + 1 : Int)))) := by
            have h8 := hC.l8
            refine ⟨(hC.frm.drew.setCell (by show w.heap.size ≤ w.heap.size + 3; omega) _).setCell (by show w.heap.size ≤ g8; omega) _, h8, ?_, ?_, ?_, ?_, ?_⟩
            · exact (hC.r1.drew.far (by simp) _).far (by show w.heap.size ≠ g8; omega) _
            · exact (hC.r2.drew.far (by simp) _).far (by show w.heap.size + 1 ≠ g8; omega) _
            · exact (hC.o.drew.far (by simp) _).far (by show w.heap.size + 2 ≠ g8; omega) _
            · refine Blk.far ?_ (by show w.heap.size + 3 ≠ g8; omega) _
              have := hC.s.drew.set_ (atL.getD (lens.getD k 0) 0 + (cntTo k).getD (lens.getD k 0) 0) (.int .i64 (k : Int))
              rw [vN_set] at this
              exact this
            · have := (hC.b8.drew.far (p := ⟨w.heap.size + 3, atL.getD (lens.getD k 0) 0 + (cntTo k).getD (lens.getD k 0) 0, none⟩) (by show g8 ≠ w.heap.size + 3; omega) (.int .i64 (k : Int))).set_ (lens.getD k 0) (.int .i64 (((cntTo k).getD (lens.getD k 0) 0 + 1 : Nat) : Int))
              rw [vN_set] at this
              rw [cntTo_succ k hlt]
              exact this
          clear hR hC hLd hll
          generalize hg3 : w.heap.size + 3 = gs at *
          generalize hg2 : w.heap.size + 2 = go at *
          have HG3 := Lib.hid hg3
          have HG2 := Lib.hid hg2
          clear hg3 hg2
          generalize hy : (cntTo k).getD (lens.getD k 0) 0 = y at *
          generalize hx9 : lens.getD k 0 = x at *
          generalize hat : atL.getD x 0 = a1 at *
          generalize (ordTo k).getD (a1 + y) 0 = z at *
          have HY := Lib.hid hy
          have HX9 := Lib.hid hx9
          have HAT := Lib.hid hat
          clear hy hx9 hat
          have g8' : IntKind.i64.wrap ((a1 : Int) + (y : Int)) = ((a1 + y : Nat) : Int) := by
            rw [show ((a1 : Int) + (y : Int)) = ((a1 + y : Nat) : Int) from by omega]; exact IntWalk.i64_in _ (by omega)
          generalize hay : a1 + y = ay at *
          have hx32 : x < 32 := by omega
          have hx32' : (x : Int) < 32 := by omega
          have hay' : (ay : Int) < 257 := by omega
          have HAY := Lib.hid hay
          clear hay
          go_wp2
          go_still_tail 10, (by kernel_rfl)
          change wpList _ _ _ _ _ wr2.drew
          go_wp2
          go_roundw
          case rel => exact ⟨k + 1, by omega, by go_num, HN⟩
          case measure => simp [intOf]; omega
        · obtain rfl : k = 257 := by omega
          clear hlt hk
          obtain ⟨hF, hl8, hr1, hr2, ho, hn, hb8⟩ := hR.out
          rw [ordTo_ord] at hn
          clear hR
          go_wp2
          refine wp_region_any (by kernel_rfl) ?_
          change wpAny _ _ _ _ _ _ _ wr2.drew
          have hF := hF.drew
          have hn := hn.drew
          have ho := ho.drew
          have hr1 := hr1.drew
          have hr2 := hr2.drew
          have hs1 : (vN .i64 (levL 30)).size = 96 := (vN_size .i64 (levL 30)).trans (levL_len ⟨30, by omega⟩)
          have hs2 : (vN .i64 ord_).size = 257 := by rw [← ordTo_ord]; exact (vN_size .i64 (ordTo 257)).trans (ordTo_len 257)
          refine wpAny_ready (rs := [0, 1]) (by kernel_rfl) (by simp) ?_
          refine AllReady.cons rfl (fun K hK => ?_) (AllReady.cons rfl (fun K hK => ?_) AllReady.nil)
          · refine step_load_agg a141 rfl rfl rfl ho hs1 ?_; refine hK _ _ ?_; clear hK K
            refine wpAny_ready (rs := [1, 2]) (by kernel_rfl) (by simp) ?_
            refine AllReady.cons rfl (fun K hK => ?_) (AllReady.cons rfl (fun K hK => ?_) AllReady.nil)
            · refine step_load_agg a142 rfl rfl rfl hn hs2 ?_; refine hK _ _ ?_; clear hK K
              refine wpAny_ready (rs := [2]) (by kernel_rfl) (by simp) ?_
              refine AllReady.cons rfl (fun K hK => ?_) AllReady.nil
              refine step_store_agg rfl rfl rfl rfl hr1 (by rw [hs1]; simp [vN_size]) (vN_one _ _) (by rw [hs1]; exact a141.size) ?_; intro wx hbx hFx hsx; refine hK _ _ ?_; clear hK K; have ho := ho.keep hFx (by omega); have hn := hn.keep hFx (by omega); have hr2 := hr2.keep hFx (by omega); have hF := hF.trans (hFx.mono (fun k hk => by subst hk; exact Nat.le_refl _)); clear hr1
              refine wpAny_ready (rs := [3]) (by kernel_rfl) (by simp) ?_
              refine AllReady.cons rfl (fun K hK => ?_) AllReady.nil
              refine step_store_agg rfl rfl rfl rfl hr2 (by rw [hs2]; simp [vN_size]) (vN_one _ _) (by rw [hs2]; exact a142.size) ?_; intro wy hby hFy hsy; refine hK _ _ ?_; clear hK K; have hbx := hbx.keep hFy (by omega); have hF := hF.trans (hFy.mono (fun k hk => by subst hk; show w.heap.size ≤ w.heap.size + 1; omega)); clear hr2
              refine wpAny_done (by kernel_rfl) ?_ _
              go_wp2
              refine bodyPost_ret (results_agg2 a141 a142 rfl rfl hbx hs1 rfl hby hs2) rfl ⟨rfl, hF⟩
            · refine step_store_agg rfl rfl rfl rfl hr1 (by rw [hs1]; simp [vN_size]) (vN_one _ _) (by rw [hs1]; exact a141.size) ?_; intro wx hbx hFx hsx; refine hK _ _ ?_; clear hK K; have ho := ho.keep hFx (by omega); have hn := hn.keep hFx (by omega); have hr2 := hr2.keep hFx (by omega); have hF := hF.trans (hFx.mono (fun k hk => by subst hk; exact Nat.le_refl _)); clear hr1
              refine wpAny_ready (rs := [1]) (by kernel_rfl) (by simp) ?_
              refine AllReady.cons rfl (fun K hK => ?_) AllReady.nil
              refine step_load_agg a142 rfl rfl rfl hn hs2 ?_; refine hK _ _ ?_; clear hK K
              refine wpAny_ready (rs := [3]) (by kernel_rfl) (by simp) ?_
              refine AllReady.cons rfl (fun K hK => ?_) AllReady.nil
              refine step_store_agg rfl rfl rfl rfl hr2 (by rw [hs2]; simp [vN_size]) (vN_one _ _) (by rw [hs2]; exact a142.size) ?_; intro wy hby hFy hsy; refine hK _ _ ?_; clear hK K; have hbx := hbx.keep hFy (by omega); have hF := hF.trans (hFy.mono (fun k hk => by subst hk; show w.heap.size ≤ w.heap.size + 1; omega)); clear hr2
              refine wpAny_done (by kernel_rfl) ?_ _
              go_wp2
              refine bodyPost_ret (results_agg2 a141 a142 rfl rfl hbx hs1 rfl hby hs2) rfl ⟨rfl, hF⟩
          · refine step_load_agg a142 rfl rfl rfl hn hs2 ?_; refine hK _ _ ?_; clear hK K
            refine wpAny_ready (rs := [0]) (by kernel_rfl) (by simp) ?_
            refine AllReady.cons rfl (fun K hK => ?_) AllReady.nil
            refine step_load_agg a141 rfl rfl rfl ho hs1 ?_; refine hK _ _ ?_; clear hK K
            refine wpAny_ready (rs := [2]) (by kernel_rfl) (by simp) ?_
            refine AllReady.cons rfl (fun K hK => ?_) AllReady.nil
            refine step_store_agg rfl rfl rfl rfl hr1 (by rw [hs1]; simp [vN_size]) (vN_one _ _) (by rw [hs1]; exact a141.size) ?_; intro wx hbx hFx hsx; refine hK _ _ ?_; clear hK K; have ho := ho.keep hFx (by omega); have hn := hn.keep hFx (by omega); have hr2 := hr2.keep hFx (by omega); have hF := hF.trans (hFx.mono (fun k hk => by subst hk; exact Nat.le_refl _)); clear hr1
            refine wpAny_ready (rs := [3]) (by kernel_rfl) (by simp) ?_
            refine AllReady.cons rfl (fun K hK => ?_) AllReady.nil
            refine step_store_agg rfl rfl rfl rfl hr2 (by rw [hs2]; simp [vN_size]) (vN_one _ _) (by rw [hs2]; exact a142.size) ?_; intro wy hby hFy hsy; refine hK _ _ ?_; clear hK K; have hbx := hbx.keep hFy (by omega); have hF := hF.trans (hFy.mono (fun k hk => by subst hk; show w.heap.size ≤ w.heap.size + 1; omega)); clear hr2
            refine wpAny_done (by kernel_rfl) ?_ _
            go_wp2
            refine bodyPost_ret (results_agg2 a141 a142 rfl rfl hbx hs1 rfl hby hs2) rfl ⟨rfl, hF⟩
end Go.Proofs.Ytdgggjeiflllhaa.M
namespace Go.Proofs.Ytdgggjeiflllhaa.M
open Go.ChangeShapes Go.WideShapes Go.ChangeAt Go.RowKit
structure HdAt (w : World) (b : Bytes) (g1 g2 k c n : Nat) (ones : Bool) (A : Option Addr) (cp : Nat) (l : Bytes) (wr : World) : Prop where
  opn : Open n c
  eq : ugo ((ubits b).drop k) c n ones l = unhuf b
  le : l.length ≤ 4096
  app : App (New w) wr 5 1 A l.length cp (bvs l)
  b1 : Blk wr g1 202 (vN .i64 (levL 30))
  b2 : Blk wr g2 203 (vN .i64 ord_)
  frm : Frm (New w) w wr
theorem HdAt.none_ {w wr w2 : World} {b l : Bytes} {g1 g2 k c n cp x : Nat} {ones : Bool} {A : Option Addr} (h : HdAt w b g1 g2 k c n ones A cp l wr) (hd : (ubits b).drop k = x :: (ubits b).drop (k + 1)) (hx : x ≤ 1) (hl : look (n + 1) (2 * c + x) = none) (hF : Frm (New wr) wr w2) :
    HdAt w b g1 g2 (k + 1) (2 * c + x) (n + 1) (ones && x == 1) A cp l w2 := by
  have h1 := h.eq
  rw [hd, ugo_none _ _ _ hl] at h1
  exact ⟨(h.opn.step x hx).2.2 hl, h1, h.le, h.app.fresh hF, h.b1.fresh hF, h.b2.fresh hF, h.frm.then_new Up.new hF⟩
theorem HdAt.huf {w wr : World} {b l : Bytes} {g1 g2 k c n cp x : Nat} {ones : Bool} {A : Option Addr} (h : HdAt w b g1 g2 k c n ones A cp l wr) (hd : (ubits b).drop k = x :: (ubits b).drop (k + 1)) (hl : look (n + 1) (2 * c + x) = some 256) :
    unhuf b = ([], 22) := by
  have h1 := h.eq
  rw [hd, ugo_some _ _ _ hl, if_pos rfl] at h1
  exact h1.symm
theorem HdAt.long {w wr : World} {b l : Bytes} {g1 g2 k c n cp x s : Nat} {ones : Bool} {A : Option Addr} (h : HdAt w b g1 g2 k c n ones A cp l wr) (hd : (ubits b).drop k = x :: (ubits b).drop (k + 1)) (hl : look (n + 1) (2 * c + x) = some s) (hs : s ≠ 256) (h4 : 4096 ≤ l.length) :
    unhuf b = ([], 23) := by
  have h1 := h.eq
  rw [hd, ugo_some _ _ _ hl, if_neg hs, if_pos h4] at h1
  exact h1.symm
theorem HdAt.some_ {w wr w2 : World} {b l : Bytes} {g1 g2 k c n cp cp2 x s : Nat} {ones : Bool} {A A2 : Option Addr} (h : HdAt w b g1 g2 k c n ones A cp l wr) (hd : (ubits b).drop k = x :: (ubits b).drop (k + 1)) (hl : look (n + 1) (2 * c + x) = some s) (hs : s ≠ 256) (h4 : ¬ 4096 ≤ l.length)
    (hA : App (New w) w2 5 1 A2 (l ++ [UInt8.ofNat s]).length cp2 (bvs (l ++ [UInt8.ofNat s]))) (hB1 : Blk w2 g1 202 (vN .i64 (levL 30))) (hB2 : Blk w2 g2 203 (vN .i64 ord_)) (hF : Frm (New w) wr w2) : HdAt w b g1 g2 (k + 1) 0 0 true A2 cp2 (l ++ [UInt8.ofNat s]) w2 := by
  have h1 := h.eq
  rw [hd, ugo_some _ _ _ hl, if_neg hs, if_neg h4] at h1
  exact ⟨Open.zero, h1, by simp; omega, hA, hB1, hB2, h.frm.trans hF⟩
theorem and_1_u8 (x m : Nat) (hx : x < 256) (hm : m ≤ 7) : bits .and .u8 ((x : Int) / 2 ^ m) 1 = ((x / 2 ^ m % 2 : Nat) : Int) := by
  have key : ∀ m : Fin 8, ∀ x : Fin 256, bits .and .u8 ((x.val : Int) / 2 ^ m.val) 1 = ((x.val / 2 ^ m.val % 2 : Nat) : Int) := by decide +kernel
  exact key ⟨m, by omega⟩ ⟨x, hx⟩
theorem wraps64i (n : Int) (h₀ : 0 ≤ n) (h₁ : n < 2 ^ 63) : IntKind.i64.wrap n = n := IntWalk.i64_in _ (by omega)
theorem or_bit_i64 (c x : Nat) (hc : c < 536870912) (hx : x ≤ 1) : bits .or .i64 ((c : Int) * 2) (x : Int) = ((2 * c + x : Nat) : Int) := by
  rw [show ((c : Int) * 2) = ((c * 2 : Nat) : Int) from by omega, bits_join .i64 63 (by decide) wraps64i 1 ((c * 2 : Nat) : Int) (x : Int) (by omega) (by omega) (by omega) (by omega) (by omega) (by omega)]
  omega
theorem lev_wraps (a1 c2 f1 : Nat) (ha : a1 ≤ 257) (hc : c2 < 1073741824) (hf : f1 ≤ c2) : IntKind.i64.wrap ((a1 : Int) + (c2 : Int)) = ((a1 + c2 : Nat) : Int) ∧ IntKind.i64.wrap (((a1 + c2 : Nat) : Int) - (f1 : Int)) = ((a1 + (c2 - f1) : Nat) : Int) := by
  constructor
  · rw [show ((a1 : Int) + (c2 : Int)) = ((a1 + c2 : Nat) : Int) from by omega]; exact IntWalk.i64_in _ (by omega)
  · rw [show (((a1 + c2 : Nat) : Int) - (f1 : Int)) = ((a1 + (c2 - f1) : Nat) : Int) from by omega]; exact IntWalk.i64_in _ (by omega)
theorem lev_facts (n : Nat) (hn : n ≤ 30) : (levL 30).getD (n * 3) 0 = fst_ n ∧ (levL 30).getD (n * 3 + 1) 0 = cnt_ n ∧ (levL 30).getD (n * 3 + 2) 0 = at_ n := by
  have h := levL_done ⟨n, by omega⟩
  have h2 := atL_at ⟨n, by omega⟩
  simp only at h h2
  rw [h2] at h
  exact h
set_option maxRecDepth 100000 in
set_option maxHeartbeats 2000000 in
theorem hdecode_any (b : Bytes) (A : Option Addr) (cb : Nat) (w : World) (hR : Rd w A (bvs b)) (hl : b.length ≤ 1099511627776) :
    Calls Try.prog 133 #[.slice A b.length cb] w fun e w' => e = .returned (.tuple #[str (unhuf b).1, .int .i64 ((unhuf b).2 : Nat)]) ∧ Frm (New w) w w' := by
  have t1 := trivial
  have t2 := trivial
  have t3 := trivial
  have t4 := trivial
  have hs1 : (vN .i64 (levL 30)).size = 96 := (vN_size .i64 (levL 30)).trans (levL_len ⟨30, by omega⟩)
  have hs2 : (vN .i64 ord_).size = 257 := by rw [← ordTo_ord]; exact (vN_size .i64 (ordTo 257)).trans (ordTo_len 257)
  have HR := Lib.hid hR
  have HS1 := Lib.hid hs1
  have HS2 := Lib.hid hs2
  clear hR hs1 hs2
  go_enter Try.func133, Try.ntmps133
  go_wp2_with (first
    | (go_at_call 145; refine (levels_any _).mono ?_; rintro e w1 ⟨rfl, hF1⟩)
    | (clear t1; refine wpList_new rfl rfl z141 rfl ?_; intro wa hba hFa hsa)
    | (clear t2; refine wpList_new rfl rfl z142 rfl ?_; intro wb hbb hFb hsb)
    | (clear t3; refine wpList_store_agg rfl rfl rfl rfl (hba.fresh hFb) (by rw [HS1.out]; rfl) (vN_one _ _) (by rw [HS1.out]; exact a141.size) ?_; intro wc hbc hFc hsc)
    | (clear t4; refine wpList_store_agg rfl rfl rfl rfl (hbb.keep hFc (by omega)) (by rw [HS2.out]; rfl) (vN_one _ _) (by rw [HS2.out]; exact a142.size) ?_; intro w2 hb2 hF2 hs2))
  have c1 := hF1.size
  have hb1 : Blk w2 w1.heap.size 202 (vN .i64 (levL 30)) := hbc.keep hF2 (by omega)
  have hF : Frm (New w) w w2 := ((hF1.then_new Up.new (hFa.then_new Up.new hFb)).trans (hFc.mono (fun k hk => by subst hk; exact c1))).trans (hF2.mono (fun k hk => by subst hk; show w.heap.size ≤ wa.heap.size; omega))
  have sa : wa.heap.size = w1.heap.size + 1 := hsa
  rw [sa] at hb2
  try simp only [sa]
  have H := Lib.hid (show HdAt w b w1.heap.size (w1.heap.size + 1) 0 0 0 true none 0 [] w2 from ⟨Open.zero, rfl, by simp, App.none_, hb1, hb2, hF⟩)
  generalize w1.heap.size = g1 at *
  clear hb1 hb2 hF hba hbb hbc hFa hFb hFc hF1 hF2 hsa hsb hsc hs2 c1 sa
  go_loopw [6, 7, 8, 9, 21] (fun o c n ones i wr => ∃ (k cc nn : Nat) (on : Bool) (A' : Option Addr) (cp : Nat) (l : Bytes), k ≤ 8 * b.length ∧ i = .int .i64 k ∧ c = .int .i64 cc ∧ n = .int .i64 nn ∧ ones = .bool on ∧ o = .slice A' l.length cp ∧ Hid (HdAt w b g1 (g1 + 1) k cc nn on A' cp l wr)) (fun _ _ _ _ i _ => 8 * b.length - (intOf i).toNat)
  case atStart => exact ⟨0, 0, 0, true, none, 0, [], by omega, rfl, rfl, rfl, rfl, rfl, H⟩
  case round =>
    obtain ⟨k, c, n, on, A', cp, l, hk, rfl, rfl, rfl, rfl, rfl, hU⟩ := hrel
    clear H
    have hopn := hU.out.opn.le
    have hl4 := hU.out.le
    by_cases hlt : k < 8 * b.length
    · have hk8 : k / 8 < b.length := by omega
      have hRd := HR.out.fresh hU.out.frm
      obtain ⟨gb, off, rfl, hx⟩ := hRd.at_ (k := k / 8) (by rw [bvs_length]; exact hk8)
      have hdrop := ubits_drop b k hk8
      simp only [bvs, List.getElem_map, bv] at hx
      have hb8 : (b[k / 8]).toNat < 256 := (b[k / 8]).toNat_lt
      generalize b[k / 8] = by_ at *
      obtain ⟨m7, hm7⟩ : ∃ m7 : Nat, m7 = 7 - k % 8 := ⟨_, rfl⟩
      rw [← hm7] at hdrop
      have g1' : IntKind.i64.wrap (7 - (k : Int) % 8) = (m7 : Int) := by rw [IntWalk.i64_in _ (by omega)]; omega
      have g2' : IntKind.u64.wrap (m7 : Int) = (m7 : Int) := IntWalk.u64_in _ (by omega)
      have hm7b : m7 ≤ 7 := by omega
      have hand := and_1_u8 by_.toNat m7 hb8 hm7b
      have hx1 : by_.toNat / 2 ^ m7 % 2 ≤ 1 := by omega
      generalize by_.toNat / 2 ^ m7 % 2 = x at *
      have hor := or_bit_i64 c x hopn.2 hx1
      have hstep := hU.out.opn.step x hx1
      have hNone := fun h w2 hF => hU.out.none_ (w2 := w2) hdrop hx1 h hF
      have hHuf := fun h => hU.out.huf hdrop h
      have hLong := fun s h => hU.out.long (s := s) hdrop h
      have hSome := fun s A2 cp2 w2 h => hU.out.some_ (s := s) (A2 := A2) (cp2 := cp2) (w2 := w2) hdrop h
      have hcn : 2 * c + x < 1073741824 := by omega
      generalize hc2 : 2 * c + x = c2 at *
      obtain ⟨hf1, _, hop⟩ := hstep
      have hlv := look_lev (n + 1) c2 (by omega) hf1
      obtain ⟨e1, e2, e3⟩ := lev_facts (n + 1) (by omega)
      have hl30 := levL_len ⟨30, by omega⟩
      simp only at hl30
      have hv1 : wr.cell? ⟨g1, (n + 1) * 3, none⟩ = some (.int .i64 (fst_ (n + 1) : Nat)) := by rw [hU.out.b1.cell, ← e1]; exact vN_get (by omega)
      have hv2 : wr.cell? ⟨g1, (n + 1) * 3 + 1, none⟩ = some (.int .i64 (cnt_ (n + 1) : Nat)) := by rw [hU.out.b1.cell, ← e2]; exact vN_get (by omega)
      have hv3 : wr.cell? ⟨g1, (n + 1) * 3 + 2, none⟩ = some (.int .i64 (at_ (n + 1) : Nat)) := by rw [hU.out.b1.cell, ← e3]; exact vN_get (by omega)
      have hvl := hU.out.b1.lt
      have hcl := cnt_le ⟨n + 1, by omega⟩
      have hal : at_ (n + 1) ≤ 257 := by
        have h1 : ∀ i : Fin 32, atL.getD i.val 0 ≤ 257 := by decide
        rw [← atL_at ⟨n + 1, by omega⟩]
        exact h1 ⟨n + 1, by omega⟩
      simp only at hcl
      clear e1 e2 e3 hl30 hop
      generalize fst_ (n + 1) = f1 at *
      generalize cnt_ (n + 1) = n1 at *
      generalize at_ (n + 1) = a1 at *
      have hn1b : n + 1 < 32 := by omega
      have hn1c : ((n : Int) + 1) < 32 := by omega
      have HRD := Lib.hid hRd
      have HDROP := Lib.hid hdrop
      have HM7 := Lib.hid hm7
      have HNONE := Lib.hid hNone
      have HHUF := Lib.hid hHuf
      have HLONG := Lib.hid hLong
      have HSOME := Lib.hid hSome
      have HC2 := Lib.hid hc2
      have HLV := Lib.hid hlv
      clear hRd hdrop hm7 hNone hHuf hLong hSome hc2 hlv
      go_upto_region 8 with (fail)
      go_cut [7, 8, 9] from 22 to 78 (fun v7 v8 v9 w5 => (v7 = .int .i64 (c2 : Int) ∧ v8 = .int .i64 ((n + 1 : Nat) : Int) ∧ v9 = .bool (on && x == 1)) ∧ wr = w5)
      case first =>
        have hx01 : x = 0 ∨ x = 1 := by omega
        rcases hx01 with rfl | rfl
        · go_wp2
          all_goals go_meet
          all_goals refine ⟨⟨congrArg (Value.int .i64) hor, by go_num, ?_⟩, rfl⟩
          all_goals simp [*]
        · go_wp2
          all_goals go_meet
          all_goals refine ⟨⟨congrArg (Value.int .i64) hor, by go_num, ?_⟩, rfl⟩
          all_goals simp [*]
      case rest =>
        obtain ⟨⟨rfl, rfl, rfl⟩, rfl⟩ := hcut
        generalize (on && x == 1) = on2 at *
        clear hand hor hx
        go_upto_region 10 with (fail)
        have hBx := Blk.new wr 201 #[.int .i64 f1, .int .i64 n1, .int .i64 a1]
        have hFx : Frm (New wr) wr (wr.alloc (Obj.cells #[.int .i64 f1, .int .i64 n1, .int .i64 a1] 201)) := (Frm.refl _ _).alloc Up.new _
        generalize wr.alloc (Obj.cells #[.int .i64 f1, .int .i64 n1, .int .i64 a1] 201) = w3 at *
        generalize hbx : wr.heap.size = bx at *
        have hy0 := hBx.cell 0
        have hy1 := hBx.cell 1
        have hy2 := hBx.cell 2
        simp only [List.getElem?_toArray, List.getElem?_cons_zero, List.getElem?_cons_succ] at hy0 hy1 hy2
        have hbl := hBx.lt
        have HBX := Lib.hid hbx
        have HBX := Lib.hid hBx
        clear hbx hBx
        have hwd : IntKind.i64.wrap ((c2 : Int) - (f1 : Int)) = ((c2 - f1 : Nat) : Int) := by
          rw [show ((c2 : Int) - (f1 : Int)) = ((c2 - f1 : Nat) : Int) from by omega]; exact IntWalk.i64_in _ (by omega)
        obtain ⟨hv, hv'⟩ := HLV.out
        by_cases hq : f1 + n1 ≤ c2
        · have hUn := Lib.hid (HNONE.out (hv' hq) w3 hFx)
          have hge : n1 ≤ c2 - f1 := by omega
          generalize c2 - f1 = d at *
          clear hv hv' hv1 hv2 hv3
          go_wp2
          go_roundw
          case rel => exact ⟨k + 1, c2, n + 1, on2, A', cp, l, by omega, by go_num, rfl, rfl, rfl, rfl, hUn⟩
          case measure => simp [intOf]; omega
        · obtain ⟨s, hlo, hor2, hs257⟩ := hv (by omega)
          have hb2 := hU.out.b2.fresh hFx
          have hod : a1 + (c2 - f1) < 257 := by
            have := (List.getElem?_eq_some_iff.1 hor2).1
            rw [← ordTo_ord, ordTo_len] at this
            exact this
          have hcell : w3.cell? ⟨g1 + 1, a1 + (c2 - f1), none⟩ = some (.int .i64 (s : Int)) := by
            have h9 : ord_.getD (a1 + (c2 - f1)) 0 = s := by rw [List.getD_eq_getElem?_getD, hor2]; rfl
            rw [hb2.cell, ← h9]
            exact vN_get (by rw [← ordTo_ord, ordTo_len]; exact hod)
          have hb2l := hb2.lt
          obtain ⟨hwe, hwf⟩ := lev_wraps a1 c2 f1 hal hcn hf1
          have hlt2 : c2 - f1 < n1 := Nat.sub_lt_left_of_lt_add hf1 (Nat.lt_of_not_le hq)
          generalize c2 - f1 = d at *
          generalize a1 + c2 = ac at *
          generalize a1 + d = ad at *
          have HB2 := Lib.hid hb2
          have HOR2 := Lib.hid hor2
          clear hb2 hor2
          clear hv hv' hv1 hv2 hv3 hq hf1
          by_cases h256 : s = 256
          · subst h256
            have hun : Hid (unhuf b = ([], 22)) := HHUF.out hlo
            have HLO := Lib.hid hlo
            clear hlo
            go_wp2
            go_ret2
            rw [hun.out]
            exact ⟨rfl, hU.out.frm.then_new Up.new hFx⟩
          · have h256' : ((s : Int) == 256) = false := by rw [beq_eq_false_iff_ne]; omega
            by_cases h4 : l.length = 4096
            · have hun : Hid (unhuf b = ([], 23)) := HLONG.out s hlo h256 (by omega)
              have HLO := Lib.hid hlo
              clear hlo
              have h4' : ((l.length : Int) == 4096) = true := by rw [beq_iff_eq]; omega
              go_wp2
              go_ret2
              rw [hun.out]
              exact ⟨rfl, hU.out.frm.then_new Up.new hFx⟩
            · have h4' : ((l.length : Int) == 4096) = false := by rw [beq_eq_false_iff_ne]; omega
              have hUn := Lib.hid (fun A2 cp2 w2 => HSOME.out s A2 cp2 w2 hlo h256 (by omega))
              have HLO := Lib.hid hlo
              clear hlo
              have hbs : bvs [UInt8.ofNat s] = [Value.int .u8 (s : Int)] := by simp [bvs, bv]; omega
              have hA3 := hU.out.app.fresh hFx
              have hu3 : Up (New w) w3 := Up.new.of (Nat.le_trans hU.out.frm.size hFx.size)
              have hB1 := hU.out.b1.fresh hFx
              have HBS := Lib.hid hbs
              have HA3 := Lib.hid hA3
              have HB1 := Lib.hid hB1
              have HFX := Lib.hid hFx
              clear hbs hA3 hB1 hFx
              go_wp2_with (at_builtin; refine wpList_append_lit u8s rfl rfl rfl HA3.out hu3 rfl rfl (one_cell _ rfl) (by omega) ?_; intro A4 c4 w5 hA4 hF4 _ hW4)
              go_roundw
              case rel =>
                refine ⟨k + 1, 0, 0, true, A4, c4, l ++ [UInt8.ofNat s], by omega, by go_num, rfl, rfl, rfl, by simp, hUn.out A4 c4 w5 ?_ (HB1.out.app HA3.out (by decide) hW4) (HB2.out.app HA3.out (by decide) hW4) ((HFX.out.mono (fun j hj => Nat.le_trans hU.out.frm.size hj)).trans hF4)⟩
                rw [bvs_append, List.length_append, HBS.out]
                exact hA4
              case measure => simp [intOf]; omega
    · obtain rfl : k = 8 * b.length := by omega
      have heq := hU.out.eq
      rw [List.drop_eq_nil_of_le (by rw [ubits_length]; omega), ugo_nil] at heq
      have hF := hU.out.frm
      have hcv := run_conv (c := cp) hU.out.app.rd
      simp only [str] at hcv
      have HEQ := Lib.hid heq
      have HF := Lib.hid hF
      have HU2 := Lib.hid hU
      clear heq hF hU
      by_cases hq : 8 ≤ n ∨ on = false
      · have hun : Hid (unhuf b = ([], 22)) := by show _ = _; rw [← HEQ.out, if_pos hq]
        clear HEQ
        by_cases hq8 : 8 ≤ n
        · go_wp2
          go_ret2
          rw [hun.out]
          exact ⟨rfl, HF.out⟩
        · have hof : on = false := by rcases hq with h | h; exact absurd h hq8; exact h
          subst hof
          go_wp2
          go_ret2
          rw [hun.out]
          exact ⟨rfl, HF.out⟩
      · have hun : Hid (unhuf b = (l, 0)) := by show _ = _; rw [← HEQ.out, if_neg hq]
        have hq8 : ¬ 8 ≤ n := fun h => hq (.inl h)
        have hof : on = true := by cases on; exact absurd (.inr rfl) hq; rfl
        subst hof
        clear hq HEQ
        go_wp2
        go_ret2
        rw [hun.out]
        exact ⟨rfl, HF.out⟩
end Go.Proofs.Ytdgggjeiflllhaa.M
namespace Go.Proofs.Ytdgggjeiflllhaa.M
open Go.ChangeShapes Go.WideShapes Go.ChangeAt Go.RowKit
theorem nrdp_any (b : Bytes) (A : Option Addr) (c k : Nat) (w : World) (hR : Rd w A (bvs b)) (hl : b.length ≤ 140737488355328) (k0 : 1 ≤ k) (k1 : k ≤ 8) :
    Calls Try.prog 91 #[.slice A b.length c, .int .i64 k] w (Ret3 w (rdp b k)) := by
  cases b with
  | nil => exact rdp_nil A c k w
  | cons x r =>
    obtain ⟨g, off, rfl, _⟩ := hR.at_ (k := 0) (by simp)
    exact rdp_cons x r g off c k w hR hl k0 k1
set_option maxRecDepth 100000 in
set_option maxHeartbeats 1000000 in
theorem hstr_any (b : Bytes) (A : Option Addr) (c : Nat) (w : World) (hR : Rd w A (bvs b)) (hl : b.length ≤ 1099511627776) (hc : b.length ≤ c) :
    Calls Try.prog 134 #[.slice A b.length c] w (RetS w (strD b 7)) := by
  have hrd := nrdp_any b A c 7 w hR (by omega) (by omega) (by omega)
  have hrg := rdp_range b 7 (by decide)
  have hD : Hid (strD b 7 = match rdp b 7 with
    | (n, at_, e) =>
      if e ≠ 0 then ([], 0, e) else if 4096 < n then ([], 0, 23) else if b.length - at_ < n then ([], 0, 20) else
      if (b.headD 0).toNat / 2 ^ 7 % 2 = 0 then ((b.drop at_).take n, at_ + n, 0) else
      match unhuf ((b.drop at_).take n) with
      | (s, e) => if e ≠ 0 then ([], 0, e) else (s, at_ + n, 0)) := rfl
  generalize rdp b 7 = q at *
  obtain ⟨n, at_, e⟩ := q
  unfold Ret3 at hrd
  simp only at hrd hrg
  have hD1 : Hid (strD b 7 = if e ≠ 0 then ([], 0, e) else if 4096 < n then ([], 0, 23) else if b.length - at_ < n then ([], 0, 20) else
      if (b.headD 0).toNat / 2 ^ 7 % 2 = 0 then ((b.drop at_).take n, at_ + n, 0) else
      match unhuf ((b.drop at_).take n) with
      | (s, e) => if e ≠ 0 then ([], 0, e) else (s, at_ + n, 0)) := hD.out
  clear hD
  by_cases he : e ≠ 0
  · have hD2 : Hid (strD b 7 = ([], 0, e)) := by show _ = _; rw [hD1.out, if_pos he]
    have he2 : ((e : Int) == 0) = false := by rw [beq_eq_false_iff_ne]; omega
    have HRD := Lib.hid hrd
    have HR := Lib.hid hR
    have HRG := Lib.hid hrg
    clear hrd hR hrg
    clear hD1
    go_enter Try.func134, Try.ntmps134
    go_wp2_with (go_at_call 91; refine HRD.out.mono ?_; rintro e w2 ⟨rfl, nn, rfl⟩)
    go_ret3
    unfold RetS
    rw [hD2.out]
    exact ⟨rfl, (Frm.refl _ _).drewN nn⟩
  · have he0 : e = 0 := by omega
    subst he0
    rw [show ((0 : Nat) : Int) = 0 from rfl] at hrd
    obtain ⟨hr1, hr2, hr3⟩ := hrg rfl
    have hD2 : Hid (strD b 7 = if 4096 < n then ([], 0, 23) else if b.length - at_ < n then ([], 0, 20) else
      if (b.headD 0).toNat / 2 ^ 7 % 2 = 0 then ((b.drop at_).take n, at_ + n, 0) else
      match unhuf ((b.drop at_).take n) with
      | (s, e) => if e ≠ 0 then ([], 0, e) else (s, at_ + n, 0)) := by show _ = _; rw [hD1.out, if_neg he]
    clear hD1 hrg he
    by_cases h4 : 4096 < n
    · have hD3 : Hid (strD b 7 = ([], 0, 23)) := by show _ = _; rw [hD2.out, if_pos h4]
      have HRD := Lib.hid hrd
      have HR := Lib.hid hR
      clear hrd hR
      clear hD2
      go_enter Try.func134, Try.ntmps134
      go_wp2_with (go_at_call 91; refine HRD.out.mono ?_; rintro e w2 ⟨rfl, nn, rfl⟩)
      go_ret3
      unfold RetS
      rw [hD3.out]
      exact ⟨rfl, (Frm.refl _ _).drewN nn⟩
    · have hw1 : IntKind.u64.wrap ((b.length : Int) - (at_ : Int)) = ((b.length - at_ : Nat) : Int) := by
        rw [show ((b.length : Int) - (at_ : Int)) = ((b.length - at_ : Nat) : Int) from by omega]; exact IntWalk.u64_in _ (by omega)
      by_cases hm : b.length - at_ < n
      · have hD3 : Hid (strD b 7 = ([], 0, 20)) := by show _ = _; rw [hD2.out, if_neg h4, if_pos hm]
        have HRD := Lib.hid hrd
        have HR := Lib.hid hR
        clear hrd hR
        clear hD2
        generalize hml : b.length - at_ = ml at *
        have HML := Lib.hid hml
        clear hml
        go_enter Try.func134, Try.ntmps134
        go_wp2_with (go_at_call 91; refine HRD.out.mono ?_; rintro e w2 ⟨rfl, nn, rfl⟩)
        go_ret3
        unfold RetS
        rw [hD3.out]
        exact ⟨rfl, (Frm.refl _ _).drewN nn⟩
      · obtain ⟨A2, hA2, hR2⟩ := hR.sub hc at_ n
        have hb1 : 0 < b.length := by omega
        obtain ⟨gb, off, hAe, hx0⟩ := hR.at_ (k := 0) (by rw [bvs_length]; exact hb1)
        subst hAe
        have hx1 : (b.headD 0).toNat < 256 := (b.headD 0).toNat_lt
        have hx : w.cell? ⟨gb, off, none⟩ = some (.int .u8 ((b.headD 0).toNat : Int)) := by
          rw [Nat.add_zero] at hx0
          rw [hx0]
          cases b with
          | nil => simp at hb1
          | cons x r => rfl
        clear hx0
        have hand : (b.headD 0).toNat / 128 = (b.headD 0).toNat / 128 % 2 := by omega
        have hD3 : Hid (strD b 7 = if (b.headD 0).toNat / 128 % 2 = 0 then ((b.drop at_).take n, at_ + n, 0) else
          match unhuf ((b.drop at_).take n) with
          | (s, e) => if e ≠ 0 then ([], 0, e) else (s, at_ + n, 0)) := by show _ = _; rw [hD2.out, if_neg h4, if_neg hm]
        clear hD2
        generalize (b.headD 0).toNat / 128 % 2 = hb at *
        generalize (b.headD 0).toNat = hd at *
        have HAND := Lib.hid hand
        clear hand
        have hln : ((b.drop at_).take n).length = n := by rw [List.length_take, List.length_drop]; omega
        generalize hbl : (b.drop at_).take n = l at *
        have hcv := fun q => run_conv (c := c - at_) (hR2.fresh ((Frm.refl (New w) w).drewN q))
        simp only [str] at hcv
        have hun := fun w' h => hdecode_any l A2 (c - at_) w' h (by omega)
        rw [hln] at hcv hun
        have hi1 : IntKind.i64.wrap ((at_ : Int) + (n : Int)) = ((at_ + n : Nat) : Int) := by
          rw [show ((at_ : Int) + (n : Int)) = ((at_ + n : Nat) : Int) from by omega]; exact IntWalk.i64_in _ (by omega)
        have hCut : ∀ (o : Oper) (a : Act) (w' : World) (x lo hi : Operand) (u v : Int), o.op = .slice 23 x (some lo) (some hi) none → a.eval x = .slice (some ⟨gb, off, none⟩) b.length c → a.eval lo = .int .i64 u → a.eval hi = .int .i64 v → u = (at_ : Int) → v = ((at_ + n : Nat) : Int) →
            (execOp a.eval o).run Try.prog w' = .ok (.value (.slice A2 n (c - at_))) w' := fun o a w' x lo hi u v h1 h2 h3 h4 h5 h6 => by
          have := run_cut (w := w') h1 h2 h3 h4 h5 h6 (by omega) (by omega)
          rw [hA2, Nat.add_sub_cancel_left] at this
          exact this
        have HRD := Lib.hid hrd
        have HR := Lib.hid hR
        have HR2 := Lib.hid hR2
        have HA2 := Lib.hid hA2
        have HLN := Lib.hid hln
        have HBL := Lib.hid hbl
        have HUN := Lib.hid hun
        have HCV := Lib.hid hcv
        have HCUT := Lib.hid hCut
        clear hrd hR hR2 hA2 hln hbl hun hcv hCut
        by_cases h0 : hb = 0
        · subst h0
          have hz0 : ((hd : Int) / 128 == 0) = true := by rw [beq_iff_eq]; have := HAND.out; omega
          have hD4 : Hid (strD b 7 = (l, at_ + n, 0)) := by show _ = _; rw [hD3.out, if_pos rfl]
          clear hD3 HUN
          have hcv := HCV.out
          go_enter Try.func134, Try.ntmps134
          go_wp2_with (first
            | (go_at_call 91; refine HRD.out.mono ?_; rintro e w2 ⟨rfl, nn, rfl⟩)
            | (refine wpList_val rfl (.slice A2 n (c - at_)) (HCUT.out _ _ _ _ _ _ _ _ rfl rfl rfl rfl rfl rfl) ?_))
          go_ret3
          unfold RetS
          rw [hD4.out]
          exact ⟨rfl, (Frm.refl _ _).drewN nn⟩
        · have h0' : ((hd : Int) / 128 == 0) = false := by rw [beq_eq_false_iff_ne]; have := HAND.out; omega
          have hD4 : Hid (strD b 7 = match unhuf l with | (s, e) => if e ≠ 0 then ([], 0, e) else (s, at_ + n, 0)) := by show _ = _; rw [hD3.out, if_neg h0]
          clear hD3
          have hun := HUN.out
          clear HUN
          generalize unhuf l = q at *
          obtain ⟨s, e⟩ := q
          simp only [str] at hun
          have hD5 : Hid (strD b 7 = if e ≠ 0 then ([], 0, e) else (s, at_ + n, 0)) := hD4.out
          have HUN := Lib.hid hun
          clear hun
          clear hD4
          by_cases he : e = 0
          · subst he
            have hD6 : Hid (strD b 7 = (s, at_ + n, 0)) := by show _ = _; rw [hD5.out, if_neg (by simp)]
            clear hD5
            go_enter Try.func134, Try.ntmps134
            go_wp2_with (first
              | (go_at_call 91; refine HRD.out.mono ?_; rintro e w2 ⟨rfl, nn, rfl⟩)
              | (refine wpList_val rfl (.slice A2 n (c - at_)) (HCUT.out _ _ _ _ _ _ _ _ rfl rfl rfl rfl rfl rfl) ?_)
              | (go_at_call 133; refine (HUN.out _ (HR2.out.fresh ((Frm.refl _ _).drewN nn))).mono ?_; rintro e w3 ⟨rfl, hF3⟩))
            go_ret3
            unfold RetS
            rw [hD6.out]
            exact ⟨rfl, Frm.trans ((Frm.refl _ _).drewN nn) (hF3.mono (fun k hk => by simpa [New] using hk))⟩
          · have hD6 : Hid (strD b 7 = ([], 0, e)) := by show _ = _; rw [hD5.out, if_pos he]
            have he2 : ((e : Int) == 0) = false := by rw [beq_eq_false_iff_ne]; omega
            clear hD5
            go_enter Try.func134, Try.ntmps134
            go_wp2_with (first
              | (go_at_call 91; refine HRD.out.mono ?_; rintro e w2 ⟨rfl, nn, rfl⟩)
              | (refine wpList_val rfl (.slice A2 n (c - at_)) (HCUT.out _ _ _ _ _ _ _ _ rfl rfl rfl rfl rfl rfl) ?_)
              | (go_at_call 133; refine (HUN.out _ (HR2.out.fresh ((Frm.refl _ _).drewN nn))).mono ?_; rintro e w3 ⟨rfl, hF3⟩))
            go_ret3
            unfold RetS
            rw [hD6.out]
            exact ⟨rfl, Frm.trans ((Frm.refl _ _).drewN nn) (hF3.mono (fun k hk => by simpa [New] using hk))⟩
end Go.Proofs.Ytdgggjeiflllhaa.M

