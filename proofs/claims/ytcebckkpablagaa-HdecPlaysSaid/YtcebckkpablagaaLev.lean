/- Package huff: levels: the tables that it makes: facts that are reckoned. No condition. Package huff: levels: the tables that it makes. No condition. -/
import Derived.Test.YtcebckkpablagaaUnh
import Derived.Deep.CutBlock
import Derived.Deep.RegionHeld3
import Derived.Test.YtcebckkpablagaaReg
namespace Go.Proofs.Ytcebckkpablagaa.M
open Go.ChangeShapes Go.WideShapes Go.ChangeAt Go.RowKit

/-- where the signs of a length begin -/
def atL : List Nat := [0, 0, 0, 0, 0, 0, 10, 36, 68, 74, 74, 79, 82, 84, 90, 92, 95, 95, 95, 95, 98, 106, 119, 145, 174, 186, 190, 205, 224, 253, 253, 257]
theorem atL_at : ∀ i : Fin 32, atL.getD i.val 0 = at_ i.val := by decide +kernel
/-- the levels' numbers when k levels are told -/
def levL (k : Nat) : List Nat := (List.range 32).flatMap fun i => if 1 ≤ i ∧ i ≤ k then [(firstTo 30).getD i 0, (cntTo 257).getD i 0, atL.getD i 0] else [0, 0, if i = k + 1 then atL.getD i 0 else 0]
theorem levL_zero : levL 0 = List.replicate 96 0 := by decide +kernel
theorem levL_len : ∀ k : Fin 31, (levL k.val).length = 96 := by decide +kernel
theorem levL_set1 : ∀ k : Fin 30, (((levL k.val).set ((k.val + 1) * 3) ((firstTo 30).getD (k.val + 1) 0)).set ((k.val + 1) * 3 + 1) ((cntTo 257).getD (k.val + 1) 0)).set ((k.val + 2) * 3 + 2) (atL.getD (k.val + 1) 0 + (cntTo 257).getD (k.val + 1) 0) = levL (k.val + 1) := by decide +kernel
theorem levL_at : ∀ k : Fin 30, (levL k.val).getD ((k.val + 1) * 3 + 2) 0 = atL.getD (k.val + 1) 0 := by decide +kernel
theorem levL_done : ∀ i : Fin 31, (levL 30).getD (i.val * 3) 0 = (firstTo 30).getD i.val 0 ∧ (levL 30).getD (i.val * 3 + 1) 0 = (cntTo 257).getD i.val 0 ∧ (levL 30).getD (i.val * 3 + 2) 0 = atL.getD i.val 0 := by decide +kernel
/-- the signs in order when k signs have their places -/
def ordTo : Nat → List Nat
  | 0 => List.replicate 257 0
  | k + 1 => (ordTo k).set (atL.getD (lens.getD k 0) 0 + (cntTo k).getD (lens.getD k 0) 0) k
theorem ordTo_len (k : Nat) : (ordTo k).length = 257 := by
  induction k with
  | zero => exact List.length_replicate
  | succ k ih => simp [ordTo, ih]
theorem ordTo_ord : ordTo 257 = ord_ := by decide +kernel
theorem ord_fit : ∀ k : Fin 257, atL.getD (lens.getD k.val 0) 0 + (cntTo k.val).getD (lens.getD k.val 0) 0 < 257 := by decide +kernel

theorem z141 : (Try.prog.info? 141).map (·.zero) = some (some (.agg (vN .i64 (List.replicate 96 0)))) := by kernel_rfl
theorem z142 : (Try.prog.info? 142).map (·.zero) = some (some (.agg (vN .i64 (List.replicate 257 0)))) := by kernel_rfl
theorem a141 : Agg Try.prog 141 96 := ⟨⟨_, Try.underlying141, rfl⟩, by kernel_rfl⟩
theorem a142 : Agg Try.prog 142 257 := ⟨⟨_, Try.underlying142, rfl⟩, by kernel_rfl⟩
end Go.Proofs.Ytcebckkpablagaa.M
namespace Go.Proofs.Ytcebckkpablagaa.M
open Go.ChangeShapes Go.WideShapes Go.ChangeAt Go.RowKit

/-- the first loop of levels: k levels are told -/
structure Lv1 (w : World) (g4 g5 g6 k : Nat) (wr : World) : Prop where
  frm : Frm (New w) w wr
  l4 : w.heap.size + 3 < g4
  l5 : w.heap.size + 3 < g5
  l6 : w.heap.size + 3 < g6
  r1 : Blk wr w.heap.size 141 (vN .i64 (List.replicate 96 0))
  r2 : Blk wr (w.heap.size + 1) 142 (vN .i64 (List.replicate 257 0))
  o : Blk wr (w.heap.size + 2) 141 (vN .i64 (levL k))
  s : Blk wr (w.heap.size + 3) 142 (vN .i64 (List.replicate 257 0))
  b4 : Blk wr g4 147 LENS
  b5 : Blk wr g5 156 (vN .u32 (firstTo 30))
  b6 : Blk wr g6 157 (vN .i64 (cntTo 257))
theorem Lv1.next {w wr w' : World} {g4 g5 g6 k : Nat} (h : Lv1 w g4 g5 g6 k wr) (f : Frm (fun j => j = w.heap.size + 2) wr w') (hb : Blk w' (w.heap.size + 2) 141 (vN .i64 (levL (k + 1)))) : Lv1 w g4 g5 g6 (k + 1) w' := by
  have h4 := h.l4
  have h5 := h.l5
  have h6 := h.l6
  exact ⟨h.frm.trans (f.mono (fun j hj => by rw [hj]; unfold New; omega)), h4, h5, h6, h.r1.keep f (by omega), h.r2.keep f (by omega), hb, h.s.keep f (by omega), h.b4.keep f (by omega), h.b5.keep f (by omega), h.b6.keep f (by omega)⟩
/-- the second loop: k signs have their places -/
structure Lv2 (w : World) (g4 g8 k : Nat) (wr : World) : Prop where
  frm : Frm (New w) w wr
  l8 : w.heap.size + 3 < g8
  r1 : Blk wr w.heap.size 141 (vN .i64 (List.replicate 96 0))
  r2 : Blk wr (w.heap.size + 1) 142 (vN .i64 (List.replicate 257 0))
  o : Blk wr (w.heap.size + 2) 141 (vN .i64 (levL 30))
  s : Blk wr (w.heap.size + 3) 142 (vN .i64 (ordTo k))
  b8 : Blk wr g8 157 (vN .i64 (cntTo k))

set_option maxRecDepth 100000 in
set_option maxHeartbeats 4000000 in
theorem levels_any (w : World) : Calls Try.prog 88 #[] w fun e w' => e = .returned (.tuple #[.agg (vN .i64 (levL 30)), .agg (vN .i64 ord_)]) ∧ Frm (New w) w w' := by
  have t1 := trivial
  have t2 := trivial
  have t3 := trivial
  have t4 := trivial
  have t5 := trivial
  have t6 := trivial
  have t7 := trivial
  have t8 := trivial
  have t9 := trivial
  have t10 := trivial
  go_enter Try.func88, Try.ntmps88
  go_wp2_with (first
    | (clear t1; refine wpList_new rfl rfl z141 rfl ?_; intro wa hba hFa hsa)
    | (clear t2; refine wpList_new rfl rfl z142 rfl ?_; intro wb hbb hFb hsb)
    | (clear t3; refine wpList_new rfl rfl z141 rfl ?_; intro wc hbc hFc hsc)
    | (clear t4; refine wpList_new rfl rfl z142 rfl ?_; intro wd hbd hFd hsd)
    | (go_at_call 91; refine (lengths_any _).mono ?_; rintro e we ⟨rfl, hFe⟩)
    | (clear t5; refine wpList_new rfl rfl z147 rfl ?_; intro wf hbf hFf hsf)
    | (clear t6; refine wpList_store_agg rfl rfl rfl rfl hbf (by rw [LENS_size]; exact Z8_size 257) LENS_one (by rw [LENS_size]; exact a147.size) ?_; intro wg hbg hFg hsg)
    | (go_at_call 99; refine (firsts_any _ _ hbg).mono ?_; rintro e wh ⟨rfl, hFh⟩)
    | (clear t7; refine wpList_new rfl rfl z156 rfl ?_; intro wi hbi hFi hsi)
    | (clear t8; refine wpList_new rfl rfl z157 rfl ?_; intro wj hbj hFj hsj)
    | (clear t9; refine wpList_store_agg rfl rfl rfl rfl (hbi.fresh hFj) (by rw [vN_size, firstTo_length]; rfl) (vN_one _ _) (by rw [vN_size, firstTo_length]; exact a156.size) ?_; intro wk hbk hFk hsk)
    | (clear t10; refine wpList_store_agg rfl rfl rfl rfl (hbj.keep hFk (by omega)) (by rw [vN_size, cntTo_length]; rfl) (vN_one _ _) (by rw [vN_size, cntTo_length]; exact a157.size) ?_; intro wl hbl hFl hsl))
  have c1 := hFe.size
  have c2 := hFh.size
  have s1 : wa.heap.size = w.heap.size + 1 := hsa
  have s2 : wb.heap.size = w.heap.size + 2 := by omega
  have s3 : wc.heap.size = w.heap.size + 3 := by omega
  have s4 : wd.heap.size = w.heap.size + 4 := by omega
  have hFd' : Frm (New w) w wd := ((hFa.then_new Up.new hFb).then_new Up.new hFc).then_new Up.new hFd
  have hFf' : Frm (New w) w wf := (hFd'.then_new Up.new hFe).then_new Up.new hFf
  have hFg' : Frm (New w) w wg := hFf'.trans (hFg.mono (fun k hk => by subst hk; show w.heap.size ≤ we.heap.size; omega))
  have hFj' : Frm (New w) w wj := ((hFg'.then_new Up.new hFh).then_new Up.new hFi).then_new Up.new hFj
  have hFl' : Frm (New w) w wl := (hFj'.trans (hFk.mono (fun k hk => by subst hk; show w.heap.size ≤ wh.heap.size; omega))).trans (hFl.mono (fun k hk => by subst hk; show w.heap.size ≤ wi.heap.size; omega))
  have late : ∀ {b t : Nat} {cs : Array Value}, Blk wd b t cs → b < w.heap.size + 4 → Blk wl b t cs := fun {b t cs} hb hlt =>
    (((((((hb.fresh hFe).fresh hFf).keep hFg (by omega)).fresh hFh).fresh hFi).fresh hFj).keep hFk (by omega)).keep hFl (by omega)
  have hr1 := late (((hba.fresh hFb).fresh hFc).fresh hFd) (by omega)
  have hr2 := late ((hbb.fresh hFc).fresh hFd) (by omega)
  have ho := late (hbc.fresh hFd) (by omega)
  have hs := late hbd (by omega)
  have hb4 : Blk wl we.heap.size 147 LENS := ((((hbg.fresh hFh).fresh hFi).fresh hFj).keep hFk (by omega)).keep hFl (by omega)
  have hb5 : Blk wl wh.heap.size 156 (vN .u32 (firstTo 30)) := hbk.keep hFl (by omega)
  have q4 : w.heap.size + 3 < we.heap.size := by omega
  have q5 : w.heap.size + 3 < wh.heap.size := by omega
  have q6 : w.heap.size + 3 < wi.heap.size := by omega
  have s6 : wi.heap.size = wh.heap.size + 1 := hsi
  rw [s6] at hbl q6
  rw [s1] at hr2
  rw [s2] at ho
  rw [s3] at hs
  try simp only [s1, s2, s3, s6]
  generalize we.heap.size = g4 at *
  generalize wh.heap.size = g5 at *
  have H := Lib.hid (show Lv1 w g4 g5 (g5 + 1) 0 wl from ⟨hFl', q4, q5, q6, hr1, hr2, by rw [levL_zero]; exact ho, hs, hb4, hb5, hbl⟩)
  clear late hba hbb hbc hbd hbf hbg hbi hbj hbk hbl hFa hFb hFc hFd hFe hFf hFg hFh hFi hFj hFk hFl hsa hsb hsc hsd hsf hsg hsi hsj hsk hsl c1 c2 s1 s2 s3 s4 s6 hFd' hFf' hFg' hFj' hFl' hr1 hr2 ho hs hb4 hb5 q4 q5 q6
  go_loopw [7] (fun i wr => ∃ k : Nat, k ≤ 30 ∧ i = .int .i64 ((k : Int) + 1) ∧ Hid (Lv1 w g4 g5 (g5 + 1) k wr)) (fun i _ => 31 - (intOf i).toNat)
  case atStart => exact ⟨0, by omega, rfl, H⟩
  case round =>
    obtain ⟨k, hk, rfl, hR⟩ := hrel
    clear H
    by_cases hlt : k < 30
    · have hC := hR.out
      have hl1 := firstTo_length 30
      have hl2 := cntTo_length 257
      have hll := levL_len ⟨k, by omega⟩
      simp only at hll
      have hc5 : wr.cell? ⟨g5, k + 1, none⟩ = some (.int .u32 (((firstTo 30).getD (k + 1) 0 : Nat) : Int)) := by rw [hC.b5.cell]; exact vN_get (by omega)
      have hc6 : wr.cell? ⟨g5 + 1, k + 1, none⟩ = some (.int .i64 (((cntTo 257).getD (k + 1) 0 : Nat) : Int)) := by rw [hC.b6.cell]; exact vN_get (by omega)
      have ho1 : wr.cell? ⟨w.heap.size + 2, (k + 1) * 3, none⟩ = some (.int .i64 (((levL k).getD ((k + 1) * 3) 0 : Nat) : Int)) := by rw [hC.o.cell]; exact vN_get (by omega)
      have ho2 : wr.cell? ⟨w.heap.size + 2, (k + 1) * 3 + 1, none⟩ = some (.int .i64 (((levL k).getD ((k + 1) * 3 + 1) 0 : Nat) : Int)) := by rw [hC.o.cell]; exact vN_get (by omega)
      have hz1 := hC.o.frozen ((k + 1) * 3)
      have hz2 := hC.o.frozen ((k + 1) * 3 + 1)
      have hsm := firstTo_small ⟨30, by omega⟩ ⟨k + 1, by omega⟩
      simp only at hsm
      have hne5 : ¬ w.heap.size + 2 = g5 := by have := hC.l5; omega
      have hne6 : ¬ w.heap.size + 2 = g5 + 1 := by have := hC.l6; omega
      have hlt5 := hC.b5.lt
      have hlt6 := hC.b6.lt
      have hlto := hC.o.lt
      clear hC hl1 hl2
      generalize hf1 : (firstTo 30).getD (k + 1) 0 = f1 at *
      generalize hn1 : (cntTo 257).getD (k + 1) 0 = n1 at *
      generalize (levL k).getD ((k + 1) * 3) 0 = z1 at *
      generalize (levL k).getD ((k + 1) * 3 + 1) 0 = z2 at *
      have g1 : (0 : Int) ≤ (k : Int) + 1 := by omega
      have g2 : (k : Int) + 1 < 32 := by omega
      have g3 : ((k : Int) + 1).toNat = k + 1 := by omega
      generalize hgo : w.heap.size + 2 = go at *
      have HF1 := Lib.hid hf1
      have HN1 := Lib.hid hn1
      have HGO := Lib.hid hgo
      clear hf1 hn1 hgo
      go_upto_region 8 with (fail)
      have hwf : IntKind.i64.wrap (f1 : Int) = (f1 : Int) := IntWalk.i64_in _ (by omega)
      go_cut [] from 16 to 44 (fun w5 => Hid (Blk w5 go 141 (vN .i64 (((levL k).set ((k + 1) * 3) f1).set ((k + 1) * 3 + 1) n1))) ∧ Hid (Frm (fun j => j = go) wr w5))
      case first =>
        go_region_held3 (fun w' => w'.cell? ⟨g5, k + 1, none⟩ = some (.int .u32 (f1 : Int)) ∧ w'.cell? ⟨g5 + 1, k + 1, none⟩ = some (.int .i64 (n1 : Int)))
          (first | exact ⟨hc5, hc6⟩ | go_keep | (constructor <;> go_keep))
          (fail)
        all_goals go_wp2
        all_goals go_meet
        all_goals
          have h1 := hR.out.o
          rw [HGO.out] at h1
          rw [← vN_set, ← vN_set]
          refine ⟨?_, ?_⟩
          · first
              | exact (h1.drew.set_ _ _).set_ _ _
              | exact ((h1.set_ _ _).set_ _ _).drew
              | exact ((h1.set_ _ _).drew.set_ _ _)
          · show Frm (fun j => j = go) wr _
            first
              | exact ((Frm.refl (fun j => j = go) wr).drew.setCell (p := ⟨go, (k + 1) * 3, none⟩) rfl _).setCell (p := ⟨go, (k + 1) * 3 + 1, none⟩) rfl _
              | exact (((Frm.refl (fun j => j = go) wr).setCell (p := ⟨go, (k + 1) * 3, none⟩) rfl _).setCell (p := ⟨go, (k + 1) * 3 + 1, none⟩) rfl _).drew
      case rest =>
        obtain ⟨hb5, hf5⟩ := hcut
        rename World => w5
        have hL1 := levL_at ⟨k, by omega⟩
        have hL2 := levL_set1 ⟨k, by omega⟩
        simp only at hL1 hL2
        rw [HF1.out, HN1.out] at hL2
        clear hc5 hc6 ho1 ho2 hz1 hz2 hlt5 hlt6 hlto
        have hb6 := hR.out.b6.keep hf5.out (fun e => hne6 e.symm)
        have hc6 : w5.cell? ⟨g5 + 1, k + 1, none⟩ = some (.int .i64 (n1 : Int)) := by rw [hb6.cell, ← HN1.out]; exact vN_get (by rw [cntTo_length]; omega)
        have hle : (((levL k).set ((k + 1) * 3) f1).set ((k + 1) * 3 + 1) n1).length = 96 := by simp [hll]
        have hq1 : (((levL k).set ((k + 1) * 3) f1).set ((k + 1) * 3 + 1) n1).getD ((k + 1) * 3 + 2) 0 = atL.getD (k + 1) 0 := by
          rw [← hL1, List.getD_eq_getElem?_getD, List.getElem?_set_ne (by omega), List.getElem?_set_ne (by omega), ← List.getD_eq_getElem?_getD]
        have ho1 : w5.cell? ⟨go, (k + 1) * 3 + 2, none⟩ = some (.int .i64 ((atL.getD (k + 1) 0 : Nat) : Int)) := by rw [hb5.out.cell, ← hq1]; exact vN_get (by omega)
        have ho2 : w5.cell? ⟨go, (k + 2) * 3 + 2, none⟩ = some (.int .i64 (((((levL k).set ((k + 1) * 3) f1).set ((k + 1) * 3 + 1) n1).getD ((k + 2) * 3 + 2) 0 : Nat) : Int)) := by rw [hb5.out.cell]; exact vN_get (by omega)
        have hz2 := hb5.out.frozen ((k + 2) * 3 + 2)
        have hlt6 := hb6.lt
        have hlto := hb5.out.lt
        have hat : atL.getD (k + 1) 0 ≤ 257 := by
          have : ∀ i : Fin 32, atL.getD i.val 0 ≤ 257 := by decide
          exact this ⟨k + 1, by omega⟩
        have HST : Hid (∀ v, v = ((atL.getD (k + 1) 0 + n1 : Nat) : Int) → ∀ w6, w6 = w5.drew.setCell ⟨go, (k + 2) * 3 + 2, none⟩ (.int .i64 v) → Lv1 w g4 g5 (g5 + 1) (k + 1) w6) := by
          intro v hv w6 h6
          subst hv
          subst h6
          have hbf := (hb5.out.drew).set_ ((k + 2) * 3 + 2) (.int .i64 ((atL.getD (k + 1) 0 + n1 : Nat) : Int))
          rw [vN_set, hL2] at hbf
          rw [← HGO.out] at hbf hf5
          refine hR.out.next (hf5.out.drew.setCell (by rw [HGO.out]) _) ?_
          rw [HGO.out] at hbf ⊢
          exact hbf
        generalize (((levL k).set ((k + 1) * 3) f1).set ((k + 1) * 3 + 1) n1).getD ((k + 2) * 3 + 2) 0 = z3 at *
        generalize atL.getD (k + 1) 0 = a1 at *
        have g4' : IntKind.i64.wrap ((k : Int) + 1 + 1) = (k : Int) + 2 := by rw [IntWalk.i64_in _ (by omega)]; omega
        have g5' : (0 : Int) ≤ (k : Int) + 2 := by omega
        have g6' : (k : Int) + 2 < 32 := by omega
        have g7' : ((k : Int) + 2).toNat = k + 2 := by omega
        have g8' : IntKind.i64.wrap ((a1 : Int) + (n1 : Int)) = (a1 : Int) + (n1 : Int) := IntWalk.i64_in _ (by omega)
        clear hL1 hL2 hle hq1 hb6 hb5 hf5 hll hsm
        go_wp2
        go_still_tail 12, (by kernel_rfl)
        change wpList _ _ _ _ _ w5.drew
        clear g1 g2 g3 g4' g5' g6' g7' g8'
        go_wp2
        go_roundw
        case rel => exact ⟨k + 1, by omega, by go_num, HST.out _ (by push_cast; rfl) _ rfl⟩
        case measure => simp [intOf]; omega
    · obtain rfl : k = 30 := by omega
      have t11 := trivial
      have hC := hR.out
      go_wp2_with (first
        | (clear t11; refine wpList_new rfl rfl z157 rfl ?_; intro wn hbn hFn hsn)
        | (refine wpList_load_agg a147 rfl rfl rfl (hC.b4.fresh hFn) LENS_size ?_))
      have hl8 : w.heap.size + 3 < wr.heap.size := by have := hC.l4; have := hC.b4.lt; omega
      have H2 := Lib.hid (show Lv2 w g4 wr.heap.size 0 wn from ⟨hC.frm.then_new Up.new hFn, hl8, hC.r1.fresh hFn, hC.r2.fresh hFn, hC.o.fresh hFn, hC.s.fresh hFn, hbn⟩)
      generalize wr.heap.size = g8 at *
      clear hC hR hbn hFn hsn hl8 hlt hk
      go_loopw [46] (fun i wr => ∃ k : Nat, k ≤ 257 ∧ i = .int .i64 k ∧ Hid (Lv2 w g4 g8 k wr)) (fun i _ => 257 - (intOf i).toNat)
      case atStart => exact ⟨0, by omega, rfl, H2⟩
      case round =>
        obtain ⟨k, hk, rfl, hR⟩ := hrel
        clear H2
        rename World => wr2
        by_cases hlt : k < 257
        · have hC := hR.out
          have hx := lens_le k
          have hidx := fun W => idx147 k hlt W
          have hfit := ord_fit ⟨k, hlt⟩
          have hLd := levL_done ⟨lens.getD k 0, by omega⟩
          simp only at hfit hLd
          have hll := levL_len ⟨30, by omega⟩
          simp only at hll
          have hc1 : wr2.cell? ⟨w.heap.size + 2, lens.getD k 0 * 3 + 2, none⟩ = some (.int .i64 ((atL.getD (lens.getD k 0) 0 : Nat) : Int)) := by rw [hC.o.cell, ← hLd.2.2]; exact vN_get (by omega)
          have hc2 : wr2.cell? ⟨g8, lens.getD k 0, none⟩ = some (.int .i64 (((cntTo k).getD (lens.getD k 0) 0 : Nat) : Int)) := by rw [hC.b8.cell]; exact vN_get (by rw [cntTo_length]; omega)
          have hc3 : wr2.cell? ⟨w.heap.size + 3, atL.getD (lens.getD k 0) 0 + (cntTo k).getD (lens.getD k 0) 0, none⟩ = some (.int .i64 (((ordTo k).getD (atL.getD (lens.getD k 0) 0 + (cntTo k).getD (lens.getD k 0) 0) 0 : Nat) : Int)) := by rw [hC.s.cell]; exact vN_get (by rw [ordTo_len]; exact hfit)
          have hz3 := hC.s.frozen (atL.getD (lens.getD k 0) 0 + (cntTo k).getD (lens.getD k 0) 0)
          have hz2 := hC.b8.frozen (lens.getD k 0)
          have hlt8 := hC.b8.lt
          have hlto := hC.o.lt
          have hlts := hC.s.lt
          have hn8 : ¬ w.heap.size + 3 = g8 := by have := hC.l8; omega
          have hn8' : ¬ g8 = w.heap.size + 3 := by have := hC.l8; omega
          have hn9 : ¬ g8 = w.heap.size + 2 := by have := hC.l8; omega
          have hcl := cntTo_le k (lens.getD k 0)
          have HN : Hid (Lv2 w g4 g8 (k + 1) ((wr2.drew.setCell ⟨w.heap.size + 3, atL.getD (lens.getD k 0) 0 + (cntTo k).getD (lens.getD k 0) 0, none⟩ (.int .i64 (k : Int))).setCell ⟨g8, lens.getD k 0, none⟩ (.int .i64 (((cntTo k).getD (lens.getD k 0) 0 : Nat) + 1 : Int)))) := by
            have h8 := hC.l8
            refine ⟨(hC.frm.drew.setCell (by show w.heap.size ≤ w.heap.size + 3; omega) _).setCell (by show w.heap.size ≤ g8; omega) _, h8, ?_, ?_, ?_, ?_, ?_⟩
            · exact (hC.r1.drew.far (by simp) _).far (by show w.heap.size ≠ g8; omega) _
            · exact (hC.r2.drew.far (by simp) _).far (by show w.heap.size + 1 ≠ g8; omega) _
            · exact (hC.o.drew.far (by simp) _).far (by show w.heap.size + 2 ≠ g8; omega) _
            · refine Blk.far ?_ (by show w.heap.size + 3 ≠ g8; omega) _
              have := hC.s.drew.set_ (atL.getD (lens.getD k 0) 0 + (cntTo k).getD (lens.getD k 0) 0) (.int .i64 (k : Int))
              rw [vN_set] at this
              exact this
            · have := (hC.b8.drew.far (p := ⟨w.heap.size + 3, atL.getD (lens.getD k 0) 0 + (cntTo k).getD (lens.getD k 0) 0, none⟩) (by show g8 ≠ w.heap.size + 3; omega) (.int .i64 (k : Int))).set_ (lens.getD k 0) (.int .i64 (((cntTo k).getD (lens.getD k 0) 0 + 1 : Nat) : Int))
              rw [vN_set] at this
              rw [cntTo_succ k hlt]
              exact this
          clear hR hC hLd hll
          generalize hg3 : w.heap.size + 3 = gs at *
          generalize hg2 : w.heap.size + 2 = go at *
          have HG3 := Lib.hid hg3
          have HG2 := Lib.hid hg2
          clear hg3 hg2
          generalize hy : (cntTo k).getD (lens.getD k 0) 0 = y at *
          generalize hx9 : lens.getD k 0 = x at *
          generalize hat : atL.getD x 0 = a1 at *
          generalize (ordTo k).getD (a1 + y) 0 = z at *
          have HY := Lib.hid hy
          have HX9 := Lib.hid hx9
          have HAT := Lib.hid hat
          clear hy hx9 hat
          have g8' : IntKind.i64.wrap ((a1 : Int) + (y : Int)) = ((a1 + y : Nat) : Int) := by
            rw [show ((a1 : Int) + (y : Int)) = ((a1 + y : Nat) : Int) from by omega]; exact IntWalk.i64_in _ (by omega)
          generalize hay : a1 + y = ay at *
          have hx32 : x < 32 := by omega
          have hx32' : (x : Int) < 32 := by omega
          have hay' : (ay : Int) < 257 := by omega
          have HAY := Lib.hid hay
          clear hay
          go_wp2
          go_still_tail 10, (by kernel_rfl)
          change wpList _ _ _ _ _ wr2.drew
          go_wp2
          go_roundw
          case rel => exact ⟨k + 1, by omega, by go_num, HN⟩
          case measure => simp [intOf]; omega
        · obtain rfl : k = 257 := by omega
          clear hlt hk
          obtain ⟨hF, hl8, hr1, hr2, ho, hn, hb8⟩ := hR.out
          rw [ordTo_ord] at hn
          clear hR
          go_wp2
          refine wp_region_any (by kernel_rfl) ?_
          change wpAny _ _ _ _ _ _ _ wr2.drew
          have hF := hF.drew
          have hn := hn.drew
          have ho := ho.drew
          have hr1 := hr1.drew
          have hr2 := hr2.drew
          have hs1 : (vN .i64 (levL 30)).size = 96 := (vN_size .i64 (levL 30)).trans (levL_len ⟨30, by omega⟩)
          have hs2 : (vN .i64 ord_).size = 257 := by rw [← ordTo_ord]; exact (vN_size .i64 (ordTo 257)).trans (ordTo_len 257)
          refine wpAny_ready (rs := [0, 1]) (by kernel_rfl) (by simp) ?_
          refine AllReady.cons rfl (fun K hK => ?_) (AllReady.cons rfl (fun K hK => ?_) AllReady.nil)
          · refine step_load_agg a141 rfl rfl rfl ho hs1 ?_; refine hK _ _ ?_; clear hK K
            refine wpAny_ready (rs := [1, 2]) (by kernel_rfl) (by simp) ?_
            refine AllReady.cons rfl (fun K hK => ?_) (AllReady.cons rfl (fun K hK => ?_) AllReady.nil)
            · refine step_load_agg a142 rfl rfl rfl hn hs2 ?_; refine hK _ _ ?_; clear hK K
              refine wpAny_ready (rs := [2]) (by kernel_rfl) (by simp) ?_
              refine AllReady.cons rfl (fun K hK => ?_) AllReady.nil
              refine step_store_agg rfl rfl rfl rfl hr1 (by rw [hs1]; simp [vN_size]) (vN_one _ _) (by rw [hs1]; exact a141.size) ?_; intro wx hbx hFx hsx; refine hK _ _ ?_; clear hK K; have ho := ho.keep hFx (by omega); have hn := hn.keep hFx (by omega); have hr2 := hr2.keep hFx (by omega); have hF := hF.trans (hFx.mono (fun k hk => by subst hk; exact Nat.le_refl _)); clear hr1
              refine wpAny_ready (rs := [3]) (by kernel_rfl) (by simp) ?_
              refine AllReady.cons rfl (fun K hK => ?_) AllReady.nil
              refine step_store_agg rfl rfl rfl rfl hr2 (by rw [hs2]; simp [vN_size]) (vN_one _ _) (by rw [hs2]; exact a142.size) ?_; intro wy hby hFy hsy; refine hK _ _ ?_; clear hK K; have hbx := hbx.keep hFy (by omega); have hF := hF.trans (hFy.mono (fun k hk => by subst hk; show w.heap.size ≤ w.heap.size + 1; omega)); clear hr2
              refine wpAny_done (by kernel_rfl) ?_ _
              go_wp2
              refine bodyPost_ret (results_agg2 a141 a142 rfl rfl hbx hs1 rfl hby hs2) rfl ⟨rfl, hF⟩
            · refine step_store_agg rfl rfl rfl rfl hr1 (by rw [hs1]; simp [vN_size]) (vN_one _ _) (by rw [hs1]; exact a141.size) ?_; intro wx hbx hFx hsx; refine hK _ _ ?_; clear hK K; have ho := ho.keep hFx (by omega); have hn := hn.keep hFx (by omega); have hr2 := hr2.keep hFx (by omega); have hF := hF.trans (hFx.mono (fun k hk => by subst hk; exact Nat.le_refl _)); clear hr1
              refine wpAny_ready (rs := [1]) (by kernel_rfl) (by simp) ?_
              refine AllReady.cons rfl (fun K hK => ?_) AllReady.nil
              refine step_load_agg a142 rfl rfl rfl hn hs2 ?_; refine hK _ _ ?_; clear hK K
              refine wpAny_ready (rs := [3]) (by kernel_rfl) (by simp) ?_
              refine AllReady.cons rfl (fun K hK => ?_) AllReady.nil
              refine step_store_agg rfl rfl rfl rfl hr2 (by rw [hs2]; simp [vN_size]) (vN_one _ _) (by rw [hs2]; exact a142.size) ?_; intro wy hby hFy hsy; refine hK _ _ ?_; clear hK K; have hbx := hbx.keep hFy (by omega); have hF := hF.trans (hFy.mono (fun k hk => by subst hk; show w.heap.size ≤ w.heap.size + 1; omega)); clear hr2
              refine wpAny_done (by kernel_rfl) ?_ _
              go_wp2
              refine bodyPost_ret (results_agg2 a141 a142 rfl rfl hbx hs1 rfl hby hs2) rfl ⟨rfl, hF⟩
          · refine step_load_agg a142 rfl rfl rfl hn hs2 ?_; refine hK _ _ ?_; clear hK K
            refine wpAny_ready (rs := [0]) (by kernel_rfl) (by simp) ?_
            refine AllReady.cons rfl (fun K hK => ?_) AllReady.nil
            refine step_load_agg a141 rfl rfl rfl ho hs1 ?_; refine hK _ _ ?_; clear hK K
            refine wpAny_ready (rs := [2]) (by kernel_rfl) (by simp) ?_
            refine AllReady.cons rfl (fun K hK => ?_) AllReady.nil
            refine step_store_agg rfl rfl rfl rfl hr1 (by rw [hs1]; simp [vN_size]) (vN_one _ _) (by rw [hs1]; exact a141.size) ?_; intro wx hbx hFx hsx; refine hK _ _ ?_; clear hK K; have ho := ho.keep hFx (by omega); have hn := hn.keep hFx (by omega); have hr2 := hr2.keep hFx (by omega); have hF := hF.trans (hFx.mono (fun k hk => by subst hk; exact Nat.le_refl _)); clear hr1
            refine wpAny_ready (rs := [3]) (by kernel_rfl) (by simp) ?_
            refine AllReady.cons rfl (fun K hK => ?_) AllReady.nil
            refine step_store_agg rfl rfl rfl rfl hr2 (by rw [hs2]; simp [vN_size]) (vN_one _ _) (by rw [hs2]; exact a142.size) ?_; intro wy hby hFy hsy; refine hK _ _ ?_; clear hK K; have hbx := hbx.keep hFy (by omega); have hF := hF.trans (hFy.mono (fun k hk => by subst hk; show w.heap.size ≤ w.heap.size + 1; omega)); clear hr2
            refine wpAny_done (by kernel_rfl) ?_ _
            go_wp2
            refine bodyPost_ret (results_agg2 a141 a142 rfl rfl hbx hs1 rfl hby hs2) rfl ⟨rfl, hF⟩
end Go.Proofs.Ytcebckkpablagaa.M
