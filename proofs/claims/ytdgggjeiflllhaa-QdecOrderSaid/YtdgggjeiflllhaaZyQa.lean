/- Qa -/
import Derived.BigQuiet
import Derived.Deep.CutBlock
import Derived.Lib.Hide
import Derived.IntWalk
import Derived.StillTailTactics
import Derived.Test.YtdgggjeiflllhaaZyMem
import Derived.Test.YtdgggjeiflllhaaZyT3
import Derived.Test.YtdgggjeiflllhaaZyHrd
import Derived.Test.YtdgggjeiflllhaaZyEncp
import Derived.Test.YtdgggjeiflllhaaZyTab
import Derived.Test.YtdgggjeiflllhaaZyQt
import Derived.Test.YtdgggjeiflllhaaZyQr

namespace Go.Proofs.Ytdgggjeiflllhaa.M
open Go.ChangeShapes Go.WideShapes Go.ChangeAt Go.RowKit
theorem fvs_append3 (l k : List Fld) : fvs (l ++ k) = fvs l ++ fvs k := by unfold fvs; rw [List.flatMap_append]
theorem fvs_one3 (l : List Fld) : ∀ u ∈ fvs l, u.oneCell' = true := fun u hu => by
  obtain ⟨f, _, hf⟩ := List.mem_flatMap.1 hu
  simp only [List.mem_cons, List.not_mem_nil, or_false] at hf
  rcases hf with rfl | rfl <;> rfl
theorem fld_one3 (a b : ByteArray) : ∀ u ∈ (#[.string a, .string b] : Array Value).toList, u.oneCell' = true := fun u hu => by
  simp at hu
  rcases hu with rfl | rfl <;> rfl
set_option maxRecDepth 100000 in
set_option maxHeartbeats 2000000 in
theorem two_any (w : World) : Calls Try.prog 116 #[] w fun e w' => ∃ A c, e = .returned (.slice A 99 c) ∧ Rd w' A (fvs h3tab) ∧ Frm (New w) w w' := by
  obtain ⟨L1, L2, L3⟩ := h3_len
  go_enter Try.func116, Try.ntmps116
  go_wp2_with (fail)
  refine (low_any _).mono ?_
  rintro e w1 ⟨g1, rfl, hg1, hb1, hF1⟩
  go_wp2_with (fail)
  refine (high_any _).mono ?_
  rintro e w2 ⟨g2, rfl, hg2, hb2, hF2⟩
  have hb12 := hb1.fresh hF2
  have hR2 : Rd w2 (some ⟨g2, 0, none⟩) (fvs h3high) := by simpa using hb2.rd
  have hl1 : (fvs h3low).length = 50 * 2 := by rw [fvs_length, L1]
  have hA : App (New w) w2 71 2 (some ⟨g1, 0, none⟩) 50 50 (fvs h3low) := App.full (by simpa using hb12.rd) hl1 (by decide) (fun c => by cases c) (fun k hk => by cases hk; exact hg1) (fun _ => ⟨g1, 0, _, rfl, hb12, by simp [hl1], hg1⟩)
  have hU : Up (New w) w2 := Up.new.of (Nat.le_trans hF1.size hF2.size)
  have hF02 := hF1.then_new Up.new hF2
  have hl2 : (fvs h3high).length = 49 * 2 := by rw [fvs_length, L2]
  have HA := Lib.hid hA
  have HU := Lib.hid hU
  have HF02 := Lib.hid hF02
  have HR2 := Lib.hid hR2
  have HL2 := Lib.hid hl2
  clear hA hU hF02 hR2 hl2
  clear hb1 hb2 hb12 hF1 hF2 hl1
  go_wp2_with (at_builtin; refine wpList_append flds rfl rfl rfl HA.out HU.out rfl HR2.out HL2.out (fvs_one3 _) (by omega) ?_; intro A9 c9 w9 hA9 hF9 _ _; have HA9 := Lib.hid hA9; have HF9 := Lib.hid (HF02.out.trans hF9); clear hA9 hF9)
  go_ret
  have hr := HA9.out.rd
  rw [← fvs_append3] at hr
  exact ⟨A9, c9, rfl, hr, HF9.out⟩
set_option maxRecDepth 100000 in
set_option maxHeartbeats 2000000 in
theorem h3_any (i : Nat) (w : World) : Calls Try.prog 131 #[.int .u64 i] w fun e w' => e = .returned (.tuple #[fld (entV h3tab[i]?).1, .bool (entV h3tab[i]?).2]) ∧ Frm (New w) w w' := by
  have hB1 := Blk.new w 71 #[.string ⟨#[]⟩, .string ⟨#[]⟩]
  have hF1 : Frm (New w) w (w.alloc (Obj.cells #[.string ⟨#[]⟩, .string ⟨#[]⟩] 71)) := (Frm.refl _ _).alloc Up.new _
  have hsa := fun (A : Option Addr) (c : Nat) w' (hw : Rd w' A (fvs h3tab)) => sat_any h3tab A c i w' hw (by rw [h3_len.2.2]; omega)
  rw [h3_len.2.2] at hsa
  generalize entV h3tab[i]? = q at *
  obtain ⟨⟨f1, f2⟩, ok⟩ := q
  simp only [fld, str] at hsa ⊢
  have HB1 := Lib.hid hB1
  have HF1 := Lib.hid hF1
  have HSA := Lib.hid hsa
  clear hB1 hF1 hsa
  go_enter Try.func131, Try.ntmps131
  go_upto_region 1 with (fail)
  generalize w.alloc (Obj.cells #[.string ⟨#[]⟩, .string ⟨#[]⟩] 71) = w1 at *
  generalize hb : w.heap.size = b at *
  have HB := Lib.hid hb
  clear hb
  go_wp2_with (fail)
  refine (two_any _).mono ?_
  rintro e w2 ⟨A, c, rfl, hRs, hF2⟩
  have hB2 := HB1.out.fresh hF2
  have hF12 := HF1.out.then_new Up.new hF2
  go_wp2_with (fail)
  refine (HSA.out A c w2 hRs).mono ?_
  rintro e w3 ⟨rfl, hF3⟩
  have hB3 := hB2.fresh hF3
  have hF13 := hF12.then_new Up.new hF3
  clear hB2 hF12 hRs hF2 hF3
  have hx1 := hB3.cell 0
  have hx2 := hB3.cell 1
  simp only [List.getElem?_toArray, List.getElem?_cons_zero, List.getElem?_cons_succ] at hx1 hx2
  have hz1 := hB3.frozen 0
  have hz2 := hB3.frozen 1
  have hbl := hB3.lt
  have HB3 := Lib.hid hB3
  have HF13 := Lib.hid hF13
  clear hB3 hF13
  go_wp2
  refine bodyPost_ret (results_agg_tmp aggf rfl rfl rfl ((HB3.out.set_ 0 (.string ⟨f1.toArray⟩)).set_ 1 (.string ⟨f2.toArray⟩)) rfl) rfl ?_
  exact ⟨rfl, (HF13.out.setCell (p := ⟨b, 0, none⟩) (by have := HB.out; unfold New; simp only; omega) _).setCell (p := ⟨b, 1, none⟩) (by have := HB.out; unfold New; simp only; omega) _⟩
set_option maxRecDepth 100000 in
set_option maxHeartbeats 2000000 in
theorem tat_any {S : Nat → Prop} {g : Nat} {T : Tb} (i : Nat) (w : World) (h : TabS S w g T) (hi : i ≤ 18446744073709551615) :
    Calls Try.prog 121 #[.pointer (some ⟨g, 0, none⟩), .int .u64 i] w fun e w' => e = .returned (.tuple #[fld (entV (T.at_ i)).1, .bool (entV (T.at_ i)).2]) ∧ Frm (New w) w w' := by
  obtain ⟨A, c, a, b, ew, en, h⟩ := h
  obtain ⟨l, n, cap⟩ := T
  simp only at h
  have hll := h.le
  have hnb := h.nb
  have hd0 := h.blk.cell 0
  have hd1 := h.blk.cell 1
  have hg : g < w.heap.size := h.blk.lt
  have hR := h.app.rd
  simp only [List.getElem?_toArray, List.getElem?_cons_zero, List.getElem?_cons_succ] at hd0 hd1
  clear h
  have hB1 := Blk.new w 71 #[.string ⟨#[]⟩, .string ⟨#[]⟩]
  have hF1 : Frm (New w) w (w.alloc (Obj.cells #[.string ⟨#[]⟩, .string ⟨#[]⟩] 71)) := (Frm.refl _ _).alloc Up.new _
  have hd01 : (w.alloc (Obj.cells #[.string ⟨#[]⟩, .string ⟨#[]⟩] 71)).cell? ⟨g, 0, none⟩ = some (.slice A l.length c) := (hF1.cell (p := ⟨g, 0, none⟩) (fun c => by unfold New at c; simp at c; omega)).trans hd0
  have hd11 : (w.alloc (Obj.cells #[.string ⟨#[]⟩, .string ⟨#[]⟩] 71)).cell? ⟨g, 1, none⟩ = some (.int .u64 n) := (hF1.cell (p := ⟨g, 1, none⟩) (fun c => by unfold New at c; simp at c; omega)).trans hd1
  have hR1 := hR.fresh hF1
  generalize hE : entV (Tb.at_ ⟨l, n, cap⟩ i) = q
  unfold Tb.at_ Tb.first at hE
  simp only at hE
  have HB1 := Lib.hid hB1
  have HF1 := Lib.hid hF1
  have HR1 := Lib.hid hR1
  clear hB1 hF1 hR1
  clear hR
  by_cases hq : n - l.length ≤ i ∧ i < n
  · rw [if_pos hq] at hE
    obtain ⟨q1, q2⟩ := hq
    obtain ⟨j, hj⟩ : ∃ j, j = i - (n - l.length) := ⟨_, rfl⟩
    have hjl : j < l.length := by omega
    rw [← hj, List.getElem?_eq_getElem hjl] at hE
    obtain ⟨gA, off, rfl, hx⟩ := HR1.out.at_ (k := j * 2) (by rw [fvs_length]; omega)
    clear hx
    obtain ⟨hc1, hc2⟩ := fld_cells HR1.out j hjl
    have hgA := World.block_lt_of_cell? _ _ hc1
    simp only at hgA
    generalize l[j] = f at *
    obtain ⟨f1, f2⟩ := f
    simp only [str] at hc1 hc2
    obtain ⟨fr, hfr⟩ : ∃ fr, fr = n - l.length := ⟨_, rfl⟩
    have hwr : IntKind.u64.wrap ((i : Int) - (fr : Int)) = (j : Int) := by
      rw [show ((i : Int) - (fr : Int)) = (j : Int) from by omega]
      exact IntWalk.u64_in _ (by omega)
    have hfi := fun w' h0 h1 => tfirst_any (some ⟨gA, off, none⟩) g l.length c n w' h0 h1 hll hnb
    rw [← hfr] at hfi q1 hj
    have f1' : ¬ (i : Int) < (fr : Int) := by omega
    have f2' : ¬ (n : Int) ≤ (i : Int) := by omega
    have hji : (j : Int) < (l.length : Int) := by omega
    have hqe : q = ((f1, f2), true) := hE.symm
    subst hqe
    clear hE hd0 hd1 HR1
    generalize l.length = ln at *
    simp only [fld, str]
    have HFI := Lib.hid hfi
    have HFR := Lib.hid hfr
    have HJ := Lib.hid hj
    clear hfi hfr hj
    clear q1 q2
    go_enter Try.func121, Try.ntmps121
    go_upto_region 1 with (fail)
    generalize w.alloc (Obj.cells #[.string ⟨#[]⟩, .string ⟨#[]⟩] 71) = w1 at *
    have hbl := HB1.out.lt
    obtain ⟨b, hbe⟩ : ∃ b, b = w.heap.size := ⟨_, rfl⟩
    rw [← hbe] at HB1 hbl ⊢
    have hbg : b ≠ g := by omega
    have hgl1 := World.block_lt_of_cell? _ _ hd01
    simp only at hgl1
    have HBE := Lib.hid hbe
    clear hbe
    go_upto_region 3 with (go_at_call 138; refine (HFI.out w1 hd01 hd11).mono ?_; rintro e w2 ⟨rfl, q, rfl⟩)
    have hSw : ∀ k, (w1.drewN k).cell? ⟨g, 0, none⟩ = some (.slice (some ⟨gA, off, none⟩) ln c) ∧ (w1.drewN k).cell? ⟨g, 1, none⟩ = some (.int .u64 n) ∧ (w1.drewN k).cell? ⟨gA, off + j * 2, none⟩ = some (.string ⟨f1.toArray⟩) ∧ (w1.drewN k).cell? ⟨gA, off + j * 2 + 1, none⟩ = some (.string ⟨f2.toArray⟩) ∧ g < (w1.drewN k).heap.size ∧ gA < (w1.drewN k).heap.size := fun k => ⟨hd01, hd11, hc1, hc2, hgl1, hgA⟩
    have hF2 : Frm (New w) w (w1.drewN q) := HF1.out.drewN q
    have hB2 := HB1.out.drewN q
    have hS0 : (w1.drewN q).drew.cell? ⟨g, 0, none⟩ = some (.slice (some ⟨gA, off, none⟩) ln c) ∧ (w1.drewN q).drew.cell? ⟨g, 1, none⟩ = some (.int .u64 n) ∧ (w1.drewN q).drew.cell? ⟨gA, off + j * 2, none⟩ = some (.string ⟨f1.toArray⟩) ∧ (w1.drewN q).drew.cell? ⟨gA, off + j * 2 + 1, none⟩ = some (.string ⟨f2.toArray⟩) ∧ g < (w1.drewN q).drew.heap.size ∧ gA < (w1.drewN q).drew.heap.size := ⟨hd01, hd11, hc1, hc2, hgl1, hgA⟩
    refine wp_region_til (by kernel_rfl) (fun w' => w'.cell? ⟨g, 0, none⟩ = some (.slice (some ⟨gA, off, none⟩) ln c) ∧ w'.cell? ⟨g, 1, none⟩ = some (.int .u64 n) ∧ w'.cell? ⟨gA, off + j * 2, none⟩ = some (.string ⟨f1.toArray⟩) ∧ w'.cell? ⟨gA, off + j * 2 + 1, none⟩ = some (.string ⟨f2.toArray⟩) ∧ g < w'.heap.size ∧ gA < w'.heap.size) 10 ?_
    refine wpAnyT_take (i := 0) (v := ?_) (d := some 19) rfl (by rfl) (by kernel_rfl) (fun _ _ _ h => h) (by rfl) hS0 (fun w hSw => ?_) ?_
    rotate_left
    · (try dsimp only at hSw); go_simp; first | done | (with_reducible rfl)
    simp only [Act.put, List.setIfInBounds_toArray, List.set_cons_zero, List.set_cons_succ]
    refine wpAnyT_take (i := 1) (v := ?_) (d := some 20) rfl (by rfl) (by kernel_rfl) (fun _ _ _ h => h) (by rfl) hS0 (fun w hSw => ?_) ?_
    rotate_left
    · (try dsimp only at hSw); go_simp; first | done | (with_reducible rfl)
    simp only [Act.put, List.setIfInBounds_toArray, List.set_cons_zero, List.set_cons_succ]
    refine wpAnyT_take (i := 2) (v := ?_) (d := some 21) rfl (by rfl) (by kernel_rfl) (fun _ _ _ h => h) (by rfl) hS0 (fun w hSw => ?_) ?_
    rotate_left
    · (try dsimp only at hSw); go_simp; first | done | (with_reducible rfl)
    simp only [Act.put, List.setIfInBounds_toArray, List.set_cons_zero, List.set_cons_succ]
    refine wpAnyT_take (i := 3) (v := ?_) (d := some 22) rfl (by rfl) (by kernel_rfl) (fun _ _ _ h => h) (by rfl) hS0 (fun w hSw => ?_) ?_
    rotate_left
    · (try dsimp only at hSw); go_simp; first | done | (with_reducible rfl)
    simp only [Act.put, List.setIfInBounds_toArray, List.set_cons_zero, List.set_cons_succ]
    refine wpAnyT_take (i := 4) (v := ?_) (d := some 23) rfl (by rfl) (by kernel_rfl) (fun _ _ _ h => h) (by rfl) hS0 (fun w hSw => ?_) ?_
    rotate_left
    · (try dsimp only at hSw); go_simp; first | done | (with_reducible rfl)
    simp only [Act.put, List.setIfInBounds_toArray, List.set_cons_zero, List.set_cons_succ]
    refine wpAnyT_take (i := 5) (v := ?_) (d := some 24) rfl (by rfl) (by kernel_rfl) (fun _ _ _ h => h) (by rfl) hS0 (fun w hSw => ?_) ?_
    rotate_left
    · (try dsimp only at hSw); go_simp; first | done | (with_reducible rfl)
    simp only [Act.put, List.setIfInBounds_toArray, List.set_cons_zero, List.set_cons_succ]
    generalize hw3 : (w1.drewN q).drew = w3 at *
    have hF3 : Frm (New w) w w3 := by rw [← hw3]; exact hF2.drew
    have hB3 : Blk w3 b 71 #[.string ⟨#[]⟩, .string ⟨#[]⟩] := by rw [← hw3]; exact hB2.drew
    clear hw3 hSw hF2 hB2 hd01 hd11 hc1 hc2 hgl1 hgA HB1 HF1
    have HF3 := Lib.hid hF3
    have HB3 := Lib.hid hB3
    clear hF3 hB3
    refine wpAnyT_one (i := 6) rfl (by kernel_rfl) (fun K hKK => ?_)
    refine Eq.mpr (if_pos (by rfl)) ?_
    go_wp2_with (fail)
    refine (HFI.out w3 hS0.1 hS0.2.1).mono ?_
    rintro e w4 ⟨rfl, q4, rfl⟩
    have hS4 : (w3.drewN q4).cell? ⟨g, 0, none⟩ = some (.slice (some ⟨gA, off, none⟩) ln c) ∧ (w3.drewN q4).cell? ⟨g, 1, none⟩ = some (.int .u64 n) ∧ (w3.drewN q4).cell? ⟨gA, off + j * 2, none⟩ = some (.string ⟨f1.toArray⟩) ∧ (w3.drewN q4).cell? ⟨gA, off + j * 2 + 1, none⟩ = some (.string ⟨f2.toArray⟩) ∧ g < (w3.drewN q4).heap.size ∧ gA < (w3.drewN q4).heap.size := hS0
    refine hKK.out _ _ (.inr hS4) ?_
    clear hKK K hS0
    try simp only [Act.put, List.setIfInBounds_toArray, List.set_cons_zero, List.set_cons_succ]
    have hF4 := HF3.out.drewN q4
    have hB4 := HB3.out.drewN q4
    generalize w3.drewN q4 = w4 at *
    refine wpAnyT_take (i := 7) (v := ?_) (d := some 26) rfl (by rfl) (by kernel_rfl) (fun _ _ _ h => h) (by rfl) hS4 (fun w hSw => ?_) ?_
    rotate_left
    · (try dsimp only at hSw); go_simp; first | done | (with_reducible rfl)
    simp only [Act.put, List.setIfInBounds_toArray, List.set_cons_zero, List.set_cons_succ]
    refine wpAnyT_take (i := 8) (v := ?_) (d := some 27) rfl (by rfl) (by kernel_rfl) (fun _ _ _ h => h) (by rfl) hS4 (fun w hSw => ?_) ?_
    rotate_left
    · (try dsimp only at hSw); go_simp; first | done | (with_reducible rfl)
    simp only [Act.put, List.setIfInBounds_toArray, List.set_cons_zero, List.set_cons_succ]
    refine wpAnyT_take (i := 9) (v := ?_) (d := some 28) rfl (by rfl) (by kernel_rfl) (fun _ _ _ h => h) (by rfl) hS4 (fun w hSw => ?_) ?_
    rotate_left
    · (try dsimp only at hSw); go_simp; first | done | (with_reducible rfl)
    simp only [Act.put, List.setIfInBounds_toArray, List.set_cons_zero, List.set_cons_succ]
    have HF4 := Lib.hid hF4
    clear hF4
    refine wpAnyT_one (i := 10) rfl (by kernel_rfl) (fun K hKK => ?_)
    refine step_store_agg rfl rfl rfl rfl hB4 rfl (fld_one3 _ _) (by kernel_rfl) ?_
    intro w10 hb10 hF10 hs10
    refine hKK.out _ _ (.inl (by kernel_rfl)) ?_
    clear hKK K hS4
    refine wpAnyT_one (i := 11) rfl (by kernel_rfl) (fun K hK => ?_)
    go_simp
    refine hK.out _ _ (.inl (by kernel_rfl)) ?_
    clear hK K
    refine wpAnyT_done (by kernel_rfl) ?_ _
    go_wp2_with (fail)
    refine bodyPost_ret (results_agg_tmp aggf rfl rfl rfl hb10 rfl) rfl ?_
    exact ⟨rfl, HF4.out.trans (hF10.mono (fun k hk => by subst hk; rw [HBE.out]; exact Nat.le_refl _))⟩
  · rw [if_neg hq] at hE
    obtain ⟨fr, hfr⟩ : ∃ fr, fr = n - l.length := ⟨_, rfl⟩
    have hfi := fun w' h0 h1 => tfirst_any A g l.length c n w' h0 h1 hll hnb
    rw [← hfr] at hfi hq
    have hqe : q = (([], []), false) := hE.symm
    subst hqe
    clear hE hd0 hd1 HR1
    generalize l.length = ln at *
    simp only [fld, str]
    have HFI := Lib.hid hfi
    have HFR := Lib.hid hfr
    clear hfi hfr
    by_cases q1 : i < fr
    · have f1' : (i : Int) < (fr : Int) := by omega
      clear hq q1
      go_enter Try.func121, Try.ntmps121
      go_upto_region 1 with (fail)
      generalize w.alloc (Obj.cells #[.string ⟨#[]⟩, .string ⟨#[]⟩] 71) = w1 at *
      have hbl := HB1.out.lt
      obtain ⟨b, hbe⟩ : ∃ b, b = w.heap.size := ⟨_, rfl⟩
      rw [← hbe] at HB1 hbl ⊢
      have HBE := Lib.hid hbe
      clear hbe
      go_upto_region 2 with (go_at_call 138; refine (HFI.out w1 hd01 hd11).mono ?_; rintro e w2 ⟨rfl, q, rfl⟩)
      have hF2 : Frm (New w) w (w1.drewN q) := HF1.out.drewN q
      have hB2 := HB1.out.drewN q
      generalize w1.drewN q = w2 at *
      have HF2 := Lib.hid hF2
      clear hF2
      go_wp2_with (refine wpList_store_agg rfl rfl rfl rfl hB2 rfl (fld_one3 _ _) (by kernel_rfl) ?_; intro w10 hb10 hF10 hs10)
      refine bodyPost_ret (results_agg_tmp aggf rfl rfl rfl hb10 rfl) rfl ?_
      exact ⟨rfl, HF2.out.trans (hF10.mono (fun k hk => by subst hk; rw [HBE.out]; exact Nat.le_refl _))⟩
    · have f1' : ¬ (i : Int) < (fr : Int) := by omega
      have f2' : (n : Int) ≤ (i : Int) := by omega
      clear hq q1
      have hgl1 := World.block_lt_of_cell? _ _ hd01
      simp only at hgl1
      go_enter Try.func121, Try.ntmps121
      go_upto_region 1 with (fail)
      generalize w.alloc (Obj.cells #[.string ⟨#[]⟩, .string ⟨#[]⟩] 71) = w1 at *
      have hbl := HB1.out.lt
      obtain ⟨b, hbe⟩ : ∃ b, b = w.heap.size := ⟨_, rfl⟩
      rw [← hbe] at HB1 hbl ⊢
      have HBE := Lib.hid hbe
      clear hbe
      go_upto_region 2 with (go_at_call 138; refine (HFI.out w1 hd01 hd11).mono ?_; rintro e w2 ⟨rfl, q, rfl⟩)
      have hF2 : Frm (New w) w (w1.drewN q) := HF1.out.drewN q
      have hB2 := HB1.out.drewN q
      generalize w1.drewN q = w2 at *
      have HF2 := Lib.hid hF2
      clear hF2
      go_wp2_with (refine wpList_store_agg rfl rfl rfl rfl hB2 rfl (fld_one3 _ _) (by kernel_rfl) ?_; intro w10 hb10 hF10 hs10)
      refine bodyPost_ret (results_agg_tmp aggf rfl rfl rfl hb10 rfl) rfl ?_
      exact ⟨rfl, HF2.out.trans (hF10.mono (fun k hk => by subst hk; rw [HBE.out]; exact Nat.le_refl _))⟩
end Go.Proofs.Ytdgggjeiflllhaa.M
namespace Go.Proofs.Ytdgggjeiflllhaa.M
open Go.ChangeShapes Go.WideShapes Go.ChangeAt Go.RowKit
theorem zFld3 : (Try.prog.info? 71).map (·.zero) = some (some (.agg #[.string ByteArray.empty, .string ByteArray.empty])) := by kernel_rfl
theorem new_entV (T : Tb) (i : Nat) : newestS T.l i = entV (T.new i) := by
  unfold newestS Tb.new
  by_cases h : i < T.l.length
  · rw [dif_pos h, if_pos h, List.getElem?_eq_getElem (by omega)]; rfl
  · rw [dif_neg h, if_neg h]; rfl
theorem entV_map (o : Option Fld) : o.map (·.1) = if (entV o).2 = true then some (entV o).1.1 else none := by
  cases o <;> rfl
def NamR (w : World) (q : Option Bytes) (e : Ending) (w' : World) : Prop := (match q with | some nm => e = .returned (str nm) | none => e = PQ 26) ∧ Frm (New w) w w'
set_option maxRecDepth 100000 in
set_option maxHeartbeats 2000000 in
theorem qnamed_any {S : Nat → Prop} {g : Nat} {T : Tb} (i : Nat) (fx : Bool) (pd : Nat) (w : World) (hd0 : w.cell? ⟨pd, 0, none⟩ = some (.pointer (some ⟨g, 0, none⟩))) (hT : TabS S w g T) (hi : i ≤ 18446744073709551615) :
    Calls Try.prog 110 #[.pointer (some ⟨pd, 0, none⟩), .int .u64 i, .bool fx] w (NamR w (nameQ T i fx)) := by
  have hpl := World.block_lt_of_cell? _ _ hd0
  simp only at hpl
  have hh3 := fun w' => h3_any i w'
  have hne := fun w' f => tnewest_any i w' (hT.fresh (w' := w') f) hi
  unfold nameQ
  rw [entV_map, entV_map]
  rw [new_entV] at hne
  generalize entV h3tab[i]? = q at *
  generalize entV (T.new i) = q' at *
  obtain ⟨⟨f1, f2⟩, ok⟩ := q
  obtain ⟨⟨k1, k2⟩, ok'⟩ := q'
  simp only [fld, str] at hh3 hne ⊢
  have HH3 := Lib.hid hh3
  have HNE := Lib.hid hne
  clear hh3 hne
  have hat : ∀ w', Calls Try.prog 67 #[.bool true] w' fun e w2 => e = .returned (.tuple #[]) ∧ w2 = w' := fun w' => qask_true w'
  have haf : ∀ w', Calls Try.prog 67 #[.bool false] w' fun e w2 => e = PQ 26 ∧ w2 = w' := fun w' => qask_false w'
  have HAT := Lib.hid hat
  have HAF := Lib.hid haf
  clear hat haf
  cases fx with
  | true =>
    simp only [if_true]
    go_enter Try.func110, Try.ntmps110
    go_upto_region 2 with (first
      | (go_at_call 131; refine (HH3.out _).mono ?_; rintro e w1 ⟨rfl, hF1⟩)
      | (refine wpList_new rfl rfl zFld3 rfl ?_; intro w2 hb2 hF2 hs2)
      | (refine wpList_store_agg rfl rfl rfl rfl hb2 rfl (fld_one3 _ _) (by kernel_rfl) ?_; intro w3 hb3 hF3 hs3))
    have hF03 : Frm (New w) w w3 := (hF1.then_new Up.new hF2).trans (hF3.mono (fun k hk => by have := hF1.size; subst hk; unfold New; omega))
    have hl3 := hb3.lt
    have hx1 := hb3.cell 0
    simp only [List.getElem?_toArray, List.getElem?_cons_zero] at hx1
    clear hb2 hF2 hs2 hF3 hs3 hF1 hb3
    generalize w1.heap.size = g7 at *
    have HF03 := Lib.hid hF03
    clear hF03
    cases ok with
    | true =>
      go_wp2_with (go_at_call 67; refine (HAT.out _).mono ?_; rintro e w4 ⟨rfl, rfl⟩)
      go_ret
      exact ⟨rfl, HF03.out⟩
    | false =>
      go_wp2_with (fail)
      refine (HAF.out _).mono ?_
      rintro e w4 ⟨rfl, rfl⟩
      unfold PQ
      go_wp2
      exact ⟨rfl, rfl, HF03.out⟩
  | false =>
    simp only [Bool.false_eq_true, if_false]
    go_enter Try.func110, Try.ntmps110
    go_upto_region 2 with (first
      | (go_at_call 131; refine (HH3.out _).mono ?_; rintro e w1 ⟨rfl, hF1⟩)
      | (refine wpList_new rfl rfl zFld3 rfl ?_; intro w2 hb2 hF2 hs2)
      | (refine wpList_store_agg rfl rfl rfl rfl hb2 rfl (fld_one3 _ _) (by kernel_rfl) ?_; intro w3 hb3 hF3 hs3))
    have hF03 : Frm (New w) w w3 := (hF1.then_new Up.new hF2).trans (hF3.mono (fun k hk => by have := hF1.size; subst hk; unfold New; omega))
    have hg7 : w.heap.size ≤ w1.heap.size := hF1.size
    have hd3 : w3.cell? ⟨pd, 0, none⟩ = some (.pointer (some ⟨g, 0, none⟩)) := by rw [hF03.cell (p := ⟨pd, 0, none⟩) (by unfold New; simp only; omega)]; exact hd0
    have hpl3 : pd < w3.heap.size := Nat.lt_of_lt_of_le hpl hF03.size
    clear hb2 hF2 hs2 hF3 hs3 hF1 hd0
    generalize w1.heap.size = g7 at *
    have HF03 := Lib.hid hF03
    have HB3 := Lib.hid hb3
    clear hF03 hb3
    go_upto_region 4 with (first
      | (go_at_call 113; refine (HNE.out _ HF03.out).mono ?_; rintro e w4 ⟨rfl, hF4⟩; have hb4 := HB3.out.fresh hF4)
      | (refine wpList_store_agg rfl rfl rfl rfl hb4 rfl (fld_one3 _ _) (by kernel_rfl) ?_; intro w5 hb5 hF5 hs5))
    have hF05 : Frm (New w) w w5 := (HF03.out.then_new Up.new hF4).trans (hF5.mono (fun k hk => by subst hk; unfold New; omega))
    have hl5 := hb5.lt
    have hx1 := hb5.cell 0
    simp only [List.getElem?_toArray, List.getElem?_cons_zero] at hx1
    clear hb4 hF4 hF5 hs5 hb5 HF03 HB3 hd3
    have HF05 := Lib.hid hF05
    clear hF05
    cases ok' with
    | true =>
      go_wp2_with (go_at_call 67; refine (HAT.out _).mono ?_; rintro e w6 ⟨rfl, rfl⟩)
      go_ret
      exact ⟨rfl, HF05.out⟩
    | false =>
      go_wp2_with (fail)
      refine (HAF.out _).mono ?_
      rintro e w6 ⟨rfl, rfl⟩
      unfold PQ
      go_wp2
      exact ⟨rfl, rfl, HF05.out⟩
def FixR (w : World) (q : Option Fld) (e : Ending) (w' : World) : Prop := (match q with | some f => e = .returned (fld f) | none => e = PQ 26) ∧ Frm (New w) w w'
theorem entV_opt (o : Option Fld) : o = if (entV o).2 = true then some (entV o).1 else none := by cases o <;> rfl
set_option maxRecDepth 100000 in
set_option maxHeartbeats 2000000 in
theorem qfixed_any (i : Nat) (w : World) : Calls Try.prog 103 #[.int .u64 i] w (FixR w h3tab[i]?) := by
  have hh3 := fun w' => h3_any i w'
  rw [entV_opt h3tab[i]?]
  generalize entV h3tab[i]? = q at *
  obtain ⟨⟨f1, f2⟩, ok⟩ := q
  simp only [fld, str] at hh3 ⊢
  have hat : ∀ w', Calls Try.prog 67 #[.bool true] w' fun e w2 => e = .returned (.tuple #[]) ∧ w2 = w' := fun w' => qask_true w'
  have haf : ∀ w', Calls Try.prog 67 #[.bool false] w' fun e w2 => e = PQ 26 ∧ w2 = w' := fun w' => qask_false w'
  have HH3 := Lib.hid hh3
  have HAT := Lib.hid hat
  have HAF := Lib.hid haf
  clear hh3 hat haf
  go_enter Try.func103, Try.ntmps103
  go_upto_region 1 with (refine wpList_new rfl rfl zFld3 rfl ?_; intro w0 hb0 hF0 hs0)
  obtain ⟨gr, hgr⟩ : ∃ gr, gr = w.heap.size := ⟨_, rfl⟩
  rw [← hgr] at hb0 ⊢
  have hgrw : w.heap.size ≤ gr := by omega
  have hlr := hb0.lt
  clear hgr hs0
  have HB0 := Lib.hid hb0
  have HF0 := Lib.hid hF0
  clear hb0 hF0
  go_upto_region 2 with (first
    | (go_at_call 131; refine (HH3.out _).mono ?_; rintro e w1 ⟨rfl, hF1⟩)
    | (refine wpList_new rfl rfl zFld3 rfl ?_; intro w2 hb2 hF2 hs2)
    | (refine wpList_store_agg rfl rfl rfl rfl hb2 rfl (fld_one3 _ _) (by kernel_rfl) ?_; intro w3 hb3 hF3 hs3))
  have hF12 : Frm (New w1) w1 w3 := hF2.trans (hF3.mono (fun k hk => by subst hk; unfold New; omega))
  have hF03 := (HF0.out.then_new Up.new hF1).then_new Up.new hF12
  have hb03 := (HB0.out.fresh hF1).fresh hF12
  have hl3 := hb3.lt
  clear hb2 hF2 hs2 hF3 hs3 HB0 HF0
  have hg1 := hF1.size
  have hgn : gr ≠ w1.heap.size := by omega
  clear hF1 hF12 hg1
  generalize w1.heap.size = g7 at *
  have HF03 := Lib.hid hF03
  have HB03 := Lib.hid hb03
  have HB3 := Lib.hid hb3
  have HGN := Lib.hid hgn
  clear hF03 hb03 hb3 hgn
  cases ok with
  | true =>
    go_wp2_with (first
      | (go_at_call 67; refine (HAT.out _).mono ?_; rintro e w4 ⟨rfl, rfl⟩)
      | (refine wpList_load_agg aggf rfl rfl rfl HB3.out rfl ?_)
      | (refine wpList_store_agg rfl rfl rfl rfl HB03.out rfl (fld_one3 _ _) (by kernel_rfl) ?_; intro w6 hb6 hF6 hs6))
    refine bodyPost_ret (results_agg aggf rfl rfl hb6 rfl) rfl ?_
    exact ⟨rfl, HF03.out.trans (hF6.mono (fun k hk => by subst hk; exact hgrw))⟩
  | false =>
    go_wp2_with (fail)
    refine (HAF.out _).mono ?_
    rintro e w4 ⟨rfl, rfl⟩
    unfold PQ
    go_wp2
    exact ⟨rfl, rfl, HF03.out⟩
set_option maxRecDepth 100000 in
set_option maxHeartbeats 2000000 in
theorem qentry_any {S : Nat → Prop} {g : Nat} {T : Tb} (i : Nat) (ok0 : Bool) (count ps pd : Nat) (w : World) (hs0 : w.cell? ⟨ps, 0, none⟩ = some (.pointer (some ⟨pd, 0, none⟩))) (hs2 : w.cell? ⟨ps, 2, none⟩ = some (.int .u64 count)) (hd0 : w.cell? ⟨pd, 0, none⟩ = some (.pointer (some ⟨g, 0, none⟩))) (hT : TabS S w g T) (hi : i ≤ 18446744073709551615) :
    Calls Try.prog 105 #[.pointer (some ⟨ps, 0, none⟩), .int .u64 i, .bool ok0] w (FixR w (entQ T count (i, ok0))) := by
  have hpl := World.block_lt_of_cell? _ _ hd0
  have hsl := World.block_lt_of_cell? _ _ hs0
  simp only at hpl hsl
  have hta := fun w' f => tat_any i w' (hT.fresh (w' := w') f) hi
  have hat : ∀ w', Calls Try.prog 67 #[.bool true] w' fun e w2 => e = .returned (.tuple #[]) ∧ w2 = w' := fun w' => qask_true w'
  have haf : ∀ w', Calls Try.prog 67 #[.bool false] w' fun e w2 => e = PQ 26 ∧ w2 = w' := fun w' => qask_false w'
  have HAT := Lib.hid hat
  have HAF := Lib.hid haf
  clear hat haf
  obtain ⟨q0, hq0⟩ : ∃ q0, q0 = entQ T count (i, ok0) := ⟨_, rfl⟩
  rw [← hq0]
  unfold entQ at hq0
  simp only at hq0
  cases ok0 with
  | false =>
    have hq : q0 = none := by rw [hq0]; simp
    subst hq
    clear hq0 hta
    go_enter Try.func105, Try.ntmps105
    go_upto_region 1 with (refine wpList_new rfl rfl zFld3 rfl ?_; intro w0 hb0 hF0 hs9)
    clear hb0 hs9 hs0 hs2 hd0
    have HF0 := Lib.hid hF0
    clear hF0
    go_wp2_with (fail)
    refine (HAF.out _).mono ?_
    rintro e w4 ⟨rfl, rfl⟩
    unfold PQ
    go_wp2
    exact ⟨rfl, rfl, HF0.out⟩
  | true =>
    by_cases hic : i < count
    · have hici : (i : Int) < (count : Int) := by omega
      rw [if_pos ⟨rfl, hic⟩, entV_opt (T.at_ i)] at hq0
      generalize entV (T.at_ i) = q at *
      obtain ⟨⟨f1, f2⟩, ok⟩ := q
      simp only [fld, str] at hta
      subst hq0
      clear hic
      have HTA := Lib.hid hta
      clear hta
      go_enter Try.func105, Try.ntmps105
      go_upto_region 1 with (refine wpList_new rfl rfl zFld3 rfl ?_; intro w0 hb0 hF0 hs9)
      obtain ⟨gr, hgr⟩ : ∃ gr, gr = w.heap.size := ⟨_, rfl⟩
      rw [← hgr] at hb0 ⊢
      have hgrw : w.heap.size ≤ gr := by omega
      have hlr := hb0.lt
      have ks0 : w0.cell? ⟨ps, 0, none⟩ = some (.pointer (some ⟨pd, 0, none⟩)) := by rw [hF0.cell (p := ⟨ps, 0, none⟩) (by unfold New; simp only; omega)]; exact hs0
      have ks2 : w0.cell? ⟨ps, 2, none⟩ = some (.int .u64 count) := by rw [hF0.cell (p := ⟨ps, 2, none⟩) (by unfold New; simp only; omega)]; exact hs2
      have kd0 : w0.cell? ⟨pd, 0, none⟩ = some (.pointer (some ⟨g, 0, none⟩)) := by rw [hF0.cell (p := ⟨pd, 0, none⟩) (by unfold New; simp only; omega)]; exact hd0
      have hpl0 := Nat.lt_of_lt_of_le hpl hF0.size
      have hsl0 := Nat.lt_of_lt_of_le hsl hF0.size
      clear hgr hs9 hs0 hs2 hd0
      have HB0 := Lib.hid hb0
      have HF0 := Lib.hid hF0
      clear hb0 hF0
      go_upto_region 2 with (first
        | (go_at_call 67; refine (HAT.out _).mono ?_; rintro e w4 ⟨rfl, rfl⟩))
      go_upto_region 3 with (first
        | (go_at_call 121; refine (HTA.out _ HF0.out).mono ?_; rintro e w1 ⟨rfl, hF1⟩)
        | (refine wpList_new rfl rfl zFld3 rfl ?_; intro w2 hb2 hF2 hs2)
        | (refine wpList_store_agg rfl rfl rfl rfl hb2 rfl (fld_one3 _ _) (by kernel_rfl) ?_; intro w3 hb3 hF3 hs3))
      have hF12 : Frm (New w1) w1 w3 := hF2.trans (hF3.mono (fun k hk => by subst hk; unfold New; omega))
      have hF03 := (HF0.out.then_new Up.new hF1).then_new Up.new hF12
      have hb03 := (HB0.out.fresh hF1).fresh hF12
      have hl3 := hb3.lt
      clear hb2 hF2 hs2 hF3 hs3 HB0 HF0 ks0 ks2 kd0
      have hg1 := hF1.size
      have hgn : gr ≠ w1.heap.size := by omega
      clear hF1 hF12 hg1
      generalize w1.heap.size = g7 at *
      have HF03 := Lib.hid hF03
      have HB03 := Lib.hid hb03
      have HB3 := Lib.hid hb3
      have HGN := Lib.hid hgn
      clear hF03 hb03 hb3 hgn
      cases ok with
      | true =>
        go_wp2_with (first
          | (go_at_call 67; refine (HAT.out _).mono ?_; rintro e w4 ⟨rfl, rfl⟩)
          | (refine wpList_load_agg aggf rfl rfl rfl HB3.out rfl ?_)
          | (refine wpList_store_agg rfl rfl rfl rfl HB03.out rfl (fld_one3 _ _) (by kernel_rfl) ?_; intro w6 hb6 hF6 hs6))
        refine bodyPost_ret (results_agg aggf rfl rfl hb6 rfl) rfl ?_
        exact ⟨rfl, HF03.out.trans (hF6.mono (fun k hk => by subst hk; exact hgrw))⟩
      | false =>
        go_wp2_with (fail)
        refine (HAF.out _).mono ?_
        rintro e w4 ⟨rfl, rfl⟩
        unfold PQ
        go_wp2
        exact ⟨rfl, rfl, HF03.out⟩
    · have hici : ¬ (i : Int) < (count : Int) := by omega
      have hq : q0 = none := by rw [hq0, if_neg (fun h => hic h.2)]
      subst hq
      clear hq0 hta hic
      go_enter Try.func105, Try.ntmps105
      go_upto_region 1 with (refine wpList_new rfl rfl zFld3 rfl ?_; intro w0 hb0 hF0 hs9)
      have ks2 : w0.cell? ⟨ps, 2, none⟩ = some (.int .u64 count) := by rw [hF0.cell (p := ⟨ps, 2, none⟩) (by unfold New; simp only; omega)]; exact hs2
      have hsl0 := Nat.lt_of_lt_of_le hsl hF0.size
      clear hb0 hs9 hs0 hs2 hd0
      have HF0 := Lib.hid hF0
      clear hF0
      go_wp2_with (fail)
      refine (HAF.out _).mono ?_
      rintro e w4 ⟨rfl, rfl⟩
      unfold PQ
      go_wp2
      exact ⟨rfl, rfl, HF0.out⟩
end Go.Proofs.Ytdgggjeiflllhaa.M
namespace Go.Proofs.Ytdgggjeiflllhaa.M
open Go.ChangeShapes Go.WideShapes Go.ChangeAt Go.RowKit
def AddR (S : Nat → Prop) (w : World) (g : Nat) (T : Tb) (f : Fld) (e : Ending) (w' : World) : Prop :=
  if fsize f ≤ T.cap then e = .returned (.tuple #[]) ∧ (∃ S', TabS S' w' g (T.add f) ∧ ∀ k, S' k → Own S w k) ∧ Frm (Own S w) w w' else e = PQ 26 ∧ Frm (New w) w w'
set_option maxRecDepth 100000 in
set_option maxHeartbeats 4000000 in
theorem qadd_any {S : Nat → Prop} {g : Nat} {T : Tb} (f : Fld) (pd : Nat) (w : World) (hd0 : w.cell? ⟨pd, 0, none⟩ = some (.pointer (some ⟨g, 0, none⟩))) (hT : TabS S w g T) (hpS : ¬ S pd) (hn : T.n < 1152921504606846976) (hf : fsize f ≤ 1152921504606846976) (hc : T.cap ≤ 4096) :
    Calls Try.prog 111 #[.pointer (some ⟨pd, 0, none⟩), fld f] w (AddR S w g T f) := by
  have hpl := World.block_lt_of_cell? _ _ hd0
  simp only at hpl
  have hcap : ∀ w', Frm (New w) w w' → Calls Try.prog 42 #[.pointer (some ⟨g, 0, none⟩)] w' fun e w2 => e = .returned (.int .i64 T.cap) ∧ w2 = w' := fun w' fr => by
    obtain ⟨A, c, a, b, ew, en, h⟩ := hT.fresh fr
    exact tcap_any w' h
  have hsz : ∀ (g2 : Nat) w', Rd w' (some ⟨g2, 0, none⟩) (fvs [f]) → Calls Try.prog 119 #[.slice (some ⟨g2, 0, none⟩) 1 1] w' fun e w2 => e = .returned (.int .i64 (fsize f : Nat)) ∧ Frm (New w') w' w2 := fun g2 w' h => by
    have hs := size_any [f] (some ⟨g2, 0, none⟩) 1 w' h (by simp [fsizes]; omega) (by simp)
    have e1 : fsizes [f] = fsize f := by simp [fsizes]
    rw [e1] at hs
    exact hs
  have hadd : ∀ (g2 : Nat) w', Frm (New w) w w' → w.heap.size ≤ g2 → Rd w' (some ⟨g2, 0, none⟩) (fvs [f]) → Calls Try.prog 122 #[.pointer (some ⟨g, 0, none⟩), .slice (some ⟨g2, 0, none⟩) 1 1] w' fun e w2 => (∃ m : Int, e = .returned (.int .i64 m)) ∧ (∃ S', TabS S' w2 g (T.add f) ∧ ∀ k, S' k → Own S w' k) ∧ Frm (Own S w') w' w2 := fun g2 w' fr hg2 h => by
    have hlow := hT.low
    obtain ⟨A, c, a, b, ew, en, ht⟩ := hT.fresh fr
    refine (add_any f (some ⟨g2, 0, none⟩) 1 w' ht h (fun k hk hs => by cases hk; have := hlow _ hs; simp only at this; omega) hn hf (by omega)).mono ?_
    rintro e w2 ⟨h1, S', A', c', ew', en', h2, h3, h4⟩
    refine ⟨h1, ⟨S', ⟨A', c', a, b, ew', en', ?_⟩, h4⟩, h3⟩
    have hcp : (T.add f).cap = T.cap := by unfold Tb.add; split <;> rfl
    rw [hcp]
    exact h2
  have hat : ∀ w', Calls Try.prog 67 #[.bool true] w' fun e w2 => e = .returned (.tuple #[]) ∧ w2 = w' := fun w' => qask_true w'
  have haf : ∀ w', Calls Try.prog 67 #[.bool false] w' fun e w2 => e = PQ 26 ∧ w2 = w' := fun w' => qask_false w'
  have hlow := hT.low
  obtain ⟨f1, f2⟩ := f
  obtain ⟨fz, hfz⟩ : ∃ fz, fz = fsize (f1, f2) := ⟨_, rfl⟩
  obtain ⟨cp, hcp⟩ : ∃ cp, cp = T.cap := ⟨_, rfl⟩
  rw [← hfz] at hsz
  rw [← hcp] at hcap
  simp only [fld, str] at *
  obtain ⟨Q, hQ⟩ : ∃ Q, Q = AddR S w g T (f1, f2) := ⟨_, rfl⟩
  rw [← hQ]
  have hSp : S pd → False := hpS
  have HCAP := Lib.hid hcap
  have HSZ := Lib.hid hsz
  have HADD := Lib.hid hadd
  have HAT := Lib.hid hat
  have HAF := Lib.hid haf
  have HLOW := Lib.hid hlow
  have HFZ := Lib.hid hfz
  have HCP := Lib.hid hcp
  have HQ := Lib.hid hQ
  have HSP := Lib.hid hSp
  clear hcap hsz hadd hat haf hlow hfz hcp hQ hSp
  clear hc hf hn hpS
  go_enter Try.func111, Try.ntmps111
  go_upto_region 1 with (fail)
  have hB1 := Blk.new w 71 #[.string ⟨f1.toArray⟩, .string ⟨f2.toArray⟩]
  have hF1 : Frm (New w) w (w.alloc (Obj.cells #[.string ⟨f1.toArray⟩, .string ⟨f2.toArray⟩] 71)) := (Frm.refl _ _).alloc Up.new _
  generalize w.alloc (Obj.cells #[.string ⟨f1.toArray⟩, .string ⟨f2.toArray⟩] 71) = w1 at *
  obtain ⟨bx, hbx⟩ : ∃ bx, bx = w.heap.size := ⟨_, rfl⟩
  rw [← hbx] at hB1 ⊢
  have hbl := hB1.lt
  have hbw : w.heap.size ≤ bx := by omega
  have hbp : pd ≠ bx := by omega
  clear hbx
  have hSw : ∀ w', Frm (New w1) w1 w' → w'.cell? ⟨bx, 0, none⟩ = some (.string ⟨f1.toArray⟩) ∧ w'.cell? ⟨bx, 1, none⟩ = some (.string ⟨f2.toArray⟩) ∧ w'.cell? ⟨pd, 0, none⟩ = some (.pointer (some ⟨g, 0, none⟩)) ∧ bx < w'.heap.size ∧ pd < w'.heap.size := fun w' h => ⟨(hB1.fresh h).cell 0, (hB1.fresh h).cell 1, by rw [(hF1.then_new Up.new h).cell (p := ⟨pd, 0, none⟩) (by unfold New; simp only; omega)]; exact hd0, (hB1.fresh h).lt, Nat.lt_of_lt_of_le hpl (hF1.then_new Up.new h).size⟩
  have hS0 := hSw w1.drew ((Frm.refl _ w1).drew)
  have HSW := Lib.hid hSw
  have HF1 := Lib.hid hF1
  clear hSw hF1
  refine wp_region_held (by kernel_rfl) (S := fun w' => w'.cell? ⟨bx, 0, none⟩ = some (.string ⟨f1.toArray⟩) ∧ w'.cell? ⟨bx, 1, none⟩ = some (.string ⟨f2.toArray⟩) ∧ w'.cell? ⟨pd, 0, none⟩ = some (.pointer (some ⟨g, 0, none⟩)) ∧ bx < w'.heap.size ∧ pd < w'.heap.size) ?_
  change wpAnyH _ _ _ _ _ _ _ _ w1.drew
  refine wpAnyH_takeB (i := 0) (v := ?_) (d := some 4) rfl (by rfl) (by kernel_rfl) (fun _ _ _ h => h) (by rfl) hS0 (fun w hSw => ?_) ?_
  rotate_left
  · (try dsimp only at hSw); (try subst hSw); go_simp; first | done | (with_reducible rfl)
  simp only [Act.put, List.setIfInBounds_toArray, List.set_cons_zero, List.set_cons_succ]
  refine wpAnyH_takeB (i := 3) (v := ?_) (d := some 7) rfl (by rfl) (by kernel_rfl) (fun _ _ _ h => h) (by rfl) hS0 (fun w hSw => ?_) ?_
  rotate_left
  · (try dsimp only at hSw); (try subst hSw); go_simp; first | done | (with_reducible rfl)
  simp only [Act.put, List.setIfInBounds_toArray, List.set_cons_zero, List.set_cons_succ]
  refine wpAnyH_takeB (i := 4) (v := ?_) (d := some 8) rfl (by rfl) (by kernel_rfl) (fun _ _ _ h => h) (by rfl) hS0 (fun w hSw => ?_) ?_
  rotate_left
  · (try dsimp only at hSw); (try subst hSw); go_simp; first | done | (with_reducible rfl)
  simp only [Act.put, List.setIfInBounds_toArray, List.set_cons_zero, List.set_cons_succ]
  refine wpAnyH_takeB (i := 5) (v := ?_) (d := some 9) rfl (by rfl) (by kernel_rfl) (fun _ _ _ h => h) (by rfl) hS0 (fun w hSw => ?_) ?_
  rotate_left
  · (try dsimp only at hSw); (try subst hSw); go_simp; first | done | (with_reducible rfl)
  simp only [Act.put, List.setIfInBounds_toArray, List.set_cons_zero, List.set_cons_succ]
  refine wpAnyH_takeB (i := 6) (v := ?_) (d := some 10) rfl (by rfl) (by kernel_rfl) (fun _ _ _ h => h) (by rfl) hS0 (fun w hSw => ?_) ?_
  rotate_left
  · (try dsimp only at hSw); (try subst hSw); go_simp; first | done | (with_reducible rfl)
  simp only [Act.put, List.setIfInBounds_toArray, List.set_cons_zero, List.set_cons_succ]
  have hF2 : Frm (New w1) w1 (w1.alloc (.cells #[.string ⟨f1.toArray⟩, .string ⟨f2.toArray⟩] 71)).drew := ((Frm.refl (New w1) w1).alloc Up.new _).drew
  refine wpAnyH_oneB (i := 1) rfl (by kernel_rfl) (fun K hK => ?_)
  refine Eq.mpr (if_pos (by rfl)) ?_
  go_simp
  refine hK.out _ _ ((HSW.out _ hF2)) ?_
  clear hK K
  try simp only [Act.put, List.setIfInBounds_toArray, List.set_cons_zero, List.set_cons_succ]
  have hR2 : Rd (w1.alloc (.cells #[.string ⟨f1.toArray⟩, .string ⟨f2.toArray⟩] 71)).drew (some ⟨w1.heap.size, 0, none⟩) (fvs [(f1, f2)]) := Rd.new w1 #[.string ⟨f1.toArray⟩, .string ⟨f2.toArray⟩] 71
  generalize (w1.alloc (.cells #[.string ⟨f1.toArray⟩, .string ⟨f2.toArray⟩] 71)).drew = w2 at *
  refine wpAnyH_oneB (i := 2) rfl (by kernel_rfl) (fun K hKK => ?_)
  refine Eq.mpr (if_pos (by rfl)) ?_
  go_wp2_with (fail)
  refine (HSZ.out _ w2 hR2).mono ?_
  rintro e w3 ⟨rfl, hF3⟩
  have hF13 := hF2.then_new Up.new hF3
  have hS3 := HSW.out _ hF13
  refine hKK.out _ _ hS3 ?_
  clear hKK K hS0
  try simp only [Act.put, List.setIfInBounds_toArray, List.set_cons_zero, List.set_cons_succ]
  refine wpAnyH_oneB (i := 7) rfl (by kernel_rfl) (fun K hKK => ?_)
  refine Eq.mpr (if_pos (by rfl)) ?_
  go_wp2_with (fail)
  refine (HCAP.out w3 (HF1.out.then_new Up.new hF13)).mono ?_
  rintro e w4 ⟨rfl, hw4⟩
  rw [hw4]
  clear hw4 w4
  refine hKK.out _ _ hS3 ?_
  clear hKK K
  try simp only [Act.put, List.setIfInBounds_toArray, List.set_cons_zero, List.set_cons_succ]
  have hF03 := HF1.out.then_new Up.new hF13
  clear hR2 hF2 hF3
  generalize w1.heap.size = g2 at *
  by_cases hle : fz ≤ cp
  · have hlei : (fz : Int) ≤ (cp : Int) := by omega
    refine wpAnyH_takeB (i := 8) (v := ?_) (d := some 12) rfl (by rfl) (by kernel_rfl) (fun _ _ _ h => h) (by rfl) hS3 (fun w hSw => ?_) ?_
    rotate_left
    · (try dsimp only at hSw); (try subst hSw); go_simp; first | done | (with_reducible rfl)
    simp only [Act.put, List.setIfInBounds_toArray, List.set_cons_zero, List.set_cons_succ]
    refine wpAnyH_oneB (i := 9) rfl (by kernel_rfl) (fun K hKK => ?_)
    refine Eq.mpr (if_pos (by rfl)) ?_
    go_wp2_with (fail)
    refine (HAT.out _).mono ?_
    rintro e w5 ⟨rfl, hw5⟩
    rw [hw5]
    clear hw5 w5
    refine hKK.out _ _ hS3 ?_
    clear hKK K
    try simp only [Act.put, List.setIfInBounds_toArray, List.set_cons_zero, List.set_cons_succ]
    refine wpAnyH_done (by kernel_rfl) ?_ _
    have HF03 := Lib.hid hF03
    have HF13 := Lib.hid hF13
    clear hF03 hF13
    go_upto_region 2 with (fail)
    have hS4 := HSW.out _ HF13.out
    have hS5 : w3.drew.cell? ⟨bx, 0, none⟩ = some (.string ⟨f1.toArray⟩) ∧ w3.drew.cell? ⟨bx, 1, none⟩ = some (.string ⟨f2.toArray⟩) ∧ w3.drew.cell? ⟨pd, 0, none⟩ = some (.pointer (some ⟨g, 0, none⟩)) ∧ bx < w3.drew.heap.size ∧ pd < w3.drew.heap.size := hS4
    refine wp_region_held (by kernel_rfl) (S := fun w' => w'.cell? ⟨bx, 0, none⟩ = some (.string ⟨f1.toArray⟩) ∧ w'.cell? ⟨bx, 1, none⟩ = some (.string ⟨f2.toArray⟩) ∧ w'.cell? ⟨pd, 0, none⟩ = some (.pointer (some ⟨g, 0, none⟩)) ∧ bx < w'.heap.size ∧ pd < w'.heap.size) ?_
    change wpAnyH _ _ _ _ _ _ _ _ w3.drew
    refine wpAnyH_takeB (i := 0) (v := ?_) (d := some 14) rfl (by rfl) (by kernel_rfl) (fun _ _ _ h => h) (by rfl) hS5 (fun w hSw => ?_) ?_
    rotate_left
    · (try dsimp only at hSw); (try subst hSw); go_simp; first | done | (with_reducible rfl)
    simp only [Act.put, List.setIfInBounds_toArray, List.set_cons_zero, List.set_cons_succ]
    refine wpAnyH_takeB (i := 1) (v := ?_) (d := some 15) rfl (by rfl) (by kernel_rfl) (fun _ _ _ h => h) (by rfl) hS5 (fun w hSw => ?_) ?_
    rotate_left
    · (try dsimp only at hSw); (try subst hSw); go_simp; first | done | (with_reducible rfl)
    simp only [Act.put, List.setIfInBounds_toArray, List.set_cons_zero, List.set_cons_succ]
    refine wpAnyH_takeB (i := 2) (v := ?_) (d := some 16) rfl (by rfl) (by kernel_rfl) (fun _ _ _ h => h) (by rfl) hS5 (fun w hSw => ?_) ?_
    rotate_left
    · (try dsimp only at hSw); (try subst hSw); go_simp; first | done | (with_reducible rfl)
    simp only [Act.put, List.setIfInBounds_toArray, List.set_cons_zero, List.set_cons_succ]
    refine wpAnyH_takeB (i := 3) (v := ?_) (d := some 17) rfl (by rfl) (by kernel_rfl) (fun _ _ _ h => h) (by rfl) hS5 (fun w hSw => ?_) ?_
    rotate_left
    · (try dsimp only at hSw); (try subst hSw); go_simp; first | done | (with_reducible rfl)
    simp only [Act.put, List.setIfInBounds_toArray, List.set_cons_zero, List.set_cons_succ]
    refine wpAnyH_takeB (i := 4) (v := ?_) (d := some 18) rfl (by rfl) (by kernel_rfl) (fun _ _ _ h => h) (by rfl) hS5 (fun w hSw => ?_) ?_
    rotate_left
    · (try dsimp only at hSw); (try subst hSw); go_simp; first | done | (with_reducible rfl)
    simp only [Act.put, List.setIfInBounds_toArray, List.set_cons_zero, List.set_cons_succ]
    have hF6 : Frm (New w3) w3 (w3.alloc (.cells #[.string ⟨f1.toArray⟩, .string ⟨f2.toArray⟩] 71)).drew := ((Frm.refl (New w3) w3).alloc Up.new _).drew
    refine wpAnyH_oneB (i := 5) rfl (by kernel_rfl) (fun K hK => ?_)
    refine Eq.mpr (if_pos (by rfl)) ?_
    go_simp
    refine hK.out _ _ ((HSW.out _ (HF13.out.then_new Up.new hF6))) ?_
    clear hK K
    try simp only [Act.put, List.setIfInBounds_toArray, List.set_cons_zero, List.set_cons_succ]
    have hR6 : Rd (w3.alloc (.cells #[.string ⟨f1.toArray⟩, .string ⟨f2.toArray⟩] 71)).drew (some ⟨w3.heap.size, 0, none⟩) (fvs [(f1, f2)]) := Rd.new w3 #[.string ⟨f1.toArray⟩, .string ⟨f2.toArray⟩] 71
    have hg6 : w.heap.size ≤ w3.heap.size := HF03.out.size
    have hF06 := HF03.out.then_new Up.new hF6
    generalize (w3.alloc (.cells #[.string ⟨f1.toArray⟩, .string ⟨f2.toArray⟩] 71)).drew = w6 at *
    refine wpAnyH_oneB (i := 6) rfl (by kernel_rfl) (fun K hKK => ?_)
    refine Eq.mpr (if_pos (by rfl)) ?_
    go_wp2_with (fail)
    refine (HADD.out _ w6 hF06 hg6 hR6).mono ?_
    rintro e w7 ⟨⟨m, rfl⟩, ⟨S', hT7, hS7⟩, hF7⟩
    have hS6 := HSW.out _ (HF13.out.then_new Up.new hF6)
    have hk6 : ∀ k i, k < w6.heap.size → ¬ S k → w7.cell? ⟨k, i, none⟩ = w6.cell? ⟨k, i, none⟩ := fun k i h1 h2 => hF7.cell (p := ⟨k, i, none⟩) (fun e => by rcases e with e | e; exact h2 e; simp only at e; omega)
    have hbS : ¬ S bx := fun e => by have := HLOW.out bx e; omega
    have hS7' : w7.cell? ⟨bx, 0, none⟩ = some (.string ⟨f1.toArray⟩) ∧ w7.cell? ⟨bx, 1, none⟩ = some (.string ⟨f2.toArray⟩) ∧ w7.cell? ⟨pd, 0, none⟩ = some (.pointer (some ⟨g, 0, none⟩)) ∧ bx < w7.heap.size ∧ pd < w7.heap.size := ⟨(hk6 bx 0 hS6.2.2.2.1 hbS).trans hS6.1, (hk6 bx 1 hS6.2.2.2.1 hbS).trans hS6.2.1, (hk6 pd 0 hS6.2.2.2.2 HSP.out).trans hS6.2.2.1, Nat.lt_of_lt_of_le hS6.2.2.2.1 hF7.size, Nat.lt_of_lt_of_le hS6.2.2.2.2 hF7.size⟩
    refine hKK.out _ _ hS7' ?_
    clear hS7' hk6 hS6 hbS
    clear hKK K hS5
    try simp only [Act.put, List.setIfInBounds_toArray, List.set_cons_zero, List.set_cons_succ]
    refine wpAnyH_done (by kernel_rfl) ?_ _
    have hown : ∀ k, Own S w6 k → Own S w k := fun k hk => hk.imp id (fun h => Nat.le_trans hF06.size h)
    have hF07 : Frm (Own S w) w w7 := (hF06.mono (fun k hk => .inr hk)).trans (hF7.mono hown)
    have hex : ∃ S', TabS S' w7 g (T.add (f1, f2)) ∧ ∀ k, S' k → Own S w k := ⟨S', hT7, fun k hk => hown k (hS7 k hk)⟩
    have HF07 := Lib.hid hF07
    have HEX := Lib.hid hex
    clear hF07 hex
    clear hT7 hS7 hF7 hown hS4
    go_wp2_with (fail)
    go_end0
    rw [HQ.out]
    unfold AddR
    rw [if_pos (by rw [← HFZ.out, ← HCP.out]; exact hle)]
    exact ⟨rfl, HEX.out, HF07.out⟩
  · have hlei : ¬ (fz : Int) ≤ (cp : Int) := by omega
    refine wpAnyH_takeB (i := 8) (v := ?_) (d := some 12) rfl (by rfl) (by kernel_rfl) (fun _ _ _ h => h) (by rfl) hS3 (fun w hSw => ?_) ?_
    rotate_left
    · (try dsimp only at hSw); (try subst hSw); go_simp; first | done | (with_reducible rfl)
    simp only [Act.put, List.setIfInBounds_toArray, List.set_cons_zero, List.set_cons_succ]
    refine wpAnyH_oneB (i := 9) rfl (by kernel_rfl) (fun K hKK => ?_)
    refine Eq.mpr (if_pos (by rfl)) ?_
    go_wp2_with (fail)
    refine (HAF.out _).mono ?_
    rintro e w5 ⟨rfl, hw5⟩
    rw [hw5]
    clear hw5 w5
    unfold PQ
    go_wp2
    refine ⟨rfl, ?_⟩
    rw [HQ.out]
    unfold AddR
    rw [if_neg (by rw [← HFZ.out, ← HCP.out]; exact hle)]
    exact ⟨rfl, hF03⟩
end Go.Proofs.Ytdgggjeiflllhaa.M

