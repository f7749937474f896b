/- Qa -/
import Derived.BigQuiet
import Derived.Deep.CutBlock
import Derived.Lib.Hide
import Derived.IntWalk
import Derived.StillTailTactics
import Derived.Test.YtdgggjeiflllhaaZzMem
import Derived.Test.YtdgggjeiflllhaaZzT3
import Derived.Test.YtdgggjeiflllhaaZzHrd
import Derived.Test.YtdgggjeiflllhaaZzEncp
import Derived.Test.YtdgggjeiflllhaaZzTab
import Derived.Test.YtdgggjeiflllhaaZzQt
import Derived.Test.YtdgggjeiflllhaaZzQr

namespace Go.Proofs.Ytdgggjeiflllhaa.M
open Go.ChangeShapes Go.WideShapes Go.ChangeAt Go.RowKit
theorem fvs_append3 (l k : List Fld) : fvs (l ++ k) = fvs l ++ fvs k := by unfold fvs; rw [List.flatMap_append]
theorem fvs_one3 (l : List Fld) : ∀ u ∈ fvs l, u.oneCell' = true := fun u hu => by
  obtain ⟨f, _, hf⟩ := List.mem_flatMap.1 hu
  simp only [List.mem_cons, List.not_mem_nil, or_false] at hf
  rcases hf with rfl | rfl <;> rfl
theorem fld_one3 (a b : ByteArray) : ∀ u ∈ (#[.string a, .string b] : Array Value).toList, u.oneCell' = true := fun u hu => by
  simp at hu
  rcases hu with rfl | rfl <;> rfl
set_option maxRecDepth 100000 in
set_option maxHeartbeats 2000000 in
theorem two_any (w : World) : Calls Try.prog 116 #[] w fun e w' => ∃ A c, e = .returned (.slice A 99 c) ∧ Rd w' A (fvs h3tab) ∧ Frm (New w) w w' := by
  obtain ⟨L1, L2, L3⟩ := h3_len
  go_enter Try.func116, Try.ntmps116
  go_wp2_with (fail)
  refine (low_any _).mono ?_
  rintro e w1 ⟨g1, rfl, hg1, hb1, hF1⟩
  go_wp2_with (fail)
  refine (high_any _).mono ?_
  rintro e w2 ⟨g2, rfl, hg2, hb2, hF2⟩
  have hb12 := hb1.fresh hF2
  have hR2 : Rd w2 (some ⟨g2, 0, none⟩) (fvs h3high) := by simpa using hb2.rd
  have hl1 : (fvs h3low).length = 50 * 2 := by rw [fvs_length, L1]
  have hA : App (New w) w2 71 2 (some ⟨g1, 0, none⟩) 50 50 (fvs h3low) := App.full (by simpa using hb12.rd) hl1 (by decide) (fun c => by cases c) (fun k hk => by cases hk; exact hg1) (fun _ => ⟨g1, 0, _, rfl, hb12, by simp [hl1], hg1⟩)
  have hU : Up (New w) w2 := Up.new.of (Nat.le_trans hF1.size hF2.size)
  have hF02 := hF1.then_new Up.new hF2
  have hl2 : (fvs h3high).length = 49 * 2 := by rw [fvs_length, L2]
  have HA := Lib.hid hA
  have HU := Lib.hid hU
  have HF02 := Lib.hid hF02
  have HR2 := Lib.hid hR2
  have HL2 := Lib.hid hl2
  clear hA hU hF02 hR2 hl2
  clear hb1 hb2 hb12 hF1 hF2 hl1
  go_wp2_with (at_builtin; refine wpList_append flds rfl rfl rfl HA.out HU.out rfl HR2.out HL2.out (fvs_one3 _) (by omega) ?_; intro A9 c9 w9 hA9 hF9 _ _; have HA9 := Lib.hid hA9; have HF9 := Lib.hid (HF02.out.trans hF9); clear hA9 hF9)
  go_ret
  have hr := HA9.out.rd
  rw [← fvs_append3] at hr
  exact ⟨A9, c9, rfl, hr, HF9.out⟩
set_option maxRecDepth 100000 in
set_option maxHeartbeats 2000000 in
theorem findh3_any (f : Fld) (w : World) :
    Calls Try.prog 72 #[fld f] w fun e w' => e = .returned (.tuple #[.int .u64 (findS h3tab f).1, .bool (findS h3tab f).2.1, .bool (findS h3tab f).2.2]) ∧ Frm (New w) w w' := by
  obtain ⟨f1, f2⟩ := f
  simp only [fld, str]
  have hfi := fun (A : Option Addr) (c : Nat) w' (hw : Rd w' A (fvs h3tab)) => find_any h3tab (f1, f2) A c w' hw (by rw [h3_len.2.2]; omega)
  rw [h3_len.2.2] at hfi
  simp only [fld, str] at hfi
  generalize findS h3tab (f1, f2) = q at *
  obtain ⟨q1, q2, q3⟩ := q
  simp only at hfi ⊢
  have HFI := Lib.hid hfi
  clear hfi
  go_enter Try.func72, Try.ntmps72
  go_wp2
  have HB : Blk (w.alloc (Obj.cells #[Value.string { data := List.toArray f1 }, Value.string { data := List.toArray f2 }] 71)) w.heap.size 71 #[Value.string { data := List.toArray f1 }, Value.string { data := List.toArray f2 }] := Blk.new _ _ _
  have H0 : Frm (New w) w (w.alloc (Obj.cells #[Value.string { data := List.toArray f1 }, Value.string { data := List.toArray f2 }] 71)) := (Frm.refl _ _).alloc Up.new _
  generalize w.alloc (Obj.cells #[Value.string { data := List.toArray f1 }, Value.string { data := List.toArray f2 }] 71) = w1 at *
  generalize hb : w.heap.size = b at *
  have hd1 := HB.cell 0
  have hd2 := HB.cell 1
  have hb1 : b < w1.heap.size := HB.lt
  simp only [List.getElem?_toArray, List.getElem?_cons_zero, List.getElem?_cons_succ] at hd1 hd2
  have HB := Lib.hid HB
  have H0 := Lib.hid H0
  go_region_with (first
    | (go_at_call 116
       refine (two_any _).mono ?_
       rintro e w2 ⟨A, c, rfl, hG, hF⟩
       have hB2 : Blk w2 b 71 #[Value.string { data := List.toArray f1 }, Value.string { data := List.toArray f2 }] := Blk.fresh (w := w1.drew) HB.out hF
       have hd3 := hB2.cell 0
       have hd4 := hB2.cell 1
       simp only [List.getElem?_toArray, List.getElem?_cons_zero, List.getElem?_cons_succ] at hd3 hd4
       have hb2 : b < w2.heap.size := hB2.lt
       clear hB2
       have HG := Lib.hid hG
       have HF := Lib.hid hF
       clear hG hF)
    | (go_at_call 115
       refine (HFI.out _ _ _ HG.out).mono ?_
       rintro e w3 ⟨rfl, hF3⟩
       have HF3 := Lib.hid hF3
       clear hF3))
  all_goals
    have HZ : Frm (New w) w w3 := (H0.out.then_new Up.new (Frm.trans (w' := w1.drew) ((Frm.refl _ _).drew) HF.out)).then_new Up.new HF3.out
    have HZ := Lib.hid HZ
    go_wp2
    go_ret3
    exact ⟨rfl, HZ.out⟩
set_option maxRecDepth 100000 in
set_option maxHeartbeats 1000000 in
theorem tsize_any {S : Nat → Prop} {g : Nat} {T : Tb} (w : World) (h : TabS S w g T) :
    Calls Try.prog 33 #[.pointer (some ⟨g, 0, none⟩)] w fun e w' => e = .returned (.int .i64 (fsizes T.l : Nat)) ∧ w' = w := by
  obtain ⟨A, c, a, b, ew, en, h⟩ := h
  have hd := h.blk.cell 3
  have hl : g < w.heap.size := h.blk.lt
  simp only [List.getElem?_toArray, List.getElem?_cons_zero, List.getElem?_cons_succ] at hd
  clear h
  go_enter Try.func33, Try.ntmps33
  go_wp2
  go_ret
  exact ⟨rfl, rfl⟩
set_option maxRecDepth 100000 in
set_option maxHeartbeats 2000000 in
theorem tat_any {S : Nat → Prop} {g : Nat} {T : Tb} (i : Nat) (w : World) (h : TabS S w g T) (hi : i ≤ 18446744073709551615) :
    Calls Try.prog 121 #[.pointer (some ⟨g, 0, none⟩), .int .u64 i] w fun e w' => e = .returned (.tuple #[fld (entV (T.at_ i)).1, .bool (entV (T.at_ i)).2]) ∧ Frm (New w) w w' := by
  obtain ⟨A, c, a, b, ew, en, h⟩ := h
  obtain ⟨l, n, cap⟩ := T
  simp only at h
  have hll := h.le
  have hnb := h.nb
  have hd0 := h.blk.cell 0
  have hd1 := h.blk.cell 1
  have hg : g < w.heap.size := h.blk.lt
  have hR := h.app.rd
  simp only [List.getElem?_toArray, List.getElem?_cons_zero, List.getElem?_cons_succ] at hd0 hd1
  clear h
  have hB1 := Blk.new w 71 #[.string ⟨#[]⟩, .string ⟨#[]⟩]
  have hF1 : Frm (New w) w (w.alloc (Obj.cells #[.string ⟨#[]⟩, .string ⟨#[]⟩] 71)) := (Frm.refl _ _).alloc Up.new _
  have hd01 : (w.alloc (Obj.cells #[.string ⟨#[]⟩, .string ⟨#[]⟩] 71)).cell? ⟨g, 0, none⟩ = some (.slice A l.length c) := (hF1.cell (p := ⟨g, 0, none⟩) (fun c => by unfold New at c; simp at c; omega)).trans hd0
  have hd11 : (w.alloc (Obj.cells #[.string ⟨#[]⟩, .string ⟨#[]⟩] 71)).cell? ⟨g, 1, none⟩ = some (.int .u64 n) := (hF1.cell (p := ⟨g, 1, none⟩) (fun c => by unfold New at c; simp at c; omega)).trans hd1
  have hR1 := hR.fresh hF1
  generalize hE : entV (Tb.at_ ⟨l, n, cap⟩ i) = q
  unfold Tb.at_ Tb.first at hE
  simp only at hE
  have HB1 := Lib.hid hB1
  have HF1 := Lib.hid hF1
  have HR1 := Lib.hid hR1
  clear hB1 hF1 hR1
  clear hR
  by_cases hq : n - l.length ≤ i ∧ i < n
  · rw [if_pos hq] at hE
    obtain ⟨q1, q2⟩ := hq
    obtain ⟨j, hj⟩ : ∃ j, j = i - (n - l.length) := ⟨_, rfl⟩
    have hjl : j < l.length := by omega
    rw [← hj, List.getElem?_eq_getElem hjl] at hE
    obtain ⟨gA, off, rfl, hx⟩ := HR1.out.at_ (k := j * 2) (by rw [fvs_length]; omega)
    clear hx
    obtain ⟨hc1, hc2⟩ := fld_cells HR1.out j hjl
    have hgA := World.block_lt_of_cell? _ _ hc1
    simp only at hgA
    generalize l[j] = f at *
    obtain ⟨f1, f2⟩ := f
    simp only [str] at hc1 hc2
    obtain ⟨fr, hfr⟩ : ∃ fr, fr = n - l.length := ⟨_, rfl⟩
    have hwr : IntKind.u64.wrap ((i : Int) - (fr : Int)) = (j : Int) := by
      rw [show ((i : Int) - (fr : Int)) = (j : Int) from by omega]
      exact IntWalk.u64_in _ (by omega)
    have hfi := fun w' h0 h1 => tfirst_any (some ⟨gA, off, none⟩) g l.length c n w' h0 h1 hll hnb
    rw [← hfr] at hfi q1 hj
    have f1' : ¬ (i : Int) < (fr : Int) := by omega
    have f2' : ¬ (n : Int) ≤ (i : Int) := by omega
    have hji : (j : Int) < (l.length : Int) := by omega
    have hqe : q = ((f1, f2), true) := hE.symm
    subst hqe
    clear hE hd0 hd1 HR1
    generalize l.length = ln at *
    simp only [fld, str]
    have HFI := Lib.hid hfi
    have HFR := Lib.hid hfr
    have HJ := Lib.hid hj
    clear hfi hfr hj
    clear q1 q2
    go_enter Try.func121, Try.ntmps121
    go_upto_region 1 with (fail)
    generalize w.alloc (Obj.cells #[.string ⟨#[]⟩, .string ⟨#[]⟩] 71) = w1 at *
    have hbl := HB1.out.lt
    obtain ⟨b, hbe⟩ : ∃ b, b = w.heap.size := ⟨_, rfl⟩
    rw [← hbe] at HB1 hbl ⊢
    have hbg : b ≠ g := by omega
    have hgl1 := World.block_lt_of_cell? _ _ hd01
    simp only at hgl1
    have HBE := Lib.hid hbe
    clear hbe
    go_upto_region 3 with (go_at_call 138; refine (HFI.out w1 hd01 hd11).mono ?_; rintro e w2 ⟨rfl, q, rfl⟩)
    have hSw : ∀ k, (w1.drewN k).cell? ⟨g, 0, none⟩ = some (.slice (some ⟨gA, off, none⟩) ln c) ∧ (w1.drewN k).cell? ⟨g, 1, none⟩ = some (.int .u64 n) ∧ (w1.drewN k).cell? ⟨gA, off + j * 2, none⟩ = some (.string ⟨f1.toArray⟩) ∧ (w1.drewN k).cell? ⟨gA, off + j * 2 + 1, none⟩ = some (.string ⟨f2.toArray⟩) ∧ g < (w1.drewN k).heap.size ∧ gA < (w1.drewN k).heap.size := fun k => ⟨hd01, hd11, hc1, hc2, hgl1, hgA⟩
    have hF2 : Frm (New w) w (w1.drewN q) := HF1.out.drewN q
    have hB2 := HB1.out.drewN q
    have hS0 : (w1.drewN q).drew.cell? ⟨g, 0, none⟩ = some (.slice (some ⟨gA, off, none⟩) ln c) ∧ (w1.drewN q).drew.cell? ⟨g, 1, none⟩ = some (.int .u64 n) ∧ (w1.drewN q).drew.cell? ⟨gA, off + j * 2, none⟩ = some (.string ⟨f1.toArray⟩) ∧ (w1.drewN q).drew.cell? ⟨gA, off + j * 2 + 1, none⟩ = some (.string ⟨f2.toArray⟩) ∧ g < (w1.drewN q).drew.heap.size ∧ gA < (w1.drewN q).drew.heap.size := ⟨hd01, hd11, hc1, hc2, hgl1, hgA⟩
    refine wp_region_til (by kernel_rfl) (fun w' => w'.cell? ⟨g, 0, none⟩ = some (.slice (some ⟨gA, off, none⟩) ln c) ∧ w'.cell? ⟨g, 1, none⟩ = some (.int .u64 n) ∧ w'.cell? ⟨gA, off + j * 2, none⟩ = some (.string ⟨f1.toArray⟩) ∧ w'.cell? ⟨gA, off + j * 2 + 1, none⟩ = some (.string ⟨f2.toArray⟩) ∧ g < w'.heap.size ∧ gA < w'.heap.size) 10 ?_
    refine wpAnyT_take (i := 0) (v := ?_) (d := some 19) rfl (by rfl) (by kernel_rfl) (fun _ _ _ h => h) (by rfl) hS0 (fun w hSw => ?_) ?_
    rotate_left
    · (try dsimp only at hSw); go_simp; first | done | (with_reducible rfl)
    simp only [Act.put, List.setIfInBounds_toArray, List.set_cons_zero, List.set_cons_succ]
    refine wpAnyT_take (i := 1) (v := ?_) (d := some 20) rfl (by rfl) (by kernel_rfl) (fun _ _ _ h => h) (by rfl) hS0 (fun w hSw => ?_) ?_
    rotate_left
    · (try dsimp only at hSw); go_simp; first | done | (with_reducible rfl)
    simp only [Act.put, List.setIfInBounds_toArray, List.set_cons_zero, List.set_cons_succ]
    refine wpAnyT_take (i := 2) (v := ?_) (d := some 21) rfl (by rfl) (by kernel_rfl) (fun _ _ _ h => h) (by rfl) hS0 (fun w hSw => ?_) ?_
    rotate_left
    · (try dsimp only at hSw); go_simp; first | done | (with_reducible rfl)
    simp only [Act.put, List.setIfInBounds_toArray, List.set_cons_zero, List.set_cons_succ]
    refine wpAnyT_take (i := 3) (v := ?_) (d := some 22) rfl (by rfl) (by kernel_rfl) (fun _ _ _ h => h) (by rfl) hS0 (fun w hSw => ?_) ?_
    rotate_left
    · (try dsimp only at hSw); go_simp; first | done | (with_reducible rfl)
    simp only [Act.put, List.setIfInBounds_toArray, List.set_cons_zero, List.set_cons_succ]
    refine wpAnyT_take (i := 4) (v := ?_) (d := some 23) rfl (by rfl) (by kernel_rfl) (fun _ _ _ h => h) (by rfl) hS0 (fun w hSw => ?_) ?_
    rotate_left
    · (try dsimp only at hSw); go_simp; first | done | (with_reducible rfl)
    simp only [Act.put, List.setIfInBounds_toArray, List.set_cons_zero, List.set_cons_succ]
    refine wpAnyT_take (i := 5) (v := ?_) (d := some 24) rfl (by rfl) (by kernel_rfl) (fun _ _ _ h => h) (by rfl) hS0 (fun w hSw => ?_) ?_
    rotate_left
    · (try dsimp only at hSw); go_simp; first | done | (with_reducible rfl)
    simp only [Act.put, List.setIfInBounds_toArray, List.set_cons_zero, List.set_cons_succ]
    generalize hw3 : (w1.drewN q).drew = w3 at *
    have hF3 : Frm (New w) w w3 := by rw [← hw3]; exact hF2.drew
    have hB3 : Blk w3 b 71 #[.string ⟨#[]⟩, .string ⟨#[]⟩] := by rw [← hw3]; exact hB2.drew
    clear hw3 hSw hF2 hB2 hd01 hd11 hc1 hc2 hgl1 hgA HB1 HF1
    have HF3 := Lib.hid hF3
    have HB3 := Lib.hid hB3
    clear hF3 hB3
    refine wpAnyT_one (i := 6) rfl (by kernel_rfl) (fun K hKK => ?_)
    refine Eq.mpr (if_pos (by rfl)) ?_
    go_wp2_with (fail)
    refine (HFI.out w3 hS0.1 hS0.2.1).mono ?_
    rintro e w4 ⟨rfl, q4, rfl⟩
    have hS4 : (w3.drewN q4).cell? ⟨g, 0, none⟩ = some (.slice (some ⟨gA, off, none⟩) ln c) ∧ (w3.drewN q4).cell? ⟨g, 1, none⟩ = some (.int .u64 n) ∧ (w3.drewN q4).cell? ⟨gA, off + j * 2, none⟩ = some (.string ⟨f1.toArray⟩) ∧ (w3.drewN q4).cell? ⟨gA, off + j * 2 + 1, none⟩ = some (.string ⟨f2.toArray⟩) ∧ g < (w3.drewN q4).heap.size ∧ gA < (w3.drewN q4).heap.size := hS0
    refine hKK.out _ _ (.inr hS4) ?_
    clear hKK K hS0
    try simp only [Act.put, List.setIfInBounds_toArray, List.set_cons_zero, List.set_cons_succ]
    have hF4 := HF3.out.drewN q4
    have hB4 := HB3.out.drewN q4
    generalize w3.drewN q4 = w4 at *
    refine wpAnyT_take (i := 7) (v := ?_) (d := some 26) rfl (by rfl) (by kernel_rfl) (fun _ _ _ h => h) (by rfl) hS4 (fun w hSw => ?_) ?_
    rotate_left
    · (try dsimp only at hSw); go_simp; first | done | (with_reducible rfl)
    simp only [Act.put, List.setIfInBounds_toArray, List.set_cons_zero, List.set_cons_succ]
    refine wpAnyT_take (i := 8) (v := ?_) (d := some 27) rfl (by rfl) (by kernel_rfl) (fun _ _ _ h => h) (by rfl) hS4 (fun w hSw => ?_) ?_
    rotate_left
    · (try dsimp only at hSw); go_simp; first | done | (with_reducible rfl)
    simp only [Act.put, List.setIfInBounds_toArray, List.set_cons_zero, List.set_cons_succ]
    refine wpAnyT_take (i := 9) (v := ?_) (d := some 28) rfl (by rfl) (by kernel_rfl) (fun _ _ _ h => h) (by rfl) hS4 (fun w hSw => ?_) ?_
    rotate_left
    · (try dsimp only at hSw); go_simp; first | done | (with_reducible rfl)
    simp only [Act.put, List.setIfInBounds_toArray, List.set_cons_zero, List.set_cons_succ]
    have HF4 := Lib.hid hF4
    clear hF4
    refine wpAnyT_one (i := 10) rfl (by kernel_rfl) (fun K hKK => ?_)
    refine step_store_agg rfl rfl rfl rfl hB4 rfl (fld_one3 _ _) (by kernel_rfl) ?_
    intro w10 hb10 hF10 hs10
    refine hKK.out _ _ (.inl (by kernel_rfl)) ?_
    clear hKK K hS4
    refine wpAnyT_one (i := 11) rfl (by kernel_rfl) (fun K hK => ?_)
    go_simp
    refine hK.out _ _ (.inl (by kernel_rfl)) ?_
    clear hK K
    refine wpAnyT_done (by kernel_rfl) ?_ _
    go_wp2_with (fail)
    refine bodyPost_ret (results_agg_tmp aggf rfl rfl rfl hb10 rfl) rfl ?_
    exact ⟨rfl, HF4.out.trans (hF10.mono (fun k hk => by subst hk; rw [HBE.out]; exact Nat.le_refl _))⟩
  · rw [if_neg hq] at hE
    obtain ⟨fr, hfr⟩ : ∃ fr, fr = n - l.length := ⟨_, rfl⟩
    have hfi := fun w' h0 h1 => tfirst_any A g l.length c n w' h0 h1 hll hnb
    rw [← hfr] at hfi hq
    have hqe : q = (([], []), false) := hE.symm
    subst hqe
    clear hE hd0 hd1 HR1
    generalize l.length = ln at *
    simp only [fld, str]
    have HFI := Lib.hid hfi
    have HFR := Lib.hid hfr
    clear hfi hfr
    by_cases q1 : i < fr
    · have f1' : (i : Int) < (fr : Int) := by omega
      clear hq q1
      go_enter Try.func121, Try.ntmps121
      go_upto_region 1 with (fail)
      generalize w.alloc (Obj.cells #[.string ⟨#[]⟩, .string ⟨#[]⟩] 71) = w1 at *
      have hbl := HB1.out.lt
      obtain ⟨b, hbe⟩ : ∃ b, b = w.heap.size := ⟨_, rfl⟩
      rw [← hbe] at HB1 hbl ⊢
      have HBE := Lib.hid hbe
      clear hbe
      go_upto_region 2 with (go_at_call 138; refine (HFI.out w1 hd01 hd11).mono ?_; rintro e w2 ⟨rfl, q, rfl⟩)
      have hF2 : Frm (New w) w (w1.drewN q) := HF1.out.drewN q
      have hB2 := HB1.out.drewN q
      generalize w1.drewN q = w2 at *
      have HF2 := Lib.hid hF2
      clear hF2
      go_wp2_with (refine wpList_store_agg rfl rfl rfl rfl hB2 rfl (fld_one3 _ _) (by kernel_rfl) ?_; intro w10 hb10 hF10 hs10)
      refine bodyPost_ret (results_agg_tmp aggf rfl rfl rfl hb10 rfl) rfl ?_
      exact ⟨rfl, HF2.out.trans (hF10.mono (fun k hk => by subst hk; rw [HBE.out]; exact Nat.le_refl _))⟩
    · have f1' : ¬ (i : Int) < (fr : Int) := by omega
      have f2' : (n : Int) ≤ (i : Int) := by omega
      clear hq q1
      have hgl1 := World.block_lt_of_cell? _ _ hd01
      simp only at hgl1
      go_enter Try.func121, Try.ntmps121
      go_upto_region 1 with (fail)
      generalize w.alloc (Obj.cells #[.string ⟨#[]⟩, .string ⟨#[]⟩] 71) = w1 at *
      have hbl := HB1.out.lt
      obtain ⟨b, hbe⟩ : ∃ b, b = w.heap.size := ⟨_, rfl⟩
      rw [← hbe] at HB1 hbl ⊢
      have HBE := Lib.hid hbe
      clear hbe
      go_upto_region 2 with (go_at_call 138; refine (HFI.out w1 hd01 hd11).mono ?_; rintro e w2 ⟨rfl, q, rfl⟩)
      have hF2 : Frm (New w) w (w1.drewN q) := HF1.out.drewN q
      have hB2 := HB1.out.drewN q
      generalize w1.drewN q = w2 at *
      have HF2 := Lib.hid hF2
      clear hF2
      go_wp2_with (refine wpList_store_agg rfl rfl rfl rfl hB2 rfl (fld_one3 _ _) (by kernel_rfl) ?_; intro w10 hb10 hF10 hs10)
      refine bodyPost_ret (results_agg_tmp aggf rfl rfl rfl hb10 rfl) rfl ?_
      exact ⟨rfl, HF2.out.trans (hF10.mono (fun k hk => by subst hk; rw [HBE.out]; exact Nat.le_refl _))⟩
end Go.Proofs.Ytdgggjeiflllhaa.M
namespace Go.Proofs.Ytdgggjeiflllhaa.M
open Go.ChangeShapes Go.WideShapes Go.ChangeAt Go.RowKit
end Go.Proofs.Ytdgggjeiflllhaa.M
namespace Go.Proofs.Ytdgggjeiflllhaa.M
open Go.ChangeShapes Go.WideShapes Go.ChangeAt Go.RowKit
end Go.Proofs.Ytdgggjeiflllhaa.M

