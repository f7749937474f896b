/- The reference's Table in memory: NewTable, fit, Resize, First, Newest. No condition but sizes. -/
import Derived.Test.YtcebckkpablagaaTab
import Derived.Test.YtcebckkpablagaaNewest
import Derived.Deep.RegionWith
import Derived.StillTailTactics
import Derived.Deep.RegionHeld3
namespace Go.Proofs.Ytcebckkpablagaa.M
open Go.ChangeShapes Go.WideShapes Go.ChangeAt Go.RowKit

/-- the reference's table at block g; its blocks all lie in S -/
structure RTabAt (S : Nat → Prop) (w : World) (g : Nat) (l : List Fld) (n cap : Nat) (A : Option Addr) (c : Nat) : Prop where
  blk : Blk w g 51 #[.slice A l.length c, .int .i64 cap, .int .u64 n]
  app : App S w 30 2 A l.length c (fvs l)
  sg : S g
  low : ∀ k, S k → k < w.heap.size
  gA : ∀ k, M.blk A = some k → k ≠ g
  le : l.length ≤ n
  nb : n ≤ 1152921504606846976
  cb : cap ≤ 1152921504606846976
  fb : fsizes l ≤ 1152921504606846976
def RTabS (S : Nat → Prop) (w : World) (g : Nat) (T : Tb) : Prop := ∃ A c, RTabAt S w g T.l T.n T.cap A c
section
variable {S M : Nat → Prop} {w w' : World} {g n cap c : Nat} {l : List Fld} {A : Option Addr} {T : Tb}
theorem RTabAt.keep (h : RTabAt S w g l n cap A c) (f : Frm M w w') (hM : ∀ k, S k → ¬ M k) : RTabAt S w' g l n cap A c :=
  { h with
    blk := h.blk.keep f (hM _ h.sg)
    app := h.app.keep f (fun k hk => hM k (h.app.inM k hk))
    low := fun k hk => Nat.lt_of_lt_of_le (h.low k hk) f.size }
theorem RTabAt.fresh (h : RTabAt S w g l n cap A c) (f : Frm (New w) w w') : RTabAt S w' g l n cap A c :=
  h.keep f (fun k hk c => by have := h.low k hk; unfold New at c; omega)
theorem RTabAt.drewN (h : RTabAt S w g l n cap A c) (k : Nat) : RTabAt S (w.drewN k) g l n cap A c := h.fresh ((Frm.refl _ _).drewN k)
theorem RTabS.keep (h : RTabS S w g T) (f : Frm M w w') (hM : ∀ k, S k → ¬ M k) : RTabS S w' g T := by
  obtain ⟨A, c, h⟩ := h
  exact ⟨A, c, h.keep f hM⟩
theorem RTabS.fresh (h : RTabS S w g T) (f : Frm (New w) w w') : RTabS S w' g T := by
  obtain ⟨A, c, h⟩ := h
  exact ⟨A, c, h.fresh f⟩
theorem RTabS.low (h : RTabS S w g T) : ∀ k, S k → k < w.heap.size := by
  obtain ⟨A, c, h⟩ := h
  exact h.low
theorem RTabS.sg (h : RTabS S w g T) : S g := by
  obtain ⟨A, c, h⟩ := h
  exact h.sg
theorem RTabS.nb (h : RTabS S w g T) : T.l.length ≤ T.n ∧ T.n ≤ 1152921504606846976 := by
  obtain ⟨A, c, h⟩ := h
  exact ⟨h.le, h.nb⟩
end

set_option maxRecDepth 100000 in
set_option maxHeartbeats 1000000 in
theorem rtnew_any (c : Nat) (hc : c ≤ 1152921504606846976) (w : World) :
    Calls Try.prog 54 #[.int .i64 c] w fun e w' => ∃ (S : Nat → Prop) (g : Nat), e = .returned (.pointer (some ⟨g, 0, none⟩)) ∧ RTabAt S w' g [] 0 c none 0 ∧ Frm (New w) w w' ∧ ∀ k, S k → w.heap.size ≤ k := by
  have h0 : ¬ ((c : Int) < 0) := by omega
  have h1 : (0 : Int) ≤ (c : Int) := by omega
  go_enter Try.func54, Try.ntmps54
  go_wp2
  go_ret
  have hb := Blk.new w 51 #[.slice none 0 0, .int .i64 c, .int .u64 0]
  refine ⟨fun k => k = w.heap.size, w.heap.size, rfl, ⟨hb, App.none_, rfl, fun k hk => by rw [hk]; exact hb.lt, fun k hk => (by cases hk), Nat.le_refl _, Nat.zero_le _, hc, Nat.zero_le _⟩, (Frm.refl _ _).alloc Up.new _, fun k hk => by rw [hk]; exact Nat.le_refl _⟩

set_option maxRecDepth 100000 in
set_option maxHeartbeats 1000000 in
theorem clamp_any (n : Int) (h0 : -9223372036854775808 ≤ n) (h1 : n ≤ 9223372036854775807) (w : World) :
    Calls Try.prog 55 #[.int .i64 n] w fun e w' => e = .returned (.int .i64 (lim n : Nat)) ∧ w' = w := by
  have hl : ((lim n : Nat) : Int) = min (max n 0) 4096 := by unfold lim; omega
  have HL := Lib.hid hl
  clear hl
  go_enter Try.func55, Try.ntmps55
  by_cases q0 : n < 0
  · have g0 : ¬ (0 ≤ n) := by omega
    go_wp2
    go_ret
    refine ⟨?_, rfl⟩
    refine ret_int ?_
    rw [HL.out]; omega
  · have g0 : 0 ≤ n := by omega
    by_cases q1 : n ≤ 4096
    · go_wp2
      go_ret
      refine ⟨?_, rfl⟩
      refine ret_int ?_
      rw [HL.out]; omega
    · have g1 : 4096 < n := by omega
      go_wp2
      go_ret
      refine ⟨?_, rfl⟩
      refine ret_int ?_
      rw [HL.out]; omega

set_option maxRecDepth 100000 in
set_option maxHeartbeats 1000000 in
theorem rfit_any {S : Nat → Prop} {g n cap c : Nat} {l : List Fld} {A : Option Addr} (room c0 : Nat) (w : World) (h : RTabAt S w g l n cap A c) :
    Calls Try.prog 81 #[.pointer (some ⟨g, 0, none⟩), .int .i64 ((c0 : Int) - (room : Int))] w fun e w' => (∃ m : Int, e = .returned (.int .i64 m)) ∧
      ∃ A' c', RTabAt S w' g (evict room c0 l) n cap A' c' ∧ Frm (fun k => k = g) w w' := by
  have hlb := h.le
  have hnb := h.nb
  obtain ⟨rr, hrr⟩ : ∃ rr : Int, rr = (c0 : Int) - (room : Int) := ⟨_, rfl⟩
  rw [← hrr]
  have H := Lib.hid h
  have HRR := Lib.hid hrr
  clear h hrr
  go_enter Try.func81, Try.ntmps81
  go_wp2
  go_loopw [5] (fun i wr => ∃ (k : Nat) (l' : List Fld) (A' : Option Addr) (c' : Nat), i = .int .i64 k ∧ k + l'.length = l.length ∧
      Hid (evict room c0 l' = evict room c0 l) ∧ Hid (RTabAt S wr g l' n cap A' c') ∧ Hid (Frm (fun k => k = g) w wr)) (fun i _ => l.length - (intOf i).toNat)
  case atStart => exact ⟨0, l, A, c, rfl, by omega, rfl, H, Frm.refl _ _⟩
  case round =>
    obtain ⟨k, l', A', c', rfl, hk, hE, hT, hF⟩ := hrel
    clear H
    have hb := hT.out.blk
    have hd0 := hb.cell 0
    simp only [List.getElem?_toArray, List.getElem?_cons_zero] at hd0
    have hg : g < wr.heap.size := hb.lt
    have hz0 := hb.frozen 0
    have hA := hT.out.app
    have hfb := hT.out.fb
    have hll := len_fsizes l'
    have HB := Lib.hid hb
    have HA := Lib.hid hA
    clear hb hA
    cases l' with
    | nil =>
      simp only [List.length_nil] at hd0 hk
      have hE2 : Hid (evict room c0 l = []) := hE.out.symm
      go_wp2
      go_ret
      rw [hE2.out]
      exact ⟨⟨_, rfl⟩, A', c', hT.out, hF.out⟩
    | cons f r =>
      have hcap : r.length + 1 ≤ c' := HA.out.cap
      have hA2 : App S wr 30 2 (if c' = 1 then A' else A'.map (·.add 2)) r.length (c' - 1) (fvs r) := HA.out.tail
      have hA2f : ∀ k, M.blk (if c' = 1 then A' else A'.map (·.add 2)) = some k → k ≠ g := fun k hk => by
        refine hT.out.gA k ?_
        rw [← hk]
        split
        · rfl
        · cases A' with
          | none => rfl
          | some x => simp [M.blk, Addr.add]
      have HRT := fun (w0 : World) (o : Oper) (a : Act) (x : Operand) => run_tail (P := Try.prog) (o := o) (a := a) (w := w0) (t := 27) (e := 30) (x := x) (A := A') (n := r.length) (c := c') (size := 2)
      have hRS : ∀ w', Frm (New wr) wr w' → Calls Try.prog 58 #[.slice A' (r.length + 1) c'] w' fun e w'' => e = .returned (.int .i64 (fsizes (f :: r) : Nat)) ∧ ∃ n, w'' = w'.drewN n := fun w' hw' => rsize_any (f :: r) A' c' w' (HA.out.rd.fresh hw') (by omega) (by omega)
      have hE2 : Hid (evict room c0 l = if c0 < fsizes (f :: r) + room then evict room c0 r else f :: r) := hE.out.symm
      simp only [List.length_cons] at hd0 hk
      generalize hsz : fsizes (f :: r) = z at *
      have hfr : fsizes r ≤ 1152921504606846976 := by rw [fsizes_cons] at hsz; omega
      generalize (if c' = 1 then A' else A'.map (·.add 2)) = A2 at *
      have HRT2 := Lib.hid HRT
      have HA2 := Lib.hid hA2
      have HA2F := Lib.hid hA2f
      have HRS := Lib.hid hRS
      have HSZ := Lib.hid hsz
      have HE := Lib.hid hE
      clear HRT hA2 hA2f hRS hsz hE
      by_cases hq : c0 < z + room
      · have HE3 : Hid (evict room c0 r = evict room c0 l) := by show _ = _; rw [hE2.out, if_pos hq]
        have hrz : rr < (z : Int) := by have := HRR.out; omega
        go_upto_region 4 with (first
          | (go_at_call 58; refine (HRS.out _ (Frm.refl _ _)).mono ?_; rintro e w2 ⟨rfl, nn, rfl⟩)
          | (refine wpList_val rfl (.slice A2 r.length (c' - 1)) (HRT2.out _ _ _ _ rfl rfl hcap Try.underlying27 (by kernel_rfl)) ?_))
        have hT3 : Hid (RTabAt S ((wr.drewN nn).setCell ⟨g, 0, none⟩ (.slice A2 r.length (c' - 1))) g r n cap A2 (c' - 1)) := by
          have h := hT.out
          have hF1 : Frm (fun k => k = g) wr ((wr.drewN nn).setCell ⟨g, 0, none⟩ (.slice A2 r.length (c' - 1))) := ((Frm.refl (fun k => k = g) wr).drewN nn).setCell (p := ⟨g, 0, none⟩) rfl _
          exact ⟨(HB.out.drewN nn).set_ 0 _, HA2.out.keep hF1 (fun k hk => HA2F.out k hk), h.sg, fun k hk => Nat.lt_of_lt_of_le (h.low k hk) hF1.size, HA2F.out, by omega, h.nb, h.cb, hfr⟩
        have hF3 : Hid (Frm (fun k => k = g) w ((wr.drewN nn).setCell ⟨g, 0, none⟩ (.slice A2 r.length (c' - 1)))) := (hF.out.drewN nn).setCell rfl _
        generalize (wr.drewN nn).setCell ⟨g, 0, none⟩ (.slice A2 r.length (c' - 1)) = w3 at *
        clear hd0 hg hz0
        go_wp2
        go_roundw
        case rel => exact ⟨k + 1, r, A2, c' - 1, by go_num, by omega, HE3, hT3, hF3⟩
        case measure => simp [intOf]; omega
      · have HE3 : Hid (evict room c0 l = f :: r) := by show _ = _; rw [hE2.out, if_neg hq]
        have hrz : ¬ (rr < (z : Int)) := by have := HRR.out; omega
        go_wp2_with (first
          | (go_at_call 58; refine (HRS.out _ (Frm.refl _ _)).mono ?_; rintro e w2 ⟨rfl, nn, rfl⟩))
        go_ret
        rw [HE3.out]
        exact ⟨⟨_, rfl⟩, A', c', hT.out.drewN _, hF.out.drewN _⟩

set_option maxRecDepth 100000 in
set_option maxHeartbeats 1000000 in
theorem rtresize_any {S : Nat → Prop} {g : Nat} {T : Tb} (c : Nat) (w : World) (h : RTabS S w g T) (hc : c ≤ 1152921504606846976) :
    Calls Try.prog 62 #[.pointer (some ⟨g, 0, none⟩), .int .i64 c] w fun e w' => (∃ m : Int, e = .returned (.int .i64 m)) ∧ RTabS S w' g (T.resize c) ∧ Frm (fun k => k = g) w w' := by
  obtain ⟨A, cA, h⟩ := h
  obtain ⟨l, n, cap⟩ := T
  simp only at h
  have hb0 := h.blk
  have hg : g < w.heap.size := hb0.lt
  have hd1 := hb0.cell 1
  simp only [List.getElem?_toArray, List.getElem?_cons_zero, List.getElem?_cons_succ] at hd1
  have hz1 := hb0.frozen 1
  have hb := hb0.set_ 1 (.int .i64 c)
  have hF : Frm (fun k => k = g) w (w.setCell ⟨g, 1, none⟩ (.int .i64 c)) := (Frm.refl (fun k => k = g) w).setCell (p := ⟨g, 1, none⟩) rfl _
  have hT : RTabAt S (w.setCell ⟨g, 1, none⟩ (.int .i64 c)) g l n c A cA :=
    { h with
      blk := by simpa using hb
      app := h.app.keep hF (fun k hk => h.gA k hk)
      low := fun k hk => Nat.lt_of_lt_of_le (h.low k hk) hF.size
      cb := hc }
  have hd1 := hT.blk.cell 1
  simp only [List.getElem?_toArray, List.getElem?_cons_zero, List.getElem?_cons_succ] at hd1
  have hg1 := hT.blk.lt
  have hfit : Calls Try.prog 81 #[.pointer (some ⟨g, 0, none⟩), .int .i64 c] (w.setCell ⟨g, 1, none⟩ (.int .i64 c)) fun e w' => (∃ m : Int, e = .returned (.int .i64 m)) ∧
      ∃ A' c', RTabAt S w' g (evict 0 c l) n c A' c' ∧ Frm (fun k => k = g) (w.setCell ⟨g, 1, none⟩ (.int .i64 c)) w' := by
    have := rfit_any 0 c _ hT
    simpa using this
  have hc0 : ¬ ((c : Int) < 0) := by omega
  have hc1 : (0 : Int) ≤ (c : Int) := by omega
  have HFIT := Lib.hid hfit
  have HF := Lib.hid hF
  have HT := Lib.hid hT
  have HB := Lib.hid hb
  have HB0 := Lib.hid hb0
  have H := Lib.hid h
  clear hfit hF hT hb hb0 h
  go_enter Try.func62, Try.ntmps62
  go_upto_region 2 with (fail)
  clear hz1 hg
  generalize w.setCell ⟨g, 1, none⟩ (.int .i64 c) = w1 at *
  go_wp2_with (fail)
  refine HFIT.out.mono ?_
  rintro e w3 ⟨⟨m, rfl⟩, A1, c1, hT3, hF3⟩
  have HT3 := Lib.hid hT3
  have HF3 := Lib.hid hF3
  clear hT3 hF3
  clear hd1 hg1 HFIT
  go_wp2
  go_ret
  exact ⟨⟨_, rfl⟩, ⟨A1, c1, HT3.out⟩, HF.out.trans HF3.out⟩

set_option maxRecDepth 100000 in
set_option maxHeartbeats 1000000 in
theorem rtfirst_any {S : Nat → Prop} {g : Nat} {T : Tb} (w : World) (h : RTabS S w g T) :
    Calls Try.prog 80 #[.pointer (some ⟨g, 0, none⟩)] w fun e w' => e = .returned (.int .u64 (T.first : Nat)) ∧ ∃ k, w' = w.drewN k := by
  obtain ⟨A, c, h⟩ := h
  obtain ⟨l, n, cap⟩ := T
  simp only at h
  have hb := h.blk
  have hd0 := hb.cell 0
  have hd2 := hb.cell 2
  simp only [List.getElem?_toArray, List.getElem?_cons_zero, List.getElem?_cons_succ] at hd0 hd2
  have hl : g < w.heap.size := hb.lt
  have hm := h.le
  have hn := h.nb
  clear h hb
  have HE : Hid (Tb.first ⟨l, n, cap⟩ = n - l.length) := rfl
  go_enter Try.func80, Try.ntmps80
  go_wp2
  go_quiet (fail)
  go_wp2
  go_ret
  refine ⟨?_, _, rfl⟩
  refine ret_int ?_
  rw [HE.out]
  omega

set_option maxRecDepth 100000 in
set_option maxHeartbeats 1000000 in
theorem rnewest_any {S : Nat → Prop} {g : Nat} {T : Tb} (i : Nat) (w : World) (h : RTabS S w g T) (hi : i ≤ 18446744073709551615) :
    Calls Try.prog 72 #[.pointer (some ⟨g, 0, none⟩), .int .u64 i] w fun e w' => e = .returned (.tuple #[fld (newestS T.l i).1, .bool (newestS T.l i).2]) ∧ Frm (New w) w w' := by
  obtain ⟨A, c, h⟩ := h
  obtain ⟨l, n, cap⟩ := T
  simp only at h ⊢
  have hll := h.le
  have hnb := h.nb
  have hd0 := h.blk.cell 0
  have hg : g < w.heap.size := h.blk.lt
  have hR := h.app.rd
  simp only [List.getElem?_toArray, List.getElem?_cons_zero] at hd0
  clear h
  have HR := Lib.hid hR
  clear hR
  by_cases hq : i < l.length
  · have hN : Hid (newestS l i = (l[l.length - 1 - i], true)) := by show _ = _; unfold newestS; rw [dif_pos hq]
    have hj : l.length - 1 - i < l.length := by omega
    obtain ⟨gA, off, rfl, hx⟩ := HR.out.at_ (k := (l.length - 1 - i) * 2) (by rw [fvs_length]; omega)
    clear hx
    obtain ⟨hc1, hc2⟩ := fld_cells HR.out (l.length - 1 - i) hj
    have hgA : gA < w.heap.size := World.block_lt_of_cell? _ _ hc1
    generalize l[l.length - 1 - i] = f at *
    obtain ⟨f1, f2⟩ := f
    simp only [str] at hc1 hc2
    obtain ⟨j, hje⟩ : ∃ j, j = l.length - 1 - i := ⟨_, rfl⟩
    rw [← hje] at hc1 hc2 hj
    have hw0 : IntKind.u64.wrap (l.length : Int) = (l.length : Int) := IntWalk.u64_in _ (by omega)
    have hw1 : IntKind.u64.wrap ((l.length : Int) - 1) = ((l.length - 1 : Nat) : Int) := by
      rw [show ((l.length : Int) - 1) = ((l.length - 1 : Nat) : Int) from by omega]
      exact IntWalk.u64_in _ (by omega)
    have hw2 : IntKind.u64.wrap (((l.length - 1 : Nat) : Int) - (i : Int)) = (j : Int) := by
      rw [show (((l.length - 1 : Nat) : Int) - (i : Int)) = (j : Int) from by omega]
      exact IntWalk.u64_in _ (by omega)
    generalize hll1 : l.length - 1 = l1 at *
    generalize hln : l.length = ln at *
    have HJ := Lib.hid hje
    clear hje hll1 hln
    go_enter Try.func72, Try.ntmps72
    go_upto_region 3 with (fail)
    have hB1 := Blk.new w 30 #[.string ⟨#[]⟩, .string ⟨#[]⟩]
    have hF1 : Frm (New w) w (w.alloc (Obj.cells #[.string ⟨#[]⟩, .string ⟨#[]⟩] 30)) := (Frm.refl _ _).alloc Up.new _
    have hne : w.heap.size ≠ g := by omega
    have hd1 := (hF1.cell (p := ⟨g, 0, none⟩) (fun c => by unfold New at c; simp at c; omega)).trans hd0
    have hc3 := (hF1.cell (p := ⟨gA, off + j * 2, none⟩) (fun c => by unfold New at c; simp at c; omega)).trans hc1
    have hc4 := (hF1.cell (p := ⟨gA, off + j * 2 + 1, none⟩) (fun c => by unfold New at c; simp at c; omega)).trans hc2
    generalize w.alloc (Obj.cells #[.string ⟨#[]⟩, .string ⟨#[]⟩] 30) = w1 at *
    have hx1 := hB1.cell 0
    have hx2 := hB1.cell 1
    have hz1 := hB1.frozen 0
    have hz2 := hB1.frozen 1
    have hb1 : w.heap.size < w1.heap.size := hB1.lt
    have hg1 : g < w1.heap.size := by omega
    have hgA1 : gA < w1.heap.size := by omega
    simp only [List.getElem?_toArray, List.getElem?_cons_zero, List.getElem?_cons_succ] at hx1 hx2
    have HB1 := Lib.hid hB1
    have HF1 := Lib.hid hF1
    clear hB1 hF1 hd0 hc1 hc2 hg hgA
    obtain ⟨b, hbe⟩ : ∃ b, b = w.heap.size := ⟨_, rfl⟩
    rw [← hbe] at hx1 hx2 hz1 hz2 hb1 HB1 hne ⊢
    have HBE := Lib.hid hbe
    clear hbe
    go_still_tail 15, (by kernel_rfl)
    change wpList _ _ _ _ _ w1.drew
    go_wp2
    refine bodyPost_ret (results_agg_tmp aggf rfl rfl rfl ((HB1.out.drew.set_ 0 (.string ⟨f1.toArray⟩)).set_ 1 (.string ⟨f2.toArray⟩)) rfl) rfl ?_
    rw [hN.out]
    exact ⟨rfl, (HF1.out.drew.setCell (p := ⟨b, 0, none⟩) (by rw [HBE.out]; exact Nat.le_refl _) _).setCell (p := ⟨b, 1, none⟩) (by rw [HBE.out]; exact Nat.le_refl _) _⟩
  · have hN : Hid (newestS l i = (([], []), false)) := by show _ = _; unfold newestS; rw [dif_neg hq]
    go_enter Try.func72, Try.ntmps72
    go_wp2
    refine bodyPost_ret (results_agg_tmp aggf rfl rfl rfl (Blk.new w 30 #[.string ⟨#[]⟩, .string ⟨#[]⟩]) rfl) rfl ?_
    rw [hN.out]
    exact ⟨rfl, (Frm.refl _ _).alloc Up.new _⟩
end Go.Proofs.Ytcebckkpablagaa.M
