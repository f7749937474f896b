/- Rtabf -/
import Derived.Test.YtdgggjeiflllhaaZyRtab

namespace Go.Proofs.Ytdgggjeiflllhaa.M
open Go.ChangeShapes Go.WideShapes Go.ChangeAt Go.RowKit
section
variable {κ : Type} [DecidableEq κ]
theorem lastAt_at (key : Fld → κ) (k : κ) (b : Nat) (l : List Fld) (j : Nat) (hj : j < l.length) (h0 : lastAt key k (b + (j + 1)) (l.drop (j + 1)) = none) :
    (key l[j] = k → lastAt key k (b + j) (l.drop j) = some (b + j)) ∧ (key l[j] ≠ k → lastAt key k (b + j) (l.drop j) = none) := by
  rw [List.drop_eq_getElem_cons hj, lastAt, show b + j + 1 = b + (j + 1) from by omega, h0]
  exact ⟨fun e => if_pos e, fun e => if_neg e⟩
theorem lastAt_up (key : Fld → κ) (k : κ) (b : Nat) (l : List Fld) (i : Nat) : ∀ j, lastAt key k (b + j) (l.drop j) = some i → lastAt key k b l = some i
  | 0, h => h
  | j + 1, h => by
    refine lastAt_up key k b l i j ?_
    by_cases hj : j < l.length
    · rw [List.drop_eq_getElem_cons hj, lastAt, show b + j + 1 = b + (j + 1) from by omega, h]
    · rw [List.drop_eq_nil_of_le (by omega)] at h; cases h
end
set_option maxRecDepth 100000 in
set_option maxHeartbeats 1000000 in
theorem rfind_any {S : Nat → Prop} {g : Nat} {T : Tb} (f : Fld) (w : World) (h : RTabS S w g T) :
    Calls Try.prog 57 #[.pointer (some ⟨g, 0, none⟩), fld f] w fun e w' =>
      e = .returned (.tuple #[.int .u64 (T.find f).1, .bool (T.find f).2.1, .bool (T.find f).2.2]) ∧ Frm (New w) w w' := by
  obtain ⟨f1, f2⟩ := f
  have HE : Hid (T.find (f1, f2) = (match lastAt id (f1, f2) T.first T.l with
    | some i => (i, true, true)
    | none => match lastAt Prod.fst f1 T.first T.l with
      | some i => (i, true, false)
      | none => (0, false, false))) := rfl
  obtain ⟨hnl, hnb⟩ := h.nb
  have hfe : T.first + T.l.length = T.n := by unfold Tb.first; omega
  have hfn : lastAt id (f1, f2) (T.first + T.l.length) (T.l.drop T.l.length) = none := by rw [List.drop_length]; rfl
  have hfm : lastAt Prod.fst f1 (T.first + T.l.length) (T.l.drop T.l.length) = none := by rw [List.drop_length]; rfl
  generalize T.find (f1, f2) = R at *
  have hFirst := fun w' (hw : RTabS S w' g T) => rtfirst_any w' hw
  generalize T.first = fi at *
  have HFIRST := Lib.hid hFirst
  have HFN := Lib.hid hfn
  have HFM := Lib.hid hfm
  clear hFirst hfn hfm
  simp only [fld, str]
  go_enter Try.func57, Try.ntmps57
  go_upto_region 1 with (fail)
  have HB : Blk (w.alloc (Obj.cells #[Value.string { data := List.toArray f1 }, Value.string { data := List.toArray f2 }] 71)) w.heap.size 71 #[Value.string { data := List.toArray f1 }, Value.string { data := List.toArray f2 }] := Blk.new w _ _
  have H0 : Frm (New w) w (w.alloc (Obj.cells #[Value.string { data := List.toArray f1 }, Value.string { data := List.toArray f2 }] 71)) := (Frm.refl _ _).alloc Up.new _
  have H1 := h.fresh H0
  generalize w.alloc (Obj.cells #[Value.string { data := List.toArray f1 }, Value.string { data := List.toArray f2 }] 71) = w1 at *
  generalize hbe : w.heap.size = b at *
  have hx1 := HB.cell 0
  have hx2 := HB.cell 1
  simp only [List.getElem?_toArray, List.getElem?_cons_zero, List.getElem?_cons_succ] at hx1 hx2
  have hb1 : b < w1.heap.size := HB.lt
  have H1' := H1
  obtain ⟨A, c, hT⟩ := H1'
  obtain ⟨l, n, cap⟩ := T
  simp only at hT hnl hnb hfe
  have hb := hT.blk
  have hd0 := hb.cell 0
  simp only [List.getElem?_toArray, List.getElem?_cons_zero] at hd0
  have hg : g < w1.heap.size := hb.lt
  have hR := hT.app.rd
  have H0h := Lib.hid H0
  have H1h := Lib.hid H1
  have HR := Lib.hid hR
  have HBE := Lib.hid hbe
  clear H0 H1 hR hbe
  clear HB hb hT h
  go_wp2
  go_loopw [7] (fun i wr => ∃ k : Nat, k ≤ l.length ∧ i = .int .i64 ((k : Int) - 1) ∧ Hid (lastAt id (f1, f2) (fi + k) (l.drop k) = none) ∧ ∃ q, wr = w1.drewN q) (fun i _ => (intOf i + 1).toNat)
  case atStart => exact ⟨l.length, Nat.le_refl _, rfl, HFN.out, 0, rfl⟩
  case round =>
    obtain ⟨k, hk, rfl, hN, q, rfl⟩ := hrel
    cases k with
    | zero =>
      have hN0 : Hid (lastAt id (f1, f2) fi l = none) := hN.out
      rw [show ((0 : Nat) : Int) - 1 = -1 from rfl]
      go_wp2
      go_loopw [8] (fun i wr => ∃ k : Nat, k ≤ l.length ∧ i = .int .i64 ((k : Int) - 1) ∧ Hid (lastAt Prod.fst f1 (fi + k) (l.drop k) = none) ∧ ∃ q, wr = w1.drewN q) (fun i _ => (intOf i + 1).toNat)
      case atStart => exact ⟨l.length, Nat.le_refl _, rfl, HFM.out, _, rfl⟩
      case round =>
        obtain ⟨k, hk, rfl, hM, q, rfl⟩ := hrel
        cases k with
        | zero =>
          have hM0 : Hid (lastAt Prod.fst f1 fi l = none) := hM.out
          go_wp2
          refine bodyPost_ret (v := .tuple #[.int .u64 0, .bool false, .bool false]) (by simp [results, Try.results57, go_sem]) rfl ?_
          have HE2 := HE.out
          simp only [hN0.out, hM0.out] at HE2
          rw [HE2]
          exact ⟨rfl, H0h.out.drewN _⟩
        | succ j =>
          have hj : j < l.length := by omega
          obtain ⟨gA, off, rfl, hx⟩ := HR.out.at_ (k := j * 2) (by rw [fvs_length]; omega)
          clear hx
          obtain ⟨hc1, hc2⟩ := fld_cells HR.out j hj
          have HT := Lib.hid (lastAt_at Prod.fst f1 fi l j hj hM.out)
          generalize l[j] = x at *
          obtain ⟨x1, x2⟩ := x
          simp only [str] at hc1 hc2
          have hji : ((j + 1 : Nat) : Int) - 1 = (j : Int) := by omega
          rw [hji]
          have HJ := Lib.hid hji
          clear hji
          have hw1 : IntKind.u64.wrap ((fi : Int) + (j : Int)) = ((fi + j : Nat) : Int) := by
            rw [show ((fi : Int) + (j : Int)) = ((fi + j : Nat) : Int) from by omega]
            exact IntWalk.u64_in _ (by omega)
          by_cases h1 : x1 = f1
          · have e1 := lastAt_up Prod.fst f1 fi l _ j (HT.out.1 h1)
            have HE1 := Lib.hid e1
            clear e1
            go_wp2
            go_quiet (fail)
            go_wp2_with (go_at_call 94; refine (HFIRST.out _ (by exact H1h.out.fresh ((Frm.refl _ _).drewN _))).mono ?_; rintro e w3 ⟨rfl, nn, rfl⟩)
            refine bodyPost_ret (v := .tuple #[.int .u64 ((fi + j : Nat) : Int), .bool true, .bool false]) (by simp [results, Try.results57, go_sem]) rfl ?_
            have HE2 := HE.out
            simp only [hN0.out, HE1.out] at HE2
            rw [HE2]
            first | exact ⟨rfl, (H0h.out.drewN _).drewN _⟩ | exact ⟨rfl, H0h.out.drewN _⟩
          · have e1 := HT.out.2 h1
            have HE1 := Lib.hid e1
            have hbx : (x1 == f1) = false := by rw [beq_eq_false_iff_ne]; exact h1
            clear e1 hw1
            go_wp2
            go_quiet (fail)
            go_wp2
            go_roundw
            case rel => exact ⟨j, by omega, rfl, HE1, _, rfl⟩
            case measure => simp [intOf]
    | succ j =>
      have hj : j < l.length := by omega
      obtain ⟨gA, off, rfl, hx⟩ := HR.out.at_ (k := j * 2) (by rw [fvs_length]; omega)
      clear hx
      obtain ⟨hc1, hc2⟩ := fld_cells HR.out j hj
      have HT := Lib.hid (lastAt_at id (f1, f2) fi l j hj hN.out)
      generalize l[j] = x at *
      obtain ⟨x1, x2⟩ := x
      simp only [str] at hc1 hc2
      have hji : ((j + 1 : Nat) : Int) - 1 = (j : Int) := by omega
      rw [hji]
      have HJ := Lib.hid hji
      clear hji
      have hw1 : IntKind.u64.wrap ((fi : Int) + (j : Int)) = ((fi + j : Nat) : Int) := by
        rw [show ((fi : Int) + (j : Int)) = ((fi + j : Nat) : Int) from by omega]
        exact IntWalk.u64_in _ (by omega)
      by_cases h1 : x1 = f1 <;> by_cases h2 : x2 = f2
      · have e1 := lastAt_up id (f1, f2) fi l _ j (HT.out.1 (by rw [h1, h2]; rfl))
        have HE1 := Lib.hid e1
        clear e1
        go_wp2
        go_quiet (fail)
        go_wp2_with (go_at_call 94; refine (HFIRST.out _ (by exact H1h.out.fresh ((Frm.refl _ _).drewN _))).mono ?_; rintro e w3 ⟨rfl, nn, rfl⟩)
        refine bodyPost_ret (v := .tuple #[.int .u64 ((fi + j : Nat) : Int), .bool true, .bool true]) (by simp [results, Try.results57, go_sem]) rfl ?_
        have HE2 := HE.out
        simp only [HE1.out] at HE2
        rw [HE2]
        first | exact ⟨rfl, (H0h.out.drewN _).drewN _⟩ | exact ⟨rfl, H0h.out.drewN _⟩
      all_goals
        have e1 := HT.out.2 (fun h => by
          simp only [id, Prod.mk.injEq] at h
          obtain ⟨h3, h4⟩ := h
          first | exact h1 h3 | exact h2 h4)
        have HE1 := Lib.hid e1
        clear e1 hw1
      all_goals go_wp2
      all_goals go_quiet (fail)
      all_goals go_wp2
      all_goals go_roundw
      all_goals try (case measure => simp [intOf])
      all_goals exact ⟨j, by omega, rfl, HE1, _, rfl⟩
end Go.Proofs.Ytdgggjeiflllhaa.M

