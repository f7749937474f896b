/- The reference's FindIn: it tells what static.find tells. -/
import Derived.Test.YtcebckkpablagaaFind
namespace Go.Proofs.Ytcebckkpablagaa.M
open Go.ChangeShapes Go.WideShapes Go.ChangeAt Go.RowKit

theorem nameAt_none (l : List Fld) (n : Bytes) (k : Nat) (h : k < l.length) (h0 : nameAt (l.take k) n = none) :
    (l[k].1 = n → nameAt l n = some k) ∧ (l[k].1 ≠ n → nameAt (l.take (k + 1)) n = none) := by
  unfold nameAt at *
  have hl : (l.take k).length = k := by simp; omega
  constructor
  · intro e
    have hs : l = l.take k ++ l[k] :: l.drop (k + 1) := by simp
    rw [hs, List.findIdx?_append, h0, List.findIdx?_cons, if_pos (by simpa using e), hl]
    simp
  · intro e
    rw [List.take_succ_eq_append_getElem h, List.findIdx?_append, h0]
    simp [List.findIdx?_cons, e]

set_option maxRecDepth 100000 in
set_option maxHeartbeats 1000000 in
theorem findin_any (l : List Fld) (f : Fld) (A : Option Addr) (c : Nat) (w : World) (hR : Rd w A (fvs l)) (hl : l.length ≤ 4611686018427387903) :
    Calls Try.prog 56 #[.slice A l.length c, fld f] w fun e w' => e = .returned (.tuple #[.int .i64 (findS l f).1, .bool (findS l f).2.1, .bool (findS l f).2.2]) ∧ Frm (New w) w w' := by
  obtain ⟨f1, f2⟩ := f
  simp only [fld, str]
  go_enter Try.func56, Try.ntmps56
  go_wp2
  have HB : Blk (w.alloc (Obj.cells #[Value.string { data := List.toArray f1 }, Value.string { data := List.toArray f2 }] 30)) w.heap.size 30 #[Value.string { data := List.toArray f1 }, Value.string { data := List.toArray f2 }] := Blk.new w _ _
  have HR : Rd (w.alloc (Obj.cells #[Value.string { data := List.toArray f1 }, Value.string { data := List.toArray f2 }] 30)) A (fvs l) := hR.alloc _
  have H0 : Frm (New w) w (w.alloc (Obj.cells #[Value.string { data := List.toArray f1 }, Value.string { data := List.toArray f2 }] 30)) := (Frm.refl _ _).alloc Up.new _
  generalize w.alloc (Obj.cells #[Value.string { data := List.toArray f1 }, Value.string { data := List.toArray f2 }] 30) = w1 at *
  generalize hb : w.heap.size = b at *
  have hd1 := HB.cell 0
  have hd2 := HB.cell 1
  have hb1 : b < w1.heap.size := HB.lt
  have HR := Lib.hid HR
  have H0 := Lib.hid H0
  clear hR HB
  go_loopw [7] (fun i wr => ∃ k : Nat, k ≤ l.length ∧ i = .int .i64 k ∧ Hid (fldAt (l.take k) (f1, f2) = none) ∧ ∃ q, wr = w1.drewN q) (fun i _ => l.length - (intOf i).toNat)
  case atStart => exact ⟨0, Nat.zero_le _, rfl, rfl, 0, rfl⟩
  case round =>
    obtain ⟨k, hk, rfl, hN, q, rfl⟩ := hrel
    by_cases hlt : k < l.length
    · have hRd := HR.out
      obtain ⟨g, off, rfl, hx⟩ := hRd.at_ (k := k * 2) (by rw [fvs_length]; omega)
      clear hx
      obtain ⟨hc1, hc2⟩ := fld_cells hRd k hlt
      clear hRd
      have HT := Lib.hid (fldAt_none l (f1, f2) k hlt hN.out)
      generalize hf : l[k] = f at *
      obtain ⟨x1, x2⟩ := f
      simp only [str] at hc1 hc2
      clear hf
      by_cases h1 : x1 = f1 <;> by_cases h2 : x2 = f2
      all_goals go_wp2
      all_goals go_quiet (fail)
      all_goals go_wp2
      case _ =>
        have e1 := HT.out.1 (by rw [h1, h2])
        refine bodyPost_ret (v := .tuple #[.int .i64 k, .bool true, .bool true]) (by simp [results, Try.results56, go_sem]) rfl ?_
        simp only [findS, e1]
        exact ⟨by first | rfl | trivial, (H0.out.drewN _).drewN _⟩
      all_goals
        have hn2 : Hid (fldAt (List.take (k + 1) l) (f1, f2) = none) := HT.out.2 (fun h => by
          simp only [Prod.mk.injEq] at h
          obtain ⟨h3, h4⟩ := h
          first | exact h1 h3 | exact h2 h4)
      all_goals go_roundw
      all_goals try (case measure => simp [intOf]; omega)
      all_goals exact ⟨k + 1, by omega, by go_num, hn2, _, rfl⟩
    · obtain rfl : k = l.length := by omega
      simp only [List.take_length] at hN
      go_wp2
      go_loopw [8] (fun i wr => ∃ k : Nat, k ≤ l.length ∧ i = .int .i64 k ∧ Hid (nameAt (l.take k) f1 = none) ∧ ∃ q, wr = w1.drewN q) (fun i _ => l.length - (intOf i).toNat)
      case atStart => exact ⟨0, Nat.zero_le _, rfl, rfl, _, rfl⟩
      case round =>
        obtain ⟨k, hk, rfl, hM, q, rfl⟩ := hrel
        by_cases hlt : k < l.length
        · have hRd := HR.out
          obtain ⟨g, off, rfl, hx⟩ := hRd.at_ (k := k * 2) (by rw [fvs_length]; omega)
          clear hx
          obtain ⟨hc1, hc2⟩ := fld_cells hRd k hlt
          clear hRd
          have HT := Lib.hid (nameAt_none l f1 k hlt hM.out)
          generalize hf : l[k] = f at *
          obtain ⟨x1, x2⟩ := f
          simp only [str] at hc1 hc2
          clear hf
          by_cases h1 : x1 = f1
          all_goals go_wp2
          all_goals go_quiet (fail)
          all_goals go_wp2
          case _ =>
            have e1 := HT.out.1 h1
            refine bodyPost_ret (v := .tuple #[.int .i64 k, .bool true, .bool false]) (by simp [results, Try.results56, go_sem]) rfl ?_
            simp only [findS, hN.out, e1]
            exact ⟨by first | rfl | trivial, (H0.out.drewN _).drewN _⟩
          all_goals try (rename_i hh; exact absurd (by simpa using hh) h1)
          all_goals
            have hn2 : Hid (nameAt (List.take (k + 1) l) f1 = none) := HT.out.2 h1
          all_goals go_roundw
          all_goals try (case measure => simp [intOf]; omega)
          all_goals exact ⟨k + 1, by omega, by go_num, hn2, _, rfl⟩
        · obtain rfl : k = l.length := by omega
          simp only [List.take_length] at hM
          go_wp2
          refine bodyPost_ret (v := .tuple #[.int .i64 0, .bool false, .bool false]) (by simp [results, Try.results56, go_sem]) rfl ?_
          simp only [findS, hN.out, hM.out]
          exact ⟨by first | rfl | trivial, H0.out.drewN _⟩
end Go.Proofs.Ytcebckkpablagaa.M
