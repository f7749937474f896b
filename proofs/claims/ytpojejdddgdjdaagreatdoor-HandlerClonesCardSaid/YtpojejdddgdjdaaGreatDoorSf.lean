/- sem.trailers; the document's field; what is too large, on both sides. The sizes together are below 2^62. -/
import Derived.BigQuiet
import Derived.Deep.CutBlock
import Derived.Lib.Hide
import Derived.IntWalk
import Derived.Test.YtpojejdddgdjdaaGreatDoorSe
import Derived.Test.YtpojejdddgdjdaaGreatDoorArr
namespace Go.Proofs.YtpojejdddgdjdaaGreatDoor.M
open Go.ChangeShapes Go.WideShapes Go.ChangeAt Go.RowKit

theorem fsizes_mem {l : List Fld} {f : Fld} (h : f ∈ l) : fsize f ≤ fsizes l := by
  unfold fsizes
  induction l with
  | nil => cases h
  | cons x r ih =>
    simp only [List.map_cons, List.sum_cons]
    rcases List.mem_cons.1 h with rfl | h
    · omega
    · have := ih h; omega
/-- trailers may be so -/
def trailOne (f : Fld) : Bool := !decide (f.1.head? = some 58) && (!decide (f.1 = bCL) && plainOk f 0)
def trailOk (l : List Fld) : Bool := l.all trailOne
theorem lall_step {α : Type} (p : α → Bool) (s : List α) (k : Nat) (hk : k < s.length) (h : (s.take k).all p = true) (h2 : p s[k] = true) : (s.take (k + 1)).all p = true := by
  rw [List.take_succ_eq_append_getElem hk, List.all_append, h]
  simp [h2]
theorem lall_no {α : Type} (p : α → Bool) (s : List α) (k : Nat) (hk : k < s.length) (h2 : p s[k] = false) : s.all p = false := by
  rw [Bool.eq_false_iff]
  intro h
  rw [List.all_eq_true] at h
  have := h _ (List.getElem_mem hk)
  rw [h2] at this
  cases this
theorem zFld : (Tryz.prog.info? 38).map (·.zero) = some (some (.agg #[.string ByteArray.empty, .string ByteArray.empty])) := by kernel_rfl
theorem fld_one (a b : ByteArray) : ∀ u ∈ #[Value.string a, Value.string b].toList, u.oneCell' = true := fun u hu => by
  simp only [List.mem_cons, List.not_mem_nil, or_false] at hu
  rcases hu with rfl | rfl <;> rfl
theorem aFld : Agg Tryz.prog 38 2 := ⟨⟨_, Tryz.underlying38, rfl⟩, by kernel_rfl⟩
/-- the document's: a field of a message's fields or trailers -/
def fieldOk (f : Fld) : Bool := nameOk (if f.1.head? = some 58 then f.1.tail else f.1) && (valOk f.2 && (!hop f.1 && (if f.1 = bTe then decide (f.2 = bTrailers) else true)))
set_option maxRecDepth 100000 in
set_option maxHeartbeats 4000000 in
theorem rfield_any (f : Fld) (w : World) (h1 : f.1.length ≤ 9223372036854775807) (h2 : f.2.length ≤ 9223372036854775807) :
    Calls Tryz.prog 44 #[.agg #[.string ⟨f.1.toArray⟩, .string ⟨f.2.toArray⟩]] w fun e w' => e = .returned (.bool (fieldOk f)) ∧ Frm (New w) w w' := by
  obtain ⟨a, b⟩ := f
  simp only at h1 h2 ⊢
  obtain ⟨nm, hnm⟩ : ∃ nm, nm = (if a.head? = some 58 then a.tail else a) := ⟨_, rfl⟩
  have hP : Hid (fieldOk (a, b) = (nameOk nm && (valOk b && (!hop a && (if a = bTe then decide (b = bTrailers) else true))))) := by show _ = _; rw [hnm]; rfl
  have hnl : nm.length ≤ 9223372036854775807 := by rw [hnm]; split; (rw [List.length_tail]; omega); exact h1
  have hPs : ∀ w, Calls Tryz.prog 45 #[.string ⟨a.toArray⟩] w fun e w' => e = .returned (.bool (decide (a.head? = some 58))) ∧ w = w' := fun w => rpseudo_any a w
  have hN : ∀ w, Calls Tryz.prog 60 #[.string ⟨nm.toArray⟩] w fun e w' => e = .returned (.bool (nameOk nm)) ∧ w = w' := fun w => rname_any nm w hnl
  have hV : ∀ w, Calls Tryz.prog 61 #[.string ⟨b.toArray⟩] w fun e w' => e = .returned (.bool (valOk b)) ∧ w = w' := fun w => rvalue_any b w h2
  have ea : (⟨a.toArray⟩ : ByteArray).toList = a := mk_toList a
  have eb : (⟨b.toArray⟩ : ByteArray).toList = b := mk_toList b
  obtain ⟨r, hr⟩ : ∃ r, r = fieldOk (a, b) := ⟨_, rfl⟩
  rw [← hr] at hP ⊢
  clear hr
  have hfr : ∀ (w : World) t cs, Frm (New w) w (w.alloc (.cells cs t)) := fun w t cs => (Frm.refl _ w).alloc Up.new _
  have HFR := Lib.hid hfr
  clear hfr
  go_enter Tryz.func44, Tryz.ntmps44
  go_upto_region 1 with (fail)
  have hb1 := Blk.new w 38 #[.string ⟨a.toArray⟩, .string ⟨b.toArray⟩]
  have hF1 := HFR.out w 38 #[.string ⟨a.toArray⟩, .string ⟨b.toArray⟩]
  generalize w.alloc (.cells #[.string ⟨a.toArray⟩, .string ⟨b.toArray⟩] 38) = w1 at *
  generalize w.heap.size = bx at *
  have hbl := hb1.lt
  have hy0 := hb1.cell 0
  have hy1 := hb1.cell 1
  simp only [List.getElem?_toArray, List.getElem?_cons_zero, List.getElem?_cons_succ] at hy0 hy1
  have HB1 := Lib.hid hb1
  have HF1 := Lib.hid hF1
  clear hb1 hF1
  obtain ⟨d, hd⟩ : ∃ d, d = decide (a.head? = some 58) := ⟨_, rfl⟩
  rw [← hd] at hPs
  have HPS := Lib.hid hPs
  have HD := Lib.hid hd
  clear hPs hd
  go_upto_if 7 with (go_at_call 45; refine (HPS.out _).mono ?_; rintro e w' ⟨rfl, hw⟩; rw [← hw]; clear hw w')
  go_cut [3] from 8 (fun v3 w5 => w5 = w1 ∧ v3 = .string ⟨nm.toArray⟩)
  case first =>
    cases d with
    | true =>
      have hdd := of_decide_eq_true HD.out.symm
      obtain ⟨t, rfl⟩ : ∃ t, a = 58 :: t := by
        cases a with
        | nil => simp at hdd
        | cons c t => exact ⟨t, by simp at hdd; rw [hdd]⟩
      have hnt : Hid (nm = t) := by show _ = _; rw [hnm]; rfl
      have hex : (⟨(58 :: t).toArray⟩ : ByteArray).extract 1 (t.length + 1) = ⟨t.toArray⟩ := by
        apply ByteArray.ext
        simp
      clear hnm hdd hP
      go_wp2_with (fail)
      go_meet
      exact ⟨rfl, by rw [hnt.out]⟩
    | false =>
      have hdd := of_decide_eq_false HD.out.symm
      have hnt : Hid (nm = a) := by show _ = _; rw [hnm, if_neg hdd]
      clear hnm hdd hP
      go_wp2_with (fail)
      go_meet
      exact ⟨rfl, by rw [hnt.out]⟩
  case rest =>
    obtain ⟨rfl, rfl⟩ := hcut
    rename World => w1
    clear hnm HD HPS
    cases e1 : nameOk nm with
    | false =>
      simp only [e1] at hN
      have hrf : Hid (r = false) := by show _ = _; rw [hP.out, e1]; rfl
      have HN := Lib.hid hN
      have HV := Lib.hid hV
      have E1 := Lib.hid e1
      clear hN hV e1
      go_wp2_with (go_at_call 60; refine (HN.out _).mono ?_; rintro e w' ⟨rfl, hw⟩; rw [← hw]; clear hw w')
      go_ret
      exact ⟨ret_bool hrf.out.symm, HF1.out⟩
    | true =>
    cases e2 : valOk b with
    | false =>
      simp only [e1] at hN
      simp only [e2] at hV
      have hrf : Hid (r = false) := by show _ = _; rw [hP.out, e2]; simp
      have HN := Lib.hid hN
      have HV := Lib.hid hV
      have E1 := Lib.hid e1
      have E2 := Lib.hid e2
      clear hN hV e1 e2
      go_wp2_with (first
        | (go_at_call 60; refine (HN.out _).mono ?_; rintro e w' ⟨rfl, hw⟩; rw [← hw]; clear hw w')
        | (go_at_call 61; refine (HV.out _).mono ?_; rintro e w' ⟨rfl, hw⟩; rw [← hw]; clear hw w'))
      go_ret
      exact ⟨ret_bool hrf.out.symm, HF1.out⟩
    | true =>
    simp only [e1] at hN
    simp only [e2] at hV
    have hr3 : Hid (r = (!hop a && (if a = bTe then decide (b = bTrailers) else true))) := by show _ = _; rw [hP.out, e1, e2]; rfl
    clear hP
    have HN := Lib.hid hN
    have HV := Lib.hid hV
    have E1 := Lib.hid e1
    have E2 := Lib.hid e2
    clear hN hV e1 e2
    cases e3 : hop a with
    | true =>
      have hrf : Hid (r = false) := by show _ = _; rw [hr3.out, e3]; rfl
      have hor : a = bConn ∨ a = bKeep ∨ a = bProxy ∨ a = bTrans ∨ a = bUp := by
        unfold hop at e3
        simpa using e3
      clear hr3 e3
      go_upto_region 6 with (first
        | (go_at_call 60; refine (HN.out _).mono ?_; rintro e w' ⟨rfl, hw⟩; rw [← hw]; clear hw w')
        | (go_at_call 61; refine (HV.out _).mono ?_; rintro e w' ⟨rfl, hw⟩; rw [← hw]; clear hw w'))
      rcases hor with rfl | rfl | rfl | rfl | rfl
      all_goals
        go_wp2_with (fail)
        go_ret
        exact ⟨ret_bool hrf.out.symm, HF1.out⟩
    | false =>
      have hnot : a ≠ bConn ∧ a ≠ bKeep ∧ a ≠ bProxy ∧ a ≠ bTrans ∧ a ≠ bUp := by
        unfold hop at e3
        simp only [Bool.or_eq_false_iff, decide_eq_false_iff_not] at e3
        exact e3
      obtain ⟨h1', h2', h3', h4', h5'⟩ := hnot
      have hr4 : Hid (r = (if a = bTe then decide (b = bTrailers) else true)) := by show _ = _; rw [hr3.out, e3]; rfl
      clear hr3 e3
      unfold bConn at h1'
      unfold bKeep at h2'
      unfold bProxy at h3'
      unfold bTrans at h4'
      unfold bUp at h5'
      have g1 := beq_eq_false_iff_ne.2 h1'
      have g2 := beq_eq_false_iff_ne.2 h2'
      have g3 := beq_eq_false_iff_ne.2 h3'
      have g4 := beq_eq_false_iff_ne.2 h4'
      have g5 := beq_eq_false_iff_ne.2 h5'
      by_cases h6 : a = bTe
      · have g6 : (a == [116, 101]) = true := by rw [beq_iff_eq]; exact h6
        have hrf : Hid (r = decide (b = bTrailers)) := by show _ = _; rw [hr4.out, if_pos h6]
        clear hr4
        by_cases h7 : b = bTrailers
        · have g7 : (b == [116, 114, 97, 105, 108, 101, 114, 115]) = true := by rw [beq_iff_eq]; exact h7
          have hrt : Hid (r = true) := by show _ = _; rw [hrf.out, decide_eq_true h7]
          clear h7 h6 hrf
          go_wp2_with (first
            | (go_at_call 60; refine (HN.out _).mono ?_; rintro e w' ⟨rfl, hw⟩; rw [← hw]; clear hw w')
            | (go_at_call 61; refine (HV.out _).mono ?_; rintro e w' ⟨rfl, hw⟩; rw [← hw]; clear hw w'))
          go_ret
          exact ⟨ret_bool hrt.out.symm, HF1.out⟩
        · have g7 : (b == [116, 114, 97, 105, 108, 101, 114, 115]) = false := by rw [beq_eq_false_iff_ne]; exact h7
          have hrt : Hid (r = false) := by show _ = _; rw [hrf.out, decide_eq_false h7]
          clear h7 h6 hrf
          go_wp2_with (first
            | (go_at_call 60; refine (HN.out _).mono ?_; rintro e w' ⟨rfl, hw⟩; rw [← hw]; clear hw w')
            | (go_at_call 61; refine (HV.out _).mono ?_; rintro e w' ⟨rfl, hw⟩; rw [← hw]; clear hw w'))
          go_ret
          exact ⟨ret_bool hrt.out.symm, HF1.out⟩
      · have g6 : (a == [116, 101]) = false := by rw [beq_eq_false_iff_ne]; exact h6
        have n6 : ¬ a = [116, 101] := h6
        have hrt : Hid (r = true) := by show _ = _; rw [hr4.out, if_neg h6]
        clear hr4 h6
        go_wp2_with (first
          | (go_at_call 60; refine (HN.out _).mono ?_; rintro e w' ⟨rfl, hw⟩; rw [← hw]; clear hw w')
          | (go_at_call 61; refine (HV.out _).mono ?_; rintro e w' ⟨rfl, hw⟩; rw [← hw]; clear hw w'))
        go_ret
        exact ⟨ret_bool hrt.out.symm, HF1.out⟩
end Go.Proofs.YtpojejdddgdjdaaGreatDoor.M
