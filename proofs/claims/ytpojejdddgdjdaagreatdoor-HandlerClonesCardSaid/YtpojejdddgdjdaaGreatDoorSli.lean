/- bifoldhelp: Light, LightM, Fields, Message, Request. Each string is below 2^50 bytes; no other condition. -/
import Derived.BigQuiet
import Derived.Deep.CutBlock
import Derived.Lib.Hide
import Derived.IntWalk
import Derived.Test.YtpojejdddgdjdaaGreatDoorSrv
namespace Go.Proofs.YtpojejdddgdjdaaGreatDoor.M
open Go.ChangeShapes Go.WideShapes Go.ChangeAt Go.RowKit

def FldOk (f : Fld) : Prop := f.1.length ≤ 1125899906842624 ∧ f.2.length ≤ 1125899906842624
def flen (f : Fld) : Nat := f.1.length + f.2.length
def fsum (l : List Fld) : Nat := (l.map flen).sum
def light (l : List Fld) : Bool := decide (l.length ≤ 70) && decide (fsum l ≤ 3000)
def lightM (m : MV) : Bool := light m.fs && (light m.ts && decide (m.b.length ≤ 20000))
theorem fsum_le_take (l : List Fld) (k : Nat) : fsum (l.take k) ≤ fsum l := by
  have h : fsum l = fsum (l.take k) + fsum (l.drop k) := by
    conv => lhs; rw [← List.take_append_drop k l]
    unfold fsum
    rw [List.map_append, List.sum_append]
  omega
theorem fsum_snoc (l : List Fld) (k : Nat) (h : k < l.length) : fsum (l.take (k + 1)) = fsum (l.take k) + flen l[k] := by
  unfold fsum
  rw [List.take_succ_eq_append_getElem h, List.map_append, List.sum_append]
  simp
theorem fsizes_sum (l : List Fld) : fsizes l = fsum l + 32 * l.length := by
  unfold fsizes fsum
  induction l with
  | nil => rfl
  | cons f r ih =>
    simp only [List.map_cons, List.sum_cons, List.length_cons, ih, fsize, flen]
    omega
theorem light_size {l : List Fld} (h : light l = true) : fsizes l ≤ 5240 ∧ l.length ≤ 70 := by
  unfold light at h
  simp only [Bool.and_eq_true, decide_eq_true_eq] at h
  rw [fsizes_sum]
  omega
theorem lightM_sz {m : MV} (h : lightM m = true) : MSz m ∧ m.b.length ≤ 20000 ∧ m.ts.length ≤ 70 ∧ m.fs.length ≤ 70 := by
  unfold lightM at h
  simp only [Bool.and_eq_true, decide_eq_true_eq] at h
  obtain ⟨h1, h2, h3⟩ := h
  have a := light_size h1
  have b := light_size h2
  exact ⟨⟨by omega, by omega, by omega, by omega, by omega⟩, h3, b.2, a.2⟩
set_option maxRecDepth 100000 in
set_option maxHeartbeats 2000000 in
theorem light_any (l : List Fld) (A : Option Addr) (c : Nat) (w : World) (hR : Rd w A (fvs l)) (hok : ∀ f ∈ l, FldOk f) :
    Calls Tryz.prog 24 #[.slice A l.length c] w fun e w' => e = .returned (.bool (light l)) ∧ ∃ n, w' = w.drewN n := by
  obtain ⟨r, hr⟩ : ∃ r, r = light l := ⟨_, rfl⟩
  rw [← hr]
  have HR := Lib.hid hR
  have HOK := Lib.hid hok
  have HQ := Lib.hid hr
  clear hR hok hr
  go_enter Tryz.func24, Tryz.ntmps24
  by_cases h70 : (70 : Int) < l.length
  · have hrf : Hid (r = false) := by show _ = _; rw [HQ.out]; unfold light; rw [decide_eq_false (by omega)]; rfl
    go_wp2_with (fail)
    go_ret
    exact ⟨ret_bool hrf.out.symm, 0, rfl⟩
  have hr2 : Hid (r = decide (fsum l ≤ 3000)) := by show _ = _; rw [HQ.out]; unfold light; rw [decide_eq_true (by omega)]; rfl
  clear HQ
  go_wp2_with (fail)
  go_loopw [3, 4] (fun v3 v4 wr => ∃ k : Nat, k ≤ l.length ∧ v4 = .int .i64 k ∧ v3 = .int .i64 (fsum (l.take k) : Nat) ∧ fsum (l.take k) ≤ 3000 ∧ ∃ n, wr = w.drewN n) (fun _ v4 _ => l.length - (intOf v4).toNat)
  case atStart => exact ⟨0, Nat.zero_le _, rfl, rfl, by simp [fsum], 0, rfl⟩
  case round =>
    obtain ⟨k, hk, rfl, rfl, hsum, d, rfl⟩ := hrel
    by_cases hlt : k < l.length
    · obtain ⟨g, off, rfl, hx⟩ := HR.out.at_ (k := k * 2) (by rw [fvs_length]; omega)
      clear hx
      obtain ⟨hc1, hc2⟩ := fld_cells HR.out k hlt
      have ho := HOK.out _ (List.getElem_mem hlt)
      have hsn := fsum_snoc l k hlt
      have hle := fsum_le_take l (k + 1)
      generalize l[k] = f at *
      obtain ⟨a, b⟩ := f
      simp only [str] at hc1 hc2
      unfold FldOk at ho
      unfold flen at hsn
      simp only at ho hsn
      have hgl := World.block_lt_of_cell? _ _ hc1
      simp only at hgl
      rw [hsn] at hle
      have HSN := Lib.hid hsn
      clear hsn
      generalize fsum (l.take k) = v at *
      by_cases h3 : (3000 : Int) < (v : Int) + ((a.length : Int) + (b.length : Int))
      · have hrf : Hid (r = false) := by show _ = _; rw [hr2.out, decide_eq_false (by omega)]
        go_wp2_with (fail)
        go_quiet (fail)
        go_wp2_with (fail)
        go_ret
        exact ⟨ret_bool hrf.out.symm, _, rfl⟩
      · go_wp2_with (fail)
        go_quiet (fail)
        go_wp2_with (fail)
        go_roundw
        case rel => exact ⟨k + 1, by omega, by go_num, by rw [HSN.out]; go_num, by rw [HSN.out]; omega, _, rfl⟩
        case measure => simp [intOf]; omega
    · obtain rfl : k = l.length := by omega
      rw [List.take_length] at hsum
      have hrt : Hid (r = true) := by show _ = _; rw [hr2.out, decide_eq_true hsum]
      go_wp2_with (fail)
      go_ret
      exact ⟨ret_bool hrt.out.symm, _, rfl⟩
/-- the strings of a message -/
structure MOk (m : MV) : Prop where
  o1 : ∀ f ∈ m.fs, FldOk f
  o3 : ∀ f ∈ m.ts, FldOk f
set_option maxRecDepth 100000 in
set_option maxHeartbeats 2000000 in
theorem lightM_any (m : MV) (w : World) (hm : MIn w m) (ho : MOk m) :
    Calls Tryz.prog 7 #[.agg m.cells] w fun e w' => e = .returned (.bool (lightM m)) ∧ Frm (New w) w w' := by
  have hL : Hid (lightM m = (light m.fs && (light m.ts && decide (m.b.length ≤ 20000)))) := rfl
  have h1 : ∀ w', Frm (New w) w w' → Calls Tryz.prog 24 #[.slice m.A1 m.fs.length m.c1] w' fun e w2 => e = .returned (.bool (light m.fs)) ∧ ∃ n, w2 = w'.drewN n := fun w' f => light_any m.fs m.A1 m.c1 w' (hm.r1.fresh f) ho.o1
  have h3 : ∀ w', Frm (New w) w w' → Calls Tryz.prog 24 #[.slice m.A3 m.ts.length m.c3] w' fun e w2 => e = .returned (.bool (light m.ts)) ∧ ∃ n, w2 = w'.drewN n := fun w' f => light_any m.ts m.A3 m.c3 w' (hm.r3.fresh f) ho.o3
  have hx : m.cells = #[.slice m.A1 m.fs.length m.c1, .slice m.A2 m.b.length m.c2, .slice m.A3 m.ts.length m.c3] := rfl
  obtain ⟨r, hr⟩ : ∃ r, r = lightM m := ⟨_, rfl⟩
  rw [← hr] at hL ⊢
  rw [hx]
  clear hm ho hr hx
  obtain ⟨b1, hb1⟩ : ∃ b1, b1 = light m.fs := ⟨_, rfl⟩
  obtain ⟨b3, hb3⟩ : ∃ b3, b3 = light m.ts := ⟨_, rfl⟩
  rw [← hb1] at h1 hL
  rw [← hb3] at h3 hL
  generalize m.A1 = A1 at *
  generalize m.A2 = A2 at *
  generalize m.A3 = A3 at *
  generalize m.c1 = c1 at *
  generalize m.c2 = c2 at *
  generalize m.c3 = c3 at *
  generalize m.fs.length = n1 at *
  generalize m.b.length = n2 at *
  generalize m.ts.length = n3 at *
  clear hb1 hb3
  have hfr : ∀ (w : World) t cs, Frm (New w) w (w.alloc (.cells cs t)) := fun w t cs => (Frm.refl _ w).alloc Up.new _
  have H1 := Lib.hid h1
  have H3 := Lib.hid h3
  have HFR := Lib.hid hfr
  clear h1 h3 hfr
  go_enter Tryz.func7, Tryz.ntmps7
  go_upto_region 1 with (fail)
  have hb1 := Blk.new w 30 #[.slice A1 n1 c1, .slice A2 n2 c2, .slice A3 n3 c3]
  have hF1 := HFR.out w 30 #[.slice A1 n1 c1, .slice A2 n2 c2, .slice A3 n3 c3]
  generalize w.alloc (.cells #[.slice A1 n1 c1, .slice A2 n2 c2, .slice A3 n3 c3] 30) = w1 at *
  generalize w.heap.size = bx at *
  have hbl := hb1.lt
  have hy0 := hb1.cell 0
  have hy1 := hb1.cell 1
  have hy2 := hb1.cell 2
  simp only [List.getElem?_toArray, List.getElem?_cons_zero, List.getElem?_cons_succ] at hy0 hy1 hy2
  have hc1 := H1.out w1 hF1
  have hc3 : ∀ n, Calls Tryz.prog 24 #[.slice A3 n3 c3] (w1.drewN n) fun e w2 => e = .returned (.bool b3) ∧ ∃ n', w2 = (w1.drewN n).drewN n' := fun n => H3.out _ (hF1.drewN n)
  have HB1 := Lib.hid hb1
  have HF1 := Lib.hid hF1
  have HC1 := Lib.hid hc1
  have HC3 := Lib.hid hc3
  clear hb1 hF1 hc1 hc3
  cases b1 with
  | false =>
    go_wp2_with (go_at_call 24; refine HC1.out.mono ?_; rintro e w2 ⟨rfl, d, rfl⟩)
    go_ret
    exact ⟨ret_bool (by rw [hL.out]; rfl), HF1.out.drewN _⟩
  | true =>
    go_wp2_with (fail)
    refine HC1.out.mono ?_
    rintro e w2 ⟨rfl, d, rfl⟩
    cases b3 with
    | false =>
      go_wp2_with (go_at_call 24; refine (HC3.out _).mono ?_; rintro e w2 ⟨rfl, d2, rfl⟩)
      go_ret
      exact ⟨ret_bool (by rw [hL.out]; rfl), by first | exact (HF1.out.drewN _).drewN _ | exact HF1.out.drewN _⟩
    | true =>
      go_wp2_with (go_at_call 24; refine (HC3.out _).mono ?_; rintro e w2 ⟨rfl, d2, rfl⟩)
      go_ret
      refine ⟨ret_bool ?_, by first | exact (HF1.out.drewN _).drewN _ | exact HF1.out.drewN _⟩
      rw [hL.out]
      by_cases h : n2 ≤ 20000 <;> simp [h] <;> omega
end Go.Proofs.YtpojejdddgdjdaaGreatDoor.M
