/- answer, not, none, Bad: what the handler's answers are. Bodies below 2^40 bytes. -/
import Derived.BigQuiet
import Derived.Deep.RegionHeldLaw
import Derived.Deep.CutBlock
import Derived.Lib.Hide
import Derived.IntWalk
import Derived.WalkLawsBesides
import Derived.Laws.Cover3
import Derived.Test.YtpojejdddgdjdaaGreatDoorHap
import Derived.Test.YtpojejdddgdjdaaGreatDoorArrb
namespace Go.Proofs.YtpojejdddgdjdaaGreatDoor.M
open Go.ChangeShapes Go.WideShapes Go.ChangeAt Go.RowKit

theorem decB_lib (n : Nat) : Lib.decDigits n = decB n := by
  induction n using Nat.strongRecOn with
  | ind n ih =>
    by_cases h : n < 10
    · rw [decB_lt h, Lib.decDigits, dif_pos h]; rfl
    · rw [decB_ge h, Lib.decDigits, dif_neg h, ih (n / 10) (by omega)]; rfl
theorem itoa_dec (n : Nat) (hn : n ≤ 9223372036854775807) (w : World) (hT : PT w) :
    Calls Tryz.prog 54 #[.int .i64 (n : Int)] w fun e w' => e = .returned (.string ⟨(decB n).toArray⟩) ∧ Frm (New w) w w' := by
  have h := itoa_any n hn w hT
  rw [decB_lib] at h
  exact h
@[go_sem] theorem run_eql_slice_nil {P : Program} (w : World) (t e : TypeId) (a : Option Addr) (l c : Nat) (h : P.underlying t = some (.slice e)) : (binOp .eql t (.slice a l c) (.slice none 0 0)).run P w = .ok (.bool a.isNone) w := by
  simp only [binOp]
  simp [run_equal_slice_nil w t e a l c h]
theorem Rd.none_nil {w : World} {xs : List Value} (h : Rd w none xs) : xs = [] := by
  cases xs with
  | nil => rfl
  | cons u r =>
    obtain ⟨g, off, e, _⟩ := h 0 u rfl
    cases e
set_option maxRecDepth 100000 in
set_option maxHeartbeats 1000000 in
theorem bclone_any (A : Option Addr) (c : Nat) (b : Bytes) (w : World) (hR : Rd w A (bvs b)) (hby : b.length ≤ 1099511627776) :
    Calls Tryz.prog 38 #[.slice A b.length c] w fun e w' => ∃ A' c', e = .returned (.slice A' b.length c') ∧ App (New w) w' 5 1 A' b.length c' (bvs b) ∧ Frm (New w) w w' := by
  cases A with
  | none =>
    obtain rfl : b = [] := by
      have := hR.none_nil
      simpa [bvs] using this
    have hun := u8s.ht
    go_enter Tryz.func38, Tryz.ntmps38
    go_upto_region 2 with (fail)
    go_wp2
    go_ret
    exact ⟨none, 0, rfl, App.none_, Frm.refl _ _⟩
  | some a =>
    have hA5 : App (New w) (w.alloc (.cells #[] 5)) 5 1 (some ⟨w.heap.size, 0, none⟩) 0 0 [] := App.made w #[] _ 1 0 0 (Nat.le_refl _) rfl (Nat.le_refl _) (Nat.zero_le _)
    have hu5 : Up (New w) (w.alloc (.cells #[] 5)) := Up.new.of (by simp)
    have hR5 := hR.alloc (.cells #[] 5)
    have hF5 : Frm (New w) w (w.alloc (.cells #[] 5)) := (Frm.refl _ w).alloc Up.new _
    have hun := u8s.ht
    go_enter Tryz.func38, Tryz.ntmps38
    go_upto_region 3 with (fail)
    go_wp2_with (at_builtin; refine wpList_append u8s rfl rfl rfl hA5 hu5 rfl hR5 (by simp) (bvs_one _) (by omega) ?_; intro A6 c6 w6 hA6 hF6 _ _; rw [Nat.zero_add, List.nil_append] at hA6; rw [Nat.zero_add])
    go_ret
    exact ⟨A6, c6, rfl, hA6, hF5.trans hF6⟩
set_option maxRecDepth 100000 in
set_option maxHeartbeats 1000000 in
theorem fclone_any (A : Option Addr) (c : Nat) (l : List Fld) (w : World) (hR : Rd w A (fvs l)) (hby : l.length ≤ 1099511627776) :
    Calls Tryz.prog 67 #[.slice A l.length c] w fun e w' => ∃ A' c', e = .returned (.slice A' l.length c') ∧ App (New w) w' 38 2 A' l.length c' (fvs l) ∧ Frm (New w) w w' := by
  cases A with
  | none =>
    obtain rfl : l = [] := by
      have h := congrArg List.length hR.none_nil
      rw [fvs_length] at h
      simp only [List.length_nil] at h
      exact List.eq_nil_of_length_eq_zero (by omega)
    have hun := flds.ht
    go_enter Tryz.func67, Tryz.ntmps67
    go_upto_region 2 with (fail)
    go_wp2
    go_ret
    exact ⟨none, 0, rfl, App.none_, Frm.refl _ _⟩
  | some a =>
    have hA5 : App (New w) (w.alloc (.cells #[] 38)) 38 2 (some ⟨w.heap.size, 0, none⟩) 0 0 [] := App.made w #[] _ 2 0 0 (Nat.le_refl _) rfl (Nat.le_refl _) (Nat.zero_le _)
    have hu5 : Up (New w) (w.alloc (.cells #[] 38)) := Up.new.of (by simp)
    have hR5 := hR.alloc (.cells #[] 38)
    have hF5 : Frm (New w) w (w.alloc (.cells #[] 38)) := (Frm.refl _ w).alloc Up.new _
    have hun := flds.ht
    go_enter Tryz.func67, Tryz.ntmps67
    go_upto_region 3 with (fail)
    go_wp2_with (at_builtin; refine wpList_append flds rfl rfl rfl hA5 hu5 rfl hR5 (by rw [fvs_length]; omega) (fvs_one _) (by omega) ?_; intro A6 c6 w6 hA6 hF6 _ _; rw [Nat.zero_add, List.nil_append] at hA6; rw [Nat.zero_add])
    go_ret
    exact ⟨A6, c6, rfl, hA6, hF5.trans hF6⟩
/-- a message that is an answer, of blocks of the call's own -/
structure AnM (w0 w : World) (m : MV) (a : An) : Prop where
  min : MIn w m
  fs : m.fs = a.fs
  b : m.b = a.b
  ts : m.ts = a.ts
  n1 : fvs m.fs ≠ [] → ∀ k, blk m.A1 = some k → w0.heap.size ≤ k
  n2 : bvs m.b ≠ [] → ∀ k, blk m.A2 = some k → w0.heap.size ≤ k
  n3 : fvs m.ts ≠ [] → ∀ k, blk m.A3 = some k → w0.heap.size ≤ k
  frm : Frm (New w0) w0 w
theorem AnM.done {w w1 w2 w3 : World} {m : MV} {a : An} {g : Nat} (h : AnM w1 w2 m a) (f : Frm (New w) w w1) (hg : w.heap.size ≤ g) (hl : g < w1.heap.size) (F : Frm (· = g) w2 w3) : AnM w w3 m a := by
  have hs := f.size
  refine ⟨⟨h.min.r1.keep2 F (fun hn k hk e => ?_), h.min.r2.keep2 F (fun hn k hk e => ?_), h.min.r3.keep2 F (fun hn k hk e => ?_)⟩, h.fs, h.b, h.ts, fun hn k hk => ?_, fun hn k hk => ?_, fun hn k hk => ?_, (f.then_new Up.new h.frm).trans (F.mono (fun k hk => by subst hk; exact hg))⟩
  · have := h.n1 hn k hk; have e2 : k = g := e; omega
  · have := h.n2 hn k hk; have e2 : k = g := e; omega
  · have := h.n3 hn k hk; have e2 : k = g := e; omega
  · have := h.n1 hn k hk; omega
  · have := h.n2 hn k hk; omega
  · have := h.n3 hn k hk; omega
theorem AnM.later {w w1 w2 : World} {m : MV} {a : An} (h : AnM w1 w2 m a) (f : Frm (New w) w w1) : AnM w w2 m a := by
  have hs := f.size
  exact ⟨h.min, h.fs, h.b, h.ts, fun hn k hk => Nat.le_trans hs (h.n1 hn k hk), fun hn k hk => Nat.le_trans hs (h.n2 hn k hk), fun hn k hk => Nat.le_trans hs (h.n3 hn k hk), f.then_new Up.new h.frm⟩
def AnR (w : World) (a : An) (e : Ending) (w' : World) : Prop := ∃ m : MV, e = .returned (.agg m.cells) ∧ AnM w w' m a
theorem msg_one (A1 A2 A3 : Option Addr) (n1 n2 n3 c1 c2 c3 : Nat) : ∀ u ∈ #[Value.slice A1 n1 c1, Value.slice A2 n2 c2, Value.slice A3 n3 c3].toList, u.oneCell' = true := fun u hu => by
  simp only [List.mem_cons, List.not_mem_nil, or_false] at hu
  rcases hu with rfl | rfl | rfl <;> rfl
theorem zMsg : (Tryz.prog.info? 30).map (·.zero) = some (some (.agg #[.slice none 0 0, .slice none 0 0, .slice none 0 0])) := by kernel_rfl
set_option maxRecDepth 100000 in
set_option maxHeartbeats 4000000 in
theorem answer_any (st : Nat) (hst : st ≤ 999) (A : Option Addr) (c : Nat) (b : Bytes) (B : Option Addr) (d : Nat) (more : List Fld) (w : World) (hR : Rd w A (bvs b)) (hM : Rd w B (fvs more)) (hb : b.length ≤ 1099511627776) (hm : more.length ≤ 1099511627776) (hT : PT w) :
    Calls Tryz.prog 29 #[.int .i64 (st : Int), .slice A b.length c, .slice B more.length d] w (AnR w (ans st b more)) := by
  have hfr : ∀ (w : World) t cs, Frm (New w) w (w.alloc (.cells cs t)) := fun w t cs => (Frm.refl _ w).alloc Up.new _
  have HFR := Lib.hid hfr
  have HR := Lib.hid hR
  have HM := Lib.hid hM
  have HT := Lib.hid hT
  clear hfr hR hM hT
  go_enter Tryz.func29, Tryz.ntmps29
  go_upto_region 1 with (refine wpList_new rfl rfl zMsg rfl ?_; intro w1 hb1 hF1 hs1)
  obtain ⟨g, hg⟩ : ∃ g, g = w.heap.size := ⟨_, rfl⟩
  rw [← hg] at hb1 ⊢
  have hgl := hb1.lt
  have hgw : w.heap.size ≤ g := by omega
  have hT1 := HT.out.fresh hF1
  clear hg hs1
  have HB1 := Lib.hid hb1
  clear hb1
  go_wp2_with (fail)
  refine (itoa_dec st (by omega) _ hT1).mono ?_
  rintro e w2 ⟨rfl, hF2⟩
  have hT2 := hT1.fresh hF2
  go_wp2_with (fail)
  refine (itoa_dec b.length (by omega) _ hT2).mono ?_
  rintro e w3 ⟨rfl, hF3⟩
  have hF13 := hF2.then_new Up.new hF3
  have hb3 := HB1.out.fresh hF13
  have hF03 := hF1.then_new Up.new hF13
  have hA0 : App (New w3) (w3.alloc (.cells #[.string ⟨#[58, 115, 116, 97, 116, 117, 115]⟩, .string ⟨(decB st).toArray⟩, .string ⟨#[99, 111, 110, 116, 101, 110, 116, 45, 108, 101, 110, 103, 116, 104]⟩, .string ⟨(decB b.length).toArray⟩] 38)) 38 2 (some ⟨w3.heap.size, 0, none⟩) 2 2 (fvs [(bSt, decB st), (bCL, decB b.length)]) :=
    App.full (Rd.new w3 #[.string ⟨#[58, 115, 116, 97, 116, 117, 115]⟩, .string ⟨(decB st).toArray⟩, .string ⟨#[99, 111, 110, 116, 101, 110, 116, 45, 108, 101, 110, 103, 116, 104]⟩, .string ⟨(decB b.length).toArray⟩] 38) rfl (by decide) (fun c => by cases c) (fun k hk => by cases hk; exact Nat.le_refl _) (fun _ => ⟨w3.heap.size, 0, _, rfl, Blk.new w3 _ _, by simp, Nat.le_refl _⟩)
  have hF4 := HFR.out w3 38 #[.string ⟨#[58, 115, 116, 97, 116, 117, 115]⟩, .string ⟨(decB st).toArray⟩, .string ⟨#[99, 111, 110, 116, 101, 110, 116, 45, 108, 101, 110, 103, 116, 104]⟩, .string ⟨(decB b.length).toArray⟩]
  clear hT1 hT2 hF1 hF2 hF3 hF13 HB1 HT
  go_upto_region 2 with (fail)
  generalize w3.alloc (.cells #[.string ⟨#[58, 115, 116, 97, 116, 117, 115]⟩, .string ⟨(decB st).toArray⟩, .string ⟨#[99, 111, 110, 116, 101, 110, 116, 45, 108, 101, 110, 103, 116, 104]⟩, .string ⟨(decB b.length).toArray⟩] 38) = w4 at *
  obtain ⟨g3, hg3⟩ : ∃ g3, g3 = w3.heap.size := ⟨_, rfl⟩
  rw [← hg3] at hA0 ⊢
  clear hg3
  have hF04 := hF03.then_new Up.new hF4
  have hM4 := HM.out.fresh hF04
  have hU4 : Up (New w3) w4 := Up.new.frm hF4
  have hml : (fvs more).length = more.length * 2 := by rw [fvs_length]; omega
  have hcat : fvs [(bSt, decB st), (bCL, decB b.length)] ++ fvs more ++ [.string ⟨#[97, 108, 116, 45, 115, 118, 99]⟩, .string ⟨#[104, 51, 61, 34, 58, 52, 52, 51, 34]⟩] = fvs (ansF st b.length more) := by
    unfold ansF
    rw [fvs_append, fvs_append]
    rfl
  have hnl : 2 + more.length + 1 = (ansF st b.length more).length := by simp [ansF]; omega
  have HB3 := Lib.hid hb3
  have HA0 := Lib.hid hA0
  have HF04 := Lib.hid hF04
  have HM4 := Lib.hid hM4
  have HU4 := Lib.hid hU4
  have HML := Lib.hid hml
  have HCAT := Lib.hid hcat
  have HF4 := Lib.hid hF4
  have HNL := Lib.hid hnl
  have HF03 := Lib.hid hF03
  clear hb3 hA0 hF04 hM4 hU4 hml hcat hF4 hnl hF03
  have hcl := fun (w' : World) (f : Frm (New w) w w') => bclone_any A c b w' (HR.out.fresh f) hb
  have HCL := Lib.hid hcl
  clear hcl
  go_wp2_with (first
    | (at_builtin; refine wpList_append flds rfl rfl rfl HA0.out HU4.out rfl HM4.out HML.out (fvs_one _) (by omega) ?_; intro A5 c5 w5 hA5 hF5 _ _; have HA5 := Lib.hid hA5; have HF5 := Lib.hid hF5; have HU5 := Lib.hid (HU4.out.frm hF5); clear hA5 hF5)
    | (at_builtin; refine wpList_append_lit flds rfl rfl rfl HA5.out HU5.out rfl rfl (fld_one _ _) (by omega) ?_; intro A6 c6 w6 hA6 hF6 _ _; have HA6 := Lib.hid hA6; have hF36 : Frm (New w3) w3 w6 := HF4.out.trans (HF5.out.trans hF6); have HF36 := Lib.hid hF36; have HF6 := Lib.hid (HF03.out.then_new Up.new hF36); clear hA6 hF6 hF36)
    | (go_at_call 38; refine (HCL.out _ HF6.out).mono ?_; rintro e w7 ⟨A7, c7, rfl, hA7, hF7⟩; have HA7 := Lib.hid hA7; have HB7 := Lib.hid (HB3.out.fresh (HF36.out.then_new Up.new hF7)); have HF7 := Lib.hid hF7; clear hA7 hF7)
    | (refine wpList_store_agg rfl rfl rfl rfl HB7.out rfl (msg_one _ _ _ _ _ _ _ _ _) (by kernel_rfl) ?_; intro w8 hb8 hF8 hs8))
  refine bodyPost_ret (results_agg agM rfl rfl hb8 rfl) rfl ?_
  have hA6 := HA6.out
  rw [HCAT.out] at hA6
  have h3 := HF03.out.size
  have h6 := HF6.out.size
  refine ⟨⟨A6, c6, ansF st b.length more, A7, c7, b, none, 0, []⟩, by show _ = Ending.returned (.agg #[.slice A6 (ansF st b.length more).length c6, _, _]); rw [← HNL.out]; rfl, ⟨(hA6.rd.fresh HF7.out).keep2 hF8 (fun hn k hk e => ?_), HA7.out.rd.keep2 hF8 (fun hn k hk e => ?_), Rd.nil⟩, rfl, rfl, rfl, fun hn k hk => ?_, fun hn k hk => ?_, fun hn => absurd rfl hn, (HF6.out.then_new Up.new HF7.out).trans (hF8.mono (fun k hk => by subst hk; exact hgw))⟩
  · have h1 := hA6.inM k hk
    unfold New at h1
    have e2 : k = g := e
    have h4 := HB3.out.lt
    omega
  · have h1 := HA7.out.inM k hk
    unfold New at h1
    have e2 : k = g := e
    have h4 := HB3.out.lt
    have h5 := HF36.out.size
    omega
  · have h1 := hA6.inM k hk
    unfold New at h1
    omega
  · have h1 := HA7.out.inM k hk
    unfold New at h1
    omega
theorem none_any (w : World) (hT : PT w) : Calls Tryz.prog 53 #[] w (AnR w hNone) := by
  have hc := fun (w' : World) (f : Frm (New w) w w') => answer_any 404 (by decide) none 0 [] none 0 [] w' Rd.nil Rd.nil (Nat.zero_le _) (Nat.zero_le _) (hT.fresh f)
  simp only [List.length_nil] at hc
  have HC := Lib.hid hc
  clear hc
  go_enter Tryz.func53, Tryz.ntmps53
  go_wp2_with (first
    | (refine wpList_new rfl rfl zMsg rfl ?_; intro w1 hb1 hF1 hs1)
    | (go_at_call 29; refine (HC.out _ hF1).mono ?_; rintro e w2 ⟨m, rfl, hm⟩)
    | (refine wpList_store_agg rfl rfl rfl rfl (hb1.fresh hm.frm) rfl (msg_one _ _ _ _ _ _ _ _ _) (by kernel_rfl) ?_; intro w3 hb3 hF3 hs3))
  refine bodyPost_ret (results_agg agM rfl rfl hb3 rfl) rfl ?_
  exact ⟨m, rfl, hm.done hF1 (Nat.le_refl _) (by omega) hF3⟩
end Go.Proofs.YtpojejdddgdjdaaGreatDoor.M
