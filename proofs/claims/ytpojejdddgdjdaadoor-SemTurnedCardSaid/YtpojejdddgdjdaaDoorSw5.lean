/- SemTurned: the walk. No condition. -/
import Derived.BigQuiet
import Derived.Deep.RegionHeldLaw
import Derived.Deep.RegionHeld3
import Derived.Deep.CutBlock
import Derived.Lib.Hide
import Derived.IntWalk
import Derived.Test.YtpojejdddgdjdaaDoorSkn
import Derived.Test.YtpojejdddgdjdaaDoorSro
import Derived.Test.YtpojejdddgdjdaaDoorSrq
import Derived.Test.YtpojejdddgdjdaaDoorSlh
import Derived.Test.YtpojejdddgdjdaaDoorSar
import Derived.Test.YtpojejdddgdjdaaDoorSof
import Derived.Test.YtpojejdddgdjdaaDoorSom
import Derived.Test.YtpojejdddgdjdaaDoorSbp
import Derived.Test.YtpojejdddgdjdaaDoorReg
import Derived.Test.YtpojejdddgdjdaaDoorCut
namespace Go.Proofs.YtpojejdddgdjdaaDoor.M
open Go.ChangeShapes Go.WideShapes Go.ChangeAt Go.RowKit

theorem zMsg : (Tryd.prog.info? 25).map (·.zero) = some (some (.agg #[.slice none 0 0, .slice none 0 0, .slice none 0 0])) := by kernel_rfl
theorem msg_one (A1 A2 A3 : Option Addr) (n1 n2 n3 c1 c2 c3 : Nat) : ∀ u ∈ #[Value.slice A1 n1 c1, Value.slice A2 n2 c2, Value.slice A3 n3 c3].toList, u.oneCell' = true := fun u hu => by
  simp only [List.mem_cons, List.not_mem_nil, or_false] at hu
  rcases hu with rfl | rfl | rfl <;> rfl
theorem App.cutk {M : Nat → Prop} {w : World} {e size n c : Nat} {A : Option Addr} {xs : List Value} (h : App M w e size A n c xs) (k : Nat) (hk : k ≤ n) : App M w e size A k k (xs.take (k * size)) := by
  have hc := h.cap
  have hm := h.max
  refine ⟨?_, Nat.le_refl _, by omega, fun hA => by have := h.nil_ hA; omega, h.rd.take _, h.inM, fun h0 => ?_⟩
  · rw [List.length_take, h.len]
    exact Nat.min_eq_left (Nat.mul_le_mul_right _ hk)
  · obtain ⟨g, off, cur, h1, h2, h3, h4⟩ := h.own (by omega)
    have : k * size ≤ c * size := Nat.mul_le_mul_right _ (by omega)
    exact ⟨g, off, cur, h1, h2, by omega, h4⟩
theorem fvs_drop (l : List Fld) : ∀ k, fvs (l.drop k) = (fvs l).drop (k * 2) := by
  induction l with
  | nil => intro k; simp [fvs]
  | cons f r ih =>
    intro k
    cases k with
    | zero => simp
    | succ k =>
      rw [List.drop_succ_cons, ih k]
      show _ = List.drop ((k + 1) * 2) (str f.1 :: str f.2 :: fvs r)
      rw [show (k + 1) * 2 = k * 2 + 1 + 1 by omega, List.drop_succ_cons, List.drop_succ_cons]
theorem fvs_take (l : List Fld) (k : Nat) : fvs (l.take k) = (fvs l).take (k * 2) := by
  have h : fvs l = fvs (l.take k) ++ fvs (l.drop k) := by rw [← fvs_append, List.take_append_drop]
  have h2 : (fvs l).take (k * 2) ++ (fvs l).drop (k * 2) = fvs (l.take k) ++ (fvs l).drop (k * 2) := by
    rw [List.take_append_drop, ← fvs_drop, ← h]
  exact (List.append_cancel_right h2).symm
set_option maxRecDepth 100000 in
set_option maxHeartbeats 4000000 in
theorem turned_walk (r : RV) (f : Fld) (at_ : Int) (tr : Bool) (W : World) (hr : RArg W r) (hf : FldOk f) (hat : (Lit.int .u8 at_).wf = true) :
    Calls Tryd.prog 9 #[.agg r.cells, .agg #[str f.1, str f.2], .int .u8 at_, .bool tr] W fun e w' => e = .returned (.bool true) ∧ Below W.heap.size W w' := by
  have hat2 : 0 ≤ at_ ∧ at_ ≤ 255 := by
    simp only [Lit.wf, decide_eq_true_eq, Bool.and_eq_true] at hat; exact hat
  clear hat
  obtain ⟨at0, at1⟩ := hat2
  have hrd := hr.rd
  have ho1 := hr.o1
  have ho3 := hr.o3
  have hs1 := hr.s1
  have hs2 := hr.s2
  have hs3 := hr.s3
  have hs4 := hr.s4
  have hm1 := hr.m1
  have hm2 := hr.m2
  have hm3 := hr.m3
  unfold maxLen at hm1 hm2 hm3
  clear hr
  obtain ⟨me, sc, au, pa, A1, c1, fs, A2, c2, b, A3, c3, ts⟩ := r
  obtain ⟨fn, fv⟩ := f
  unfold FldOk at hf
  simp only at hf hs1 hs2 hs3 hs4 hm1 hm2 hm3
  obtain ⟨hf1, hf2⟩ := hf
  simp only [RV.cells, str]
  have hfr : ∀ (w : World) t cs, Frm (New w) w (w.alloc (.cells cs t)) := fun w t cs => (Frm.refl _ w).alloc Up.new _
  have hl1 : ∀ w', Frm (New W) W w' → Calls Tryd.prog 24 #[.slice A1 fs.length c1] w' fun e w2 => e = .returned (.bool (light fs)) ∧ ∃ n, w2 = w'.drewN n := fun w' h => light_any fs A1 c1 w' (hrd.r1.fresh h) ho1
  have hl3 : ∀ w', Frm (New W) W w' → Calls Tryd.prog 24 #[.slice A3 ts.length c3] w' fun e w2 => e = .returned (.bool (light ts)) ∧ ∃ n, w2 = w'.drewN n := fun w' h => light_any ts A3 c3 w' (hrd.r3.fresh h) ho3
  have hsz1 : light fs = true → fsizes fs ≤ 5240 ∧ fs.length ≤ 70 := light_size
  have hsz3 : light ts = true → fsizes ts ≤ 5240 ∧ ts.length ≤ 70 := light_size
  generalize light fs = lf at *
  generalize light ts = lt at *
  clear ho1 ho3
  obtain ⟨CR, hCR⟩ : ∃ CR, CR = (#[.string ⟨me.toArray⟩, .string ⟨sc.toArray⟩, .string ⟨au.toArray⟩, .string ⟨pa.toArray⟩, .slice A1 fs.length c1, .slice A2 b.length c2, .slice A3 ts.length c3] : Array Value) := ⟨_, rfl⟩
  have HFR := Lib.hid hfr
  have HRD := Lib.hid hrd
  have HL1 := Lib.hid hl1
  have HL3 := Lib.hid hl3
  have HSZ1 := Lib.hid hsz1
  have HSZ3 := Lib.hid hsz3
  clear hfr hrd hl1 hl3 hsz1 hsz3
  go_enter Tryd.func9, Tryd.ntmps9
  go_upto_region 1 with (fail)
  rw [← hCR]
  have hb1 := Blk.new W 29 CR
  have hF1 := HFR.out W 29 CR
  have hz1 : (W.alloc (.cells CR 29)).heap.size = W.heap.size + 1 := by simp
  generalize W.alloc (.cells CR 29) = w1 at *
  have hb2 := Blk.new w1 34 #[.string ⟨fn.toArray⟩, .string ⟨fv.toArray⟩]
  have hF2 := HFR.out w1 34 #[.string ⟨fn.toArray⟩, .string ⟨fv.toArray⟩]
  have hk := known_any (w1.alloc (.cells #[.string ⟨fn.toArray⟩, .string ⟨fv.toArray⟩] 34))
  generalize w1.alloc (.cells #[.string ⟨fn.toArray⟩, .string ⟨fv.toArray⟩] 34) = w2 at *
  have hb12 := hb1.fresh hF2
  have hF02 := hF1.then_new Up.new hF2
  rw [hCR] at hb12
  rw [hz1] at hb2
  obtain ⟨ba, hba⟩ : ∃ ba, ba = W.heap.size := ⟨_, rfl⟩
  rw [← hba] at hb12 hb2 ⊢
  obtain ⟨bf, hbf⟩ : ∃ bf, bf = ba + 1 := ⟨_, rfl⟩
  rw [← hbf] at hb2 ⊢
  have haf : ba < bf := by omega
  have HBA := Lib.hid hb12
  have HBF := Lib.hid hb2
  clear hb1 hF1 hF2 hz1 hb12 hb2 hbf hba hCR
  have HK := Lib.hid hk
  have HF02 := Lib.hid hF02
  clear hk hF02
  go_upto_region 3 with (go_at_call 11; refine HK.out.mono ?_; rintro e w3 ⟨rfl, hF3⟩)
  have hb13 := HBA.out.fresh hF3
  have hb23 := HBF.out.fresh hF3
  have hF03 := HF02.out.then_new Up.new hF3
  have hla := hb13.lt
  have hlb := hb23.lt
  have hc1 : ∀ n, Calls Tryd.prog 24 #[.slice A1 fs.length c1] (w3.drewN n) fun e w2 => e = .returned (.bool lf) ∧ ∃ n', w2 = (w3.drewN n).drewN n' := fun n => HL1.out _ (hF03.drewN n)
  have hc10 : Calls Tryd.prog 24 #[.slice A1 fs.length c1] w3 fun e w2 => e = .returned (.bool lf) ∧ ∃ n', w2 = w3.drewN n' := HL1.out _ hF03
  have hc3 : ∀ n, Calls Tryd.prog 24 #[.slice A3 ts.length c3] (w3.drewN n) fun e w2 => e = .returned (.bool lt) ∧ ∃ n', w2 = (w3.drewN n).drewN n' := fun n => HL3.out _ (hF03.drewN n)
  obtain ⟨⟨k0, k1, k2, k3, k4, k5, k6⟩, _⟩ := hb13.all7
  have j0 := hb23.cell 0
  have j1 := hb23.cell 1
  simp only [List.getElem?_toArray, List.getElem?_cons_zero, List.getElem?_cons_succ] at j0 j1
  clear hF3 HBA HBF HF02 HK HL1 HL3
  have HB13 := Lib.hid hb13
  have HB23 := Lib.hid hb23
  have HF03 := Lib.hid hF03
  have HC1 := Lib.hid hc1
  have HC10 := Lib.hid hc10
  have HC3 := Lib.hid hc3
  clear hb13 hb23 hF03 hc1 hc10 hc3
  by_cases q1 : (200 : Int) < (me.length : Int) + sc.length + au.length + pa.length
  · go_wp2_with (fail)
    go_ret
    exact ⟨rfl, HF03.out.below⟩
  cases lf with
  | false =>
    go_wp2_with (go_at_call 24; refine HC10.out.mono ?_; rintro e w4 ⟨rfl, d, rfl⟩)
    go_ret
    exact ⟨rfl, (HF03.out.drewN _).below⟩
  | true =>
  go_wp2_with (fail)
  refine HC10.out.mono ?_
  rintro e w4 ⟨rfl, d, rfl⟩
  cases lt with
  | false =>
    go_wp2_with (go_at_call 24; refine (HC3.out _).mono ?_; rintro e w4 ⟨rfl, d2, rfl⟩)
    go_ret
    exact ⟨rfl, by first | exact ((HF03.out.drewN _).drewN _).below | exact (HF03.out.drewN _).below⟩
  | true =>
  go_wp2_with (fail)
  refine (HC3.out _).mono ?_
  rintro e w4 ⟨rfl, d2, rfl⟩
  obtain ⟨w4, hw4⟩ : ∃ w4, w4 = (w3.drewN d).drewN d2 := ⟨_, rfl⟩
  have hF34 : Frm (New w3) w3 w4 := by rw [hw4]; exact ((Frm.refl _ w3).drewN d).drewN d2
  have hb14 := HB13.out.fresh hF34
  have hb24 := HB23.out.fresh hF34
  have hF04 := HF03.out.then_new Up.new hF34
  have hla4 := hb14.lt
  have hlb4 := hb24.lt
  rw [← hw4]
  clear hw4 hF34 k0 k1 k2 k3 k4 k5 k6 j0 j1 HB13 HB23 HF03 HC1 HC10 HC3 hla hlb
  obtain ⟨⟨k0, k1, k2, k3, k4, k5, k6⟩, _⟩ := hb14.all7
  have j0 := hb24.cell 0
  have j1 := hb24.cell 1
  simp only [List.getElem?_toArray, List.getElem?_cons_zero, List.getElem?_cons_succ] at j0 j1
  have HB14 := Lib.hid hb14
  have HB24 := Lib.hid hb24
  have HF04 := Lib.hid hF04
  clear hb14 hb24 hF04
  by_cases q2 : (20000 : Int) < b.length
  · go_wp2_with (fail)
    go_ret
    exact ⟨rfl, HF04.out.below⟩
  by_cases q3 : (200 : Int) < (fn.length : Int) + fv.length
  · go_wp2_with (fail)
    go_ret
    exact ⟨rfl, HF04.out.below⟩
  obtain ⟨z1, z2⟩ := HSZ1.out (by trivial)
  obtain ⟨z3, z4⟩ := HSZ3.out (by trivial)
  go_upto_region 5 with (fail)
  have hofc := of_any ⟨me, sc, au, pa, A1, c1, fs, A2, c2, b, A3, c3, ts⟩ w4 (HRD.out.fresh HF04.out) (by show fs.length ≤ _; omega) (by show b.length ≤ _; omega) (by show ts.length ≤ _; omega)
  simp only [RV.cells] at hofc
  have HOFC := Lib.hid hofc
  clear hofc
  go_upto_region 6 with (first
    | (refine wpList_load_agg agR rfl rfl rfl HB14.out rfl ?_)
    | (go_at_call 25; refine HOFC.out.mono ?_; intro e w5 hR; obtain ⟨o, rfl, hino, eo1, eo2, eo3, hF5, hao1, hao3⟩ := hR; simp only [MV.cells])
    | (refine wpList_new rfl rfl zMsg rfl ?_; intro w6 hb6 hF6 hs6)
    | (refine wpList_store_agg rfl rfl rfl rfl hb6 rfl (msg_one _ _ _ _ _ _ _ _ _) (by kernel_rfl) ?_; intro w7 hb7 hF7 hs7))
  obtain ⟨g9, hg9⟩ : ∃ g9, g9 = w5.heap.size := ⟨_, rfl⟩
  rw [← hg9] at hb7 hb6 hF7 ⊢
  have hF57 : Frm (New w5) w5 w7 := hF6.trans (hF7.mono (fun k hk => by subst hk; unfold New; omega))
  have hF47 := hF5.trans (hF57.mono (fun k hk => by have := hF5.size; unfold New at hk ⊢; omega))
  have hb17 := HB14.out.fresh hF47
  have hb27 := HB24.out.fresh hF47
  have hF07 := HF04.out.then_new Up.new hF47
  have hino7 := hino.fresh hF57
  have hap1 := hao1.fresh hF57
  have hap3 := hao3.fresh hF57
  have hg9w : w4.heap.size ≤ g9 := by have := hF5.size; omega
  have hW4 := HF04.out.size
  have hr7 : RIn w7 ⟨me, sc, au, pa, A1, c1, fs, A2, c2, b, A3, c3, ts⟩ := HRD.out.fresh hF07
  have hne1 : fvs o.fs ≠ [] → ∀ q, blk o.A1 = some q → q ≠ g9 := fun hn q hq e => by have := hino.r1.blk_lt hn hq; omega
  have hne2 : bvs o.b ≠ [] → ∀ q, blk o.A2 = some q → q ≠ g9 := fun hn q hq e => by have := hino.r2.blk_lt hn hq; omega
  have hne3 : fvs o.ts ≠ [] → ∀ q, blk o.A3 = some q → q ≠ g9 := fun hn q hq e => by have := hino.r3.blk_lt hn hq; omega
  have HB7 := Lib.hid hb7
  clear hb7 hg9 hb6 hF6 hs6 hF7 hs7 hF57 hF47 hF5 hino hao1 hao3 HB14 HB24 HF04 HOFC k0 k1 k2 k3 k4 k5 k6 j0 j1 hla4 hlb4
  have hst : ∀ w', Frm (New w7) w7 w' → w'.cell? ⟨g9, 0, none⟩ = some (.slice o.A1 o.fs.length o.c1) ∧ w'.cell? ⟨g9, 1, none⟩ = some (.slice o.A2 o.b.length o.c2) ∧ w'.cell? ⟨g9, 2, none⟩ = some (.slice o.A3 o.ts.length o.c3) ∧ w'.cell? ⟨ba, 0, none⟩ = some (.string ⟨me.toArray⟩) ∧ w'.cell? ⟨ba, 1, none⟩ = some (.string ⟨sc.toArray⟩) ∧ w'.cell? ⟨ba, 2, none⟩ = some (.string ⟨au.toArray⟩) ∧ w'.cell? ⟨ba, 3, none⟩ = some (.string ⟨pa.toArray⟩) ∧ w'.cell? ⟨ba, 4, none⟩ = some (.slice A1 fs.length c1) ∧ w'.cell? ⟨ba, 5, none⟩ = some (.slice A2 b.length c2) ∧ w'.cell? ⟨ba, 6, none⟩ = some (.slice A3 ts.length c3) := fun w' h => ⟨(HB7.out.fresh h).cell 0, (HB7.out.fresh h).cell 1, (HB7.out.fresh h).cell 2, (hb17.fresh h).cell 0, (hb17.fresh h).cell 1, (hb17.fresh h).cell 2, (hb17.fresh h).cell 3, (hb17.fresh h).cell 4, (hb17.fresh h).cell 5, (hb17.fresh h).cell 6⟩
  have HS0 := Lib.hid (hst w7 (Frm.refl _ _))
  have hlt9 := HB7.out.lt
  have hlta := hb17.lt
  have hrm : ∀ w', Frm (New w7) w7 w' → Calls Tryd.prog 27 #[.agg #[.string ⟨me.toArray⟩, .string ⟨sc.toArray⟩, .string ⟨au.toArray⟩, .string ⟨pa.toArray⟩, .slice A1 fs.length c1, .slice A2 b.length c2, .slice A3 ts.length c3]] w' (OfR w' ⟨me, sc, au, pa, A1, c1, fs, A2, c2, b, A3, c3, ts⟩) := fun w' h => rmessage_any ⟨me, sc, au, pa, A1, c1, fs, A2, c2, b, A3, c3, ts⟩ w' (hr7.fresh h) (by show fs.length ≤ _; omega) (by show b.length ≤ _; omega) (by show ts.length ≤ _; omega)
  have hlo : o.fs.length ≤ 74 := by
    rw [eo1]
    unfold ofL
    simp only [List.length_append, List.length_cons, List.length_nil]
    have : (auL au).length ≤ 1 := by cases au <;> simp [auL]
    show 0 + 1 + 1 + (auL au).length + (0 + 1) + fs.length ≤ 74
    omega
  have hlo3 : o.ts.length ≤ 70 := by rw [eo3]; exact z4
  have hoz3 : fsizes o.ts ≤ 4503599627381752 := by rw [eo3]; show fsizes ts ≤ _; omega
  have hoz1 : fsizes o.fs ≤ 4503599627381752 := by
    rw [eo1]
    have happ : ∀ a b : List Fld, fsizes (a ++ b) = fsizes a + fsizes b := fun a b => by unfold fsizes; rw [List.map_append, List.sum_append]
    unfold ofL
    rw [happ, happ, happ]
    have e1 : fsizes [(bMe, me), (bSc, sc)] = (7 + me.length + 32) + (7 + sc.length + 32) := by simp [fsizes, fsize, bMe, bSc]
    have e2 : fsizes [(bPa, pa)] = 5 + pa.length + 32 := by simp [fsizes, fsize, bPa]
    have e3 : fsizes (auL au) ≤ 10 + au.length + 32 := by
      cases au with
      | nil => simp [auL, fsizes]
      | cons c t => simp [auL, fsizes, fsize, bAu]
    show fsizes [(bMe, me), (bSc, sc)] + fsizes (auL au) + fsizes [(bPa, pa)] + fsizes fs ≤ _
    omega
  have hg9W : W.heap.size ≤ g9 := by omega
  have EO1 := Lib.hid eo1
  have EO2 := Lib.hid eo2
  have EO3 := Lib.hid eo3
  have HNE1 := Lib.hid hne1
  have HNE2 := Lib.hid hne2
  have HNE3 := Lib.hid hne3
  have HST := Lib.hid hst
  have HB17 := Lib.hid hb17
  have HB27 := Lib.hid hb27
  have HF07 := Lib.hid hF07
  have HINO7 := Lib.hid hino7
  have HAP1 := Lib.hid hap1
  have HAP3 := Lib.hid hap3
  have HR7 := Lib.hid hr7
  have HRM := Lib.hid hrm
  clear eo1 eo2 eo3 hne1 hne2 hne3 hst hb17 hb27 hF07 hino7 hap1 hap3 hr7 hrm
  simp only [Act.put, List.setIfInBounds_toArray, List.set_cons_zero, List.set_cons_succ]
  go_cut [8, 68] from 69 (fun v8 v68 w' => v8 = .bool false ∧ v68 = .bool false ∧ Hid (Frm (New w7) w7 w'))
  case first =>
    go_region_held3 (fun w' => w'.cell? ⟨g9, 0, none⟩ = some (.slice o.A1 o.fs.length o.c1) ∧ w'.cell? ⟨g9, 1, none⟩ = some (.slice o.A2 o.b.length o.c2) ∧ w'.cell? ⟨g9, 2, none⟩ = some (.slice o.A3 o.ts.length o.c3) ∧ w'.cell? ⟨ba, 0, none⟩ = some (.string ⟨me.toArray⟩) ∧ w'.cell? ⟨ba, 1, none⟩ = some (.string ⟨sc.toArray⟩) ∧ w'.cell? ⟨ba, 2, none⟩ = some (.string ⟨au.toArray⟩) ∧ w'.cell? ⟨ba, 3, none⟩ = some (.string ⟨pa.toArray⟩) ∧ w'.cell? ⟨ba, 4, none⟩ = some (.slice A1 fs.length c1) ∧ w'.cell? ⟨ba, 5, none⟩ = some (.slice A2 b.length c2) ∧ w'.cell? ⟨ba, 6, none⟩ = some (.slice A3 ts.length c3))
      (first
        | exact HS9.out
        | exact HS8.out
        | exact HS0.out)
      (first
        | (go_at_call 27
           refine (HRM.out _ (by first | exact (Frm.refl (New w7) w7).drew | exact Frm.refl (New w7) w7)).mono ?_
           intro e w8 hR
           obtain ⟨o2, rfl, hin2, g1, g2, g3, hF8⟩ := hR
           have G1 := Lib.hid g1; have G2 := Lib.hid g2; have G3 := Lib.hid g3
           clear g1 g2 g3
           have HF8 : Hid (Frm (New w7) w7 w8) := Lib.hid (Frm.trans ((Frm.refl (New w7) w7).drew) hF8)
           have HS8 := Lib.hid (HST.out _ HF8.out)
           clear hF8)
        | (go_at_call 26
           refine (hmessage_eq o o2 _ (HINO7.out.fresh HF8.out) hin2 (G1.out.trans EO1.out.symm) (G2.out.trans EO2.out.symm) (G3.out.trans EO3.out.symm) (by omega) (by omega)).mono ?_
           rintro e w9 ⟨rfl, hF9⟩
           have HF9 : Hid (Frm (New w7) w7 w9) := Lib.hid (HF8.out.then_new Up.new hF9)
           have HS9 := Lib.hid (HST.out _ HF9.out)
           clear hF9)
        | fail)
    all_goals go_wp2_with (fail)
    all_goals go_meet
    all_goals exact ⟨rfl, rfl, HF9⟩
  case rest =>
    obtain ⟨rfl, rfl, hF78⟩ := hcut
    rename World => w8
    have hb9 := HB7.out.fresh hF78.out
    have hb28 := HB27.out.fresh hF78.out
    have hF08 := HF07.out.then_new Up.new hF78.out
    have hin8 := HINO7.out.fresh hF78.out
    have hap1 := HAP1.out.fresh hF78.out
    have hap3 := HAP3.out.fresh hF78.out
    clear hF78 HST HS0 HRM HR7 HB7 HB17 HB27 HF07 HINO7 HAP1 HAP3 hlt9 hlta
    have HB9 := Lib.hid hb9
    have HB28 := Lib.hid hb28
    have HF08 := Lib.hid hF08
    have HIN8 := Lib.hid hin8
    have HAP1 := Lib.hid hap1
    have HAP3 := Lib.hid hap3
    clear hb9 hb28 hF08 hin8 hap1 hap3
    go_upto_if 70 with (fail)
    obtain ⟨qi, hqi⟩ : ∃ qi : Nat, qi = if tr then 2 else 0 := ⟨_, rfl⟩
    go_cut [10] from 71 (fun v10 w' => w' = w8 ∧ v10 = .pointer (some ⟨g9, qi, none⟩))
    case first =>
      cases tr with
      | true =>
        have hqi2 : qi = 2 := hqi
        clear hqi
        subst hqi2
        go_wp2_with (fail)
        go_meet
        exact ⟨rfl, rfl⟩
      | false =>
        have hqi2 : qi = 0 := hqi
        clear hqi
        subst hqi2
        go_wp2_with (fail)
        go_meet
        exact ⟨rfl, rfl⟩
    case rest =>
      obtain ⟨rfl, rfl⟩ := hcut
      rename World => w8
      -- the list that is turned
      obtain ⟨L, A, c, hcell, hfrz, hApp, hLn, hLq⟩ : ∃ (L : List Fld) (A : Option Addr) (c : Nat), w8.cell? ⟨g9, qi, none⟩ = some (.slice A L.length c) ∧ w8.frozen? ⟨g9, qi, none⟩ = false ∧ App (New w4) w8 34 2 A L.length c (fvs L) ∧ L.length ≤ 74 ∧ ((qi = 2 ∧ L = o.ts) ∨ (qi = 0 ∧ L = o.fs)) := by
        rw [hqi]
        cases tr with
        | true => exact ⟨o.ts, o.A3, o.c3, HB9.out.cell 2, HB9.out.frozen 2, HAP3.out, by omega, .inl ⟨rfl, rfl⟩⟩
        | false => exact ⟨o.fs, o.A1, o.c1, HB9.out.cell 0, HB9.out.frozen 0, HAP1.out, hlo, .inr ⟨rfl, rfl⟩⟩
      obtain ⟨k, hk⟩ : ∃ k : Nat, (k : Int) = at_ % ((L.length : Int) + 1) := ⟨(at_ % ((L.length : Int) + 1)).toNat, by have := Int.emod_nonneg at_ (show (L.length : Int) + 1 ≠ 0 by omega); omega⟩
      have hkl : k ≤ L.length := by
        have := Int.emod_lt_of_pos at_ (show (0 : Int) < (L.length : Int) + 1 by omega)
        omega
      have hg9l := HB9.out.lt
      have htm : Int.tmod at_ ((L.length : Int) + 1) = (k : Int) := by rw [hk]; exact Int.tmod_eq_emod_of_nonneg at0
      have HK := Lib.hid hk
      have HQI := Lib.hid hqi
      have HAPP := Lib.hid hApp
      clear hk hqi hApp
      go_upto_region 12 with (fail)
      have hbfl := HB28.out.lt
      have hkc : k ≤ c := Nat.le_trans hkl HAPP.out.cap
      have hkci : (k : Int) ≤ (c : Int) := by omega
      have hkli : (k : Int) ≤ (L.length : Int) := by omega
      have j0 := HB28.out.cell 0
      have j1 := HB28.out.cell 1
      simp only [List.getElem?_toArray, List.getElem?_cons_zero, List.getElem?_cons_succ] at j0 j1
      have hSw8 : ∀ w', Frm (New w8) w8 w' → w'.cell? ⟨g9, qi, none⟩ = some (.slice A L.length c) ∧ w'.cell? ⟨bf, 0, none⟩ = some (.string ⟨fn.toArray⟩) ∧ w'.cell? ⟨bf, 1, none⟩ = some (.string ⟨fv.toArray⟩) := fun w' h => ⟨by rw [h.cell (p := ⟨g9, qi, none⟩) (by show ¬ (w8.heap.size ≤ g9); omega)]; exact hcell, (HB28.out.fresh h).cell 0, (HB28.out.fresh h).cell 1⟩
      have hS0 := hSw8 w8.drew ((Frm.refl (New w8) w8).drew)
      refine wp_region_til (by kernel_rfl) (fun w' => w'.cell? ⟨g9, qi, none⟩ = some (.slice A L.length c) ∧ w'.cell? ⟨bf, 0, none⟩ = some (.string ⟨fn.toArray⟩) ∧ w'.cell? ⟨bf, 1, none⟩ = some (.string ⟨fv.toArray⟩)) 17 ?_
      refine wpAnyT_take (i := 0) (v := ?_) (d := some 80) rfl (by rfl) (by kernel_rfl) (fun _ _ _ h => h) (by rfl) hS0 (fun w hSw => ?_) ?_
      rotate_left
      · (try dsimp only at hSw); go_simp; first | done | (with_reducible rfl)
      simp only [Act.put, List.setIfInBounds_toArray, List.set_cons_zero, List.set_cons_succ]
      refine wpAnyT_take (i := 1) (v := ?_) (d := some 81) rfl (by rfl) (by kernel_rfl) (fun _ _ _ h => h) (by rfl) hS0 (fun w hSw => ?_) ?_
      rotate_left
      · (try dsimp only at hSw); go_simp; first | done | (with_reducible rfl)
      simp only [Act.put, List.setIfInBounds_toArray, List.set_cons_zero, List.set_cons_succ]
      refine wpAnyT_take (i := 2) (v := ?_) (d := some 82) rfl (by rfl) (by kernel_rfl) (fun _ _ _ h => h) (by rfl) hS0 (fun w hSw => ?_) ?_
      rotate_left
      · (try dsimp only at hSw); go_simp; first | done | (with_reducible rfl)
      simp only [Act.put, List.setIfInBounds_toArray, List.set_cons_zero, List.set_cons_succ]
      refine wpAnyT_take (i := 3) (v := ?_) (d := some 83) rfl (by rfl) (by kernel_rfl) (fun _ _ _ h => h) (by rfl) hS0 (fun w hSw => ?_) ?_
      rotate_left
      · (try dsimp only at hSw); go_simp; first | done | (with_reducible rfl)
      simp only [Act.put, List.setIfInBounds_toArray, List.set_cons_zero, List.set_cons_succ]
      refine wpAnyT_take (i := 4) (v := ?_) (d := some 84) rfl (by rfl) (by kernel_rfl) (fun _ _ _ h => h) (by rfl) hS0 (fun w hSw => ?_) ?_
      rotate_left
      · (try dsimp only at hSw); go_simp; first | done | (with_reducible rfl)
      simp only [Act.put, List.setIfInBounds_toArray, List.set_cons_zero, List.set_cons_succ]
      refine wpAnyT_take (i := 5) (v := ?_) (d := some 85) rfl (by rfl) (by kernel_rfl) (fun _ _ _ h => h) (by rfl) hS0 (fun w hSw => ?_) ?_
      rotate_left
      · (try dsimp only at hSw); go_simp; first | done | (with_reducible rfl)
      simp only [Act.put, List.setIfInBounds_toArray, List.set_cons_zero, List.set_cons_succ]
      refine wpAnyT_take (i := 6) (v := ?_) (d := some 86) rfl (by rfl) (by kernel_rfl) (fun _ _ _ h => h) (by rfl) hS0 (fun w hSw => ?_) ?_
      rotate_left
      · (try dsimp only at hSw); go_simp; first | done | (with_reducible rfl)
      simp only [Act.put, List.setIfInBounds_toArray, List.set_cons_zero, List.set_cons_succ]
      refine wpAnyT_take (i := 7) (v := ?_) (d := some 87) rfl (by rfl) (by kernel_rfl) (fun _ _ _ h => h) (by rfl) hS0 (fun w hSw => ?_) ?_
      rotate_left
      · (try dsimp only at hSw); go_simp; first | done | (with_reducible rfl)
      simp only [Act.put, List.setIfInBounds_toArray, List.set_cons_zero, List.set_cons_succ]
      refine wpAnyT_take (i := 9) (v := ?_) (d := some 89) rfl (by rfl) (by kernel_rfl) (fun _ _ _ h => h) (by rfl) hS0 (fun w hSw => ?_) ?_
      rotate_left
      · (try dsimp only at hSw); go_simp; first | done | (with_reducible rfl)
      simp only [Act.put, List.setIfInBounds_toArray, List.set_cons_zero, List.set_cons_succ]
      refine wpAnyT_take (i := 10) (v := ?_) (d := some 90) rfl (by rfl) (by kernel_rfl) (fun _ _ _ h => h) (by rfl) hS0 (fun w hSw => ?_) ?_
      rotate_left
      · (try dsimp only at hSw); go_simp; first | done | (with_reducible rfl)
      simp only [Act.put, List.setIfInBounds_toArray, List.set_cons_zero, List.set_cons_succ]
      refine wpAnyT_take (i := 11) (v := ?_) (d := some 91) rfl (by rfl) (by kernel_rfl) (fun _ _ _ h => h) (by rfl) hS0 (fun w hSw => ?_) ?_
      rotate_left
      · (try dsimp only at hSw); go_simp; first | done | (with_reducible rfl)
      simp only [Act.put, List.setIfInBounds_toArray, List.set_cons_zero, List.set_cons_succ]
      refine wpAnyT_take (i := 12) (v := ?_) (d := some 92) rfl (by rfl) (by kernel_rfl) (fun _ _ _ h => h) (by rfl) hS0 (fun w hSw => ?_) ?_
      rotate_left
      · (try dsimp only at hSw); go_simp; first | done | (with_reducible rfl)
      simp only [Act.put, List.setIfInBounds_toArray, List.set_cons_zero, List.set_cons_succ]
      refine wpAnyT_take (i := 13) (v := ?_) (d := some 93) rfl (by rfl) (by kernel_rfl) (fun _ _ _ h => h) (by rfl) hS0 (fun w hSw => ?_) ?_
      rotate_left
      · (try dsimp only at hSw); go_simp; first | done | (with_reducible rfl)
      simp only [Act.put, List.setIfInBounds_toArray, List.set_cons_zero, List.set_cons_succ]
      have hF81 : Frm (New w8) w8 (w8.alloc (.cells #[.string ⟨fn.toArray⟩, .string ⟨fv.toArray⟩] 34)).drew := ((Frm.refl (New w8) w8).alloc Up.new _).drew
      refine wpAnyT_one (i := 8) rfl (by kernel_rfl) (fun K hK => ?_)
      go_simp
      refine hK.out _ _ (.inr ((hSw8 _ hF81))) ?_
      clear hK K
      have hlit : App (New w8) (w8.alloc (.cells #[.string ⟨fn.toArray⟩, .string ⟨fv.toArray⟩] 34)).drew 34 2 (some ⟨w8.heap.size, 0, none⟩) 1 1 (fvs [(fn, fv)]) :=
        (App.full (Rd.new w8 #[.string ⟨fn.toArray⟩, .string ⟨fv.toArray⟩] 34) rfl (by decide) (fun c => by cases c) (fun q hq => by simp at hq; show w8.heap.size ≤ q; omega) (fun _ => ⟨_, 0, _, rfl, heap_alloc_new w8 _, by simp, Nat.le_refl _⟩)).drew
      have hdrop : Rd (w8.alloc (.cells #[.string ⟨fn.toArray⟩, .string ⟨fv.toArray⟩] 34)).drew (if c = k then A else A.map (·.add (k * 2))) (fvs (L.drop k)) := by
        rw [fvs_drop]
        exact cut_rd (n := L.length) (HAPP.out.rd.fresh hF81) (by rw [fvs_length]; omega) HAPP.out.cap k
      have hcut0 : App (fun q => New w8 q ∨ blk A = some q) w8 34 2 A k k (fvs (L.take k)) := by
        rw [fvs_take]
        have h := HAPP.out.cutk k hkl
        refine ⟨h.len, h.cap, h.max, h.nil_, h.rd, fun q hq => .inr hq, fun h0 => ?_⟩
        obtain ⟨g, off, cur, e1, e2, e3, _⟩ := h.own h0
        exact ⟨g, off, cur, e1, e2, e3, .inr (by rw [e1]; rfl)⟩
      have hbytes1 : (1 + (L.length - k)) * 32 ≤ 140737488355328 := by omega
      have hbytes2 : (k + (1 + (L.length - k))) * 32 ≤ 140737488355328 := by omega
      have HLIT := Lib.hid hlit
      have HDROP := Lib.hid hdrop
      have HCUT0 := Lib.hid hcut0
      have HSW8 := Lib.hid hSw8
      clear hlit hdrop hcut0 hSw8
      refine wpAnyT_one (i := 14) rfl (by kernel_rfl) (fun K hK => ?_)
      (refine step_append2 (M := New w8) (A := some ⟨w8.heap.size, 0, none⟩) (n := 1) (c := 1) (xs := fvs [(fn, fv)]) (news := fvs (L.drop k)) flds rfl rfl rfl HLIT.out (Up.new.frm hF81) rfl HDROP.out (by rw [fvs_length, List.length_drop]; omega) (fvs_one _) hbytes1 ?_; intro A5 c5 w5 hA5 hF5 _ _)
      refine hK.out _ _ (.inr ((HSW8.out _ (hF81.trans hF5)))) ?_
      clear hK K
      have hF85 := hF81.trans hF5
      have hnews : Rd w5 A5 (fvs ((fn, fv) :: L.drop k)) := by
        have h := hA5.rd
        rw [← fvs_append] at h
        exact h
      have hS5 := HSW8.out _ hF85
      have hcut5 := HCUT0.out.fresh hF85
      have HNEWS := Lib.hid hnews
      have HCUT5 := Lib.hid hcut5
      have HF85 := Lib.hid hF85
      clear hnews hcut5 hF85
      clear hA5 hF5
      refine wpAnyT_one (i := 15) rfl (by kernel_rfl) (fun K hK => ?_)
      (refine step_append2 (M := fun q => New w8 q ∨ blk A = some q) (A := A) (n := k) (c := k) (xs := fvs (L.take k)) (news := fvs ((fn, fv) :: L.drop k)) flds rfl rfl rfl HCUT5.out (fun q hq => .inl (Nat.le_trans HF85.out.size hq)) rfl HNEWS.out (by rw [fvs_length, List.length_cons, List.length_drop]; omega) (fvs_one _) hbytes2 ?_; intro A6 c6 w6 hA6 _ hdis hW6; have hF56 : Frm (New w5) w5 w6 := hW6.mono (fun q hq => by rcases hq with h | h; exact h; exact absurd h.1 (by omega)))
      refine hK.out _ _ (.inr ((HSW8.out _ (HF85.out.then_new Up.new hF56)))) ?_
      clear hK K
      have hF86 := HF85.out.then_new Up.new hF56
      have hS6 := HSW8.out _ hF86
      have hd6 := hS6.1
      have hz6 : w6.frozen? ⟨g9, qi, none⟩ = false := by rw [hF86.frozen (p := ⟨g9, qi, none⟩) (by show ¬ (w8.heap.size ≤ g9); omega)]; exact hfrz
      have hg6 : g9 < w6.heap.size := by have := hF86.size; omega
      have hb96 := HB9.out.fresh hF86
      have hin6 := HIN8.out.fresh hF86
      have hF06 := HF08.out.then_new Up.new hF86
      have hA6b : blk A6 = some w5.heap.size := by
        rcases hdis with h | h
        · have := hA6.cap; omega
        · exact h.1
      have hA6ne : ∀ q, blk A6 = some q → q ≠ g9 := fun q hq e => by
        rw [hA6b] at hq
        have h := HF85.out.size
        simp only [Option.some.injEq] at hq
        omega
      have hRN : Rd w6 A6 (fvs (L.take k ++ (fn, fv) :: L.drop k)) := by
        have h := hA6.rd
        rw [← fvs_append] at h
        exact h
      have hlN : k + (1 + (L.length - k)) = (L.take k ++ (fn, fv) :: L.drop k).length := by
        rw [List.length_append, List.length_take, List.length_cons, List.length_drop]; omega
      have hlN2 : (L.take k ++ (fn, fv) :: L.drop k).length ≤ 75 := by
        rw [List.length_append, List.length_take, List.length_cons, List.length_drop]; omega
      have hfN : fsizes (L.take k ++ (fn, fv) :: L.drop k) = fsizes L + fsize (fn, fv) := by
        have happ : ∀ a b : List Fld, fsizes (a ++ b) = fsizes a + fsizes b := fun a b => by unfold fsizes; rw [List.map_append, List.sum_append]
        have h1 := happ (L.take k) (L.drop k)
        rw [List.take_append_drop] at h1
        have h2 := happ [(fn, fv)] (L.drop k)
        have h3 : fsizes [(fn, fv)] = fsize (fn, fv) := by simp [fsizes]
        rw [happ, show (fn, fv) :: L.drop k = [(fn, fv)] ++ L.drop k from rfl, h2, h3]
        omega
      clear hF86 hF56 hW6 hdis hA6 hcell hfrz hS5 hS0 j0 j1 HLIT HDROP HCUT0 HCUT5 HNEWS HSW8 hbytes1 hbytes2 hA6b HAPP hF81 HF85 hkci hkli hkc
      have HB96 := Lib.hid hb96
      have HIN6 := Lib.hid hin6
      have HF06 := Lib.hid hF06
      have HA6NE := Lib.hid hA6ne
      have HRN := Lib.hid hRN
      have HFN := Lib.hid hfN
      have HLN := Lib.hid hlN
      clear hb96 hin6 hF06 hA6ne hRN hfN hlN
      refine wpAnyT_one (i := 16) rfl (by kernel_rfl) (fun K hK => ?_)
      go_simp
      refine hK.out _ _ (.inr (hS6)) ?_
      clear hK K
      refine wpAnyT_one (i := 17) rfl (by kernel_rfl) (fun K hK => ?_)
      go_simp
      refine hK.out _ _ (.inl (by kernel_rfl)) ?_
      clear hK K
      refine wpAnyT_done (by kernel_rfl) ?_ _
      clear hd6 hz6 hS6
      first
        | rw [HLN.out]
        | rw [show k + (L.length - k + 1) = k + (1 + (L.length - k)) by omega, HLN.out]
      have hset : Frm (fun q => q = g9) w6 (w6.setCell ⟨g9, qi, none⟩ (.slice A6 (L.take k ++ (fn, fv) :: L.drop k).length c6)) := Frm.setCell (M := fun q => q = g9) (Frm.refl _ w6) (p := ⟨g9, qi, none⟩) rfl _
      have hbs := HB96.out.set_ qi (.slice A6 (L.take k ++ (fn, fv) :: L.drop k).length c6)
      have hRN7 := HRN.out.keep hset (fun q hq e => HA6NE.out q hq e)
      have hr1 := HIN6.out.r1.keep2 hset (fun hn q hq e => HNE1.out hn q hq e)
      have hr2 := HIN6.out.r2.keep2 hset (fun hn q hq e => HNE2.out hn q hq e)
      have hr3 := HIN6.out.r3.keep2 hset (fun hn q hq e => HNE3.out hn q hq e)
      have hF07 : Frm (New W) W (w6.setCell ⟨g9, qi, none⟩ (.slice A6 (L.take k ++ (fn, fv) :: L.drop k).length c6)) := HF06.out.trans (hset.mono (fun q hq => by subst hq; exact hg9W))
      have hLsz : fsizes L ≤ 4503599627381752 := by
        rcases hLq with ⟨_, h⟩ | ⟨_, h⟩
        · rw [h]; exact hoz3
        · rw [h]; exact hoz1
      have hfN2 := HFN.out
      have hffs : fsize (fn, fv) = fn.length + fv.length + 32 := rfl
      have hLor2 : (qi = 2 ∧ L = o.ts) ∨ (qi = 0 ∧ L = o.fs) := hLq
      generalize L.take k ++ (fn, fv) :: L.drop k = N at *
      generalize w6.setCell ⟨g9, qi, none⟩ (.slice A6 N.length c6) = w7 at *
      obtain ⟨m', hbm', hin', hsz', hbl', htl', hfl'⟩ : ∃ m' : MV, Blk w7 g9 25 m'.cells ∧ MIn w7 m' ∧ MSz m' ∧ m'.b.length ≤ 20000 ∧ m'.ts.length ≤ 100 ∧ m'.fs.length ≤ 100 := by
        have hob : o.b.length ≤ 20000 := by rw [EO2.out]; show b.length ≤ _; omega
        rcases hLor2 with ⟨rfl, _⟩ | ⟨rfl, _⟩
        · exact ⟨⟨o.A1, o.c1, o.fs, o.A2, o.c2, o.b, A6, c6, N⟩, hbs, ⟨hr1, hr2, hRN7⟩, ⟨by show fsizes o.fs ≤ _; omega, by show o.fs.length ≤ _; omega, by show fsizes N ≤ _; omega, by show N.length ≤ _; omega, by show o.b.length ≤ _; omega⟩, hob, by show N.length ≤ _; omega, by show o.fs.length ≤ _; omega⟩
        · exact ⟨⟨A6, c6, N, o.A2, o.c2, o.b, o.A3, o.c3, o.ts⟩, hbs, ⟨hRN7, hr2, hr3⟩, ⟨by show fsizes N ≤ _; omega, by show N.length ≤ _; omega, by show fsizes o.ts ≤ _; omega, by show o.ts.length ≤ _; omega, by show o.b.length ≤ _; omega⟩, hob, by show o.ts.length ≤ _; omega, by show N.length ≤ _; omega⟩
      clear hset hbs hRN7 hr1 hr2 hr3 hLsz hfN2 HFN HRN HA6NE HNE1 HNE2 HNE3 HIN6 HB96 HF06 hLor2 hLq HB9 HIN8 HAP1 HAP3 EO1 EO2 EO3 HB28
      have hreq : ∀ w', Frm (New w7) w7 w' → Calls Tryd.prog 13 #[.agg m'.cells] w' (RqR w' m') := fun w' h => request_any m' w' (hin'.fresh h) hsz' (by omega) (by omega)
      have hof : ∀ w', Frm (New w7) w7 w' → Calls Tryd.prog 14 #[.agg m'.cells] w' (RqR w' m') := fun w' h => rof_any m' w' (hin'.fresh h) hsz'
      have hln : (rq m').fs.length ≤ 100 ∧ (rq m').ts.length ≤ 100 := by
        unfold rq
        split
        · refine ⟨?_, htl'⟩
          have e : spS m'.fs ++ spR m'.fs = m'.fs := sp_app _
          have := congrArg List.length e
          rw [List.length_append] at this
          show (spR m'.fs).length ≤ 100
          omega
        · exact ⟨by decide, by decide⟩
      obtain ⟨ln1, ln3⟩ := hln
      obtain ⟨x1, x2, x3, hx⟩ : ∃ x1 x2 x3, m'.cells = #[x1, x2, x3] := ⟨_, _, _, rfl⟩
      rw [hx] at hreq hof hbm'
      clear hin' hsz' hbl' htl' hfl' hx
      have HREQ := Lib.hid hreq
      have HOF := Lib.hid hof
      have HBX := Lib.hid hbm'
      have HF07 := Lib.hid hF07
      clear hreq hof hbm' hF07
      have hq7 := HREQ.out w7 (Frm.refl _ _)
      have HQ7 := Lib.hid hq7
      clear hq7
      go_upto_region 14 with (first
        | (refine wpList_load_agg agM rfl rfl rfl HBX.out rfl ?_)
        | (go_at_call 13; refine HQ7.out.mono ?_; intro e w9 hR; obtain ⟨⟨p1, p2, p3, p4, a1, d1, f1, a2, d2, b1, a3, d3, t1⟩, rfl, hin, hq, hF9⟩ := hR; simp only [RV.cells])
        | (refine wpList_new rfl rfl zReq rfl ?_; intro w10 hb10 hF10 hs10)
        | (refine wpList_store_agg rfl rfl rfl rfl hb10 rfl (req_one _ _ _ _ _ _ _ _ _ _ _ _ _) (by kernel_rfl) ?_; intro w11 hb11 hF11 hs11))
      obtain ⟨gp, hgp⟩ : ∃ gp, gp = w9.heap.size := ⟨_, rfl⟩
      rw [← hgp] at hb11 hb10 hF11 ⊢
      have hF911 : Frm (New w9) w9 w11 := hF10.trans (hF11.mono (fun k hk => by subst hk; unfold New; omega))
      have hF711 := hF9.trans (hF911.mono (fun k hk => by have := hF9.size; unfold New at hk ⊢; omega))
      have hin11 := hin.fresh hF911
      have hb711 := HBX.out.fresh hF711
      have hq11 := HOF.out w11 hF711
      have hF011 := HF07.out.then_new Up.new hF711
      have HP11 := Lib.hid hb11
      clear hgp hb10 hb11 hF10 hs10 hF11 hs11 hF911 hF711 hF9 hin HBX HREQ HOF HQ7 HF07
      have HIN11 := Lib.hid hin11
      have HQA := Lib.hid hq
      have HB711 := Lib.hid hb711
      have HQ11 := Lib.hid hq11
      have HF011 := Lib.hid hF011
      clear hin11 hq hb711 hq11 hF011
      go_upto_region 15 with (first
        | (refine wpList_load_agg agM rfl rfl rfl HB711.out rfl ?_)
        | (go_at_call 14; refine HQ11.out.mono ?_; intro e w12 hR; obtain ⟨⟨q1, q2, q3, q4, a4, d4, f2, a5, d5, b2, a6, d6, t2⟩, rfl, hin, hq, hF12⟩ := hR; simp only [RV.cells])
        | (refine wpList_new rfl rfl zReq rfl ?_; intro w13 hb13 hF13 hs13)
        | (refine wpList_store_agg rfl rfl rfl rfl hb13 rfl (req_one _ _ _ _ _ _ _ _ _ _ _ _ _) (by kernel_rfl) ?_; intro w14 hb14 hF14 hs14))
      obtain ⟨gq, hgq⟩ : ∃ gq, gq = w12.heap.size := ⟨_, rfl⟩
      rw [← hgq] at hb14 hb13 hF14 ⊢
      have hF1214 : Frm (New w12) w12 w14 := hF13.trans (hF14.mono (fun k hk => by subst hk; unfold New; omega))
      have hF1114 := hF12.trans (hF1214.mono (fun k hk => by have := hF12.size; unfold New at hk ⊢; omega))
      have hinA := HIN11.out.fresh hF1114
      have hinB := hin.fresh hF1214
      have hpp := HP11.out.fresh hF1114
      have hF014 := HF011.out.then_new Up.new hF1114
      have e1 : f1 = (rq m').fs := by rw [← HQA.out]; rfl
      have e3 : t1 = (rq m').ts := by rw [← HQA.out]; rfl
      have hRE := hrequest_eq ⟨p1, p2, p3, p4, a1, d1, f1, a2, d2, b1, a3, d3, t1⟩ ⟨q1, q2, q3, q4, a4, d4, f2, a5, d5, b2, a6, d6, t2⟩ w14 hinA hinB (hq.trans HQA.out.symm) (by show f1.length ≤ _; rw [e1]; omega) (by show t1.length ≤ _; rw [e3]; omega)
      simp only [RV.cells] at hRE
      obtain ⟨⟨_, _, _, _, _, _, _⟩, _⟩ := hpp.all7
      obtain ⟨⟨_, _, _, _, _, _, _⟩, _⟩ := hb14.all7
      have hlt1 := hpp.lt
      have hlt2 := hb14.lt
      clear hb14 hgq hb13 hF13 hs13 hF14 hs14 hF1214 hF1114 hF12 hin hinA hinB hq hpp e1 e3 HP11 HIN11 HQA HB711 HQ11 HF011
      generalize rcls m' = rc at *
      have HF014 := Lib.hid hF014
      have HRE := Lib.hid hRE
      clear hF014 hRE
      go_wp2_with (go_at_call 15; refine HRE.out.mono ?_; rintro e w15 ⟨rfl, hF15⟩)
      all_goals go_ret
      all_goals exact ⟨rfl, (HF014.out.then_new Up.new hF15).below⟩
end Go.Proofs.YtpojejdddgdjdaaDoor.M
