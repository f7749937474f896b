/- bifoldhelp: Fields, Message, Request of what says the same. No condition but the lengths. -/
import Derived.BigQuiet
import Derived.Deep.RegionWith
import Derived.Deep.CutBlock
import Derived.Lib.Hide
import Derived.IntWalk
import Derived.Test.YtpojejdddgdjdaaGreatDoorSli
namespace Go.Proofs.YtpojejdddgdjdaaGreatDoor.M
open Go.ChangeShapes Go.WideShapes Go.ChangeAt Go.RowKit

set_option maxRecDepth 100000 in
set_option maxHeartbeats 2000000 in
theorem fields_eq (l : List Fld) (A B : Option Addr) (c d : Nat) (w : World) (hA : Rd w A (fvs l)) (hB : Rd w B (fvs l)) (hl : l.length ≤ 1152921504606846976) :
    Calls Tryz.prog 28 #[.slice A l.length c, .slice B l.length d] w fun e w' => e = .returned (.bool true) ∧ Frm (New w) w w' := by
  have HA := Lib.hid hA
  have HB := Lib.hid hB
  clear hA hB
  go_enter Tryz.func28, Tryz.ntmps28
  go_wp2
  go_loopw [5] (fun i wr => ∃ k : Nat, k ≤ l.length ∧ i = .int .i64 k ∧ ∃ q, wr = w.drewN q) (fun i _ => l.length - (intOf i).toNat)
  case atStart => exact ⟨0, Nat.zero_le _, rfl, 0, rfl⟩
  case round =>
    obtain ⟨k, hk, rfl, q, rfl⟩ := hrel
    by_cases hlt : k < l.length
    · obtain ⟨gA, oA, rfl, hx⟩ := HA.out.at_ (k := k * 2) (by rw [fvs_length]; omega)
      obtain ⟨gB, oB, rfl, hy⟩ := HB.out.at_ (k := k * 2) (by rw [fvs_length]; omega)
      clear hx hy
      obtain ⟨ha1, ha2⟩ := fld_cells HA.out k hlt
      obtain ⟨hb1, hb2⟩ := fld_cells HB.out k hlt
      generalize l[k] = f at *
      obtain ⟨f1, f2⟩ := f
      simp only [str] at ha1 ha2 hb1 hb2
      go_wp2
      go_quiet (fail)
      go_wp2
      all_goals first
        | (go_roundw
           case rel => exact ⟨k + 1, by omega, by go_num, _, rfl⟩
           case measure => simp [intOf]; omega)
    · obtain rfl : k = l.length := by omega
      go_wp2
      go_ret
      exact ⟨rfl, (Frm.refl _ w).drewN q⟩
set_option maxRecDepth 100000 in
set_option maxHeartbeats 2000000 in
theorem hmessage_eq (m n : MV) (w : World) (hm : MIn w m) (hn : MIn w n) (e1 : n.fs = m.fs) (e2 : n.b = m.b) (e3 : n.ts = m.ts) (l1 : m.fs.length ≤ 1152921504606846976) (l3 : m.ts.length ≤ 1152921504606846976) :
    Calls Tryz.prog 13 #[.agg m.cells, .agg n.cells] w fun e w' => e = .returned (.bool true) ∧ Frm (New w) w w' := by
  obtain ⟨A1, c1, fs, A2, c2, b, A3, c3, ts⟩ := m
  obtain ⟨B1, d1, fs', B2, d2, b', B3, d3, ts'⟩ := n
  simp only at e1 e2 e3 l1 l3
  subst e1 e2 e3
  have h1 : ∀ w', Frm (New w) w w' → Calls Tryz.prog 28 #[.slice A1 fs'.length c1, .slice B1 fs'.length d1] w' fun e w2 => e = .returned (.bool true) ∧ Frm (New w') w' w2 := fun w' f => fields_eq fs' A1 B1 c1 d1 w' (hm.r1.fresh f) (hn.r1.fresh f) l1
  have h3 : ∀ w', Frm (New w) w w' → Calls Tryz.prog 28 #[.slice A3 ts'.length c3, .slice B3 ts'.length d3] w' fun e w2 => e = .returned (.bool true) ∧ Frm (New w') w' w2 := fun w' f => fields_eq ts' A3 B3 c3 d3 w' (hm.r3.fresh f) (hn.r3.fresh f) l3
  have hA2 : ∀ w', Frm (New w) w w' → Rd w' A2 (bvs b') := fun w' f => hm.r2.fresh f
  have hB2 : ∀ w', Frm (New w) w w' → Rd w' B2 (bvs b') := fun w' f => hn.r2.fresh f
  clear hm hn
  simp only [MV.cells]
  have hfr : ∀ (w : World) t cs, Frm (New w) w (w.alloc (.cells cs t)) := fun w t cs => (Frm.refl _ w).alloc Up.new _
  have hs1 : ∀ (w : World) (t : TypeId) cs, (w.alloc (.cells cs t)).heap.size = w.heap.size + 1 := fun w t cs => by simp
  have H1 := Lib.hid h1
  have H3 := Lib.hid h3
  have HFR := Lib.hid hfr
  have HA2 := Lib.hid hA2
  have HB2 := Lib.hid hB2
  have HS1 := Lib.hid hs1
  clear h1 h3 hfr hA2 hB2 hs1
  go_enter Tryz.func13, Tryz.ntmps13
  go_upto_region 1 with (fail)
  have hb1 := Blk.new w 30 #[.slice A1 fs'.length c1, .slice A2 b'.length c2, .slice A3 ts'.length c3]
  have hF1 := HFR.out w 30 #[.slice A1 fs'.length c1, .slice A2 b'.length c2, .slice A3 ts'.length c3]
  have hz1 := HS1.out w 30 #[.slice A1 fs'.length c1, .slice A2 b'.length c2, .slice A3 ts'.length c3]
  generalize w.alloc (.cells #[.slice A1 fs'.length c1, .slice A2 b'.length c2, .slice A3 ts'.length c3] 30) = w1 at *
  have hb2 := Blk.new w1 30 #[.slice B1 fs'.length d1, .slice B2 b'.length d2, .slice B3 ts'.length d3]
  have hF2 := HFR.out w1 30 #[.slice B1 fs'.length d1, .slice B2 b'.length d2, .slice B3 ts'.length d3]
  generalize w1.alloc (.cells #[.slice B1 fs'.length d1, .slice B2 b'.length d2, .slice B3 ts'.length d3] 30) = w2 at *
  have hb12 := hb1.fresh hF2
  have hF02 := hF1.then_new Up.new hF2
  rw [hz1] at hb2
  generalize w.heap.size = ba at *
  obtain ⟨bb, hbb⟩ : ∃ bb, bb = ba + 1 := ⟨_, rfl⟩
  rw [← hbb] at hb2 ⊢
  have hla := hb12.lt
  have hlb := hb2.lt
  have hy0 := hb12.cell 0
  simp only [List.getElem?_toArray, List.getElem?_cons_zero] at hy0
  have hz0 := hb2.cell 0
  simp only [List.getElem?_toArray, List.getElem?_cons_zero] at hz0
  have hc1 := H1.out w2 hF02
  have HBA := Lib.hid hb12
  have HBB := Lib.hid hb2
  clear hb1 hF1 hF2 hz1 hbb hb12 hb2
  have HC1 := Lib.hid hc1
  have HF02 := Lib.hid hF02
  clear hc1 hF02
  go_wp2_with (fail)
  refine HC1.out.mono ?_
  rintro e w3 ⟨rfl, hF3⟩
  have hb13 := HBA.out.fresh hF3
  have hb23 := HBB.out.fresh hF3
  have hF03 := HF02.out.then_new Up.new hF3
  have hla3 := hb13.lt
  have hlb3 := hb23.lt
  have hRA := HA2.out _ hF03
  have hRB := HB2.out _ hF03
  have hc3 := H3.out w3 hF03
  have hy1 := hb13.cell 1
  have hy2 := hb13.cell 2
  simp only [List.getElem?_toArray, List.getElem?_cons_zero, List.getElem?_cons_succ] at hy1 hy2
  have hz1 := hb23.cell 1
  have hz2 := hb23.cell 2
  simp only [List.getElem?_toArray, List.getElem?_cons_zero, List.getElem?_cons_succ] at hz1 hz2
  have hcvA := run_conv (c := c2) hRA
  have hcvB := run_conv (c := d2) hRB
  simp only [str] at hcvA hcvB
  clear hF3 hy0 hz0 hla hlb HC1 HF02 HBA HBB hb13 hb23 hRA hRB
  have HF03 := Lib.hid hF03
  have HC3 := Lib.hid hc3
  clear hF03 hc3
  go_wp2_with (first
    | (go_at_call 28; refine HC3.out.mono ?_; rintro e w4 ⟨rfl, hF4⟩; have HF4 := Lib.hid hF4; clear hF4))
  go_ret
  exact ⟨rfl, HF03.out.then_new Up.new HF4.out⟩
end Go.Proofs.YtpojejdddgdjdaaGreatDoor.M
