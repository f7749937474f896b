/- bifoldlaw28.known: it tells true. No condition. -/
import Derived.BigQuiet
import Derived.Deep.CutBlock
import Derived.Lib.Hide
import Derived.IntWalk
import Derived.Test.YtpojejdddgdjdaaDoorSrq
import Derived.Test.YtpojejdddgdjdaaDoorSrs
import Derived.Test.YtpojejdddgdjdaaDoorScl
import Derived.Test.YtpojejdddgdjdaaDoorSli
namespace Go.Proofs.YtpojejdddgdjdaaDoor.M
open Go.ChangeShapes Go.WideShapes Go.ChangeAt Go.RowKit

theorem made_u8 (m : Nat) : madeCells (Value.int .u8 0).cells (m * 1) = (bvs (List.replicate m 0)).toArray := by
  apply Array.ext'
  rw [Nat.mul_one, show (Value.int .u8 0).cells = #[Value.int .u8 0] from rfl, toList_madeCells_one]
  simp [bvs, bv]
theorem u8_info : ∃ i, Tryd.prog.info? 5 = some i ∧ i.zero = some (.int .u8 0) ∧ i.size = 1 ∧ i.bytes = 1 := by
  have h : (Tryd.prog.info? 5).map (fun i => (i.zero, i.size, i.bytes)) = some (some (.int .u8 0), 1, 1) := by kernel_rfl
  obtain ⟨i, hi, hz, hs, hb⟩ := info_parts h
  exact ⟨i, hi, hz, hs, hb⟩
def kF : List Fld := [(bMe, [71, 69, 84]), (bSc, [104, 116, 116, 112, 115]), (bPa, [47]), ([97], [98])]
def kS : List Fld := [(bSt, [50, 48, 52])]
def mvF (A : Option Addr) (c : Nat) (l : List Fld) : MV := ⟨A, c, l, none, 0, [], none, 0, []⟩
def mvB (A : Option Addr) (b : Bytes) : MV := ⟨none, 0, [], A, b.length, b, none, 0, []⟩
theorem mvF_in {w : World} {A : Option Addr} {c : Nat} {l : List Fld} (h : Rd w A (fvs l)) : MIn w (mvF A c l) := ⟨h, Rd.nil, Rd.nil⟩
theorem mvB_in {w : World} {A : Option Addr} {b : Bytes} (h : Rd w A (bvs b)) : MIn w (mvB A b) := ⟨Rd.nil, h, Rd.nil⟩
/-- what a message says: the class and the request hang on no address -/
theorem rcls_mvF (A : Option Addr) (c : Nat) (l : List Fld) : rcls (mvF A c l) = rcls (mvF none 0 l) := rfl
theorem rq_mvF (A : Option Addr) (c : Nat) (l : List Fld) : rq (mvF A c l) = rq (mvF none 0 l) := rfl
theorem resp_mvF (A : Option Addr) (c : Nat) (l : List Fld) : resp (mvF A c l) = resp (mvF none 0 l) := rfl
theorem k1 : rcls (mvF none 0 kF) = 0 := by decide +kernel
theorem k2 : rcls (mvF none 0 (kF.take 2)) = 1 := by decide +kernel
theorem k3 : rq (mvF none 0 kF) = ⟨[71, 69, 84], [104, 116, 116, 112, 115], [], [47], [([97], [98])], [], []⟩ := by
  unfold rq
  rw [if_pos k1]
  rfl
theorem k4 : resp (mvF none 0 kS) = (204, 0) := by decide +kernel
theorem kreq (l : List Fld) (A : Option Addr) (c : Nat) (w : World) (h : Rd w A (fvs l)) (hs : fsizes l ≤ 5240) (hl : l.length ≤ 70) :
    Calls Tryd.prog 13 #[.agg #[.slice A l.length c, .slice none 0 0, .slice none 0 0]] w fun e w' => ∃ r : RV, e = .returned (.tuple #[.agg r.cells, .int .i64 (rcls (mvF none 0 l) : Nat)]) ∧ RIn w' r ∧ r.q = rq (mvF none 0 l) ∧ Frm (New w) w w' :=
  request_any (mvF A c l) w (mvF_in h) ⟨by show fsizes l ≤ _; omega, by show l.length ≤ _; omega, Nat.zero_le _, Nat.zero_le _, Nat.zero_le _⟩ (Nat.zero_le _) (Nat.zero_le _)
theorem kresp (l : List Fld) (A : Option Addr) (c : Nat) (w : World) (h : Rd w A (fvs l)) (hs : fsizes l ≤ 5240) (hl : l.length ≤ 70) :
    Calls Tryd.prog 18 #[.agg #[.slice A l.length c, .slice none 0 0, .slice none 0 0]] w fun e w' => e = .returned (.tuple #[.int .i64 ((resp (mvF none 0 l)).1 : Nat), .int .i64 ((resp (mvF none 0 l)).2 : Nat)]) ∧ Frm (New w) w w' :=
  response_any (mvF A c l) w (mvF_in h) ⟨by show fsizes l ≤ _; omega, by show l.length ≤ _; omega, Nat.zero_le _, Nat.zero_le _, Nat.zero_le _⟩
theorem klarge (A : Option Addr) (b : Bytes) (w : World) (h : Rd w A (bvs b)) (hb : 8192 < b.length) (hb2 : b.length ≤ 70000) :
    Calls Tryd.prog 16 #[.agg #[.slice none 0 0, .slice A b.length b.length, .slice none 0 0]] w fun e w' => e = .returned (.bool true) ∧ Frm (New w) w w' := by
  have hl : lrgM (mvB A b) = true := by
    have e : lrgM (mvB A b) = (lrg [] || (lrg [] || decide (8192 < b.length))) := rfl
    rw [e, decide_eq_true hb]
    simp
  have := Large_any (mvB A b) w (mvB_in h) ⟨Nat.zero_le _, Nat.zero_le _, Nat.zero_le _, Nat.zero_le _, by show b.length ≤ _; omega⟩
  rw [hl] at this
  exact this
def zR : Array Value := #[.string ⟨#[]⟩, .string ⟨#[]⟩, .string ⟨#[]⟩, .string ⟨#[]⟩, .slice none 0 0, .slice none 0 0, .slice none 0 0]
set_option maxRecDepth 100000 in
set_option maxHeartbeats 4000000 in
theorem known_any (w : World) : Calls Tryd.prog 11 #[] w fun e w' => e = .returned (.bool true) ∧ Frm (New w) w w' := by
  have hfr : ∀ (w : World) t cs, Frm (New w) w (w.alloc (.cells cs t)) := fun w t cs => (Frm.refl _ w).alloc Up.new _
  have HFR := Lib.hid hfr
  clear hfr
  go_enter Tryd.func11, Tryd.ntmps11
  go_upto_region 2 with (fail)
  obtain ⟨C8, hC8⟩ : ∃ C8, C8 = (#[.string ⟨#[58, 109, 101, 116, 104, 111, 100]⟩, .string ⟨#[71, 69, 84]⟩, .string ⟨#[58, 115, 99, 104, 101, 109, 101]⟩, .string ⟨#[104, 116, 116, 112, 115]⟩, .string ⟨#[58, 112, 97, 116, 104]⟩, .string ⟨#[47]⟩, .string ⟨#[97]⟩, .string ⟨#[98]⟩] : Array Value) := ⟨_, rfl⟩
  have hR1 : Rd (w.alloc (.cells C8 34)) (some ⟨w.heap.size, 0, none⟩) (fvs kF) := by rw [hC8]; exact Rd.new w _ 34
  have hF1 := HFR.out w 34 C8
  rw [← hC8]
  generalize w.alloc (.cells C8 34) = w1 at *
  obtain ⟨g, hg⟩ : ∃ g, g = w.heap.size := ⟨_, rfl⟩
  rw [← hg] at hR1 ⊢
  clear hg hC8
  have hq1 := kreq kF _ 4 w1 hR1 (by decide) (by decide)
  rw [k1, k3] at hq1
  have hq2 : ∀ w', Frm (New w1) w1 w' → Calls Tryd.prog 13 #[.agg #[.slice (some ⟨g, 0, none⟩) 2 4, .slice none 0 0, .slice none 0 0]] w' fun e w2 => ∃ r : RV, e = .returned (.tuple #[.agg r.cells, .int .i64 ((1 : Nat) : Int)]) ∧ Frm (New w') w' w2 := fun w' f => by
    have h := kreq (kF.take 2) (some ⟨g, 0, none⟩) 4 w' ((hR1.fresh f).take 4) (by decide) (by decide)
    rw [k2] at h
    exact h.mono (fun e w2 ⟨r, h1, _, _, h2⟩ => ⟨r, h1, h2⟩)
  have HQ1 := Lib.hid hq1
  have HQ2 := Lib.hid hq2
  have HF1 := Lib.hid hF1
  clear hq1 hq2 hF1
  clear hR1
  go_upto_region 3 with (first
    | (go_at_call 13; refine HQ1.out.mono ?_; intro e w2 hR; obtain ⟨⟨p1, p2, p3, p4, a1, c1, f, a2, c2, b, a3, c3, t⟩, rfl, hin, hq, hF2⟩ := hR; simp only [RV.q, RQ.mk.injEq] at hq; obtain ⟨rfl, rfl, rfl, rfl, rfl, rfl, rfl⟩ := hq; simp only [RV.cells])
    | (refine wpList_new rfl rfl zReq rfl ?_; intro w3 hb3 hF3 hs3)
    | (refine wpList_store_agg rfl rfl rfl rfl hb3 rfl (req_one _ _ _ _ _ _ _ _ _ _ _ _ _) (by kernel_rfl) ?_; intro w4 hb4 hF4 hs4))
  obtain ⟨g2, hg2⟩ : ∃ g2, g2 = w2.heap.size := ⟨_, rfl⟩
  rw [← hg2] at hb4 hb3 hF4 ⊢
  have hF24 : Frm (New w2) w2 w4 := hF3.trans (hF4.mono (fun k hk => by subst hk; unfold New; omega))
  have hF14 := hF2.trans (hF24.mono (fun k hk => by have := hF2.size; unfold New at hk ⊢; omega))
  clear hg2 hb3 hF3 hs3 hF4 hs4 hF24 hF2 hin HQ1
  have HB4 := Lib.hid hb4
  clear hb4
  have HF14 := Lib.hid hF14
  clear hF14
  go_upto_region 4 with (first
    | (go_at_call 13; refine (HQ2.out _ HF14.out).mono ?_; intro e w5 hR; obtain ⟨⟨p1, p2, p3, p4, a4, c4, f4, a5, c5, b5, a6, c6, t6⟩, rfl, hF5⟩ := hR; simp only [RV.cells])
    | (refine wpList_new rfl rfl zReq rfl ?_; intro w6 hb6 hF6 hs6)
    | (refine wpList_store_agg rfl rfl rfl rfl hb6 rfl (req_one _ _ _ _ _ _ _ _ _ _ _ _ _) (by kernel_rfl) ?_; intro w7 hb7 hF7 hs7))
  have hF57 : Frm (New w5) w5 w7 := hF6.trans (hF7.mono (fun k hk => by subst hk; unfold New; omega))
  have hF47 : Frm (New w4) w4 w7 := hF5.trans (hF57.mono (fun k hk => by have := hF5.size; unfold New at hk ⊢; omega))
  have hb47 := HB4.out.fresh hF47
  have hF07 := (HF1.out.then_new Up.new HF14.out).then_new Up.new hF47
  clear hb6 hF6 hs6 hb7 hF7 hs7 hF57 hF47 hF5 HF14 HF1 HQ2 HB4
  have hre := kresp kS (some ⟨w7.heap.size, 0, none⟩) 1 (w7.alloc (.cells #[.string ⟨#[58, 115, 116, 97, 116, 117, 115]⟩, .string ⟨#[50, 48, 52]⟩] 34)) (Rd.new w7 #[.string ⟨#[58, 115, 116, 97, 116, 117, 115]⟩, .string ⟨#[50, 48, 52]⟩] 34) (by decide) (by decide)
  rw [k4] at hre
  have hb78 := hb47.alloc (.cells #[.string ⟨#[58, 115, 116, 97, 116, 117, 115]⟩, .string ⟨#[50, 48, 52]⟩] 34)
  have hF08 := hF07.alloc Up.new (.cells #[.string ⟨#[58, 115, 116, 97, 116, 117, 115]⟩, .string ⟨#[50, 48, 52]⟩] 34)
  clear hb47 hF07
  have HRE := Lib.hid hre
  have HB78 := Lib.hid hb78
  have HF08 := Lib.hid hF08
  clear hre hb78 hF08
  go_upto_region 5 with (first
    | (go_at_call 18; refine HRE.out.mono ?_; rintro e w9 ⟨rfl, hF9⟩))
  have hb9 := HB78.out.fresh hF9
  have hF09 := HF08.out.then_new Up.new hF9
  have hbl := hb9.lt
  clear HB78 HF08 HRE hF9
  have hy3 := hb9.cell 3
  have hy4 := hb9.cell 4
  simp only [List.getElem?_toArray, List.getElem?_cons_zero, List.getElem?_cons_succ] at hy3 hy4
  have hcl := fun w => class_any 3 270 w
  have hcl2 : clsN 3 270 = 1 := by decide
  rw [hcl2] at hcl
  have HB9 := Lib.hid hb9
  have HF09 := Lib.hid hF09
  have HCL := Lib.hid hcl
  clear hb9 hF09 hcl
  clear hcl2
  go_wp2_with (first
    | (go_at_call 21; refine (HCL.out _).mono ?_; rintro e w10 ⟨rfl, hF10⟩))
  obtain ⟨ui, hui, huz, hus, hub⟩ := u8_info
  have hmk := run_make (P := Tryd.prog) w10 23 5 ui (.int .u8 0) Tryd.underlying23 hui huz .i64 .i64 8193 8193 (by decide) (by decide) (by rw [hub]; decide) (by decide)
  have hcs : madeCells (Value.int .u8 0).cells ((8193 : Int).toNat * ui.size) = (bvs (List.replicate 8193 0)).toArray := by rw [hus]; exact made_u8 8193
  rw [hcs] at hmk
  rw [hmk]
  have hbl2 : (List.replicate 8193 (0 : UInt8)).length = 8193 := List.length_replicate
  generalize List.replicate 8193 (0 : UInt8) = b at *
  have hRd := Rd.new w10 (bvs b).toArray 5
  rw [List.toList_toArray] at hRd
  have hF11 := HFR.out w10 5 (bvs b).toArray
  generalize w10.alloc (.cells (bvs b).toArray 5) = w11 at *
  have hla := klarge (some ⟨w10.heap.size, 0, none⟩) b w11 hRd (by omega) (by omega)
  rw [hbl2] at hla
  have hF011 := (HF09.out.then_new Up.new hF10).then_new Up.new hF11
  clear hmk hcs hui huz hus hub hRd hF11 hF10 hbl2 HB9 HCL
  have HLA := Lib.hid hla
  have HF011 := Lib.hid hF011
  clear hla hF011
  go_wp2_with (first
    | (go_at_call 16; refine HLA.out.mono ?_; rintro e w12 ⟨rfl, hF12⟩))
  go_ret
  exact ⟨rfl, HF011.out.then_new Up.new hF12⟩
end Go.Proofs.YtpojejdddgdjdaaDoor.M
