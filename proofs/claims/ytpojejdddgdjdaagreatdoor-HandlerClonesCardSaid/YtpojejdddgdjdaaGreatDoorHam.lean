/- bifoldlaw29.known: it tells true. No condition but the library's table. -/
import Derived.BigQuiet
import Derived.Deep.CutBlock
import Derived.Lib.Hide
import Derived.IntWalk
import Derived.Test.YtpojejdddgdjdaaGreatDoorHak
namespace Go.Proofs.YtpojejdddgdjdaaGreatDoor.M
open Go.ChangeShapes Go.WideShapes Go.ChangeAt Go.RowKit
theorem dec201 : decB 201 = [50, 48, 49] := by
  rw [decB_ge (by decide), decB_ge (show ¬ 201 / 10 < 10 by decide), decB_lt (show 201 / 10 / 10 < 10 by decide)]
  rfl
theorem dec431 : decB 431 = [52, 51, 49] := by
  rw [decB_ge (by decide), decB_ge (show ¬ 431 / 10 < 10 by decide), decB_lt (show 431 / 10 / 10 < 10 by decide)]
  rfl
def kRed : Bytes := [47, 115, 116, 97, 116, 105, 99, 47, 114, 101, 100]
def kKva : Bytes := [47, 107, 118, 47, 97]
def kBody : Bytes := [114, 101, 100, 32, 105, 115, 32, 97, 32, 99, 111, 108, 111, 117, 114]
def kq1 : RQ := ⟨bGET, [], [], kRed, [], [], []⟩
def kq2 : RQ := ⟨bPUT, [], [], kKva, [], [120], []⟩
theorem kh1 : handle [] kq1 = (ans 200 kBody [(bCT, bTP)], []) := rfl
theorem kh2 : handle [] kq2 = (ans 201 [] [], [([97], [120])]) := rfl
def rv1 : RV := ⟨bGET, [], [], kRed, none, 0, [], none, 0, [], none, 0, []⟩
def rv2 (g : Nat) : RV := ⟨bPUT, [], [], kKva, none, 0, [], some ⟨g, 0, none⟩, 1, [120], none, 0, []⟩
set_option maxRecDepth 100000 in
set_option maxHeartbeats 4000000 in
theorem hknown_any (w : World) (hT : PT w) : Calls Tryz.prog 5 #[] w fun e w' => e = .returned (.bool true) ∧ Frm (New w) w w' := by
  have hfr : ∀ (w : World) t cs, Frm (New w) w (w.alloc (.cells cs t)) := fun w t cs => (Frm.refl _ w).alloc Up.new _
  have hnw := new_any w
  have HFR := Lib.hid hfr
  have HNW := Lib.hid hnw
  clear hfr hnw
  go_enter Tryz.func5, Tryz.ntmps5
  go_upto_region 4 with (go_at_call 6; refine HNW.out.mono ?_; rintro e w1 ⟨p, bm, rfl, hK1, hpw, hbw, hF1⟩)
  have hT1 := hT.fresh hF1
  have hh1 : Calls Tryz.prog 10 #[.pointer (some ⟨p, 0, none⟩), .agg #[.string ⟨#[71, 69, 84]⟩, .string ⟨#[]⟩, .string ⟨#[]⟩, .string ⟨#[47, 115, 116, 97, 116, 105, 99, 47, 114, 101, 100]⟩, .slice none 0 0, .slice none 0 0, .slice none 0 0]] w1 (KeyedR w1 p bm [] (ans 200 kBody [(bCT, bTP)], [])) := by
    have h := handle_any rv1 w1 p bm [] hK1 ⟨Rd.nil, Rd.nil, Rd.nil⟩ hT1 (Nat.zero_le _) (Nat.zero_le _) (Nat.zero_le _) (by decide)
    exact h
  have hlp1 := hK1.blk.lt
  have hlb1 := hK1.map.lt
  have HH1 := Lib.hid hh1
  have HT1 := Lib.hid hT1
  have HF1 := Lib.hid hF1
  have HK1 := Lib.hid hK1
  clear hh1 hT1 hF1 hK1
  clear HNW
  go_upto_region 5 with (first
    | (go_at_call 10; refine HH1.out.mono ?_; rintro e w2 ⟨m1, L1, rfl, hm1, hK2, hs2, ho2⟩)
    | (refine wpList_new rfl rfl zMsg rfl ?_; intro w3 hb3 hF3 hs3)
    | (refine wpList_store_agg rfl rfl rfl rfl hb3 rfl (msg_one _ _ _ _ _ _ _ _ _) (by kernel_rfl) ?_; intro w4 hb4 hF4 hs4))
  obtain ⟨g1, hg1⟩ : ∃ g1, g1 = w2.heap.size := ⟨_, rfl⟩
  rw [← hg1] at hb3 hb4 hF4 ⊢
  have hF24 : Frm (New w2) w2 w4 := hF3.trans (hF4.mono (fun q e => by have e2 : q = g1 := e; unfold New; omega))
  have hm14 := hm1.fresh hF24
  have hK4 := hK2.fresh hF24
  have hg1w : w.heap.size ≤ g1 := by have := hm1.frm.size; have := HF1.out.size; omega
  have hF04 : Frm (New w) w w4 := HF1.out.trans (hm14.frm.mono (fun q hq => by have := HF1.out.size; unfold New at hq ⊢; omega))
  have hL1 : L1 = [] := by
    unfold sto at hs2
    simpa using hs2
  subst hL1
  have hb1l := hm1.frm.size
  have hg1b : w1.heap.size ≤ g1 := by omega
  obtain ⟨A1, c1, F1, A2, c2, B1, A3, c3, T1⟩ := m1
  have hf1 := hm14.fs
  have hb1 := hm14.b
  have ht1 := hm14.ts
  simp only at hf1 hb1 ht1
  subst hf1 hb1 ht1
  simp only [MV.cells] at hb4
  clear hs2 ho2 hb3 hF3 hs3 hF4 hs4 hm1 hK2 hF24 HH1 HK1 hg1
  have HB4 := Lib.hid hb4
  clear hb4
  have HM14 := Lib.hid hm14
  have HK4 := Lib.hid hK4
  have HF04 := Lib.hid hF04
  clear hm14 hK4 hF04
  have hT4 := hT.fresh HF04.out
  have hlit := run_lit w4 #[.int .u8 120] 1 1
  have hRk : Rd (w4.alloc (.cells #[.int .u8 120] 5 (1, 2))) (some ⟨w4.heap.size, 0, none⟩) (bvs [120]) := Rd.lit w4 [120] _ _ _ rfl
  have hFk : Frm (New w4) w4 (w4.alloc (.cells #[.int .u8 120] 5 (1, 2))) := (Frm.refl _ w4).alloc Up.new _
  have hK5 := HK4.out.fresh hFk
  have hh2 : Calls Tryz.prog 10 #[.pointer (some ⟨p, 0, none⟩), .agg #[.string ⟨#[80, 85, 84]⟩, .string ⟨#[]⟩, .string ⟨#[]⟩, .string ⟨#[47, 107, 118, 47, 97]⟩, .slice none 0 0, .slice (some ⟨w4.heap.size, 0, none⟩) 1 1, .slice none 0 0]] (w4.alloc (.cells #[.int .u8 120] 5 (1, 2))) (KeyedR (w4.alloc (.cells #[.int .u8 120] 5 (1, 2))) p bm [] (ans 201 [] [], [([97], [120])])) := by
    have h := handle_any (rv2 w4.heap.size) (w4.alloc (.cells #[.int .u8 120] 5 (1, 2))) p bm [] hK5 ⟨Rd.nil, hRk, Rd.nil⟩ (hT4.fresh hFk) (Nat.zero_le _) (by show ([120] : Bytes).length ≤ _; decide) (Nat.zero_le _) (by show kKva.length ≤ _; decide)
    exact h
  have hb45 := HB4.out.fresh hFk
  have hm15 := HM14.out.fresh hFk
  have hF05 := HF04.out.then_new Up.new hFk
  clear hRk hK5 hFk HB4 HM14 HF04 HK4
  have HH2 := Lib.hid hh2
  have HB45 := Lib.hid hb45
  have HM15 := Lib.hid hm15
  have HF05 := Lib.hid hF05
  clear hh2 hb45 hm15 hF05
  go_upto_region 6 with (first
    | (go_at_call 10; refine HH2.out.mono ?_; rintro e w6 ⟨m2, L2, rfl, hm2, hK6, hs6, ho6⟩)
    | (refine wpList_new rfl rfl zMsg rfl ?_; intro w7 hb7 hF7 hs7)
    | (refine wpList_store_agg rfl rfl rfl rfl hb7 rfl (msg_one _ _ _ _ _ _ _ _ _) (by kernel_rfl) ?_; intro w8 hb8 hF8 hs8))
  have hx5 : ∃ w5, w5 = w4.alloc (.cells #[.int .u8 120] 5 (1, 2)) := ⟨_, rfl⟩
  obtain ⟨w5, hw5⟩ := hx5
  rw [← hw5] at hm2 ho6 HB45 HM15 HF05
  obtain ⟨g3, hg3⟩ : ∃ g3, g3 = w6.heap.size := ⟨_, rfl⟩
  rw [← hg3] at hb7 hb8 hF8 ⊢
  have hF68 : Frm (New w6) w6 w8 := hF7.trans (hF8.mono (fun q e => by have e2 : q = g3 := e; unfold New; omega))
  have hm28 := hm2.fresh hF68
  have hK8 := hK6.fresh hF68
  have hF58 : Frm (fun z => z = bm ∨ New w5 z) w5 w8 := hm28.frm
  have hF15 := HM15.out.frm.size
  have hb18 := HB45.out.keep hF58 (fun e => by rcases e with e | e; exact absurd e (by omega); have := HB45.out.lt; unfold New at e; omega)
  have hR18 := HM15.out.min.r1.keep2 hF58 (fun hn k hk e => by
    have h1 := HM15.out.n1 hn k hk
    have h2 := HM15.out.min.r1.blk_lt hn hk
    rcases e with e | e
    · omega
    · unfold New at e; omega)
  have hR28 := HM15.out.min.r2.keep2 hF58 (fun hn k hk e => by
    have h1 := HM15.out.n2 hn k hk
    have h2 := HM15.out.min.r2.blk_lt hn hk
    rcases e with e | e
    · omega
    · unfold New at e; omega)
  simp only at hR18 hR28
  have hF08 : Frm (New w) w w8 := HF05.out.trans (hF58.mono (fun q hq => by have := HF05.out.size; unfold New at hq ⊢; omega))
  obtain ⟨D1, e1, F2, D2, e2, B2, D3, e3, T2⟩ := m2
  have hf2 := hm28.fs
  have hb2 := hm28.b
  have ht2 := hm28.ts
  simp only at hf2 hb2 ht2
  subst hf2 hb2 ht2
  have hRD := hm28.min.r1
  simp only at hRD
  simp only [MV.cells] at hb8
  have hget := get_any [97] w8 p bm L2 hK8
  rw [hs6] at hget
  have hge : getE ([97] : Bytes) ([([97], [120])] : Sto) = some [120] := rfl
  rw [hge] at hget
  simp only [Option.getD_some, Option.isSome_some, List.length_cons, List.length_nil, Nat.zero_add] at hget
  have hLn : L2.length = 1 := by have h := congrArg List.length hs6; unfold sto at h; simpa using h
  have hLk : L2.map (·.1) = [[97]] := by
    have h := congrArg (List.map Prod.fst) hs6
    unfold sto at h
    simpa [List.map_map, Function.comp_def] using h
  clear hb7 hF7 hs7 hF8 hs8 hm2 hm28 hK6 hs6 ho6 hF68 hF58 HB45 HM15 HF05 hw5 HH2 hlit hge hg3
  have HB8 := Lib.hid hb8
  clear hb8
  have HK8 := Lib.hid hK8
  have HB18 := Lib.hid hb18
  have HR18 := Lib.hid hR18
  have HR28 := Lib.hid hR28
  have HF08 := Lib.hid hF08
  have HRD := Lib.hid hRD
  have HGET := Lib.hid hget
  have HLN := Lib.hid hLn
  have HLK := Lib.hid hLk
  clear hK8 hb18 hR18 hR28 hF08 hRD hget hLn hLk
  go_upto_region 7 with (go_at_call 20; refine HGET.out.mono ?_; rintro e w9 ⟨AG, cG, rfl, hRG, hF9⟩)
  have hK9 := HK8.out.fresh hF9
  have hb39 := HB8.out.fresh hF9
  have hb19 := HB18.out.fresh hF9
  have hR19 := HR18.out.fresh hF9
  have hR29 := HR28.out.fresh hF9
  have hRD9 := HRD.out.fresh hF9
  have hF09 := HF08.out.then_new Up.new hF9
  have hcv1 := run_conv (l := kBody) (c := c2) hR29
  simp only [str] at hcv1
  obtain ⟨gF, oF, rfl, hx6⟩ := hR19.at_ (k := 6) (by rw [fvs_length]; simp [ans, ansF])
  have hx6b : w9.cell? ⟨gF, oF + 6, none⟩ = some (.string ⟨#[97, 108, 116, 45, 115, 118, 99]⟩) := hx6
  have hgF := World.block_lt_of_cell? _ _ hx6
  simp only at hgF
  have hl19 := hb19.lt
  have hl39 := hb39.lt
  have hz0 := hb19.cell 0
  have hz1 := hb19.cell 1
  simp only [List.getElem?_toArray, List.getElem?_cons_zero, List.getElem?_cons_succ] at hz0 hz1
  have hv0 := hb39.cell 0
  have hv1 := hb39.cell 1
  have hv2 := hb39.cell 2
  simp only [List.getElem?_toArray, List.getElem?_cons_zero, List.getElem?_cons_succ] at hv0 hv1 hv2
  have hat := fun (w' : World) (f : Frm (New w9) w9 w') => at_any D1 e1 (ans 201 [] []).fs D2 0 e2 D3 0 e3 0 w' (hRD9.fresh f) (by simp [ans, ansF])
  have h201 : ((ans 201 [] []).fs[0]'(by simp [ans, ansF])).2 = [50, 48, 49] := dec201
  rw [h201] at hat
  have hky := fun (w' : World) (f : Frm (New w9) w9 w') => keys_any w' p bm L2 (hK9.fresh f)
  rw [HLK.out, HLN.out] at hky
  rw [show ([[97]] : List Bytes).mergeSort leB = [[97]] from List.mergeSort_singleton _] at hky
  have hst := fun (w' : World) (A B : Option Addr) (c d : Nat) (h1 : Rd w' A (svs [[97]])) (h2 : Rd w' B (svs [[97]])) => strings_eq [[97]] A B c d w' h1 h2 (by decide)
  have hbd := fun (w' : World) (f : Frm (New w9) w9 w') => bad_any 2 w' (hT.fresh (hF09.then_new Up.new f))
  have hcvG := fun (w' : World) (f : Frm (New w9) w9 w') => run_conv (l := [120]) (c := cG) (hRG.fresh f)
  simp only [str, List.length_cons, List.length_nil, Nat.zero_add] at hcvG
  simp only [List.length_cons, List.length_nil, Nat.zero_add] at hst
  have hl4 : (ans 200 kBody [(bCT, bTP)]).fs.length = 4 := rfl
  have hl3 : (ans 201 [] []).fs.length = 3 := rfl
  have hlB : (ans 200 kBody [(bCT, bTP)]).b.length = 15 := rfl
  have hlk : kBody.length = 15 := rfl
  have hlz : (ans 201 [] []).b.length = 0 := rfl
  have hlt : (ans 201 [] []).ts.length = 0 := rfl
  rw [hl4] at hz0
  rw [hlB] at hz1
  rw [hlk] at hcv1
  rw [hl3] at hv0 hat
  rw [hlz] at hv1
  rw [hlt] at hv2
  clear hl4 hl3 hlB hlk hlz hlt
  clear hx6 hK9 hR19 hR29 hRD9 hRG hb39 hb19 HB8 HB18 HR18 HR28 HF08 HRD HGET HK8 hF9 h201
  have HAT := Lib.hid hat
  have HKY := Lib.hid hky
  have HST := Lib.hid hst
  have HBD := Lib.hid hbd
  have HF09 := Lib.hid hF09
  have HCVG := Lib.hid hcvG
  clear hat hky hst hbd hF09 hcvG
  have t1 := trivial
  go_wp2_with (first
    | (clear t1; go_at_call 21; refine (HAT.out _ (Frm.refl _ _)).mono ?_; rintro e w10 ⟨rfl, hF10⟩; have hcvX := HCVG.out _ hF10; have HF10 := Lib.hid hF10; clear hF10)
    | (go_at_call 23; refine (HKY.out _ HF10.out).mono ?_; rintro e w11 ⟨AK, cK, rfl, hRK, hF11⟩; have HRK := Lib.hid hRK; have HF11 := Lib.hid (HF10.out.then_new Up.new hF11); clear hRK hF11)
    | (go_at_call 22; refine (HST.out _ _ _ cK 1 (HRK.out.alloc _) (Rd.new w11 _ _)).mono ?_; rintro e w12 ⟨rfl, hF12⟩; have HF12 := Lib.hid ((HF11.out.alloc Up.new _).then_new Up.new hF12); clear hF12)
    | (go_at_call 14; refine (HBD.out _ HF12.out).mono ?_; rintro e w13 ⟨⟨G1, k1, f3, G2, k2, b3, G3, k3, t3⟩, rfl, hm3⟩; simp only [MV.cells]; have hF13 := HF12.out.then_new Up.new hm3.frm; have hR3 := hm3.min.r1; have hf3 := hm3.fs; simp only at hf3 hR3; subst hf3; have hat2 := at_any G1 k1 (hBad 2).fs G2 b3.length k2 G3 t3.length k3 0 w13 hR3 (show 0 < (hBad 2).fs.length by decide); rw [show ((hBad 2).fs[0]'(show 0 < (hBad 2).fs.length by decide)).2 = [52, 51, 49] from dec431] at hat2; have HAT2 := Lib.hid hat2; have HF13 := Lib.hid hF13; clear hat2 hF13 hm3 hR3)
    | (go_at_call 21; refine HAT2.out.mono ?_; rintro e w14 ⟨rfl, hF14⟩; have HF14 := Lib.hid (HF13.out.then_new Up.new hF14); clear hF14))
  go_ret
  exact ⟨rfl, HF09.out.then_new Up.new HF14.out⟩
end Go.Proofs.YtpojejdddgdjdaaGreatDoor.M
