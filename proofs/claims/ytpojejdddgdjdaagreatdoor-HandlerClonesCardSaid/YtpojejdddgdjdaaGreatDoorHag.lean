/- path, Handle: what the handler answers to a request, and the store that it leaves. Bodies below 2^40. -/
import Derived.BigQuiet
import Derived.Deep.CutBlock
import Derived.Lib.Hide
import Derived.IntWalk
import Derived.Test.YtpojejdddgdjdaaGreatDoorHaf
namespace Go.Proofs.YtpojejdddgdjdaaGreatDoor.M
open Go.ChangeShapes Go.WideShapes Go.ChangeAt Go.RowKit
theorem zSt : (Tryz.prog.info? 82).map (·.zero) = some (some (.agg #[.string ByteArray.empty, .nilFunc])) := by kernel_rfl
theorem st_one (a : ByteArray) (f : Fn) (x y : Array Value) : ∀ u ∈ #[Value.string a, Value.func f x y].toList, u.oneCell' = true := fun u hu => by
  simp only [List.mem_cons, List.not_mem_nil, or_false] at hu
  rcases hu with rfl | rfl <;> rfl
set_option maxRecDepth 100000 in
set_option maxHeartbeats 4000000 in
theorem path_any (r : RV) (w : World) (p bm : Nat) (L : List (Bytes × SV)) (hK : KAt w p bm L) (hr : RIn w r) (hT : PT w) (hl1 : r.fs.length ≤ 1099511627776) (hl2 : r.b.length ≤ 1099511627776) (hl3 : r.ts.length ≤ 1099511627776) (hpl : r.pa.length ≤ 1099511627776) :
    Calls Tryz.prog 27 #[.pointer (some ⟨p, 0, none⟩), .agg r.cells] w (KeyedR w p bm L (hPath (sto L) r.q)) := by
  have hfx := fun (x : Bytes) (w' : World) (f : Frm (New w) w w') => fixed_any r x w' (hr.fresh f) (hT.fresh f)
  have hel := fun (x : Bytes) (hx : x.length ≤ 1099511627776) (w' : World) (f : Frm (New w) w w') => elsewhere_any r x w' (hr.fresh f) (hT.fresh f) hx
  have hec := fun (w' : World) (f : Frm (New w) w w') => echo_any r w' (hr.fresh f) (hT.fresh f) hl1 hl2 hl3
  have hsu := fun (w' : World) (f : Frm (New w) w w') => sum_any r w' (hr.fresh f) (hT.fresh f) hl2
  have hke := fun (x : Bytes) (hx : x.length ≤ 1099511627776) (w' : World) (f : Frm (New w) w w') => keyed_any r x w' p bm L (hK.fresh f) (hr.fresh f) (hT.fresh f) hl2 hx
  have hcp := fun (s q : Bytes) (w' : World) => cutp_any s q w'
  have hlKb : bm < w.heap.size := hK.map.lt
  obtain ⟨me, sc, au, pa, A1, c1, fs, A2, c2, b, A3, c3, ts⟩ := r
  simp only [RV.cells, RV.q] at *
  generalize hQ : KeyedR w p bm L (hPath (sto L) ⟨me, sc, au, pa, fs, b, ts⟩) = Q
  have hfr : ∀ (w : World) t cs, Frm (New w) w (w.alloc (.cells cs t)) := fun w t cs => (Frm.refl _ w).alloc Up.new _
  have hs1 : ∀ (w : World) (t : TypeId) cs, (w.alloc (.cells cs t)).heap.size = w.heap.size + 1 := fun w t cs => by simp
  have hrd := fun (m : Bytes) (w' : World) => reads_any m w'
  have hno := fun (w' : World) (f : Frm (New w) w w') => none_any w' (hT.fresh f)
  have hnt := fun (a : Bytes) (w' : World) (f : Frm (New w) w w') => not_any a w' (hT.fresh f)
  have hmf : ∀ (fn : Fn) (first cap : Array Value) (w : World), (Instr.makeFunc fn first cap).run Tryz.prog w = .ok (.func fn first cap) w := fun _ _ _ _ => rfl
  have HFR := Lib.hid hfr
  have HS1 := Lib.hid hs1
  have HRD := Lib.hid hrd
  have HNO := Lib.hid hno
  have HNT := Lib.hid hnt
  have HR := Lib.hid hr
  have HK := Lib.hid hK
  have HFX := Lib.hid hfx
  have HEL := Lib.hid hel
  have HEC := Lib.hid hec
  have HSU := Lib.hid hsu
  have HKE := Lib.hid hke
  have HCP := Lib.hid hcp
  have HQQ := Lib.hid hQ
  clear hfr hs1 hrd hno hnt hr hK hfx hel hec hsu hke hcp hQ
  obtain ⟨CA, hCA⟩ : ∃ CA, CA = (#[.string ⟨me.toArray⟩, .string ⟨sc.toArray⟩, .string ⟨au.toArray⟩, .string ⟨pa.toArray⟩, .slice A1 fs.length c1, .slice A2 b.length c2, .slice A3 ts.length c3] : Array Value) := ⟨_, rfl⟩
  go_enter Tryz.func27, Tryz.ntmps27
  go_upto_region 1 with (fail)
  rw [← hCA]
  have hb1 := Blk.new w 32 CA
  have hF1 := HFR.out w 32 CA
  have hz1 := HS1.out w 32 CA
  generalize w.alloc (.cells CA 32) = w1 at *
  have hb2 := Blk.new w1 30 #[.slice none 0 0, .slice none 0 0, .slice none 0 0]
  have hF2 := HFR.out w1 30 #[.slice none 0 0, .slice none 0 0, .slice none 0 0]
  generalize w1.alloc (.cells #[.slice none 0 0, .slice none 0 0, .slice none 0 0] 30) = w2 at *
  have hbr := hb1.fresh hF2
  have hF02 := hF1.then_new Up.new hF2
  rw [hz1] at hb2
  rw [hCA] at hbr
  obtain ⟨gr, hgr⟩ : ∃ gr, gr = w.heap.size := ⟨_, rfl⟩
  rw [← hgr] at hbr hb2 hz1 ⊢
  obtain ⟨gm, hgm⟩ : ∃ gm, gm = gr + 1 := ⟨_, rfl⟩
  rw [← hgm] at hb2
  try rw [hz1]
  try rw [← hgm]
  have hgw : w.heap.size ≤ gm := by omega
  have hgrw : w.heap.size ≤ gr := by omega
  have hlm := hb2.lt
  have hlr := hbr.lt
  clear hb1 hF1 hF2 hgr hgm hz1 hCA
  have hy0 := hbr.cell 0
  simp only [List.getElem?_toArray, List.getElem?_cons_zero] at hy0
  have HBR := Lib.hid hbr
  have HB2 := Lib.hid hb2
  have HF02 := Lib.hid hF02
  clear hbr hb2 hF02
  go_upto_region 2 with (fail)
  have hb5 := Blk.new w2 82 #[.string ⟨#[47, 115, 116, 97, 116, 105, 99, 47]⟩, .func (.func 47) #[] #[], .string ⟨#[47, 107, 118, 47]⟩, .func (.func 48) #[.pointer (some ⟨p, 0, none⟩)] #[], .string ⟨#[47, 103, 111, 47]⟩, .func (.func 49) #[] #[]]
  have hF5 := HFR.out w2 82 #[.string ⟨#[47, 115, 116, 97, 116, 105, 99, 47]⟩, .func (.func 47) #[] #[], .string ⟨#[47, 107, 118, 47]⟩, .func (.func 48) #[.pointer (some ⟨p, 0, none⟩)] #[], .string ⟨#[47, 103, 111, 47]⟩, .func (.func 49) #[] #[]]
  obtain ⟨gA, hgA⟩ : ∃ gA, gA = w2.heap.size := ⟨_, rfl⟩
  rw [← hgA] at hb5 ⊢
  generalize w2.alloc (.cells #[.string ⟨#[47, 115, 116, 97, 116, 105, 99, 47]⟩, .func (.func 47) #[] #[], .string ⟨#[47, 107, 118, 47]⟩, .func (.func 48) #[.pointer (some ⟨p, 0, none⟩)] #[], .string ⟨#[47, 103, 111, 47]⟩, .func (.func 49) #[] #[]] 82) = w5 at *
  have hbr5 := HBR.out.fresh hF5
  have hb25 := HB2.out.fresh hF5
  have hF05 := HF02.out.then_new Up.new hF5
  clear hgA hF5 HBR HB2 HF02 hy0 hlm hlr hmf
  have hlA5 := hb5.lt
  have hlm5 := hb25.lt
  have hlr5 := hbr5.lt
  have ha0 := hb5.cell 0
  have ha1 := hb5.cell 1
  simp only [List.getElem?_toArray, List.getElem?_cons_zero, List.getElem?_cons_succ] at ha0 ha1
  have hy3 := hbr5.cell 3
  simp only [List.getElem?_toArray, List.getElem?_cons_zero, List.getElem?_cons_succ] at hy3
  have HB5 := Lib.hid hb5
  have HBR5 := Lib.hid hbr5
  have HB25 := Lib.hid hb25
  have HF05 := Lib.hid hF05
  clear hb5 hbr5 hb25 hF05
  refine wp_loop_rounds 4 ?_
  rw [rounds_succ]
  go_upto_region 4 with (first
    | (refine wpList_new rfl rfl zSt rfl ?_; intro w6 hb6 hF6 hs6)
    | (refine wpList_store_agg rfl rfl rfl (cs := #[.string ⟨#[47, 115, 116, 97, 116, 105, 99, 47]⟩, .func (.func 47) #[] #[]]) rfl hb6 rfl (st_one _ _ _ _) (by kernel_rfl) ?_; intro w7a hb7 hF7 hs7))
  obtain ⟨gx0, hgx⟩ : ∃ gx0, gx0 = w5.heap.size := ⟨_, rfl⟩
  rw [← hgx] at hb6 hb7 hF7 ⊢
  have hF57 : Frm (New w5) w5 w7a := hF6.trans (hF7.mono (fun q e => by have e2 : q = gx0 := e; unfold New; omega))
  have hb7a := HB5.out.fresh hF57
  have hbr7a := HBR5.out.fresh hF57
  have hb27a := HB25.out.fresh hF57
  have hF07a := HF05.out.then_new Up.new hF57
  have hlx7 := hb7.lt
  have hlm7a := hb27a.lt
  have hlA7a := hb7a.lt
  have hlr7a := hbr7a.lt
  clear hgx hb6 hF6 hs6 hF7 hs7 hF57 HB5 HBR5 HB25 HF05 ha0 ha1 hy3 hlA5 hlm5 hlr5
  have hx0 := hb7.cell 0
  have hx1 := hb7.cell 1
  simp only [List.getElem?_toArray, List.getElem?_cons_zero, List.getElem?_cons_succ] at hx0 hx1
  have hy3 := hbr7a.cell 3
  simp only [List.getElem?_toArray, List.getElem?_cons_zero, List.getElem?_cons_succ] at hy3
  have HB7 := Lib.hid hb7
  have HB7A := Lib.hid hb7a
  have HBR7A := Lib.hid hbr7a
  have HB27A := Lib.hid hb27a
  have HF07A := Lib.hid hF07a
  clear hb7 hb7a hbr7a hb27a hF07a
  have hcp7 := HCP.out pa bStat w7a
  cases hhp : Lib.hasPrefix pa bStat with
  | true =>
    have hcu : cut? bStat pa = some (pa.drop bStat.length) := by unfold cut?; rw [if_pos hhp]
    have htp : Lib.trimPrefix pa bStat = pa.drop bStat.length := by unfold Lib.trimPrefix; rw [if_pos hhp]
    rw [hhp, htp] at hcp7
    have hxl : (pa.drop bStat.length).length ≤ 1099511627776 := by rw [List.length_drop]; omega
    have HCP7 := Lib.hid hcp7
    have HCU := Lib.hid hcu
    clear hcp7 hcu
    clear htp hhp
    go_wp2_with (first
      | (go_at_call 50; refine HCP7.out.mono ?_; rintro e w' ⟨rfl, hw⟩; rw [← hw]; clear hw w')
      | (refine wpList_load_agg agR rfl rfl rfl HBR7A.out rfl ?_)
      | (go_at_call 47; refine (HFX.out _ _ HF07A.out).mono ?_; rintro e w9 ⟨m, rfl, hm⟩; have hbx := HB27A.out.fresh hm.frm)
      | (refine wpList_store_agg rfl rfl rfl rfl hbx rfl (msg_one _ _ _ _ _ _ _ _ _) (by kernel_rfl) ?_; intro w10 hb10 hF10 hs10))
    refine bodyPost_ret (results_agg agM rfl rfl hb10 rfl) rfl ?_
    rw [← HQQ.out]
    exact KeyedR.same HK.out (hm.done HF07A.out hgw hlm7a hF10) (by unfold hPath; simp only [HCU.out])
  | false =>
  have hcn0 : cut? bStat pa = none := by unfold cut?; rw [if_neg (by rw [hhp]; exact Bool.noConfusion)]
  rw [hhp] at hcp7
  have HCP7 := Lib.hid hcp7
  have HCN0 := Lib.hid hcn0
  clear hcp7 hcn0
  clear hhp
  obtain ⟨tp, htp⟩ : ∃ tp, tp = Lib.trimPrefix pa bStat := ⟨_, rfl⟩
  have hcp8 := HCP7.out
  rw [← htp] at hcp8
  clear htp HCP7
  have HCP8 := Lib.hid hcp8
  clear hcp8
  go_wp2_with (go_at_call 50; refine HCP8.out.mono ?_; rintro e w' ⟨rfl, hw⟩; rw [← hw]; clear hw w')
  have ha0 := HB7A.out.cell 2
  have ha1 := HB7A.out.cell 3
  simp only [List.getElem?_toArray, List.getElem?_cons_zero, List.getElem?_cons_succ] at ha0 ha1
  clear hx0 hx1 hlx7 HCP8 HB7
  rw [rounds_succ]
  go_upto_region 4 with (first
    | (refine wpList_new rfl rfl zSt rfl ?_; intro w6 hb6 hF6 hs6)
    | (refine wpList_store_agg rfl rfl rfl (cs := #[.string ⟨#[47, 107, 118, 47]⟩, .func (.func 48) #[.pointer (some ⟨p, 0, none⟩)] #[]]) rfl hb6 rfl (st_one _ _ _ _) (by kernel_rfl) ?_; intro w7b hb7 hF7 hs7))
  obtain ⟨gx1, hgx⟩ : ∃ gx1, gx1 = w7a.heap.size := ⟨_, rfl⟩
  rw [← hgx] at hb6 hb7 hF7 ⊢
  have hF57 : Frm (New w7a) w7a w7b := hF6.trans (hF7.mono (fun q e => by have e2 : q = gx1 := e; unfold New; omega))
  have hb7b := HB7A.out.fresh hF57
  have hbr7b := HBR7A.out.fresh hF57
  have hb27b := HB27A.out.fresh hF57
  have hF07b := HF07A.out.then_new Up.new hF57
  have hlx7 := hb7.lt
  have hlm7b := hb27b.lt
  have hlA7b := hb7b.lt
  have hlr7b := hbr7b.lt
  clear hgx hb6 hF6 hs6 hF7 hs7 hF57 HB7A HBR7A HB27A HF07A ha0 ha1 hy3 hlA7a hlm7a hlr7a
  have hx0 := hb7.cell 0
  have hx1 := hb7.cell 1
  simp only [List.getElem?_toArray, List.getElem?_cons_zero, List.getElem?_cons_succ] at hx0 hx1
  have hy3 := hbr7b.cell 3
  simp only [List.getElem?_toArray, List.getElem?_cons_zero, List.getElem?_cons_succ] at hy3
  have HB7 := Lib.hid hb7
  have HB7B := Lib.hid hb7b
  have HBR7B := Lib.hid hbr7b
  have HB27B := Lib.hid hb27b
  have HF07B := Lib.hid hF07b
  clear hb7 hb7b hbr7b hb27b hF07b
  have hcp7 := HCP.out pa bKv w7b
  cases hhp : Lib.hasPrefix pa bKv with
  | true =>
    have hcu : cut? bKv pa = some (pa.drop bKv.length) := by unfold cut?; rw [if_pos hhp]
    have htp : Lib.trimPrefix pa bKv = pa.drop bKv.length := by unfold Lib.trimPrefix; rw [if_pos hhp]
    rw [hhp, htp] at hcp7
    have hxl : (pa.drop bKv.length).length ≤ 1099511627776 := by rw [List.length_drop]; omega
    have HCP7 := Lib.hid hcp7
    have HCU := Lib.hid hcu
    clear hcp7 hcu
    clear htp hhp
    go_wp2_with (first
      | (go_at_call 50; refine HCP7.out.mono ?_; rintro e w' ⟨rfl, hw⟩; rw [← hw]; clear hw w')
      | (refine wpList_load_agg agR rfl rfl rfl HBR7B.out rfl ?_)
      | (go_at_call 48; refine (HKE.out _ hxl _ HF07B.out).mono ?_; rintro e w9 ⟨m, L', rfl, hm, hK9, hs9, ho9⟩; have hbx := HB27B.out.keep hm.frm (fun e => by rcases e with e | e; exact absurd e (by omega); exact absurd hlm7b (by unfold New at e; omega)))
      | (refine wpList_store_agg rfl rfl rfl rfl hbx rfl (msg_one _ _ _ _ _ _ _ _ _) (by kernel_rfl) ?_; intro w10 hb10 hF10 hs10))
    refine bodyPost_ret (results_agg agM rfl rfl hb10 rfl) rfl ?_
    rw [← HQQ.out]
    obtain ⟨k1, k2, k3⟩ := keyed_done HK.out hm hK9 ho9 HF07B.out hgw hlm7b hF10
    have e : hPath (sto L) (⟨me, sc, au, pa, fs, b, ts⟩ : RQ) = hKeyed (sto L) (⟨me, sc, au, pa, fs, b, ts⟩ : RQ) (pa.drop bKv.length) := by unfold hPath; simp only [HCU.out, HCN0.out]
    rw [e]
    exact ⟨m, L', rfl, k1, k2, hs9, k3⟩
  | false =>
  have hcn1 : cut? bKv pa = none := by unfold cut?; rw [if_neg (by rw [hhp]; exact Bool.noConfusion)]
  rw [hhp] at hcp7
  have HCP7 := Lib.hid hcp7
  have HCN1 := Lib.hid hcn1
  clear hcp7 hcn1
  clear hhp
  obtain ⟨tp, htp⟩ : ∃ tp, tp = Lib.trimPrefix pa bKv := ⟨_, rfl⟩
  have hcp8 := HCP7.out
  rw [← htp] at hcp8
  clear htp HCP7
  have HCP8 := Lib.hid hcp8
  clear hcp8
  go_wp2_with (go_at_call 50; refine HCP8.out.mono ?_; rintro e w' ⟨rfl, hw⟩; rw [← hw]; clear hw w')
  have ha0 := HB7B.out.cell 4
  have ha1 := HB7B.out.cell 5
  simp only [List.getElem?_toArray, List.getElem?_cons_zero, List.getElem?_cons_succ] at ha0 ha1
  clear hx0 hx1 hlx7 HCP8 HB7
  rw [rounds_succ]
  go_upto_region 4 with (first
    | (refine wpList_new rfl rfl zSt rfl ?_; intro w6 hb6 hF6 hs6)
    | (refine wpList_store_agg rfl rfl rfl (cs := #[.string ⟨#[47, 103, 111, 47]⟩, .func (.func 49) #[] #[]]) rfl hb6 rfl (st_one _ _ _ _) (by kernel_rfl) ?_; intro w7c hb7 hF7 hs7))
  obtain ⟨gx2, hgx⟩ : ∃ gx2, gx2 = w7b.heap.size := ⟨_, rfl⟩
  rw [← hgx] at hb6 hb7 hF7 ⊢
  have hF57 : Frm (New w7b) w7b w7c := hF6.trans (hF7.mono (fun q e => by have e2 : q = gx2 := e; unfold New; omega))
  have hb7c := HB7B.out.fresh hF57
  have hbr7c := HBR7B.out.fresh hF57
  have hb27c := HB27B.out.fresh hF57
  have hF07c := HF07B.out.then_new Up.new hF57
  have hlx7 := hb7.lt
  have hlm7c := hb27c.lt
  have hlA7c := hb7c.lt
  have hlr7c := hbr7c.lt
  clear hgx hb6 hF6 hs6 hF7 hs7 hF57 HB7B HBR7B HB27B HF07B ha0 ha1 hy3 hlA7b hlm7b hlr7b
  have hx0 := hb7.cell 0
  have hx1 := hb7.cell 1
  simp only [List.getElem?_toArray, List.getElem?_cons_zero, List.getElem?_cons_succ] at hx0 hx1
  have hy3 := hbr7c.cell 3
  simp only [List.getElem?_toArray, List.getElem?_cons_zero, List.getElem?_cons_succ] at hy3
  have HB7 := Lib.hid hb7
  have HB7C := Lib.hid hb7c
  have HBR7C := Lib.hid hbr7c
  have HB27C := Lib.hid hb27c
  have HF07C := Lib.hid hF07c
  clear hb7 hb7c hbr7c hb27c hF07c
  have hcp7 := HCP.out pa bGo w7c
  cases hhp : Lib.hasPrefix pa bGo with
  | true =>
    have hcu : cut? bGo pa = some (pa.drop bGo.length) := by unfold cut?; rw [if_pos hhp]
    have htp : Lib.trimPrefix pa bGo = pa.drop bGo.length := by unfold Lib.trimPrefix; rw [if_pos hhp]
    rw [hhp, htp] at hcp7
    have hxl : (pa.drop bGo.length).length ≤ 1099511627776 := by rw [List.length_drop]; omega
    have HCP7 := Lib.hid hcp7
    have HCU := Lib.hid hcu
    clear hcp7 hcu
    clear htp hhp
    go_wp2_with (first
      | (go_at_call 50; refine HCP7.out.mono ?_; rintro e w' ⟨rfl, hw⟩; rw [← hw]; clear hw w')
      | (refine wpList_load_agg agR rfl rfl rfl HBR7C.out rfl ?_)
      | (go_at_call 49; refine (HEL.out _ hxl _ HF07C.out).mono ?_; rintro e w9 ⟨m, rfl, hm⟩; have hbx := HB27C.out.fresh hm.frm)
      | (refine wpList_store_agg rfl rfl rfl rfl hbx rfl (msg_one _ _ _ _ _ _ _ _ _) (by kernel_rfl) ?_; intro w10 hb10 hF10 hs10))
    refine bodyPost_ret (results_agg agM rfl rfl hb10 rfl) rfl ?_
    rw [← HQQ.out]
    exact KeyedR.same HK.out (hm.done HF07C.out hgw hlm7c hF10) (by unfold hPath; simp only [HCU.out, HCN0.out, HCN1.out])
  | false =>
  have hcn2 : cut? bGo pa = none := by unfold cut?; rw [if_neg (by rw [hhp]; exact Bool.noConfusion)]
  rw [hhp] at hcp7
  have HCP7 := Lib.hid hcp7
  have HCN2 := Lib.hid hcn2
  clear hcp7 hcn2
  clear hhp
  obtain ⟨tp, htp⟩ : ∃ tp, tp = Lib.trimPrefix pa bGo := ⟨_, rfl⟩
  have hcp8 := HCP7.out
  rw [← htp] at hcp8
  clear htp HCP7
  have HCP8 := Lib.hid hcp8
  clear hcp8
  go_wp2_with (go_at_call 50; refine HCP8.out.mono ?_; rintro e w' ⟨rfl, hw⟩; rw [← hw]; clear hw w')
  have ha0 := HB7C.out.cell 6
  have ha1 := HB7C.out.cell 7
  clear ha0 ha1
  clear hx0 hx1 hlx7 HCP8 HB7
  rw [rounds_succ]
  have hrest : hPath (sto L) (⟨me, sc, au, pa, fs, b, ts⟩ : RQ) = (hRest (⟨me, sc, au, pa, fs, b, ts⟩ : RQ), sto L) := by unfold hPath; simp only [HCN0.out, HCN1.out, HCN2.out]
  have hbrc := HBR7C.out
  clear hy3
  have hy0 := hbrc.cell 0
  have hy3 := hbrc.cell 3
  simp only [List.getElem?_toArray, List.getElem?_cons_zero, List.getElem?_cons_succ] at hy0 hy3
  clear hbrc
  have HREST := Lib.hid hrest
  clear hrest
  by_cases h1 : pa = bEcho
  · subst h1
    have e : hRest ⟨me, sc, au, bEcho, fs, b, ts⟩ = hEcho ⟨me, sc, au, bEcho, fs, b, ts⟩ := by unfold hRest; rw [if_pos rfl]
    go_wp2_with (first
      | (refine wpList_load_agg agR rfl rfl rfl HBR7C.out rfl ?_)
      | (go_at_call 51; refine (HEC.out _ HF07C.out).mono ?_; rintro e w9 ⟨m, rfl, hm⟩; have hbx := HB27C.out.fresh hm.frm)
      | (refine wpList_store_agg rfl rfl rfl rfl hbx rfl (msg_one _ _ _ _ _ _ _ _ _) (by kernel_rfl) ?_; intro w10 hb10 hF10 hs10))
    refine bodyPost_ret (results_agg agM rfl rfl hb10 rfl) rfl ?_
    rw [← HQQ.out]
    exact KeyedR.same HK.out (hm.done HF07C.out hgw hlm7c hF10) (by rw [HREST.out, e])
  have a1 : (pa == [47, 101, 99, 104, 111]) = false := beq_eq_false_iff_ne.2 h1
  have a2 : ¬ pa = [47, 101, 99, 104, 111] := h1
  by_cases h2 : pa = bSum
  · subst h2
    have e : hRest ⟨me, sc, au, bSum, fs, b, ts⟩ = hSum ⟨me, sc, au, bSum, fs, b, ts⟩ := by unfold hRest; rw [if_neg h1, if_pos rfl]
    clear h1
    go_wp2_with (first
      | (refine wpList_load_agg agR rfl rfl rfl HBR7C.out rfl ?_)
      | (go_at_call 52; refine (HSU.out _ HF07C.out).mono ?_; rintro e w9 ⟨m, rfl, hm⟩; have hbx := HB27C.out.fresh hm.frm)
      | (refine wpList_store_agg rfl rfl rfl rfl hbx rfl (msg_one _ _ _ _ _ _ _ _ _) (by kernel_rfl) ?_; intro w10 hb10 hF10 hs10))
    refine bodyPost_ret (results_agg agM rfl rfl hb10 rfl) rfl ?_
    rw [← HQQ.out]
    exact KeyedR.same HK.out (hm.done HF07C.out hgw hlm7c hF10) (by rw [HREST.out, e])
  have b1 : (pa == [47, 115, 117, 109]) = false := beq_eq_false_iff_ne.2 h2
  have b2 : ¬ pa = [47, 115, 117, 109] := h2
  have han : ∀ (w' : World) (g : Nat), Frm (New w) w w' → Rd w' (some ⟨g, 0, none⟩) (fvs [(bAllow, bAll)]) → Calls Tryz.prog 29 #[.int .i64 204, .slice none 0 0, .slice (some ⟨g, 0, none⟩) 1 1] w' (AnR w' (ans 204 [] [(bAllow, bAll)])) := fun w' g f h => answer_any 204 (by decide) none 0 [] _ 1 [(bAllow, bAll)] w' Rd.nil h (Nat.zero_le _) (by decide) (hT.fresh f)
  have hopt : (pa = [47] ∨ pa = [42]) ∨ (¬ pa = [47] ∧ ¬ pa = [42]) := by
    by_cases h3 : pa = [47]
    · exact .inl (.inl h3)
    · by_cases h4 : pa = [42]
      · exact .inl (.inr h4)
      · exact .inr ⟨h3, h4⟩
  have HAN := Lib.hid han
  clear han
  have hnq : ¬ ((pa = [47] ∨ pa = [42]) ∧ me = bOpt) → hRest (⟨me, sc, au, pa, fs, b, ts⟩ : RQ) = hNone := fun h => by unfold hRest; rw [if_neg h1, if_neg h2, if_neg h]
  have hyq : ((pa = [47] ∨ pa = [42]) ∧ me = bOpt) → hRest (⟨me, sc, au, pa, fs, b, ts⟩ : RQ) = ans 204 [] [(bAllow, bAll)] := fun h => by unfold hRest; rw [if_neg h1, if_neg h2, if_pos h]
  clear h1 h2
  have HNQ := Lib.hid hnq
  have HYQ := Lib.hid hyq
  clear hnq hyq
  by_cases ho : me = bOpt
  · rcases hopt with (hp | hp) | ⟨hp1, hp2⟩
    · have hyy : (pa = [47] ∨ pa = [42]) ∧ me = bOpt := ⟨.inl hp, ho⟩
      subst hp ho
      have HYY := Lib.hid hyy
      clear hyy
      go_wp2_with (first
        | (go_at_call 29; refine (HAN.out _ _ (HF07C.out.alloc Up.new _) (Rd.new w7c _ _)).mono ?_; rintro e w9 ⟨m, rfl, hm⟩; have hbx := (HB27C.out.alloc _).fresh hm.frm)
        | (refine wpList_store_agg rfl rfl rfl rfl hbx rfl (msg_one _ _ _ _ _ _ _ _ _) (by kernel_rfl) ?_; intro w10 hb10 hF10 hs10))
      refine bodyPost_ret (results_agg agM rfl rfl hb10 rfl) rfl ?_
      rw [← HQQ.out]
      exact KeyedR.same HK.out (hm.done (HF07C.out.alloc Up.new _) hgw ((HB27C.out.alloc _).lt) hF10) (by rw [HREST.out, HYQ.out HYY.out])
    · have hyy : (pa = [47] ∨ pa = [42]) ∧ me = bOpt := ⟨.inr hp, ho⟩
      subst hp ho
      have HYY := Lib.hid hyy
      clear hyy
      go_wp2_with (first
        | (go_at_call 29; refine (HAN.out _ _ (HF07C.out.alloc Up.new _) (Rd.new w7c _ _)).mono ?_; rintro e w9 ⟨m, rfl, hm⟩; have hbx := (HB27C.out.alloc _).fresh hm.frm)
        | (refine wpList_store_agg rfl rfl rfl rfl hbx rfl (msg_one _ _ _ _ _ _ _ _ _) (by kernel_rfl) ?_; intro w10 hb10 hF10 hs10))
      refine bodyPost_ret (results_agg agM rfl rfl hb10 rfl) rfl ?_
      rw [← HQQ.out]
      exact KeyedR.same HK.out (hm.done (HF07C.out.alloc Up.new _) hgw ((HB27C.out.alloc _).lt) hF10) (by rw [HREST.out, HYQ.out HYY.out])
    · have hnn : ¬ ((pa = [47] ∨ pa = [42]) ∧ me = bOpt) := fun h => by rcases h.1 with h | h; exact hp1 h; exact hp2 h
      have d1 : (pa == [47]) = false := beq_eq_false_iff_ne.2 hp1
      have d2 : (pa == [42]) = false := beq_eq_false_iff_ne.2 hp2
      have HNN := Lib.hid hnn
      clear hnn
      go_wp2_with (first
        | (go_at_call 53; refine (HNO.out _ HF07C.out).mono ?_; rintro e w9 ⟨m, rfl, hm⟩; have hbx := HB27C.out.fresh hm.frm)
        | (refine wpList_store_agg rfl rfl rfl rfl hbx rfl (msg_one _ _ _ _ _ _ _ _ _) (by kernel_rfl) ?_; intro w10 hb10 hF10 hs10))
      refine bodyPost_ret (results_agg agM rfl rfl hb10 rfl) rfl ?_
      rw [← HQQ.out]
      exact KeyedR.same HK.out (hm.done HF07C.out hgw hlm7c hF10) (by rw [HREST.out, HNQ.out HNN.out])
  · have hnn : ¬ ((pa = [47] ∨ pa = [42]) ∧ me = bOpt) := fun h => ho h.2
    have o1 : (me == [79, 80, 84, 73, 79, 78, 83]) = false := beq_eq_false_iff_ne.2 ho
    have o2 : ¬ me = [79, 80, 84, 73, 79, 78, 83] := ho
    rcases hopt with (hp | hp) | ⟨hp1, hp2⟩
    · subst hp
      have HNN := Lib.hid hnn
      clear hnn
      go_wp2_with (first
        | (go_at_call 53; refine (HNO.out _ HF07C.out).mono ?_; rintro e w9 ⟨m, rfl, hm⟩; have hbx := HB27C.out.fresh hm.frm)
        | (refine wpList_store_agg rfl rfl rfl rfl hbx rfl (msg_one _ _ _ _ _ _ _ _ _) (by kernel_rfl) ?_; intro w10 hb10 hF10 hs10))
      refine bodyPost_ret (results_agg agM rfl rfl hb10 rfl) rfl ?_
      rw [← HQQ.out]
      exact KeyedR.same HK.out (hm.done HF07C.out hgw hlm7c hF10) (by rw [HREST.out, HNQ.out HNN.out])
    · subst hp
      have HNN := Lib.hid hnn
      clear hnn
      go_wp2_with (first
        | (go_at_call 53; refine (HNO.out _ HF07C.out).mono ?_; rintro e w9 ⟨m, rfl, hm⟩; have hbx := HB27C.out.fresh hm.frm)
        | (refine wpList_store_agg rfl rfl rfl rfl hbx rfl (msg_one _ _ _ _ _ _ _ _ _) (by kernel_rfl) ?_; intro w10 hb10 hF10 hs10))
      refine bodyPost_ret (results_agg agM rfl rfl hb10 rfl) rfl ?_
      rw [← HQQ.out]
      exact KeyedR.same HK.out (hm.done HF07C.out hgw hlm7c hF10) (by rw [HREST.out, HNQ.out HNN.out])
    · have d1 : (pa == [47]) = false := beq_eq_false_iff_ne.2 hp1
      have d2 : (pa == [42]) = false := beq_eq_false_iff_ne.2 hp2
      have HNN := Lib.hid hnn
      clear hnn
      go_wp2_with (first
        | (go_at_call 53; refine (HNO.out _ HF07C.out).mono ?_; rintro e w9 ⟨m, rfl, hm⟩; have hbx := HB27C.out.fresh hm.frm)
        | (refine wpList_store_agg rfl rfl rfl rfl hbx rfl (msg_one _ _ _ _ _ _ _ _ _) (by kernel_rfl) ?_; intro w10 hb10 hF10 hs10))
      refine bodyPost_ret (results_agg agM rfl rfl hb10 rfl) rfl ?_
      rw [← HQQ.out]
      exact KeyedR.same HK.out (hm.done HF07C.out hgw hlm7c hF10) (by rw [HREST.out, HNQ.out HNN.out])
end Go.Proofs.YtpojejdddgdjdaaGreatDoor.M
