/- fixed, elsewhere: what the handler answers to what never changes. Strings below 2^62. -/
import Derived.BigQuiet
import Derived.Deep.CutBlock
import Derived.Lib.Hide
import Derived.IntWalk
import Derived.Laws.IdiomStrings
import Derived.Test.YtpojejdddgdjdaaGreatDoorHab
import Derived.Test.YtpojejdddgdjdaaGreatDoorStr
namespace Go.Proofs.YtpojejdddgdjdaaGreatDoor.M
open Go.ChangeShapes Go.WideShapes Go.ChangeAt Go.RowKit
theorem wpList_tobytes {ops : Array Oper} {rest : List Oper} {o : Oper} {a : Act} {Q : Exit → Act → World → Prop} {w : World} (hgd : o.guard = none) {x : Operand} (ho : o.op = .convert 9 28 x) {s : Bytes} (hx : a.eval x = .string ⟨s.toArray⟩)
    (h : ∀ c w', Rd w' (some ⟨w.heap.size, 0, none⟩) (bvs s) → Frm (New w) w w' → wpList Tryz.prog ops Q rest (a.put o.dst (.slice (some ⟨w.heap.size, 0, none⟩) s.length c)) w') : wpList Tryz.prog ops Q (o :: rest) a w := by
  have hr := run_bytes_of_string w 9 28 5 ⟨s.toArray⟩ u9 Tryz.underlying28 Tryz.underlying5
  have hsz : (⟨s.toArray⟩ : ByteArray).size = s.length := by simp [ByteArray.size]
  refine wpList_run hgd (v := .slice (some ⟨w.heap.size, 0, none⟩) s.length (grownCap w (⟨s.toArray⟩ : ByteArray).size 0 5)) (w' := w.drew.alloc (.cells (bytesRow ⟨s.toArray⟩ (grownCap w (⟨s.toArray⟩ : ByteArray).size 0 5)) 5 ((bytesRow ⟨s.toArray⟩ (grownCap w (⟨s.toArray⟩ : ByteArray).size 0 5)).size, (bytesRow ⟨s.toArray⟩ (grownCap w (⟨s.toArray⟩ : ByteArray).size 0 5)).size + 1))) ?_ (h _ _ ?_ (((Frm.refl _ w).drew).alloc Up.new _))
  · unfold execOp
    simp only [ho, hx, Sem.run_bind, hr, Result.andThen_ok, Sem.run_pure, hsz]
  · intro j u hu
    have hj : j < s.length := by
      have := (List.getElem?_eq_some_iff.1 hu).1
      simpa [bvs] using this
    refine ⟨w.heap.size, 0, rfl, ?_⟩
    have hh := heap_alloc_new w.drew (.cells (bytesRow ⟨s.toArray⟩ (grownCap w (⟨s.toArray⟩ : ByteArray).size 0 5)) 5 ((bytesRow ⟨s.toArray⟩ (grownCap w (⟨s.toArray⟩ : ByteArray).size 0 5)).size, (bytesRow ⟨s.toArray⟩ (grownCap w (⟨s.toArray⟩ : ByteArray).size 0 5)).size + 1))
    refine (cell_of_row _ w.heap.size (0 + j) _ _ _ hh).trans ?_
    rw [Nat.zero_add, bytesRow_at _ _ _ (by simpa using hj)]
    rw [← hu]
    simp [bvs, bv, hj]
set_option maxRecDepth 100000 in
set_option maxHeartbeats 2000000 in
theorem fixed_any (r : RV) (x : Bytes) (w : World) (hr : RIn w r) (hT : PT w) : Calls Tryz.prog 47 #[.agg r.cells, .string ⟨x.toArray⟩] w (AnR w (hFixed r.q x)) := by
  obtain ⟨me, sc, au, pa, A1, c1, fs, A2, c2, b, A3, c3, ts⟩ := r
  simp only [RV.cells, RV.q] at *
  have hfr : ∀ (w : World) t cs, Frm (New w) w (w.alloc (.cells cs t)) := fun w t cs => (Frm.refl _ w).alloc Up.new _
  have hs1 : ∀ (w : World) (t : TypeId) cs, (w.alloc (.cells cs t)).heap.size = w.heap.size + 1 := fun w t cs => by simp
  have hrd := fun (m : Bytes) (w' : World) => reads_any m w'
  have hno := fun (w' : World) (f : Frm (New w) w w') => none_any w' (hT.fresh f)
  have hnt := fun (a : Bytes) (w' : World) (f : Frm (New w) w w') => not_any a w' (hT.fresh f)
  have han : ∀ (s : Bytes) (w' : World) (A : Option Addr) (c : Nat) (B : Option Addr) (d : Nat), s.length ≤ 100 → Frm (New w) w w' → Rd w' A (bvs s) → Rd w' B (fvs [(bCT, bTP)]) → Calls Tryz.prog 29 #[.int .i64 200, .slice A s.length c, .slice B 1 d] w' (AnR w' (ans 200 s [(bCT, bTP)])) := fun s w' A c B d hs f h1 h2 => answer_any 200 (by decide) A c s B d [(bCT, bTP)] w' h1 h2 (by omega) (by simp) (hT.fresh f)
  have HFR := Lib.hid hfr
  have HS1 := Lib.hid hs1
  have HRD := Lib.hid hrd
  have HNO := Lib.hid hno
  have HNT := Lib.hid hnt
  have HR := Lib.hid hr
  have HAN := Lib.hid han
  clear hfr hs1 hrd hno hnt hr han
  by_cases hbRed : x = bRed
  · subst hbRed
    cases hme : hReads me with
    | false =>
      have hq : hFixed ⟨me, sc, au, pa, fs, b, ts⟩ bRed = hNot bRead := by
        unfold hFixed
        rw [if_pos (by decide), hme]; rfl
      rw [hq]
      have hrm := fun w' => HRD.out me w'
      rw [hme] at hrm
      clear hq hme
      have HRM := Lib.hid hrm
      clear hrm
      obtain ⟨CA, hCA⟩ : ∃ CA, CA = (#[.string ⟨me.toArray⟩, .string ⟨sc.toArray⟩, .string ⟨au.toArray⟩, .string ⟨pa.toArray⟩, .slice A1 fs.length c1, .slice A2 b.length c2, .slice A3 ts.length c3] : Array Value) := ⟨_, rfl⟩
      go_enter Tryz.func47, Tryz.ntmps47
      go_upto_region 1 with (fail)
      rw [← hCA]
      have hb1 := Blk.new w 32 CA
      have hF1 := HFR.out w 32 CA
      have hz1 := HS1.out w 32 CA
      generalize w.alloc (.cells CA 32) = w1 at *
      have hb2 := Blk.new w1 30 #[.slice none 0 0, .slice none 0 0, .slice none 0 0]
      have hF2 := HFR.out w1 30 #[.slice none 0 0, .slice none 0 0, .slice none 0 0]
      generalize w1.alloc (.cells #[.slice none 0 0, .slice none 0 0, .slice none 0 0] 30) = w2 at *
      have hbr := hb1.fresh hF2
      have hF02 := hF1.then_new Up.new hF2
      rw [hz1] at hb2
      rw [hCA] at hbr
      obtain ⟨gr, hgr⟩ : ∃ gr, gr = w.heap.size := ⟨_, rfl⟩
      rw [← hgr] at hbr hb2 hz1 ⊢
      obtain ⟨gm, hgm⟩ : ∃ gm, gm = gr + 1 := ⟨_, rfl⟩
      rw [← hgm] at hb2
      try rw [hz1]
      try rw [← hgm]
      have hgw : w.heap.size ≤ gm := by omega
      have hgrw : w.heap.size ≤ gr := by omega
      have hlm := hb2.lt
      have hlr := hbr.lt
      clear hb1 hF1 hF2 hgr hgm hz1 hCA
      have hy0 := hbr.cell 0
      simp only [List.getElem?_toArray, List.getElem?_cons_zero] at hy0
      have HBR := Lib.hid hbr
      have HB2 := Lib.hid hb2
      have HF02 := Lib.hid hF02
      clear hbr hb2 hF02
      go_wp2_with (first
        | (go_at_call 62; refine (HRM.out _).mono ?_; rintro e w' ⟨rfl, hw⟩; rw [← hw]; clear hw w')
        | (go_at_call 63; refine (HNT.out bRead _ HF02.out).mono ?_; rintro e w3 ⟨m, rfl, hm⟩; have hbx := HB2.out.fresh hm.frm)
        | (refine wpList_store_agg rfl rfl rfl rfl hbx rfl (msg_one _ _ _ _ _ _ _ _ _) (by kernel_rfl) ?_; intro w8 hb8 hF8 hs8))
      refine bodyPost_ret (results_agg agM rfl rfl hb8 rfl) rfl ?_
      exact ⟨m, rfl, hm.done HF02.out hgw hlm hF8⟩
    | true =>
      have hq : hFixed ⟨me, sc, au, pa, fs, b, ts⟩ bRed = ans 200 (bRed ++ bColour) [(bCT, bTP)] := by
        unfold hFixed
        rw [if_pos (by decide), hme]; rfl
      rw [hq]
      have hrm := fun w' => HRD.out me w'
      rw [hme] at hrm
      clear hq hme
      have HRM := Lib.hid hrm
      clear hrm
      obtain ⟨y, hy⟩ : ∃ y, y = bRed ++ bColour := ⟨_, rfl⟩
      have hyl : y.length ≤ 100 := by rw [hy]; decide
      have hcat : (⟨List.toArray bRed⟩ : ByteArray) ++ ⟨#[32, 105, 115, 32, 97, 32, 99, 111, 108, 111, 117, 114]⟩ = ⟨y.toArray⟩ := by rw [hy]; rfl
      rw [← hy]
      have HY := Lib.hid hy
      clear hy
      obtain ⟨CA, hCA⟩ : ∃ CA, CA = (#[.string ⟨me.toArray⟩, .string ⟨sc.toArray⟩, .string ⟨au.toArray⟩, .string ⟨pa.toArray⟩, .slice A1 fs.length c1, .slice A2 b.length c2, .slice A3 ts.length c3] : Array Value) := ⟨_, rfl⟩
      go_enter Tryz.func47, Tryz.ntmps47
      go_upto_region 1 with (fail)
      rw [← hCA]
      have hb1 := Blk.new w 32 CA
      have hF1 := HFR.out w 32 CA
      have hz1 := HS1.out w 32 CA
      generalize w.alloc (.cells CA 32) = w1 at *
      have hb2 := Blk.new w1 30 #[.slice none 0 0, .slice none 0 0, .slice none 0 0]
      have hF2 := HFR.out w1 30 #[.slice none 0 0, .slice none 0 0, .slice none 0 0]
      generalize w1.alloc (.cells #[.slice none 0 0, .slice none 0 0, .slice none 0 0] 30) = w2 at *
      have hbr := hb1.fresh hF2
      have hF02 := hF1.then_new Up.new hF2
      rw [hz1] at hb2
      rw [hCA] at hbr
      obtain ⟨gr, hgr⟩ : ∃ gr, gr = w.heap.size := ⟨_, rfl⟩
      rw [← hgr] at hbr hb2 hz1 ⊢
      obtain ⟨gm, hgm⟩ : ∃ gm, gm = gr + 1 := ⟨_, rfl⟩
      rw [← hgm] at hb2
      try rw [hz1]
      try rw [← hgm]
      have hgw : w.heap.size ≤ gm := by omega
      have hgrw : w.heap.size ≤ gr := by omega
      have hlm := hb2.lt
      have hlr := hbr.lt
      clear hb1 hF1 hF2 hgr hgm hz1 hCA
      have hy0 := hbr.cell 0
      simp only [List.getElem?_toArray, List.getElem?_cons_zero] at hy0
      have HBR := Lib.hid hbr
      have HB2 := Lib.hid hb2
      have HF02 := Lib.hid hF02
      clear hbr hb2 hF02
      go_upto_region 8 with (first
        | (go_at_call 62; refine (HRM.out _).mono ?_; rintro e w' ⟨rfl, hw⟩; rw [← hw]; clear hw w'))
      go_wp2_with (first
        | (refine wpList_tobytes rfl rfl (s := y) (by first | rfl | (show Value.string _ = _; rw [hcat])) ?_; intro cb w3 hRb hF3; have HF3 := Lib.hid (HF02.out.then_new Up.new hF3); have HB3 := Lib.hid (HB2.out.fresh hF3); have HRB := Lib.hid hRb; have hFl := hF3; clear hRb hF3)
        | (go_at_call 29; refine (HAN.out y _ _ cb _ 1 hyl (HF3.out.alloc Up.new _) (HRB.out.alloc _) (Rd.new w3 #[.string ⟨#[99, 111, 110, 116, 101, 110, 116, 45, 116, 121, 112, 101]⟩, .string ⟨#[116, 101, 120, 116, 47, 112, 108, 97, 105, 110]⟩] 38)).mono ?_; rintro e w5 ⟨m, rfl, hm⟩; have hbx := (HB3.out.alloc _).fresh hm.frm)
        | (refine wpList_store_agg rfl rfl rfl rfl hbx rfl (msg_one _ _ _ _ _ _ _ _ _) (by kernel_rfl) ?_; intro w8 hb8 hF8 hs8))
      refine bodyPost_ret (results_agg agM rfl rfl hb8 rfl) rfl ?_
      exact ⟨m, rfl, hm.done (HF3.out.alloc Up.new _) hgw ((HB3.out.alloc _).lt) hF8⟩
  by_cases hbGreen : x = bGreen
  · subst hbGreen
    cases hme : hReads me with
    | false =>
      have hq : hFixed ⟨me, sc, au, pa, fs, b, ts⟩ bGreen = hNot bRead := by
        unfold hFixed
        rw [if_pos (by decide), hme]; rfl
      rw [hq]
      have hrm := fun w' => HRD.out me w'
      rw [hme] at hrm
      clear hq hme
      have HRM := Lib.hid hrm
      clear hrm
      obtain ⟨CA, hCA⟩ : ∃ CA, CA = (#[.string ⟨me.toArray⟩, .string ⟨sc.toArray⟩, .string ⟨au.toArray⟩, .string ⟨pa.toArray⟩, .slice A1 fs.length c1, .slice A2 b.length c2, .slice A3 ts.length c3] : Array Value) := ⟨_, rfl⟩
      go_enter Tryz.func47, Tryz.ntmps47
      go_upto_region 1 with (fail)
      rw [← hCA]
      have hb1 := Blk.new w 32 CA
      have hF1 := HFR.out w 32 CA
      have hz1 := HS1.out w 32 CA
      generalize w.alloc (.cells CA 32) = w1 at *
      have hb2 := Blk.new w1 30 #[.slice none 0 0, .slice none 0 0, .slice none 0 0]
      have hF2 := HFR.out w1 30 #[.slice none 0 0, .slice none 0 0, .slice none 0 0]
      generalize w1.alloc (.cells #[.slice none 0 0, .slice none 0 0, .slice none 0 0] 30) = w2 at *
      have hbr := hb1.fresh hF2
      have hF02 := hF1.then_new Up.new hF2
      rw [hz1] at hb2
      rw [hCA] at hbr
      obtain ⟨gr, hgr⟩ : ∃ gr, gr = w.heap.size := ⟨_, rfl⟩
      rw [← hgr] at hbr hb2 hz1 ⊢
      obtain ⟨gm, hgm⟩ : ∃ gm, gm = gr + 1 := ⟨_, rfl⟩
      rw [← hgm] at hb2
      try rw [hz1]
      try rw [← hgm]
      have hgw : w.heap.size ≤ gm := by omega
      have hgrw : w.heap.size ≤ gr := by omega
      have hlm := hb2.lt
      have hlr := hbr.lt
      clear hb1 hF1 hF2 hgr hgm hz1 hCA
      have hy0 := hbr.cell 0
      simp only [List.getElem?_toArray, List.getElem?_cons_zero] at hy0
      have HBR := Lib.hid hbr
      have HB2 := Lib.hid hb2
      have HF02 := Lib.hid hF02
      clear hbr hb2 hF02
      go_wp2_with (first
        | (go_at_call 62; refine (HRM.out _).mono ?_; rintro e w' ⟨rfl, hw⟩; rw [← hw]; clear hw w')
        | (go_at_call 63; refine (HNT.out bRead _ HF02.out).mono ?_; rintro e w3 ⟨m, rfl, hm⟩; have hbx := HB2.out.fresh hm.frm)
        | (refine wpList_store_agg rfl rfl rfl rfl hbx rfl (msg_one _ _ _ _ _ _ _ _ _) (by kernel_rfl) ?_; intro w8 hb8 hF8 hs8))
      refine bodyPost_ret (results_agg agM rfl rfl hb8 rfl) rfl ?_
      exact ⟨m, rfl, hm.done HF02.out hgw hlm hF8⟩
    | true =>
      have hq : hFixed ⟨me, sc, au, pa, fs, b, ts⟩ bGreen = ans 200 (bGreen ++ bColour) [(bCT, bTP)] := by
        unfold hFixed
        rw [if_pos (by decide), hme]; rfl
      rw [hq]
      have hrm := fun w' => HRD.out me w'
      rw [hme] at hrm
      clear hq hme
      have HRM := Lib.hid hrm
      clear hrm
      obtain ⟨y, hy⟩ : ∃ y, y = bGreen ++ bColour := ⟨_, rfl⟩
      have hyl : y.length ≤ 100 := by rw [hy]; decide
      have hcat : (⟨List.toArray bGreen⟩ : ByteArray) ++ ⟨#[32, 105, 115, 32, 97, 32, 99, 111, 108, 111, 117, 114]⟩ = ⟨y.toArray⟩ := by rw [hy]; rfl
      rw [← hy]
      have HY := Lib.hid hy
      clear hy
      obtain ⟨CA, hCA⟩ : ∃ CA, CA = (#[.string ⟨me.toArray⟩, .string ⟨sc.toArray⟩, .string ⟨au.toArray⟩, .string ⟨pa.toArray⟩, .slice A1 fs.length c1, .slice A2 b.length c2, .slice A3 ts.length c3] : Array Value) := ⟨_, rfl⟩
      go_enter Tryz.func47, Tryz.ntmps47
      go_upto_region 1 with (fail)
      rw [← hCA]
      have hb1 := Blk.new w 32 CA
      have hF1 := HFR.out w 32 CA
      have hz1 := HS1.out w 32 CA
      generalize w.alloc (.cells CA 32) = w1 at *
      have hb2 := Blk.new w1 30 #[.slice none 0 0, .slice none 0 0, .slice none 0 0]
      have hF2 := HFR.out w1 30 #[.slice none 0 0, .slice none 0 0, .slice none 0 0]
      generalize w1.alloc (.cells #[.slice none 0 0, .slice none 0 0, .slice none 0 0] 30) = w2 at *
      have hbr := hb1.fresh hF2
      have hF02 := hF1.then_new Up.new hF2
      rw [hz1] at hb2
      rw [hCA] at hbr
      obtain ⟨gr, hgr⟩ : ∃ gr, gr = w.heap.size := ⟨_, rfl⟩
      rw [← hgr] at hbr hb2 hz1 ⊢
      obtain ⟨gm, hgm⟩ : ∃ gm, gm = gr + 1 := ⟨_, rfl⟩
      rw [← hgm] at hb2
      try rw [hz1]
      try rw [← hgm]
      have hgw : w.heap.size ≤ gm := by omega
      have hgrw : w.heap.size ≤ gr := by omega
      have hlm := hb2.lt
      have hlr := hbr.lt
      clear hb1 hF1 hF2 hgr hgm hz1 hCA
      have hy0 := hbr.cell 0
      simp only [List.getElem?_toArray, List.getElem?_cons_zero] at hy0
      have HBR := Lib.hid hbr
      have HB2 := Lib.hid hb2
      have HF02 := Lib.hid hF02
      clear hbr hb2 hF02
      go_upto_region 8 with (first
        | (go_at_call 62; refine (HRM.out _).mono ?_; rintro e w' ⟨rfl, hw⟩; rw [← hw]; clear hw w'))
      go_wp2_with (first
        | (refine wpList_tobytes rfl rfl (s := y) (by first | rfl | (show Value.string _ = _; rw [hcat])) ?_; intro cb w3 hRb hF3; have HF3 := Lib.hid (HF02.out.then_new Up.new hF3); have HB3 := Lib.hid (HB2.out.fresh hF3); have HRB := Lib.hid hRb; have hFl := hF3; clear hRb hF3)
        | (go_at_call 29; refine (HAN.out y _ _ cb _ 1 hyl (HF3.out.alloc Up.new _) (HRB.out.alloc _) (Rd.new w3 #[.string ⟨#[99, 111, 110, 116, 101, 110, 116, 45, 116, 121, 112, 101]⟩, .string ⟨#[116, 101, 120, 116, 47, 112, 108, 97, 105, 110]⟩] 38)).mono ?_; rintro e w5 ⟨m, rfl, hm⟩; have hbx := (HB3.out.alloc _).fresh hm.frm)
        | (refine wpList_store_agg rfl rfl rfl rfl hbx rfl (msg_one _ _ _ _ _ _ _ _ _) (by kernel_rfl) ?_; intro w8 hb8 hF8 hs8))
      refine bodyPost_ret (results_agg agM rfl rfl hb8 rfl) rfl ?_
      exact ⟨m, rfl, hm.done (HF3.out.alloc Up.new _) hgw ((HB3.out.alloc _).lt) hF8⟩
  by_cases hbBlue : x = bBlue
  · subst hbBlue
    cases hme : hReads me with
    | false =>
      have hq : hFixed ⟨me, sc, au, pa, fs, b, ts⟩ bBlue = hNot bRead := by
        unfold hFixed
        rw [if_pos (by decide), hme]; rfl
      rw [hq]
      have hrm := fun w' => HRD.out me w'
      rw [hme] at hrm
      clear hq hme
      have HRM := Lib.hid hrm
      clear hrm
      obtain ⟨CA, hCA⟩ : ∃ CA, CA = (#[.string ⟨me.toArray⟩, .string ⟨sc.toArray⟩, .string ⟨au.toArray⟩, .string ⟨pa.toArray⟩, .slice A1 fs.length c1, .slice A2 b.length c2, .slice A3 ts.length c3] : Array Value) := ⟨_, rfl⟩
      go_enter Tryz.func47, Tryz.ntmps47
      go_upto_region 1 with (fail)
      rw [← hCA]
      have hb1 := Blk.new w 32 CA
      have hF1 := HFR.out w 32 CA
      have hz1 := HS1.out w 32 CA
      generalize w.alloc (.cells CA 32) = w1 at *
      have hb2 := Blk.new w1 30 #[.slice none 0 0, .slice none 0 0, .slice none 0 0]
      have hF2 := HFR.out w1 30 #[.slice none 0 0, .slice none 0 0, .slice none 0 0]
      generalize w1.alloc (.cells #[.slice none 0 0, .slice none 0 0, .slice none 0 0] 30) = w2 at *
      have hbr := hb1.fresh hF2
      have hF02 := hF1.then_new Up.new hF2
      rw [hz1] at hb2
      rw [hCA] at hbr
      obtain ⟨gr, hgr⟩ : ∃ gr, gr = w.heap.size := ⟨_, rfl⟩
      rw [← hgr] at hbr hb2 hz1 ⊢
      obtain ⟨gm, hgm⟩ : ∃ gm, gm = gr + 1 := ⟨_, rfl⟩
      rw [← hgm] at hb2
      try rw [hz1]
      try rw [← hgm]
      have hgw : w.heap.size ≤ gm := by omega
      have hgrw : w.heap.size ≤ gr := by omega
      have hlm := hb2.lt
      have hlr := hbr.lt
      clear hb1 hF1 hF2 hgr hgm hz1 hCA
      have hy0 := hbr.cell 0
      simp only [List.getElem?_toArray, List.getElem?_cons_zero] at hy0
      have HBR := Lib.hid hbr
      have HB2 := Lib.hid hb2
      have HF02 := Lib.hid hF02
      clear hbr hb2 hF02
      go_wp2_with (first
        | (go_at_call 62; refine (HRM.out _).mono ?_; rintro e w' ⟨rfl, hw⟩; rw [← hw]; clear hw w')
        | (go_at_call 63; refine (HNT.out bRead _ HF02.out).mono ?_; rintro e w3 ⟨m, rfl, hm⟩; have hbx := HB2.out.fresh hm.frm)
        | (refine wpList_store_agg rfl rfl rfl rfl hbx rfl (msg_one _ _ _ _ _ _ _ _ _) (by kernel_rfl) ?_; intro w8 hb8 hF8 hs8))
      refine bodyPost_ret (results_agg agM rfl rfl hb8 rfl) rfl ?_
      exact ⟨m, rfl, hm.done HF02.out hgw hlm hF8⟩
    | true =>
      have hq : hFixed ⟨me, sc, au, pa, fs, b, ts⟩ bBlue = ans 200 (bBlue ++ bColour) [(bCT, bTP)] := by
        unfold hFixed
        rw [if_pos (by decide), hme]; rfl
      rw [hq]
      have hrm := fun w' => HRD.out me w'
      rw [hme] at hrm
      clear hq hme
      have HRM := Lib.hid hrm
      clear hrm
      obtain ⟨y, hy⟩ : ∃ y, y = bBlue ++ bColour := ⟨_, rfl⟩
      have hyl : y.length ≤ 100 := by rw [hy]; decide
      have hcat : (⟨List.toArray bBlue⟩ : ByteArray) ++ ⟨#[32, 105, 115, 32, 97, 32, 99, 111, 108, 111, 117, 114]⟩ = ⟨y.toArray⟩ := by rw [hy]; rfl
      rw [← hy]
      have HY := Lib.hid hy
      clear hy
      obtain ⟨CA, hCA⟩ : ∃ CA, CA = (#[.string ⟨me.toArray⟩, .string ⟨sc.toArray⟩, .string ⟨au.toArray⟩, .string ⟨pa.toArray⟩, .slice A1 fs.length c1, .slice A2 b.length c2, .slice A3 ts.length c3] : Array Value) := ⟨_, rfl⟩
      go_enter Tryz.func47, Tryz.ntmps47
      go_upto_region 1 with (fail)
      rw [← hCA]
      have hb1 := Blk.new w 32 CA
      have hF1 := HFR.out w 32 CA
      have hz1 := HS1.out w 32 CA
      generalize w.alloc (.cells CA 32) = w1 at *
      have hb2 := Blk.new w1 30 #[.slice none 0 0, .slice none 0 0, .slice none 0 0]
      have hF2 := HFR.out w1 30 #[.slice none 0 0, .slice none 0 0, .slice none 0 0]
      generalize w1.alloc (.cells #[.slice none 0 0, .slice none 0 0, .slice none 0 0] 30) = w2 at *
      have hbr := hb1.fresh hF2
      have hF02 := hF1.then_new Up.new hF2
      rw [hz1] at hb2
      rw [hCA] at hbr
      obtain ⟨gr, hgr⟩ : ∃ gr, gr = w.heap.size := ⟨_, rfl⟩
      rw [← hgr] at hbr hb2 hz1 ⊢
      obtain ⟨gm, hgm⟩ : ∃ gm, gm = gr + 1 := ⟨_, rfl⟩
      rw [← hgm] at hb2
      try rw [hz1]
      try rw [← hgm]
      have hgw : w.heap.size ≤ gm := by omega
      have hgrw : w.heap.size ≤ gr := by omega
      have hlm := hb2.lt
      have hlr := hbr.lt
      clear hb1 hF1 hF2 hgr hgm hz1 hCA
      have hy0 := hbr.cell 0
      simp only [List.getElem?_toArray, List.getElem?_cons_zero] at hy0
      have HBR := Lib.hid hbr
      have HB2 := Lib.hid hb2
      have HF02 := Lib.hid hF02
      clear hbr hb2 hF02
      go_upto_region 8 with (first
        | (go_at_call 62; refine (HRM.out _).mono ?_; rintro e w' ⟨rfl, hw⟩; rw [← hw]; clear hw w'))
      go_wp2_with (first
        | (refine wpList_tobytes rfl rfl (s := y) (by first | rfl | (show Value.string _ = _; rw [hcat])) ?_; intro cb w3 hRb hF3; have HF3 := Lib.hid (HF02.out.then_new Up.new hF3); have HB3 := Lib.hid (HB2.out.fresh hF3); have HRB := Lib.hid hRb; have hFl := hF3; clear hRb hF3)
        | (go_at_call 29; refine (HAN.out y _ _ cb _ 1 hyl (HF3.out.alloc Up.new _) (HRB.out.alloc _) (Rd.new w3 #[.string ⟨#[99, 111, 110, 116, 101, 110, 116, 45, 116, 121, 112, 101]⟩, .string ⟨#[116, 101, 120, 116, 47, 112, 108, 97, 105, 110]⟩] 38)).mono ?_; rintro e w5 ⟨m, rfl, hm⟩; have hbx := (HB3.out.alloc _).fresh hm.frm)
        | (refine wpList_store_agg rfl rfl rfl rfl hbx rfl (msg_one _ _ _ _ _ _ _ _ _) (by kernel_rfl) ?_; intro w8 hb8 hF8 hs8))
      refine bodyPost_ret (results_agg agM rfl rfl hb8 rfl) rfl ?_
      exact ⟨m, rfl, hm.done (HF3.out.alloc Up.new _) hgw ((HB3.out.alloc _).lt) hF8⟩
  have hq : hFixed ⟨me, sc, au, pa, fs, b, ts⟩ x = hNone := by
    unfold hFixed
    rw [if_neg (fun h => by rcases h with h | h | h; exact hbRed h; exact hbGreen h; exact hbBlue h)]
  rw [hq]
  have a1 : (x == [114, 101, 100]) = false := beq_eq_false_iff_ne.2 hbRed
  have a2 : ¬ x = [114, 101, 100] := hbRed
  have b1 : (x == [103, 114, 101, 101, 110]) = false := beq_eq_false_iff_ne.2 hbGreen
  have b2 : ¬ x = [103, 114, 101, 101, 110] := hbGreen
  have d1 : (x == [98, 108, 117, 101]) = false := beq_eq_false_iff_ne.2 hbBlue
  have d2 : ¬ x = [98, 108, 117, 101] := hbBlue
  clear hq hbRed hbGreen hbBlue
  obtain ⟨CA, hCA⟩ : ∃ CA, CA = (#[.string ⟨me.toArray⟩, .string ⟨sc.toArray⟩, .string ⟨au.toArray⟩, .string ⟨pa.toArray⟩, .slice A1 fs.length c1, .slice A2 b.length c2, .slice A3 ts.length c3] : Array Value) := ⟨_, rfl⟩
  go_enter Tryz.func47, Tryz.ntmps47
  go_upto_region 1 with (fail)
  rw [← hCA]
  have hb1 := Blk.new w 32 CA
  have hF1 := HFR.out w 32 CA
  have hz1 := HS1.out w 32 CA
  generalize w.alloc (.cells CA 32) = w1 at *
  have hb2 := Blk.new w1 30 #[.slice none 0 0, .slice none 0 0, .slice none 0 0]
  have hF2 := HFR.out w1 30 #[.slice none 0 0, .slice none 0 0, .slice none 0 0]
  generalize w1.alloc (.cells #[.slice none 0 0, .slice none 0 0, .slice none 0 0] 30) = w2 at *
  have hbr := hb1.fresh hF2
  have hF02 := hF1.then_new Up.new hF2
  rw [hz1] at hb2
  rw [hCA] at hbr
  obtain ⟨gr, hgr⟩ : ∃ gr, gr = w.heap.size := ⟨_, rfl⟩
  rw [← hgr] at hbr hb2 hz1 ⊢
  obtain ⟨gm, hgm⟩ : ∃ gm, gm = gr + 1 := ⟨_, rfl⟩
  rw [← hgm] at hb2
  try rw [hz1]
  try rw [← hgm]
  have hgw : w.heap.size ≤ gm := by omega
  have hgrw : w.heap.size ≤ gr := by omega
  have hlm := hb2.lt
  have hlr := hbr.lt
  clear hb1 hF1 hF2 hgr hgm hz1 hCA
  have hy0 := hbr.cell 0
  simp only [List.getElem?_toArray, List.getElem?_cons_zero] at hy0
  have HBR := Lib.hid hbr
  have HB2 := Lib.hid hb2
  have HF02 := Lib.hid hF02
  clear hbr hb2 hF02
  go_wp2_with (first
    | (go_at_call 53; refine (HNO.out _ HF02.out).mono ?_; rintro e w3 ⟨m, rfl, hm⟩; have hbx := HB2.out.fresh hm.frm)
    | (refine wpList_store_agg rfl rfl rfl rfl hbx rfl (msg_one _ _ _ _ _ _ _ _ _) (by kernel_rfl) ?_; intro w8 hb8 hF8 hs8))
  refine bodyPost_ret (results_agg agM rfl rfl hb8 rfl) rfl ?_
  exact ⟨m, rfl, hm.done HF02.out hgw hlm hF8⟩
end Go.Proofs.YtpojejdddgdjdaaGreatDoor.M
