/- Nf -/
import Derived.BigQuiet
import Derived.Deep.CutBlock
import Derived.Lib.Hide
import Derived.IntWalk
import Derived.Deep.LoopGhost
import Derived.Test.YtdgggjeiflllhaaZzNc
import Derived.Test.YtdgggjeiflllhaaZzNm
import Derived.Test.YtdgggjeiflllhaaZzQa

namespace Go.Proofs.Ytdgggjeiflllhaa.M
open Go.ChangeShapes Go.WideShapes Go.ChangeAt Go.RowKit
set_option maxRecDepth 100000 in
set_option maxHeartbeats 4000000 in
theorem nused_any {X Y S : Nat → Prop} {w : World} {pe g bm cr pw s mu co cl : Nat} {Ar Ao Al : Option Addr} {L : List (Nat × Ro)} {E : Qn} {ments : List (Nat × Value)} {Wr : Wq} (h : QnM X w pe g bm S Ar cr L E) (hW : WqM Y w pw pe s mu ments Ao co Al cl Wr) (p : Nat) :
    Calls Try.prog 120 #[.pointer (some ⟨pw, 0, none⟩), .int .u64 (p : Int)] w fun e w' => e = .returned (.bool (E.held Wr.uses p)) ∧ Frm (New w) w w' := by
  obtain ⟨q, hq⟩ : ∃ q, q = E.held Wr.uses p := ⟨_, rfl⟩
  rw [← hq]
  unfold Qn.held at hq
  have hb := h.blk
  have hy2 := hb.cell 2
  have hy3 := hb.cell 3
  simp only [List.getElem?_toArray, List.getElem?_cons_zero, List.getElem?_cons_succ] at hy2 hy3
  have hpl := hb.lt
  have hwb := hW.blk
  have hz0 := hwb.cell 0
  have hz3 := hwb.cell 3
  simp only [List.getElem?_toArray, List.getElem?_cons_zero, List.getElem?_cons_succ] at hz0 hz3
  have hwl := hwb.lt
  obtain ⟨v, hv0, hv1, hv, hvp⟩ := getE_pos (s := p) hW.use_.pos
  have hvq : 0 < v ↔ p ∈ Wr.uses := by rw [hvp, hW.use_.mem]
  have hlk := run_lookup ukeys uMq zIntN hW.use_.map p false
  rw [hv] at hlk
  simp only [Bool.false_eq_true, if_false, ukey] at hlk
  have hel : (entsR L).length = L.length := by unfold entsR; rw [List.length_map]
  have hmap := h.map
  clear hv hvp
  have H := Lib.hid h
  have HW := Lib.hid hW
  have HB := Lib.hid hb
  have HWB := Lib.hid hwb
  have HQ := Lib.hid hq
  have HEL := Lib.hid hel
  have HMAP := Lib.hid hmap
  have HVQ := Lib.hid hvq
  clear h hW hb hwb hq hel hmap hvq
  go_enter Try.func120, Try.ntmps120
  by_cases h1 : E.known ≤ p
  · have h1i : (E.known : Int) ≤ (p : Int) := by omega
    go_wp2
    go_ret
    refine ⟨?_, Frm.refl _ _⟩
    rw [HQ.out, decide_eq_true h1]
    rfl
  have h1i : ¬ (E.known : Int) ≤ (p : Int) := by omega
  by_cases h2 : 0 < v
  · go_wp2
    go_ret
    refine ⟨?_, Frm.refl _ _⟩
    rw [HQ.out, decide_eq_true (HVQ.out.1 h2), Bool.true_or, Bool.or_true]
    rfl
  have hnu : ¬ p ∈ Wr.uses := fun e => h2 (HVQ.out.2 e)
  have hqq : q = E.opn.any fun o => decide (p ∈ o.uses) := by rw [HQ.out, decide_eq_false h1, decide_eq_false hnu, Bool.false_or, Bool.false_or]
  clear hnu HQ HVQ
  have HQQ := Lib.hid hqq
  clear hqq
  obtain ⟨w2, hrun, HIT, HF2, hs2⟩ := run_range_is uMo HMAP.out
  have HIT' := Lib.hid HIT
  have HF2' := Lib.hid HF2
  clear HIT HF2
  go_wp2_with (fail)
  clear hrun hlk h2 h1i hy2 hy3 hz0 hz3 hpl hwl
  obtain ⟨r, hr⟩ : ∃ r, r = w.heap.size := ⟨_, rfl⟩
  rw [← hr] at HIT' ⊢
  have hrw : w.heap.size ≤ r := by omega
  clear hr hs2
  go_loopg [] L.length (fun kk wx => ∃ (P : List Nat), P.Nodup ∧ P.length + kk = L.length ∧ Hid (∀ i ∈ P, ∃ hi : i < L.length, ∀ y ∈ L[i].2.l, p ∉ y.1.uses) ∧ Hid (ItAt wx r bm ukey (entsR L) P) ∧ Hid (Frm (New w) w wx))
  case atStart => exact ⟨[], List.nodup_nil, by simp, Lib.hid (fun i h => by cases h), HIT', HF2'⟩
  case round =>
    clear HIT' HF2'
    obtain ⟨P, hPn, hPk, hPl, hIt, hF⟩ := hrel
    rename World => wx
    rcases run_next_is (P := Try.prog) hIt.out 0 with ⟨hall, hnx⟩ | ⟨i, hi, w3, hiP, hnx, hit3, hF3, hs3, hen⟩
    · have HALL := Lib.hid hall
      clear hall
      go_wp2_with (fail)
      go_ret
      refine ⟨?_, hF.out⟩
      suffices hs : (E.opn.any fun o => decide (p ∈ o.uses)) = false by rw [HQQ.out, hs]; rfl
      refine List.any_eq_false.2 (fun o ho => ?_)
      obtain ⟨x, hx, hxs⟩ := List.mem_map.1 (H.out.all o ho)
      obtain ⟨i, hi, hie⟩ := List.getElem_of_mem hx
      have hsm := H.out.same x hx
      have hom : o ∈ x.2.l.map (·.1) := by
        rw [hsm, List.mem_filter]
        exact ⟨ho, decide_eq_true hxs.symm⟩
      obtain ⟨y, hy, rfl⟩ := List.mem_map.1 hom
      obtain ⟨_, hno⟩ := hPl.out i (HALL.out i (by rw [HEL.out]; exact hi))
      rw [hie] at hno
      simpa using hno y hy
    · have hiL : i < L.length := by rw [← HEL.out]; exact hi
      have hF03 : Frm (New w) w w3 := hF.out.trans (hF3.mono (fun k hk => by subst hk; exact hrw))
      have hPn2 : (P ++ [i]).Nodup := by
        rw [List.nodup_append]
        exact ⟨hPn, by simp, fun a ha c hc => by rw [List.mem_singleton.1 hc]; exact fun e => hiP (e ▸ ha)⟩
      have hle : P.length < L.length := by
        have := nodup_le (P ++ [i]) (List.range L.length) hPn2 (fun j hj => List.mem_range.2 (by
          rcases List.mem_append.1 hj with q | q
          · exact (hPl.out j q).1
          · rw [List.mem_singleton.1 q]; exact hiL))
        rw [List.length_append, List.length_range, List.length_singleton] at this
        omega
      have hPl2 : (∀ y ∈ L[i].2.l, p ∉ y.1.uses) → ∀ j ∈ P ++ [i], ∃ hj : j < L.length, ∀ y ∈ L[j].2.l, p ∉ y.1.uses := fun hno j hj => by
        rcases List.mem_append.1 hj with q | q
        · exact hPl.out j q
        · rw [List.mem_singleton.1 q]; exact ⟨hiL, hno⟩
      have hrow := (H.out.rows L[i] (List.getElem_mem hiL))
      have hsame := H.out.same L[i] (List.getElem_mem hiL)
      simp only [entsR, List.getElem_map] at hen hnx
      generalize L[i] = y at *
      obtain ⟨ys, A, c, l⟩ := y
      simp only [Ro.v, ukey] at hen hnx hPl2 hrow hsame
      have hR3 := hrow.app.rd.fresh hF03
      have hlm : l.length ≤ 9223372036854775807 := by
        have := Nat.le_trans hrow.app.cap hrow.app.max
        simp only [maxLen] at this
        omega
      have hus := hrow.use_
      simp only at hR3 hus
      clear hF3 hs3 hi hrow
      have HPL2 := Lib.hid hPl2
      have HIT3 := Lib.hid hit3
      have HF03 := Lib.hid hF03
      have HPN2 := Lib.hid hPn2
      have HR3 := Lib.hid hR3
      have HUS := Lib.hid hus
      have HSAME := Lib.hid hsame
      clear hPl2 hit3 hF03 hPn2 hR3 hus hsame
      go_wp2_with (fail)
      clear hnx hen
      obtain ⟨gko, hgko⟩ : ∃ m, m = gk := ⟨_, rfl⟩
      rw [← hgko] at hPk
      go_loopg [42] l.length (fun kk v wz => ∃ j : Nat, v = .int .i64 (j : Int) ∧ j + kk = l.length ∧ Hid (∀ y ∈ l.take j, p ∉ y.1.uses) ∧ Hid (Frm (New w3) w3 wz))
      case atStart => exact ⟨0, rfl, by omega, Lib.hid (fun y hy => by cases hy), Lib.hid (Frm.refl _ _)⟩
      case round =>
        obtain ⟨j, rfl, hj, hno, hFz⟩ := hrel
        rename World => wz
        have hF0z : Frm (New w) w wz := HF03.out.then_new Up.new hFz.out
        by_cases hjl : j < l.length
        · have hjli : (j : Int) < (l.length : Int) := by omega
          have hRz := HR3.out.fresh hFz.out
          obtain ⟨gA, oA, rfl, hjunk⟩ := hRz.at_ (k := j * 2) (by rw [secC_len]; omega)
          clear hjunk
          obtain ⟨hc0, hc1⟩ := secC_cells hRz j hjl
          have hgl := World.block_lt_of_cell? _ _ hc0
          simp only at hgl
          have htk : l.take (j + 1) = l.take j ++ [l[j]] := by rw [List.take_add_one, List.getElem?_eq_getElem hjl]; rfl
          have hmem := List.getElem_mem hjl
          obtain ⟨hXb, ue, hUe⟩ := HUS.out l[j] hmem
          generalize l[j] = y at *
          obtain ⟨⟨ys2, yc, yu⟩, yb⟩ := y
          simp only at hc0 hc1 hXb hUe
          have hbl := H.out.low _ hXb
          have HRZ := Lib.hid hRz
          have HTK := Lib.hid htk
          have HMEM := Lib.hid hmem
          clear hRz htk hmem
          go_upto_region 9 with (first
            | (refine wpList_new rfl rfl zSec1 rfl ?_; intro w4 hb4 hF4 hs4)
            | (refine wpList_store_agg rfl rfl rfl rfl hb4 rfl (sec_one _ _) (by kernel_rfl) ?_; intro w5 hb5 hF5 hs5))
          have hF25 : Frm (New wz) wz w5 := hF4.trans (hF5.mono (fun k hk => by subst hk; exact Nat.le_refl _))
          have hF35 : Frm (New w3) w3 w5 := hFz.out.then_new Up.new hF25
          have hF05 : Frm (New w) w w5 := hF0z.then_new Up.new hF25
          obtain ⟨v2, hv20, hv21, hv2, hvp2⟩ := getE_pos (s := p) hUe.pos
          have hm5 := hUe.map.keep hF05 (by unfold New; omega)
          have hlk2 := run_lookup ukeys uMq zIntN hm5 p false
          rw [hv2] at hlk2
          simp only [Bool.false_eq_true, if_false, ukey] at hlk2
          have hvq2 : 0 < v2 ↔ p ∈ yu := by rw [hvp2, hUe.mem]
          clear hb4 hF4 hs4 hF5 hs5 hc0 hc1 hgl hFz hF0z hv2 hvp2 hUe hm5 hF25
          have hk0 := hb5.cell 1
          simp only [List.getElem?_toArray, List.getElem?_cons_zero, List.getElem?_cons_succ] at hk0
          have hkl := hb5.lt
          have HB5 := Lib.hid hb5
          have HF35 := Lib.hid hF35
          have HF05 := Lib.hid hF05
          have HNO := Lib.hid hno
          have HVQ2 := Lib.hid hvq2
          clear hb5 hF35 hF05 hno hvq2
          generalize wz.heap.size = bx at *
          by_cases hk : 0 < v2
          · go_wp2
            go_ret
            refine ⟨?_, HF05.out⟩
            suffices hs : (E.opn.any fun o => decide (p ∈ o.uses)) = true by rw [HQQ.out, hs]; rfl
            refine List.any_eq_true.2 ?_
            have h9 : (⟨ys2, yc, yu⟩ : Qs) ∈ l.map (·.1) := List.mem_map.2 ⟨_, HMEM.out, rfl⟩
            rw [HSAME.out, List.mem_filter] at h9
            exact ⟨_, h9.1, decide_eq_true (HVQ2.out.1 hk)⟩
          · go_wp2
            go_roundg (gk - 1)
            case measure => omega
            case rel =>
              refine ⟨j + 1, ?_, by omega, ?_, HF35⟩
              · rw [Int.natCast_add]; rfl
              · refine Lib.hid ?_
                rw [HTK.out]
                intro z hz
                rcases List.mem_append.1 hz with q | q
                · exact HNO.out z q
                · rw [List.mem_singleton.1 q]; exact fun e => by have := HVQ2.out.2 e; omega
        · have hjli : ¬ (j : Int) < (l.length : Int) := by omega
          obtain rfl : j = l.length := by omega
          have HIT4 := Lib.hid (HIT3.out.fresh hFz.out)
          have HNO4 := Lib.hid (HPL2.out (by have hh := hno.out; rwa [List.take_length] at hh))
          have HF04 := Lib.hid hF0z
          clear hno hF0z hFz
          go_wp2
          go_roundg (gko - 1)
          case measure => omega
          case rel => exact ⟨P ++ [i], HPN2.out, by rw [List.length_append, List.length_singleton]; omega, HNO4, HIT4, HF04⟩
end Go.Proofs.Ytdgggjeiflllhaa.M
namespace Go.Proofs.Ytdgggjeiflllhaa.M
open Go.ChangeShapes Go.WideShapes Go.ChangeAt Go.RowKit
section
variable {S : Nat → Prop} {g : Nat} {T : Tb}
theorem tcapS_any (w : World) (h : TabS S w g T) : Calls Try.prog 42 #[.pointer (some ⟨g, 0, none⟩)] w fun e w' => e = .returned (.int .i64 T.cap) ∧ w' = w := by
  obtain ⟨A, c, a, b, ew, en, h⟩ := h
  exact tcap_any w h
theorem tcountS_any (w : World) (h : TabS S w g T) : Calls Try.prog 32 #[.pointer (some ⟨g, 0, none⟩)] w fun e w' => e = .returned (.int .u64 T.n) ∧ w' = w := by
  obtain ⟨A, c, a, b, ew, en, h⟩ := h
  exact tcount_any w h
theorem tlenT_any (w : World) (h : TabS S w g T) : Calls Try.prog 38 #[.pointer (some ⟨g, 0, none⟩)] w fun e w' => e = .returned (.int .i64 (T.l.length : Nat)) ∧ w' = w := by
  obtain ⟨A, c, a, b, ew, en, h⟩ := h
  exact tlen_any w h
theorem tfindS_any (f : Fld) (w : World) (h : TabS S w g T) : Calls Try.prog 73 #[.pointer (some ⟨g, 0, none⟩), fld f] w fun e w' => e = .returned (.tuple #[.int .u64 (T.find f).1, .bool (T.find f).2.1, .bool (T.find f).2.2]) ∧ Frm (New w) w w' := by
  obtain ⟨A, c, a, b, ew, en, h⟩ := h
  exact tfind_any f w h
end
theorem at_in (T : Tb) (hT : T.Ok) (i : Nat) (hi : i < T.l.length) : T.at_ (T.first + i) = some T.l[i] := by
  have := hT.le
  unfold Tb.at_ Tb.first
  rw [if_pos ⟨by omega, by omega⟩, show T.n - T.l.length + i - (T.n - T.l.length) = i by omega, List.getElem?_eq_getElem hi]
theorem size1_any (f : Fld) (g2 : Nat) (w' : World) (hf : fsize f ≤ 4611686018427387903) (h : Rd w' (some ⟨g2, 0, none⟩) (fvs [f])) : Calls Try.prog 119 #[.slice (some ⟨g2, 0, none⟩) 1 1] w' fun e w2 => e = .returned (.int .i64 (fsize f : Nat)) ∧ Frm (New w') w' w2 := by
  have hs := size_any [f] (some ⟨g2, 0, none⟩) 1 w' h (by simp [fsizes]; omega) (by simp)
  have e1 : fsizes [f] = fsize f := by simp [fsizes]
  rw [e1] at hs
  exact hs
set_option maxRecDepth 100000 in
set_option maxHeartbeats 4000000 in
theorem nfits_any {X Y S : Nat → Prop} {w : World} {pe g bm cr pw s mu co cl : Nat} {Ar Ao Al : Option Addr} {L : List (Nat × Ro)} {E : Qn} {ments : List (Nat × Value)} {Wr : Wq} (h : QnM X w pe g bm S Ar cr L { E with t := Wr.t }) (hW : WqM Y w pw pe s mu ments Ao co Al cl Wr) (f : Fld) (hf : fsize f ≤ 1152921504606846976) :
    Calls Try.prog 76 #[.pointer (some ⟨pw, 0, none⟩), fld f] w fun e w' => e = .returned (.bool (E.room Wr.t Wr.uses f)) ∧ Frm (New w) w w' := by
  have hus : ∀ w', Frm (New w) w w' → ∀ p : Nat, Calls Try.prog 120 #[.pointer (some ⟨pw, 0, none⟩), .int .u64 (p : Int)] w' fun e w2 => e = .returned (.bool (E.held Wr.uses p)) ∧ Frm (New w') w' w2 := fun w' fr p => nused_any (h.fresh fr) (hW.fresh fr) p
  have htb : ∀ w', Frm (New w) w w' → TabS S w' g Wr.t := fun w' fr => (h.fresh fr).tab
  have hok : Wr.t.Ok := h.ok
  have hcp : Wr.t.cap ≤ 4096 := h.cap
  have hnb : Wr.t.n ≤ 1152921504606846976 := h.nb
  have hat : ∀ i (hi : i < Wr.t.l.length) w', Frm (New w) w w' → Calls Try.prog 121 #[.pointer (some ⟨g, 0, none⟩), .int .u64 ((Wr.t.first + i : Nat) : Int)] w' fun e w2 => e = .returned (.tuple #[fld Wr.t.l[i], .bool true]) ∧ Frm (New w') w' w2 := fun i hi w' fr => by
    have hh := tat_any (Wr.t.first + i) w' (htb w' fr) (by have := hok.le; unfold Tb.first; omega)
    rw [at_in _ hok i hi] at hh
    exact hh
  have hpw : ∀ w', Frm (New w) w w' → w'.cell? ⟨pw, 0, none⟩ = some (.pointer (some ⟨pe, 0, none⟩)) ∧ w'.cell? ⟨pe, 0, none⟩ = some (.pointer (some ⟨g, 0, none⟩)) ∧ pw < w'.heap.size ∧ pe < w'.heap.size := fun w' fr => ⟨(hW.fresh fr).blk.cell 0, (h.fresh fr).blk.cell 0, (hW.fresh fr).blk.lt, (h.fresh fr).blk.lt⟩
  obtain ⟨Q, hQ⟩ : ∃ Q, Q = E.room Wr.t Wr.uses f := ⟨_, rfl⟩
  rw [← hQ]
  unfold Qn.room at hQ
  obtain ⟨f1, f2⟩ := f
  obtain ⟨fz, hfz⟩ : ∃ fz, fz = fsize (f1, f2) := ⟨_, rfl⟩
  have hsz : ∀ (g2 : Nat) w', Rd w' (some ⟨g2, 0, none⟩) (fvs [(f1, f2)]) → Calls Try.prog 119 #[.slice (some ⟨g2, 0, none⟩) 1 1] w' fun e w2 => e = .returned (.int .i64 (fz : Nat)) ∧ Frm (New w') w' w2 := fun g2 w' hr => by rw [hfz]; exact size1_any _ _ _ (by omega) hr
  rw [← hfz] at hQ hf
  have hle := hok.le
  have hfit := hok.fits
  have hl32 := len_fsizes Wr.t.l
  obtain ⟨sc, hsc⟩ : ∃ sc, sc = secret f1 := ⟨_, rfl⟩
  have hsa : ∀ w, Calls Try.prog 79 #[.string ⟨f1.toArray⟩] w fun e w' => e = .returned (.bool sc) ∧ w' = w := fun w => by rw [hsc]; exact secret_any f1 w
  simp only at hQ
  rw [← hsc] at hQ
  simp only [fld, str]
  obtain ⟨T, hT⟩ : ∃ T, T = Wr.t := ⟨_, rfl⟩
  rw [← hT] at hQ hok hcp hnb hat htb hle hfit hl32
  obtain ⟨fi, hfi⟩ : ∃ fi, fi = T.first := ⟨_, rfl⟩
  have hfn : fi + T.l.length = T.n := by rw [hfi]; unfold Tb.first; omega
  rw [← hfi] at hQ hat
  have H := Lib.hid h
  have HW := Lib.hid hW
  have HUS := Lib.hid hus
  have HTB := Lib.hid htb
  have HOK := Lib.hid hok
  have HAT := Lib.hid hat
  have HPW := Lib.hid hpw
  have HQ := Lib.hid hQ
  have HSZ := Lib.hid hsz
  have HSA := Lib.hid hsa
  have HFZ := Lib.hid hfz
  have HSC := Lib.hid hsc
  have HT := Lib.hid hT
  have HFI := Lib.hid hfi
  clear h hW hus htb hok hat hpw hQ hsz hsa hfz hsc hT hfi
  go_enter Try.func76, Try.ntmps76
  go_upto_region 1 with (fail)
  have hB1 := Blk.new w 71 #[.string ⟨f1.toArray⟩, .string ⟨f2.toArray⟩]
  have hF1 : Frm (New w) w (w.alloc (Obj.cells #[.string ⟨f1.toArray⟩, .string ⟨f2.toArray⟩] 71)) := (Frm.refl _ _).alloc Up.new _
  generalize w.alloc (Obj.cells #[.string ⟨f1.toArray⟩, .string ⟨f2.toArray⟩] 71) = w1 at *
  obtain ⟨bx, hbx⟩ : ∃ bx, bx = w.heap.size := ⟨_, rfl⟩
  rw [← hbx] at hB1 ⊢
  clear hbx
  have hx0 := hB1.cell 0
  have hx1 := hB1.cell 1
  simp only [List.getElem?_toArray, List.getElem?_cons_zero, List.getElem?_cons_succ] at hx0 hx1
  have hbl := hB1.lt
  have HB1 := Lib.hid hB1
  have HF1 := Lib.hid hF1
  clear hB1 hF1
  go_wp2_with (fail)
  have hF2 : Frm (New w1) w1 (w1.alloc (.cells #[.string ⟨f1.toArray⟩, .string ⟨f2.toArray⟩] 71)) := (Frm.refl (New w1) w1).alloc Up.new _
  have hR2 : Rd (w1.alloc (.cells #[.string ⟨f1.toArray⟩, .string ⟨f2.toArray⟩] 71)) (some ⟨w1.heap.size, 0, none⟩) (fvs [(f1, f2)]) := Rd.new w1 #[.string ⟨f1.toArray⟩, .string ⟨f2.toArray⟩] 71
  refine (HSZ.out _ _ hR2).mono ?_
  rintro e w3 ⟨rfl, hF3⟩
  have hF13 := hF2.then_new Up.new hF3
  have hF03 := HF1.out.then_new Up.new hF13
  have hB3 := HB1.out.fresh hF13
  clear hF2 hR2 hF3 hF13 HB1 HF1 hx0 hx1 hbl
  have hx0 := hB3.cell 0
  simp only [List.getElem?_toArray, List.getElem?_cons_zero] at hx0
  have hbl := hB3.lt
  obtain ⟨hp0, hp1, hpl, hel⟩ := HPW.out w3 hF03
  have HB3 := Lib.hid hB3
  have HF03 := Lib.hid hF03
  clear hB3 hF03
  go_wp2_with (fail)
  refine (HSA.out w3).mono ?_
  rintro e w4 ⟨rfl, hw4⟩
  rw [hw4]
  clear hw4 w4
  cases sc with
  | true =>
    go_wp2
    go_ret
    refine ⟨?_, HF03.out⟩
    rw [HQ.out, if_pos (by simp)]
    rfl
  | false =>
    have hcap : ∀ w', Frm (New w3) w3 w' → Calls Try.prog 42 #[.pointer (some ⟨g, 0, none⟩)] w' fun e w2 => e = .returned (.int .i64 T.cap) ∧ w2 = w' := fun w' fr => tcapS_any w' (HTB.out w' (HF03.out.then_new Up.new fr))
    have hcnt : ∀ w', Frm (New w3) w3 w' → Calls Try.prog 32 #[.pointer (some ⟨g, 0, none⟩)] w' fun e w2 => e = .returned (.int .u64 T.n) ∧ w2 = w' := fun w' fr => tcountS_any w' (HTB.out w' (HF03.out.then_new Up.new fr))
    have hlen : ∀ w', Frm (New w3) w3 w' → Calls Try.prog 38 #[.pointer (some ⟨g, 0, none⟩)] w' fun e w2 => e = .returned (.int .i64 (T.l.length : Nat)) ∧ w2 = w' := fun w' fr => tlenT_any w' (HTB.out w' (HF03.out.then_new Up.new fr))
    have hsiz : ∀ w', Frm (New w3) w3 w' → Calls Try.prog 33 #[.pointer (some ⟨g, 0, none⟩)] w' fun e w2 => e = .returned (.int .i64 (fsizes T.l : Nat)) ∧ w2 = w' := fun w' fr => tsize_any w' (HTB.out w' (HF03.out.then_new Up.new fr))
    obtain ⟨l, n, cap⟩ := T
    simp only at *
    have hdv : Int.tdiv (cap : Int) 4 = ((cap / 4 : Nat) : Int) := by rw [Int.tdiv_eq_ediv_of_nonneg (by omega)]; omega
    obtain ⟨c4, hc4⟩ : ∃ c4, c4 = cap / 4 := ⟨_, rfl⟩
    have hQ2 : Q = if c4 < fz then false else roomGo E Wr.uses fz l fi (cap - fsizes l) := by
      rw [HQ.out, hc4, HFI.out]
      simp only [Bool.false_eq_true, false_or]
    rw [← hc4] at hdv
    have hwc : IntKind.i64.wrap (c4 : Int) = c4 := IntWalk.i64_in _ (by omega)
    obtain ⟨left, hlf⟩ : ∃ left, left = cap - fsizes l := ⟨_, rfl⟩
    rw [← hlf] at hQ2
    have hw1 : IntKind.i64.wrap ((cap : Int) - (fsizes l : Nat)) = (left : Int) := by rw [IntWalk.i64_in _ (by omega)]; omega
    have hw2 : IntKind.u64.wrap ((l.length : Nat) : Int) = (l.length : Nat) := IntWalk.u64_in _ (by omega)
    have hw3 : IntKind.u64.wrap ((n : Int) - (l.length : Nat)) = (fi : Int) := by rw [IntWalk.u64_in _ (by omega)]; omega
    clear hc4 HQ
    generalize hsl : fsizes l = sl at *
    have HQ2 := Lib.hid hQ2
    have HCAP := Lib.hid hcap
    have HCNT := Lib.hid hcnt
    have HLEN := Lib.hid hlen
    have HSIZ := Lib.hid hsiz
    have HSL := Lib.hid hsl
    have HLF := Lib.hid hlf
    clear hQ2 hcap hcnt hlen hsiz hsl hlf
    go_wp2_with (fail)
    refine (HCAP.out w3 (Frm.refl _ _)).mono ?_
    rintro e w4 ⟨rfl, hw4⟩
    rw [hw4]
    clear hw4 w4
    by_cases hq : c4 < fz
    · have hqi : (c4 : Int) < (fz : Int) := by omega
      go_wp2
      go_ret
      refine ⟨?_, HF03.out⟩
      rw [HQ2.out, if_pos hq]
      rfl
    have hqi : ¬ (c4 : Int) < (fz : Int) := by omega
    have hR : Q = roomGo E Wr.uses fz l fi left := by rw [HQ2.out, if_neg hq]
    clear HQ2
    have HR := Lib.hid hR
    clear hR
    go_upto_region 4 with (fail)
    go_quiet (first
      | (go_at_call 42; refine Calls.quiet_of_same (HCAP.out _ ?_); exact (Frm.refl _ _).drewN _)
      | (go_at_call 33; refine Calls.quiet_of_same (HSIZ.out _ ?_); exact (Frm.refl _ _).drewN _))
    have hFq : Frm (New w3) w3 (w3.drewN nq) := (Frm.refl _ _).drewN _
    replace hp0 : (w3.drewN nq).cell? ⟨pw, 0, none⟩ = some (.pointer (some ⟨pe, 0, none⟩)) := hp0
    replace hp1 : (w3.drewN nq).cell? ⟨pe, 0, none⟩ = some (.pointer (some ⟨g, 0, none⟩)) := hp1
    replace hpl : pw < (w3.drewN nq).heap.size := hpl
    replace hel : pe < (w3.drewN nq).heap.size := hel
    clear hx0
    replace hbl : bx < (w3.drewN nq).heap.size := hbl
    generalize w3.drewN nq = w4 at *
    have HFQ := Lib.hid hFq
    clear hFq
    go_upto_region 5 with (fail)
    go_quiet (first
      | (go_at_call 32; refine Calls.quiet_of_same (HCNT.out _ ?_); exact HFQ.out.drewN _)
      | (go_at_call 38; refine Calls.quiet_of_same (HLEN.out _ ?_); exact HFQ.out.drewN _))
    have hFq2 : Frm (New w3) w3 (w4.drewN nq) := HFQ.out.drewN _
    generalize w4.drewN nq = w5 at *
    have hF05 := HF03.out.then_new Up.new hFq2
    clear HFQ hp0 hp1 hpl hel hbl hw1 hw2 hw3 hdv hwc hqi hq
    have HFQ2 := Lib.hid hFq2
    have HF05 := Lib.hid hF05
    clear hFq2 hF05
    have hfit2 : left + sl ≤ cap := by have := HLF.out; omega
    go_wp2
    go_loopg [6, 7] l.length (fun kk v6 v7 wx => ∃ (i lf a : Nat), v6 = .int .i64 (lf : Int) ∧ v7 = .int .u64 (a : Int) ∧ fi + i = a ∧ i + kk = l.length ∧ Hid (lf + fsizes (l.drop i) ≤ cap) ∧ Hid (Q = roomGo E Wr.uses fz (l.drop i) a lf) ∧ Hid (Frm (New w) w wx))
    case atStart => exact ⟨0, left, fi, rfl, rfl, rfl, by omega, Lib.hid (by rw [List.drop_zero, HSL.out]; exact hfit2), HR, HF05⟩
    case round =>
      clear HF05 HFQ2 HF03 HB3 HR HSIZ HCAP HCNT HLEN
      obtain ⟨i, lf, a, rfl, rfl, hia, hi, hbd, hRi, hF⟩ := hrel
      rename World => wx
      obtain ⟨hp0, hp1, hpl, hel⟩ := HPW.out wx hF.out
      have hlfc : lf ≤ cap := by have := hbd.out; omega
      by_cases hlt : lf < fz
      · have hlti : (lf : Int) < (fz : Int) := by omega
        by_cases hil : i < l.length
        · have hdr : l.drop i = l[i] :: l.drop (i + 1) := List.drop_eq_getElem_cons hil
          have hbd2 := hbd.out
          have hRi2 := hRi.out
          rw [hdr, fsizes_cons] at hbd2
          rw [hdr, show ∀ x r, roomGo E Wr.uses fz (x :: r) a lf = (if fz ≤ lf then true else if E.held Wr.uses a then false else roomGo E Wr.uses fz r (a + 1) (lf + fsize x)) from fun _ _ => rfl, if_neg (by omega)] at hRi2
          have hatx := HAT.out i hil
          rw [hia] at hatx
          generalize l[i] = x at *
          obtain ⟨x1, x2⟩ := x
          have han : (a : Int) < (n : Int) := by omega
          obtain ⟨xs, hxs⟩ : ∃ xs, xs = fsize (x1, x2) := ⟨_, rfl⟩
          rw [← hxs] at hRi2 hbd2
          have hszx : ∀ (g2 : Nat) w', Rd w' (some ⟨g2, 0, none⟩) (fvs [(x1, x2)]) → Calls Try.prog 119 #[.slice (some ⟨g2, 0, none⟩) 1 1] w' fun e w2 => e = .returned (.int .i64 (xs : Nat)) ∧ Frm (New w') w' w2 := fun g2 w' hr => by rw [hxs]; exact size1_any _ _ _ (by omega) hr
          have hwa : IntKind.u64.wrap ((a : Int) + 1) = ((a + 1 : Nat) : Int) := by rw [IntWalk.u64_in _ (by omega)]; omega
          have hwx : IntKind.i64.wrap ((lf : Int) + (xs : Int)) = ((lf + xs : Nat) : Int) := by rw [IntWalk.i64_in _ (by omega)]; omega
          obtain ⟨lf2, hlf2⟩ : ∃ m, m = lf + xs := ⟨_, rfl⟩
          obtain ⟨a2, ha2⟩ : ∃ m, m = a + 1 := ⟨_, rfl⟩
          rw [← hlf2] at hRi2 hwx
          rw [← ha2] at hRi2 hwa
          have hbd3 : lf2 + fsizes (l.drop (i + 1)) ≤ cap := by omega
          have hia2 : fi + (i + 1) = a2 := by omega
          clear hbd hRi hdr hbd2
          simp only [fld, str] at hatx
          have HRI2 := Lib.hid hRi2
          have HATX := Lib.hid hatx
          have HSZX := Lib.hid hszx
          have HXS := Lib.hid hxs
          have HBD3 := Lib.hid hbd3
          have HIA := Lib.hid hia
          have HIA2 := Lib.hid hia2
          have HLF2 := Lib.hid hlf2
          have HA2 := Lib.hid ha2
          have HF := Lib.hid hF
          clear hRi2 hatx hszx hxs hbd3 hia hia2 hlf2 ha2 hF
          go_wp2_with (fail)
          refine (tcountS_any wx (HTB.out wx HF.out)).mono ?_
          rintro e w6 ⟨rfl, hw6⟩
          rw [hw6]
          clear hw6 w6
          go_wp2_with (fail)
          refine (HUS.out wx HF.out a).mono ?_
          rintro e w6 ⟨rfl, hF6⟩
          have hF06 := HF.out.then_new Up.new hF6
          clear hp0 hp1 hpl hel hF6
          obtain ⟨hp0, hp1, hpl, hel⟩ := HPW.out w6 hF06
          cases hhd : E.held Wr.uses a with
          | true =>
            have HF06 := Lib.hid hF06
            have HHD := Lib.hid hhd
            clear hF06 hhd
            go_wp2
            go_ret
            refine ⟨?_, HF06.out⟩
            rw [HRI2.out, HHD.out]
            rfl
          | false =>
            have HF06 := Lib.hid hF06
            have HHD := Lib.hid hhd
            clear hF06 hhd
            go_wp2_with (fail)
            refine (HATX.out w6 HF06.out).mono ?_
            rintro e w7 ⟨rfl, hF7⟩
            have hF07 := HF06.out.then_new Up.new hF7
            clear hp0 hp1 hpl hel hF7
            obtain ⟨hp0, hp1, hpl, hel⟩ := HPW.out w7 hF07
            have HF07 := Lib.hid hF07
            clear hF07
            go_wp2_with (fail)
            have hF8 : Frm (New w7) w7 ((w7.alloc (Obj.cells #[.string ⟨x1.toArray⟩, .string ⟨x2.toArray⟩] 71)).alloc (Obj.cells #[.string ⟨x1.toArray⟩, .string ⟨x2.toArray⟩] 71)) := ((Frm.refl (New w7) w7).alloc Up.new _).alloc Up.new _
            have hR8 : Rd ((w7.alloc (Obj.cells #[.string ⟨x1.toArray⟩, .string ⟨x2.toArray⟩] 71)).alloc (Obj.cells #[.string ⟨x1.toArray⟩, .string ⟨x2.toArray⟩] 71)) (some ⟨w7.heap.size + 1, 0, none⟩) (fvs [(x1, x2)]) := by
              have := Rd.new (w7.alloc (Obj.cells #[.string ⟨x1.toArray⟩, .string ⟨x2.toArray⟩] 71)) #[.string ⟨x1.toArray⟩, .string ⟨x2.toArray⟩] 71
              rwa [show (w7.alloc (Obj.cells #[.string ⟨x1.toArray⟩, .string ⟨x2.toArray⟩] 71)).heap.size = w7.heap.size + 1 from by simp] at this
            refine (HSZX.out _ _ hR8).mono ?_
            rintro e w9 ⟨rfl, hF9⟩
            have hF09 := HF07.out.then_new Up.new (hF8.then_new Up.new hF9)
            have hq9 : Q = roomGo E Wr.uses fz (l.drop (i + 1)) a2 lf2 := by rw [HRI2.out, HHD.out]; rfl
            clear hF8 hR8 hF9 hp0 hp1 hpl hel
            have HF09 := Lib.hid hF09
            have HQ9 := Lib.hid hq9
            clear hF09 hq9
            go_wp2
            go_roundg (gk - 1)
            case measure => omega
            case rel => exact ⟨i + 1, lf2, a2, rfl, rfl, HIA2.out, by omega, HBD3, HQ9, HF09⟩
        · have hil2 : i = l.length := by omega
          have hnan : ¬ (a : Int) < (n : Int) := by omega
          have hR0 : Q = decide (fz ≤ lf) := by
            rw [hRi.out, hil2, List.drop_length]
            rfl
          have hfl : ¬ fz ≤ lf := by omega
          have hfli : ¬ (fz : Int) ≤ (lf : Int) := by omega
          rw [decide_eq_false hfl] at hR0
          clear hRi hbd hil2
          have HR0 := Lib.hid hR0
          have HF := Lib.hid hF
          clear hR0 hF
          go_wp2_with (fail)
          refine (tcountS_any wx (HTB.out wx HF.out)).mono ?_
          rintro e w6 ⟨rfl, hw6⟩
          rw [hw6]
          clear hw6 w6
          go_wp2
          go_ret
          exact ⟨by rw [HR0.out]; rfl, HF.out⟩
      · have hlti : ¬ (lf : Int) < (fz : Int) := by omega
        have hfli : (fz : Int) ≤ (lf : Int) := by omega
        have hR0 : Q = true := by
          rw [hRi.out]
          cases l.drop i with
          | nil => exact decide_eq_true (by omega)
          | cons x r =>
            show (if fz ≤ lf then true else _) = true
            rw [if_pos (by omega)]
        clear hRi hbd
        have HR0 := Lib.hid hR0
        have HF := Lib.hid hF
        clear hR0 hF
        go_wp2
        go_ret
        exact ⟨by rw [HR0.out]; rfl, HF.out⟩
end Go.Proofs.Ytdgggjeiflllhaa.M

