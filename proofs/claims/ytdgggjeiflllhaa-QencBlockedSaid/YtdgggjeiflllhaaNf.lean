/- qenc: used. -/
import Derived.BigQuiet
import Derived.Deep.CutBlock
import Derived.Lib.Hide
import Derived.IntWalk
import Derived.Deep.LoopGhost
import Derived.Test.YtdgggjeiflllhaaNe
import Derived.Test.YtdgggjeiflllhaaNb
namespace Go.Proofs.Ytdgggjeiflllhaa.M
open Go.ChangeShapes Go.WideShapes Go.ChangeAt Go.RowKit

set_option maxRecDepth 100000 in
set_option maxHeartbeats 4000000 in
theorem nused_any {X Y S : Nat → Prop} {w : World} {pe g bm cr pw s mu co cl : Nat} {Ar Ao Al : Option Addr} {L : List (Nat × Ro)} {E : Qn} {ments : List (Nat × Value)} {Wr : Wq} (h : QnM X w pe g bm S Ar cr L E) (hW : WqM Y w pw pe s mu ments Ao co Al cl Wr) (p : Nat) :
    Calls Try.prog 120 #[.pointer (some ⟨pw, 0, none⟩), .int .u64 (p : Int)] w fun e w' => e = .returned (.bool (E.held Wr.uses p)) ∧ Frm (New w) w w' := by
  obtain ⟨q, hq⟩ : ∃ q, q = E.held Wr.uses p := ⟨_, rfl⟩
  rw [← hq]
  unfold Qn.held at hq
  have hb := h.blk
  have hy2 := hb.cell 2
  have hy3 := hb.cell 3
  simp only [List.getElem?_toArray, List.getElem?_cons_zero, List.getElem?_cons_succ] at hy2 hy3
  have hpl := hb.lt
  have hwb := hW.blk
  have hz0 := hwb.cell 0
  have hz3 := hwb.cell 3
  simp only [List.getElem?_toArray, List.getElem?_cons_zero, List.getElem?_cons_succ] at hz0 hz3
  have hwl := hwb.lt
  obtain ⟨v, hv0, hv1, hv, hvp⟩ := getE_pos (s := p) hW.use_.pos
  have hvq : 0 < v ↔ p ∈ Wr.uses := by rw [hvp, hW.use_.mem]
  have hlk := run_lookup ukeys uMq zIntN hW.use_.map p false
  rw [hv] at hlk
  simp only [Bool.false_eq_true, if_false, ukey] at hlk
  have hel : (entsR L).length = L.length := by unfold entsR; rw [List.length_map]
  have hmap := h.map
  clear hv hvp
  have H := Lib.hid h
  have HW := Lib.hid hW
  have HB := Lib.hid hb
  have HWB := Lib.hid hwb
  have HQ := Lib.hid hq
  have HEL := Lib.hid hel
  have HMAP := Lib.hid hmap
  have HVQ := Lib.hid hvq
  clear h hW hb hwb hq hel hmap hvq
  go_enter Try.func120, Try.ntmps120
  by_cases h1 : E.known ≤ p
  · have h1i : (E.known : Int) ≤ (p : Int) := by omega
    go_wp2
    go_ret
    refine ⟨?_, Frm.refl _ _⟩
    rw [HQ.out, decide_eq_true h1]
    rfl
  have h1i : ¬ (E.known : Int) ≤ (p : Int) := by omega
  by_cases h2 : 0 < v
  · go_wp2
    go_ret
    refine ⟨?_, Frm.refl _ _⟩
    rw [HQ.out, decide_eq_true (HVQ.out.1 h2), Bool.true_or, Bool.or_true]
    rfl
  have hnu : ¬ p ∈ Wr.uses := fun e => h2 (HVQ.out.2 e)
  have hqq : q = E.opn.any fun o => decide (p ∈ o.uses) := by rw [HQ.out, decide_eq_false h1, decide_eq_false hnu, Bool.false_or, Bool.false_or]
  clear hnu HQ HVQ
  have HQQ := Lib.hid hqq
  clear hqq
  obtain ⟨w2, hrun, HIT, HF2, hs2⟩ := run_range_is uMo HMAP.out
  have HIT' := Lib.hid HIT
  have HF2' := Lib.hid HF2
  clear HIT HF2
  go_wp2_with (fail)
  clear hrun hlk h2 h1i hy2 hy3 hz0 hz3 hpl hwl
  obtain ⟨r, hr⟩ : ∃ r, r = w.heap.size := ⟨_, rfl⟩
  rw [← hr] at HIT' ⊢
  have hrw : w.heap.size ≤ r := by omega
  clear hr hs2
  go_loopg [] L.length (fun kk wx => ∃ (P : List Nat), P.Nodup ∧ P.length + kk = L.length ∧ Hid (∀ i ∈ P, ∃ hi : i < L.length, ∀ y ∈ L[i].2.l, p ∉ y.1.uses) ∧ Hid (ItAt wx r bm ukey (entsR L) P) ∧ Hid (Frm (New w) w wx))
  case atStart => exact ⟨[], List.nodup_nil, by simp, Lib.hid (fun i h => by cases h), HIT', HF2'⟩
  case round =>
    clear HIT' HF2'
    obtain ⟨P, hPn, hPk, hPl, hIt, hF⟩ := hrel
    rename World => wx
    rcases run_next_is (P := Try.prog) hIt.out 0 with ⟨hall, hnx⟩ | ⟨i, hi, w3, hiP, hnx, hit3, hF3, hs3, hen⟩
    · have HALL := Lib.hid hall
      clear hall
      go_wp2_with (fail)
      go_ret
      refine ⟨?_, hF.out⟩
      suffices hs : (E.opn.any fun o => decide (p ∈ o.uses)) = false by rw [HQQ.out, hs]; rfl
      refine List.any_eq_false.2 (fun o ho => ?_)
      obtain ⟨x, hx, hxs⟩ := List.mem_map.1 (H.out.all o ho)
      obtain ⟨i, hi, hie⟩ := List.getElem_of_mem hx
      have hsm := H.out.same x hx
      have hom : o ∈ x.2.l.map (·.1) := by
        rw [hsm, List.mem_filter]
        exact ⟨ho, decide_eq_true hxs.symm⟩
      obtain ⟨y, hy, rfl⟩ := List.mem_map.1 hom
      obtain ⟨_, hno⟩ := hPl.out i (HALL.out i (by rw [HEL.out]; exact hi))
      rw [hie] at hno
      simpa using hno y hy
    · have hiL : i < L.length := by rw [← HEL.out]; exact hi
      have hF03 : Frm (New w) w w3 := hF.out.trans (hF3.mono (fun k hk => by subst hk; exact hrw))
      have hPn2 : (P ++ [i]).Nodup := by
        rw [List.nodup_append]
        exact ⟨hPn, by simp, fun a ha c hc => by rw [List.mem_singleton.1 hc]; exact fun e => hiP (e ▸ ha)⟩
      have hle : P.length < L.length := by
        have := nodup_le (P ++ [i]) (List.range L.length) hPn2 (fun j hj => List.mem_range.2 (by
          rcases List.mem_append.1 hj with q | q
          · exact (hPl.out j q).1
          · rw [List.mem_singleton.1 q]; exact hiL))
        rw [List.length_append, List.length_range, List.length_singleton] at this
        omega
      have hPl2 : (∀ y ∈ L[i].2.l, p ∉ y.1.uses) → ∀ j ∈ P ++ [i], ∃ hj : j < L.length, ∀ y ∈ L[j].2.l, p ∉ y.1.uses := fun hno j hj => by
        rcases List.mem_append.1 hj with q | q
        · exact hPl.out j q
        · rw [List.mem_singleton.1 q]; exact ⟨hiL, hno⟩
      have hrow := (H.out.rows L[i] (List.getElem_mem hiL))
      have hsame := H.out.same L[i] (List.getElem_mem hiL)
      simp only [entsR, List.getElem_map] at hen hnx
      generalize L[i] = y at *
      obtain ⟨ys, A, c, l⟩ := y
      simp only [Ro.v, ukey] at hen hnx hPl2 hrow hsame
      have hR3 := hrow.app.rd.fresh hF03
      have hlm : l.length ≤ 9223372036854775807 := by
        have := Nat.le_trans hrow.app.cap hrow.app.max
        simp only [maxLen] at this
        omega
      have hus := hrow.use_
      simp only at hR3 hus
      clear hF3 hs3 hi hrow
      have HPL2 := Lib.hid hPl2
      have HIT3 := Lib.hid hit3
      have HF03 := Lib.hid hF03
      have HPN2 := Lib.hid hPn2
      have HR3 := Lib.hid hR3
      have HUS := Lib.hid hus
      have HSAME := Lib.hid hsame
      clear hPl2 hit3 hF03 hPn2 hR3 hus hsame
      go_wp2_with (fail)
      clear hnx hen
      obtain ⟨gko, hgko⟩ : ∃ m, m = gk := ⟨_, rfl⟩
      rw [← hgko] at hPk
      go_loopg [42] l.length (fun kk v wz => ∃ j : Nat, v = .int .i64 (j : Int) ∧ j + kk = l.length ∧ Hid (∀ y ∈ l.take j, p ∉ y.1.uses) ∧ Hid (Frm (New w3) w3 wz))
      case atStart => exact ⟨0, rfl, by omega, Lib.hid (fun y hy => by cases hy), Lib.hid (Frm.refl _ _)⟩
      case round =>
        obtain ⟨j, rfl, hj, hno, hFz⟩ := hrel
        rename World => wz
        have hF0z : Frm (New w) w wz := HF03.out.then_new Up.new hFz.out
        by_cases hjl : j < l.length
        · have hjli : (j : Int) < (l.length : Int) := by omega
          have hRz := HR3.out.fresh hFz.out
          obtain ⟨gA, oA, rfl, hjunk⟩ := hRz.at_ (k := j * 2) (by rw [secC_len]; omega)
          clear hjunk
          obtain ⟨hc0, hc1⟩ := secC_cells hRz j hjl
          have hgl := World.block_lt_of_cell? _ _ hc0
          simp only at hgl
          have htk : l.take (j + 1) = l.take j ++ [l[j]] := by rw [List.take_add_one, List.getElem?_eq_getElem hjl]; rfl
          have hmem := List.getElem_mem hjl
          obtain ⟨hXb, ue, hUe⟩ := HUS.out l[j] hmem
          generalize l[j] = y at *
          obtain ⟨⟨ys2, yc, yu⟩, yb⟩ := y
          simp only at hc0 hc1 hXb hUe
          have hbl := H.out.low _ hXb
          have HRZ := Lib.hid hRz
          have HTK := Lib.hid htk
          have HMEM := Lib.hid hmem
          clear hRz htk hmem
          go_upto_region 9 with (first
            | (refine wpList_new rfl rfl zSec1 rfl ?_; intro w4 hb4 hF4 hs4)
            | (refine wpList_store_agg rfl rfl rfl rfl hb4 rfl (sec_one _ _) (by kernel_rfl) ?_; intro w5 hb5 hF5 hs5))
          have hF25 : Frm (New wz) wz w5 := hF4.trans (hF5.mono (fun k hk => by subst hk; exact Nat.le_refl _))
          have hF35 : Frm (New w3) w3 w5 := hFz.out.then_new Up.new hF25
          have hF05 : Frm (New w) w w5 := hF0z.then_new Up.new hF25
          obtain ⟨v2, hv20, hv21, hv2, hvp2⟩ := getE_pos (s := p) hUe.pos
          have hm5 := hUe.map.keep hF05 (by unfold New; omega)
          have hlk2 := run_lookup ukeys uMq zIntN hm5 p false
          rw [hv2] at hlk2
          simp only [Bool.false_eq_true, if_false, ukey] at hlk2
          have hvq2 : 0 < v2 ↔ p ∈ yu := by rw [hvp2, hUe.mem]
          clear hb4 hF4 hs4 hF5 hs5 hc0 hc1 hgl hFz hF0z hv2 hvp2 hUe hm5 hF25
          have hk0 := hb5.cell 1
          simp only [List.getElem?_toArray, List.getElem?_cons_zero, List.getElem?_cons_succ] at hk0
          have hkl := hb5.lt
          have HB5 := Lib.hid hb5
          have HF35 := Lib.hid hF35
          have HF05 := Lib.hid hF05
          have HNO := Lib.hid hno
          have HVQ2 := Lib.hid hvq2
          clear hb5 hF35 hF05 hno hvq2
          generalize wz.heap.size = bx at *
          by_cases hk : 0 < v2
          · go_wp2
            go_ret
            refine ⟨?_, HF05.out⟩
            suffices hs : (E.opn.any fun o => decide (p ∈ o.uses)) = true by rw [HQQ.out, hs]; rfl
            refine List.any_eq_true.2 ?_
            have h9 : (⟨ys2, yc, yu⟩ : Qs) ∈ l.map (·.1) := List.mem_map.2 ⟨_, HMEM.out, rfl⟩
            rw [HSAME.out, List.mem_filter] at h9
            exact ⟨_, h9.1, decide_eq_true (HVQ2.out.1 hk)⟩
          · go_wp2
            go_roundg (gk - 1)
            case measure => omega
            case rel =>
              refine ⟨j + 1, ?_, by omega, ?_, HF35⟩
              · rw [Int.natCast_add]; rfl
              · refine Lib.hid ?_
                rw [HTK.out]
                intro z hz
                rcases List.mem_append.1 hz with q | q
                · exact HNO.out z q
                · rw [List.mem_singleton.1 q]; exact fun e => by have := HVQ2.out.2 e; omega
        · have hjli : ¬ (j : Int) < (l.length : Int) := by omega
          obtain rfl : j = l.length := by omega
          have HIT4 := Lib.hid (HIT3.out.fresh hFz.out)
          have HNO4 := Lib.hid (HPL2.out (by have hh := hno.out; rwa [List.take_length] at hh))
          have HF04 := Lib.hid hF0z
          clear hno hF0z hFz
          go_wp2
          go_roundg (gko - 1)
          case measure => omega
          case rel => exact ⟨P ++ [i], HPN2.out, by rw [List.length_append, List.length_singleton]; omega, HNO4, HIT4, HF04⟩
end Go.Proofs.Ytdgggjeiflllhaa.M
