/- qenc: an instruction of the other side. -/
import Derived.BigQuiet
import Derived.Deep.CutBlock
import Derived.Lib.Hide
import Derived.IntWalk
import Derived.StillTailTactics
import Derived.Test.YtdgggjeiflllhaaNr
namespace Go.Proofs.Ytdgggjeiflllhaa.M
open Go.ChangeShapes Go.WideShapes Go.ChangeAt Go.RowKit

/-- what an instruction leaves -/
def InR (X : Nat → Prop) (w : World) (pe g bm : Nat) (S : Nat → Prop) (Ar : Option Addr) (cr : Nat) (E2 : Qn) (w' : World) : Prop := ∃ L', QnM X w' pe g bm S Ar cr L' E2 ∧ Frm (Own (fun k => k = pe ∨ k = bm) w) w w'
theorem head_bv (l : Bytes) (h : l ≠ []) : (bvs l)[0]? = some (.int .u8 ((l.headD 0).toNat : Int)) := by
  cases l with
  | nil => exact absurd rfl h
  | cons x t => rfl
set_option maxRecDepth 100000 in
set_option maxHeartbeats 4000000 in
theorem nins_any {X S : Nat → Prop} {w : World} {pe g bm cr : Nat} {Ar : Option Addr} {L : List (Nat × Ro)} {E : Qn} (h : QnM X w pe g bm S Ar cr L E) (hne : E.rest ≠ []) :
    Calls Try.prog 52 #[.pointer (some ⟨pe, 0, none⟩)] w fun e w' => e = .returned (.tuple #[.int .i64 ((E.ins E.rest).2.1 : Nat), .int .i64 ((E.ins E.rest).1 : Nat)]) ∧ InR X w pe g bm S Ar cr (E.ins E.rest).2.2 w' := by
  obtain ⟨R, hR⟩ : ∃ R, R = E.ins E.rest := ⟨_, rfl⟩
  rw [← hR]
  rw [ins_eq] at hR
  obtain ⟨q, hq⟩ : ∃ q, q = (E.rest.headD 0).toNat := ⟨_, rfl⟩
  have hq8 : q < 256 := by rw [hq]; exact UInt8.toNat_lt _
  rw [← hq] at hR
  obtain ⟨gA, oA, hA, hjunk⟩ := h.rest.rd.at_ (k := 0) (by rw [bvs_length]; exact List.length_pos_iff.2 hne)
  have hc0 : w.cell? ⟨gA, oA, none⟩ = some (.int .u8 (q : Int)) := by
    have h1 := head_bv E.rest hne
    rw [← hq, List.getElem?_eq_getElem (by rw [bvs_length]; exact List.length_pos_iff.2 hne)] at h1
    rw [Option.some.inj h1] at hjunk
    exact hjunk
  clear hjunk
  subst hA
  have hgl := World.block_lt_of_cell? _ _ hc0
  simp only at hgl
  have hb := h.blk
  have hy3 := hb.cell 3
  have hy4 := hb.cell 4
  simp only [List.getElem?_toArray, List.getElem?_cons_zero, List.getElem?_cons_succ] at hy3 hy4
  have hpl := hb.lt
  have hlen : 0 < E.rest.length := List.length_pos_iff.2 hne
  have hleni : (0 : Int) < (E.rest.length : Int) := by omega
  have H := Lib.hid h
  have HB := Lib.hid hb
  have HR := Lib.hid hR
  have HQ := Lib.hid hq
  clear h hb hR hq
  go_enter Try.func52, Try.ntmps52
  by_cases hq7 : 128 ≤ q
  · have q7 : (((q : Int) / 128) == 1) = true := by rw [beq_iff_eq]; omega
    have q7p : ((q : Int) / 128) = 1 := by omega
    obtain ⟨z, hz⟩ : ∃ z, z = rdp E.rest 7 := ⟨_, rfl⟩
    have hrp := nrdp_any E.rest (some ⟨gA, oA, none⟩) cr 7 w H.out.rest.rd (by have := H.out.rl; omega) (by omega) (by omega)
    rw [← hz] at hrp
    have hR2 := HR.out
    rw [if_pos hq7, ← hz] at hR2
    clear HR hz
    obtain ⟨n, k, e2⟩ := z
    simp only at hR2
    have HRP := Lib.hid hrp
    have HR2 := Lib.hid hR2
    clear hrp hR2
    go_wp2_with (fail)
    refine HRP.out.mono ?_
    rintro e w1 hh
    obtain ⟨rfl, nq, hnq⟩ := hh
    have hF1 : Frm (New w) w w1 := by rw [hnq]; exact (Frm.refl _ _).drewN _
    clear hnq
    simp only
    have h1 := H.out.fresh hF1
    have hb1 := h1.blk
    clear hy3 hy4 hpl
    have hy3 := hb1.cell 3
    simp only [List.getElem?_toArray, List.getElem?_cons_zero, List.getElem?_cons_succ] at hy3
    have hpl := hb1.lt
    have H1 := Lib.hid h1
    have HF1 := Lib.hid hF1
    have HB1 := Lib.hid hb1
    clear h1 hF1 hb1
    by_cases he : e2 = 0
    · subst he
      have hR3 := HR2.out
      rw [if_neg (by simp)] at hR3
      clear HR2
      rw [if_pos hq7] at hR3
      have hca := nack_any H1.out n
      have HR3 := Lib.hid hR3
      have HCA := Lib.hid hca
      clear hR3 hca
      go_wp2_with (fail)
      refine HCA.out.mono ?_
      rintro e w2 ⟨rfl, L2, hQ2, hF2⟩
      have HQ2 := Lib.hid hQ2
      have HF2 := Lib.hid hF2
      clear hQ2 hF2
      go_wp2
      refine bodyPost_ret (results_tmp2 rfl _ _ _) rfl ?_
      rw [HR3.out]
      exact ⟨rfl, L2, HQ2.out, (HF1.out.mono (fun k hk => .inr hk)).trans (HF2.out.mono (fun k hk => .inl hk))⟩
    · have hei : ¬ (e2 : Int) = 0 := by omega
      have hR3 : R = (e2, 0, E) := by rw [HR2.out, if_pos he]
      have HR3 := Lib.hid hR3
      clear hR3
      go_wp2
      refine bodyPost_ret (results_tmp2 rfl _ _ _) rfl ?_
      rw [HR3.out]
      exact ⟨rfl, L, H1.out, HF1.out.mono (fun k hk => .inr hk)⟩
  have q7 : (((q : Int) / 128) == 1) = false := beq_eq_false_iff_ne.2 (by omega)
  have q7p : ¬ ((q : Int) / 128) = 1 := by omega
  by_cases hq6 : 64 ≤ q
  · have q6 : (((q : Int) / 64) == 1) = true := by rw [beq_iff_eq]; omega
    have q6p : ((q : Int) / 64) = 1 := by omega
    obtain ⟨z, hz⟩ : ∃ z, z = rdp E.rest 6 := ⟨_, rfl⟩
    have hrp := nrdp_any E.rest (some ⟨gA, oA, none⟩) cr 6 w H.out.rest.rd (by have := H.out.rl; omega) (by omega) (by omega)
    rw [← hz] at hrp
    have hR2 := HR.out
    rw [if_neg hq7, ← hz] at hR2
    clear HR hz
    obtain ⟨n, k, e2⟩ := z
    simp only at hR2
    have HRP := Lib.hid hrp
    have HR2 := Lib.hid hR2
    clear hrp hR2
    go_wp2_with (fail)
    refine HRP.out.mono ?_
    rintro e w1 hh
    obtain ⟨rfl, nq, hnq⟩ := hh
    have hF1 : Frm (New w) w w1 := by rw [hnq]; exact (Frm.refl _ _).drewN _
    clear hnq
    simp only
    have h1 := H.out.fresh hF1
    have hb1 := h1.blk
    clear hy3 hy4 hpl
    have hy3 := hb1.cell 3
    simp only [List.getElem?_toArray, List.getElem?_cons_zero, List.getElem?_cons_succ] at hy3
    have hpl := hb1.lt
    have H1 := Lib.hid h1
    have HF1 := Lib.hid hF1
    have HB1 := Lib.hid hb1
    clear h1 hF1 hb1
    by_cases he : e2 = 0
    · subst he
      have hR3 := HR2.out
      rw [if_neg (by simp)] at hR3
      clear HR2
      rw [if_neg hq7, if_pos hq6] at hR3
      have HR3 := Lib.hid hR3
      clear hR3
      go_upto_region 12 with (refine wpList_delete ukeys uMo rfl rfl rfl (k := n) rfl H1.out.map (fun w2 hm2 f2 hs2 => ?_))
      have HM2 := Lib.hid hm2
      clear hm2
      simp only [Act.put]
      go_wp2_with (fail)
      refine bodyPost_ret (results_tmp2 rfl _ _ _) rfl ?_
      rw [HR3.out]
      refine ⟨rfl, delE n L, H1.out.remap (L' := delE n L) (opn' := E.opn.filter fun o => decide (o.stream ≠ n)) (by rw [entsR_del]; exact HM2.out) f2 (by rw [delE_keys n L H.out.nd]; exact H.out.nd.filter _) (fun z hz => ?_) (fun z hz => ?_) (fun o ho => ?_) (fun o ho => (List.mem_filter.1 ho).1), (HF1.out.mono (fun k hk => .inr hk)).trans (f2.mono (fun k hk => .inl (.inr hk)))⟩
      · obtain ⟨h2, h3⟩ := mem_del_ne n L H.out.nd z hz
        exact ⟨z, h2, rfl, rfl, H1.out.rows z h2, fun _ h => h⟩
      · obtain ⟨h2, h3⟩ := mem_del_ne n L H.out.nd z hz
        rw [H.out.same z h2, List.filter_filter]
        refine List.filter_congr (fun o _ => ?_)
        by_cases e : o.stream = z.1
        · simp [e, h3]
        · simp [e]
      · obtain ⟨h2, h3⟩ := List.mem_filter.1 ho
        rw [delE_keys n L H.out.nd, List.mem_filter]
        exact ⟨H.out.all o h2, h3⟩
    · have hei : ¬ (e2 : Int) = 0 := by omega
      have hR3 : R = (e2, 0, E) := by rw [HR2.out, if_pos he]
      have HR3 := Lib.hid hR3
      clear hR3
      go_wp2
      refine bodyPost_ret (results_tmp2 rfl _ _ _) rfl ?_
      rw [HR3.out]
      exact ⟨rfl, L, H1.out, HF1.out.mono (fun k hk => .inr hk)⟩
  · have q6 : (((q : Int) / 64) == 1) = false := beq_eq_false_iff_ne.2 (by omega)
    have q6p : ¬ ((q : Int) / 64) = 1 := by omega
    obtain ⟨z, hz⟩ : ∃ z, z = rdp E.rest 6 := ⟨_, rfl⟩
    have hrp := nrdp_any E.rest (some ⟨gA, oA, none⟩) cr 6 w H.out.rest.rd (by have := H.out.rl; omega) (by omega) (by omega)
    rw [← hz] at hrp
    have hR2 := HR.out
    rw [if_neg hq7, ← hz] at hR2
    clear HR hz
    obtain ⟨n, k, e2⟩ := z
    simp only at hR2
    have HRP := Lib.hid hrp
    have HR2 := Lib.hid hR2
    clear hrp hR2
    go_wp2_with (fail)
    refine HRP.out.mono ?_
    rintro e w1 hh
    obtain ⟨rfl, nq, hnq⟩ := hh
    have hF1 : Frm (New w) w w1 := by rw [hnq]; exact (Frm.refl _ _).drewN _
    clear hnq
    simp only
    have h1 := H.out.fresh hF1
    have hb1 := h1.blk
    clear hy3 hy4 hpl
    have hy3 := hb1.cell 3
    simp only [List.getElem?_toArray, List.getElem?_cons_zero, List.getElem?_cons_succ] at hy3
    have hpl := hb1.lt
    have H1 := Lib.hid h1
    have HF1 := Lib.hid hF1
    have HB1 := Lib.hid hb1
    clear h1 hF1 hb1
    by_cases he : e2 = 0
    · subst he
      have hR3 := HR2.out
      rw [if_neg (by simp)] at hR3
      clear HR2
      rw [if_neg hq7, if_neg hq6] at hR3
      have hca := ngrow_any H1.out n
      have HR3 := Lib.hid hR3
      have HCA := Lib.hid hca
      clear hR3 hca
      go_wp2_with (fail)
      refine HCA.out.mono ?_
      rintro e w2 ⟨rfl, L2, hQ2, hF2⟩
      have HQ2 := Lib.hid hQ2
      have HF2 := Lib.hid hF2
      clear hQ2 hF2
      go_wp2
      refine bodyPost_ret (results_tmp2 rfl _ _ _) rfl ?_
      rw [HR3.out]
      exact ⟨rfl, L2, HQ2.out, (HF1.out.mono (fun k hk => .inr hk)).trans (HF2.out.mono (fun k hk => .inl hk))⟩
    · have hei : ¬ (e2 : Int) = 0 := by omega
      have hR3 : R = (e2, 0, E) := by rw [HR2.out, if_pos he]
      have HR3 := Lib.hid hR3
      clear hR3
      go_wp2
      refine bodyPost_ret (results_tmp2 rfl _ _ _) rfl ?_
      rw [HR3.out]
      exact ⟨rfl, L, H1.out, HF1.out.mono (fun k hk => .inr hk)⟩
end Go.Proofs.Ytdgggjeiflllhaa.M
