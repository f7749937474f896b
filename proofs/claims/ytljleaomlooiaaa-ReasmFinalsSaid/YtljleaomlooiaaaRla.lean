/- reasm.lay: what it returns. Places below 2^62, fewer than 2^40 bytes; the sort's law ahead. -/
import Derived.BigQuiet
import Derived.Deep.CutBlock
import Derived.Lib.Hide
import Derived.IntWalk
import Derived.Deep.QuietTactic
import Derived.Test.YtljleaomlooiaaaRat
import Derived.Test.YtljleaomlooiaaaRsr
import Derived.Test.YtljleaomlooiaaaRcl
import Derived.Test.YtljleaomlooiaaaRpe
import Derived.Test.YtljleaomlooiaaaRpu
import Derived.Test.YtljleaomlooiaaaReg
namespace Go.Proofs.Ytljleaomlooiaaa.M
open Go.ChangeShapes Go.WideShapes Go.ChangeAt Go.RowKit

/-- what SortFunc does to a row of pieces -/
def SortLaw : Prop := ∀ (A : Option Addr) (c : Nat) (M : Nat → Prop) (pv : List Pv) (w : World), App M w 56 2 A pv.length c (pv.flatMap pvc) → pv.length < 4611686018427387904 →
  Calls Try.prog 30 #[.slice A pv.length c, .func (.func 31) #[] #[]] w fun e w' => e = .returned (.tuple #[]) ∧
    ∃ pv' : List Pv, pv'.Perm pv ∧ pv'.Pairwise (fun x y => x.1 ≤ y.1) ∧ App M w' 56 2 A pv'.length c (pv'.flatMap pvc) ∧ Frm (fun k => blk A = some k ∨ New w k) w w'
/-- what lay leaves -/
def LayR (S : Nat → Prop) (w : World) (p : Nat) (B : Bf) (off : Nat) (b : Bytes) (e : Ending) (w' : World) : Prop :=
  e = .returned (.tuple #[]) ∧ ∃ S' A' c' pv' l', RbAt S' w' p { B with l := l' } A' c' pv' ∧ l'.Perm (B.l ++ news off b (off + b.length) B.l (max off B.a)) ∧ l'.Pairwise (fun x y => x.off ≤ y.off) ∧ Frm (Own S w) w w' ∧ ∀ k, S' k → Own S w k
theorem piece_agg : Agg Try.prog 56 2 := ⟨⟨_, Try.underlying56, rfl⟩, by kernel_rfl⟩

set_option maxRecDepth 100000 in
set_option maxHeartbeats 4000000 in
theorem lay_any (hsort : SortLaw) {S : Nat → Prop} {p c cb : Nat} {B : Bf} {A Ab : Option Addr} {pv : List Pv} (off : Nat) (b : Bytes) (w : World) (h : RbAt S w p B A c pv) (hs : Srt B.a B.l) (hst : ∀ P ∈ B.l, P.stop ≤ 4611686018427387903) (ha : B.a ≤ 4611686018427387903)
    (he : off + b.length ≤ 4611686018427387903) (hx : Ext S w Ab (bvs b)) (hcb : b.length ≤ cb) (hnil : Ab = none → cb = 0) (hq : hl B.l + b.length ≤ 1099511627776) :
    Calls Try.prog 25 #[.pointer (some ⟨p, 0, none⟩), .int .u64 off, .slice Ab b.length cb] w (LayR S w p B off b) := by
  have hO : Hid (∀ e w', LayR S w p B off b e w' ↔ LayR S w p B off b e w') := fun _ _ => Iff.rfl
  generalize hQ : LayR S w p B off b = Q
  have HQ := Lib.hid hQ
  clear hQ hO
  have hcells := h.blk
  have hlen := h.pcs.len
  unfold Bf.cells at hcells
  have h0 := hcells.cell 0
  have h1 := hcells.cell 1
  simp only [List.getElem?_toArray, List.getElem?_cons_zero, List.getElem?_cons_succ] at h0 h1
  have hp := hcells.lt
  have hw1 : IntKind.u64.wrap ((off : Int) + (b.length : Int)) = ((off + b.length : Nat) : Int) := by rw [← Int.natCast_add]; exact IntWalk.u64_in _ (by omega)
  obtain ⟨a0, ha0⟩ : ∃ a0, a0 = max off B.a := ⟨_, rfl⟩
  have HA0 := Lib.hid ha0
  clear ha0
  have H := Lib.hid h
  have HS := Lib.hid hs
  have HST := Lib.hid hst
  have HX := Lib.hid hx
  have HCELLS := Lib.hid hcells
  have HLEN := Lib.hid hlen
  clear h hs hst hx hcells hlen
  go_enter Try.func25, Try.ntmps25
  go_upto_region 1 with (fail)
  go_cut [6, 7] from 10 (fun v6 v7 w5 => v6 = .int .u64 (off + b.length : Nat) ∧ v7 = .int .u64 a0 ∧ ∃ n, w5 = w.drewN n)
  case first =>
    by_cases hm : B.a ≤ off
    · have hm1 : (B.a : Int) ≤ off := by omega
      obtain rfl : a0 = off := by have := HA0.out; omega
      go_quiet (fail)
      go_wp2
      go_meet
      exact ⟨rfl, rfl, _, rfl⟩
    · have hm1 : ¬ (B.a : Int) ≤ off := by omega
      have hm2 : (off : Int) < B.a := by omega
      obtain rfl : a0 = B.a := by have := HA0.out; omega
      go_quiet (fail)
      go_wp2
      go_meet
      exact ⟨rfl, rfl, _, rfl⟩
  case rest =>
    obtain ⟨rfl, rfl, nq, rfl⟩ := hcut
    have ha1 : off ≤ a0 ∧ a0 ≤ 4611686018427387903 := by have := HA0.out; omega
    have h1 := H.out.fresh ((Frm.refl (New w) w).drewN nq)
    have hx1 := HX.out.fresh ((Frm.refl (New w) w).drewN nq)
    have hF1 := (Frm.refl (Own S w) w).drewN nq
    generalize w.drewN nq = w1 at *
    have hcells := h1.blk
    unfold Bf.cells at hcells
    have h0 := hcells.cell 0
    simp only [List.getElem?_toArray, List.getElem?_cons_zero] at h0
    have hp := hcells.lt
    have hpl := h1.pcs.len
    have hplq : pv.length ≤ 1099511627776 := by
      have := hl_len (l := B.l) (fun P hP => (HS.out.low P hP).2)
      omega
    have hcl := pclone_any A pv.length c (pv.flatMap pvc) w1 h1.row.rd (pvl pv) (pvone pv) (fun e => by have := h1.row.nil_ e; have := h1.row.cap; omega) (by omega)
    have hlow1 := h1.low
    clear hw1 hcells
    have H1 := Lib.hid h1
    have HX1 := Lib.hid hx1
    have HF1 := Lib.hid hF1
    have HCL := Lib.hid hcl
    have HPL := Lib.hid hpl
    have HLOW1 := Lib.hid hlow1
    clear h1 hx1 hF1 hcl hpl hlow1
    go_upto_region 2 with ((go_at_call 27; refine HCL.out.mono ?_; rintro e w2 ⟨Ac, cc, rfl, hAc, hF2⟩))
    have h2 := H1.out.fresh hF2
    have hx2 := HX1.out.fresh hF2
    have hF02 := HF1.out.trans (hF2.mono (fun k hk => (.inr (Nat.le_trans HF1.out.size hk) : Own S w k)))
    have hs12 := hF2.size
    clear h0 hp h1
    have hcc := hAc.cap
    have hccm := hAc.max
    simp only [maxLen] at hccm
    have ha0 : B.a ≤ a0 := by have := HA0.out; omega
    have H2 := Lib.hid h2
    have HX2 := Lib.hid hx2
    have HF02 := Lib.hid hF02
    have HAC := Lib.hid hAc
    clear h2 hx2 hF02 hAc
    clear hF2 H H1 HX HX1 HCELLS HLEN HF1 HCL
    go_loopw [7, 27] (fun v7 v27 wr => ∃ (k a' : Nat) (S' : Nat → Prop) (A' : Option Addr) (c' : Nat) (pv' : List Pv) (nw : List Pc), k ≤ pv.length ∧ v7 = .int .u64 a' ∧ v27 = .int .i64 k ∧ off ≤ a' ∧ B.a ≤ a' ∧ a' ≤ 4611686018427387903 ∧
      Hid (RbAt S' wr p { B with l := B.l ++ nw } A' c' pv') ∧ Hid (news off b (off + b.length) B.l a0 = nw ++ news off b (off + b.length) (B.l.drop k) a') ∧ Hid (Frm (Own S w2) w2 wr) ∧ Hid (∀ q, S' q → Own S w2 q)) (fun _ v27 _ => pv.length - (intOf v27).toNat)
    case atStart =>
      refine ⟨0, a0, S, A, c, pv, [], Nat.zero_le _, rfl, rfl, ha1.1, ha0, ha1.2, ?_, rfl, Frm.refl _ _, fun q hq => .inl hq⟩
      rw [List.append_nil]
      exact H2
    case round =>
      obtain ⟨k, a', S', A', c', pv', nw, hk, rfl, rfl, hoff, hBa, hmx, hrb, hnw, hF, hSS⟩ := hrel
      have hnwq : nw.length ≤ b.length := by
        have h1 := news_hl (b := b) HS.out ha1.1
        have h2 := hl_len (l := nw) (fun P hP => ((news_srt off b B.l B.a a0 HS.out ha1.1).low P (by rw [hnw.out]; simp [hP])).2)
        rw [hnw.out, hl_app] at h1
        omega
      have hpvq : pv'.length = B.l.length + nw.length := by rw [hrb.out.pcs.len]; simp
      have hpvq2 : pv'.length ≤ 2199023255552 := by have := HPL.out; omega
      have HPVQ := Lib.hid hpvq
      have HPVQ2 := Lib.hid hpvq2
      clear hpvq hpvq2
      by_cases hlt : k < pv.length
      · have hkl : k < B.l.length := by rw [← HPL.out]; exact hlt
        have hCr : Rd wr Ac (pv.flatMap pvc) := HAC.out.rd.keep hF.out (fun q hq e => by
          rcases e with e | e
          · have h1 := HLOW1.out q e
            have h2 := HAC.out.inM q hq
            unfold New at h2
            omega
          · obtain ⟨g, o, e2, hg⟩ := HAC.out.rd.lt (fun e3 => by
              have h3 := congrArg List.length e3
              rw [pvl, List.length_nil] at h3
              omega)
            rw [e2] at hq
            simp only [blk_some, Option.some.injEq] at hq
            omega)
        obtain ⟨gC, oC, hAce, hx0, hx1⟩ := pvcells hCr k hlt
        subst hAce
        have hgw := World.block_lt_of_cell? _ _ hx0
        have hat := H2.out.pcs.at_ k hlt hkl
        have hPo := hat.off
        have hPk := hat.len
        have hdr := List.drop_eq_getElem_cons hkl
        have hPm : B.l[k] ∈ B.l := List.getElem_mem hkl
        clear hat hCr
        generalize B.l[k] = P at *
        generalize pv[k] = v at *
        obtain ⟨vo, vA, vn, vc⟩ := v
        simp only at hPo hPk hx0 hx1
        subst hPo hPk
        have hPs := HST.out P hPm
        have hPne := (HS.out.low P hPm).2
        have hPn := List.length_pos_iff.2 hPne
        have hPa := (HS.out.low P hPm).1
        unfold Pc.stop at hPs
        rw [hdr] at hnw
        clear hPm hdr hPne
        have HNW := hnw
        clear hnw
        go_upto_region 3 with (fail)
        go_upto_region 4 with (first
          | (refine wpList_new rfl rfl zPc rfl ?_; intro w6 hb6 hF6 hs6)
          | (refine wpList_store_agg rfl rfl rfl (cs := #[.int .u64 P.off, .slice vA P.b.length vc]) rfl hb6 rfl (pvone [(P.off, vA, P.b.length, vc)]) (by kernel_rfl) ?_; intro w7 hb7 hF7 hs7))
        have hF17 := hF6.trans (hF7.mono (fun q e => by rw [e]; exact Nat.le_refl _))
        clear hF6 hF7 hb6 hs6 hs7 hx0 hx1 hgw w6
        have hrb7 := hrb.out.fresh hF17
        have hF27 := hF.out.then_new (Own.up S w2) hF17
        have hg9 := hrb.out.low
        have hy := hb7.lt
        have hend := fun w' => end_any P.off P.b.length vA vc w' (by omega) (by omega)
        generalize wr.heap.size = g9 at *
        clear hF17 hrb hF
        have HRB7 := Lib.hid hrb7
        have HF27 := Lib.hid hF27
        have HB7 := Lib.hid hb7
        have HG9 := Lib.hid hg9
        have HEND := Lib.hid hend
        clear hrb7 hF27 hb7 hg9 hend
        by_cases h1 : P.off + P.b.length ≤ a'
        · have h1' : (P.off : Int) + (P.b.length : Int) ≤ (a' : Int) := by omega
          go_upto_region 8 with (first
            | (refine wpList_load_agg piece_agg rfl rfl rfl HB7.out rfl ?_)
            | (go_at_call 28; refine (HEND.out _).mono ?_; rintro e w8 ⟨rfl, hF8⟩))
          have hrb8 := HRB7.out.fresh hF8
          have hF28 := HF27.out.then_new (Own.up S w2) hF8
          have HRB8 := Lib.hid hrb8
          have HF28 := Lib.hid hF28
          clear hrb8 hF28
          clear hF8
          go_wp2
          go_roundw
          case rel => exact ⟨k + 1, a', S', A', c', pv', nw, by omega, rfl, by go_num, hoff, hBa, hmx, HRB8, by show _ = _; rw [HNW.out, news_skip (by unfold Pc.stop; exact h1)], HF28, hSS⟩
          case measure => simp [intOf]; omega
        · have h1' : ¬ (P.off : Int) + (P.b.length : Int) ≤ (a' : Int) := by omega
          have h1b : (a' : Int) ≤ (P.off : Int) + (P.b.length : Int) := by omega
          go_upto_region 5 with (first
            | (refine wpList_load_agg piece_agg rfl rfl rfl HB7.out rfl ?_)
            | (go_at_call 28; refine (HEND.out _).mono ?_; rintro e w8 ⟨rfl, hF8⟩))
          have hrb8 := HRB7.out.fresh hF8
          have hF28 := HF27.out.then_new (Own.up S w2) hF8
          have hb8 := HB7.out.fresh hF8
          clear hF8 HRB7 HF27 HB7 HEND
          have hR8 : Rd w8 Ab (bvs b) := HX2.out.off hF28 (fun q e => e)
          have hg8 := hb8.lt
          have hbb := hrb8.blk
          unfold Bf.cells at hbb
          have hd0 := hbb.cell 0
          simp only [List.getElem?_toArray, List.getElem?_cons_zero] at hd0
          have hx0 := hb8.cell 0
          simp only [List.getElem?_toArray, List.getElem?_cons_zero] at hx0
          have hp := hbb.lt
          have HW8 : Hid (∃ w8', w8' = w8) := ⟨_, rfl⟩
          have hK8 : ∀ w', Frm (New w8) w8 w' → w'.cell? ⟨p, 0, none⟩ = some (.slice A' pv'.length c') ∧ w'.cell? ⟨g9, 0, none⟩ = some (.int .u64 P.off) := fun w' hw' => by
            have e1 := (hbb.fresh hw').cell 0
            have e2 := (hb8.fresh hw').cell 0
            exact ⟨e1, e2⟩
          have HRB8 := Lib.hid hrb8
          have HF28 := Lib.hid hF28
          have HB8 := Lib.hid hb8
          have HR8 := Lib.hid hR8
          have HK8 := Lib.hid hK8
          have HBB := Lib.hid hbb
          clear hrb8 hF28 hb8 hR8 hK8 hbb
          go_cut [43] from 35 to 71 (fun v43 w5 => w5 = w8 ∧ v43 = .bool (decide (a' < P.off ∧ a' < off + b.length)))
          case first =>
            by_cases h2 : a' < P.off
            · have h2c : (a' : Int) < (P.off : Int) := by omega
              have hdc : decide (a' < P.off ∧ a' < off + b.length) = decide ((a' : Int) < (off : Int) + (b.length : Int)) := by
                rw [Bool.eq_iff_iff, decide_eq_true_iff, decide_eq_true_iff]; omega
              go_wp2
              go_meet
              exact ⟨rfl, by rw [hdc]⟩
            · have h2c : ¬ (a' : Int) < (P.off : Int) := by omega
              have hdc : decide (a' < P.off ∧ a' < off + b.length) = false := by rw [decide_eq_false_iff_not]; omega
              go_wp2
              go_meet
              exact ⟨rfl, by rw [hdc]⟩
          case rest =>
          obtain ⟨rfl, rfl⟩ := hcut
          rename World => w8
          go_upto_if 43 with (fail)
          go_cut [] from 43 to 71 (fun w5 => ∃ (w9 : World) (S'' : Nat → Prop) (A'' : Option Addr) (c'' : Nat) (pv'' : List Pv) (nw' : List Pc), w5 = w9 ∧ Hid (RbAt S'' w9 p { B with l := B.l ++ nw' } A'' c'' pv'') ∧
            Hid (news off b (off + b.length) B.l a0 = nw' ++ news off b (off + b.length) (B.l.drop (k + 1)) (P.off + P.b.length)) ∧ Hid (Frm (Own S w2) w2 w9) ∧ Hid (∀ q, S'' q → Own S w2 q) ∧ Hid (Blk w9 g9 56 #[.int .u64 P.off, .slice vA P.b.length vc]))
          case first =>
            by_cases h2 : a' < P.off ∧ a' < off + b.length
            · have hdc : decide (a' < P.off ∧ a' < off + b.length) = true := decide_eq_true h2
              rw [hdc]
              clear hdc
              obtain ⟨h2a, h2b⟩ := h2
              go_upto_region 6 with (fail)
              obtain ⟨m, hm⟩ : ∃ m, m = min P.off (off + b.length) := ⟨_, rfl⟩
              obtain ⟨i, hi⟩ : ∃ i, i = a' - off := ⟨_, rfl⟩
              obtain ⟨j, hj⟩ : ∃ j, j = m - off := ⟨_, rfl⟩
              obtain ⟨Aq, hAq⟩ : ∃ Aq, (if cb = i then Ab else Ab.map (·.add (i * 1))) = Aq := ⟨_, rfl⟩
              obtain ⟨cq, hcq⟩ : ∃ cq, cb - i = cq := ⟨_, rfl⟩
              obtain ⟨bx, hbx⟩ : ∃ bx, bx = (b.drop i).take (m - a') := ⟨_, rfl⟩
              have hnq : j - i = bx.length := by rw [hbx, List.length_take, List.length_drop]; omega
              have hji : i < j ∧ j ≤ b.length := by omega
              have hw2 : IntKind.u64.wrap ((a' : Int) - (off : Int)) = (i : Int) := by rw [show (a' : Int) - (off : Int) = (i : Int) by omega]; exact IntWalk.u64_in _ (by omega)
              have hM : Hid (m = min P.off (off + b.length)) := hm
              have HI : Hid (i = a' - off) := hi
              have hcl := fun w' h => bclone_any Aq bx.length cq bx w' h rfl (fun e => by have := hnil (cut_none (hAq.trans e)); omega) (by omega)
              have hcut := HR8.out.subB hcb i (m - a')
              rw [hAq, ← hbx] at hcut
              have hS0 : w8.drew.cell? ⟨p, 0, none⟩ = some (.slice A' pv'.length c') ∧ w8.drew.cell? ⟨g9, 0, none⟩ = some (.int .u64 P.off) := ⟨hd0, hx0⟩
              have hbx0 : 0 < bx.length := by omega
              have hbxq : bx.length ≤ 1099511627776 := by omega
              have hrb8d := HRB8.out.fresh ((Frm.refl (New w8) w8).drew)
              have hAp := HRB8.out.row
              have hnA : ∀ q, blk A' = some q → q ≠ g9 ∧ q ≠ p := fun q hq => ⟨fun e => by have := HG9.out q (hAp.inM q hq).1; omega, (hAp.inM q hq).2⟩
              have hpvq2 := HPVQ2.out
              have HCL := Lib.hid hcl
              have HCUT := Lib.hid hcut
              have HAQ := Lib.hid hAq
              have HNQ := Lib.hid hnq
              have HCQ := Lib.hid hcq
              have HBX := Lib.hid hbx
              have HRB8D := Lib.hid hrb8d
              have HAP := Lib.hid hAp
              have HNA := Lib.hid hnA
              clear hcl hcut hAq hnq hcq hbx hrb8d hAp hnA
              have hmi : (if (off : Int) + (b.length : Int) < (P.off : Int) then (off : Int) + (b.length : Int) else (P.off : Int)) = (m : Int) := by split <;> omega
              have hw3 : IntKind.u64.wrap ((m : Int) - (off : Int)) = (j : Int) := by rw [show (m : Int) - (off : Int) = (j : Int) by omega]; exact IntWalk.u64_in _ (by omega)
              clear hm hi hj
              refine wp_region_til (by kernel_rfl) (fun w' => w'.cell? ⟨p, 0, none⟩ = some (.slice A' pv'.length c') ∧ w'.cell? ⟨g9, 0, none⟩ = some (.int .u64 P.off)) 23 ?_
              refine wpAnyT_take (i := 0) (v := ?_) (d := some 44) rfl (by rfl) (by kernel_rfl) (fun _ _ _ h => h) (by rfl) hS0 (fun w hSw => ?_) ?_
              rotate_left
              · (try dsimp only at hSw); go_simp; first | done | (with_reducible rfl)
              simp only [Act.put, List.setIfInBounds_toArray, List.set_cons_zero, List.set_cons_succ]
              refine wpAnyT_take (i := 1) (v := ?_) (d := some 45) rfl (by rfl) (by kernel_rfl) (fun _ _ _ h => h) (by rfl) hS0 (fun w hSw => ?_) ?_
              rotate_left
              · (try dsimp only at hSw); go_simp; first | done | (with_reducible rfl)
              simp only [Act.put, List.setIfInBounds_toArray, List.set_cons_zero, List.set_cons_succ]
              refine wpAnyT_take (i := 2) (v := ?_) (d := some 46) rfl (by rfl) (by kernel_rfl) (fun _ _ _ h => h) (by rfl) hS0 (fun w hSw => ?_) ?_
              rotate_left
              · (try dsimp only at hSw); go_simp; first | done | (with_reducible rfl)
              simp only [Act.put, List.setIfInBounds_toArray, List.set_cons_zero, List.set_cons_succ]
              refine wpAnyT_take (i := 3) (v := ?_) (d := some 47) rfl (by rfl) (by kernel_rfl) (fun _ _ _ h => h) (by rfl) hS0 (fun w hSw => ?_) ?_
              rotate_left
              · (try dsimp only at hSw); go_simp; first | done | (with_reducible rfl)
              simp only [Act.put, List.setIfInBounds_toArray, List.set_cons_zero, List.set_cons_succ]
              refine wpAnyT_take (i := 4) (v := ?_) (d := some 48) rfl (by rfl) (by kernel_rfl) (fun _ _ _ h => h) (by rfl) hS0 (fun w hSw => ?_) ?_
              rotate_left
              · (try dsimp only at hSw); go_simp; first | done | (with_reducible rfl)
              simp only [Act.put, List.setIfInBounds_toArray, List.set_cons_zero, List.set_cons_succ]
              refine wpAnyT_take (i := 5) (v := ?_) (d := some 49) rfl (by rfl) (by kernel_rfl) (fun _ _ _ h => h) (by rfl) hS0 (fun w hSw => ?_) ?_
              rotate_left
              · (try dsimp only at hSw); go_simp; first | done | (with_reducible rfl)
              simp only [Act.put, List.setIfInBounds_toArray, List.set_cons_zero, List.set_cons_succ]
              refine wpAnyT_take (i := 6) (v := ?_) (d := some 50) rfl (by rfl) (by kernel_rfl) (fun _ _ _ h => h) (by rfl) hS0 (fun w hSw => ?_) ?_
              rotate_left
              · (try dsimp only at hSw); go_simp; first | done | (with_reducible rfl)
              simp only [Act.put, List.setIfInBounds_toArray, List.set_cons_zero, List.set_cons_succ]
              refine wpAnyT_take (i := 7) (v := ?_) (d := some 51) rfl (by rfl) (by kernel_rfl) (fun _ _ _ h => h) (by rfl) hS0 (fun w hSw => ?_) ?_
              rotate_left
              · (try dsimp only at hSw); go_simp; first | done | (with_reducible rfl)
              simp only [Act.put, List.setIfInBounds_toArray, List.set_cons_zero, List.set_cons_succ]
              refine wpAnyT_take (i := 8) (v := ?_) (d := some 52) rfl (by rfl) (by kernel_rfl) (fun _ _ _ h => h) (by rfl) hS0 (fun w hSw => ?_) ?_
              rotate_left
              · (try dsimp only at hSw); go_simp; first | done | (with_reducible rfl)
              simp only [Act.put, List.setIfInBounds_toArray, List.set_cons_zero, List.set_cons_succ]
              refine wpAnyT_take (i := 9) (v := ?_) (d := some 53) rfl (by rfl) (by kernel_rfl) (fun _ _ _ h => h) (by rfl) hS0 (fun w hSw => ?_) ?_
              rotate_left
              · (try dsimp only at hSw); go_simp; first | done | (with_reducible rfl)
              simp only [Act.put, List.setIfInBounds_toArray, List.set_cons_zero, List.set_cons_succ]
              refine wpAnyT_take (i := 10) (v := ?_) (d := some 54) rfl (by rfl) (by kernel_rfl) (fun _ _ _ h => h) (by rfl) hS0 (fun w hSw => ?_) ?_
              rotate_left
              · (try dsimp only at hSw); go_simp; first | done | (with_reducible rfl)
              simp only [Act.put, List.setIfInBounds_toArray, List.set_cons_zero, List.set_cons_succ]
              refine wpAnyT_take (i := 11) (v := ?_) (d := some 55) rfl (by rfl) (by kernel_rfl) (fun _ _ _ h => h) (by rfl) hS0 (fun w hSw => ?_) ?_
              rotate_left
              · (try dsimp only at hSw); go_simp; first | done | (with_reducible rfl)
              simp only [Act.put, List.setIfInBounds_toArray, List.set_cons_zero, List.set_cons_succ]
              refine wpAnyT_take (i := 12) (v := ?_) (d := some 56) rfl (by rfl) (by kernel_rfl) (fun _ _ _ h => h) (by rfl) hS0 (fun w hSw => ?_) ?_
              rotate_left
              · (try dsimp only at hSw); go_simp; first | done | (with_reducible rfl)
              simp only [Act.put, List.setIfInBounds_toArray, List.set_cons_zero, List.set_cons_succ]
              refine wpAnyT_take (i := 13) (v := ?_) (d := some 57) rfl (by rfl) (by kernel_rfl) (fun _ _ _ h => h) (by rfl) hS0 (fun w hSw => ?_) ?_
              rotate_left
              · (try dsimp only at hSw); go_simp; first | done | (with_reducible rfl)
              simp only [Act.put, List.setIfInBounds_toArray, List.set_cons_zero, List.set_cons_succ]
              refine wpAnyT_take (i := 14) (v := ?_) (d := some 58) rfl (by rfl) (by kernel_rfl) (fun _ _ _ h => h) (by rfl) hS0 (fun w hSw => ?_) ?_
              rotate_left
              · (try dsimp only at hSw); go_simp; first | done | (with_reducible rfl)
              simp only [Act.put, List.setIfInBounds_toArray, List.set_cons_zero, List.set_cons_succ]
              refine wpAnyT_take (i := 15) (v := ?_) (d := some 59) rfl (by rfl) (by kernel_rfl) (fun _ _ _ h => h) (by rfl) hS0 (fun w hSw => ?_) ?_
              rotate_left
              · (try dsimp only at hSw); go_simp; first | done | (with_reducible rfl)
              simp only [Act.put, List.setIfInBounds_toArray, List.set_cons_zero, List.set_cons_succ]
              refine wpAnyT_one (i := 16) rfl (by kernel_rfl) (fun K hK => ?_)
              (refine step_val rfl (.slice Aq bx.length cq) (run_cutE u8s HAQ.out HNQ.out HCQ.out rfl rfl rfl rfl (by first | rfl | exact hw2) (by first | rfl | exact hw3) (by omega) (by omega)) ?_)
              refine hK.out _ _ (.inr (hS0)) ?_
              clear hK K
              refine wpAnyT_one (i := 17) rfl (by kernel_rfl) (fun K hK => ?_)
              (refine Eq.mpr (if_pos (by rfl)) ?_; go_wp2_with (go_at_call 29; refine (HCL.out _ (HCUT.out.drew)).mono ?_; rintro e w10 ⟨A1, c1, rfl, hA1, hF10⟩; have hF810 := ((Frm.refl (New w8) w8).drew).trans hF10; have hS10 := HK8.out _ hF810))
              refine hK.out _ _ (.inr (hS10)) ?_
              clear hK K
              have hHA1 := Lib.hid hA1
              have HF10 := Lib.hid hF10
              have hF810' := Lib.hid hF810
              have hAp10 := (HAP.out.fresh hF810).mono (M' := fun k => (S' k ∧ k ≠ p) ∨ New w8.drew k) (fun k hk => .inl hk)
              have hb10 := HBB.out.fresh hF810
              have hc10 := HB8.out.fresh hF810
              have hs10 := hF810.size
              clear hd0 hx0 hS0 hp hg8 hA1 hF10 hF810
              have hd0 := hS10.1
              have hx0 := hS10.2
              have hp := hb10.lt
              have hg8 := hc10.lt
              have hn0 := World.new_ne w10 _ hd0
              have hn1 := World.new_ne w10 _ hx0
              have HAP10 := Lib.hid hAp10
              have HB10 := Lib.hid hb10
              have HC10 := Lib.hid hc10
              clear hAp10 hb10 hc10
              refine wpAnyT_one (i := 18) rfl (by kernel_rfl) (fun K hK => ?_)
              go_simp
              refine hK.out _ _ (.inr (hS10)) ?_
              clear hK K
              refine wpAnyT_one (i := 19) rfl (by kernel_rfl) (fun K hK => ?_)
              go_simp
              refine hK.out _ _ (.inr ((by go_keep))) ?_
              clear hK K
              refine wpAnyT_one (i := 20) rfl (by kernel_rfl) (fun K hK => ?_)
              (refine step_append2 (M := fun k => (S' k ∧ k ≠ p) ∨ New w8.drew k) (A := A') (n := pv'.length) (c := c') (xs := pv'.flatMap pvc) (news := [.int .u64 a', .slice A1 bx.length c1]) pcs rfl rfl rfl (HAP10.out.alloc _) (fun k hk => .inr (by simp at hk; unfold New; simp; omega)) rfl (Rd.new _ #[.int .u64 a', .slice A1 bx.length c1] _) rfl (fun u hu => by simp at hu; rcases hu with rfl | rfl <;> rfl) (by omega) ?_; intro A4 c4 w6 hApp4 hF4 hblk4 hWr4; have hb6 := (HB10.out.alloc _).keep hWr4 (fun e => by rcases e with e | ⟨_, e⟩; simp at e; omega; exact (HNA.out _ e).2 rfl); have hc6 := (HC10.out.alloc _).keep hWr4 (fun e => by rcases e with e | ⟨_, e⟩; simp at e; omega; exact (HNA.out _ e).1 rfl))
              refine hK.out _ _ (.inr (⟨hb6.cell 0, hc6.cell 0⟩)) ?_
              clear hK K
              have hS6 : w6.cell? ⟨p, 0, none⟩ = some (.slice A' pv'.length c') ∧ w6.cell? ⟨g9, 0, none⟩ = some (.int .u64 P.off) := ⟨hb6.cell 0, hc6.cell 0⟩
              have hz6 := hb6.frozen 0
              have hg6 : p < w6.heap.size := hb6.lt
              have hd6 := hS6.1
              have hF4' := ((Frm.refl (New w10) w10).alloc Up.new (Obj.cells #[Value.int IntKind.u64 ↑a', Value.slice A1 bx.length c1] 56))
              obtain ⟨S9, hr9, hf9, hq9⟩ := RbAt.push HRB8D.out ⟨a', bx⟩ (fun e => by simp only at e; rw [e] at hbx0; simp at hbx0) hHA1.out HF10.out hF4' hApp4 hblk4 hWr4
              have hc7 := hc6.far (p := ⟨p, 0, none⟩) (fun e => by
                have h1 := HG9.out p HRB8D.out.sp
                simp only at e
                omega) (.slice A4 (pv'.length + 1) c4)
              have hS9 : ∀ q, S9 q → Own S w2 q := fun q hq => by
                rcases hq9 q hq with e | e
                · exact hSS.out q e
                · exact .inr (Nat.le_trans HF28.out.size e)
              have hf29 := (HF28.out.drew).trans (hf9.mono (fun q hq => by
                rcases hq with e | e
                · exact hSS.out q e
                · exact (.inr (Nat.le_trans HF28.out.size e) : Own S w2 q)))
              have hnw9 : Hid (news off b (off + b.length) B.l a0 = (nw ++ [⟨a', bx⟩]) ++ news off b (off + b.length) (B.l.drop (k + 1)) (P.off + P.b.length)) := by
                show _ = _
                rw [HNW.out, news_gap h1 h2a h2b, HBX.out, hM.out, HI.out, List.append_assoc]
                rfl
              rw [List.append_assoc] at hr9
              have hmv := Lib.hid hmi
              have HR9 := Lib.hid hr9
              have HC7 := Lib.hid hc7
              have HS9 := Lib.hid hS9
              have HF29 := Lib.hid hf29
              have HF9 := Lib.hid hf9
              have HQ9 := Lib.hid hq9
              clear hr9 hc7 hS9 hf29 hf9 hq9
              clear hd0 hx0 hp hg8 hn0 hn1 hS10 hApp4 hF4 hblk4 hWr4 hb6 hc6 hF4' hw2 hw3 hmi HNW HCL
              refine wpAnyT_one (i := 21) rfl (by kernel_rfl) (fun K hK => ?_)
              go_simp
              refine hK.out _ _ (.inr (hS6)) ?_
              clear hK K
              refine wpAnyT_one (i := 22) rfl (by kernel_rfl) (fun K hK => ?_)
              go_simp
              refine hK.out _ _ (.inr (hS6)) ?_
              clear hK K
              refine wpAnyT_one (i := 23) rfl (by kernel_rfl) (fun K hK => ?_)
              go_simp
              refine hK.out _ _ (.inl (by kernel_rfl)) ?_
              clear hK K
              refine wpAnyT_done (by kernel_rfl) ?_ _
              clear hd6 hz6 hg6 hS6
              generalize w6.setCell ⟨p, 0, none⟩ (.slice A4 (pv'.length + 1) c4) = w11 at *
              go_wp2
              go_meet
              exact ⟨w11, S9, A4, c4, _, nw ++ [⟨a', bx⟩], rfl, HR9, hnw9, HF29, HS9, HC7⟩
            · have hdc : decide (a' < P.off ∧ a' < off + b.length) = false := decide_eq_false h2
              rw [hdc]
              clear hdc
              go_wp2
              go_meet
              exact ⟨w8, S', A', c', pv', nw, rfl, HRB8, by show _ = _; rw [HNW.out, news_over h1 h2]; rfl, HF28, hSS, HB8⟩
          case rest =>
            obtain ⟨w9, S'', A'', c'', pv'', nw', rfl, hrb9, hnw9, hF29, hS9, hb9⟩ := hcut
            rename World => w9
            have hend := fun w' => end_any P.off P.b.length vA vc w' (by omega) (by omega)
            have HEND := Lib.hid hend
            clear hend
            have hp9 := hb9.out.lt
            clear hd0 hx0 hp hg8
            go_upto_region 8 with (first
              | (refine wpList_load_agg piece_agg rfl rfl rfl hb9.out rfl ?_)
              | (go_at_call 28; refine (HEND.out _).mono ?_; rintro e w10 ⟨rfl, hF10⟩))
            have hrb10 := hrb9.out.fresh hF10
            have hF210 := hF29.out.then_new (Own.up S w2) hF10
            have HRB10 := Lib.hid hrb10
            have HF210 := Lib.hid hF210
            clear hrb10 hF210
            clear hF10
            go_wp2
            go_roundw
            case rel => exact ⟨k + 1, P.off + P.b.length, S'', A'', c'', pv'', nw', by omega, by go_num, by go_num, by omega, by omega, hPs, HRB10, hnw9, HF210, hS9⟩
            case measure => simp [intOf]; omega
      · obtain rfl : k = pv.length := by omega
        have hz : B.l.drop pv.length = [] := List.drop_eq_nil_of_le (by rw [HPL.out]; exact Nat.le_refl _)
        rw [hz] at hnw
        have hnws : news off b (off + b.length) [] a' = if a' < off + b.length then [⟨a', b.drop (a' - off)⟩] else [] := rfl
        rw [hnws] at hnw
        clear hz hnws
        have hR8 : Rd wr Ab (bvs b) := HX2.out.off hF.out (fun q e => e)
        have hbb := hrb.out.blk
        unfold Bf.cells at hbb
        have hd0 := hbb.cell 0
        simp only [List.getElem?_toArray, List.getElem?_cons_zero] at hd0
        have hp := hbb.lt
        have HR8 := Lib.hid hR8
        have HBB := Lib.hid hbb
        clear hR8 hbb
        go_upto_if 74 with (fail)
        go_cut [] from 74 (fun w5 => ∃ (w9 : World) (S'' : Nat → Prop) (A'' : Option Addr) (c'' : Nat) (pv'' : List Pv) (nw' : List Pc), w5 = w9 ∧ Hid (RbAt S'' w9 p { B with l := B.l ++ nw' } A'' c'' pv'') ∧
            Hid (news off b (off + b.length) B.l a0 = nw') ∧ Hid (Frm (Own S w2) w2 w9) ∧ Hid (∀ q, S'' q → Own S w2 q))
        case first =>
          by_cases h2 : a' < off + b.length
          · have h2c : (a' : Int) < (off : Int) + (b.length : Int) := by omega
            go_upto_region 10 with (fail)
            obtain ⟨i, hi⟩ : ∃ i, i = a' - off := ⟨_, rfl⟩
            obtain ⟨Aq, hAq⟩ : ∃ Aq, (if cb = i then Ab else Ab.map (·.add (i * 1))) = Aq := ⟨_, rfl⟩
            obtain ⟨cq, hcq⟩ : ∃ cq, cb - i = cq := ⟨_, rfl⟩
            obtain ⟨bx, hbx⟩ : ∃ bx, bx = b.drop i := ⟨_, rfl⟩
            have hnq : b.length - i = bx.length := by rw [hbx, List.length_drop]
            have hw2 : IntKind.u64.wrap ((a' : Int) - (off : Int)) = (i : Int) := by rw [show (a' : Int) - (off : Int) = (i : Int) by omega]; exact IntWalk.u64_in _ (by omega)
            have HI : Hid (i = a' - off) := hi
            have hin : i ≤ b.length := by omega
            have hcl := fun w' h => bclone_any Aq bx.length cq bx w' h rfl (fun e => by have := hnil (cut_none (hAq.trans e)); omega) (by omega)
            have hcut := HR8.out.fromB hcb i
            rw [hAq, ← hbx] at hcut
            have hbx0 : 0 < bx.length := by omega
            have hrb8d := hrb.out.fresh ((Frm.refl (New wr) wr).drew)
            have hAp := hrb.out.row
            have hnA : ∀ q, blk A' = some q → q ≠ p := fun q hq => (hAp.inM q hq).2
            have hpvq2 := HPVQ2.out
            have hS0 : wr.drew.cell? ⟨p, 0, none⟩ = some (.slice A' pv'.length c') := hd0
            have HCL := Lib.hid hcl
            have HCUT := Lib.hid hcut
            have HAQ := Lib.hid hAq
            have HNQ := Lib.hid hnq
            have HCQ := Lib.hid hcq
            have HBX := Lib.hid hbx
            have HRB8D := Lib.hid hrb8d
            have HAP := Lib.hid hAp
            have HNA := Lib.hid hnA
            clear hcl hcut hAq hnq hcq hbx hrb8d hAp hnA
            clear hi
            refine wp_region_til (by kernel_rfl) (fun w' => w'.cell? ⟨p, 0, none⟩ = some (.slice A' pv'.length c')) 17 ?_
            refine wpAnyT_take (i := 0) (v := ?_) (d := some 75) rfl (by rfl) (by kernel_rfl) (fun _ _ _ h => h) (by rfl) hS0 (fun w hSw => ?_) ?_
            rotate_left
            · (try dsimp only at hSw); go_simp; first | done | (with_reducible rfl)
            simp only [Act.put, List.setIfInBounds_toArray, List.set_cons_zero, List.set_cons_succ]
            refine wpAnyT_take (i := 1) (v := ?_) (d := some 76) rfl (by rfl) (by kernel_rfl) (fun _ _ _ h => h) (by rfl) hS0 (fun w hSw => ?_) ?_
            rotate_left
            · (try dsimp only at hSw); go_simp; first | done | (with_reducible rfl)
            simp only [Act.put, List.setIfInBounds_toArray, List.set_cons_zero, List.set_cons_succ]
            refine wpAnyT_take (i := 2) (v := ?_) (d := some 77) rfl (by rfl) (by kernel_rfl) (fun _ _ _ h => h) (by rfl) hS0 (fun w hSw => ?_) ?_
            rotate_left
            · (try dsimp only at hSw); go_simp; first | done | (with_reducible rfl)
            simp only [Act.put, List.setIfInBounds_toArray, List.set_cons_zero, List.set_cons_succ]
            refine wpAnyT_take (i := 3) (v := ?_) (d := some 78) rfl (by rfl) (by kernel_rfl) (fun _ _ _ h => h) (by rfl) hS0 (fun w hSw => ?_) ?_
            rotate_left
            · (try dsimp only at hSw); go_simp; first | done | (with_reducible rfl)
            simp only [Act.put, List.setIfInBounds_toArray, List.set_cons_zero, List.set_cons_succ]
            refine wpAnyT_take (i := 4) (v := ?_) (d := some 79) rfl (by rfl) (by kernel_rfl) (fun _ _ _ h => h) (by rfl) hS0 (fun w hSw => ?_) ?_
            rotate_left
            · (try dsimp only at hSw); go_simp; first | done | (with_reducible rfl)
            simp only [Act.put, List.setIfInBounds_toArray, List.set_cons_zero, List.set_cons_succ]
            refine wpAnyT_take (i := 5) (v := ?_) (d := some 80) rfl (by rfl) (by kernel_rfl) (fun _ _ _ h => h) (by rfl) hS0 (fun w hSw => ?_) ?_
            rotate_left
            · (try dsimp only at hSw); go_simp; first | done | (with_reducible rfl)
            simp only [Act.put, List.setIfInBounds_toArray, List.set_cons_zero, List.set_cons_succ]
            refine wpAnyT_take (i := 6) (v := ?_) (d := some 81) rfl (by rfl) (by kernel_rfl) (fun _ _ _ h => h) (by rfl) hS0 (fun w hSw => ?_) ?_
            rotate_left
            · (try dsimp only at hSw); go_simp; first | done | (with_reducible rfl)
            simp only [Act.put, List.setIfInBounds_toArray, List.set_cons_zero, List.set_cons_succ]
            refine wpAnyT_take (i := 7) (v := ?_) (d := some 82) rfl (by rfl) (by kernel_rfl) (fun _ _ _ h => h) (by rfl) hS0 (fun w hSw => ?_) ?_
            rotate_left
            · (try dsimp only at hSw); go_simp; first | done | (with_reducible rfl)
            simp only [Act.put, List.setIfInBounds_toArray, List.set_cons_zero, List.set_cons_succ]
            refine wpAnyT_take (i := 8) (v := ?_) (d := some 83) rfl (by rfl) (by kernel_rfl) (fun _ _ _ h => h) (by rfl) hS0 (fun w hSw => ?_) ?_
            rotate_left
            · (try dsimp only at hSw); go_simp; first | done | (with_reducible rfl)
            simp only [Act.put, List.setIfInBounds_toArray, List.set_cons_zero, List.set_cons_succ]
            refine wpAnyT_take (i := 9) (v := ?_) (d := some 84) rfl (by rfl) (by kernel_rfl) (fun _ _ _ h => h) (by rfl) hS0 (fun w hSw => ?_) ?_
            rotate_left
            · (try dsimp only at hSw); go_simp; first | done | (with_reducible rfl)
            simp only [Act.put, List.setIfInBounds_toArray, List.set_cons_zero, List.set_cons_succ]
            refine wpAnyT_one (i := 10) rfl (by kernel_rfl) (fun K hK => ?_)
            (refine step_val rfl (.slice Aq bx.length cq) (run_fromE u8s HAQ.out HNQ.out HCQ.out rfl rfl rfl (by first | rfl | exact hw2) hin) ?_)
            refine hK.out _ _ (.inr (hS0)) ?_
            clear hK K
            refine wpAnyT_one (i := 11) rfl (by kernel_rfl) (fun K hK => ?_)
            (refine Eq.mpr (if_pos (by rfl)) ?_; go_wp2_with (go_at_call 29; refine (HCL.out _ (HCUT.out.drew)).mono ?_; rintro e w10 ⟨A1, c1, rfl, hA1, hF10⟩; have hF810 := ((Frm.refl (New wr) wr).drew).trans hF10; have hS10 : w10.cell? ⟨p, 0, none⟩ = some (.slice A' pv'.length c') := (HBB.out.fresh hF810).cell 0))
            refine hK.out _ _ (.inr (hS10)) ?_
            clear hK K
            have hHA1 := Lib.hid hA1
            have HF10 := Lib.hid hF10
            have hAp10 := (HAP.out.fresh hF810).mono (M' := fun k => (S' k ∧ k ≠ p) ∨ New wr.drew k) (fun k hk => .inl hk)
            have hb10 := HBB.out.fresh hF810
            have hs10 := hF810.size
            clear hd0 hS0 hp hA1 hF10 hF810
            have hd0 := hS10
            have hp := hb10.lt
            have hn0 := World.new_ne w10 _ hd0
            have HAP10 := Lib.hid hAp10
            have HB10 := Lib.hid hb10
            clear hAp10 hb10
            refine wpAnyT_one (i := 12) rfl (by kernel_rfl) (fun K hK => ?_)
            go_simp
            refine hK.out _ _ (.inr (hS10)) ?_
            clear hK K
            refine wpAnyT_one (i := 13) rfl (by kernel_rfl) (fun K hK => ?_)
            go_simp
            refine hK.out _ _ (.inr ((by go_keep))) ?_
            clear hK K
            refine wpAnyT_one (i := 14) rfl (by kernel_rfl) (fun K hK => ?_)
            (refine step_append2 (M := fun k => (S' k ∧ k ≠ p) ∨ New wr.drew k) (A := A') (n := pv'.length) (c := c') (xs := pv'.flatMap pvc) (news := [.int .u64 a', .slice A1 bx.length c1]) pcs rfl rfl rfl (HAP10.out.alloc _) (fun k hk => .inr (by simp at hk; unfold New; simp; omega)) rfl (Rd.new _ #[.int .u64 a', .slice A1 bx.length c1] _) rfl (fun u hu => by simp at hu; rcases hu with rfl | rfl <;> rfl) (by omega) ?_; intro A4 c4 w6 hApp4 hF4 hblk4 hWr4; have hb6 := (HB10.out.alloc _).keep hWr4 (fun e => by rcases e with e | ⟨_, e⟩; simp at e; omega; exact (HNA.out _ e) rfl))
            refine hK.out _ _ (.inr (hb6.cell 0)) ?_
            clear hK K
            have hS6 : w6.cell? ⟨p, 0, none⟩ = some (.slice A' pv'.length c') := hb6.cell 0
            have hz6 := hb6.frozen 0
            have hg6 : p < w6.heap.size := hb6.lt
            have hd6 := hS6
            have hF4' := ((Frm.refl (New w10) w10).alloc Up.new (Obj.cells #[Value.int IntKind.u64 ↑a', Value.slice A1 bx.length c1] 56))
            obtain ⟨S9, hr9, hf9, hq9⟩ := RbAt.push HRB8D.out ⟨a', bx⟩ (fun e => by simp only at e; rw [e] at hbx0; simp at hbx0) hHA1.out HF10.out hF4' hApp4 hblk4 hWr4
            have hS9 : ∀ q, S9 q → Own S w2 q := fun q hq => by
              rcases hq9 q hq with e | e
              · exact hSS.out q e
              · exact .inr (Nat.le_trans hF.out.size e)
            have hf29 := (hF.out.drew).trans (hf9.mono (fun q hq => by
              rcases hq with e | e
              · exact hSS.out q e
              · exact (.inr (Nat.le_trans hF.out.size e) : Own S w2 q)))
            have hnw9 : Hid (news off b (off + b.length) B.l a0 = nw ++ [⟨a', bx⟩]) := by
              show _ = _
              rw [hnw.out, if_pos h2, HBX.out, HI.out]
            rw [List.append_assoc] at hr9
            have HR9 := Lib.hid hr9
            have HS9 := Lib.hid hS9
            have HF29 := Lib.hid hf29
            have HF9 := Lib.hid hf9
            have HQ9 := Lib.hid hq9
            clear hr9 hS9 hf29 hf9 hq9
            clear hd0 hp hn0 hS10 hApp4 hF4 hblk4 hWr4 hb6 hF4' hw2 hnw HCL
            refine wpAnyT_one (i := 15) rfl (by kernel_rfl) (fun K hK => ?_)
            go_simp
            refine hK.out _ _ (.inr (hS6)) ?_
            clear hK K
            refine wpAnyT_one (i := 16) rfl (by kernel_rfl) (fun K hK => ?_)
            go_simp
            refine hK.out _ _ (.inr (hS6)) ?_
            clear hK K
            refine wpAnyT_one (i := 17) rfl (by kernel_rfl) (fun K hK => ?_)
            go_simp
            refine hK.out _ _ (.inl (by kernel_rfl)) ?_
            clear hK K
            refine wpAnyT_done (by kernel_rfl) ?_ _
            clear hd6 hz6 hg6 hS6
            generalize w6.setCell ⟨p, 0, none⟩ (.slice A4 (pv'.length + 1) c4) = w11 at *
            go_wp2
            go_meet
            exact ⟨w11, S9, A4, c4, _, nw ++ [⟨a', bx⟩], rfl, HR9, hnw9, HF29, HS9⟩
          · have h2c : ¬ (a' : Int) < (off : Int) + (b.length : Int) := by omega
            go_wp2
            go_meet
            exact ⟨wr, S', A', c', pv', nw, rfl, hrb, by show _ = _; rw [hnw.out, if_neg h2, List.append_nil], hF, hSS⟩
        case rest =>
          obtain ⟨w9, S9, A9, c9, pv9, nw', rfl, hrb9, hnw9, hF9, hS9⟩ := hcut
          rename World => w9
          have hpv9 : pv9.length < 4611686018427387904 := by
            have h1 := news_hl (b := b) HS.out ha1.1
            have h2 := hl_len (l := nw') (fun P hP => ((news_srt off b B.l B.a a0 HS.out ha1.1).low P (by rw [hnw9.out]; exact hP)).2)
            have h3 := hrb9.out.pcs.len
            have h4 := HPL.out
            rw [hnw9.out] at h1
            rw [List.length_append] at h3
            omega
          have hso := hsort A9 c9 _ pv9 w9 hrb9.out.row hpv9
          have hbb := hrb9.out.blk
          unfold Bf.cells at hbb
          have hd9 := hbb.cell 0
          simp only [List.getElem?_toArray, List.getElem?_cons_zero] at hd9
          have hp9 := hbb.lt
          clear hbb hd0 hp
          have HSO := Lib.hid hso
          clear hso
          go_wp2_with (go_at_call 30; refine HSO.out.mono ?_; rintro e w10 ⟨rfl, pv10, hp10, ho10, hA10, hF10⟩)
          go_end0
          obtain ⟨l', hr, h1, h2⟩ := hrb9.out.sorted hp10 ho10 hA10 hF10
          rw [← HQ.out]
          have hO2 : ∀ q, Own S w2 q → Own S w q := fun q hq => by
            rcases hq with e | e
            · exact .inl e
            · exact .inr (Nat.le_trans HF02.out.size e)
          refine ⟨rfl, S9, A9, c9, pv10, l', hr, ?_, h2, (HF02.out.trans (hF9.out.mono hO2)).trans (hF10.mono (fun q hq => ?_)), fun q hq => hO2 q (hS9.out q hq)⟩
          · rw [← HA0.out, hnw9.out]
            exact h1
          · rcases hq with e | e
            · exact hO2 q (hS9.out q (hrb9.out.row.inM q e).1)
            · exact .inr (Nat.le_trans (Nat.le_trans HF02.out.size hF9.out.size) e)
end Go.Proofs.Ytljleaomlooiaaa.M
