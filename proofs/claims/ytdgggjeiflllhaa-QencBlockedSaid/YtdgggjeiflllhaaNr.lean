/- qenc: acknowledged, grown. -/
import Derived.BigQuiet
import Derived.Deep.CutBlock
import Derived.Lib.Hide
import Derived.IntWalk
import Derived.StillTailTactics
import Derived.Test.YtdgggjeiflllhaaNq
import Derived.Test.YtdgggjeiflllhaaMem
namespace Go.Proofs.Ytdgggjeiflllhaa.M
open Go.ChangeShapes Go.WideShapes Go.ChangeAt Go.RowKit

theorem secSize : (Try.prog.info? 84).map (·.size) = some 2 := by kernel_rfl
theorem uSec : Try.prog.underlying 92 = some (.slice 84) := Try.underlying92
/-- what a word of the other side leaves -/
def AckR (X : Nat → Prop) (w : World) (pe g bm : Nat) (S : Nat → Prop) (Ar : Option Addr) (cr : Nat) (E2 : Qn) (w' : World) : Prop := ∃ L', QnM X w' pe g bm S Ar cr L' E2 ∧ Frm (fun k => k = pe ∨ k = bm) w w'
set_option maxRecDepth 100000 in
set_option maxHeartbeats 4000000 in
theorem nack_any {X S : Nat → Prop} {w : World} {pe g bm cr : Nat} {Ar : Option Addr} {L : List (Nat × Ro)} {E : Qn} (h : QnM X w pe g bm S Ar cr L E) (s : Nat) :
    Calls Try.prog 92 #[.pointer (some ⟨pe, 0, none⟩), .int .u64 (s : Int)] w fun e w' => e = .returned (.int .i64 ((E.ack s).1 : Nat)) ∧ AckR X w pe g bm S Ar cr (E.ack s).2 w' := by
  obtain ⟨A, c, l, hv, hAp, hl, hn0, hs0, hll, hAf⟩ := h.look2 s
  have hlk := run_lookup ukeys uMo zSecs h.map s false
  rw [hv] at hlk
  simp only [Bool.false_eq_true, if_false, ukey] at hlk
  have hb := h.blk
  have hy2 := hb.cell 2
  have hy3 := hb.cell 3
  simp only [List.getElem?_toArray, List.getElem?_cons_zero, List.getElem?_cons_succ] at hy2 hy3
  have hz2 := hb.frozen 2
  have hpl := hb.lt
  obtain ⟨R, hR⟩ : ∃ R, R = E.ack s := ⟨_, rfl⟩
  rw [← hR]
  unfold Qn.ack at hR
  have hcap := hAp.cap
  have hRd := hAp.rd
  have H := Lib.hid h
  have HAP := Lib.hid hAp
  have HL := Lib.hid hl
  have HN0 := Lib.hid hn0
  have HS0 := Lib.hid hs0
  have HAF := Lib.hid hAf
  have HB := Lib.hid hb
  have HR := Lib.hid hR
  have HRD := Lib.hid hRd
  clear h hAp hl hn0 hs0 hAf hb hR hRd
  clear hv
  go_enter Try.func92, Try.ntmps92
  cases hg : ackGo s E.opn with
  | none =>
    have hl0 : l = [] := by
      have := HL.out
      rw [ackGo_none s E.opn hg] at this
      exact List.map_eq_nil_iff.1 this
    subst hl0
    have hR2 : R = (26, E) := by rw [HR.out, hg]
    clear hg HR
    simp only [List.length_nil] at hlk
    have HR2 := Lib.hid hR2
    clear hR2
    go_wp2
    go_ret
    refine ⟨?_, ?_⟩
    · rw [HR2.out]; rfl
    · rw [HR2.out]; exact ⟨L, H.out, Frm.refl _ _⟩
  | some z =>
    obtain ⟨o, r⟩ := z
    obtain ⟨ho, hom, hsub, hfo, hft⟩ := ackGo_some s E.opn o r hg
    have hR2 : R = (0, { E with known := max E.known o.count, opn := r }) := by rw [HR.out, hg]
    clear hg HR
    have hlc := HL.out
    rw [hfo] at hlc
    cases l with
    | nil => cases hlc
    | cons y lt =>
      simp only [List.map_cons, List.cons.injEq] at hlc
      obtain ⟨hy, hlt⟩ := hlc
      obtain ⟨yq, yb⟩ := y
      simp only at hy
      subst hy
      have hgs : ∃ x, getE s L = some x := by
        cases hq : getE s L with
        | none => have := (HN0.out hq).1; cases this
        | some x => exact ⟨x, rfl⟩
      obtain ⟨x, hx⟩ := hgs
      obtain ⟨hxA, hxc, hxl⟩ := HS0.out x hx
      have hxm := getE_mem hx
      have hxr := H.out.rows _ hxm
      have hct : yq.count ≤ E.t.n := H.out.ctn yq hom
      have hnb := H.out.nb
      obtain ⟨gA, oA, rfl, hjunk⟩ := HRD.out.at_ (k := 0) (by rw [secC_len]; simp)
      clear hjunk
      obtain ⟨hc0, hc1⟩ := secC_cells HRD.out 0 (by simp)
      have hgl := World.block_lt_of_cell? _ _ hc0
      simp only [Nat.zero_mul, Nat.add_zero, List.getElem_cons_zero] at hc0 hgl
      have hgpe : gA ≠ pe := (HAF.out gA rfl).2.1
      clear hc1 HL HN0 HS0
      simp only [List.length_cons] at hlk hcap
      have hxa := hxr.app
      rw [← hxA, ← hxc, ← hxl] at hxa
      have hxu := hxr.use_
      rw [← hxl] at hxu
      have hxs := hxr.small
      rw [← hxl] at hxs
      have htl := hxa.tail
      rw [show (secC ((yq, yb) :: lt)).drop 2 = secC lt from rfl] at htl
      clear hxa
      obtain ⟨n, hn⟩ : ∃ n, n = lt.length := ⟨_, rfl⟩
      rw [← hn] at hlk hcap
      have hni : (0 : Int) < ((n + 1 : Nat) : Int) := by omega
      have hne0 : ((n + 1 : Nat) : Int) ≠ 0 := by omega
      have HO := Lib.hid ho
      have HOM := Lib.hid hom
      have HSUB := Lib.hid hsub
      have HFO := Lib.hid hfo
      have HFT := Lib.hid hft
      have HR2 := Lib.hid hR2
      have HLT := Lib.hid hlt
      have HX := Lib.hid hx
      have HXA := Lib.hid hxA
      have HXC := Lib.hid hxc
      have HXL := Lib.hid hxl
      have HXM := Lib.hid hxm
      have HXR := Lib.hid hxr
      have HTL := Lib.hid htl
      have HN := Lib.hid hn
      have HXU := Lib.hid hxu
      have HXS := Lib.hid hxs
      clear ho hom hsub hfo hft hR2 hlt hx hxA hxc hxl hxm hxr htl hn hxu hxs
      go_upto_region 4 with (fail)
      clear hlk hni hne0
      have hS0 : w.drew.cell? ⟨pe, 2, none⟩ = some (.int .u64 (E.known : Int)) ∧ w.drew.cell? ⟨gA, oA, none⟩ = some (.int .u64 (yq.count : Int)) := ⟨hy2, hc0⟩
      obtain ⟨kn, hkn⟩ : ∃ kn : Nat, kn = max E.known yq.count := ⟨_, rfl⟩
      have hkl : kn ≤ E.t.n := by have := H.out.kn; omega
      have HKN := Lib.hid hkn
      clear hkn
      refine wp_region_til (by kernel_rfl) (fun w' => w'.cell? ⟨pe, 2, none⟩ = some (.int .u64 (E.known : Int)) ∧ w'.cell? ⟨gA, oA, none⟩ = some (.int .u64 (yq.count : Int))) 12 ?_
      change wpAnyT _ _ _ _ _ _ _ _ _ w.drew
      refine wpAnyT_take (i := 0) (v := ?_) (d := some 15) rfl (by rfl) (by kernel_rfl) (fun _ _ _ h => h) (by rfl) hS0 (fun w hSw => ?_) ?_
      rotate_left
      · (try dsimp only at hSw); go_simp; first | done | (with_reducible rfl)
      simp only [Act.put, List.setIfInBounds_toArray, List.set_cons_zero, List.set_cons_succ]
      refine wpAnyT_take (i := 1) (v := ?_) (d := some 16) rfl (by rfl) (by kernel_rfl) (fun _ _ _ h => h) (by rfl) hS0 (fun w hSw => ?_) ?_
      rotate_left
      · (try dsimp only at hSw); go_simp; first | done | (with_reducible rfl)
      simp only [Act.put, List.setIfInBounds_toArray, List.set_cons_zero, List.set_cons_succ]
      refine wpAnyT_take (i := 2) (v := ?_) (d := some 17) rfl (by rfl) (by kernel_rfl) (fun _ _ _ h => h) (by rfl) hS0 (fun w hSw => ?_) ?_
      rotate_left
      · (try dsimp only at hSw); go_simp; first | done | (with_reducible rfl)
      simp only [Act.put, List.setIfInBounds_toArray, List.set_cons_zero, List.set_cons_succ]
      refine wpAnyT_take (i := 3) (v := ?_) (d := some 18) rfl (by rfl) (by kernel_rfl) (fun _ _ _ h => h) (by rfl) hS0 (fun w hSw => ?_) ?_
      rotate_left
      · (try dsimp only at hSw); go_simp; first | done | (with_reducible rfl)
      simp only [Act.put, List.setIfInBounds_toArray, List.set_cons_zero, List.set_cons_succ]
      refine wpAnyT_take (i := 4) (v := ?_) (d := some 19) rfl (by rfl) (by kernel_rfl) (fun _ _ _ h => h) (by rfl) hS0 (fun w hSw => ?_) ?_
      rotate_left
      · (try dsimp only at hSw); go_simp; first | done | (with_reducible rfl)
      simp only [Act.put, List.setIfInBounds_toArray, List.set_cons_zero, List.set_cons_succ]
      refine wpAnyT_take (i := 5) (v := ?_) (d := some 20) rfl (by rfl) (by kernel_rfl) (fun _ _ _ h => h) (by rfl) hS0 (fun w hSw => ?_) ?_
      rotate_left
      · (try dsimp only at hSw); go_simp; first | done | (with_reducible rfl)
      simp only [Act.put, List.setIfInBounds_toArray, List.set_cons_zero, List.set_cons_succ]
      refine wpAnyT_take (i := 6) (v := ?_) (d := some 21) rfl (by rfl) (by kernel_rfl) (fun _ _ _ h => h) (by rfl) hS0 (fun w hSw => ?_) ?_
      rotate_left
      · (try dsimp only at hSw); go_simp; first | done | (with_reducible rfl)
      simp only [Act.put, List.setIfInBounds_toArray, List.set_cons_zero, List.set_cons_succ]
      refine wpAnyT_take (i := 7) (v := ?_) (d := some 22) rfl (by rfl) (by kernel_rfl) (fun _ _ _ h => h) (by rfl) hS0 (fun w hSw => ?_) ?_
      rotate_left
      · (try dsimp only at hSw); go_simp; first | done | (with_reducible rfl)
      simp only [Act.put, List.setIfInBounds_toArray, List.set_cons_zero, List.set_cons_succ]
      refine wpAnyT_take (i := 8) (v := ?_) (d := some 23) rfl (by rfl) (by kernel_rfl) (fun _ _ _ h => h) (by rfl) hS0 (fun w hSw => ?_) ?_
      rotate_left
      · (try dsimp only at hSw); go_simp; first | done | (with_reducible rfl)
      simp only [Act.put, List.setIfInBounds_toArray, List.set_cons_zero, List.set_cons_succ]
      refine wpAnyT_take (i := 9) (v := .int .u64 (kn : Int)) (d := some 24) rfl (by rfl) (by kernel_rfl) (fun _ _ _ h => h) (by rfl) hS0 (fun w hSw => by
        by_cases hk : E.known < yq.count
        · have h1 : (E.known : Int) < (yq.count : Int) := by omega
          have h2 : ¬ (yq.count : Int) ≤ (E.known : Int) := by omega
          have h3 : kn = yq.count := by have := HKN.out; omega
          rw [h3]
          go_simp
        · have h1 : ¬ (E.known : Int) < (yq.count : Int) := by omega
          have h2 : (yq.count : Int) ≤ (E.known : Int) := by omega
          have h3 : kn = E.known := by have := HKN.out; omega
          rw [h3]
          go_simp) ?_
      simp only [Act.put, List.setIfInBounds_toArray, List.set_cons_zero, List.set_cons_succ]
      refine wpAnyT_one (i := 10) rfl (by kernel_rfl) (fun K hK => ?_)
      go_simp
      refine hK.out _ _ (.inr (hS0)) ?_
      clear hK K
      refine wpAnyT_one (i := 11) rfl (by kernel_rfl) (fun K hK => ?_)
      go_simp
      refine hK.out _ _ (.inr (hS0)) ?_
      clear hK K
      refine wpAnyT_one (i := 12) rfl (by kernel_rfl) (fun K hK => ?_)
      go_simp
      refine hK.out _ _ (.inl (by kernel_rfl)) ?_
      clear hK K
      refine wpAnyT_done (by kernel_rfl) ?_ _
      have h1 := (H.out.setknown kn hkl).fresh (Frm.refl _ _).drew
      have hF1 : Frm (fun k => k = pe ∨ k = bm) w (w.setCell ⟨pe, 2, none⟩ (.int .u64 (kn : Int))).drew := ((Frm.refl (fun k => k = pe ∨ k = bm) w).setCell (p := ⟨pe, 2, none⟩) (.inl rfl) _).drew
      clear hS0 hc0 hgl hgpe hy2 hy3 hz2 hpl HB
      generalize (w.setCell ⟨pe, 2, none⟩ (.int .u64 (kn : Int))).drew = w1 at *
      have hb1 := h1.blk
      simp only at hb1
      have hy3 := hb1.cell 3
      simp only [List.getElem?_toArray, List.getElem?_cons_zero, List.getElem?_cons_succ] at hy3
      have hpl := hb1.lt
      have hS0 : w1.drew.cell? ⟨pe, 3, none⟩ = some (.map (some bm)) ∧ pe < w1.drew.heap.size := ⟨hy3, hpl⟩
      have hA2e : ∃ A2, A2 = (if c = 1 then some ⟨gA, oA, none⟩ else (some ⟨gA, oA, none⟩ : Option Addr).map (·.add 2)) := ⟨_, rfl⟩
      obtain ⟨A2, hA2⟩ := hA2e
      have hA2b : M.blk A2 = some gA := by rw [hA2]; split <;> rfl
      have H1 := Lib.hid h1
      have HB1 := Lib.hid hb1
      have HF1 := Lib.hid hF1
      have HA2B := Lib.hid hA2b
      clear h1 hb1 hF1 hA2b
      go_upto_region 5 with (fail)
      refine wp_region_held (by kernel_rfl) (S := fun w' => w'.cell? ⟨pe, 3, none⟩ = some (.map (some bm)) ∧ pe < w'.heap.size) ?_
      change wpAnyH _ _ _ _ _ _ _ _ w1.drew
      refine wpAnyH_takeB (i := 0) (v := ?_) (d := some 27) rfl (by rfl) (by kernel_rfl) (fun _ _ _ h => h) (by rfl) hS0 (fun w hSw => ?_) ?_
      rotate_left
      · (try dsimp only at hSw); (try subst hSw); go_simp; first | done | (with_reducible rfl)
      simp only [Act.put, List.setIfInBounds_toArray, List.set_cons_zero, List.set_cons_succ]
      refine wpAnyH_takeB (i := 1) (v := ?_) (d := some 28) rfl (by rfl) (by kernel_rfl) (fun _ _ _ h => h) (by rfl) hS0 (fun w hSw => ?_) ?_
      rotate_left
      · (try dsimp only at hSw); (try subst hSw); go_simp; first | done | (with_reducible rfl)
      simp only [Act.put, List.setIfInBounds_toArray, List.set_cons_zero, List.set_cons_succ]
      refine wpAnyH_takeB (i := 2) (v := ?_) (d := some 29) rfl (by rfl) (by kernel_rfl) (fun _ _ _ h => h) (by rfl) hS0 (fun w hSw => ?_) ?_
      rotate_left
      · (try dsimp only at hSw); (try subst hSw); go_simp; first | done | (with_reducible rfl)
      simp only [Act.put, List.setIfInBounds_toArray, List.set_cons_zero, List.set_cons_succ]
      refine wpAnyH_takeB (i := 3) (v := ?_) (d := some 30) rfl (by rfl) (by kernel_rfl) (fun _ _ _ h => h) (by rfl) hS0 (fun w hSw => ?_) ?_
      rotate_left
      · (try dsimp only at hSw); (try subst hSw); go_simp; first | done | (with_reducible rfl)
      simp only [Act.put, List.setIfInBounds_toArray, List.set_cons_zero, List.set_cons_succ]
      refine wpAnyH_takeB (i := 4) (v := ?_) (d := some 31) rfl (by rfl) (by kernel_rfl) (fun _ _ _ h => h) (by rfl) hS0 (fun w hSw => ?_) ?_
      rotate_left
      · (try dsimp only at hSw); (try subst hSw); go_simp; first | done | (with_reducible rfl)
      simp only [Act.put, List.setIfInBounds_toArray, List.set_cons_zero, List.set_cons_succ]
      refine wpAnyH_takeB (i := 5) (v := ?_) (d := some 32) rfl (by rfl) (by kernel_rfl) (fun _ _ _ h => h) (by rfl) hS0 (fun w hSw => ?_) ?_
      rotate_left
      · (try dsimp only at hSw); (try subst hSw); go_simp; first | done | (with_reducible rfl)
      simp only [Act.put, List.setIfInBounds_toArray, List.set_cons_zero, List.set_cons_succ]
      refine wpAnyH_takeB (i := 6) (v := .slice A2 n (c - 1)) (d := some 33) rfl (by rfl) (by kernel_rfl) (fun _ _ _ h => h) (by rfl) hS0 (fun w hSw => by rw [hA2]; exact run_tail rfl rfl hcap uSec secSize) ?_
      simp only [Act.put, List.setIfInBounds_toArray, List.set_cons_zero, List.set_cons_succ]
      refine wpAnyH_oneB (i := 7) rfl (by kernel_rfl) (fun K hKK => ?_)
      refine step_update ukeys uMo rfl rfl rfl (k := s) rfl (H1.out.fresh (Frm.refl _ w1).drew).map (fun w2 hm2 f2 hs2 => ?_)
      have hm2' : MapIs w2 bm ukey (putE s (.slice A2 n (c - 1)) (entsR L)) := hm2
      have f12 : Frm (· = bm) w1 w2 := Frm.trans (Frm.refl _ w1).drew f2
      have hb2 := H1.out.blk.keep f12 H1.out.mp
      simp only at hb2
      clear hm2 f2 hs2 hy3 hpl
      have hy3 := hb2.cell 3
      simp only [List.getElem?_toArray, List.getElem?_cons_zero, List.getElem?_cons_succ] at hy3
      have hpl := hb2.lt
      refine hKK.out _ _ ⟨hy3, hpl⟩ ?_
      clear hKK K hS0
      refine wpAnyH_done (by kernel_rfl) ?_ _
      have hse : s ∈ L.map (·.1) := List.mem_map.2 ⟨(s, x), HXM.out, rfl⟩
      have hR3 : R = (0, { E with known := kn, opn := r }) := by rw [HR2.out, HKN.out]
      have HM2' := Lib.hid hm2'
      have F12 := Lib.hid f12
      have HBB := Lib.hid hb2
      have HR3 := Lib.hid hR3
      have HA2 := Lib.hid hA2
      clear hm2' f12 hb2 hR3 hA2
      by_cases hn0 : n = 0
      · subst hn0
        have hlt0 : lt = [] := by
          cases lt with
          | nil => rfl
          | cons a b => have := HN.out; simp at this
        go_upto_region 8 with (refine wpList_delete ukeys uMo rfl rfl rfl (k := s) rfl HM2'.out (fun w3 hm3 f3 hs3 => ?_))
        have HM3 := Lib.hid hm3
        clear hm3
        simp only [Act.put]
        go_wp2_with (fail)
        go_ret
        rw [HR3.out]
        refine ⟨rfl, delE s L, ?_, HF1.out.trans ((F12.out.trans f3).mono (fun k hk => .inr hk))⟩
        refine H1.out.remap (L' := delE s L) (opn' := r) ?_ (F12.out.trans f3) ?_ (fun z hz => ?_) (fun z hz => ?_) (fun q hq => ?_) HSUB.out
        · rw [entsR_del]
          have : delE s (putE s (Value.slice A2 0 (c - 1)) (entsR L)) = delE s (entsR L) := del_put s _ _ (by simpa [entsR] using hse)
          rw [← this]
          exact HM3.out
        · rw [delE_keys s L H.out.nd]
          exact H.out.nd.filter _
        · obtain ⟨h2, h3⟩ := mem_del_ne s L H.out.nd z hz
          exact ⟨z, h2, rfl, rfl, H1.out.rows z h2, fun _ h => h⟩
        · obtain ⟨h2, h3⟩ := mem_del_ne s L H.out.nd z hz
          rw [H.out.same z h2, HFT.out z.1 h3]
        · rw [delE_keys s L H.out.nd, List.mem_filter]
          refine ⟨H.out.all q (HSUB.out q hq), decide_eq_true (fun e => ?_)⟩
          have h4 : q ∈ r.filter (fun o => decide (o.stream = s)) := List.mem_filter.2 ⟨hq, decide_eq_true e⟩
          rw [← HLT.out, hlt0] at h4
          cases h4
      · have hni : ((n + 1 : Nat) : Int) ≠ 1 := by omega
        have hni2 : ((n : Int) + 1) ≠ 1 := by omega
        go_wp2
        go_ret
        rw [HR3.out]
        have hmp := mem_put s (⟨A2, c - 1, lt⟩ : Ro) L H.out.nd
        refine ⟨rfl, putE s ⟨A2, c - 1, lt⟩ L, ?_, HF1.out.trans (F12.out.mono (fun k hk => .inr hk))⟩
        refine H1.out.remap (L' := putE s ⟨A2, c - 1, lt⟩ L) (opn' := r) ?_ F12.out (nodup_put s _ L H.out.nd) (fun z hz => ?_) (fun z hz => ?_) (fun q hq => ?_) HSUB.out
        · rw [entsR_put]
          simp only [Ro.v, ← HN.out]
          exact HM2'.out
        · rcases hmp z hz with rfl | ⟨h2, h3⟩
          · refine ⟨(s, x), HXM.out, rfl, ?_, ?_, fun z hz => ?_⟩
            · show M.blk A2 = M.blk x.A
              rw [HA2B.out, ← HXA.out]
              rfl
            · have hr1 := H1.out.rows _ HXM.out
              have ha := hr1.app
              simp only at ha
              rw [← HXA.out, ← HXC.out, ← HXL.out] at ha
              have ht := ha.tail
              rw [← HA2.out] at ht
              have hu1 := hr1.use_
              simp only at hu1
              rw [← HXL.out] at hu1
              exact { app := ht, use_ := fun y hy => hu1 y (List.mem_cons_of_mem _ hy), ne := fun e => hn0 (by rw [HN.out]; simp only at e; rw [e]; rfl), small := fun y hy => HXS.out y (List.mem_cons_of_mem _ hy) }
            · show z ∈ x.l
              rw [← HXL.out]
              exact List.mem_cons_of_mem _ hz
          · exact ⟨z, h2, rfl, rfl, H1.out.rows z h2, fun _ h => h⟩
        · rcases hmp z hz with rfl | ⟨h2, h3⟩
          · exact HLT.out
          · rw [H.out.same z h2, HFT.out z.1 h3]
        · rw [mem_keys_put]
          exact .inr (H.out.all q (HSUB.out q hq))
set_option maxRecDepth 100000 in
set_option maxHeartbeats 4000000 in
theorem ngrow_any {X S : Nat → Prop} {w : World} {pe g bm cr : Nat} {Ar : Option Addr} {L : List (Nat × Ro)} {E : Qn} (h : QnM X w pe g bm S Ar cr L E) (n : Nat) :
    Calls Try.prog 93 #[.pointer (some ⟨pe, 0, none⟩), .int .u64 (n : Int)] w fun e w' => e = .returned (.int .i64 ((E.grow n).1 : Nat)) ∧ AckR X w pe g bm S Ar cr (E.grow n).2 w' := by
  obtain ⟨R, hR⟩ : ∃ R, R = E.grow n := ⟨_, rfl⟩
  rw [← hR]
  unfold Qn.grow at hR
  have hb := h.blk
  have hy0 := hb.cell 0
  have hy2 := hb.cell 2
  simp only [List.getElem?_toArray, List.getElem?_cons_zero, List.getElem?_cons_succ] at hy0 hy2
  have hz2 := hb.frozen 2
  have hpl := hb.lt
  have hkn := h.kn
  have hnb := h.nb
  have hct : ∀ w', Frm (New w) w w' → Calls Try.prog 32 #[.pointer (some ⟨g, 0, none⟩)] w' fun e w2 => e = .returned (.int .u64 E.t.n) ∧ w2 = w' := fun w' fr => tcountS_any w' (h.tab.fresh fr)
  obtain ⟨d, hd⟩ : ∃ d, d = E.t.n - E.known := ⟨_, rfl⟩
  have hwd : IntKind.u64.wrap ((E.t.n : Int) - (E.known : Int)) = (d : Int) := by rw [IntWalk.u64_in _ (by omega)]; omega
  rw [← hd] at hR
  have hdl : d + E.known = E.t.n := by omega
  have H := Lib.hid h
  have HB := Lib.hid hb
  have HR := Lib.hid hR
  have HCT := Lib.hid hct
  have HD := Lib.hid hd
  clear h hb hR hct hd
  go_enter Try.func93, Try.ntmps93
  by_cases hn0 : n = 0
  · subst hn0
    have hR2 : R = (26, E) := by rw [HR.out, if_pos (.inl rfl)]
    clear HR
    have HR2 := Lib.hid hR2
    clear hR2
    go_upto_region 1 with (fail)
    go_quiet (fail)
    all_goals go_wp2
    all_goals go_ret
    all_goals rw [HR2.out]
    all_goals exact ⟨rfl, L, H.out.fresh ((Frm.refl _ _).drewN _), (Frm.refl _ _).drewN _⟩
  have hni : ¬ (n : Int) = 0 := by omega
  by_cases hnd : d < n
  · have hndi : (d : Int) < (n : Int) := by omega
    have hR2 : R = (26, E) := by rw [HR.out, if_pos (.inr hnd)]
    clear HR
    have HR2 := Lib.hid hR2
    clear hR2
    go_upto_region 1 with (fail)
    go_quiet ((go_at_call 32; refine Calls.quiet_of_same (HCT.out _ ?_); exact (Frm.refl _ _).drewN _))
    all_goals go_wp2
    all_goals go_ret
    all_goals rw [HR2.out]
    all_goals exact ⟨rfl, L, H.out.fresh ((Frm.refl _ _).drewN _), (Frm.refl _ _).drewN _⟩
  · have hndi : ¬ (d : Int) < (n : Int) := by omega
    obtain ⟨kn, hk⟩ : ∃ kn, kn = E.known + n := ⟨_, rfl⟩
    have hR2 : R = (0, { E with known := kn }) := by rw [HR.out, if_neg (by omega), hk]
    have hwk : IntKind.u64.wrap ((E.known : Int) + (n : Int)) = (kn : Int) := by rw [IntWalk.u64_in _ (by omega)]; omega
    have hkl : kn ≤ E.t.n := by omega
    clear HR
    have HR2 := Lib.hid hR2
    have HK := Lib.hid hk
    clear hR2 hk
    go_upto_region 1 with (fail)
    go_quiet ((go_at_call 32; refine Calls.quiet_of_same (HCT.out _ ?_); exact (Frm.refl _ _).drewN _))
    all_goals
      have h2 := (H.out.fresh ((Frm.refl (New w) w).drewN nq)).setknown kn hkl
      have hF2 : Frm (fun k => k = pe ∨ k = bm) w ((w.drewN nq).setCell ⟨pe, 2, none⟩ (.int .u64 (kn : Int))) := ((Frm.refl (fun k => k = pe ∨ k = bm) w).drewN nq).setCell (p := ⟨pe, 2, none⟩) (.inl rfl) _
      have HA2 := Lib.hid h2
      have HF2 := Lib.hid hF2
      clear h2 hF2
      go_wp2
      go_ret
      rw [HR2.out]
      exact ⟨rfl, L, HA2.out, HF2.out⟩
end Go.Proofs.Ytdgggjeiflllhaa.M
