/- Qw -/
import Derived.BigQuiet
import Derived.Deep.CutBlock
import Derived.Lib.Hide
import Derived.IntWalk
import Derived.Deep.RegionHeld3
import Derived.Deep.LoopGhost
import Derived.Test.YtdgggjeiflllhaaZyQk
import Derived.Test.YtdgggjeiflllhaaZyQf
import Derived.Test.YtdgggjeiflllhaaZyQm

namespace Go.Proofs.Ytdgggjeiflllhaa.M
open Go.ChangeShapes Go.WideShapes Go.ChangeAt Go.RowKit
theorem rpfQ_range {b : Bytes} {t cap : Nat} (h : (rpfQ b t cap).2.2.2 = 0) : (rpfQ b t cap).2.1 ≤ 4611686018427387903 ∧ (rpfQ b t cap).2.2.1 ≤ b.length := by
  have h1 := rdp_range b 8 (by decide)
  have h2 := rdp_range (b.drop (rdp b 8).2.1) 7 (by decide)
  unfold rpfQ at h ⊢
  rcases hq : rdp b 8 with ⟨en, k, e⟩
  rw [hq] at h1 h2
  simp only [hq] at h ⊢
  by_cases he : e = 0
  · subst he
    simp only [if_neg (show ¬ (0 : Nat) ≠ 0 by simp)] at h ⊢
    rcases hq2 : rdp (b.drop k) 7 with ⟨d, n, e2⟩
    simp only [hq2] at h h2 ⊢
    by_cases he2 : e2 = 0
    · subst he2
      simp only [if_neg (show ¬ (0 : Nat) ≠ 0 by simp)] at h ⊢
      rcases hq3 : decQ en t cap with ⟨count, e3⟩
      simp only [hq3] at h ⊢
      have := h1 rfl
      have := h2 rfl
      simp only [List.length_drop] at this
      by_cases he3 : e3 = 0
      · subst he3
        simp only [if_neg (show ¬ (0 : Nat) ≠ 0 by simp)] at h ⊢
        split at h
        · split at h
          · cases h
          · rename_i q1 q2
            simp only [if_pos q1, if_neg q2]
            omega
        · split at h
          · cases h
          · rename_i q1 q2
            simp only [if_neg q1, if_neg q2]
            omega
      · simp only [if_pos he3] at h
        exact absurd h he3
    · simp only [if_pos he2] at h
      exact absurd h he2
  · simp only [if_pos he] at h
    exact absurd h he
def DecR (X : Nat → Prop) (w : World) (pd g bm : Nat) (R : (List Fld × Nat) × Qd) (e : Ending) (w' : World) : Prop :=
  ∃ (X' : Nat → Prop) (A : Option Addr) (c : Nat), e = .returned (.tuple #[.slice A R.1.1.length c, .int .i64 (R.1.2 : Int)]) ∧ App (fun k => New w k ∧ ¬ X' k) w' 71 2 A R.1.1.length c (fvs R.1.1) ∧ QdAt X' w' pd g bm R.2 ∧ Frm (Own X w) w w' ∧ ∀ k, X' k → Own X w k
theorem DecR.nil {X X' : Nat → Prop} {w w' : World} {pd g bm x : Nat} {D2 : Qd} (hq : QdAt X' w' pd g bm D2) (f : Frm (Own X w) w w') (hs : ∀ k, X' k → Own X w k) {R : (List Fld × Nat) × Qd} (hR : R = (([], x), D2)) : DecR X w pd g bm R (.returned (.tuple #[.slice none 0 0, .int .i64 (x : Int)])) w' := by
  subst hR
  exact ⟨X', none, 0, rfl, App.none_, hq, f, hs⟩
theorem QdM.wait {X S : Nat → Prop} {w w' : World} {pd g bm cr co : Nat} {Ar Ao : Option Addr} {ents : List (Nat × Value)} {D D2 : Qd} (h : QdM X w pd g bm S Ar cr Ao co ents D) (s : Nat) (v : Int) (hm : MapIs w' bm ukey (putE s (.int .i64 v) ents)) (f : Frm (· = bm) w w') (hD : D2 = { D with waits := if s ∈ D.waits then D.waits else D.waits ++ [s] }) : QdM X w' pd g bm S Ar cr Ao co (putE s (.int .i64 v) ents) D2 := by
  subst hD
  have hk : ∀ l : List (Nat × Value), (putE s (.int .i64 v) l).map (·.1) = if s ∈ l.map (·.1) then l.map (·.1) else l.map (·.1) ++ [s] := fun l => by
    induction l with
    | nil => simp [putE]
    | cons p r ih =>
      unfold putE
      by_cases e : s = p.1
      · rw [if_pos e]
        simp [e]
      · rw [if_neg e, List.map_cons, ih]
        by_cases hr : s ∈ r.map (·.1)
        · rw [if_pos hr, if_pos (by simp only [List.map_cons]; exact List.mem_cons_of_mem _ hr)]; rfl
        · rw [if_neg hr, if_neg (by simp only [List.map_cons, List.mem_cons]; rintro (q | q); exact e q; exact hr q)]; rfl
  have hc : ∀ (l : List (Nat × Value)), (∀ x ∈ l, ∃ k : Int, x.2 = .int .i64 k) → ∀ x ∈ putE s (.int .i64 v) l, ∃ k : Int, x.2 = .int .i64 k := fun l => by
    induction l with
    | nil => intro _ x hx; simp [putE] at hx; exact ⟨v, by rw [hx]⟩
    | cons p r ih =>
      intro hl x hx
      unfold putE at hx
      split at hx
      · rcases List.mem_cons.1 hx with e | e
        · exact ⟨v, by rw [e]⟩
        · exact hl x (List.mem_cons_of_mem _ e)
      · rcases List.mem_cons.1 hx with e | e
        · exact hl x (e ▸ List.mem_cons_self ..)
        · exact ih (fun y hy => hl y (List.mem_cons_of_mem _ hy)) x e
  exact { h with
    blk := h.blk.keep f h.mp
    tab := h.tab.keep f (fun k hk e => h.ms (e ▸ hk))
    map := hm
    keys := by rw [hk, h.keys]
    nd := by
      have := nodup_put s (.int .i64 v) ents (by rw [h.keys]; exact h.nd)
      rw [hk, h.keys] at this
      exact this
    cnt := hc ents h.cnt
    rest := h.rest.keep f (fun k hk e => (h.rs k hk).2.2 e)
    out := h.out.keep f (fun k hk e => (h.os k hk).2.2.1 e)
    low := fun k hk => Nat.lt_of_lt_of_le (h.low k hk) f.size }
theorem getE_some {κ ν : Type} [DecidableEq κ] (k : κ) : ∀ l : List (κ × ν), (getE k l).isSome = decide (k ∈ l.map (·.1))
  | [] => rfl
  | p :: r => by
    rw [getE_cons]
    by_cases h : k = p.1
    · rw [if_pos h]; simp [h]
    · rw [if_neg h, getE_some k r]; simp [h]
theorem getE_int {s : Nat} : ∀ {l : List (Nat × Value)}, (∀ x ∈ l, ∃ k : Int, x.2 = .int .i64 k) → ∃ v : Int, (getE s l).getD (.int .i64 0) = .int .i64 v
  | [], _ => ⟨0, rfl⟩
  | p :: r, h => by
    rw [getE_cons]
    by_cases e : s = p.1
    · rw [if_pos e]
      obtain ⟨k, hk⟩ := h p (List.mem_cons_self ..)
      exact ⟨k, by simp [hk]⟩
    · rw [if_neg e]
      exact getE_int (fun x hx => h x (List.mem_cons_of_mem _ hx))
theorem zInt3 : (Try.prog.info? 3).map (·.zero) = some (some (.int .i64 0)) := by kernel_rfl
set_option maxRecDepth 100000 in
set_option maxHeartbeats 4000000 in
theorem qdecode_any {X : Nat → Prop} {w : World} {pd g bm : Nat} {D : Qd} (h : QdAt X w pd g bm D) (s : Nat) (b : Bytes) (A0 : Option Addr) (c0 : Nat) (hR : Rd w A0 (bvs b)) (hc : b.length ≤ c0) (hl : b.length ≤ 1099511627776) (hfar : ∀ k, M.blk A0 = some k → ¬ X k ∧ k < w.heap.size) (hs : s ≤ 4611686018427387903) (ho : D.out.length ≤ 1099511627000) :
    Calls Try.prog 26 #[.pointer (some ⟨pd, 0, none⟩), .int .u64 (s : Int), .slice A0 b.length c0] w (DecR X w pd g bm (D.decode s b)) := by
  have hX : ∀ k, X k → Own X w k := fun k hk => .inl hk
  obtain ⟨S, Ar, cr, Ao, co, ents, h⟩ := h
  obtain ⟨R, hRD⟩ : ∃ R, R = D.decode s b := ⟨_, rfl⟩
  rw [← hRD]
  have hb := h.blk
  have hqa : QdAt X w pd g bm D := ⟨_, _, _, _, _, _, h⟩
  cases hbad : D.bad with
  | true =>
    have hR2 : R = (([], 26), D) := by rw [hRD]; unfold Qd.decode; rw [if_pos hbad]
    rw [hbad] at hb
    have hy7 := hb.cell 7
    simp only [List.getElem?_toArray, List.getElem?_cons_zero, List.getElem?_cons_succ] at hy7
    have hpl := hb.lt
    clear hRD
    have H := Lib.hid h
    have HB := Lib.hid hb
    have HR2 := Lib.hid hR2
    have HQA := Lib.hid hqa
    clear h hb hR2 hqa
    go_enter Try.func26, Try.ntmps26
    go_wp2
    go_ret2
    exact DecR.nil HQA.out (Frm.refl _ _) hX HR2.out
  | false =>
    have hR2 : R = match rpfQ b D.t.n D.lim with
      | (count, base, k, e) => if e ≠ 0 then (([], 26), D) else
        if D.t.n < count then
          (if s ∈ D.waits then (([], 27), D) else if D.blk ≤ D.waits.length then (([], 50), D) else (([], 27), { D with waits := D.waits ++ [s] }))
        else
          match linesQ D.t count base (b.drop k).length [] (b.drop k) with
          | none => (([], 26), D.forget s)
          | some l => ((l, 0), { D.forget s with out := if 0 < count then D.out ++ pfx 128 7 s else D.out, told := if 0 < count then max D.told count else D.told }) := by
      rw [hRD]; unfold Qd.decode; rw [if_neg (by rw [hbad]; simp)]; rfl
    clear hRD
    have hrp := fun w' (f : Frm (New w) w w') => qrpf_any b A0 c0 D.t.n D.lim w' (hR.fresh f) hl hc (by have := h.nb; omega) h.lim
    have hrg := fun hh => @rpfQ_range b D.t.n D.lim hh
    rcases hq : rpfQ b D.t.n D.lim with ⟨count, base, k, e⟩
    rw [hq] at hR2 hrp hrg
    simp only at hR2 hrp hrg
    rw [hbad] at hb
    have hy0 := hb.cell 0
    have hy1 := hb.cell 1
    have hy7 := hb.cell 7
    simp only [List.getElem?_toArray, List.getElem?_cons_zero, List.getElem?_cons_succ] at hy0 hy1 hy7
    have hpl := hb.lt
    have hcn : ∀ w', Frm (New w) w w' → Calls Try.prog 32 #[.pointer (some ⟨g, 0, none⟩)] w' fun e w2 => e = .returned (.int .u64 D.t.n) ∧ w2 = w' := fun w' f => by
      obtain ⟨TA, Tc, Ta, Tb, Tew, Ten, hT⟩ := h.tab
      exact tcount_any w' (hT.fresh f)
    have hS0 : w.cell? ⟨pd, 0, none⟩ = some (.pointer (some ⟨g, 0, none⟩)) ∧ w.cell? ⟨pd, 1, none⟩ = some (.int .i64 (D.lim : Int)) ∧ pd < w.heap.size := ⟨hy0, hy1, hpl⟩
    have H := Lib.hid h
    have HB := Lib.hid hb
    have HR2 := Lib.hid hR2
    have HQA := Lib.hid hqa
    have HRP := Lib.hid hrp
    have HRG := Lib.hid hrg
    have HCN := Lib.hid hcn
    have HR := Lib.hid hR
    have HFAR := Lib.hid hfar
    clear h hb hR2 hqa hrp hrg hcn hR hfar
    go_enter Try.func26, Try.ntmps26
    go_upto_region 3 with (fail)
    go_cut [8, 9, 10, 11] from 12 (fun v8 v9 v10 v11 w' => v8 = .int .u64 (count : Int) ∧ v9 = .int .u64 (base : Int) ∧ v10 = .int .i64 (k : Int) ∧ v11 = .int .i64 (e : Int) ∧ ∃ n, w' = w.drewN n)
    case first =>
      go_region_held3 (fun w' => w'.cell? ⟨pd, 0, none⟩ = some (.pointer (some ⟨g, 0, none⟩)) ∧ w'.cell? ⟨pd, 1, none⟩ = some (.int .i64 (D.lim : Int)) ∧ pd < w'.heap.size) (exact hS0) (first
        | (go_at_call 32; refine (HCN.out _ ((Frm.refl _ w).drew)).mono ?_; rintro e1 w1 ⟨rfl, hw⟩; rw [hw]; clear hw w1)
        | (go_at_call 63; refine (HRP.out _ ((Frm.refl _ w).drew)).mono ?_; rintro e2 w2 ⟨rfl, n, hw⟩; rw [hw]; clear hw w2))
      all_goals go_wp2
      all_goals go_meet
      all_goals exact ⟨rfl, rfl, rfl, rfl, _, rfl⟩
    case rest =>
      obtain ⟨rfl, rfl, rfl, rfl, n, hw⟩ := hcut
      rename World => w1
      have hF1 : Frm (New w) w w1 := by rw [hw]; exact (Frm.refl _ _).drewN n
      have hqa1 : QdAt X w1 pd g bm D := HQA.out.fresh hF1
      have hM1 := H.out.fresh hF1
      have hFX := hF1.mono (M' := Own X w) (fun k hk => .inr hk)
      clear hw hy0 hy1 hy7 hpl hS0 HRP HB
      have hb1 := hM1.blk
      rw [hbad] at hb1
      have hy0 := hb1.cell 0
      have hy2 := hb1.cell 2
      have hy3 := hb1.cell 3
      simp only [List.getElem?_toArray, List.getElem?_cons_zero, List.getElem?_cons_succ] at hy0 hy2 hy3
      have hpl := hb1.lt
      have HF1 := Lib.hid hF1
      have HQA1 := Lib.hid hqa1
      have HM1 := Lib.hid hM1
      have HB1 := Lib.hid hb1
      have HFX := Lib.hid hFX
      clear hF1 hqa1 hM1 hb1 hFX
      by_cases he : e = 0
      · subst he
        obtain ⟨hbase, hk⟩ := HRG.out rfl
        have hR3 := HR2.out
        rw [if_neg (by simp)] at hR3
        by_cases hct : D.t.n < count
        · have hcti : (D.t.n : Int) < (count : Int) := by omega
          rw [if_pos hct] at hR3
          have hlen := fun n => run_qlen (HM1.out.map.fresh ((Frm.refl (New w1) w1).drewN n))
          have hel : ents.length = D.waits.length := by rw [← HM1.out.keys, List.length_map]
          rw [hel] at hlen
          have hlk := fun ok => run_lookup ukeys uMq zInt3 HM1.out.map s ok
          have hsome := getE_some s ents
          rw [HM1.out.keys] at hsome
          obtain ⟨v, hv⟩ := getE_int (s := s) HM1.out.cnt
          rw [hsome, hv] at hlk
          have hlk1 := hlk true
          have hlk2 := hlk false
          simp only [if_true, Bool.false_eq_true, if_false, ukey] at hlk1 hlk2
          clear hlk hel hsome hv HR2
          obtain ⟨din, hdin⟩ : ∃ d, d = decide (s ∈ D.waits) := ⟨_, rfl⟩
          rw [← hdin] at hlk1
          obtain ⟨full, hfull⟩ : ∃ d, d = (!din && decide (D.blk ≤ D.waits.length)) := ⟨_, rfl⟩
          have hge : decide ((D.blk : Int) ≤ ((D.waits.length : Nat) : Int)) = decide (D.blk ≤ D.waits.length) := by
            by_cases hh : D.blk ≤ D.waits.length
            · rw [decide_eq_true hh]; exact decide_eq_true (by omega)
            · rw [decide_eq_false hh]; exact decide_eq_false (by omega)
          obtain ⟨fl, hfl⟩ : ∃ d, d = decide (D.blk ≤ D.waits.length) := ⟨_, rfl⟩
          rw [← hfl] at hge hfull
          have HR3 := Lib.hid hR3
          have HDIN := Lib.hid hdin
          have HFULL := Lib.hid hfull
          have HFL := Lib.hid hfl
          clear hR3 hdin hfull hfl
          go_upto_region 8 with (first
              | (go_at_call 32; refine (HCN.out _ HF1.out).mono ?_; rintro e1 w2 ⟨rfl, hw⟩; rw [hw]; clear hw w2))
          go_cut [67] from 68 (fun v67 w' => v67 = .bool full ∧ ∃ n, w' = w1.drewN n)
          case first =>
            cases din with
            | true =>
              go_quiet (fail)
              all_goals go_wp2
              all_goals go_meet
              all_goals exact ⟨by rw [HFULL.out]; rfl, _, rfl⟩
            | false =>
              cases fl with
              | true =>
                have hgp : (D.blk : Int) ≤ ((D.waits.length : Nat) : Int) := of_decide_eq_true hge
                go_quiet (fail)
                all_goals go_wp2
                all_goals go_meet
                all_goals exact ⟨by rw [HFULL.out]; rfl, _, rfl⟩
              | false =>
                have hgp : ¬ (D.blk : Int) ≤ ((D.waits.length : Nat) : Int) := of_decide_eq_false hge
                go_quiet (fail)
                all_goals go_wp2
                all_goals go_meet
                all_goals exact ⟨by rw [HFULL.out]; rfl, _, rfl⟩
          case rest =>
            obtain ⟨rfl, n2, hw2⟩ := hcut
            rename World => w2
            have hF2 : Frm (New w1) w1 w2 := by rw [hw2]; exact (Frm.refl _ _).drewN n2
            have hM2 := HM1.out.fresh hF2
            have hqa2 := HQA1.out.fresh hF2
            have hFX2 := HFX.out.trans (hF2.mono (M' := Own X w) (fun k hk => .inr (Nat.le_trans HF1.out.size hk)))
            clear hw2 hy0 hy2 hy3 hpl hlen hlk1
            have hb2 := hM2.blk
            rw [hbad] at hb2
            have hy3 := hb2.cell 3
            simp only [List.getElem?_toArray, List.getElem?_cons_zero, List.getElem?_cons_succ] at hy3
            have hpl := hb2.lt
            cases full with
            | true =>
              have hR4 : R = (([], 50), D) := by
                rw [HR3.out]
                have h1 := HFULL.out
                rw [HDIN.out, HFL.out] at h1
                simp only [Bool.true_eq, Bool.and_eq_true, Bool.not_eq_eq_eq_not, Bool.not_true, decide_eq_false_iff_not, decide_eq_true_eq] at h1
                rw [if_neg h1.1, if_pos h1.2]
              have HR4 := Lib.hid hR4
              have HQA2 := Lib.hid hqa2
              have HFX2 := Lib.hid hFX2
              have HB2 := Lib.hid hb2
              have HM2 := Lib.hid hM2
              clear hR4 hqa2 hFX2 hb2 hM2
              go_wp2
              go_ret2
              exact DecR.nil HQA2.out HFX2.out hX HR4.out
            | false =>
              have hR4 : R = (([], 27), { D with waits := if s ∈ D.waits then D.waits else D.waits ++ [s] }) := by
                rw [HR3.out]
                have h1 := HFULL.out
                rw [HDIN.out, HFL.out] at h1
                by_cases hin : s ∈ D.waits
                · rw [if_pos hin, if_pos hin]
                · rw [if_neg hin, if_neg hin, if_neg (fun q => by rw [decide_eq_false hin, decide_eq_true q] at h1; cases h1)]
              have hlk := run_lookup ukeys uMq zInt3 hM2.map s false
              obtain ⟨v, hv⟩ := getE_int (s := s) hM2.cnt
              rw [hv] at hlk
              simp only [Bool.false_eq_true, if_false, ukey] at hlk
              have HR4 := Lib.hid hR4
              have HQA2 := Lib.hid hqa2
              have HFX2 := Lib.hid hFX2
              have HB2 := Lib.hid hb2
              have HM2 := Lib.hid hM2
              have HV := Lib.hid hv
              clear hR4 hqa2 hFX2 hb2 hM2 hv
              go_wp2_with (refine wpList_update ukeys uMq rfl rfl rfl (k := s) rfl HM2.out.map (fun w3 hm3 f3 hs3 => ?_))
              go_ret2
              exact DecR.nil ⟨_, _, _, _, _, _, HM2.out.wait s _ hm3 f3 rfl⟩ (HFX2.out.trans (f3.mono (fun k hk => by subst hk; exact .inl H.out.xm))) hX HR4.out
        · have hcti : ¬ (D.t.n : Int) < (count : Int) := by omega
          rw [if_neg hct] at hR3
          have hmap := HM1.out.map
          have HMAP := Lib.hid hmap
          clear hmap
          clear HR2
          go_upto_region 13 with (first
            | (go_at_call 32; refine (HCN.out _ HF1.out).mono ?_; rintro e1 w2 ⟨rfl, hw⟩; rw [hw]; clear hw w2)
            | (refine wpList_delete ukeys uMq rfl rfl rfl (k := s) rfl HMAP.out (fun w2 hm2 f2 hs2 => ?_)))
          have hM2 := HM1.out.forget s hm2 f2
          have hF2 : Frm (Own X w) w w2 := HFX.out.trans (f2.mono (fun k hk => by subst hk; exact .inl H.out.xm))
          have hR2 := (HR.out.fresh HF1.out).keep f2 (fun k hk (e : k = bm) => (HFAR.out k hk).1 (e ▸ H.out.xm))
          clear hs2 hm2 f2 HMAP hy0 hy2 hy3 hpl HM1 HQA1 HFX HB1
          have hlx : ∀ k, X k → k < w2.heap.size := hM2.low
          have hwz : w.heap.size ≤ w2.heap.size := hF2.size
          obtain ⟨A2, hA2, hRd2⟩ := hR2.from_ hc k
          have hbk2 : M.blk A2 = M.blk A0 := by
            rw [← hA2]
            split
            · rfl
            · cases A0 with
              | none => rfl
              | some x => simp only [M.blk, Option.map_some, Addr.add]; split <;> rfl
          generalize hr0 : b.drop k = r0 at *
          have hrl0 : r0.length = b.length - k := by rw [← hr0, List.length_drop]
          have hmf : ∀ (fn : Fn) (first cap : Array Value) (w : World), (Instr.makeFunc fn first cap).run Try.prog w = .ok (.func fn first cap) w := fun _ _ _ _ => rfl
          obtain ⟨n0, hn0⟩ : ∃ q, q = b.length - k := ⟨_, rfl⟩
          obtain ⟨c1, hc1⟩ : ∃ q, q = c0 - k := ⟨_, rfl⟩
          -- the worlds
          obtain ⟨wr, hwr⟩ : ∃ x, x = w2.alloc (Obj.cells #[Value.slice A2 n0 c1] 129) := ⟨_, rfl⟩
          obtain ⟨ws, hws⟩ : ∃ x, x = wr.alloc (Obj.cells #[.pointer (some ⟨pd, 0, none⟩), .pointer (some ⟨w2.heap.size, 0, none⟩), .int .u64 (count : Int), .int .u64 (base : Int)] 131) := ⟨_, rfl⟩
          obtain ⟨wb, hwb⟩ : ∃ x, x = ws.alloc (Obj.cells #[Value.pointer (some ⟨w2.heap.size + 1, 0, none⟩)] 126) := ⟨_, rfl⟩
          obtain ⟨wl, hwl⟩ : ∃ x, x = wb.alloc (Obj.cells #[Value.slice none 0 0] 30) := ⟨_, rfl⟩
          have hwal : (((w2.alloc (Obj.cells #[Value.slice A2 n0 c1] 129)).alloc (Obj.cells #[.pointer (some ⟨pd, 0, none⟩), .pointer (some ⟨w2.heap.size, 0, none⟩), .int .u64 (count : Int), .int .u64 (base : Int)] 131)).alloc (Obj.cells #[Value.pointer (some ⟨w2.heap.size + 1, 0, none⟩)] 126)).alloc (Obj.cells #[Value.slice none 0 0] 30) = wl := by rw [hwl, hwb, hws, hwr]
          have fr : Frm (New w2) w2 wr := by rw [hwr]; exact (Frm.refl _ _).alloc Up.new _
          have fs : Frm (New wr) wr ws := by rw [hws]; exact (Frm.refl _ _).alloc Up.new _
          have fb : Frm (New ws) ws wb := by rw [hwb]; exact (Frm.refl _ _).alloc Up.new _
          have fl : Frm (New wb) wb wl := by rw [hwl]; exact (Frm.refl _ _).alloc Up.new _
          have zr : wr.heap.size = w2.heap.size + 1 := by rw [hwr]; simp
          have zs : ws.heap.size = w2.heap.size + 1 + 1 := by rw [hws]; simp [zr]
          have zb : wb.heap.size = w2.heap.size + 1 + 1 + 1 := by rw [hwb]; simp [zs]
          have zl : wl.heap.size = w2.heap.size + 1 + 1 + 1 + 1 := by rw [hwl]; simp [zb]
          obtain ⟨pr, hpr⟩ : ∃ q, q = w2.heap.size := ⟨_, rfl⟩
          obtain ⟨ps, hps⟩ : ∃ q, q = w2.heap.size + 1 := ⟨_, rfl⟩
          obtain ⟨bs, hbs⟩ : ∃ q, q = w2.heap.size + 1 + 1 := ⟨_, rfl⟩
          obtain ⟨bl, hbl⟩ : ∃ q, q = w2.heap.size + 1 + 1 + 1 := ⟨_, rfl⟩
          have hfar2 : ∀ q, M.blk A2 = some q → ¬ X q ∧ q < w2.heap.size := fun q hq => by rw [hbk2] at hq; exact ⟨(HFAR.out q hq).1, Nat.lt_of_lt_of_le (HFAR.out q hq).2 hwz⟩
          have hBr : RdAt wr pr r0 A2 c1 := ⟨by rw [hwr, hpr, hrl0, ← hn0]; exact Blk.new w2 _ _, by rw [hc1] at *; exact hRd2.fresh fr, by omega, by omega, fun q hq => by have := hfar2 q hq; omega⟩
          have hBs : Blk ws ps 131 #[.pointer (some ⟨pd, 0, none⟩), .pointer (some ⟨pr, 0, none⟩), .int .u64 (count : Int), .int .u64 (base : Int)] := by
            have h0 := Blk.new wr 131 #[.pointer (some ⟨pd, 0, none⟩), .pointer (some ⟨pr, 0, none⟩), .int .u64 (count : Int), .int .u64 (base : Int)]
            rw [zr, ← hps] at h0
            rw [hws, ← hpr]
            exact h0
          have hBb : Blk wb bs 126 #[.pointer (some ⟨ps, 0, none⟩)] := by
            have h0 := Blk.new ws 126 #[.pointer (some ⟨ps, 0, none⟩)]
            rw [zs, ← hbs] at h0
            rw [hwb, ← hps]
            exact h0
          have hBl : Blk wl bl 30 #[.slice none 0 0] := by
            have h0 := Blk.new wb 30 #[.slice none 0 0]
            rw [zb, ← hbl] at h0
            rw [hwl]
            exact h0
          have fe : Frm (New wl) wl (wl.alloc (Obj.cells #[Value.int .i64 0] 39)) := (Frm.refl _ _).alloc Up.new _
          have ze : (wl.alloc (Obj.cells #[Value.int .i64 0] 39)).heap.size = wl.heap.size + 1 := by simp
          have hBe := Blk.new wl 39 #[.int .i64 0]
          obtain ⟨we, hwe⟩ : ∃ x, x = wl.alloc (Obj.cells #[Value.int .i64 0] 39) := ⟨_, rfl⟩
          rw [← hwe] at fe ze hBe
          have fle := fl.then_new Up.new fe
          have fbe := fb.then_new Up.new fle
          have fse := fs.then_new Up.new fbe
          have fre := fr.then_new Up.new fse
          have hBbe := hBb.fresh fle
          have hMe := hM2.fresh fre
          have hlin := qlines_any ps pd we (hBbe.cell 0) (hBl.fresh fe) (hBs.fresh fbe) (hMe.blk.cell 0) hMe.tab (hBr.fresh fse) (fun q => by have := hlx _ (hM2.xs _ q); omega) (fun q => by have := hlx _ (hM2.xs _ q); omega) (by have := hlx _ hM2.xp; omega) (by omega) (by omega) (by omega) (by have := hlx _ hM2.xp; omega) (by omega) (by omega) (fun q hq => by have := hfar2 q hq; omega) hbase
          have hprw : w2.heap.size ≤ pr := by omega
          have hblw : w2.heap.size ≤ bl := by omega
          have hble : bl < wl.heap.size := by omega
          have hpre : pr < wl.heap.size := by omega
          have hwle : w2.heap.size ≤ wl.heap.size := by omega
          have hwee : wl.heap.size < we.heap.size := by omega
          clear hwr hws hwb hwl fr fs fb fl zr zs zb zl hBr hBs hBb hBl fe ze fle fbe fse hBbe hMe hfar2 hRd2 hR2 hbk2
          change Calls _ _ _ _ (LinesR we pr bl (linesQ D.t count base r0.length [] r0)) at hlin
          unfold LinesR at hlin
          cases ho2 : linesQ D.t count base r0.length [] r0 with
          | none =>
            rw [ho2] at hlin hR3
            simp only at hlin hR3
            have hf0 := hlin
            have htry : Calls Try.prog 64 #[.func (.func 65) #[] #[.pointer (some ⟨bs, 0, none⟩), .pointer (some ⟨bl, 0, none⟩)]] wl fun e w' => ∃ x : Nat, x ≠ 0 ∧ e = .returned (.int .i64 (x : Int)) ∧ Frm (New w2) w2 w' := by
              have ht := qtryD_bad #[.pointer (some ⟨bs, 0, none⟩), .pointer (some ⟨bl, 0, none⟩)] wl (fun w' => Frm (fun j => j = pr ∨ j = bl ∨ New we j) we w') (by
                rw [← hwe]
                refine hf0.mono ?_
                rintro e w' ⟨f, x, hx, e1⟩
                exact ⟨x, hx, e1, f, hBe.keep f (fun q => by
                  rcases q with q | q | q
                  · omega
                  · omega
                  · unfold New at q; omega)⟩)
              refine ht.mono ?_
              rintro e w6 ⟨x, hx, e1, w5, f5, f6⟩
              have z1 := fre.size
              have z2 := f5.size
              refine ⟨x, hx, e1, (fre.trans (f5.mono (fun q hq => ?_))).trans (f6.mono (fun q hq => ?_))⟩
              · rcases hq with hq | hq | hq
                · subst hq; exact hprw
                · subst hq; exact hblw
                · exact Nat.le_trans z1 hq
              · rcases hq with hq | hq
                · subst hq; exact hwle
                · exact Nat.le_trans (Nat.le_trans z1 z2) hq
            clear hf0 hlin hwe ho2 hBe
            have HR3 := Lib.hid hR3
            have HM2 := Lib.hid hM2
            have HF2 := Lib.hid hF2
            have HA2 := Lib.hid hA2
            have HLX := Lib.hid hlx
            have HRL0 := Lib.hid hrl0
            have HN0 := Lib.hid hn0
            have HC1 := Lib.hid hc1
            have HWAL := Lib.hid hwal
            have HR0 := Lib.hid hr0
            have HTRY := Lib.hid htry
            have FRE := Lib.hid fre
            have HPR := Lib.hid hpr
            have HPS := Lib.hid hps
            have HBS := Lib.hid hbs
            have HBL := Lib.hid hbl
            clear hR3 hM2 hF2 hA2 hlx hrl0 hn0 hc1 hwal hr0 htry fre hpr hps hbs hbl
            go_wp2_with (refine wpList_val rfl (.slice A2 n0 c1) (by rw [← HA2.out, HN0.out, HC1.out]; exact run_from rfl rfl rfl rfl hk) ?_)
            rw [HWAL.out, ← HBL.out, ← HBS.out]
            refine HTRY.out.mono ?_
            rintro e6 w6 ⟨x, hx, rfl, hF6⟩
            have hxi : ¬ (x : Int) = 0 := by omega
            have hxi2 : ((x : Int) == 0) = false := beq_eq_false_iff_ne.2 hxi
            have hM6 := HM2.out.fresh hF6
            have HM6 := Lib.hid hM6
            have HF6 := Lib.hid hF6
            clear hM6 hF6
            go_wp2
            go_ret2
            exact DecR.nil ⟨_, _, _, _, _, _, HM6.out⟩ (HF2.out.trans (HF6.out.mono (fun k hk => .inr (Nat.le_trans hwz hk)))) hX HR3.out
          | some l =>
            rw [ho2] at hlin hR3
            simp only at hlin hR3
            have htry := qtryD_ok #[.pointer (some ⟨bs, 0, none⟩), .pointer (some ⟨bl, 0, none⟩)] wl (fun w' => Frm (fun j => j = pr ∨ j = bl ∨ New we j) we w' ∧ ∃ Al cl, Blk w' bl 30 #[.slice Al l.length cl] ∧ App (New we) w' 71 2 Al l.length cl (fvs l) ∧ (l = [] → Al = none)) (by
              rw [← hwe]
              refine hlin.mono ?_
              rintro e w' ⟨f, e1, e2⟩
              exact ⟨e1, ⟨f, e2⟩, hBe.keep f (fun q => by
                rcases q with q | q | q
                · omega
                · omega
                · unfold New at q; omega)⟩)
            clear hlin hwe ho2 hBe
            have HR3 := Lib.hid hR3
            have HM2 := Lib.hid hM2
            have HF2 := Lib.hid hF2
            have HA2 := Lib.hid hA2
            have HLX := Lib.hid hlx
            have HRL0 := Lib.hid hrl0
            have HN0 := Lib.hid hn0
            have HC1 := Lib.hid hc1
            have HWAL := Lib.hid hwal
            have HR0 := Lib.hid hr0
            have HTRY := Lib.hid htry
            have FRE := Lib.hid fre
            have HPR := Lib.hid hpr
            have HPS := Lib.hid hps
            have HBS := Lib.hid hbs
            have HBL := Lib.hid hbl
            clear hR3 hM2 hF2 hA2 hlx hrl0 hn0 hc1 hwal hr0 htry fre hpr hps hbs hbl
            go_wp2_with (refine wpList_val rfl (.slice A2 n0 c1) (by rw [← HA2.out, HN0.out, HC1.out]; exact run_from rfl rfl rfl rfl hk) ?_)
            rw [HWAL.out, ← HBL.out, ← HBS.out]
            refine HTRY.out.mono ?_
            rintro e6 w6 ⟨rfl, w5, ⟨f5, Al, cl, hL5, hA5, hnl⟩, f6⟩
            have hz25 : w2.heap.size ≤ we.heap.size := FRE.out.size
            have hF6 : Frm (New w2) w2 w6 := (FRE.out.trans (f5.mono (fun q hq => by
              rcases hq with hq | hq | hq
              · subst hq; exact hprw
              · subst hq; exact hblw
              · exact Nat.le_trans hz25 hq))).trans (f6.mono (fun q hq => by subst hq; exact hwle))
            have hL6 := hL5.keep f6 (fun (q : bl = wl.heap.size) => by omega)
            have hA6 := hA5.keep f6 (fun q hq (e : q = wl.heap.size) => by have := hA5.inM q hq; unfold New at this; omega)
            have hM6 := HM2.out.fresh hF6
            have hz6 := f5.size
            have hz56 := f6.size
            have hAlt : ∀ q, M.blk Al = some q → we.heap.size ≤ q ∧ q < w6.heap.size := fun q hq => by
              refine ⟨hA5.inM q hq, ?_⟩
              by_cases hl0 : l = []
              · rw [hnl hl0] at hq; cases hq
              · obtain ⟨g9, o9, rfl, h9⟩ := hA6.rd.lt (by intro c; have := congrArg List.length c; rw [fvs_length] at this; simp at this; exact hl0 (List.eq_nil_of_length_eq_zero (by omega)))
                cases hq
                exact h9
            have HL6 := Lib.hid hL6
            have HA6 := Lib.hid hA6
            have HM6 := Lib.hid hM6
            have HF6 := Lib.hid hF6
            have HALT := Lib.hid hAlt
            clear hL6 hA6 hM6 hF6 hAlt
            clear hL5 hA5 hnl f5 f6 HTRY
            have hbl6 := HL6.out
            have hl0 := hbl6.cell 0
            simp only [List.getElem?_toArray, List.getElem?_cons_zero] at hl0
            have hll := HL6.out.lt
            clear hbl6
            by_cases hc0 : 0 < count
            · have hc0i : (0 : Int) < (count : Int) := by omega
              have hp := prefix_nat D.out Ao co 128 7 s w6 HM6.out.out (by omega) (by decide) (by decide) (by decide) (by omega)
              have hpl := pfx_length 128 7 s
              obtain ⟨l2, hl2⟩ : ∃ l2, l2 = D.out ++ pfx 128 7 s := ⟨_, rfl⟩
              have hl2n : l2 ≠ [] := by rw [hl2]; exact pfx_ne _ _ _ _
              have hl2l : l2.length ≤ 1099511627776 := by rw [hl2, List.length_append]; omega
              have hR4 : R = ((l, 0), { D.forget s with out := l2, told := max D.told count }) := by rw [HR3.out, if_pos hc0, if_pos hc0, hl2]
              rw [← hl2] at hp
              clear hl2 hpl
              have hb6 := HM6.out.blk
              simp only [Qd.forget] at hb6
              have hy5 := hb6.cell 5
              have hy6 := hb6.cell 6
              simp only [List.getElem?_toArray, List.getElem?_cons_zero, List.getElem?_cons_succ] at hy5 hy6
              have hpd6 := hb6.lt
              have hbpd : bl ≠ pd := fun e => by have := HLX.out pd HM2.out.xp; omega
              have HP := Lib.hid hp
              have HR4 := Lib.hid hR4
              have HB6 := Lib.hid hb6
              clear hp hR4 hb6
              go_upto_region 20 with (go_at_call 43; refine HP.out.mono ?_; rintro e7 w7 ⟨A7, c7, rfl, hA7, hF7⟩; have hyc5 := (HB6.out.fresh hF7).cell 5; have hyz5 := (HB6.out.fresh hF7).frozen 5; have hyl5 := (HB6.out.fresh hF7).lt)
              have hM8 := HM6.out.setout (c2 := c7) hF7 hA7.rd (RetB.lt hA7 hl2n) hl2l
              have f8 : Frm (fun k => k = pd) w7 (w7.setCell ⟨pd, 5, none⟩ (.slice A7 l2.length c7)) := (Frm.refl (fun k => k = pd) w7).setCell (p := ⟨pd, 5, none⟩) rfl _
              have hF8 : Frm (fun k => k = pd ∨ New w6 k) w6 (w7.setCell ⟨pd, 5, none⟩ (.slice A7 l2.length c7)) := (hF7.mono (fun k hk => .inr hk)).trans (f8.mono (fun k hk => .inl hk))
              have hL8 := HL6.out.keep hF8 (fun q => by rcases q with q | q; exact hbpd q; unfold New at q; omega)
              have hA8 := HA6.out.freshx (N := fun k => k = pd) hF8 (fun k hk e => by subst e; have := HLX.out k HM2.out.xp; unfold New at hk; omega)
              have hz7 := hF7.size
              generalize w7.setCell ⟨pd, 5, none⟩ (.slice A7 l2.length c7) = w8 at *
              clear hyc5 hyz5 hyl5 hy5 hy6 hpd6 hl0 hll hA7 f8
              have hb8 := hM8.blk
              simp only [Qd.forget] at hb8
              have hy6 := hb8.cell 6
              simp only [List.getElem?_toArray, List.getElem?_cons_zero, List.getElem?_cons_succ] at hy6
              have hyz6 := hb8.frozen 6
              have hpd8 := hb8.lt
              have hl0 := hL8.cell 0
              simp only [List.getElem?_toArray, List.getElem?_cons_zero] at hl0
              have hll := hL8.lt
              have fin : ∀ n : Nat, max D.told count = n → DecR X w pd g bm R (.returned (.tuple #[.slice Al l.length cl, .int .i64 ((0 : Nat) : Int)])) (w8.setCell ⟨pd, 6, none⟩ (.int .u64 (n : Int))) := fun n hn => by
                have f9 : Frm (fun k => k = pd) w8 (w8.setCell ⟨pd, 6, none⟩ (.int .u64 (n : Int))) := (Frm.refl (fun k => k = pd) w8).setCell (p := ⟨pd, 6, none⟩) rfl _
                have hxp : Own X w pd := .inl H.out.xp
                rw [HR4.out, hn]
                refine ⟨fun k => Own X w6 k ∧ k < w7.heap.size, Al, cl, rfl, ?_, ⟨_, _, _, _, _, _, hM8.settold n⟩, ((HF2.out.trans (HF6.out.mono (fun k hk => .inr (Nat.le_trans hwz hk)))).trans (hF8.mono (fun k hk => ?_))).trans (f9.mono (fun k hk => hk ▸ hxp)), fun k hk => ?_⟩
                · have h9 := (hA8.keep f9 (fun k hk (e : k = pd) => by have := HLX.out pd HM2.out.xp; have := (HALT.out k hk).1; omega))
                  exact { h9 with
                    inM := fun k hk => by
                      have h1 := HALT.out k hk
                      refine ⟨by unfold New; omega, fun q => ?_⟩
                      rcases q.1 with q | q
                      · have := HLX.out k q; omega
                      · omega
                    own := fun hc => by
                      obtain ⟨gg, off, cur, a, b2, d, m⟩ := h9.own hc
                      refine ⟨gg, off, cur, a, b2, d, ?_⟩
                      have h1 := HALT.out gg (by rw [a]; rfl)
                      refine ⟨by unfold New; omega, fun q => ?_⟩
                      rcases q.1 with q | q
                      · have := HLX.out gg q; omega
                      · omega }
                · rcases hk with hk | hk
                  · exact hk ▸ hxp
                  · exact .inr (by unfold New at hk; have := HF6.out.size; omega)
                · rcases hk.1 with q | q
                  · exact .inl q
                  · exact .inr (by have := HF6.out.size; omega)
              have FIN := Lib.hid fin
              have HB8 := Lib.hid hb8
              have HL8 := Lib.hid hL8
              clear fin hb8 hL8
              clear hM8 hF8 hA8 hF7 HP
              by_cases hmx : D.told < count
              · have hmi : (D.told : Int) < (count : Int) := by omega
                have hmj : ¬ (count : Int) ≤ (D.told : Int) := by omega
                go_wp2
                all_goals go_ret2
                all_goals exact FIN.out count (by omega)
              · have hmi : ¬ (D.told : Int) < (count : Int) := by omega
                have hmj : (count : Int) ≤ (D.told : Int) := by omega
                go_wp2
                all_goals go_ret2
                all_goals exact FIN.out D.told (by omega)
            · have hc0i : ¬ (0 : Int) < (count : Int) := by omega
              have hR4 : R = ((l, 0), D.forget s) := by rw [HR3.out, if_neg hc0, if_neg hc0]; rfl
              have HR4 := Lib.hid hR4
              clear hR4
              go_wp2
              go_ret2
              rw [HR4.out]
              refine ⟨X, Al, cl, rfl, ?_, ⟨_, _, _, _, _, _, HM6.out⟩, HF2.out.trans (HF6.out.mono (fun k hk => .inr (Nat.le_trans hwz hk))), hX⟩
              have hin : ∀ q, New we q → New w q ∧ ¬ X q := fun q hq => ⟨by unfold New at *; omega, fun e => by have := HLX.out q e; unfold New at hq; omega⟩
              exact HA6.out.mono hin
      · have hei : ¬ (e : Int) = 0 := by omega
        have hei2 : ((e : Int) == 0) = false := beq_eq_false_iff_ne.2 hei
        have hR3 := HR2.out
        rw [if_pos he] at hR3
        have HR3 := Lib.hid hR3
        clear hR3
        go_wp2
        go_ret2
        exact DecR.nil HQA1.out HFX.out hX HR3.out
end Go.Proofs.Ytdgggjeiflllhaa.M

