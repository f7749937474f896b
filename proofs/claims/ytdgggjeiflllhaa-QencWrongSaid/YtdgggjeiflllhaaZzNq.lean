/- Nq -/
import Derived.BigQuiet
import Derived.Deep.CutBlock
import Derived.Lib.Hide
import Derived.IntWalk
import Derived.StillTailTactics
import Derived.Test.YtdgggjeiflllhaaZzNo
import Derived.Test.YtdgggjeiflllhaaZzMem
import Derived.Deep.LoopGhost
import Derived.Test.YtdgggjeiflllhaaZzQsub

namespace Go.Proofs.Ytdgggjeiflllhaa.M
open Go.ChangeShapes Go.WideShapes Go.ChangeAt Go.RowKit
theorem ackGo_none (s : Nat) : ∀ l : List Qs, ackGo s l = none → l.filter (fun o => decide (o.stream = s)) = []
  | [], _ => rfl
  | o :: r, h => by
    unfold ackGo at h
    by_cases e : o.stream = s
    · rw [if_pos e] at h; cases h
    · rw [if_neg e] at h
      rw [List.filter_cons_of_neg (by simpa using e)]
      exact ackGo_none s r (by simpa using h)
theorem ackGo_some (s : Nat) : ∀ (l : List Qs) (o : Qs) (r : List Qs), ackGo s l = some (o, r) → o.stream = s ∧ o ∈ l ∧ (∀ q ∈ r, q ∈ l) ∧ l.filter (fun o => decide (o.stream = s)) = o :: r.filter (fun o => decide (o.stream = s)) ∧ ∀ t, t ≠ s → r.filter (fun o => decide (o.stream = t)) = l.filter (fun o => decide (o.stream = t))
  | [], _, _, h => by cases h
  | x :: l, o, r, h => by
    unfold ackGo at h
    by_cases e : x.stream = s
    · rw [if_pos e] at h
      cases h
      refine ⟨e, List.mem_cons_self .., fun q hq => List.mem_cons_of_mem _ hq, List.filter_cons_of_pos (by simpa using e), fun t ht => ?_⟩
      rw [List.filter_cons_of_neg (by simp; omega)]
    · rw [if_neg e] at h
      cases hg : ackGo s l with
      | none => rw [hg] at h; cases h
      | some z =>
        rw [hg] at h
        obtain ⟨o2, r2⟩ := z
        simp only [Option.map_some, Option.some.injEq, Prod.mk.injEq] at h
        obtain ⟨rfl, rfl⟩ := h
        obtain ⟨h1, h2, h3, h4, h5⟩ := ackGo_some s l o2 r2 hg
        refine ⟨h1, List.mem_cons_of_mem _ h2, fun q hq => ?_, ?_, fun t ht => ?_⟩
        · rcases List.mem_cons.1 hq with q1 | q1
          · rw [q1]; exact List.mem_cons_self ..
          · exact List.mem_cons_of_mem _ (h3 q q1)
        · rw [List.filter_cons_of_neg (by simpa using e), List.filter_cons_of_neg (by simpa using e), h4]
        · by_cases q : x.stream = t
          · rw [List.filter_cons_of_pos (by simpa using q), List.filter_cons_of_pos (by simpa using q), h5 t ht]
          · rw [List.filter_cons_of_neg (by simpa using q), List.filter_cons_of_neg (by simpa using q), h5 t ht]
def Qn.ack (E : Qn) (s : Nat) : Nat × Qn := match ackGo s E.opn with | none => (26, E) | some (o, r) => (0, { E with known := max E.known o.count, opn := r })
def Qn.grow (E : Qn) (n : Nat) : Nat × Qn := if n = 0 ∨ E.t.n - E.known < n then (26, E) else (0, { E with known := E.known + n })
theorem ins_eq (E : Qn) (r : Bytes) : E.ins r = (if (rdp r (if 128 ≤ (r.headD 0).toNat then 7 else 6)).2.2 ≠ 0 then ((rdp r (if 128 ≤ (r.headD 0).toNat then 7 else 6)).2.2, 0, E) else
    if 128 ≤ (r.headD 0).toNat then ((E.ack (rdp r (if 128 ≤ (r.headD 0).toNat then 7 else 6)).1).1, (rdp r (if 128 ≤ (r.headD 0).toNat then 7 else 6)).2.1, (E.ack (rdp r (if 128 ≤ (r.headD 0).toNat then 7 else 6)).1).2)
    else if 64 ≤ (r.headD 0).toNat then (0, (rdp r (if 128 ≤ (r.headD 0).toNat then 7 else 6)).2.1, { E with opn := E.opn.filter fun o => decide (o.stream ≠ (rdp r (if 128 ≤ (r.headD 0).toNat then 7 else 6)).1) })
    else ((E.grow (rdp r (if 128 ≤ (r.headD 0).toNat then 7 else 6)).1).1, (rdp r (if 128 ≤ (r.headD 0).toNat then 7 else 6)).2.1, (E.grow (rdp r (if 128 ≤ (r.headD 0).toNat then 7 else 6)).1).2)) := by
  unfold Qn.ins
  rcases rdp r (if 128 ≤ (r.headD 0).toNat then 7 else 6) with ⟨n, k, e⟩
  simp only
  split
  · rfl
  split
  · unfold Qn.ack
    cases ackGo n E.opn <;> rfl
  split
  · rfl
  unfold Qn.grow
  split <;> rfl
section
variable {X S : Nat → Prop} {w w' w2 : World} {pe g bm cr c2 : Nat} {Ar A2 : Option Addr} {L L' : List (Nat × Ro)} {E : Qn} {opn' : List Qs} {r : Bytes}
theorem QnM.setpe (h : QnM X w pe g bm S Ar cr L E) (j : Nat) (u : Value) {E2 : Qn} (e1 : E2.t = E.t) (e2 : E2.opn = E.opn) (e3 : E2.rest = E.rest) (e4 : E2.known ≤ E.t.n) (e5 : E2.blk = E.blk)
    (hb : (#[.pointer (some ⟨g, 0, none⟩), .int .i64 E.blk, .int .u64 E.known, .map (some bm), .slice Ar E.rest.length cr, .bool E.begun, .int .i64 E.err] : Array Value).setIfInBounds j u = #[.pointer (some ⟨g, 0, none⟩), .int .i64 E2.blk, .int .u64 E2.known, .map (some bm), .slice Ar E2.rest.length cr, .bool E2.begun, .int .i64 E2.err]) :
    QnM X (w.setCell ⟨pe, j, none⟩ u) pe g bm S Ar cr L E2 := by
  have f : Frm (fun k => k = pe) w (w.setCell ⟨pe, j, none⟩ u) := (Frm.refl (fun k => k = pe) w).setCell (p := ⟨pe, j, none⟩) rfl _
  have hk := h.rows_keep f (fun k hk => .inl hk)
  exact { h with
    blk := by have := h.blk.set_ j u; rw [hb] at this; exact this
    tab := by rw [e1]; exact hk.2
    rows := hk.1
    map := h.map.keep f (fun e => h.mp e.symm)
    same := by rw [e2]; exact h.same
    all := by rw [e2]; exact h.all
    rest := by rw [e3]; exact h.rest.keep f (fun k hk e => (h.rs k hk).2.1 e)
    low := fun k hk => Nat.lt_of_lt_of_le (h.low k hk) f.size
    ok := by rw [e1]; exact h.ok
    cap := by rw [e1]; exact h.cap
    nb := by rw [e1]; exact h.nb
    kn := by rw [e1]; exact e4
    ctn := by rw [e1, e2]; exact h.ctn
    bl := by rw [e5]; exact h.bl
    rl := by rw [e3]; exact h.rl }
theorem QnM.setknown (h : QnM X w pe g bm S Ar cr L E) (n : Nat) (hn : n ≤ E.t.n) : QnM X (w.setCell ⟨pe, 2, none⟩ (.int .u64 (n : Int))) pe g bm S Ar cr L { E with known := n } :=
  h.setpe 2 _ rfl rfl rfl hn rfl (by simp)
theorem QnM.seterr (h : QnM X w pe g bm S Ar cr L E) (n : Nat) : QnM X (w.setCell ⟨pe, 6, none⟩ (.int .i64 (n : Int))) pe g bm S Ar cr L { E with err := n } :=
  h.setpe 6 _ rfl rfl rfl h.kn rfl (by simp)
theorem QnM.remap (h : QnM X w pe g bm S Ar cr L E) (hm : MapIs w' bm ukey (entsR L')) (f : Frm (· = bm) w w') (nd : (L'.map (·.1)).Nodup)
    (hrow : ∀ x ∈ L', ∃ y ∈ L, y.1 = x.1 ∧ M.blk x.2.A = M.blk y.2.A ∧ RoM X w x.2 ∧ ∀ z ∈ x.2.l, z ∈ y.2.l) (same : ∀ x ∈ L', x.2.l.map (·.1) = opn'.filter fun o => decide (o.stream = x.1))
    (all : ∀ o ∈ opn', o.stream ∈ L'.map (·.1)) (sub : ∀ o ∈ opn', o ∈ E.opn) : QnM X w' pe g bm S Ar cr L' { E with opn := opn' } :=
  { blk := h.blk.keep f h.mp
    tab := h.tab.keep f (fun k hk e => h.ms (e ▸ hk))
    map := hm, nd := nd
    rows := fun x hx => by
      obtain ⟨y, hy, _, hb, hR, hz⟩ := hrow x hx
      exact { hR with
        app := hR.app.keep f (fun k hk e => (h.ro y hy k (hb ▸ hk)).2.2.1 e)
        use_ := fun z hzx => by
          obtain ⟨q1, ents, q2⟩ := hR.use_ z hzx
          exact ⟨q1, ents, { q2 with map := q2.map.keep f (fun e => (h.us y hy z (hz z hzx)).2.2.1 e) }⟩ }
    same := same, all := all
    rest := h.rest.keep f (fun k hk e => (h.rs k hk).2.2 e)
    low := fun k hk => Nat.lt_of_lt_of_le (h.low k hk) f.size
    xp := h.xp, xm := h.xm, xs := h.xs, ps := h.ps, ms := h.ms, mp := h.mp, rs := h.rs
    ro := fun x hx k hk => by
      obtain ⟨y, hy, _, hb, _⟩ := hrow x hx
      exact h.ro y hy k (hb ▸ hk)
    us := fun x hx z hzx => by
      obtain ⟨y, hy, _, _, _, hz⟩ := hrow x hx
      exact h.us y hy z (hz z hzx)
    rr := by
      rw [List.pairwise_iff_getElem]
      intro i j hi hj hij
      obtain ⟨y, hy, hyk, hyb, _⟩ := hrow L'[i] (List.getElem_mem hi)
      obtain ⟨z, hz, hzk, hzb, _⟩ := hrow L'[j] (List.getElem_mem hj)
      rw [hyb, hzb]
      have hne : L'[i].1 ≠ L'[j].1 := by
        have := List.pairwise_iff_getElem.1 nd i j (by simpa using hi) (by simpa using hj) hij
        simpa using this
      obtain ⟨a, ha, rfl⟩ := List.getElem_of_mem hy
      obtain ⟨b, hb, rfl⟩ := List.getElem_of_mem hz
      have hab : a ≠ b := fun e => by subst e; exact hne (hyk.symm.trans hzk)
      rcases Nat.lt_or_gt_of_ne hab with q | q
      · exact List.pairwise_iff_getElem.1 h.rr a b ha hb q
      · exact fun e => List.pairwise_iff_getElem.1 h.rr b a hb ha q e.symm
    ok := h.ok, cap := h.cap, nb := h.nb, kn := h.kn, ctn := fun o ho => h.ctn o (sub o ho), bl := h.bl, rl := h.rl }
end
theorem entsR_del (s : Nat) : ∀ L : List (Nat × Ro), entsR (delE s L) = delE s (entsR L)
  | [] => rfl
  | x :: t => by
    show entsR (delE s (x :: t)) = delE s ((x.1, x.2.v) :: entsR t)
    unfold delE
    simp only
    split
    · rfl
    · show (x.1, x.2.v) :: entsR (delE s t) = _
      rw [entsR_del s t]
theorem del_put {ν : Type} (s : Nat) (r : ν) : ∀ L : List (Nat × ν), s ∈ L.map (·.1) → delE s (putE s r L) = delE s L
  | [], h => by cases h
  | x :: t, h => by
    unfold putE
    by_cases e : s = x.1
    · rw [if_pos e]; unfold delE; rw [if_pos e, if_pos e]
    · rw [if_neg e]; unfold delE; rw [if_neg e, if_neg e, del_put s r t (by simpa [e] using h)]
theorem mem_del_ne {ν : Type} (s : Nat) : ∀ (L : List (Nat × ν)), (L.map (·.1)).Nodup → ∀ x ∈ delE s L, x ∈ L ∧ x.1 ≠ s := fun L hn x hx =>
  ⟨mem_delE s L x hx, fun e => by
    have h1 : x.1 ∈ (delE s L).map (·.1) := List.mem_map.2 ⟨x, hx, rfl⟩
    rw [delE_keys s L hn, List.mem_filter] at h1
    simp [e] at h1⟩
end Go.Proofs.Ytdgggjeiflllhaa.M
namespace Go.Proofs.Ytdgggjeiflllhaa.M
open Go.ChangeShapes Go.WideShapes Go.ChangeAt Go.RowKit
theorem secSize : (Try.prog.info? 84).map (·.size) = some 2 := by kernel_rfl
theorem uSec : Try.prog.underlying 92 = some (.slice 84) := Try.underlying92
def AckR (X : Nat → Prop) (w : World) (pe g bm : Nat) (S : Nat → Prop) (Ar : Option Addr) (cr : Nat) (E2 : Qn) (w' : World) : Prop := ∃ L', QnM X w' pe g bm S Ar cr L' E2 ∧ Frm (fun k => k = pe ∨ k = bm) w w'
set_option maxRecDepth 100000 in
set_option maxHeartbeats 4000000 in
theorem nack_any {X S : Nat → Prop} {w : World} {pe g bm cr : Nat} {Ar : Option Addr} {L : List (Nat × Ro)} {E : Qn} (h : QnM X w pe g bm S Ar cr L E) (s : Nat) :
    Calls Try.prog 92 #[.pointer (some ⟨pe, 0, none⟩), .int .u64 (s : Int)] w fun e w' => e = .returned (.int .i64 ((E.ack s).1 : Nat)) ∧ AckR X w pe g bm S Ar cr (E.ack s).2 w' := by
  obtain ⟨A, c, l, hv, hAp, hl, hn0, hs0, hll, hAf⟩ := h.look2 s
  have hlk := run_lookup ukeys uMo zSecs h.map s false
  rw [hv] at hlk
  simp only [Bool.false_eq_true, if_false, ukey] at hlk
  have hb := h.blk
  have hy2 := hb.cell 2
  have hy3 := hb.cell 3
  simp only [List.getElem?_toArray, List.getElem?_cons_zero, List.getElem?_cons_succ] at hy2 hy3
  have hz2 := hb.frozen 2
  have hpl := hb.lt
  obtain ⟨R, hR⟩ : ∃ R, R = E.ack s := ⟨_, rfl⟩
  rw [← hR]
  unfold Qn.ack at hR
  have hcap := hAp.cap
  have hRd := hAp.rd
  have H := Lib.hid h
  have HAP := Lib.hid hAp
  have HL := Lib.hid hl
  have HN0 := Lib.hid hn0
  have HS0 := Lib.hid hs0
  have HAF := Lib.hid hAf
  have HB := Lib.hid hb
  have HR := Lib.hid hR
  have HRD := Lib.hid hRd
  clear h hAp hl hn0 hs0 hAf hb hR hRd
  clear hv
  go_enter Try.func92, Try.ntmps92
  cases hg : ackGo s E.opn with
  | none =>
    have hl0 : l = [] := by
      have := HL.out
      rw [ackGo_none s E.opn hg] at this
      exact List.map_eq_nil_iff.1 this
    subst hl0
    have hR2 : R = (26, E) := by rw [HR.out, hg]
    clear hg HR
    simp only [List.length_nil] at hlk
    have HR2 := Lib.hid hR2
    clear hR2
    go_wp2
    go_ret
    refine ⟨?_, ?_⟩
    · rw [HR2.out]; rfl
    · rw [HR2.out]; exact ⟨L, H.out, Frm.refl _ _⟩
  | some z =>
    obtain ⟨o, r⟩ := z
    obtain ⟨ho, hom, hsub, hfo, hft⟩ := ackGo_some s E.opn o r hg
    have hR2 : R = (0, { E with known := max E.known o.count, opn := r }) := by rw [HR.out, hg]
    clear hg HR
    have hlc := HL.out
    rw [hfo] at hlc
    cases l with
    | nil => cases hlc
    | cons y lt =>
      simp only [List.map_cons, List.cons.injEq] at hlc
      obtain ⟨hy, hlt⟩ := hlc
      obtain ⟨yq, yb⟩ := y
      simp only at hy
      subst hy
      have hgs : ∃ x, getE s L = some x := by
        cases hq : getE s L with
        | none => have := (HN0.out hq).1; cases this
        | some x => exact ⟨x, rfl⟩
      obtain ⟨x, hx⟩ := hgs
      obtain ⟨hxA, hxc, hxl⟩ := HS0.out x hx
      have hxm := getE_mem hx
      have hxr := H.out.rows _ hxm
      have hct : yq.count ≤ E.t.n := H.out.ctn yq hom
      have hnb := H.out.nb
      obtain ⟨gA, oA, rfl, hjunk⟩ := HRD.out.at_ (k := 0) (by rw [secC_len]; simp)
      clear hjunk
      obtain ⟨hc0, hc1⟩ := secC_cells HRD.out 0 (by simp)
      have hgl := World.block_lt_of_cell? _ _ hc0
      simp only [Nat.zero_mul, Nat.add_zero, List.getElem_cons_zero] at hc0 hgl
      have hgpe : gA ≠ pe := (HAF.out gA rfl).2.1
      clear hc1 HL HN0 HS0
      simp only [List.length_cons] at hlk hcap
      have hxa := hxr.app
      rw [← hxA, ← hxc, ← hxl] at hxa
      have hxu := hxr.use_
      rw [← hxl] at hxu
      have hxs := hxr.small
      rw [← hxl] at hxs
      have htl := hxa.tail
      rw [show (secC ((yq, yb) :: lt)).drop 2 = secC lt from rfl] at htl
      clear hxa
      obtain ⟨n, hn⟩ : ∃ n, n = lt.length := ⟨_, rfl⟩
      rw [← hn] at hlk hcap
      have hni : (0 : Int) < ((n + 1 : Nat) : Int) := by omega
      have hne0 : ((n + 1 : Nat) : Int) ≠ 0 := by omega
      have HO := Lib.hid ho
      have HOM := Lib.hid hom
      have HSUB := Lib.hid hsub
      have HFO := Lib.hid hfo
      have HFT := Lib.hid hft
      have HR2 := Lib.hid hR2
      have HLT := Lib.hid hlt
      have HX := Lib.hid hx
      have HXA := Lib.hid hxA
      have HXC := Lib.hid hxc
      have HXL := Lib.hid hxl
      have HXM := Lib.hid hxm
      have HXR := Lib.hid hxr
      have HTL := Lib.hid htl
      have HN := Lib.hid hn
      have HXU := Lib.hid hxu
      have HXS := Lib.hid hxs
      clear ho hom hsub hfo hft hR2 hlt hx hxA hxc hxl hxm hxr htl hn hxu hxs
      go_upto_region 4 with (fail)
      clear hlk hni hne0
      have hS0 : w.drew.cell? ⟨pe, 2, none⟩ = some (.int .u64 (E.known : Int)) ∧ w.drew.cell? ⟨gA, oA, none⟩ = some (.int .u64 (yq.count : Int)) := ⟨hy2, hc0⟩
      obtain ⟨kn, hkn⟩ : ∃ kn : Nat, kn = max E.known yq.count := ⟨_, rfl⟩
      have hkl : kn ≤ E.t.n := by have := H.out.kn; omega
      have HKN := Lib.hid hkn
      clear hkn
      refine wp_region_til (by kernel_rfl) (fun w' => w'.cell? ⟨pe, 2, none⟩ = some (.int .u64 (E.known : Int)) ∧ w'.cell? ⟨gA, oA, none⟩ = some (.int .u64 (yq.count : Int))) 12 ?_
      change wpAnyT _ _ _ _ _ _ _ _ _ w.drew
      refine wpAnyT_take (i := 0) (v := ?_) (d := some 15) rfl (by rfl) (by kernel_rfl) (fun _ _ _ h => h) (by rfl) hS0 (fun w hSw => ?_) ?_
      rotate_left
      · (try dsimp only at hSw); go_simp; first | done | (with_reducible rfl)
      simp only [Act.put, List.setIfInBounds_toArray, List.set_cons_zero, List.set_cons_succ]
      refine wpAnyT_take (i := 1) (v := ?_) (d := some 16) rfl (by rfl) (by kernel_rfl) (fun _ _ _ h => h) (by rfl) hS0 (fun w hSw => ?_) ?_
      rotate_left
      · (try dsimp only at hSw); go_simp; first | done | (with_reducible rfl)
      simp only [Act.put, List.setIfInBounds_toArray, List.set_cons_zero, List.set_cons_succ]
      refine wpAnyT_take (i := 2) (v := ?_) (d := some 17) rfl (by rfl) (by kernel_rfl) (fun _ _ _ h => h) (by rfl) hS0 (fun w hSw => ?_) ?_
      rotate_left
      · (try dsimp only at hSw); go_simp; first | done | (with_reducible rfl)
      simp only [Act.put, List.setIfInBounds_toArray, List.set_cons_zero, List.set_cons_succ]
      refine wpAnyT_take (i := 3) (v := ?_) (d := some 18) rfl (by rfl) (by kernel_rfl) (fun _ _ _ h => h) (by rfl) hS0 (fun w hSw => ?_) ?_
      rotate_left
      · (try dsimp only at hSw); go_simp; first | done | (with_reducible rfl)
      simp only [Act.put, List.setIfInBounds_toArray, List.set_cons_zero, List.set_cons_succ]
      refine wpAnyT_take (i := 4) (v := ?_) (d := some 19) rfl (by rfl) (by kernel_rfl) (fun _ _ _ h => h) (by rfl) hS0 (fun w hSw => ?_) ?_
      rotate_left
      · (try dsimp only at hSw); go_simp; first | done | (with_reducible rfl)
      simp only [Act.put, List.setIfInBounds_toArray, List.set_cons_zero, List.set_cons_succ]
      refine wpAnyT_take (i := 5) (v := ?_) (d := some 20) rfl (by rfl) (by kernel_rfl) (fun _ _ _ h => h) (by rfl) hS0 (fun w hSw => ?_) ?_
      rotate_left
      · (try dsimp only at hSw); go_simp; first | done | (with_reducible rfl)
      simp only [Act.put, List.setIfInBounds_toArray, List.set_cons_zero, List.set_cons_succ]
      refine wpAnyT_take (i := 6) (v := ?_) (d := some 21) rfl (by rfl) (by kernel_rfl) (fun _ _ _ h => h) (by rfl) hS0 (fun w hSw => ?_) ?_
      rotate_left
      · (try dsimp only at hSw); go_simp; first | done | (with_reducible rfl)
      simp only [Act.put, List.setIfInBounds_toArray, List.set_cons_zero, List.set_cons_succ]
      refine wpAnyT_take (i := 7) (v := ?_) (d := some 22) rfl (by rfl) (by kernel_rfl) (fun _ _ _ h => h) (by rfl) hS0 (fun w hSw => ?_) ?_
      rotate_left
      · (try dsimp only at hSw); go_simp; first | done | (with_reducible rfl)
      simp only [Act.put, List.setIfInBounds_toArray, List.set_cons_zero, List.set_cons_succ]
      refine wpAnyT_take (i := 8) (v := ?_) (d := some 23) rfl (by rfl) (by kernel_rfl) (fun _ _ _ h => h) (by rfl) hS0 (fun w hSw => ?_) ?_
      rotate_left
      · (try dsimp only at hSw); go_simp; first | done | (with_reducible rfl)
      simp only [Act.put, List.setIfInBounds_toArray, List.set_cons_zero, List.set_cons_succ]
      refine wpAnyT_take (i := 9) (v := .int .u64 (kn : Int)) (d := some 24) rfl (by rfl) (by kernel_rfl) (fun _ _ _ h => h) (by rfl) hS0 (fun w hSw => by
        by_cases hk : E.known < yq.count
        · have h1 : (E.known : Int) < (yq.count : Int) := by omega
          have h2 : ¬ (yq.count : Int) ≤ (E.known : Int) := by omega
          have h3 : kn = yq.count := by have := HKN.out; omega
          rw [h3]
          go_simp
        · have h1 : ¬ (E.known : Int) < (yq.count : Int) := by omega
          have h2 : (yq.count : Int) ≤ (E.known : Int) := by omega
          have h3 : kn = E.known := by have := HKN.out; omega
          rw [h3]
          go_simp) ?_
      simp only [Act.put, List.setIfInBounds_toArray, List.set_cons_zero, List.set_cons_succ]
      refine wpAnyT_one (i := 10) rfl (by kernel_rfl) (fun K hK => ?_)
      go_simp
      refine hK.out _ _ (.inr (hS0)) ?_
      clear hK K
      refine wpAnyT_one (i := 11) rfl (by kernel_rfl) (fun K hK => ?_)
      go_simp
      refine hK.out _ _ (.inr (hS0)) ?_
      clear hK K
      refine wpAnyT_one (i := 12) rfl (by kernel_rfl) (fun K hK => ?_)
      go_simp
      refine hK.out _ _ (.inl (by kernel_rfl)) ?_
      clear hK K
      refine wpAnyT_done (by kernel_rfl) ?_ _
      have h1 := (H.out.setknown kn hkl).fresh (Frm.refl _ _).drew
      have hF1 : Frm (fun k => k = pe ∨ k = bm) w (w.setCell ⟨pe, 2, none⟩ (.int .u64 (kn : Int))).drew := ((Frm.refl (fun k => k = pe ∨ k = bm) w).setCell (p := ⟨pe, 2, none⟩) (.inl rfl) _).drew
      clear hS0 hc0 hgl hgpe hy2 hy3 hz2 hpl HB
      generalize (w.setCell ⟨pe, 2, none⟩ (.int .u64 (kn : Int))).drew = w1 at *
      have hb1 := h1.blk
      simp only at hb1
      have hy3 := hb1.cell 3
      simp only [List.getElem?_toArray, List.getElem?_cons_zero, List.getElem?_cons_succ] at hy3
      have hpl := hb1.lt
      have hS0 : w1.drew.cell? ⟨pe, 3, none⟩ = some (.map (some bm)) ∧ pe < w1.drew.heap.size := ⟨hy3, hpl⟩
      have hA2e : ∃ A2, A2 = (if c = 1 then some ⟨gA, oA, none⟩ else (some ⟨gA, oA, none⟩ : Option Addr).map (·.add 2)) := ⟨_, rfl⟩
      obtain ⟨A2, hA2⟩ := hA2e
      have hA2b : M.blk A2 = some gA := by rw [hA2]; split <;> rfl
      have H1 := Lib.hid h1
      have HB1 := Lib.hid hb1
      have HF1 := Lib.hid hF1
      have HA2B := Lib.hid hA2b
      clear h1 hb1 hF1 hA2b
      go_upto_region 5 with (fail)
      refine wp_region_held (by kernel_rfl) (S := fun w' => w'.cell? ⟨pe, 3, none⟩ = some (.map (some bm)) ∧ pe < w'.heap.size) ?_
      change wpAnyH _ _ _ _ _ _ _ _ w1.drew
      refine wpAnyH_takeB (i := 0) (v := ?_) (d := some 27) rfl (by rfl) (by kernel_rfl) (fun _ _ _ h => h) (by rfl) hS0 (fun w hSw => ?_) ?_
      rotate_left
      · (try dsimp only at hSw); (try subst hSw); go_simp; first | done | (with_reducible rfl)
      simp only [Act.put, List.setIfInBounds_toArray, List.set_cons_zero, List.set_cons_succ]
      refine wpAnyH_takeB (i := 1) (v := ?_) (d := some 28) rfl (by rfl) (by kernel_rfl) (fun _ _ _ h => h) (by rfl) hS0 (fun w hSw => ?_) ?_
      rotate_left
      · (try dsimp only at hSw); (try subst hSw); go_simp; first | done | (with_reducible rfl)
      simp only [Act.put, List.setIfInBounds_toArray, List.set_cons_zero, List.set_cons_succ]
      refine wpAnyH_takeB (i := 2) (v := ?_) (d := some 29) rfl (by rfl) (by kernel_rfl) (fun _ _ _ h => h) (by rfl) hS0 (fun w hSw => ?_) ?_
      rotate_left
      · (try dsimp only at hSw); (try subst hSw); go_simp; first | done | (with_reducible rfl)
      simp only [Act.put, List.setIfInBounds_toArray, List.set_cons_zero, List.set_cons_succ]
      refine wpAnyH_takeB (i := 3) (v := ?_) (d := some 30) rfl (by rfl) (by kernel_rfl) (fun _ _ _ h => h) (by rfl) hS0 (fun w hSw => ?_) ?_
      rotate_left
      · (try dsimp only at hSw); (try subst hSw); go_simp; first | done | (with_reducible rfl)
      simp only [Act.put, List.setIfInBounds_toArray, List.set_cons_zero, List.set_cons_succ]
      refine wpAnyH_takeB (i := 4) (v := ?_) (d := some 31) rfl (by rfl) (by kernel_rfl) (fun _ _ _ h => h) (by rfl) hS0 (fun w hSw => ?_) ?_
      rotate_left
      · (try dsimp only at hSw); (try subst hSw); go_simp; first | done | (with_reducible rfl)
      simp only [Act.put, List.setIfInBounds_toArray, List.set_cons_zero, List.set_cons_succ]
      refine wpAnyH_takeB (i := 5) (v := ?_) (d := some 32) rfl (by rfl) (by kernel_rfl) (fun _ _ _ h => h) (by rfl) hS0 (fun w hSw => ?_) ?_
      rotate_left
      · (try dsimp only at hSw); (try subst hSw); go_simp; first | done | (with_reducible rfl)
      simp only [Act.put, List.setIfInBounds_toArray, List.set_cons_zero, List.set_cons_succ]
      refine wpAnyH_takeB (i := 6) (v := .slice A2 n (c - 1)) (d := some 33) rfl (by rfl) (by kernel_rfl) (fun _ _ _ h => h) (by rfl) hS0 (fun w hSw => by rw [hA2]; exact run_tail rfl rfl hcap uSec secSize) ?_
      simp only [Act.put, List.setIfInBounds_toArray, List.set_cons_zero, List.set_cons_succ]
      refine wpAnyH_oneB (i := 7) rfl (by kernel_rfl) (fun K hKK => ?_)
      refine step_update ukeys uMo rfl rfl rfl (k := s) rfl (H1.out.fresh (Frm.refl _ w1).drew).map (fun w2 hm2 f2 hs2 => ?_)
      have hm2' : MapIs w2 bm ukey (putE s (.slice A2 n (c - 1)) (entsR L)) := hm2
      have f12 : Frm (· = bm) w1 w2 := Frm.trans (Frm.refl _ w1).drew f2
      have hb2 := H1.out.blk.keep f12 H1.out.mp
      simp only at hb2
      clear hm2 f2 hs2 hy3 hpl
      have hy3 := hb2.cell 3
      simp only [List.getElem?_toArray, List.getElem?_cons_zero, List.getElem?_cons_succ] at hy3
      have hpl := hb2.lt
      refine hKK.out _ _ ⟨hy3, hpl⟩ ?_
      clear hKK K hS0
      refine wpAnyH_done (by kernel_rfl) ?_ _
      have hse : s ∈ L.map (·.1) := List.mem_map.2 ⟨(s, x), HXM.out, rfl⟩
      have hR3 : R = (0, { E with known := kn, opn := r }) := by rw [HR2.out, HKN.out]
      have HM2' := Lib.hid hm2'
      have F12 := Lib.hid f12
      have HBB := Lib.hid hb2
      have HR3 := Lib.hid hR3
      have HA2 := Lib.hid hA2
      clear hm2' f12 hb2 hR3 hA2
      by_cases hn0 : n = 0
      · subst hn0
        have hlt0 : lt = [] := by
          cases lt with
          | nil => rfl
          | cons a b => have := HN.out; simp at this
        go_upto_region 8 with (refine wpList_delete ukeys uMo rfl rfl rfl (k := s) rfl HM2'.out (fun w3 hm3 f3 hs3 => ?_))
        have HM3 := Lib.hid hm3
        clear hm3
        simp only [Act.put]
        go_wp2_with (fail)
        go_ret
        rw [HR3.out]
        refine ⟨rfl, delE s L, ?_, HF1.out.trans ((F12.out.trans f3).mono (fun k hk => .inr hk))⟩
        refine H1.out.remap (L' := delE s L) (opn' := r) ?_ (F12.out.trans f3) ?_ (fun z hz => ?_) (fun z hz => ?_) (fun q hq => ?_) HSUB.out
        · rw [entsR_del]
          have : delE s (putE s (Value.slice A2 0 (c - 1)) (entsR L)) = delE s (entsR L) := del_put s _ _ (by simpa [entsR] using hse)
          rw [← this]
          exact HM3.out
        · rw [delE_keys s L H.out.nd]
          exact H.out.nd.filter _
        · obtain ⟨h2, h3⟩ := mem_del_ne s L H.out.nd z hz
          exact ⟨z, h2, rfl, rfl, H1.out.rows z h2, fun _ h => h⟩
        · obtain ⟨h2, h3⟩ := mem_del_ne s L H.out.nd z hz
          rw [H.out.same z h2, HFT.out z.1 h3]
        · rw [delE_keys s L H.out.nd, List.mem_filter]
          refine ⟨H.out.all q (HSUB.out q hq), decide_eq_true (fun e => ?_)⟩
          have h4 : q ∈ r.filter (fun o => decide (o.stream = s)) := List.mem_filter.2 ⟨hq, decide_eq_true e⟩
          rw [← HLT.out, hlt0] at h4
          cases h4
      · have hni : ((n + 1 : Nat) : Int) ≠ 1 := by omega
        have hni2 : ((n : Int) + 1) ≠ 1 := by omega
        go_wp2
        go_ret
        rw [HR3.out]
        have hmp := mem_put s (⟨A2, c - 1, lt⟩ : Ro) L H.out.nd
        refine ⟨rfl, putE s ⟨A2, c - 1, lt⟩ L, ?_, HF1.out.trans (F12.out.mono (fun k hk => .inr hk))⟩
        refine H1.out.remap (L' := putE s ⟨A2, c - 1, lt⟩ L) (opn' := r) ?_ F12.out (nodup_put s _ L H.out.nd) (fun z hz => ?_) (fun z hz => ?_) (fun q hq => ?_) HSUB.out
        · rw [entsR_put]
          simp only [Ro.v, ← HN.out]
          exact HM2'.out
        · rcases hmp z hz with rfl | ⟨h2, h3⟩
          · refine ⟨(s, x), HXM.out, rfl, ?_, ?_, fun z hz => ?_⟩
            · show M.blk A2 = M.blk x.A
              rw [HA2B.out, ← HXA.out]
              rfl
            · have hr1 := H1.out.rows _ HXM.out
              have ha := hr1.app
              simp only at ha
              rw [← HXA.out, ← HXC.out, ← HXL.out] at ha
              have ht := ha.tail
              rw [← HA2.out] at ht
              have hu1 := hr1.use_
              simp only at hu1
              rw [← HXL.out] at hu1
              exact { app := ht, use_ := fun y hy => hu1 y (List.mem_cons_of_mem _ hy), ne := fun e => hn0 (by rw [HN.out]; simp only at e; rw [e]; rfl), small := fun y hy => HXS.out y (List.mem_cons_of_mem _ hy) }
            · show z ∈ x.l
              rw [← HXL.out]
              exact List.mem_cons_of_mem _ hz
          · exact ⟨z, h2, rfl, rfl, H1.out.rows z h2, fun _ h => h⟩
        · rcases hmp z hz with rfl | ⟨h2, h3⟩
          · exact HLT.out
          · rw [H.out.same z h2, HFT.out z.1 h3]
        · rw [mem_keys_put]
          exact .inr (H.out.all q (HSUB.out q hq))
set_option maxRecDepth 100000 in
set_option maxHeartbeats 4000000 in
theorem ngrow_any {X S : Nat → Prop} {w : World} {pe g bm cr : Nat} {Ar : Option Addr} {L : List (Nat × Ro)} {E : Qn} (h : QnM X w pe g bm S Ar cr L E) (n : Nat) :
    Calls Try.prog 93 #[.pointer (some ⟨pe, 0, none⟩), .int .u64 (n : Int)] w fun e w' => e = .returned (.int .i64 ((E.grow n).1 : Nat)) ∧ AckR X w pe g bm S Ar cr (E.grow n).2 w' := by
  obtain ⟨R, hR⟩ : ∃ R, R = E.grow n := ⟨_, rfl⟩
  rw [← hR]
  unfold Qn.grow at hR
  have hb := h.blk
  have hy0 := hb.cell 0
  have hy2 := hb.cell 2
  simp only [List.getElem?_toArray, List.getElem?_cons_zero, List.getElem?_cons_succ] at hy0 hy2
  have hz2 := hb.frozen 2
  have hpl := hb.lt
  have hkn := h.kn
  have hnb := h.nb
  have hct : ∀ w', Frm (New w) w w' → Calls Try.prog 32 #[.pointer (some ⟨g, 0, none⟩)] w' fun e w2 => e = .returned (.int .u64 E.t.n) ∧ w2 = w' := fun w' fr => tcountS_any w' (h.tab.fresh fr)
  obtain ⟨d, hd⟩ : ∃ d, d = E.t.n - E.known := ⟨_, rfl⟩
  have hwd : IntKind.u64.wrap ((E.t.n : Int) - (E.known : Int)) = (d : Int) := by rw [IntWalk.u64_in _ (by omega)]; omega
  rw [← hd] at hR
  have hdl : d + E.known = E.t.n := by omega
  have H := Lib.hid h
  have HB := Lib.hid hb
  have HR := Lib.hid hR
  have HCT := Lib.hid hct
  have HD := Lib.hid hd
  clear h hb hR hct hd
  go_enter Try.func93, Try.ntmps93
  by_cases hn0 : n = 0
  · subst hn0
    have hR2 : R = (26, E) := by rw [HR.out, if_pos (.inl rfl)]
    clear HR
    have HR2 := Lib.hid hR2
    clear hR2
    go_upto_region 1 with (fail)
    go_quiet (fail)
    all_goals go_wp2
    all_goals go_ret
    all_goals rw [HR2.out]
    all_goals exact ⟨rfl, L, H.out.fresh ((Frm.refl _ _).drewN _), (Frm.refl _ _).drewN _⟩
  have hni : ¬ (n : Int) = 0 := by omega
  by_cases hnd : d < n
  · have hndi : (d : Int) < (n : Int) := by omega
    have hR2 : R = (26, E) := by rw [HR.out, if_pos (.inr hnd)]
    clear HR
    have HR2 := Lib.hid hR2
    clear hR2
    go_upto_region 1 with (fail)
    go_quiet ((go_at_call 32; refine Calls.quiet_of_same (HCT.out _ ?_); exact (Frm.refl _ _).drewN _))
    all_goals go_wp2
    all_goals go_ret
    all_goals rw [HR2.out]
    all_goals exact ⟨rfl, L, H.out.fresh ((Frm.refl _ _).drewN _), (Frm.refl _ _).drewN _⟩
  · have hndi : ¬ (d : Int) < (n : Int) := by omega
    obtain ⟨kn, hk⟩ : ∃ kn, kn = E.known + n := ⟨_, rfl⟩
    have hR2 : R = (0, { E with known := kn }) := by rw [HR.out, if_neg (by omega), hk]
    have hwk : IntKind.u64.wrap ((E.known : Int) + (n : Int)) = (kn : Int) := by rw [IntWalk.u64_in _ (by omega)]; omega
    have hkl : kn ≤ E.t.n := by omega
    clear HR
    have HR2 := Lib.hid hR2
    have HK := Lib.hid hk
    clear hR2 hk
    go_upto_region 1 with (fail)
    go_quiet ((go_at_call 32; refine Calls.quiet_of_same (HCT.out _ ?_); exact (Frm.refl _ _).drewN _))
    all_goals
      have h2 := (H.out.fresh ((Frm.refl (New w) w).drewN nq)).setknown kn hkl
      have hF2 : Frm (fun k => k = pe ∨ k = bm) w ((w.drewN nq).setCell ⟨pe, 2, none⟩ (.int .u64 (kn : Int))) := ((Frm.refl (fun k => k = pe ∨ k = bm) w).drewN nq).setCell (p := ⟨pe, 2, none⟩) (.inl rfl) _
      have HA2 := Lib.hid h2
      have HF2 := Lib.hid hF2
      clear h2 hF2
      go_wp2
      go_ret
      rw [HR2.out]
      exact ⟨rfl, L, HA2.out, HF2.out⟩
end Go.Proofs.Ytdgggjeiflllhaa.M
namespace Go.Proofs.Ytdgggjeiflllhaa.M
open Go.ChangeShapes Go.WideShapes Go.ChangeAt Go.RowKit
def InR (X : Nat → Prop) (w : World) (pe g bm : Nat) (S : Nat → Prop) (Ar : Option Addr) (cr : Nat) (E2 : Qn) (w' : World) : Prop := ∃ L', QnM X w' pe g bm S Ar cr L' E2 ∧ Frm (Own (fun k => k = pe ∨ k = bm) w) w w'
theorem head_bv (l : Bytes) (h : l ≠ []) : (bvs l)[0]? = some (.int .u8 ((l.headD 0).toNat : Int)) := by
  cases l with
  | nil => exact absurd rfl h
  | cons x t => rfl
set_option maxRecDepth 100000 in
set_option maxHeartbeats 4000000 in
theorem nins_any {X S : Nat → Prop} {w : World} {pe g bm cr : Nat} {Ar : Option Addr} {L : List (Nat × Ro)} {E : Qn} (h : QnM X w pe g bm S Ar cr L E) (hne : E.rest ≠ []) :
    Calls Try.prog 52 #[.pointer (some ⟨pe, 0, none⟩)] w fun e w' => e = .returned (.tuple #[.int .i64 ((E.ins E.rest).2.1 : Nat), .int .i64 ((E.ins E.rest).1 : Nat)]) ∧ InR X w pe g bm S Ar cr (E.ins E.rest).2.2 w' := by
  obtain ⟨R, hR⟩ : ∃ R, R = E.ins E.rest := ⟨_, rfl⟩
  rw [← hR]
  rw [ins_eq] at hR
  obtain ⟨q, hq⟩ : ∃ q, q = (E.rest.headD 0).toNat := ⟨_, rfl⟩
  have hq8 : q < 256 := by rw [hq]; exact UInt8.toNat_lt _
  rw [← hq] at hR
  obtain ⟨gA, oA, hA, hjunk⟩ := h.rest.rd.at_ (k := 0) (by rw [bvs_length]; exact List.length_pos_iff.2 hne)
  have hc0 : w.cell? ⟨gA, oA, none⟩ = some (.int .u8 (q : Int)) := by
    have h1 := head_bv E.rest hne
    rw [← hq, List.getElem?_eq_getElem (by rw [bvs_length]; exact List.length_pos_iff.2 hne)] at h1
    rw [Option.some.inj h1] at hjunk
    exact hjunk
  clear hjunk
  subst hA
  have hgl := World.block_lt_of_cell? _ _ hc0
  simp only at hgl
  have hb := h.blk
  have hy3 := hb.cell 3
  have hy4 := hb.cell 4
  simp only [List.getElem?_toArray, List.getElem?_cons_zero, List.getElem?_cons_succ] at hy3 hy4
  have hpl := hb.lt
  have hlen : 0 < E.rest.length := List.length_pos_iff.2 hne
  have hleni : (0 : Int) < (E.rest.length : Int) := by omega
  have H := Lib.hid h
  have HB := Lib.hid hb
  have HR := Lib.hid hR
  have HQ := Lib.hid hq
  clear h hb hR hq
  go_enter Try.func52, Try.ntmps52
  by_cases hq7 : 128 ≤ q
  · have q7 : (((q : Int) / 128) == 1) = true := by rw [beq_iff_eq]; omega
    have q7p : ((q : Int) / 128) = 1 := by omega
    obtain ⟨z, hz⟩ : ∃ z, z = rdp E.rest 7 := ⟨_, rfl⟩
    have hrp := nrdp_any E.rest (some ⟨gA, oA, none⟩) cr 7 w H.out.rest.rd (by have := H.out.rl; omega) (by omega) (by omega)
    rw [← hz] at hrp
    have hR2 := HR.out
    rw [if_pos hq7, ← hz] at hR2
    clear HR hz
    obtain ⟨n, k, e2⟩ := z
    simp only at hR2
    have HRP := Lib.hid hrp
    have HR2 := Lib.hid hR2
    clear hrp hR2
    go_wp2_with (fail)
    refine HRP.out.mono ?_
    rintro e w1 hh
    obtain ⟨rfl, nq, hnq⟩ := hh
    have hF1 : Frm (New w) w w1 := by rw [hnq]; exact (Frm.refl _ _).drewN _
    clear hnq
    simp only
    have h1 := H.out.fresh hF1
    have hb1 := h1.blk
    clear hy3 hy4 hpl
    have hy3 := hb1.cell 3
    simp only [List.getElem?_toArray, List.getElem?_cons_zero, List.getElem?_cons_succ] at hy3
    have hpl := hb1.lt
    have H1 := Lib.hid h1
    have HF1 := Lib.hid hF1
    have HB1 := Lib.hid hb1
    clear h1 hF1 hb1
    by_cases he : e2 = 0
    · subst he
      have hR3 := HR2.out
      rw [if_neg (by simp)] at hR3
      clear HR2
      rw [if_pos hq7] at hR3
      have hca := nack_any H1.out n
      have HR3 := Lib.hid hR3
      have HCA := Lib.hid hca
      clear hR3 hca
      go_wp2_with (fail)
      refine HCA.out.mono ?_
      rintro e w2 ⟨rfl, L2, hQ2, hF2⟩
      have HQ2 := Lib.hid hQ2
      have HF2 := Lib.hid hF2
      clear hQ2 hF2
      go_wp2
      refine bodyPost_ret (results_tmp2 rfl _ _ _) rfl ?_
      rw [HR3.out]
      exact ⟨rfl, L2, HQ2.out, (HF1.out.mono (fun k hk => .inr hk)).trans (HF2.out.mono (fun k hk => .inl hk))⟩
    · have hei : ¬ (e2 : Int) = 0 := by omega
      have hR3 : R = (e2, 0, E) := by rw [HR2.out, if_pos he]
      have HR3 := Lib.hid hR3
      clear hR3
      go_wp2
      refine bodyPost_ret (results_tmp2 rfl _ _ _) rfl ?_
      rw [HR3.out]
      exact ⟨rfl, L, H1.out, HF1.out.mono (fun k hk => .inr hk)⟩
  have q7 : (((q : Int) / 128) == 1) = false := beq_eq_false_iff_ne.2 (by omega)
  have q7p : ¬ ((q : Int) / 128) = 1 := by omega
  by_cases hq6 : 64 ≤ q
  · have q6 : (((q : Int) / 64) == 1) = true := by rw [beq_iff_eq]; omega
    have q6p : ((q : Int) / 64) = 1 := by omega
    obtain ⟨z, hz⟩ : ∃ z, z = rdp E.rest 6 := ⟨_, rfl⟩
    have hrp := nrdp_any E.rest (some ⟨gA, oA, none⟩) cr 6 w H.out.rest.rd (by have := H.out.rl; omega) (by omega) (by omega)
    rw [← hz] at hrp
    have hR2 := HR.out
    rw [if_neg hq7, ← hz] at hR2
    clear HR hz
    obtain ⟨n, k, e2⟩ := z
    simp only at hR2
    have HRP := Lib.hid hrp
    have HR2 := Lib.hid hR2
    clear hrp hR2
    go_wp2_with (fail)
    refine HRP.out.mono ?_
    rintro e w1 hh
    obtain ⟨rfl, nq, hnq⟩ := hh
    have hF1 : Frm (New w) w w1 := by rw [hnq]; exact (Frm.refl _ _).drewN _
    clear hnq
    simp only
    have h1 := H.out.fresh hF1
    have hb1 := h1.blk
    clear hy3 hy4 hpl
    have hy3 := hb1.cell 3
    simp only [List.getElem?_toArray, List.getElem?_cons_zero, List.getElem?_cons_succ] at hy3
    have hpl := hb1.lt
    have H1 := Lib.hid h1
    have HF1 := Lib.hid hF1
    have HB1 := Lib.hid hb1
    clear h1 hF1 hb1
    by_cases he : e2 = 0
    · subst he
      have hR3 := HR2.out
      rw [if_neg (by simp)] at hR3
      clear HR2
      rw [if_neg hq7, if_pos hq6] at hR3
      have HR3 := Lib.hid hR3
      clear hR3
      go_upto_region 12 with (refine wpList_delete ukeys uMo rfl rfl rfl (k := n) rfl H1.out.map (fun w2 hm2 f2 hs2 => ?_))
      have HM2 := Lib.hid hm2
      clear hm2
      simp only [Act.put]
      go_wp2_with (fail)
      refine bodyPost_ret (results_tmp2 rfl _ _ _) rfl ?_
      rw [HR3.out]
      refine ⟨rfl, delE n L, H1.out.remap (L' := delE n L) (opn' := E.opn.filter fun o => decide (o.stream ≠ n)) (by rw [entsR_del]; exact HM2.out) f2 (by rw [delE_keys n L H.out.nd]; exact H.out.nd.filter _) (fun z hz => ?_) (fun z hz => ?_) (fun o ho => ?_) (fun o ho => (List.mem_filter.1 ho).1), (HF1.out.mono (fun k hk => .inr hk)).trans (f2.mono (fun k hk => .inl (.inr hk)))⟩
      · obtain ⟨h2, h3⟩ := mem_del_ne n L H.out.nd z hz
        exact ⟨z, h2, rfl, rfl, H1.out.rows z h2, fun _ h => h⟩
      · obtain ⟨h2, h3⟩ := mem_del_ne n L H.out.nd z hz
        rw [H.out.same z h2, List.filter_filter]
        refine List.filter_congr (fun o _ => ?_)
        by_cases e : o.stream = z.1
        · simp [e, h3]
        · simp [e]
      · obtain ⟨h2, h3⟩ := List.mem_filter.1 ho
        rw [delE_keys n L H.out.nd, List.mem_filter]
        exact ⟨H.out.all o h2, h3⟩
    · have hei : ¬ (e2 : Int) = 0 := by omega
      have hR3 : R = (e2, 0, E) := by rw [HR2.out, if_pos he]
      have HR3 := Lib.hid hR3
      clear hR3
      go_wp2
      refine bodyPost_ret (results_tmp2 rfl _ _ _) rfl ?_
      rw [HR3.out]
      exact ⟨rfl, L, H1.out, HF1.out.mono (fun k hk => .inr hk)⟩
  · have q6 : (((q : Int) / 64) == 1) = false := beq_eq_false_iff_ne.2 (by omega)
    have q6p : ¬ ((q : Int) / 64) = 1 := by omega
    obtain ⟨z, hz⟩ : ∃ z, z = rdp E.rest 6 := ⟨_, rfl⟩
    have hrp := nrdp_any E.rest (some ⟨gA, oA, none⟩) cr 6 w H.out.rest.rd (by have := H.out.rl; omega) (by omega) (by omega)
    rw [← hz] at hrp
    have hR2 := HR.out
    rw [if_neg hq7, ← hz] at hR2
    clear HR hz
    obtain ⟨n, k, e2⟩ := z
    simp only at hR2
    have HRP := Lib.hid hrp
    have HR2 := Lib.hid hR2
    clear hrp hR2
    go_wp2_with (fail)
    refine HRP.out.mono ?_
    rintro e w1 hh
    obtain ⟨rfl, nq, hnq⟩ := hh
    have hF1 : Frm (New w) w w1 := by rw [hnq]; exact (Frm.refl _ _).drewN _
    clear hnq
    simp only
    have h1 := H.out.fresh hF1
    have hb1 := h1.blk
    clear hy3 hy4 hpl
    have hy3 := hb1.cell 3
    simp only [List.getElem?_toArray, List.getElem?_cons_zero, List.getElem?_cons_succ] at hy3
    have hpl := hb1.lt
    have H1 := Lib.hid h1
    have HF1 := Lib.hid hF1
    have HB1 := Lib.hid hb1
    clear h1 hF1 hb1
    by_cases he : e2 = 0
    · subst he
      have hR3 := HR2.out
      rw [if_neg (by simp)] at hR3
      clear HR2
      rw [if_neg hq7, if_neg hq6] at hR3
      have hca := ngrow_any H1.out n
      have HR3 := Lib.hid hR3
      have HCA := Lib.hid hca
      clear hR3 hca
      go_wp2_with (fail)
      refine HCA.out.mono ?_
      rintro e w2 ⟨rfl, L2, hQ2, hF2⟩
      have HQ2 := Lib.hid hQ2
      have HF2 := Lib.hid hF2
      clear hQ2 hF2
      go_wp2
      refine bodyPost_ret (results_tmp2 rfl _ _ _) rfl ?_
      rw [HR3.out]
      exact ⟨rfl, L2, HQ2.out, (HF1.out.mono (fun k hk => .inr hk)).trans (HF2.out.mono (fun k hk => .inl hk))⟩
    · have hei : ¬ (e2 : Int) = 0 := by omega
      have hR3 : R = (e2, 0, E) := by rw [HR2.out, if_pos he]
      have HR3 := Lib.hid hR3
      clear hR3
      go_wp2
      refine bodyPost_ret (results_tmp2 rfl _ _ _) rfl ?_
      rw [HR3.out]
      exact ⟨rfl, L, H1.out, HF1.out.mono (fun k hk => .inr hk)⟩
end Go.Proofs.Ytdgggjeiflllhaa.M
namespace Go.Proofs.Ytdgggjeiflllhaa.M
open Go.ChangeShapes Go.WideShapes Go.ChangeAt Go.RowKit
theorem sub_cut (A : Option Addr) (c k : Nat) (hk : k ≤ c) : Sub A c (if c = k then A else A.map (·.add k)) (c - k) := by
  refine ⟨?_, fun g off e => ?_⟩
  · split
    · rfl
    · cases A with
      | none => rfl
      | some x => simp only [M.blk, Option.map_some, Addr.add]; split <;> rfl
  · subst e
    split
    · exact ⟨off, rfl, Nat.le_refl _, by omega⟩
    · exact ⟨off + k, by simp [Addr.add_lit], by omega, by omega⟩
section
variable {X S : Nat → Prop} {w w' w2 : World} {pe g bm cr c2 : Nat} {Ar A2 : Option Addr} {L : List (Nat × Ro)} {E : Qn} {r b : Bytes}
theorem QnM.feed0 (h : QnM X w pe g bm S Ar cr L E) (hA : App (fun k => X k ∧ M.blk Ar = some k ∨ New w k) w2 5 1 A2 (E.rest.length + b.length) c2 (bvs (E.rest ++ b))) (f : Frm (fun k => X k ∧ M.blk Ar = some k ∨ New w k) w w2) (hlt : ∀ k, M.blk A2 = some k → k < w2.heap.size) (hb : E.rest.length + b.length ≤ 1099511627776) :
    QnM (fun k => X k ∨ M.blk A2 = some k) (w2.setCell ⟨pe, 4, none⟩ (.slice A2 (E.rest.length + b.length) c2)) pe g bm S A2 c2 L { E with rest := E.rest ++ b } := by
  have hl : (E.rest ++ b).length = E.rest.length + b.length := List.length_append ..
  have f2 : Frm (fun k => k = pe) w2 (w2.setCell ⟨pe, 4, none⟩ (.slice A2 (E.rest.length + b.length) c2)) := (Frm.refl (fun k => k = pe) w2).setCell (p := ⟨pe, 4, none⟩) rfl _
  have hno : ∀ k, k < w.heap.size → M.blk Ar ≠ some k → ¬ (X k ∧ M.blk Ar = some k ∨ New w k) := fun k hk hne e => by
    rcases e with e | e
    · exact hne e.2
    · unfold New at e; omega
  have hA2 : ∀ k, M.blk A2 = some k → ¬ S k ∧ k ≠ pe ∧ k ≠ bm := fun k hk => by
    rcases hA.inM k hk with e | e
    · exact h.rs k e.2
    · have e : w.heap.size ≤ k := e
      have hpe := h.low pe h.xp
      have hbm := h.low bm h.xm
      exact ⟨fun q => by have := h.low k (h.xs k q); omega, by omega, by omega⟩
  have hfar : ∀ k, k < w.heap.size → M.blk Ar ≠ some k → M.blk A2 ≠ some k := fun k hk hne e => by
    rcases hA.inM k e with q | q
    · exact hne q.2
    · unfold New at q; omega
  exact {
    blk := by have := (h.blk.keep f (hno pe (h.low pe h.xp) (fun e => (h.rs pe e).2.1 rfl))).set_ 4 (.slice A2 (E.rest.length + b.length) c2); simpa using this
    tab := (h.tab.keep f (fun k hk => hno k (h.low k (h.xs k hk)) (fun e => (h.rs k e).1 hk))).keep f2 (fun k hk e => h.ps (e ▸ hk))
    map := (h.map.keep f (hno bm (h.low bm h.xm) (fun e => (h.rs bm e).2.2 rfl))).keep f2 (fun e => h.mp e.symm)
    nd := h.nd
    rows := fun x hx => { h.rows x hx with
      app := (((h.rows x hx).app.keep f (fun k hk => hno k (h.low k ((h.rows x hx).app.inM k hk)) (h.ro x hx k hk).2.2.2)).keep f2 (fun k hk e => (h.ro x hx k hk).2.1 e)).mono (fun k hk => .inl hk)
      use_ := fun y hy => by
        obtain ⟨q1, ents, q2⟩ := (h.rows x hx).use_ y hy
        exact ⟨.inl q1, ents, { q2 with map := (q2.map.keep f (hno _ (h.low _ q1) (h.us x hx y hy).2.2.2)).keep f2 (h.us x hx y hy).2.1 }⟩ }
    same := h.same, all := h.all
    rest := by
      show App _ _ _ 1 A2 (E.rest ++ b).length c2 (bvs (E.rest ++ b))
      rw [hl]
      have h1 := hA.keep f2 (fun k hk e => (hA2 k hk).2.1 e)
      exact { h1 with
        inM := fun k hk => .inr hk
        own := fun hc => by
          obtain ⟨gg, off, cur, a, b2, d, m⟩ := h1.own hc
          exact ⟨gg, off, cur, a, b2, d, .inr (by rw [a]; rfl)⟩ }
    low := fun k hk => by
      have hs := f.size
      rcases hk with hk | hk
      · have := h.low k hk; simp; omega
      · have := hlt k hk; simp; omega
    xp := .inl h.xp, xm := .inl h.xm, xs := fun k hk => .inl (h.xs k hk), ps := h.ps, ms := h.ms, mp := h.mp, rs := hA2
    ro := fun x hx k hk => ⟨(h.ro x hx k hk).1, (h.ro x hx k hk).2.1, (h.ro x hx k hk).2.2.1, hfar k (h.low k ((h.rows x hx).app.inM k hk)) (h.ro x hx k hk).2.2.2⟩
    us := fun x hx y hy => ⟨(h.us x hx y hy).1, (h.us x hx y hy).2.1, (h.us x hx y hy).2.2.1, hfar _ (h.low _ ((h.rows x hx).use_ y hy).1) (h.us x hx y hy).2.2.2⟩
    rr := h.rr, ok := h.ok, cap := h.cap, nb := h.nb, kn := h.kn, ctn := h.ctn, bl := h.bl
    rl := by show (E.rest ++ b).length ≤ _; rw [hl]; exact hb }
theorem QnM.cutrest (h : QnM X w pe g bm S Ar cr L E) (k : Nat) (hk : k ≤ E.rest.length) : ∃ A2, (if cr = k then Ar else Ar.map (·.add k)) = A2 ∧ QnM X (w.setCell ⟨pe, 4, none⟩ (.slice A2 (E.rest.length - k) (cr - k))) pe g bm S A2 (cr - k) L { E with rest := E.rest.drop k } := by
  have hc := h.rest.cap
  obtain ⟨A2, h1, h2⟩ := h.rest.rd.from_ hc k
  refine ⟨A2, h1, ?_⟩
  have hs := sub_cut Ar cr k (by omega)
  rw [h1] at hs
  have f : Frm (fun k => k = pe) w (w.setCell ⟨pe, 4, none⟩ (.slice A2 (E.rest.length - k) (cr - k))) := (Frm.refl (fun k => k = pe) w).setCell (p := ⟨pe, 4, none⟩) rfl _
  have hkk := h.rows_keep f (fun k hk => .inl hk)
  have hnp : ∀ j, M.blk Ar = some j → ¬ j = pe := fun j hj e => (h.rs j hj).2.1 e
  have hl : (E.rest.drop k).length = E.rest.length - k := List.length_drop ..
  exact { h with
    blk := by have := h.blk.set_ 4 (.slice A2 (E.rest.length - k) (cr - k)); rw [← hl] at this ⊢; simpa using this
    tab := hkk.2, rows := hkk.1
    map := h.map.keep f (fun e => h.mp e.symm)
    rest := App.sub (X2 := X) h.rest hs (by omega) (h2.keep f (fun j hj => hnp j (by rw [← hs.1]; exact hj))) (by rw [bvs_length]) (by show (E.rest.drop k).length ≤ _; omega) (fun j hj => f.block j (hnp j hj)) (fun j hj => h.rest.inM j hj)
    low := fun k hk => Nat.lt_of_lt_of_le (h.low k hk) f.size
    rs := fun j hj => h.rs j (by rw [← hs.1]; exact hj)
    ro := fun x hx j hj => ⟨(h.ro x hx j hj).1, (h.ro x hx j hj).2.1, (h.ro x hx j hj).2.2.1, by rw [hs.1]; exact (h.ro x hx j hj).2.2.2⟩
    us := fun x hx y hy => ⟨(h.us x hx y hy).1, (h.us x hx y hy).2.1, (h.us x hx y hy).2.2.1, by rw [hs.1]; exact (h.us x hx y hy).2.2.2⟩
    rl := by show (E.rest.drop k).length ≤ _; have := h.rl; omega }
end
theorem ins_rest (E : Qn) (r0 r : Bytes) : ({ E with rest := r0 } : Qn).ins r = ((E.ins r).1, (E.ins r).2.1, { (E.ins r).2.2 with rest := r0 }) := by
  rw [ins_eq, ins_eq]
  generalize rdp r (if 128 ≤ (r.headD 0).toNat then 7 else 6) = z
  split
  · rfl
  split
  · unfold Qn.ack
    simp only
    cases ackGo z.1 E.opn <;> rfl
  split
  · rfl
  unfold Qn.grow
  simp only
  split <;> rfl
theorem ins_facts (E : Qn) (r : Bytes) : ((E.ins r).1 ≠ 0 → (E.ins r).2.2 = E) ∧ ((E.ins r).1 = 0 → 1 ≤ (E.ins r).2.1 ∧ (E.ins r).2.1 ≤ r.length) := by
  rw [ins_eq]
  have hr := rdp_range r (if 128 ≤ (r.headD 0).toNat then 7 else 6) (by split <;> decide)
  generalize rdp r (if 128 ≤ (r.headD 0).toNat then 7 else 6) = z at *
  split
  · next h => exact ⟨fun _ => rfl, fun q => absurd q h⟩
  next h =>
  have hz : z.2.2 = 0 := by simpa using h
  obtain ⟨h1, h2, _⟩ := hr hz
  split
  · unfold Qn.ack
    cases ackGo z.1 E.opn with
    | none => exact ⟨fun _ => rfl, fun q => absurd q (by simp)⟩
    | some x => exact ⟨fun q => absurd rfl q, fun _ => ⟨h1, h2⟩⟩
  split
  · exact ⟨fun q => absurd rfl q, fun _ => ⟨h1, h2⟩⟩
  unfold Qn.grow
  split
  · exact ⟨fun _ => rfl, fun q => absurd q (by simp)⟩
  · exact ⟨fun q => absurd rfl q, fun _ => ⟨h1, h2⟩⟩
theorem feedN_cons (f : Nat) (E : Qn) (r : Bytes) (h : r ≠ []) : feedN (f + 1) E r = (if (E.ins r).1 = 0 then feedN f (E.ins r).2.2 (r.drop (E.ins r).2.1) else if (E.ins r).1 = 20 then (0, { E with rest := r }) else ((E.ins r).1, { E with rest := r, err := (E.ins r).1 })) := by
  cases r with
  | nil => exact absurd rfl h
  | cons c t =>
    conv => lhs; unfold feedN
theorem feedN_nil (f : Nat) (E : Qn) : feedN f E [] = (0, { E with rest := [] }) := by cases f <;> rfl
def FdR (X : Nat → Prop) (w : World) (pe g bm : Nat) (S : Nat → Prop) (E2 : Qn) (w' : World) : Prop := ∃ (X' : Nat → Prop) (A' : Option Addr) (c' : Nat) (L' : List (Nat × Ro)), QnM X' w' pe g bm S A' c' L' E2 ∧ Frm (Own X w) w w' ∧ ∀ k, X' k → Own X w k
set_option maxRecDepth 100000 in
set_option maxHeartbeats 4000000 in
theorem nfeed_any {X S : Nat → Prop} {w : World} {pe g bm cr : Nat} {Ar : Option Addr} {L : List (Nat × Ro)} {E : Qn} (h : QnM X w pe g bm S Ar cr L E) (b : Bytes) (A0 : Option Addr) (c0 : Nat) (hR : Rd w A0 (bvs b)) (hlen : E.rest.length + b.length ≤ 1099511627776) :
    Calls Try.prog 18 #[.pointer (some ⟨pe, 0, none⟩), .slice A0 b.length c0] w fun e w' => e = .returned (.int .i64 ((E.feed b).1 : Nat)) ∧ FdR X w pe g bm S (E.feed b).2 w' := by
  obtain ⟨Z, hZ⟩ : ∃ Z, Z = E.feed b := ⟨_, rfl⟩
  rw [← hZ]
  unfold Qn.feed at hZ
  have hb := h.blk
  have hy4 := hb.cell 4
  have hy6 := hb.cell 6
  simp only [List.getElem?_toArray, List.getElem?_cons_zero, List.getElem?_cons_succ] at hy4 hy6
  have hpl := hb.lt
  have hz4 := hb.frozen 4
  by_cases herr : E.err = 0
  · rw [if_neg (by omega)] at hZ
    rw [herr] at hy6
    have H := Lib.hid h
    have HB := Lib.hid hb
    have HR := Lib.hid hR
    have HZ := Lib.hid hZ
    clear h hb hR hZ
    go_enter Try.func18, Try.ntmps18
    have hup : Up (fun k => X k ∧ M.blk Ar = some k ∨ New w k) w := fun k hk => .inr hk
    have happ : App (fun k => X k ∧ M.blk Ar = some k ∨ New w k) w 5 1 Ar E.rest.length cr (bvs E.rest) :=
      { H.out.rest with
        inM := fun k hk => .inl ⟨H.out.rest.inM k hk, hk⟩
        own := fun hc => by
          obtain ⟨gg, off, cur, a, b2, d, m⟩ := H.out.rest.own hc
          exact ⟨gg, off, cur, a, b2, d, .inl ⟨m, by rw [a]; rfl⟩⟩ }
    have hnp : ¬ (X pe ∧ M.blk Ar = some pe ∨ New w pe) := fun e => by
      rcases e with e | e
      · exact (H.out.rs pe e.2).2.1 rfl
      · unfold New at e; omega
    have HUP := Lib.hid hup
    have HAPP := Lib.hid happ
    have HNP := Lib.hid hnp
    clear hup happ hnp
    go_upto_region 4 with (refine wpList_append u8s rfl rfl rfl HAPP.out HUP.out rfl HR.out (by rw [bvs_length, Nat.mul_one]) (bvs_one _) (by omega) ?_; intro A2 c2 w2 hA2 hF2 hblk _; have hz2 := (hF2.frozen (p := ⟨pe, 4, none⟩) HNP.out).trans hz4; have hl2 := Nat.lt_of_lt_of_le hpl hF2.size; have hy2 := (hF2.cell (p := ⟨pe, 4, none⟩) HNP.out).trans hy4)
    have hlt : ∀ k, M.blk A2 = some k → k < w2.heap.size := fun k hk => by
      rcases hblk with ⟨e, _⟩ | ⟨e, hm⟩
      · exact Nat.lt_of_lt_of_le (H.out.low k (H.out.rest.inM k (e ▸ hk))) hF2.size
      · obtain ⟨g9, o9, rfl, hl9⟩ := hA2.rd.lt (by intro e2; have := congrArg List.length e2; rw [List.length_append, bvs_length, bvs_length] at this; simp only [List.length_nil] at this; omega)
        cases hk
        exact hl9
    rw [← bvs_append] at hA2
    have hQ := H.out.feed0 hA2 hF2 hlt hlen
    have hin := hA2.inM
    have hF5 : Frm (Own X w) w (w2.setCell ⟨pe, 4, none⟩ (.slice A2 (E.rest.length + b.length) c2)) := (hF2.mono (fun k hk => by
      rcases hk with hk | hk
      · exact .inl hk.1
      · exact .inr hk)).setCell (p := ⟨pe, 4, none⟩) (.inl H.out.xp) _
    have hsub : ∀ k, (X k ∨ M.blk A2 = some k) → Own X w k := fun k hk => by
      rcases hk with hk | hk
      · exact .inl hk
      · rcases hin k hk with hk | hk
        · exact .inl hk.1
        · exact .inr hk
    clear hA2 hF2 hlt hblk hin hy2 hz2 hl2 HUP HAPP HNP hy4 hy6 hpl hz4 HB HR
    generalize w2.setCell ⟨pe, 4, none⟩ (.slice A2 (E.rest.length + b.length) c2) = w5 at *
    generalize hr0 : E.rest ++ b = r0 at *
    have HQ := Lib.hid hQ
    have HF5 := Lib.hid hF5
    have HSUB := Lib.hid hsub
    have HR0 := Lib.hid hr0
    clear hQ hF5 hsub hr0
    go_wp2
    go_loopg [] r0.length (fun kk wx => ∃ (fu : Nat) (E2 : Qn) (r : Bytes) (A' : Option Addr) (c' : Nat) (X1 : Nat → Prop) (L1 : List (Nat × Ro)), r.length ≤ kk ∧ r.length ≤ fu ∧ Hid (Z = feedN fu E2 r) ∧ Hid (QnM X1 wx pe g bm S A' c' L1 { E2 with rest := r }) ∧ Hid (Frm (Own X w) w wx) ∧ Hid (∀ k, X1 k → Own X w k))
    case atStart => exact ⟨r0.length, E, r0, A2, c2, _, L, Nat.le_refl _, Nat.le_refl _, HZ, HQ, HF5, HSUB⟩
    case round =>
      clear HQ HF5 HSUB HZ
      obtain ⟨fu, E2, r, A', c', X1, L1, hkk, hfu, hE, hQ, hF, hsub⟩ := hrel
      rename World => wx
      have hb := hQ.out.blk
      simp only at hb
      have hy4 := hb.cell 4
      simp only [List.getElem?_toArray, List.getElem?_cons_zero, List.getElem?_cons_succ] at hy4
      have hl := hb.lt
      cases r with
      | nil =>
        rw [feedN_nil] at hE
        rw [show ([] : Bytes).length = 0 from rfl] at hy4
        have HB := Lib.hid hb
        clear hb
        go_wp2
        go_ret
        rw [hE.out]
        exact ⟨rfl, X1, A', c', L1, hQ.out, hF.out, hsub.out⟩
      | cons q0 qt =>
        have hne : q0 :: qt ≠ [] := by simp
        have hlr : 0 < (q0 :: qt).length := by simp
        generalize q0 :: qt = r at *
        have hlri : (0 : Int) < (r.length : Int) := by omega
        obtain ⟨fu, rfl⟩ : ∃ f, fu = f + 1 := ⟨fu - 1, by omega⟩
        have hE2 := hE.out
        rw [feedN_cons _ _ _ hne] at hE2
        have hca := nins_any hQ.out hne
        have hfa := ins_facts E2 r
        rw [ins_rest] at hca
        simp only at hca
        generalize E2.ins r = x at *
        obtain ⟨x1, k1, E3⟩ := x
        simp only at hE2 hfa hca
        obtain ⟨r1, hr1⟩ : ∃ r1, r1 = r.drop k1 := ⟨_, rfl⟩
        rw [← hr1] at hE2
        clear hE
        have HCA := Lib.hid hca
        have HE2 := Lib.hid hE2
        have HB := Lib.hid hb
        have HFA := Lib.hid hfa
        have HR1 := Lib.hid hr1
        clear hca hE2 hb hfa hr1
        go_wp2_with (fail)
        refine HCA.out.mono ?_
        rintro e w6 ⟨rfl, L6, hQ6, hF6⟩
        have hF06 : Frm (Own X w) w w6 := hF.out.trans (hF6.mono (fun k hk => by
          rcases hk with (hk | hk) | hk
          · exact hsub.out k (hk ▸ hQ.out.xp)
          · exact hsub.out k (hk ▸ hQ.out.xm)
          · exact .inr (Nat.le_trans hF.out.size hk)))
        have hb6 := hQ6.blk
        simp only at hb6
        clear hy4 hl hF6
        have hy4 := hb6.cell 4
        have hy6 := hb6.cell 6
        simp only [List.getElem?_toArray, List.getElem?_cons_zero, List.getElem?_cons_succ] at hy4 hy6
        have hz4 := hb6.frozen 4
        have hz6 := hb6.frozen 6
        have hl := hb6.lt
        by_cases hx0 : x1 = 0
        · subst hx0
          have hE3 : Z = feedN fu E3 r1 := by rw [HE2.out, if_pos rfl]
          obtain ⟨hk1, hk2⟩ := HFA.out.2 rfl
          have hdl : r1.length = r.length - k1 := by rw [HR1.out, List.length_drop]
          obtain ⟨A7, hA7, hQ7⟩ := hQ6.cutrest k1 hk2
          simp only at hQ7
          rw [← HR1.out] at hQ7
          have hF7 : Frm (Own X w) w (w6.setCell ⟨pe, 4, none⟩ (.slice A7 (r.length - k1) (c' - k1))) := hF06.setCell (p := ⟨pe, 4, none⟩) (hsub.out pe hQ.out.xp) _
          have HE3 := Lib.hid hE3
          have HQ7 := Lib.hid hQ7
          have HF7 := Lib.hid hF7
          have HQ6 := Lib.hid hQ6
          have HF06 := Lib.hid hF06
          have HB6 := Lib.hid hb6
          have HA7 := Lib.hid hA7
          have HDL := Lib.hid hdl
          clear hE3 hQ7 hF7 hQ6 hF06 hb6 hA7 hdl
          clear HE2 HFA
          go_wp2_with (refine wpList_val rfl (.slice A7 (r.length - k1) (c' - k1)) (by rw [← HA7.out]; exact run_from rfl rfl rfl rfl hk2) ?_)
          go_roundg (gk - 1)
          case measure => omega
          case rel => exact ⟨fu, E3, r1, A7, c' - k1, X1, L6, by have := HDL.out; omega, by have := HDL.out; omega, HE3, HQ7, HF7, hsub⟩
        · have hx0i : ¬ (x1 : Int) = 0 := by omega
          have hEE := HFA.out.1 hx0
          subst hEE
          by_cases hx20 : x1 = 20
          · subst hx20
            have hE3 : Z = (0, { E3 with rest := r }) := by rw [HE2.out, if_neg (by omega), if_pos rfl]
            have HE3 := Lib.hid hE3
            have HQ6 := Lib.hid hQ6
            have HF06 := Lib.hid hF06
            have HB6 := Lib.hid hb6
            clear hE3 hQ6 hF06 hb6
            clear HE2 HFA
            go_wp2
            go_ret
            rw [HE3.out]
            exact ⟨rfl, X1, A', c', L6, HQ6.out, HF06.out, hsub.out⟩
          · have hx20i : ¬ (x1 : Int) = 20 := by omega
            have hE3 : Z = (x1, { E3 with rest := r, err := x1 }) := by rw [HE2.out, if_neg hx0, if_neg hx20]
            have hQ7 := hQ6.seterr x1
            have hF7 : Frm (Own X w) w (w6.setCell ⟨pe, 6, none⟩ (.int .i64 (x1 : Int))) := hF06.setCell (p := ⟨pe, 6, none⟩) (hsub.out pe hQ.out.xp) _
            have HE3 := Lib.hid hE3
            have HQ7 := Lib.hid hQ7
            have HF7 := Lib.hid hF7
            have HQ6 := Lib.hid hQ6
            have HF06 := Lib.hid hF06
            have HB6 := Lib.hid hb6
            clear hE3 hQ7 hF7 hQ6 hF06 hb6
            clear HE2 HFA
            go_wp2
            go_ret
            rw [HE3.out]
            exact ⟨rfl, X1, A', c', L6, HQ7.out, HF7.out, hsub.out⟩
  · rw [if_pos herr] at hZ
    have herri : ¬ (E.err : Int) = 0 := by omega
    have H := Lib.hid h
    have HB := Lib.hid hb
    have HR := Lib.hid hR
    have HZ := Lib.hid hZ
    clear h hb hR hZ
    go_enter Try.func18, Try.ntmps18
    go_wp2
    go_ret
    rw [HZ.out]
    exact ⟨rfl, X, Ar, cr, L, H.out, Frm.refl _ _, fun k hk => .inl hk⟩
def Qn.new (cap blk : Nat) : Qn := ⟨⟨[], 0, cap⟩, blk, 0, [], [], false, 0⟩
theorem nnew_end {w w2 : World} {S : Nat → Prop} {g a b0 c b : Nat} {v : Int} (hT : TabAt S w2 g [] 0 c none 0 a b0 [] []) (hF : Frm (New w) w w2) (hS : ∀ k, S k → w.heap.size ≤ k) (hv : v = (b : Int)) (hle : c ≤ 4096) (hbl : b ≤ 9223372036854775807) :
    ∃ (X : Nat → Prop) (pe g' bm : Nat) (S' : Nat → Prop), Ending.returned (.pointer (some ⟨w2.heap.size + 1, 0, none⟩)) = .returned (.pointer (some ⟨pe, 0, none⟩)) ∧ QnM X ((w2.alloc (Obj.map #[] 0)).alloc (Obj.cells #[.pointer (some ⟨g, 0, none⟩), .int .i64 v, .int .u64 0, .map (some w2.heap.size), .slice none 0 0, .bool false, .int .i64 0] 75)) pe g' bm S' none 0 [] (Qn.new c b) ∧
      Frm (New w) w ((w2.alloc (Obj.map #[] 0)).alloc (Obj.cells #[.pointer (some ⟨g, 0, none⟩), .int .i64 v, .int .u64 0, .map (some w2.heap.size), .slice none 0 0, .bool false, .int .i64 0] 75)) ∧ ∀ k, X k → w.heap.size ≤ k := by
  subst hv
  have hs := hF.size
  have f1 : Frm (New w2) w2 (w2.alloc (Obj.map #[] 0)) := (Frm.refl _ _).alloc Up.new _
  have hm := MapIs.new w2 ukey
  have hsz : (w2.alloc (Obj.map #[] 0)).heap.size = w2.heap.size + 1 := by simp
  have hT1 := hT.fresh f1
  generalize w2.alloc (Obj.map #[] 0) = w3 at *
  have f2 := (Frm.refl (New w3) w3).alloc Up.new (Obj.cells #[.pointer (some ⟨g, 0, none⟩), .int .i64 (b : Int), .int .u64 0, .map (some w2.heap.size), .slice none 0 0, .bool false, .int .i64 0] 75)
  have hb := Blk.new w3 75 #[.pointer (some ⟨g, 0, none⟩), .int .i64 (b : Int), .int .u64 0, .map (some w2.heap.size), .slice none 0 0, .bool false, .int .i64 0]
  rw [hsz] at hb
  have hsz2 : (w3.alloc (Obj.cells #[.pointer (some ⟨g, 0, none⟩), .int .i64 (b : Int), .int .u64 0, .map (some w2.heap.size), .slice none 0 0, .bool false, .int .i64 0] 75)).heap.size = w2.heap.size + 2 := by simp [hsz]
  refine ⟨fun k => S k ∨ k = w2.heap.size ∨ k = w2.heap.size + 1, _, g, w2.heap.size, S, rfl, ?_, (hF.then_new Up.new f1).then_new Up.new f2, fun k hk => ?_⟩
  · exact {
      blk := hb
      tab := ⟨none, 0, a, b0, [], [], hT1.fresh f2⟩
      map := hm.fresh f2
      nd := List.nodup_nil
      rows := fun x hx => (by cases hx), same := fun x hx => (by cases hx), all := fun x hx => (by cases hx)
      rest := App.none_
      low := fun k hk => by
        rw [hsz2]
        rcases hk with hk | hk | hk
        · have := hT.low k hk; omega
        · omega
        · omega
      xp := .inr (.inr rfl), xm := .inr (.inl rfl), xs := fun k hk => .inl hk
      ps := fun hk => by have := hT.low _ hk; omega
      ms := fun hk => by have := hT.low _ hk; omega
      mp := by omega
      rs := fun k hk => (by cases hk), ro := fun x hx => (by cases hx), us := fun x hx => (by cases hx), rr := List.Pairwise.nil
      ok := ⟨Nat.le_refl _, Nat.zero_le _⟩, cap := hle, nb := Nat.zero_le _, kn := Nat.zero_le _, ctn := fun o ho => (by cases ho), bl := hbl, rl := Nat.zero_le _ }
  · rcases hk with hk | hk | hk
    · exact hS k hk
    · omega
    · omega
set_option maxRecDepth 100000 in
set_option maxHeartbeats 1000000 in
theorem nnew_any (n k : Int) (n0 : -9223372036854775808 ≤ n) (n1 : n ≤ 9223372036854775807) (k0 : -9223372036854775808 ≤ k) (k1 : k ≤ 9223372036854775807) (w : World) :
    Calls Try.prog 11 #[.int .i64 n, .int .i64 k] w fun e w' => ∃ (X : Nat → Prop) (pe g bm : Nat) (S : Nat → Prop), e = .returned (.pointer (some ⟨pe, 0, none⟩)) ∧ QnM X w' pe g bm S none 0 [] (Qn.new (lim n) (max k 0).toNat) ∧ Frm (New w) w w' ∧ ∀ k, X k → w.heap.size ≤ k := by
  have hl : ((lim n : Nat) : Int) = min (max n 0) 4096 := by unfold lim; omega
  have hm : ((max k 0).toNat : Int) = max k 0 := by omega
  have hle := lim_le n
  have hbl : (max k 0).toNat ≤ 9223372036854775807 := by omega
  generalize lim n = c at *
  generalize (max k 0).toNat = b at *
  have hnw : ∀ (u : Int) (w : World), u = (c : Int) → Calls Try.prog 39 #[.int .i64 u] w fun e w' => ∃ (S : Nat → Prop) (g a b : Nat), e = .returned (.pointer (some ⟨g, 0, none⟩)) ∧ TabAt S w' g [] 0 c none 0 a b [] [] ∧ Frm (New w) w w' ∧ ∀ k, S k → w.heap.size ≤ k := fun u w hu => by
    subst hu
    exact tnew_any c (by omega) w
  have HL := Lib.hid hl
  have HM := Lib.hid hm
  have HLE := Lib.hid hle
  have HBL := Lib.hid hbl
  have HNW := Lib.hid hnw
  clear hl hm hle hbl hnw
  go_enter Try.func11, Try.ntmps11
  go_wp2_with (fail)
  all_goals
    refine (HNW.out _ _ (by have := HL.out; omega)).mono ?_
    rintro e w2 ⟨S, g, a, b', rfl, hT, hF, hS⟩
    have HT := Lib.hid hT
    have HF := Lib.hid hF
    have HS := Lib.hid hS
    clear hT hF hS
    go_wp2_with (fail)
  all_goals rw [run_makeMap]
  all_goals go_wp2_with (fail)
  all_goals go_ret
  all_goals exact nnew_end HT.out HF.out HS.out (by have := HM.out; omega) HLE.out HBL.out
section
variable {X S : Nat → Prop} {w : World} {pe g bm cr : Nat} {Ar : Option Addr} {L : List (Nat × Ro)} {E : Qn}
set_option maxRecDepth 100000 in
set_option maxHeartbeats 1000000 in
theorem nknown_any (h : QnM X w pe g bm S Ar cr L E) : Calls Try.prog 20 #[.pointer (some ⟨pe, 0, none⟩)] w fun e w' => e = .returned (.int .u64 (E.known : Int)) ∧ w' = w := by
  have hb := h.blk
  have hy2 := hb.cell 2
  simp only [List.getElem?_toArray, List.getElem?_cons_zero, List.getElem?_cons_succ] at hy2
  have hl := hb.lt
  clear hb h
  go_enter Try.func20, Try.ntmps20
  go_wp2
  go_ret
  exact ⟨rfl, rfl⟩
set_option maxRecDepth 100000 in
set_option maxHeartbeats 1000000 in
theorem ntable_any (h : QnM X w pe g bm S Ar cr L E) : Calls Try.prog 37 #[.pointer (some ⟨pe, 0, none⟩)] w fun e w' => e = .returned (.pointer (some ⟨g, 0, none⟩)) ∧ w' = w := by
  have hb := h.blk
  have hy0 := hb.cell 0
  simp only [List.getElem?_toArray, List.getElem?_cons_zero] at hy0
  have hl := hb.lt
  clear hb h
  go_enter Try.func37, Try.ntmps37
  go_wp2
  go_ret
  exact ⟨rfl, rfl⟩
end
end Go.Proofs.Ytdgggjeiflllhaa.M

