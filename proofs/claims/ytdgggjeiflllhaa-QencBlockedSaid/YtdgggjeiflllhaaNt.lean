/- qenc: Feed, New, Known, Table. -/
import Derived.BigQuiet
import Derived.Deep.CutBlock
import Derived.Lib.Hide
import Derived.IntWalk
import Derived.StillTailTactics
import Derived.Deep.LoopGhost
import Derived.Test.YtdgggjeiflllhaaNs
namespace Go.Proofs.Ytdgggjeiflllhaa.M
open Go.ChangeShapes Go.WideShapes Go.ChangeAt Go.RowKit

theorem sub_cut (A : Option Addr) (c k : Nat) (hk : k ≤ c) : Sub A c (if c = k then A else A.map (·.add k)) (c - k) := by
  refine ⟨?_, fun g off e => ?_⟩
  · split
    · rfl
    · cases A with
      | none => rfl
      | some x => simp only [M.blk, Option.map_some, Addr.add]; split <;> rfl
  · subst e
    split
    · exact ⟨off, rfl, Nat.le_refl _, by omega⟩
    · exact ⟨off + k, by simp [Addr.add_lit], by omega, by omega⟩
section
variable {X S : Nat → Prop} {w w' w2 : World} {pe g bm cr c2 : Nat} {Ar A2 : Option Addr} {L : List (Nat × Ro)} {E : Qn} {r b : Bytes}
/-- bytes came: the rest is longer -/
theorem QnM.feed0 (h : QnM X w pe g bm S Ar cr L E) (hA : App (fun k => X k ∧ M.blk Ar = some k ∨ New w k) w2 5 1 A2 (E.rest.length + b.length) c2 (bvs (E.rest ++ b))) (f : Frm (fun k => X k ∧ M.blk Ar = some k ∨ New w k) w w2) (hlt : ∀ k, M.blk A2 = some k → k < w2.heap.size) (hb : E.rest.length + b.length ≤ 1099511627776) :
    QnM (fun k => X k ∨ M.blk A2 = some k) (w2.setCell ⟨pe, 4, none⟩ (.slice A2 (E.rest.length + b.length) c2)) pe g bm S A2 c2 L { E with rest := E.rest ++ b } := by
  have hl : (E.rest ++ b).length = E.rest.length + b.length := List.length_append ..
  have f2 : Frm (fun k => k = pe) w2 (w2.setCell ⟨pe, 4, none⟩ (.slice A2 (E.rest.length + b.length) c2)) := (Frm.refl (fun k => k = pe) w2).setCell (p := ⟨pe, 4, none⟩) rfl _
  have hno : ∀ k, k < w.heap.size → M.blk Ar ≠ some k → ¬ (X k ∧ M.blk Ar = some k ∨ New w k) := fun k hk hne e => by
    rcases e with e | e
    · exact hne e.2
    · unfold New at e; omega
  have hA2 : ∀ k, M.blk A2 = some k → ¬ S k ∧ k ≠ pe ∧ k ≠ bm := fun k hk => by
    rcases hA.inM k hk with e | e
    · exact h.rs k e.2
    · have e : w.heap.size ≤ k := e
      have hpe := h.low pe h.xp
      have hbm := h.low bm h.xm
      exact ⟨fun q => by have := h.low k (h.xs k q); omega, by omega, by omega⟩
  have hfar : ∀ k, k < w.heap.size → M.blk Ar ≠ some k → M.blk A2 ≠ some k := fun k hk hne e => by
    rcases hA.inM k e with q | q
    · exact hne q.2
    · unfold New at q; omega
  exact {
    blk := by have := (h.blk.keep f (hno pe (h.low pe h.xp) (fun e => (h.rs pe e).2.1 rfl))).set_ 4 (.slice A2 (E.rest.length + b.length) c2); simpa using this
    tab := (h.tab.keep f (fun k hk => hno k (h.low k (h.xs k hk)) (fun e => (h.rs k e).1 hk))).keep f2 (fun k hk e => h.ps (e ▸ hk))
    map := (h.map.keep f (hno bm (h.low bm h.xm) (fun e => (h.rs bm e).2.2 rfl))).keep f2 (fun e => h.mp e.symm)
    nd := h.nd
    rows := fun x hx => { h.rows x hx with
      app := (((h.rows x hx).app.keep f (fun k hk => hno k (h.low k ((h.rows x hx).app.inM k hk)) (h.ro x hx k hk).2.2.2)).keep f2 (fun k hk e => (h.ro x hx k hk).2.1 e)).mono (fun k hk => .inl hk)
      use_ := fun y hy => by
        obtain ⟨q1, ents, q2⟩ := (h.rows x hx).use_ y hy
        exact ⟨.inl q1, ents, { q2 with map := (q2.map.keep f (hno _ (h.low _ q1) (h.us x hx y hy).2.2.2)).keep f2 (h.us x hx y hy).2.1 }⟩ }
    same := h.same, all := h.all
    rest := by
      show App _ _ _ 1 A2 (E.rest ++ b).length c2 (bvs (E.rest ++ b))
      rw [hl]
      have h1 := hA.keep f2 (fun k hk e => (hA2 k hk).2.1 e)
      exact { h1 with
        inM := fun k hk => .inr hk
        own := fun hc => by
          obtain ⟨gg, off, cur, a, b2, d, m⟩ := h1.own hc
          exact ⟨gg, off, cur, a, b2, d, .inr (by rw [a]; rfl)⟩ }
    low := fun k hk => by
      have hs := f.size
      rcases hk with hk | hk
      · have := h.low k hk; simp; omega
      · have := hlt k hk; simp; omega
    xp := .inl h.xp, xm := .inl h.xm, xs := fun k hk => .inl (h.xs k hk), ps := h.ps, ms := h.ms, mp := h.mp, rs := hA2
    ro := fun x hx k hk => ⟨(h.ro x hx k hk).1, (h.ro x hx k hk).2.1, (h.ro x hx k hk).2.2.1, hfar k (h.low k ((h.rows x hx).app.inM k hk)) (h.ro x hx k hk).2.2.2⟩
    us := fun x hx y hy => ⟨(h.us x hx y hy).1, (h.us x hx y hy).2.1, (h.us x hx y hy).2.2.1, hfar _ (h.low _ ((h.rows x hx).use_ y hy).1) (h.us x hx y hy).2.2.2⟩
    rr := h.rr, ok := h.ok, cap := h.cap, nb := h.nb, kn := h.kn, ctn := h.ctn, bl := h.bl
    rl := by show (E.rest ++ b).length ≤ _; rw [hl]; exact hb }
/-- some bytes are done -/
theorem QnM.cutrest (h : QnM X w pe g bm S Ar cr L E) (k : Nat) (hk : k ≤ E.rest.length) : ∃ A2, (if cr = k then Ar else Ar.map (·.add k)) = A2 ∧ QnM X (w.setCell ⟨pe, 4, none⟩ (.slice A2 (E.rest.length - k) (cr - k))) pe g bm S A2 (cr - k) L { E with rest := E.rest.drop k } := by
  have hc := h.rest.cap
  obtain ⟨A2, h1, h2⟩ := h.rest.rd.from_ hc k
  refine ⟨A2, h1, ?_⟩
  have hs := sub_cut Ar cr k (by omega)
  rw [h1] at hs
  have f : Frm (fun k => k = pe) w (w.setCell ⟨pe, 4, none⟩ (.slice A2 (E.rest.length - k) (cr - k))) := (Frm.refl (fun k => k = pe) w).setCell (p := ⟨pe, 4, none⟩) rfl _
  have hkk := h.rows_keep f (fun k hk => .inl hk)
  have hnp : ∀ j, M.blk Ar = some j → ¬ j = pe := fun j hj e => (h.rs j hj).2.1 e
  have hl : (E.rest.drop k).length = E.rest.length - k := List.length_drop ..
  exact { h with
    blk := by have := h.blk.set_ 4 (.slice A2 (E.rest.length - k) (cr - k)); rw [← hl] at this ⊢; simpa using this
    tab := hkk.2, rows := hkk.1
    map := h.map.keep f (fun e => h.mp e.symm)
    rest := App.sub (X2 := X) h.rest hs (by omega) (h2.keep f (fun j hj => hnp j (by rw [← hs.1]; exact hj))) (by rw [bvs_length]) (by show (E.rest.drop k).length ≤ _; omega) (fun j hj => f.block j (hnp j hj)) (fun j hj => h.rest.inM j hj)
    low := fun k hk => Nat.lt_of_lt_of_le (h.low k hk) f.size
    rs := fun j hj => h.rs j (by rw [← hs.1]; exact hj)
    ro := fun x hx j hj => ⟨(h.ro x hx j hj).1, (h.ro x hx j hj).2.1, (h.ro x hx j hj).2.2.1, by rw [hs.1]; exact (h.ro x hx j hj).2.2.2⟩
    us := fun x hx y hy => ⟨(h.us x hx y hy).1, (h.us x hx y hy).2.1, (h.us x hx y hy).2.2.1, by rw [hs.1]; exact (h.us x hx y hy).2.2.2⟩
    rl := by show (E.rest.drop k).length ≤ _; have := h.rl; omega }
end
/-- an instruction says nothing of what waits -/
theorem ins_rest (E : Qn) (r0 r : Bytes) : ({ E with rest := r0 } : Qn).ins r = ((E.ins r).1, (E.ins r).2.1, { (E.ins r).2.2 with rest := r0 }) := by
  rw [ins_eq, ins_eq]
  generalize rdp r (if 128 ≤ (r.headD 0).toNat then 7 else 6) = z
  split
  · rfl
  split
  · unfold Qn.ack
    simp only
    cases ackGo z.1 E.opn <;> rfl
  split
  · rfl
  unfold Qn.grow
  simp only
  split <;> rfl
theorem ins_facts (E : Qn) (r : Bytes) : ((E.ins r).1 ≠ 0 → (E.ins r).2.2 = E) ∧ ((E.ins r).1 = 0 → 1 ≤ (E.ins r).2.1 ∧ (E.ins r).2.1 ≤ r.length) := by
  rw [ins_eq]
  have hr := rdp_range r (if 128 ≤ (r.headD 0).toNat then 7 else 6) (by split <;> decide)
  generalize rdp r (if 128 ≤ (r.headD 0).toNat then 7 else 6) = z at *
  split
  · next h => exact ⟨fun _ => rfl, fun q => absurd q h⟩
  next h =>
  have hz : z.2.2 = 0 := by simpa using h
  obtain ⟨h1, h2, _⟩ := hr hz
  split
  · unfold Qn.ack
    cases ackGo z.1 E.opn with
    | none => exact ⟨fun _ => rfl, fun q => absurd q (by simp)⟩
    | some x => exact ⟨fun q => absurd rfl q, fun _ => ⟨h1, h2⟩⟩
  split
  · exact ⟨fun q => absurd rfl q, fun _ => ⟨h1, h2⟩⟩
  unfold Qn.grow
  split
  · exact ⟨fun _ => rfl, fun q => absurd q (by simp)⟩
  · exact ⟨fun q => absurd rfl q, fun _ => ⟨h1, h2⟩⟩
theorem feedN_cons (f : Nat) (E : Qn) (r : Bytes) (h : r ≠ []) : feedN (f + 1) E r = (if (E.ins r).1 = 0 then feedN f (E.ins r).2.2 (r.drop (E.ins r).2.1) else if (E.ins r).1 = 20 then (0, { E with rest := r }) else ((E.ins r).1, { E with rest := r, err := (E.ins r).1 })) := by
  cases r with
  | nil => exact absurd rfl h
  | cons c t =>
    conv => lhs; unfold feedN
theorem feedN_nil (f : Nat) (E : Qn) : feedN f E [] = (0, { E with rest := [] }) := by cases f <;> rfl
def FdR (X : Nat → Prop) (w : World) (pe g bm : Nat) (S : Nat → Prop) (E2 : Qn) (w' : World) : Prop := ∃ (X' : Nat → Prop) (A' : Option Addr) (c' : Nat) (L' : List (Nat × Ro)), QnM X' w' pe g bm S A' c' L' E2 ∧ Frm (Own X w) w w' ∧ ∀ k, X' k → Own X w k
set_option maxRecDepth 100000 in
set_option maxHeartbeats 4000000 in
theorem nfeed_any {X S : Nat → Prop} {w : World} {pe g bm cr : Nat} {Ar : Option Addr} {L : List (Nat × Ro)} {E : Qn} (h : QnM X w pe g bm S Ar cr L E) (b : Bytes) (A0 : Option Addr) (c0 : Nat) (hR : Rd w A0 (bvs b)) (hlen : E.rest.length + b.length ≤ 1099511627776) :
    Calls Try.prog 18 #[.pointer (some ⟨pe, 0, none⟩), .slice A0 b.length c0] w fun e w' => e = .returned (.int .i64 ((E.feed b).1 : Nat)) ∧ FdR X w pe g bm S (E.feed b).2 w' := by
  obtain ⟨Z, hZ⟩ : ∃ Z, Z = E.feed b := ⟨_, rfl⟩
  rw [← hZ]
  unfold Qn.feed at hZ
  have hb := h.blk
  have hy4 := hb.cell 4
  have hy6 := hb.cell 6
  simp only [List.getElem?_toArray, List.getElem?_cons_zero, List.getElem?_cons_succ] at hy4 hy6
  have hpl := hb.lt
  have hz4 := hb.frozen 4
  by_cases herr : E.err = 0
  · rw [if_neg (by omega)] at hZ
    rw [herr] at hy6
    have H := Lib.hid h
    have HB := Lib.hid hb
    have HR := Lib.hid hR
    have HZ := Lib.hid hZ
    clear h hb hR hZ
    go_enter Try.func18, Try.ntmps18
    have hup : Up (fun k => X k ∧ M.blk Ar = some k ∨ New w k) w := fun k hk => .inr hk
    have happ : App (fun k => X k ∧ M.blk Ar = some k ∨ New w k) w 5 1 Ar E.rest.length cr (bvs E.rest) :=
      { H.out.rest with
        inM := fun k hk => .inl ⟨H.out.rest.inM k hk, hk⟩
        own := fun hc => by
          obtain ⟨gg, off, cur, a, b2, d, m⟩ := H.out.rest.own hc
          exact ⟨gg, off, cur, a, b2, d, .inl ⟨m, by rw [a]; rfl⟩⟩ }
    have hnp : ¬ (X pe ∧ M.blk Ar = some pe ∨ New w pe) := fun e => by
      rcases e with e | e
      · exact (H.out.rs pe e.2).2.1 rfl
      · unfold New at e; omega
    have HUP := Lib.hid hup
    have HAPP := Lib.hid happ
    have HNP := Lib.hid hnp
    clear hup happ hnp
    go_upto_region 4 with (refine wpList_append u8s rfl rfl rfl HAPP.out HUP.out rfl HR.out (by rw [bvs_length, Nat.mul_one]) (bvs_one _) (by omega) ?_; intro A2 c2 w2 hA2 hF2 hblk _; have hz2 := (hF2.frozen (p := ⟨pe, 4, none⟩) HNP.out).trans hz4; have hl2 := Nat.lt_of_lt_of_le hpl hF2.size; have hy2 := (hF2.cell (p := ⟨pe, 4, none⟩) HNP.out).trans hy4)
    have hlt : ∀ k, M.blk A2 = some k → k < w2.heap.size := fun k hk => by
      rcases hblk with ⟨e, _⟩ | ⟨e, hm⟩
      · exact Nat.lt_of_lt_of_le (H.out.low k (H.out.rest.inM k (e ▸ hk))) hF2.size
      · obtain ⟨g9, o9, rfl, hl9⟩ := hA2.rd.lt (by intro e2; have := congrArg List.length e2; rw [List.length_append, bvs_length, bvs_length] at this; simp only [List.length_nil] at this; omega)
        cases hk
        exact hl9
    rw [← bvs_append] at hA2
    have hQ := H.out.feed0 hA2 hF2 hlt hlen
    have hin := hA2.inM
    have hF5 : Frm (Own X w) w (w2.setCell ⟨pe, 4, none⟩ (.slice A2 (E.rest.length + b.length) c2)) := (hF2.mono (fun k hk => by
      rcases hk with hk | hk
      · exact .inl hk.1
      · exact .inr hk)).setCell (p := ⟨pe, 4, none⟩) (.inl H.out.xp) _
    have hsub : ∀ k, (X k ∨ M.blk A2 = some k) → Own X w k := fun k hk => by
      rcases hk with hk | hk
      · exact .inl hk
      · rcases hin k hk with hk | hk
        · exact .inl hk.1
        · exact .inr hk
    clear hA2 hF2 hlt hblk hin hy2 hz2 hl2 HUP HAPP HNP hy4 hy6 hpl hz4 HB HR
    generalize w2.setCell ⟨pe, 4, none⟩ (.slice A2 (E.rest.length + b.length) c2) = w5 at *
    generalize hr0 : E.rest ++ b = r0 at *
    have HQ := Lib.hid hQ
    have HF5 := Lib.hid hF5
    have HSUB := Lib.hid hsub
    have HR0 := Lib.hid hr0
    clear hQ hF5 hsub hr0
    go_wp2
    go_loopg [] r0.length (fun kk wx => ∃ (fu : Nat) (E2 : Qn) (r : Bytes) (A' : Option Addr) (c' : Nat) (X1 : Nat → Prop) (L1 : List (Nat × Ro)), r.length ≤ kk ∧ r.length ≤ fu ∧ Hid (Z = feedN fu E2 r) ∧ Hid (QnM X1 wx pe g bm S A' c' L1 { E2 with rest := r }) ∧ Hid (Frm (Own X w) w wx) ∧ Hid (∀ k, X1 k → Own X w k))
    case atStart => exact ⟨r0.length, E, r0, A2, c2, _, L, Nat.le_refl _, Nat.le_refl _, HZ, HQ, HF5, HSUB⟩
    case round =>
      clear HQ HF5 HSUB HZ
      obtain ⟨fu, E2, r, A', c', X1, L1, hkk, hfu, hE, hQ, hF, hsub⟩ := hrel
      rename World => wx
      have hb := hQ.out.blk
      simp only at hb
      have hy4 := hb.cell 4
      simp only [List.getElem?_toArray, List.getElem?_cons_zero, List.getElem?_cons_succ] at hy4
      have hl := hb.lt
      cases r with
      | nil =>
        rw [feedN_nil] at hE
        rw [show ([] : Bytes).length = 0 from rfl] at hy4
        have HB := Lib.hid hb
        clear hb
        go_wp2
        go_ret
        rw [hE.out]
        exact ⟨rfl, X1, A', c', L1, hQ.out, hF.out, hsub.out⟩
      | cons q0 qt =>
        have hne : q0 :: qt ≠ [] := by simp
        have hlr : 0 < (q0 :: qt).length := by simp
        generalize q0 :: qt = r at *
        have hlri : (0 : Int) < (r.length : Int) := by omega
        obtain ⟨fu, rfl⟩ : ∃ f, fu = f + 1 := ⟨fu - 1, by omega⟩
        have hE2 := hE.out
        rw [feedN_cons _ _ _ hne] at hE2
        have hca := nins_any hQ.out hne
        have hfa := ins_facts E2 r
        rw [ins_rest] at hca
        simp only at hca
        generalize E2.ins r = x at *
        obtain ⟨x1, k1, E3⟩ := x
        simp only at hE2 hfa hca
        obtain ⟨r1, hr1⟩ : ∃ r1, r1 = r.drop k1 := ⟨_, rfl⟩
        rw [← hr1] at hE2
        clear hE
        have HCA := Lib.hid hca
        have HE2 := Lib.hid hE2
        have HB := Lib.hid hb
        have HFA := Lib.hid hfa
        have HR1 := Lib.hid hr1
        clear hca hE2 hb hfa hr1
        go_wp2_with (fail)
        refine HCA.out.mono ?_
        rintro e w6 ⟨rfl, L6, hQ6, hF6⟩
        have hF06 : Frm (Own X w) w w6 := hF.out.trans (hF6.mono (fun k hk => by
          rcases hk with (hk | hk) | hk
          · exact hsub.out k (hk ▸ hQ.out.xp)
          · exact hsub.out k (hk ▸ hQ.out.xm)
          · exact .inr (Nat.le_trans hF.out.size hk)))
        have hb6 := hQ6.blk
        simp only at hb6
        clear hy4 hl hF6
        have hy4 := hb6.cell 4
        have hy6 := hb6.cell 6
        simp only [List.getElem?_toArray, List.getElem?_cons_zero, List.getElem?_cons_succ] at hy4 hy6
        have hz4 := hb6.frozen 4
        have hz6 := hb6.frozen 6
        have hl := hb6.lt
        by_cases hx0 : x1 = 0
        · subst hx0
          have hE3 : Z = feedN fu E3 r1 := by rw [HE2.out, if_pos rfl]
          obtain ⟨hk1, hk2⟩ := HFA.out.2 rfl
          have hdl : r1.length = r.length - k1 := by rw [HR1.out, List.length_drop]
          obtain ⟨A7, hA7, hQ7⟩ := hQ6.cutrest k1 hk2
          simp only at hQ7
          rw [← HR1.out] at hQ7
          have hF7 : Frm (Own X w) w (w6.setCell ⟨pe, 4, none⟩ (.slice A7 (r.length - k1) (c' - k1))) := hF06.setCell (p := ⟨pe, 4, none⟩) (hsub.out pe hQ.out.xp) _
          have HE3 := Lib.hid hE3
          have HQ7 := Lib.hid hQ7
          have HF7 := Lib.hid hF7
          have HQ6 := Lib.hid hQ6
          have HF06 := Lib.hid hF06
          have HB6 := Lib.hid hb6
          have HA7 := Lib.hid hA7
          have HDL := Lib.hid hdl
          clear hE3 hQ7 hF7 hQ6 hF06 hb6 hA7 hdl
          clear HE2 HFA
          go_wp2_with (refine wpList_val rfl (.slice A7 (r.length - k1) (c' - k1)) (by rw [← HA7.out]; exact run_from rfl rfl rfl rfl hk2) ?_)
          go_roundg (gk - 1)
          case measure => omega
          case rel => exact ⟨fu, E3, r1, A7, c' - k1, X1, L6, by have := HDL.out; omega, by have := HDL.out; omega, HE3, HQ7, HF7, hsub⟩
        · have hx0i : ¬ (x1 : Int) = 0 := by omega
          have hEE := HFA.out.1 hx0
          subst hEE
          by_cases hx20 : x1 = 20
          · subst hx20
            have hE3 : Z = (0, { E3 with rest := r }) := by rw [HE2.out, if_neg (by omega), if_pos rfl]
            have HE3 := Lib.hid hE3
            have HQ6 := Lib.hid hQ6
            have HF06 := Lib.hid hF06
            have HB6 := Lib.hid hb6
            clear hE3 hQ6 hF06 hb6
            clear HE2 HFA
            go_wp2
            go_ret
            rw [HE3.out]
            exact ⟨rfl, X1, A', c', L6, HQ6.out, HF06.out, hsub.out⟩
          · have hx20i : ¬ (x1 : Int) = 20 := by omega
            have hE3 : Z = (x1, { E3 with rest := r, err := x1 }) := by rw [HE2.out, if_neg hx0, if_neg hx20]
            have hQ7 := hQ6.seterr x1
            have hF7 : Frm (Own X w) w (w6.setCell ⟨pe, 6, none⟩ (.int .i64 (x1 : Int))) := hF06.setCell (p := ⟨pe, 6, none⟩) (hsub.out pe hQ.out.xp) _
            have HE3 := Lib.hid hE3
            have HQ7 := Lib.hid hQ7
            have HF7 := Lib.hid hF7
            have HQ6 := Lib.hid hQ6
            have HF06 := Lib.hid hF06
            have HB6 := Lib.hid hb6
            clear hE3 hQ7 hF7 hQ6 hF06 hb6
            clear HE2 HFA
            go_wp2
            go_ret
            rw [HE3.out]
            exact ⟨rfl, X1, A', c', L6, HQ7.out, HF7.out, hsub.out⟩
  · rw [if_pos herr] at hZ
    have herri : ¬ (E.err : Int) = 0 := by omega
    have H := Lib.hid h
    have HB := Lib.hid hb
    have HR := Lib.hid hR
    have HZ := Lib.hid hZ
    clear h hb hR hZ
    go_enter Try.func18, Try.ntmps18
    go_wp2
    go_ret
    rw [HZ.out]
    exact ⟨rfl, X, Ar, cr, L, H.out, Frm.refl _ _, fun k hk => .inl hk⟩
/-- an encoder at its beginning -/
def Qn.new (cap blk : Nat) : Qn := ⟨⟨[], 0, cap⟩, blk, 0, [], [], false, 0⟩
theorem nnew_end {w w2 : World} {S : Nat → Prop} {g a b0 c b : Nat} {v : Int} (hT : TabAt S w2 g [] 0 c none 0 a b0 [] []) (hF : Frm (New w) w w2) (hS : ∀ k, S k → w.heap.size ≤ k) (hv : v = (b : Int)) (hle : c ≤ 4096) (hbl : b ≤ 9223372036854775807) :
    ∃ (X : Nat → Prop) (pe g' bm : Nat) (S' : Nat → Prop), Ending.returned (.pointer (some ⟨w2.heap.size + 1, 0, none⟩)) = .returned (.pointer (some ⟨pe, 0, none⟩)) ∧ QnM X ((w2.alloc (Obj.map #[] 0)).alloc (Obj.cells #[.pointer (some ⟨g, 0, none⟩), .int .i64 v, .int .u64 0, .map (some w2.heap.size), .slice none 0 0, .bool false, .int .i64 0] 75)) pe g' bm S' none 0 [] (Qn.new c b) ∧
      Frm (New w) w ((w2.alloc (Obj.map #[] 0)).alloc (Obj.cells #[.pointer (some ⟨g, 0, none⟩), .int .i64 v, .int .u64 0, .map (some w2.heap.size), .slice none 0 0, .bool false, .int .i64 0] 75)) ∧ ∀ k, X k → w.heap.size ≤ k := by
  subst hv
  have hs := hF.size
  have f1 : Frm (New w2) w2 (w2.alloc (Obj.map #[] 0)) := (Frm.refl _ _).alloc Up.new _
  have hm := MapIs.new w2 ukey
  have hsz : (w2.alloc (Obj.map #[] 0)).heap.size = w2.heap.size + 1 := by simp
  have hT1 := hT.fresh f1
  generalize w2.alloc (Obj.map #[] 0) = w3 at *
  have f2 := (Frm.refl (New w3) w3).alloc Up.new (Obj.cells #[.pointer (some ⟨g, 0, none⟩), .int .i64 (b : Int), .int .u64 0, .map (some w2.heap.size), .slice none 0 0, .bool false, .int .i64 0] 75)
  have hb := Blk.new w3 75 #[.pointer (some ⟨g, 0, none⟩), .int .i64 (b : Int), .int .u64 0, .map (some w2.heap.size), .slice none 0 0, .bool false, .int .i64 0]
  rw [hsz] at hb
  have hsz2 : (w3.alloc (Obj.cells #[.pointer (some ⟨g, 0, none⟩), .int .i64 (b : Int), .int .u64 0, .map (some w2.heap.size), .slice none 0 0, .bool false, .int .i64 0] 75)).heap.size = w2.heap.size + 2 := by simp [hsz]
  refine ⟨fun k => S k ∨ k = w2.heap.size ∨ k = w2.heap.size + 1, _, g, w2.heap.size, S, rfl, ?_, (hF.then_new Up.new f1).then_new Up.new f2, fun k hk => ?_⟩
  · exact {
      blk := hb
      tab := ⟨none, 0, a, b0, [], [], hT1.fresh f2⟩
      map := hm.fresh f2
      nd := List.nodup_nil
      rows := fun x hx => (by cases hx), same := fun x hx => (by cases hx), all := fun x hx => (by cases hx)
      rest := App.none_
      low := fun k hk => by
        rw [hsz2]
        rcases hk with hk | hk | hk
        · have := hT.low k hk; omega
        · omega
        · omega
      xp := .inr (.inr rfl), xm := .inr (.inl rfl), xs := fun k hk => .inl hk
      ps := fun hk => by have := hT.low _ hk; omega
      ms := fun hk => by have := hT.low _ hk; omega
      mp := by omega
      rs := fun k hk => (by cases hk), ro := fun x hx => (by cases hx), us := fun x hx => (by cases hx), rr := List.Pairwise.nil
      ok := ⟨Nat.le_refl _, Nat.zero_le _⟩, cap := hle, nb := Nat.zero_le _, kn := Nat.zero_le _, ctn := fun o ho => (by cases ho), bl := hbl, rl := Nat.zero_le _ }
  · rcases hk with hk | hk | hk
    · exact hS k hk
    · omega
    · omega
set_option maxRecDepth 100000 in
set_option maxHeartbeats 1000000 in
theorem nnew_any (n k : Int) (n0 : -9223372036854775808 ≤ n) (n1 : n ≤ 9223372036854775807) (k0 : -9223372036854775808 ≤ k) (k1 : k ≤ 9223372036854775807) (w : World) :
    Calls Try.prog 11 #[.int .i64 n, .int .i64 k] w fun e w' => ∃ (X : Nat → Prop) (pe g bm : Nat) (S : Nat → Prop), e = .returned (.pointer (some ⟨pe, 0, none⟩)) ∧ QnM X w' pe g bm S none 0 [] (Qn.new (lim n) (max k 0).toNat) ∧ Frm (New w) w w' ∧ ∀ k, X k → w.heap.size ≤ k := by
  have hl : ((lim n : Nat) : Int) = min (max n 0) 4096 := by unfold lim; omega
  have hm : ((max k 0).toNat : Int) = max k 0 := by omega
  have hle := lim_le n
  have hbl : (max k 0).toNat ≤ 9223372036854775807 := by omega
  generalize lim n = c at *
  generalize (max k 0).toNat = b at *
  have hnw : ∀ (u : Int) (w : World), u = (c : Int) → Calls Try.prog 39 #[.int .i64 u] w fun e w' => ∃ (S : Nat → Prop) (g a b : Nat), e = .returned (.pointer (some ⟨g, 0, none⟩)) ∧ TabAt S w' g [] 0 c none 0 a b [] [] ∧ Frm (New w) w w' ∧ ∀ k, S k → w.heap.size ≤ k := fun u w hu => by
    subst hu
    exact tnew_any c (by omega) w
  have HL := Lib.hid hl
  have HM := Lib.hid hm
  have HLE := Lib.hid hle
  have HBL := Lib.hid hbl
  have HNW := Lib.hid hnw
  clear hl hm hle hbl hnw
  go_enter Try.func11, Try.ntmps11
  go_wp2_with (fail)
  all_goals
    refine (HNW.out _ _ (by have := HL.out; omega)).mono ?_
    rintro e w2 ⟨S, g, a, b', rfl, hT, hF, hS⟩
    have HT := Lib.hid hT
    have HF := Lib.hid hF
    have HS := Lib.hid hS
    clear hT hF hS
    go_wp2_with (fail)
  all_goals rw [run_makeMap]
  all_goals go_wp2_with (fail)
  all_goals go_ret
  all_goals exact nnew_end HT.out HF.out HS.out (by have := HM.out; omega) HLE.out HBL.out
section
variable {X S : Nat → Prop} {w : World} {pe g bm cr : Nat} {Ar : Option Addr} {L : List (Nat × Ro)} {E : Qn}
set_option maxRecDepth 100000 in
set_option maxHeartbeats 1000000 in
theorem nknown_any (h : QnM X w pe g bm S Ar cr L E) : Calls Try.prog 20 #[.pointer (some ⟨pe, 0, none⟩)] w fun e w' => e = .returned (.int .u64 (E.known : Int)) ∧ w' = w := by
  have hb := h.blk
  have hy2 := hb.cell 2
  simp only [List.getElem?_toArray, List.getElem?_cons_zero, List.getElem?_cons_succ] at hy2
  have hl := hb.lt
  clear hb h
  go_enter Try.func20, Try.ntmps20
  go_wp2
  go_ret
  exact ⟨rfl, rfl⟩
set_option maxRecDepth 100000 in
set_option maxHeartbeats 1000000 in
theorem ntable_any (h : QnM X w pe g bm S Ar cr L E) : Calls Try.prog 37 #[.pointer (some ⟨pe, 0, none⟩)] w fun e w' => e = .returned (.pointer (some ⟨g, 0, none⟩)) ∧ w' = w := by
  have hb := h.blk
  have hy0 := hb.cell 0
  simp only [List.getElem?_toArray, List.getElem?_cons_zero] at hy0
  have hl := hb.lt
  clear hb h
  go_enter Try.func37, Try.ntmps37
  go_wp2
  go_ret
  exact ⟨rfl, rfl⟩
end
end Go.Proofs.Ytdgggjeiflllhaa.M
