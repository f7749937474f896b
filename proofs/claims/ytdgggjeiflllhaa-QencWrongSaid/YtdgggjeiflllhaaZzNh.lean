/- Nh -/
import Derived.BigQuiet
import Derived.Deep.CutBlock
import Derived.Lib.Hide
import Derived.IntWalk
import Derived.Deep.LoopGhost
import Derived.Test.YtdgggjeiflllhaaZzNf
import Derived.Test.YtdgggjeiflllhaaZzMem

namespace Go.Proofs.Ytdgggjeiflllhaa.M
open Go.ChangeShapes Go.WideShapes Go.ChangeAt Go.RowKit
structure NwM (X Y : Nat → Prop) (w : World) (pe g bm : Nat) (S : Nat → Prop) (Ar : Option Addr) (cr : Nat) (L : List (Nat × Ro)) (pw s mu : Nat) (ments : List (Nat × Value)) (Ao : Option Addr) (co : Nat) (Al : Option Addr) (cl : Nat) (E : Qn) (Wr : Wq) : Prop where
  q : QnM X w pe g bm S Ar cr L { E with t := Wr.t }
  v : WqM Y w pw pe s mu ments Ao co Al cl Wr
  dis : ∀ k, X k → ¬ Y k
  fr : E.known < Wr.count → E.free s = true
section
variable {Y X S S2 : Nat → Prop} {w w' w2 : World} {pw pe s mu co cl g bm cr c2 : Nat} {ments : List (Nat × Value)} {Ao Al Ar A2 : Option Addr} {Wr : Wq} {E : Qn} {L : List (Nat × Ro)} {o2 : Bytes} {T : Tb}
theorem WqM.sett (h : WqM Y w pw pe s mu ments Ao co Al cl Wr) (T : Tb) : WqM Y w pw pe s mu ments Ao co Al cl { Wr with t := T } := { h with }
theorem WqM.setout (h : WqM Y w pw pe s mu ments Ao co Al cl Wr) (f : Frm (New w) w w2) (hA : Rd w2 A2 (bvs o2)) (hn : ∀ k, M.blk A2 = some k → New w k) (hne : o2 ≠ []) (hl : o2.length ≤ 1099511627776) (hoc : o2.length ≤ c2) :
    WqM (fun k => Y k ∨ M.blk A2 = some k) (w2.setCell ⟨pw, 4, none⟩ (.slice A2 o2.length c2)) pw pe s mu ments A2 c2 Al cl { Wr with out := o2 } := by
  have f2 : Frm (fun k => k = pw) w2 (w2.setCell ⟨pw, 4, none⟩ (.slice A2 o2.length c2)) := (Frm.refl (fun k => k = pw) w2).setCell (p := ⟨pw, 4, none⟩) rfl _
  have hA2 : ∀ k, M.blk A2 = some k → w.heap.size ≤ k ∧ k < w2.heap.size := fun k hk => by
    obtain ⟨g, o, rfl, hlt⟩ := hA.lt (by
      cases o2 with
      | nil => exact absurd rfl hne
      | cons x r => simp [bvs])
    have hkg : g = k := by simpa using hk
    subst hkg
    exact ⟨hn g rfl, hlt⟩
  have h1 := h.fresh f
  exact {
    blk := by have := h1.blk.set_ 4 (.slice A2 o2.length c2); simpa using this
    use_ := { h1.use_ with map := h1.use_.map.keep f2 (fun e => h.pm e.symm) }
    out := hA.keep f2 (fun k hk e => by have := (hA2 k hk).1; have := h.low pw h.yp; omega)
    lines := (h1.lines.keep f2 (fun k hk e => (h.lp k hk).1 e)).mono (fun k hk => .inl hk)
    low := fun k hk => by
      have hs := f.size
      rcases hk with hk | hk
      · have := h.low k hk; simp; omega
      · have := (hA2 k hk).2; simpa using this
    yp := .inl h.yp, ym := .inl h.ym, yo := fun k hk => .inr hk, pm := h.pm, lp := h.lp
    op := fun k hk => by
      have h2 := (hA2 k hk).1
      have h3 := h.low pw h.yp
      have h4 := h.low mu h.ym
      refine ⟨by omega, by omega, fun q => ?_⟩
      have := h.low k (h.lines.inM k q)
      omega
    oc := hoc, ll := h.ll, ol := hl, ct := h.ct, ul := h.ul }
theorem QnM.sett (h : QnM X w pe g bm S Ar cr L E) (hT : TabS S2 w2 g T) (f : Frm (Own S w) w w2) (hS : ∀ k, S2 k → Own S w k) (ok : T.Ok) (cap : T.cap ≤ 4096) (nb : T.n ≤ 1152921504606846976) (kn : E.known ≤ T.n) (ge : E.t.n ≤ T.n) :
    QnM (fun k => X k ∨ S2 k) w2 pe g bm S2 Ar cr L { E with t := T } := by
  have hno : ∀ k, X k → ¬ S k → ¬ Own S w k := fun k hx hs e => by
    rcases e with e | e
    · exact hs e
    · have := h.low k hx; have e : w.heap.size ≤ k := e; omega
  have hns : ∀ k, X k → ¬ S k → ¬ S2 k := fun k hx hs e => hno k hx hs (hS k e)
  exact {
    blk := h.blk.keep f (hno _ h.xp h.ps)
    tab := hT
    map := h.map.keep f (hno _ h.xm h.ms)
    nd := h.nd
    rows := fun x hx => { h.rows x hx with
      app := ((h.rows x hx).app.keep f (fun k hk => hno k ((h.rows x hx).app.inM k hk) (h.ro x hx k hk).1)).mono (fun k hk => .inl hk)
      use_ := fun y hy => by
        obtain ⟨h1, ents, h2⟩ := (h.rows x hx).use_ y hy
        exact ⟨.inl h1, ents, { h2 with map := h2.map.keep f (hno _ h1 (h.us x hx y hy).1) }⟩ }
    same := h.same, all := h.all
    rest := (h.rest.keep f (fun k hk => hno k (h.rest.inM k hk) (h.rs k hk).1)).mono (fun k hk => .inl hk)
    low := fun k hk => by
      rcases hk with hk | hk
      · exact Nat.lt_of_lt_of_le (h.low k hk) f.size
      · exact hT.low k hk
    xp := .inl h.xp, xm := .inl h.xm, xs := fun k hk => .inr hk
    ps := hns _ h.xp h.ps, ms := hns _ h.xm h.ms, mp := h.mp
    rs := fun k hk => ⟨hns k (h.rest.inM k hk) (h.rs k hk).1, (h.rs k hk).2⟩
    ro := fun x hx k hk => ⟨hns k ((h.rows x hx).app.inM k hk) (h.ro x hx k hk).1, (h.ro x hx k hk).2⟩
    us := fun x hx y hy => ⟨hns _ ((h.rows x hx).use_ y hy).1 (h.us x hx y hy).1, (h.us x hx y hy).2⟩
    rr := h.rr, ok := ok, cap := cap, nb := nb, kn := kn, ctn := fun o ho => Nat.le_trans (h.ctn o ho) ge, bl := h.bl, rl := h.rl }
theorem NwM.fresh (h : NwM X Y w pe g bm S Ar cr L pw s mu ments Ao co Al cl E Wr) (f : Frm (New w) w w') : NwM X Y w' pe g bm S Ar cr L pw s mu ments Ao co Al cl E Wr :=
  { h with q := h.q.fresh f, v := h.v.fresh f }
theorem NwM.low (h : NwM X Y w pe g bm S Ar cr L pw s mu ments Ao co Al cl E Wr) : ∀ k, X k ∨ Y k → k < w.heap.size := fun k hk => by
  rcases hk with hk | hk
  · exact h.q.low k hk
  · exact h.v.low k hk
theorem NwM.setout (h : NwM X Y w pe g bm S Ar cr L pw s mu ments Ao co Al cl E Wr) (f : Frm (New w) w w2) (hA : Rd w2 A2 (bvs o2)) (hn : ∀ k, M.blk A2 = some k → New w k) (hne : o2 ≠ []) (hl : o2.length ≤ 1099511627776) (hoc : o2.length ≤ c2) :
    NwM X (fun k => Y k ∨ M.blk A2 = some k) (w2.setCell ⟨pw, 4, none⟩ (.slice A2 o2.length c2)) pe g bm S Ar cr L pw s mu ments A2 c2 Al cl E { Wr with out := o2 } :=
  { q := (h.q.fresh f).keep (N := fun k => k = pw) ((Frm.refl (fun k => k = pw) w2).setCell (p := ⟨pw, 4, none⟩) rfl _) (fun k hk e => h.dis k hk (e ▸ h.v.yp))
    v := h.v.setout f hA hn hne hl hoc
    dis := fun k hk e => by
      rcases e with e | e
      · exact h.dis k hk e
      · have := h.q.low k hk
        have := hn k e
        unfold New at this
        omega
    fr := h.fr }
theorem NwM.sett (h : NwM X Y w pe g bm S Ar cr L pw s mu ments Ao co Al cl E Wr) (hT : TabS S2 w2 g T) (f : Frm (Own S w) w w2) (hS : ∀ k, S2 k → Own S w k) (ok : T.Ok) (cap : T.cap ≤ 4096) (nb : T.n ≤ 1152921504606846976) (kn : E.known ≤ T.n) (ge : Wr.t.n ≤ T.n) :
    NwM (fun k => X k ∨ S2 k) Y w2 pe g bm S2 Ar cr L pw s mu ments Ao co Al cl E { Wr with t := T } :=
  { q := h.q.sett hT f hS ok cap nb kn ge
    v := (h.v.keep f (fun k hk e => by
      rcases e with e | e
      · exact h.dis k (h.q.xs k e) hk
      · have := h.v.low k hk; have e : w.heap.size ≤ k := e; omega)).sett T
    dis := fun k hk e => by
      rcases hk with hk | hk
      · exact h.dis k hk e
      · rcases hS k hk with hk | hk
        · exact h.dis k (h.q.xs k hk) e
        · have := h.v.low k e; have hk : w.heap.size ≤ k := hk; omega
    fr := h.fr }
end
theorem Tb.add_ok {T : Tb} (h : T.Ok) {f : Fld} (hf : fsize f ≤ T.cap) : (T.add f).Ok ∧ (T.add f).n = T.n + 1 :=
  ⟨h.add f, by unfold Tb.add; rw [if_pos hf]⟩
theorem strc_pos (a b k : Nat) (l : Bytes) : 0 < (strc a b k l).length := by
  unfold strc
  split
  · have := pfx_pos a k (hlen l); rw [List.length_append]; omega
  · have := pfx_pos b k l.length; rw [List.length_append]; omega
def insN (nm : Bool) (i : Nat) (f : Fld) : Bytes := (if nm then pfx 192 6 i else strc 96 64 5 f.1) ++ strc 128 0 7 f.2
set_option maxRecDepth 100000 in
set_option maxHeartbeats 4000000 in
theorem ninsert_any {X Y S : Nat → Prop} {w : World} {pe g bm cr pw s mu co cl : Nat} {Ar Ao Al : Option Addr} {L : List (Nat × Ro)} {E : Qn} {ments : List (Nat × Value)} {Wr : Wq} (h : NwM X Y w pe g bm S Ar cr L pw s mu ments Ao co Al cl E Wr) (f : Fld) (i : Nat) (nm : Bool) (hi : i ≤ 4611686018427387903)
    (hfc : fsize f ≤ Wr.t.cap) (hn : Wr.t.n < 1152921504606846976) (hol : Wr.out.length ≤ 1099500000000) :
    Calls Try.prog 77 #[.pointer (some ⟨pw, 0, none⟩), fld f, .int .u64 (i : Int), .bool nm] w fun e w' => e = .returned (.int .u64 (Wr.t.n : Int)) ∧
      ∃ (X' Y' S' : Nat → Prop) (Ao' : Option Addr) (co' : Nat), NwM X' Y' w' pe g bm S' Ar cr L pw s mu ments Ao' co' Al cl E { Wr with t := Wr.t.add f, out := Wr.out ++ insN nm i f } ∧ Frm (Own (fun k => X k ∨ Y k) w) w w' ∧ ∀ k, X' k ∨ Y' k → Own (fun k => X k ∨ Y k) w k := by
  obtain ⟨hok2, hn2⟩ := Tb.add_ok h.q.ok hfc
  have hcap : Wr.t.cap ≤ 4096 := h.q.cap
  have hkn : E.known ≤ Wr.t.n := h.q.kn
  obtain ⟨f1, f2⟩ := f
  have hfl : f1.length + f2.length + 32 ≤ 4096 := Nat.le_trans hfc hcap
  have hfs : fsize (f1, f2) ≤ 4096 := Nat.le_trans hfc hcap
  have hlow := h.low
  simp only [fld, str]
  have H := Lib.hid h
  have HOK2 := Lib.hid hok2
  clear h hok2
  go_enter Try.func77, Try.ntmps77
  go_upto_region 1 with (fail)
  have hB1 := Blk.new w 71 #[.string ⟨f1.toArray⟩, .string ⟨f2.toArray⟩]
  have hF1 : Frm (New w) w (w.alloc (Obj.cells #[.string ⟨f1.toArray⟩, .string ⟨f2.toArray⟩] 71)) := (Frm.refl _ _).alloc Up.new _
  generalize w.alloc (Obj.cells #[.string ⟨f1.toArray⟩, .string ⟨f2.toArray⟩] 71) = w1 at *
  obtain ⟨bx, hbx⟩ : ∃ bx, bx = w.heap.size := ⟨_, rfl⟩
  rw [← hbx] at hB1 ⊢
  have hbw : w.heap.size ≤ bx := by omega
  clear hbx
  have h1 := H.out.fresh hF1
  have hlow1 := h1.low
  have hpwY := h1.v.yp
  have hpeX := h1.q.xp
  have hpww : pw < w.heap.size := hlow pw (.inr hpwY)
  have hpew : pe < w.heap.size := hlow pe (.inl hpeX)
  have hpp : pe ≠ pw := fun e => h1.dis pe hpeX (e ▸ hpwY)
  have hb := h1.v.blk
  have hy4 := hb.cell 4
  simp only [List.getElem?_toArray, List.getElem?_cons_zero, List.getElem?_cons_succ] at hy4
  have hz4 := hb.frozen 4
  have hpl := hb.lt
  have hx0 := hB1.cell 0
  have hx1 := hB1.cell 1
  simp only [List.getElem?_toArray, List.getElem?_cons_zero, List.getElem?_cons_succ] at hx0 hx1
  have hbl := hB1.lt
  obtain ⟨o2, ho2⟩ : ∃ o2, o2 = Wr.out ++ (if nm then pfx 192 6 i else strc 96 64 5 f1) := ⟨_, rfl⟩
  have H1 := Lib.hid h1
  have HB := Lib.hid hb
  have HB1 := Lib.hid hB1
  have HF1 := Lib.hid hF1
  have HLOW := Lib.hid hlow
  have HLOW1 := Lib.hid hlow1
  have HO2 := Lib.hid ho2
  clear h1 hb hB1 hF1 hlow hlow1 ho2
  go_upto_if 9 with (fail)
  go_cut [] from 9 (fun w2 => ∃ (A2 : Option Addr) (c2 : Nat), o2 ≠ [] ∧ o2.length ≤ Wr.out.length + 21000 ∧ Hid (NwM X (fun k => Y k ∨ M.blk A2 = some k) w2 pe g bm S Ar cr L pw s mu ments A2 c2 Al cl E { Wr with out := o2 }) ∧ Hid (∀ k, M.blk A2 = some k → w1.heap.size ≤ k) ∧ Hid (Blk w2 bx 71 #[.string ⟨f1.toArray⟩, .string ⟨f2.toArray⟩]) ∧ Hid (Frm (fun k => k = pw ∨ New w k) w w2))
  case first =>
    have hout := H1.out.v.out
    cases nm with
    | true =>
      have ho : o2 = Wr.out ++ pfx 192 6 i := HO2.out
      have hpx := pfx_length 192 6 i
      have hpp0 := pfx_pos 192 6 i
      go_wp2_with (fail)
      refine (prefix_nat Wr.out Ao co 192 6 i w1 hout (by omega) (by omega) (by omega) (by omega) (by omega)).mono ?_
      rintro e w2 ⟨A2, c2, rfl, hA2, hF2⟩
      rw [← ho] at hA2 ⊢
      have hol2 : o2.length ≤ Wr.out.length + 21000 := by rw [ho, List.length_append]; omega
      have hone : o2 ≠ [] := fun e => by rw [e] at ho; have := congrArg List.length ho; rw [List.length_append] at this; simp at this; omega
      have hN2 := H1.out.setout (c2 := c2) hF2 hA2.rd (fun k hk => hA2.inM k hk) hone (by omega) hA2.cap
      have hB2 := (HB1.out.fresh hF2).far (p := ⟨pw, 4, none⟩) (by show bx ≠ pw; omega) (.slice A2 o2.length c2)
      have hF02 : Frm (fun k => k = pw ∨ New w k) w (w2.setCell ⟨pw, 4, none⟩ (.slice A2 o2.length c2)) := ((HF1.out.then_new Up.new hF2).mono (fun k hk => .inr hk)).setCell (p := ⟨pw, 4, none⟩) (.inl rfl) _
      have hin : ∀ k, M.blk A2 = some k → w1.heap.size ≤ k := fun k hk => hA2.inM k hk
      have hbb := (H1.out.fresh hF2).v.blk
      have hy2 := hbb.cell 4
      simp only [List.getElem?_toArray, List.getElem?_cons_zero, List.getElem?_cons_succ] at hy2
      have hz2 := hbb.frozen 4
      have hl2 := hbb.lt
      clear ho hpx hpp0 hout hA2 hF2 hy4 hz4 hpl hx0 hx1 hbl
      have HN2 := Lib.hid hN2
      have HB2 := Lib.hid hB2
      have HF02 := Lib.hid hF02
      have HIN := Lib.hid hin
      have HONE := Lib.hid hone
      have HBB := Lib.hid hbb
      clear hN2 hB2 hF02 hin hone hbb
      go_wp2
      go_meet
      exact ⟨A2, c2, HONE.out, hol2, HN2, HIN, HB2, HF02⟩
    | false =>
      have ho : o2 = Wr.out ++ strc 96 64 5 f1 := HO2.out
      have hpx := strc_le 96 64 5 f1
      have hpp0 := strc_pos 96 64 5 f1
      go_upto_region 3 with (fail)
      have hS0 : w1.drew.cell? ⟨pw, 4, none⟩ = some (.slice Ao Wr.out.length co) ∧ w1.drew.cell? ⟨bx, 0, none⟩ = some (.string ⟨f1.toArray⟩) := ⟨hy4, hx0⟩
      refine wp_region_til (by kernel_rfl) (fun w' => w'.cell? ⟨pw, 4, none⟩ = some (.slice Ao Wr.out.length co) ∧ w'.cell? ⟨bx, 0, none⟩ = some (.string ⟨f1.toArray⟩)) 10 ?_
      change wpAnyT _ _ _ _ _ _ _ _ _ w1.drew
      refine wpAnyT_take (i := 0) (v := ?_) (d := some 19) rfl (by rfl) (by kernel_rfl) (fun _ _ _ h => h) (by rfl) hS0 (fun w hSw => ?_) ?_
      rotate_left
      · (try dsimp only at hSw); go_simp; first | done | (with_reducible rfl)
      simp only [Act.put, List.setIfInBounds_toArray, List.set_cons_zero, List.set_cons_succ]
      refine wpAnyT_take (i := 1) (v := ?_) (d := some 20) rfl (by rfl) (by kernel_rfl) (fun _ _ _ h => h) (by rfl) hS0 (fun w hSw => ?_) ?_
      rotate_left
      · (try dsimp only at hSw); go_simp; first | done | (with_reducible rfl)
      simp only [Act.put, List.setIfInBounds_toArray, List.set_cons_zero, List.set_cons_succ]
      refine wpAnyT_take (i := 2) (v := ?_) (d := some 21) rfl (by rfl) (by kernel_rfl) (fun _ _ _ h => h) (by rfl) hS0 (fun w hSw => ?_) ?_
      rotate_left
      · (try dsimp only at hSw); go_simp; first | done | (with_reducible rfl)
      simp only [Act.put, List.setIfInBounds_toArray, List.set_cons_zero, List.set_cons_succ]
      refine wpAnyT_take (i := 3) (v := ?_) (d := some 22) rfl (by rfl) (by kernel_rfl) (fun _ _ _ h => h) (by rfl) hS0 (fun w hSw => ?_) ?_
      rotate_left
      · (try dsimp only at hSw); go_simp; first | done | (with_reducible rfl)
      simp only [Act.put, List.setIfInBounds_toArray, List.set_cons_zero, List.set_cons_succ]
      refine wpAnyT_take (i := 4) (v := ?_) (d := some 23) rfl (by rfl) (by kernel_rfl) (fun _ _ _ h => h) (by rfl) hS0 (fun w hSw => ?_) ?_
      rotate_left
      · (try dsimp only at hSw); go_simp; first | done | (with_reducible rfl)
      simp only [Act.put, List.setIfInBounds_toArray, List.set_cons_zero, List.set_cons_succ]
      refine wpAnyT_take (i := 5) (v := ?_) (d := some 24) rfl (by rfl) (by kernel_rfl) (fun _ _ _ h => h) (by rfl) hS0 (fun w hSw => ?_) ?_
      rotate_left
      · (try dsimp only at hSw); go_simp; first | done | (with_reducible rfl)
      simp only [Act.put, List.setIfInBounds_toArray, List.set_cons_zero, List.set_cons_succ]
      refine wpAnyT_take (i := 6) (v := ?_) (d := some 25) rfl (by rfl) (by kernel_rfl) (fun _ _ _ h => h) (by rfl) hS0 (fun w hSw => ?_) ?_
      rotate_left
      · (try dsimp only at hSw); go_simp; first | done | (with_reducible rfl)
      simp only [Act.put, List.setIfInBounds_toArray, List.set_cons_zero, List.set_cons_succ]
      refine wpAnyT_one (i := 7) rfl (by kernel_rfl) (fun K hKK => ?_)
      refine Eq.mpr (if_pos (by rfl)) ?_
      go_wp2_with (fail)
      refine (coded_any Wr.out Ao co 64 5 ⟨f1.toArray⟩ w1.drew hout.drew (by omega) (by show f1.toArray.size ≤ _; simp; omega) (by omega) (by omega) (by omega)).mono ?_
      rintro e w2 ⟨A2, c2, rfl, hA2, hF2⟩
      replace hF2 : Frm (New w1) w1 w2 := Frm.trans ((Frm.refl _ w1).drew) hF2
      have hin : ∀ k, M.blk A2 = some k → w1.heap.size ≤ k := fun k hk => hA2.inM k hk
      have ho3 : Wr.out ++ strc (64 ||| 2 ^ 5) (64 &&& (255 - 2 ^ 5)) 5 f1.toArray.toList = o2 := by
        rw [ho, show f1.toArray.toList = f1 from by simp]
        rfl
      rw [ho3] at hA2 ⊢
      have hol2 : o2.length ≤ Wr.out.length + 21000 := by rw [ho, List.length_append]; omega
      have hone : o2 ≠ [] := fun e => by rw [e] at ho; have := congrArg List.length ho; rw [List.length_append] at this; simp at this; omega
      have hN2 := H1.out.setout (c2 := c2) hF2 hA2.rd (fun k hk => hA2.inM k hk) hone (by omega) hA2.cap
      have hB2 := (HB1.out.fresh hF2).far (p := ⟨pw, 4, none⟩) (by show bx ≠ pw; omega) (.slice A2 o2.length c2)
      have hF02 : Frm (fun k => k = pw ∨ New w k) w (w2.setCell ⟨pw, 4, none⟩ (.slice A2 o2.length c2)) := ((HF1.out.then_new Up.new hF2).mono (fun k hk => .inr hk)).setCell (p := ⟨pw, 4, none⟩) (.inl rfl) _
      have hbb := (H1.out.fresh hF2).v.blk
      have hy2 := hbb.cell 4
      simp only [List.getElem?_toArray, List.getElem?_cons_zero, List.getElem?_cons_succ] at hy2
      have hz2 := hbb.frozen 4
      have hl2 := hbb.lt
      have hS2 : w2.cell? ⟨pw, 4, none⟩ = some (.slice Ao Wr.out.length co) ∧ w2.cell? ⟨bx, 0, none⟩ = some (.string ⟨f1.toArray⟩) := ⟨hy2, (HB1.out.fresh hF2).cell 0⟩
      clear ho hpx hpp0 hout hA2 hF2 hy4 hz4 hpl hx0 hx1 hbl ho3
      have HN2 := Lib.hid hN2
      have HB2 := Lib.hid hB2
      have HF02 := Lib.hid hF02
      have HIN := Lib.hid hin
      have HONE := Lib.hid hone
      have HBB := Lib.hid hbb
      clear hN2 hB2 hF02 hin hone hbb
      refine hKK.out _ _ (.inr hS2) ?_
      clear hKK K hS0
      try simp only [Act.put, List.setIfInBounds_toArray, List.set_cons_zero, List.set_cons_succ]
      refine wpAnyT_one (i := 8) rfl (by kernel_rfl) (fun K hK => ?_)
      go_simp
      refine hK.out _ _ (.inr (hS2)) ?_
      clear hK K
      refine wpAnyT_one (i := 9) rfl (by kernel_rfl) (fun K hK => ?_)
      go_simp
      refine hK.out _ _ (.inr (hS2)) ?_
      clear hK K
      refine wpAnyT_one (i := 10) rfl (by kernel_rfl) (fun K hK => ?_)
      go_simp
      refine hK.out _ _ (.inl (by kernel_rfl)) ?_
      clear hK K
      refine wpAnyT_done (by kernel_rfl) ?_ _
      go_wp2
      go_meet
      exact ⟨A2, c2, HONE.out, hol2, HN2, HIN, HB2, HF02⟩
  case rest =>
    obtain ⟨A2, c2, hone, hol2, hN2, hin2, hB2, hF2⟩ := hcut
    rename World => w2
    clear hy4 hz4 hpl hx0 hx1 hbl HB HB1 H1
    have hb := hN2.out.v.blk
    simp only at hb
    have hy4 := hb.cell 4
    simp only [List.getElem?_toArray, List.getElem?_cons_zero, List.getElem?_cons_succ] at hy4
    have hz4 := hb.frozen 4
    have hpl := hb.lt
    have hb2 := hB2.out
    have hx1 := hb2.cell 1
    simp only [List.getElem?_toArray, List.getElem?_cons_zero, List.getElem?_cons_succ] at hx1
    have hbl := hb2.lt
    have hout : Rd w2 A2 (bvs o2) := hN2.out.v.out
    have hpx := strc_le 128 0 7 f2
    obtain ⟨o3, ho3⟩ : ∃ o3, o3 = o2 ++ strc 128 0 7 f2 := ⟨_, rfl⟩
    have HB := Lib.hid hb
    have HB2 := Lib.hid hb2
    have HO3 := Lib.hid ho3
    clear hb hb2 ho3
    go_upto_region 4 with (fail)
    have hS0 : w2.drew.cell? ⟨pw, 4, none⟩ = some (.slice A2 o2.length c2) ∧ w2.drew.cell? ⟨bx, 1, none⟩ = some (.string ⟨f2.toArray⟩) := ⟨hy4, hx1⟩
    refine wp_region_til (by kernel_rfl) (fun w' => w'.cell? ⟨pw, 4, none⟩ = some (.slice A2 o2.length c2) ∧ w'.cell? ⟨bx, 1, none⟩ = some (.string ⟨f2.toArray⟩)) 10 ?_
    change wpAnyT _ _ _ _ _ _ _ _ _ w2.drew
    refine wpAnyT_take (i := 0) (v := ?_) (d := some 29) rfl (by rfl) (by kernel_rfl) (fun _ _ _ h => h) (by rfl) hS0 (fun w hSw => ?_) ?_
    rotate_left
    · (try dsimp only at hSw); go_simp; first | done | (with_reducible rfl)
    simp only [Act.put, List.setIfInBounds_toArray, List.set_cons_zero, List.set_cons_succ]
    refine wpAnyT_take (i := 1) (v := ?_) (d := some 30) rfl (by rfl) (by kernel_rfl) (fun _ _ _ h => h) (by rfl) hS0 (fun w hSw => ?_) ?_
    rotate_left
    · (try dsimp only at hSw); go_simp; first | done | (with_reducible rfl)
    simp only [Act.put, List.setIfInBounds_toArray, List.set_cons_zero, List.set_cons_succ]
    refine wpAnyT_take (i := 2) (v := ?_) (d := some 31) rfl (by rfl) (by kernel_rfl) (fun _ _ _ h => h) (by rfl) hS0 (fun w hSw => ?_) ?_
    rotate_left
    · (try dsimp only at hSw); go_simp; first | done | (with_reducible rfl)
    simp only [Act.put, List.setIfInBounds_toArray, List.set_cons_zero, List.set_cons_succ]
    refine wpAnyT_take (i := 3) (v := ?_) (d := some 32) rfl (by rfl) (by kernel_rfl) (fun _ _ _ h => h) (by rfl) hS0 (fun w hSw => ?_) ?_
    rotate_left
    · (try dsimp only at hSw); go_simp; first | done | (with_reducible rfl)
    simp only [Act.put, List.setIfInBounds_toArray, List.set_cons_zero, List.set_cons_succ]
    refine wpAnyT_take (i := 4) (v := ?_) (d := some 33) rfl (by rfl) (by kernel_rfl) (fun _ _ _ h => h) (by rfl) hS0 (fun w hSw => ?_) ?_
    rotate_left
    · (try dsimp only at hSw); go_simp; first | done | (with_reducible rfl)
    simp only [Act.put, List.setIfInBounds_toArray, List.set_cons_zero, List.set_cons_succ]
    refine wpAnyT_take (i := 5) (v := ?_) (d := some 34) rfl (by rfl) (by kernel_rfl) (fun _ _ _ h => h) (by rfl) hS0 (fun w hSw => ?_) ?_
    rotate_left
    · (try dsimp only at hSw); go_simp; first | done | (with_reducible rfl)
    simp only [Act.put, List.setIfInBounds_toArray, List.set_cons_zero, List.set_cons_succ]
    refine wpAnyT_take (i := 6) (v := ?_) (d := some 35) rfl (by rfl) (by kernel_rfl) (fun _ _ _ h => h) (by rfl) hS0 (fun w hSw => ?_) ?_
    rotate_left
    · (try dsimp only at hSw); go_simp; first | done | (with_reducible rfl)
    simp only [Act.put, List.setIfInBounds_toArray, List.set_cons_zero, List.set_cons_succ]
    refine wpAnyT_one (i := 7) rfl (by kernel_rfl) (fun K hKK => ?_)
    refine Eq.mpr (if_pos (by rfl)) ?_
    go_wp2_with (fail)
    refine (strb_any o2 A2 c2 f2 w2.drew hout.drew (by omega) (by omega)).mono ?_
    rintro e w3 ⟨A3, c3, rfl, hA3, hF3⟩
    replace hF3 : Frm (New w2) w2 w3 := Frm.trans ((Frm.refl _ w2).drew) hF3
    have hin3 : ∀ k, M.blk A3 = some k → w2.heap.size ≤ k := fun k hk => hA3.inM k hk
    have hol3 : o3.length ≤ 1099511000000 := by rw [HO3.out, List.length_append]; omega
    have hone3 : o3 ≠ [] := fun e => hone (by have := HO3.out; rw [e] at this; exact (List.append_eq_nil_iff.1 this.symm).1)
    rw [← HO3.out] at hA3 ⊢
    have hN3 := hN2.out.setout (c2 := c3) hF3 hA3.rd (fun k hk => hA3.inM k hk) hone3 (by omega) hA3.cap
    have hB3 := (HB2.out.fresh hF3).far (p := ⟨pw, 4, none⟩) (by show bx ≠ pw; omega) (.slice A3 o3.length c3)
    have hF03 : Frm (fun k => k = pw ∨ New w k) w (w3.setCell ⟨pw, 4, none⟩ (.slice A3 o3.length c3)) := (hF2.out.then_new (fun k hk => .inr hk) hF3).setCell (p := ⟨pw, 4, none⟩) (.inl rfl) _
    have hbb := (hN2.out.fresh hF3).v.blk
    simp only at hbb
    have hy3 := hbb.cell 4
    simp only [List.getElem?_toArray, List.getElem?_cons_zero, List.getElem?_cons_succ] at hy3
    have hz3 := hbb.frozen 4
    have hl3 := hbb.lt
    have hS3 : w3.cell? ⟨pw, 4, none⟩ = some (.slice A2 o2.length c2) ∧ w3.cell? ⟨bx, 1, none⟩ = some (.string ⟨f2.toArray⟩) := ⟨hy3, (HB2.out.fresh hF3).cell 1⟩
    have hs12 := hF2.out.size
    clear hpx hout hA3 hF3 hy4 hz4 hpl hx1 hbl
    have HN3 := Lib.hid hN3
    have HB3 := Lib.hid hB3
    have HF03 := Lib.hid hF03
    have HIN3 := Lib.hid hin3
    have HBB := Lib.hid hbb
    have HONE3 := Lib.hid hone3
    clear hN3 hB3 hF03 hin3 hbb hone3
    refine hKK.out _ _ (.inr hS3) ?_
    clear hKK K hS0
    try simp only [Act.put, List.setIfInBounds_toArray, List.set_cons_zero, List.set_cons_succ]
    refine wpAnyT_one (i := 8) rfl (by kernel_rfl) (fun K hK => ?_)
    go_simp
    refine hK.out _ _ (.inr (hS3)) ?_
    clear hK K
    refine wpAnyT_one (i := 9) rfl (by kernel_rfl) (fun K hK => ?_)
    go_simp
    refine hK.out _ _ (.inr (hS3)) ?_
    clear hK K
    refine wpAnyT_one (i := 10) rfl (by kernel_rfl) (fun K hK => ?_)
    go_simp
    refine hK.out _ _ (.inl (by kernel_rfl)) ?_
    clear hK K
    refine wpAnyT_done (by kernel_rfl) ?_ _
    clear hy3 hz3 hl3 hS3 HBB HB HB2
    generalize w3.setCell ⟨pw, 4, none⟩ (.slice A3 o3.length c3) = w4 at *
    have hsw : ∀ w', Frm (Own S w4) w4 w' → w'.cell? ⟨pw, 0, none⟩ = some (.pointer (some ⟨pe, 0, none⟩)) ∧ w'.cell? ⟨pe, 0, none⟩ = some (.pointer (some ⟨g, 0, none⟩)) ∧ w'.cell? ⟨bx, 0, none⟩ = some (.string ⟨f1.toArray⟩) ∧ w'.cell? ⟨bx, 1, none⟩ = some (.string ⟨f2.toArray⟩) ∧ pw < w'.heap.size ∧ pe < w'.heap.size ∧ bx < w'.heap.size := fun w' fr => by
      have k1 : ¬ Own S w4 pw := fun e => by
        rcases e with e | e
        · exact HN3.out.dis pw (HN3.out.q.xs _ e) HN3.out.v.yp
        · have := HN3.out.v.low pw HN3.out.v.yp; have e : w4.heap.size ≤ pw := e; omega
      have k2 : ¬ Own S w4 pe := fun e => by
        rcases e with e | e
        · exact HN3.out.q.ps e
        · have := HN3.out.q.low pe HN3.out.q.xp; have e : w4.heap.size ≤ pe := e; omega
      have k3 : ¬ Own S w4 bx := fun e => by
        rcases e with e | e
        · have := HLOW.out bx (.inl (HN3.out.q.xs _ e)); omega
        · have := HB3.out.lt; have e : w4.heap.size ≤ bx := e; omega
      have b1 := HN3.out.v.blk.keep fr k1
      have b2 := HN3.out.q.blk.keep fr k2
      have b3 := HB3.out.keep fr k3
      exact ⟨b1.cell 0, b2.cell 0, b3.cell 0, b3.cell 1, b1.lt, b2.lt, b3.lt⟩
    have hTb : TabS S w4 g Wr.t := HN3.out.q.tab
    have hadd : ∀ (g2 : Nat) w', Frm (New w4) w4 w' → w4.heap.size ≤ g2 → Rd w' (some ⟨g2, 0, none⟩) (fvs [(f1, f2)]) → Calls Try.prog 122 #[.pointer (some ⟨g, 0, none⟩), .slice (some ⟨g2, 0, none⟩) 1 1] w' fun e w2 => (∃ m : Int, e = .returned (.int .i64 m)) ∧ (∃ S', TabS S' w2 g (Wr.t.add (f1, f2)) ∧ ∀ k, S' k → Own S w4 k) ∧ Frm (Own S w4) w4 w2 := fun g2 w' fr hg2 h => by
      have hlow := hTb.low
      refine (addS_any (f1, f2) (some ⟨g2, 0, none⟩) 1 w' (hTb.fresh fr) h (fun k hk hs => by cases hk; have := hlow _ hs; simp only at this; omega) hn (by omega) (by omega)).mono ?_
      rintro e w2 ⟨h1, S', h2, h3, h4⟩
      have ho : ∀ k, Own S w' k → Own S w4 k := fun k hk => by
        rcases hk with hk | hk
        · exact .inl hk
        · exact .inr (Nat.le_trans fr.size hk)
      exact ⟨h1, ⟨S', h2, fun k hk => ho k (h4 k hk)⟩, (fr.mono (fun k hk => .inr hk)).trans (h3.mono ho)⟩
    have hS0 := hsw w4.drew ((Frm.refl _ _).drew)
    have HSW := Lib.hid hsw
    have HTB := Lib.hid hTb
    have HADD := Lib.hid hadd
    clear hsw hTb hadd
    go_upto_region 5 with (fail)
    refine wp_region_held (by kernel_rfl) (S := fun w' => w'.cell? ⟨pw, 0, none⟩ = some (.pointer (some ⟨pe, 0, none⟩)) ∧ w'.cell? ⟨pe, 0, none⟩ = some (.pointer (some ⟨g, 0, none⟩)) ∧ w'.cell? ⟨bx, 0, none⟩ = some (.string ⟨f1.toArray⟩) ∧ w'.cell? ⟨bx, 1, none⟩ = some (.string ⟨f2.toArray⟩) ∧ pw < w'.heap.size ∧ pe < w'.heap.size ∧ bx < w'.heap.size) ?_
    change wpAnyH _ _ _ _ _ _ _ _ w4.drew
    refine wpAnyH_takeB (i := 0) (v := ?_) (d := some 39) rfl (by rfl) (by kernel_rfl) (fun _ _ _ h => h) (by rfl) hS0 (fun w hSw => ?_) ?_
    rotate_left
    · (try dsimp only at hSw); (try subst hSw); go_simp; first | done | (with_reducible rfl)
    simp only [Act.put, List.setIfInBounds_toArray, List.set_cons_zero, List.set_cons_succ]
    refine wpAnyH_takeB (i := 1) (v := ?_) (d := some 40) rfl (by rfl) (by kernel_rfl) (fun _ _ _ h => h) (by rfl) hS0 (fun w hSw => ?_) ?_
    rotate_left
    · (try dsimp only at hSw); (try subst hSw); go_simp; first | done | (with_reducible rfl)
    simp only [Act.put, List.setIfInBounds_toArray, List.set_cons_zero, List.set_cons_succ]
    refine wpAnyH_takeB (i := 2) (v := ?_) (d := some 41) rfl (by rfl) (by kernel_rfl) (fun _ _ _ h => h) (by rfl) hS0 (fun w hSw => ?_) ?_
    rotate_left
    · (try dsimp only at hSw); (try subst hSw); go_simp; first | done | (with_reducible rfl)
    simp only [Act.put, List.setIfInBounds_toArray, List.set_cons_zero, List.set_cons_succ]
    refine wpAnyH_takeB (i := 3) (v := ?_) (d := some 42) rfl (by rfl) (by kernel_rfl) (fun _ _ _ h => h) (by rfl) hS0 (fun w hSw => ?_) ?_
    rotate_left
    · (try dsimp only at hSw); (try subst hSw); go_simp; first | done | (with_reducible rfl)
    simp only [Act.put, List.setIfInBounds_toArray, List.set_cons_zero, List.set_cons_succ]
    refine wpAnyH_takeB (i := 4) (v := ?_) (d := some 43) rfl (by rfl) (by kernel_rfl) (fun _ _ _ h => h) (by rfl) hS0 (fun w hSw => ?_) ?_
    rotate_left
    · (try dsimp only at hSw); (try subst hSw); go_simp; first | done | (with_reducible rfl)
    simp only [Act.put, List.setIfInBounds_toArray, List.set_cons_zero, List.set_cons_succ]
    refine wpAnyH_takeB (i := 5) (v := ?_) (d := some 44) rfl (by rfl) (by kernel_rfl) (fun _ _ _ h => h) (by rfl) hS0 (fun w hSw => ?_) ?_
    rotate_left
    · (try dsimp only at hSw); (try subst hSw); go_simp; first | done | (with_reducible rfl)
    simp only [Act.put, List.setIfInBounds_toArray, List.set_cons_zero, List.set_cons_succ]
    refine wpAnyH_takeB (i := 6) (v := ?_) (d := some 45) rfl (by rfl) (by kernel_rfl) (fun _ _ _ h => h) (by rfl) hS0 (fun w hSw => ?_) ?_
    rotate_left
    · (try dsimp only at hSw); (try subst hSw); go_simp; first | done | (with_reducible rfl)
    simp only [Act.put, List.setIfInBounds_toArray, List.set_cons_zero, List.set_cons_succ]
    refine wpAnyH_takeB (i := 7) (v := ?_) (d := some 46) rfl (by rfl) (by kernel_rfl) (fun _ _ _ h => h) (by rfl) hS0 (fun w hSw => ?_) ?_
    rotate_left
    · (try dsimp only at hSw); (try subst hSw); go_simp; first | done | (with_reducible rfl)
    simp only [Act.put, List.setIfInBounds_toArray, List.set_cons_zero, List.set_cons_succ]
    have hF5 : Frm (New w4) w4 (w4.alloc (.cells #[.string ⟨f1.toArray⟩, .string ⟨f2.toArray⟩] 71)).drew := ((Frm.refl (New w4) w4).alloc Up.new _).drew
    refine wpAnyH_oneB (i := 8) rfl (by kernel_rfl) (fun K hK => ?_)
    refine Eq.mpr (if_pos (by rfl)) ?_
    go_simp
    refine hK.out _ _ ((HSW.out _ (hF5.mono (fun k hk => .inr hk)))) ?_
    clear hK K
    try simp only [Act.put, List.setIfInBounds_toArray, List.set_cons_zero, List.set_cons_succ]
    have hR5 : Rd (w4.alloc (.cells #[.string ⟨f1.toArray⟩, .string ⟨f2.toArray⟩] 71)).drew (some ⟨w4.heap.size, 0, none⟩) (fvs [(f1, f2)]) := Rd.new w4 #[.string ⟨f1.toArray⟩, .string ⟨f2.toArray⟩] 71
    generalize (w4.alloc (.cells #[.string ⟨f1.toArray⟩, .string ⟨f2.toArray⟩] 71)).drew = w5 at *
    refine wpAnyH_oneB (i := 9) rfl (by kernel_rfl) (fun K hKK => ?_)
    refine Eq.mpr (if_pos (by rfl)) ?_
    go_wp2_with (fail)
    refine (HADD.out _ w5 hF5 (Nat.le_refl _) hR5).mono ?_
    rintro e w6 ⟨⟨m, rfl⟩, ⟨S', hT6, hS6⟩, hF6⟩
    have hS1 := HSW.out w6 hF6
    have hN6 := HN3.out.sett hT6 hF6 hS6 HOK2.out (by rw [Tb.add_cap]; exact hcap) (by omega) (by omega) (by show Wr.t.n ≤ _; omega)
    have hcnt := tcountS_any w6 hT6
    rw [hn2] at hcnt
    have hwn : IntKind.u64.wrap (((Wr.t.n + 1 : Nat) : Int) - 1) = (Wr.t.n : Int) := by rw [IntWalk.u64_in _ (by omega)]; omega
    generalize Wr.t.n + 1 = n2 at *
    have hF06 : Frm (Own (fun k => X k ∨ Y k) w) w w6 := by
      refine (HF03.out.mono (fun k hk => ?_)).trans (hF6.mono (fun k hk => ?_))
      · rcases hk with hk | hk
        · exact .inl (.inr (hk ▸ H.out.v.yp))
        · exact .inr hk
      · rcases hk with hk | hk
        · exact .inl (.inl (H.out.q.xs k hk))
        · exact .inr (Nat.le_trans HF03.out.size hk)
    have he3 : o3 = Wr.out ++ insN nm i (f1, f2) := by
      rw [HO3.out, HO2.out, List.append_assoc]
      rfl
    rw [he3] at hN6
    have HN6 := Lib.hid hN6
    have HF06 := Lib.hid hF06
    have HCNT := Lib.hid hcnt
    have HS6 := Lib.hid hS6
    clear hN6 hF06 hcnt hS6
    clear hT6 hF6 HSW HADD hS0 hF5 hR5
    refine hKK.out _ _ hS1 ?_
    clear hKK K
    try simp only [Act.put, List.setIfInBounds_toArray, List.set_cons_zero, List.set_cons_succ]
    refine wpAnyH_done (by kernel_rfl) ?_ _
    obtain ⟨hp0, hp1, hx0, hx1, hpl, hel, hbl⟩ := hS1
    go_wp2_with (fail)
    refine HCNT.out.mono ?_
    rintro e w7 ⟨rfl, hw7⟩
    rw [hw7]
    clear hw7 w7
    go_wp2
    go_ret
    refine ⟨rfl, _, _, _, _, _, HN6.out, HF06.out, fun k hk => ?_⟩
    rcases hk with (hk | hk) | ((hk | hk) | hk)
    · exact .inl (.inl hk)
    · rcases HS6.out k hk with e | e
      · exact .inl (.inl (H.out.q.xs k e))
      · exact .inr (Nat.le_trans HF03.out.size e)
    · exact .inl (.inr hk)
    · exact .inr (Nat.le_trans HF1.out.size (hin2.out k hk))
    · exact .inr (Nat.le_trans hs12 (HIN3.out k hk))
end Go.Proofs.Ytdgggjeiflllhaa.M
namespace Go.Proofs.Ytdgggjeiflllhaa.M
open Go.ChangeShapes Go.WideShapes Go.ChangeAt Go.RowKit
theorem build_stat {o : Oper} {a : Act} {w : World} {x y : Operand} {f1 f2 : Bytes} {p : Nat} (ho : o.op = .build 90 #[(0, x), (1, y), (3, .const (.bool true))]) (hx : a.eval x = .agg #[.string ⟨f1.toArray⟩, .string ⟨f2.toArray⟩]) (hy : a.eval y = .int .u64 (p : Int)) :
    (execOp a.eval o).run Try.prog w = .ok (.value (.agg #[.string ⟨f1.toArray⟩, .string ⟨f2.toArray⟩, .int .u64 (p : Int), .bool false, .bool true, .bool false])) w := by
  unfold execOp
  rw [ho]
  simp only [List.map_toArray, List.map_cons, List.map_nil, hx, hy]
  kernel_rfl
theorem build_lit {o : Oper} {a : Act} {w : World} {x y z : Operand} {f1 f2 : Bytes} {p : Nat} {b : Bool} (ho : o.op = .build 90 #[(0, x), (1, y), (4, z)]) (hx : a.eval x = .agg #[.string ⟨f1.toArray⟩, .string ⟨f2.toArray⟩]) (hy : a.eval y = .int .u64 (p : Int)) (hz : a.eval z = .bool b) :
    (execOp a.eval o).run Try.prog w = .ok (.value (.agg #[.string ⟨f1.toArray⟩, .string ⟨f2.toArray⟩, .int .u64 (p : Int), .bool false, .bool false, .bool b])) w := by
  unfold execOp
  rw [ho]
  simp only [List.map_toArray, List.map_cons, List.map_nil, hx, hy, hz]
  kernel_rfl
section
variable {Y X S Y2 : Nat → Prop} {w w' w2 : World} {pw pe s mu co cl g bm cr c2 cl2 : Nat} {ments ments2 : List (Nat × Value)} {Ao Al Ar A2 Al2 : Option Addr} {Wr : Wq} {E : Qn} {L : List (Nat × Ro)}
theorem NwM.line (h : NwM X Y w pe g bm S Ar cr L pw s mu ments Ao co Al cl E Wr) (x : Lq) (hA : App (fun k => Y k ∧ M.blk Al = some k ∨ New w k) w2 90 6 A2 (Wr.lines.length + 1) c2 (lqs (Wr.lines ++ [x]))) (f : Frm (fun k => Y k ∧ M.blk Al = some k ∨ New w k) w w2) (hn : Wr.lines.length < 1048576) :
    NwM X (fun k => Y k ∨ M.blk A2 = some k) (w2.setCell ⟨pw, 5, none⟩ (.slice A2 (Wr.lines.length + 1) c2)) pe g bm S Ar cr L pw s mu ments Ao co A2 c2 E { Wr with lines := Wr.lines ++ [x] } :=
  { q := (h.q.keep f (fun k hk e => by
      rcases e with e | e
      · exact h.dis k hk e.1
      · have := h.q.low k hk; unfold New at e; omega)).keep (N := fun k => k = pw) ((Frm.refl (fun k => k = pw) w2).setCell (p := ⟨pw, 5, none⟩) rfl _) (fun k hk e => h.dis k hk (e ▸ h.v.yp))
    v := h.v.line x hA f hn
    dis := fun k hk e => by
      rcases e with e | e
      · exact h.dis k hk e
      · rcases hA.inM k e with e | e
        · exact h.dis k hk e.1
        · have := h.q.low k hk; unfold New at e; omega
    fr := h.fr }
theorem NwM.used (h : NwM X Y w pe g bm S Ar cr L pw s mu ments Ao co Al cl E Wr) {f : Fld} {p : Nat} (hv : WqM Y2 w2 pw pe s mu ments2 Ao co Al2 cl2 (Wr.use f p)) (fr : Frm (Own Y w) w w2) (hs : ∀ k, Y2 k → Own Y w k) (hm : (decide (p < E.known) || E.free s) = true) :
    NwM X Y2 w2 pe g bm S Ar cr L pw s mu ments2 Ao co Al2 cl2 E (Wr.use f p) :=
  { q := h.q.keep fr (fun k hk e => by
      rcases e with e | e
      · exact h.dis k hk e
      · have := h.q.low k hk; have e : w.heap.size ≤ k := e; omega)
    v := hv
    dis := fun k hk e => by
      rcases hs k e with e | e
      · exact h.dis k hk e
      · have := h.q.low k hk; have e : w.heap.size ≤ k := e; omega
    fr := fun hc => by
      have hc : E.known < max Wr.count (p + 1) := hc
      cases hf : E.free s with
      | true => rfl
      | false =>
        rw [hf, Bool.or_false] at hm
        have h1 := of_decide_eq_true hm
        have h2 : E.known < Wr.count := by omega
        rw [h.fr h2] at hf
        cases hf }
theorem NwM.may_eq (h : NwM X Y w pe g bm S Ar cr L pw s mu ments Ao co Al cl E Wr) (p : Nat) : E.may s Wr.count p = (decide (p < E.known) || E.free s) := by
  unfold Qn.may
  by_cases hc : E.known < Wr.count
  · rw [h.fr hc, decide_eq_true hc]
    simp
  · rw [decide_eq_false hc, Bool.false_or]
    rfl
end
theorem find_lt (T : Tb) (hT : T.Ok) (f : Fld) (h : (T.find f).2.2 = true) : (T.find f).1 < T.n := by
  have hle := hT.le
  unfold Tb.find at h ⊢
  cases h1 : lastAt id f T.first T.l with
  | some i =>
    have := lastAt_range id f T.l T.first i h1
    simp only
    unfold Tb.first at this
    omega
  | none =>
    rw [h1] at h
    cases h2 : lastAt Prod.fst f.1 T.first T.l with
    | some i => rw [h2] at h; cases h
    | none => rw [h2] at h; cases h
def NwR (X Y : Nat → Prop) (w : World) (pe g bm : Nat) (Ar : Option Addr) (cr : Nat) (L : List (Nat × Ro)) (pw s mu : Nat) (E : Qn) (R : Wq) (w' : World) : Prop :=
  ∃ (X' Y' S' : Nat → Prop) (ments' : List (Nat × Value)) (Ao' : Option Addr) (co' : Nat) (Al' : Option Addr) (cl' : Nat), NwM X' Y' w' pe g bm S' Ar cr L pw s mu ments' Ao' co' Al' cl' E R ∧ Frm (Own (fun k => X k ∨ Y k) w) w w' ∧ ∀ k, X' k ∨ Y' k → Own (fun k => X k ∨ Y k) w k
set_option maxRecDepth 100000 in
set_option maxHeartbeats 8000000 in
theorem none_any {X Y S : Nat → Prop} {w : World} {pe g bm cr pw s mu co cl : Nat} {Ar Ao Al : Option Addr} {L : List (Nat × Ro)} {E : Qn} {ments : List (Nat × Value)} {Wr : Wq} (h : NwM X Y w pe g bm S Ar cr L pw s mu ments Ao co Al cl E Wr) (hL : L.length ≤ 4611686018427387903) (f : Fld)
    (hf : fsize f ≤ 1152921504606846976) (hll : Wr.lines.length < 1048576) (hul : Wr.uses.length < 1048576) (hn : Wr.t.n < 1152921504606846976) (hol : Wr.out.length ≤ 1099500000000) :
    Calls Try.prog 44 #[.pointer (some ⟨pw, 0, none⟩), fld f] w fun e w' => e = .returned (.tuple #[]) ∧ NwR X Y w pe g bm Ar cr L pw s mu E (oneN E (E.free s) Wr f) w' := by
  have hfl := find_lt Wr.t h.q.ok f
  obtain ⟨R, hR⟩ : ∃ R, R = oneN E (E.free s) Wr f := ⟨_, rfl⟩
  rw [← hR]
  unfold oneN at hR
  have hf3 := fun w => findh3_any f w
  have hfi : ∀ w', Frm (New w) w w' → Calls Try.prog 73 #[.pointer (some ⟨g, 0, none⟩), fld f] w' fun e w2 => e = .returned (.tuple #[.int .u64 (Wr.t.find f).1, .bool (Wr.t.find f).2.1, .bool (Wr.t.find f).2.2]) ∧ Frm (New w') w' w2 := fun w' fr => tfindS_any f w' (h.q.fresh fr).tab
  have hft : ∀ w', Frm (New w) w w' → Calls Try.prog 76 #[.pointer (some ⟨pw, 0, none⟩), fld f] w' fun e w2 => e = .returned (.bool (E.room Wr.t Wr.uses f)) ∧ Frm (New w') w' w2 := fun w' fr => nfits_any (h.q.fresh fr) (h.v.fresh fr) f hf
  have hro : E.room Wr.t Wr.uses f = true → fsize f ≤ Wr.t.cap := fun e => by
    unfold Qn.room at e
    by_cases hc : secret f.1 = true ∨ Wr.t.cap / 4 < fsize f
    · rw [if_pos hc] at e; cases e
    · omega
  have hma : ∀ w', Frm (New w) w w' → ∀ p : Nat, Calls Try.prog 74 #[.pointer (some ⟨pw, 0, none⟩), .int .u64 (p : Int)] w' fun e w2 => e = .returned (.bool (decide (p < E.known) || E.free s)) ∧ Frm (New w') w' w2 := fun w' fr p => by
    rw [← h.may_eq p]
    exact nmay_any (h.q.fresh fr) hL s Wr.count p mu _ co _ cl Ao Al (h.v.fresh fr).blk
  have hus : ∀ w', Frm (New w) w w' → ∀ p : Nat, p < 1152921504606846976 → (decide (p < E.known) || E.free s) = true → Calls Try.prog 75 #[.pointer (some ⟨pw, 0, none⟩), fld f, .int .u64 (p : Int)] w' fun e w2 => e = .returned (.tuple #[]) ∧ NwR X Y w pe g bm Ar cr L pw s mu E (Wr.use f p) w2 := fun w' fr p hp hm => by
    refine (nuse_any (h.v.fresh fr) f p hp hll hul).mono ?_
    rintro e w2 ⟨rfl, Y', ments', Al', cl', h1, h2, h3⟩
    have ho : ∀ k, Own Y w' k → Own (fun k => X k ∨ Y k) w k := fun k hk => by
      rcases hk with hk | hk
      · exact .inl (.inr hk)
      · exact .inr (Nat.le_trans fr.size hk)
    exact ⟨rfl, _, _, _, _, _, _, _, _, (h.fresh fr).used h1 h2 h3 hm, (fr.mono (fun k hk => .inr hk)).trans (h2.mono ho), fun k hk => by
      rcases hk with hk | hk
      · exact .inl (.inl hk)
      · exact ho k (h3 k hk)⟩
  have hki : E.known ≤ Wr.t.n := h.q.kn
  have hins : ∀ w', Frm (New w) w w' → ∀ (i : Nat) (nm : Bool), i ≤ 4611686018427387903 → fsize f ≤ Wr.t.cap → Calls Try.prog 77 #[.pointer (some ⟨pw, 0, none⟩), fld f, .int .u64 (i : Int), .bool nm] w' fun e w2 => e = .returned (.int .u64 (Wr.t.n : Int)) ∧
      ∃ (X' Y' S' : Nat → Prop) (Ao' : Option Addr) (co' : Nat), NwM X' Y' w2 pe g bm S' Ar cr L pw s mu ments Ao' co' Al cl E { Wr with t := Wr.t.add f, out := Wr.out ++ insN nm i f } ∧ Frm (Own (fun k => X k ∨ Y k) w') w' w2 ∧ ∀ k, X' k ∨ Y' k → Own (fun k => X k ∨ Y k) w' k := fun w' fr i nm hi hc => ninsert_any (h.fresh fr) f i nm hi hc hn hol
  have hq1 := findS_le h3tab f
  have hlow := h.low
  rw [h3_len.2.2] at hq1
  obtain ⟨f1, f2⟩ := f
  generalize findS h3tab (f1, f2) = q at *
  generalize Wr.t.find (f1, f2) = z at *
  obtain ⟨q1, q2, q3⟩ := q
  obtain ⟨z1, z2, z3⟩ := z
  simp only [fld, str] at *
  obtain ⟨fr, hfr⟩ : ∃ fr, fr = E.free s := ⟨_, rfl⟩
  rw [← hfr] at hR hma hus
  have H := Lib.hid h
  have HR := Lib.hid hR
  have HF3 := Lib.hid hf3
  have HFI := Lib.hid hfi
  have HFT := Lib.hid hft
  have HRO := Lib.hid hro
  have HMA := Lib.hid hma
  have HUS := Lib.hid hus
  have HINS := Lib.hid hins
  have HLOW := Lib.hid hlow
  have HFR := Lib.hid hfr
  have HKI := Lib.hid hki
  clear h hR hf3 hfi hft hro hma hus hins hlow hfr hki
  go_enter Try.func44, Try.ntmps44
  go_upto_region 1 with (fail)
  have hB1 := Blk.new w 71 #[.string ⟨f1.toArray⟩, .string ⟨f2.toArray⟩]
  have hF1 : Frm (New w) w (w.alloc (Obj.cells #[.string ⟨f1.toArray⟩, .string ⟨f2.toArray⟩] 71)) := (Frm.refl _ _).alloc Up.new _
  generalize w.alloc (Obj.cells #[.string ⟨f1.toArray⟩, .string ⟨f2.toArray⟩] 71) = w1 at *
  obtain ⟨bx, hbx⟩ : ∃ bx, bx = w.heap.size := ⟨_, rfl⟩
  rw [← hbx] at hB1 ⊢
  have hbw : w.heap.size ≤ bx := by omega
  clear hbx
  have hx0 := hB1.cell 0
  have hx1 := hB1.cell 1
  simp only [List.getElem?_toArray, List.getElem?_cons_zero, List.getElem?_cons_succ] at hx0 hx1
  have hbl := hB1.lt
  have HB1 := Lib.hid hB1
  have HF1 := Lib.hid hF1
  clear hB1 hF1
  go_wp2_with (fail)
  refine (HF3.out w1).mono ?_
  rintro e w2 ⟨rfl, hF2⟩
  have hF02 := HF1.out.then_new Up.new hF2
  have hB2 := HB1.out.fresh hF2
  have hB2n : ¬ Y bx := fun e => by have := HLOW.out bx (.inr e); omega
  have hN2 := H.out.fresh hF02
  have hFW2 : Frm (Own (fun k => X k ∨ Y k) w) w w2 := hF02.mono (fun k hk => .inr hk)
  have hsub2 : ∀ k, X k ∨ Y k → Own (fun k => X k ∨ Y k) w k := fun k hk => .inl hk
  clear hF2 hx0 hx1 hbl HB1 HF1
  have hx0 := hB2.cell 0
  have hx1 := hB2.cell 1
  simp only [List.getElem?_toArray, List.getElem?_cons_zero, List.getElem?_cons_succ] at hx0 hx1
  have hbl := hB2.lt
  have HF02 := Lib.hid hF02
  have HB2 := Lib.hid hB2
  have HN2 := Lib.hid hN2
  have HFW2 := Lib.hid hFW2
  have HSUB2 := Lib.hid hsub2
  clear hF02 hB2 hN2 hFW2 hsub2
  have HB2N := Lib.hid hB2n
  have HB3N := Lib.hid hB2n
  have HB4N := Lib.hid hB2n
  clear hB2n
  cases q3 with
  | true =>
    clear hx0 hx1 hbl
    have hb5 := HN2.out.v.blk
    try simp only at hb5
    have hy5 := hb5.cell 5
    simp only [List.getElem?_toArray, List.getElem?_cons_zero, List.getElem?_cons_succ] at hy5
    have hz5 := hb5.frozen 5
    have hpl := hb5.lt
    have hbx5 := HB2.out
    have hx0 := hbx5.cell 0
    have hx1 := hbx5.cell 1
    simp only [List.getElem?_toArray, List.getElem?_cons_zero, List.getElem?_cons_succ] at hx0 hx1
    have hbl := hbx5.lt
    have hS0 : w2.drew.cell? ⟨pw, 5, none⟩ = some (.slice Al (List.length Wr.lines) cl) ∧ w2.drew.cell? ⟨bx, 0, none⟩ = some (.string ⟨f1.toArray⟩) ∧ w2.drew.cell? ⟨bx, 1, none⟩ = some (.string ⟨f2.toArray⟩) := ⟨hy5, hx0, hx1⟩
    have hup : Up (fun k => Y k ∧ M.blk Al = some k ∨ New w2 k) w2 := fun k hk => .inr hk
    have hlines : App Y w2 90 6 Al (List.length Wr.lines) cl (lqs Wr.lines) := HN2.out.v.lines
    have happ : App (fun k => Y k ∧ M.blk Al = some k ∨ New w2 k) w2 90 6 Al (List.length Wr.lines) cl (lqs Wr.lines) :=
      { hlines with
        inM := fun k hk => .inl ⟨hlines.inM k hk, hk⟩
        own := fun hc => by
          obtain ⟨gg, off, cur, a, b2, d, m⟩ := hlines.own hc
          exact ⟨gg, off, cur, a, b2, d, .inl ⟨m, by rw [a]; rfl⟩⟩ }
    have hnp : ¬ (Y pw ∧ M.blk Al = some pw ∨ New w2 pw) := fun e => by
      rcases e with e | e
      · exact (HN2.out.v.lp pw e.2).1 rfl
      · unfold New at e; omega
    have hnb : ¬ (Y bx ∧ M.blk Al = some bx ∨ New w2 bx) := fun e => by
      rcases e with e | e
      · exact HB2N.out e.1
      · unfold New at e; omega
    have hlnl : Wr.lines.length < 1048576 := hll
    have HB5 := Lib.hid hb5
    have HUP := Lib.hid hup
    have HAPP := Lib.hid happ
    have HNP := Lib.hid hnp
    have HNB := Lib.hid hnb
    have HBX5 := Lib.hid hbx5
    clear hb5 hup happ hnp hnb hbx5
    clear hlines
    go_upto_region 3 with (fail)
    refine wp_region_til (by kernel_rfl) (fun w' => w'.cell? ⟨pw, 5, none⟩ = some (.slice Al (List.length Wr.lines) cl) ∧ w'.cell? ⟨bx, 0, none⟩ = some (.string ⟨f1.toArray⟩) ∧ w'.cell? ⟨bx, 1, none⟩ = some (.string ⟨f2.toArray⟩)) 12 ?_
    change wpAnyT _ _ _ _ _ _ _ _ _ w2.drew
    refine wpAnyT_take (i := 0) (v := ?_) (d := some 18) rfl (by rfl) (by kernel_rfl) (fun _ _ _ h => h) (by rfl) hS0 (fun w hSw => ?_) ?_
    rotate_left
    · (try dsimp only at hSw); go_simp; first | done | (with_reducible rfl)
    simp only [Act.put, List.setIfInBounds_toArray, List.set_cons_zero, List.set_cons_succ]
    refine wpAnyT_take (i := 1) (v := ?_) (d := some 19) rfl (by rfl) (by kernel_rfl) (fun _ _ _ h => h) (by rfl) hS0 (fun w hSw => ?_) ?_
    rotate_left
    · (try dsimp only at hSw); go_simp; first | done | (with_reducible rfl)
    simp only [Act.put, List.setIfInBounds_toArray, List.set_cons_zero, List.set_cons_succ]
    refine wpAnyT_take (i := 2) (v := ?_) (d := some 20) rfl (by rfl) (by kernel_rfl) (fun _ _ _ h => h) (by rfl) hS0 (fun w hSw => ?_) ?_
    rotate_left
    · (try dsimp only at hSw); go_simp; first | done | (with_reducible rfl)
    simp only [Act.put, List.setIfInBounds_toArray, List.set_cons_zero, List.set_cons_succ]
    refine wpAnyT_take (i := 3) (v := ?_) (d := some 21) rfl (by rfl) (by kernel_rfl) (fun _ _ _ h => h) (by rfl) hS0 (fun w hSw => ?_) ?_
    rotate_left
    · (try dsimp only at hSw); go_simp; first | done | (with_reducible rfl)
    simp only [Act.put, List.setIfInBounds_toArray, List.set_cons_zero, List.set_cons_succ]
    refine wpAnyT_take (i := 4) (v := ?_) (d := some 22) rfl (by rfl) (by kernel_rfl) (fun _ _ _ h => h) (by rfl) hS0 (fun w hSw => ?_) ?_
    rotate_left
    · (try dsimp only at hSw); go_simp; first | done | (with_reducible rfl)
    simp only [Act.put, List.setIfInBounds_toArray, List.set_cons_zero, List.set_cons_succ]
    refine wpAnyT_take (i := 5) (v := ?_) (d := some 23) rfl (by rfl) (by kernel_rfl) (fun _ _ _ h => h) (by rfl) hS0 (fun w hSw => ?_) ?_
    rotate_left
    · (try dsimp only at hSw); go_simp; first | done | (with_reducible rfl)
    simp only [Act.put, List.setIfInBounds_toArray, List.set_cons_zero, List.set_cons_succ]
    refine wpAnyT_take (i := 6) (v := ?_) (d := some 24) rfl (by rfl) (by kernel_rfl) (fun _ _ _ h => h) (by rfl) hS0 (fun w hSw => ?_) ?_
    rotate_left
    · (try dsimp only at hSw); go_simp; first | done | (with_reducible rfl)
    simp only [Act.put, List.setIfInBounds_toArray, List.set_cons_zero, List.set_cons_succ]
    refine wpAnyT_take (i := 7) (v := .agg #[.string ⟨f1.toArray⟩, .string ⟨f2.toArray⟩, .int .u64 (q1 : Int), .bool false, .bool true, .bool false]) (d := some 25) rfl (by rfl) (by kernel_rfl) (fun _ _ _ h => h) (by rfl) hS0 (fun w hSw => build_stat rfl rfl rfl) ?_
    simp only [Act.put, List.setIfInBounds_toArray, List.set_cons_zero, List.set_cons_succ]
    have hn0 := World.new_ne w2.drew _ hy5
    have hn1 := World.new_ne w2.drew _ hx0
    refine wpAnyT_one (i := 8) rfl (by kernel_rfl) (fun K hK => ?_)
    go_simp
    refine hK.out _ _ (.inr ((by go_keep))) ?_
    clear hK K
    refine wpAnyT_one (i := 9) rfl (by kernel_rfl) (fun K hKK => ?_)
    refine step_append2 lnsE rfl rfl rfl (HAPP.out.alloc _).drew (fun k hk => HUP.out k (Nat.le_trans (by simp) hk)) rfl (Rd.new _ #[.string ⟨f1.toArray⟩, .string ⟨f2.toArray⟩, .int .u64 (q1 : Int), .bool false, .bool true, .bool false] _) rfl (fun u hu => by simp at hu; rcases hu with rfl | rfl | rfl | rfl | rfl | rfl <;> rfl) (by omega) ?_
    intro A9 c9 w9 hA9 hF9 _ _
    replace hF9 : Frm (fun k => Y k ∧ M.blk Al = some k ∨ New w2 k) w2 w9 := Frm.trans (((Frm.refl _ w2).alloc HUP.out _).drew) hF9
    have hA5 : App (fun k => Y k ∧ M.blk Al = some k ∨ New w2 k) w9 90 6 A9 (Wr.lines.length + 1) c9 (lqs (Wr.lines ++ [(⟨0, q1, (f1, f2)⟩ : Lq)])) := by rw [lqs_append]; exact hA9
    have hQ := HN2.out.line (⟨0, q1, (f1, f2)⟩ : Lq) hA5 hF9 hlnl
    have hy4 : w9.cell? ⟨pw, 5, none⟩ = some (.slice Al (List.length Wr.lines) cl) := by rw [hF9.cell (p := ⟨pw, 5, none⟩) HNP.out]; exact hy5
    have hx4 : w9.cell? ⟨bx, 0, none⟩ = some (.string ⟨f1.toArray⟩) := by rw [hF9.cell (p := ⟨bx, 0, none⟩) HNB.out]; exact hx0
    have hx5 : w9.cell? ⟨bx, 1, none⟩ = some (.string ⟨f2.toArray⟩) := by rw [hF9.cell (p := ⟨bx, 1, none⟩) HNB.out]; exact hx1
    have hS4 : w9.cell? ⟨pw, 5, none⟩ = some (.slice Al (List.length Wr.lines) cl) ∧ w9.cell? ⟨bx, 0, none⟩ = some (.string ⟨f1.toArray⟩) ∧ w9.cell? ⟨bx, 1, none⟩ = some (.string ⟨f2.toArray⟩) := ⟨hy4, hx4, hx5⟩
    have hz4 : w9.frozen? ⟨pw, 5, none⟩ = false := by rw [hF9.frozen (p := ⟨pw, 5, none⟩) HNP.out]; exact hz5
    have hl4 : pw < w9.heap.size := Nat.lt_of_lt_of_le hpl hF9.size
    have hin := hA5.inM
    have HF9 := Lib.hid hF9
    have HIN := Lib.hid hin
    have HQ := Lib.hid hQ
    clear hF9 hin hQ
    clear hA9 hA5
    refine hKK.out _ _ (.inr hS4) ?_
    clear hKK K hS0
    refine wpAnyT_one (i := 10) rfl (by kernel_rfl) (fun K hK => ?_)
    go_simp
    refine hK.out _ _ (.inr (hS4)) ?_
    clear hK K
    refine wpAnyT_one (i := 11) rfl (by kernel_rfl) (fun K hK => ?_)
    go_simp
    refine hK.out _ _ (.inr (hS4)) ?_
    clear hK K
    refine wpAnyT_one (i := 12) rfl (by kernel_rfl) (fun K hK => ?_)
    go_simp
    refine hK.out _ _ (.inl (by kernel_rfl)) ?_
    clear hK K
    refine wpAnyT_done (by kernel_rfl) ?_ _
    have hFe : Frm (Own (fun k => X k ∨ Y k) w) w (w9.setCell ⟨pw, 5, none⟩ (.slice A9 (List.length Wr.lines + 1) c9)) := by
      refine (HFW2.out.trans (HF9.out.mono (fun k hk => ?_))).setCell (p := ⟨pw, 5, none⟩) (.inl (.inr H.out.v.yp)) _
      rcases hk with hk | hk
      · exact HSUB2.out k (.inr hk.1)
      · exact .inr (Nat.le_trans HFW2.out.size hk)
    have hsub9 : ∀ k, X k ∨ (Y k ∨ M.blk A9 = some k) → Own (fun k => X k ∨ Y k) w k := fun k hk => by
      rcases hk with hk | hk | hk
      · exact HSUB2.out k (.inl hk)
      · exact HSUB2.out k (.inr hk)
      · rcases HIN.out k hk with e | e
        · exact HSUB2.out k (.inr e.1)
        · exact .inr (Nat.le_trans HFW2.out.size e)
    have hr9 : R = { Wr with lines := Wr.lines ++ [⟨0, q1, (f1, f2)⟩] } := by rw [HR.out]; rfl
    have HFE := Lib.hid hFe
    have HSUB9 := Lib.hid hsub9
    have HR9 := Lib.hid hr9
    clear hFe hsub9 hr9
    first | go_end0 | (go_wp2_with (fail); first | (refine bodyPost_ret (results_none rfl _ _ _) rfl ?_) | go_end0)
    refine ⟨rfl, ?_⟩
    rw [HR9.out]
    exact ⟨_, _, _, _, _, _, _, _, HQ.out, HFE.out, HSUB9.out⟩
  | false =>
    have hsw : ∀ w', Frm (New w2) w2 w' → w'.cell? ⟨pw, 0, none⟩ = some (.pointer (some ⟨pe, 0, none⟩)) ∧ w'.cell? ⟨pe, 0, none⟩ = some (.pointer (some ⟨g, 0, none⟩)) ∧ w'.cell? ⟨bx, 0, none⟩ = some (.string ⟨f1.toArray⟩) ∧ w'.cell? ⟨bx, 1, none⟩ = some (.string ⟨f2.toArray⟩) ∧ pw < w'.heap.size ∧ pe < w'.heap.size ∧ bx < w'.heap.size := fun w' fr => by
      have k := HN2.out.fresh fr
      have b := HB2.out.fresh fr
      exact ⟨k.v.blk.cell 0, k.q.blk.cell 0, b.cell 0, b.cell 1, k.v.blk.lt, k.q.blk.lt, b.lt⟩
    have hS0 := hsw w2.drew ((Frm.refl _ _).drew)
    have hR2 := HR.out
    simp only [Bool.false_eq_true, if_false] at hR2
    clear HR HF3
    have HSW := Lib.hid hsw
    have HR2 := Lib.hid hR2
    clear hsw hR2
    go_upto_region 4 with (fail)
    refine wp_region_held (by kernel_rfl) (S := fun w' => w'.cell? ⟨pw, 0, none⟩ = some (.pointer (some ⟨pe, 0, none⟩)) ∧ w'.cell? ⟨pe, 0, none⟩ = some (.pointer (some ⟨g, 0, none⟩)) ∧ w'.cell? ⟨bx, 0, none⟩ = some (.string ⟨f1.toArray⟩) ∧ w'.cell? ⟨bx, 1, none⟩ = some (.string ⟨f2.toArray⟩) ∧ pw < w'.heap.size ∧ pe < w'.heap.size ∧ bx < w'.heap.size) ?_
    change wpAnyH _ _ _ _ _ _ _ _ w2.drew
    refine wpAnyH_takeB (i := 0) (v := ?_) (d := some 31) rfl (by rfl) (by kernel_rfl) (fun _ _ _ h => h) (by rfl) hS0 (fun w hSw => ?_) ?_
    rotate_left
    · (try dsimp only at hSw); (try subst hSw); go_simp; first | done | (with_reducible rfl)
    simp only [Act.put, List.setIfInBounds_toArray, List.set_cons_zero, List.set_cons_succ]
    refine wpAnyH_takeB (i := 1) (v := ?_) (d := some 32) rfl (by rfl) (by kernel_rfl) (fun _ _ _ h => h) (by rfl) hS0 (fun w hSw => ?_) ?_
    rotate_left
    · (try dsimp only at hSw); (try subst hSw); go_simp; first | done | (with_reducible rfl)
    simp only [Act.put, List.setIfInBounds_toArray, List.set_cons_zero, List.set_cons_succ]
    refine wpAnyH_takeB (i := 2) (v := ?_) (d := some 33) rfl (by rfl) (by kernel_rfl) (fun _ _ _ h => h) (by rfl) hS0 (fun w hSw => ?_) ?_
    rotate_left
    · (try dsimp only at hSw); (try subst hSw); go_simp; first | done | (with_reducible rfl)
    simp only [Act.put, List.setIfInBounds_toArray, List.set_cons_zero, List.set_cons_succ]
    refine wpAnyH_takeB (i := 3) (v := ?_) (d := some 34) rfl (by rfl) (by kernel_rfl) (fun _ _ _ h => h) (by rfl) hS0 (fun w hSw => ?_) ?_
    rotate_left
    · (try dsimp only at hSw); (try subst hSw); go_simp; first | done | (with_reducible rfl)
    simp only [Act.put, List.setIfInBounds_toArray, List.set_cons_zero, List.set_cons_succ]
    refine wpAnyH_takeB (i := 4) (v := ?_) (d := some 35) rfl (by rfl) (by kernel_rfl) (fun _ _ _ h => h) (by rfl) hS0 (fun w hSw => ?_) ?_
    rotate_left
    · (try dsimp only at hSw); (try subst hSw); go_simp; first | done | (with_reducible rfl)
    simp only [Act.put, List.setIfInBounds_toArray, List.set_cons_zero, List.set_cons_succ]
    refine wpAnyH_takeB (i := 5) (v := ?_) (d := some 36) rfl (by rfl) (by kernel_rfl) (fun _ _ _ h => h) (by rfl) hS0 (fun w hSw => ?_) ?_
    rotate_left
    · (try dsimp only at hSw); (try subst hSw); go_simp; first | done | (with_reducible rfl)
    simp only [Act.put, List.setIfInBounds_toArray, List.set_cons_zero, List.set_cons_succ]
    refine wpAnyH_takeB (i := 6) (v := ?_) (d := some 37) rfl (by rfl) (by kernel_rfl) (fun _ _ _ h => h) (by rfl) hS0 (fun w hSw => ?_) ?_
    rotate_left
    · (try dsimp only at hSw); (try subst hSw); go_simp; first | done | (with_reducible rfl)
    simp only [Act.put, List.setIfInBounds_toArray, List.set_cons_zero, List.set_cons_succ]
    refine wpAnyH_takeB (i := 7) (v := ?_) (d := some 38) rfl (by rfl) (by kernel_rfl) (fun _ _ _ h => h) (by rfl) hS0 (fun w hSw => ?_) ?_
    rotate_left
    · (try dsimp only at hSw); (try subst hSw); go_simp; first | done | (with_reducible rfl)
    simp only [Act.put, List.setIfInBounds_toArray, List.set_cons_zero, List.set_cons_succ]
    refine wpAnyH_oneB (i := 8) rfl (by kernel_rfl) (fun K hKK => ?_)
    refine Eq.mpr (if_pos (by rfl)) ?_
    go_wp2_with (fail)
    refine (HFI.out w2.drew HF02.out.drew).mono ?_
    rintro e w3 ⟨rfl, hF3⟩
    replace hF3 : Frm (New w2) w2 w3 := Frm.trans ((Frm.refl _ w2).drew) hF3
    have hS3 := HSW.out w3 hF3
    refine hKK.out _ _ hS3 ?_
    clear hKK K hS0
    try simp only [Act.put, List.setIfInBounds_toArray, List.set_cons_zero, List.set_cons_succ]
    refine wpAnyH_takeB (i := 9) (v := ?_) (d := some 30) rfl (by rfl) (by kernel_rfl) (fun _ _ _ h => h) (by rfl) hS3 (fun w hSw => ?_) ?_
    rotate_left
    · (try dsimp only at hSw); (try subst hSw); go_simp; first | done | (with_reducible rfl)
    simp only [Act.put, List.setIfInBounds_toArray, List.set_cons_zero, List.set_cons_succ]
    refine wpAnyH_takeB (i := 10) (v := ?_) (d := some 40) rfl (by rfl) (by kernel_rfl) (fun _ _ _ h => h) (by rfl) hS3 (fun w hSw => ?_) ?_
    rotate_left
    · (try dsimp only at hSw); (try subst hSw); go_simp; first | done | (with_reducible rfl)
    simp only [Act.put, List.setIfInBounds_toArray, List.set_cons_zero, List.set_cons_succ]
    refine wpAnyH_takeB (i := 11) (v := ?_) (d := some 41) rfl (by rfl) (by kernel_rfl) (fun _ _ _ h => h) (by rfl) hS3 (fun w hSw => ?_) ?_
    rotate_left
    · (try dsimp only at hSw); (try subst hSw); go_simp; first | done | (with_reducible rfl)
    simp only [Act.put, List.setIfInBounds_toArray, List.set_cons_zero, List.set_cons_succ]
    refine wpAnyH_takeB (i := 12) (v := ?_) (d := some 42) rfl (by rfl) (by kernel_rfl) (fun _ _ _ h => h) (by rfl) hS3 (fun w hSw => ?_) ?_
    rotate_left
    · (try dsimp only at hSw); (try subst hSw); go_simp; first | done | (with_reducible rfl)
    simp only [Act.put, List.setIfInBounds_toArray, List.set_cons_zero, List.set_cons_succ]
    refine wpAnyH_oneB (i := 13) rfl (by kernel_rfl) (fun K hK => ?_)
    refine Eq.mpr (if_pos (by rfl)) ?_
    go_simp
    refine hK.out _ _ (hS3) ?_
    clear hK K
    try simp only [Act.put, List.setIfInBounds_toArray, List.set_cons_zero, List.set_cons_succ]
    refine wpAnyH_oneB (i := 14) rfl (by kernel_rfl) (fun K hK => ?_)
    refine Eq.mpr (if_pos (by rfl)) ?_
    go_simp
    refine hK.out _ _ (hS3) ?_
    clear hK K
    try simp only [Act.put, List.setIfInBounds_toArray, List.set_cons_zero, List.set_cons_succ]
    refine wpAnyH_oneB (i := 15) rfl (by kernel_rfl) (fun K hK => ?_)
    refine Eq.mpr (if_pos (by rfl)) ?_
    go_simp
    refine hK.out _ _ (hS3) ?_
    clear hK K
    try simp only [Act.put, List.setIfInBounds_toArray, List.set_cons_zero, List.set_cons_succ]
    refine wpAnyH_done (by kernel_rfl) ?_ _
    have hF03 := HF02.out.then_new Up.new hF3
    have hB3 := HB2.out.fresh hF3
    have hN3 := HN2.out.fresh hF3
    have hFW3 : Frm (Own (fun k => X k ∨ Y k) w) w w3 := hF03.mono (fun k hk => .inr hk)
    obtain ⟨hp0, hp1, hx0, hx1, hpl, hel, hbl⟩ := hS3
    clear hF3 HB2 HN2 HFW2 HF02 HSW
    have HB3 := Lib.hid hB3
    have HN3 := Lib.hid hN3
    have HFW3 := Lib.hid hFW3
    have HF03 := Lib.hid hF03
    clear hB3 hN3 hFW3 hF03
    cases z3 with
    | true =>
      simp only [if_true] at HR2
      go_wp2_with (fail)
      refine (HMA.out w3 HF03.out z1).mono ?_
      rintro e w4 ⟨rfl, hF4⟩
      have hF04 := HF03.out.then_new Up.new hF4
      have hB4 := HB3.out.fresh hF4
      have hN4 := HN3.out.fresh hF4
      have hFW4 : Frm (Own (fun k => X k ∨ Y k) w) w w4 := hF04.mono (fun k hk => .inr hk)
      clear hF4 hx0 hx1 hbl hp0 hp1 hpl hel HB3 HN3 HFW3 HF03
      have HB4 := Lib.hid hB4
      have HN4 := Lib.hid hN4
      have HFW4 := Lib.hid hFW4
      have HF04 := Lib.hid hF04
      clear hB4 hN4 hFW4 hF04
      cases hm : (decide (z1 < E.known) || fr) with
      | true =>
        have hre := HR2.out
        rw [hm] at hre
        simp only [if_true] at hre
        have hzl : z1 < 1152921504606846976 := by have := hfl trivial; omega
        have HRE := Lib.hid hre
        clear hre
        clear HR2
        obtain ⟨hx0, hx1, hbl⟩ : w4.cell? ⟨bx, 0, none⟩ = some (.string ⟨f1.toArray⟩) ∧ w4.cell? ⟨bx, 1, none⟩ = some (.string ⟨f2.toArray⟩) ∧ bx < w4.heap.size := ⟨HB4.out.cell 0, HB4.out.cell 1, HB4.out.lt⟩
        go_wp2_with (fail)
        refine (HUS.out w4 HF04.out z1 hzl hm).mono ?_
        rintro e w9 ⟨rfl, hR9⟩
        go_wp2_with (fail)
        first | (refine bodyPost_ret (results_none rfl _ _ _) rfl ?_) | go_end0
        refine ⟨rfl, ?_⟩
        rw [HRE.out]
        exact hR9
      | false =>
        have hre := HR2.out
        rw [hm] at hre
        simp only [if_false, Bool.false_eq_true] at hre
        have HRE := Lib.hid hre
        clear hre
        clear HR2
        cases q2 with
        | true =>
          have hb5 := HN4.out.v.blk
          try simp only at hb5
          have hy5 := hb5.cell 5
          simp only [List.getElem?_toArray, List.getElem?_cons_zero, List.getElem?_cons_succ] at hy5
          have hz5 := hb5.frozen 5
          have hpl := hb5.lt
          have hbx5 := HB4.out
          have hx0 := hbx5.cell 0
          have hx1 := hbx5.cell 1
          simp only [List.getElem?_toArray, List.getElem?_cons_zero, List.getElem?_cons_succ] at hx0 hx1
          have hbl := hbx5.lt
          have hS0 : w4.drew.cell? ⟨pw, 5, none⟩ = some (.slice Al (List.length Wr.lines) cl) ∧ w4.drew.cell? ⟨bx, 0, none⟩ = some (.string ⟨f1.toArray⟩) ∧ w4.drew.cell? ⟨bx, 1, none⟩ = some (.string ⟨f2.toArray⟩) := ⟨hy5, hx0, hx1⟩
          have hup : Up (fun k => Y k ∧ M.blk Al = some k ∨ New w4 k) w4 := fun k hk => .inr hk
          have hlines : App Y w4 90 6 Al (List.length Wr.lines) cl (lqs Wr.lines) := HN4.out.v.lines
          have happ : App (fun k => Y k ∧ M.blk Al = some k ∨ New w4 k) w4 90 6 Al (List.length Wr.lines) cl (lqs Wr.lines) :=
            { hlines with
              inM := fun k hk => .inl ⟨hlines.inM k hk, hk⟩
              own := fun hc => by
                obtain ⟨gg, off, cur, a, b2, d, m⟩ := hlines.own hc
                exact ⟨gg, off, cur, a, b2, d, .inl ⟨m, by rw [a]; rfl⟩⟩ }
          have hnp : ¬ (Y pw ∧ M.blk Al = some pw ∨ New w4 pw) := fun e => by
            rcases e with e | e
            · exact (HN4.out.v.lp pw e.2).1 rfl
            · unfold New at e; omega
          have hnb : ¬ (Y bx ∧ M.blk Al = some bx ∨ New w4 bx) := fun e => by
            rcases e with e | e
            · exact HB4N.out e.1
            · unfold New at e; omega
          have hlnl : Wr.lines.length < 1048576 := hll
          have HB5 := Lib.hid hb5
          have HUP := Lib.hid hup
          have HAPP := Lib.hid happ
          have HNP := Lib.hid hnp
          have HNB := Lib.hid hnb
          have HBX5 := Lib.hid hbx5
          clear hb5 hup happ hnp hnb hbx5
          clear hlines
          go_upto_region 11 with (fail)
          refine wp_region_til (by kernel_rfl) (fun w' => w'.cell? ⟨pw, 5, none⟩ = some (.slice Al (List.length Wr.lines) cl) ∧ w'.cell? ⟨bx, 0, none⟩ = some (.string ⟨f1.toArray⟩) ∧ w'.cell? ⟨bx, 1, none⟩ = some (.string ⟨f2.toArray⟩)) 13 ?_
          change wpAnyT _ _ _ _ _ _ _ _ _ w4.drew
          refine wpAnyT_take (i := 0) (v := ?_) (d := some 72) rfl (by rfl) (by kernel_rfl) (fun _ _ _ h => h) (by rfl) hS0 (fun w hSw => ?_) ?_
          rotate_left
          · (try dsimp only at hSw); go_simp; first | done | (with_reducible rfl)
          simp only [Act.put, List.setIfInBounds_toArray, List.set_cons_zero, List.set_cons_succ]
          refine wpAnyT_take (i := 1) (v := ?_) (d := some 73) rfl (by rfl) (by kernel_rfl) (fun _ _ _ h => h) (by rfl) hS0 (fun w hSw => ?_) ?_
          rotate_left
          · (try dsimp only at hSw); go_simp; first | done | (with_reducible rfl)
          simp only [Act.put, List.setIfInBounds_toArray, List.set_cons_zero, List.set_cons_succ]
          refine wpAnyT_take (i := 2) (v := ?_) (d := some 74) rfl (by rfl) (by kernel_rfl) (fun _ _ _ h => h) (by rfl) hS0 (fun w hSw => ?_) ?_
          rotate_left
          · (try dsimp only at hSw); go_simp; first | done | (with_reducible rfl)
          simp only [Act.put, List.setIfInBounds_toArray, List.set_cons_zero, List.set_cons_succ]
          refine wpAnyT_take (i := 3) (v := ?_) (d := some 75) rfl (by rfl) (by kernel_rfl) (fun _ _ _ h => h) (by rfl) hS0 (fun w hSw => ?_) ?_
          rotate_left
          · (try dsimp only at hSw); go_simp; first | done | (with_reducible rfl)
          simp only [Act.put, List.setIfInBounds_toArray, List.set_cons_zero, List.set_cons_succ]
          refine wpAnyT_take (i := 4) (v := ?_) (d := some 76) rfl (by rfl) (by kernel_rfl) (fun _ _ _ h => h) (by rfl) hS0 (fun w hSw => ?_) ?_
          rotate_left
          · (try dsimp only at hSw); go_simp; first | done | (with_reducible rfl)
          simp only [Act.put, List.setIfInBounds_toArray, List.set_cons_zero, List.set_cons_succ]
          refine wpAnyT_take (i := 5) (v := ?_) (d := some 77) rfl (by rfl) (by kernel_rfl) (fun _ _ _ h => h) (by rfl) hS0 (fun w hSw => ?_) ?_
          rotate_left
          · (try dsimp only at hSw); go_simp; first | done | (with_reducible rfl)
          simp only [Act.put, List.setIfInBounds_toArray, List.set_cons_zero, List.set_cons_succ]
          refine wpAnyT_take (i := 6) (v := ?_) (d := some 78) rfl (by rfl) (by kernel_rfl) (fun _ _ _ h => h) (by rfl) hS0 (fun w hSw => ?_) ?_
          rotate_left
          · (try dsimp only at hSw); go_simp; first | done | (with_reducible rfl)
          simp only [Act.put, List.setIfInBounds_toArray, List.set_cons_zero, List.set_cons_succ]
          refine wpAnyT_take (i := 7) (v := ?_) (d := some 79) rfl (by rfl) (by kernel_rfl) (fun _ _ _ h => h) (by rfl) hS0 (fun w hSw => ?_) ?_
          rotate_left
          · (try dsimp only at hSw); go_simp; first | done | (with_reducible rfl)
          simp only [Act.put, List.setIfInBounds_toArray, List.set_cons_zero, List.set_cons_succ]
          refine wpAnyT_take (i := 8) (v := .agg #[.string ⟨f1.toArray⟩, .string ⟨f2.toArray⟩, .int .u64 (q1 : Int), .bool false, .bool false, .bool true]) (d := some 80) rfl (by rfl) (by kernel_rfl) (fun _ _ _ h => h) (by rfl) hS0 (fun w hSw => build_lit rfl rfl rfl rfl) ?_
          simp only [Act.put, List.setIfInBounds_toArray, List.set_cons_zero, List.set_cons_succ]
          have hn0 := World.new_ne w4.drew _ hy5
          have hn1 := World.new_ne w4.drew _ hx0
          refine wpAnyT_one (i := 9) rfl (by kernel_rfl) (fun K hK => ?_)
          go_simp
          refine hK.out _ _ (.inr ((by go_keep))) ?_
          clear hK K
          refine wpAnyT_one (i := 10) rfl (by kernel_rfl) (fun K hKK => ?_)
          refine step_append2 lnsE rfl rfl rfl (HAPP.out.alloc _).drew (fun k hk => HUP.out k (Nat.le_trans (by simp) hk)) rfl (Rd.new _ #[.string ⟨f1.toArray⟩, .string ⟨f2.toArray⟩, .int .u64 (q1 : Int), .bool false, .bool false, .bool true] _) rfl (fun u hu => by simp at hu; rcases hu with rfl | rfl | rfl | rfl | rfl | rfl <;> rfl) (by omega) ?_
          intro A9 c9 w9 hA9 hF9 _ _
          replace hF9 : Frm (fun k => Y k ∧ M.blk Al = some k ∨ New w4 k) w4 w9 := Frm.trans (((Frm.refl _ w4).alloc HUP.out _).drew) hF9
          have hA5 : App (fun k => Y k ∧ M.blk Al = some k ∨ New w4 k) w9 90 6 A9 (Wr.lines.length + 1) c9 (lqs (Wr.lines ++ [(litQn (q1, true, false) (f1, f2))])) := by rw [lqs_append]; exact hA9
          have hQ := HN4.out.line (litQn (q1, true, false) (f1, f2)) hA5 hF9 hlnl
          have hy4 : w9.cell? ⟨pw, 5, none⟩ = some (.slice Al (List.length Wr.lines) cl) := by rw [hF9.cell (p := ⟨pw, 5, none⟩) HNP.out]; exact hy5
          have hx4 : w9.cell? ⟨bx, 0, none⟩ = some (.string ⟨f1.toArray⟩) := by rw [hF9.cell (p := ⟨bx, 0, none⟩) HNB.out]; exact hx0
          have hx5 : w9.cell? ⟨bx, 1, none⟩ = some (.string ⟨f2.toArray⟩) := by rw [hF9.cell (p := ⟨bx, 1, none⟩) HNB.out]; exact hx1
          have hS4 : w9.cell? ⟨pw, 5, none⟩ = some (.slice Al (List.length Wr.lines) cl) ∧ w9.cell? ⟨bx, 0, none⟩ = some (.string ⟨f1.toArray⟩) ∧ w9.cell? ⟨bx, 1, none⟩ = some (.string ⟨f2.toArray⟩) := ⟨hy4, hx4, hx5⟩
          have hz4 : w9.frozen? ⟨pw, 5, none⟩ = false := by rw [hF9.frozen (p := ⟨pw, 5, none⟩) HNP.out]; exact hz5
          have hl4 : pw < w9.heap.size := Nat.lt_of_lt_of_le hpl hF9.size
          have hin := hA5.inM
          have HF9 := Lib.hid hF9
          have HIN := Lib.hid hin
          have HQ := Lib.hid hQ
          clear hF9 hin hQ
          clear hA9 hA5
          refine hKK.out _ _ (.inr hS4) ?_
          clear hKK K hS0
          refine wpAnyT_one (i := 11) rfl (by kernel_rfl) (fun K hK => ?_)
          go_simp
          refine hK.out _ _ (.inr (hS4)) ?_
          clear hK K
          refine wpAnyT_one (i := 12) rfl (by kernel_rfl) (fun K hK => ?_)
          go_simp
          refine hK.out _ _ (.inr (hS4)) ?_
          clear hK K
          refine wpAnyT_one (i := 13) rfl (by kernel_rfl) (fun K hK => ?_)
          go_simp
          refine hK.out _ _ (.inl (by kernel_rfl)) ?_
          clear hK K
          refine wpAnyT_done (by kernel_rfl) ?_ _
          have hFe : Frm (Own (fun k => X k ∨ Y k) w) w (w9.setCell ⟨pw, 5, none⟩ (.slice A9 (List.length Wr.lines + 1) c9)) := by
            refine (HFW4.out.trans (HF9.out.mono (fun k hk => ?_))).setCell (p := ⟨pw, 5, none⟩) (.inl (.inr H.out.v.yp)) _
            rcases hk with hk | hk
            · exact HSUB2.out k (.inr hk.1)
            · exact .inr (Nat.le_trans HFW4.out.size hk)
          have hsub9 : ∀ k, X k ∨ (Y k ∨ M.blk A9 = some k) → Own (fun k => X k ∨ Y k) w k := fun k hk => by
            rcases hk with hk | hk | hk
            · exact HSUB2.out k (.inl hk)
            · exact HSUB2.out k (.inr hk)
            · rcases HIN.out k hk with e | e
              · exact HSUB2.out k (.inr e.1)
              · exact .inr (Nat.le_trans HFW4.out.size e)
          have hr9 : R = { Wr with lines := Wr.lines ++ [litQn (q1, true, false) (f1, f2)] } := by rw [HRE.out]
          have HFE := Lib.hid hFe
          have HSUB9 := Lib.hid hsub9
          have HR9 := Lib.hid hr9
          clear hFe hsub9 hr9
          first | go_end0 | (go_wp2_with (fail); first | (refine bodyPost_ret (results_none rfl _ _ _) rfl ?_) | go_end0)
          refine ⟨rfl, ?_⟩
          rw [HR9.out]
          exact ⟨_, _, _, _, _, _, _, _, HQ.out, HFE.out, HSUB9.out⟩
        | false =>
          have hb5 := HN4.out.v.blk
          try simp only at hb5
          have hy5 := hb5.cell 5
          simp only [List.getElem?_toArray, List.getElem?_cons_zero, List.getElem?_cons_succ] at hy5
          have hz5 := hb5.frozen 5
          have hpl := hb5.lt
          have hbx5 := HB4.out
          have hx0 := hbx5.cell 0
          have hx1 := hbx5.cell 1
          simp only [List.getElem?_toArray, List.getElem?_cons_zero, List.getElem?_cons_succ] at hx0 hx1
          have hbl := hbx5.lt
          have hS0 : w4.drew.cell? ⟨pw, 5, none⟩ = some (.slice Al (List.length Wr.lines) cl) ∧ w4.drew.cell? ⟨bx, 0, none⟩ = some (.string ⟨f1.toArray⟩) ∧ w4.drew.cell? ⟨bx, 1, none⟩ = some (.string ⟨f2.toArray⟩) := ⟨hy5, hx0, hx1⟩
          have hup : Up (fun k => Y k ∧ M.blk Al = some k ∨ New w4 k) w4 := fun k hk => .inr hk
          have hlines : App Y w4 90 6 Al (List.length Wr.lines) cl (lqs Wr.lines) := HN4.out.v.lines
          have happ : App (fun k => Y k ∧ M.blk Al = some k ∨ New w4 k) w4 90 6 Al (List.length Wr.lines) cl (lqs Wr.lines) :=
            { hlines with
              inM := fun k hk => .inl ⟨hlines.inM k hk, hk⟩
              own := fun hc => by
                obtain ⟨gg, off, cur, a, b2, d, m⟩ := hlines.own hc
                exact ⟨gg, off, cur, a, b2, d, .inl ⟨m, by rw [a]; rfl⟩⟩ }
          have hnp : ¬ (Y pw ∧ M.blk Al = some pw ∨ New w4 pw) := fun e => by
            rcases e with e | e
            · exact (HN4.out.v.lp pw e.2).1 rfl
            · unfold New at e; omega
          have hnb : ¬ (Y bx ∧ M.blk Al = some bx ∨ New w4 bx) := fun e => by
            rcases e with e | e
            · exact HB4N.out e.1
            · unfold New at e; omega
          have hlnl : Wr.lines.length < 1048576 := hll
          have HB5 := Lib.hid hb5
          have HUP := Lib.hid hup
          have HAPP := Lib.hid happ
          have HNP := Lib.hid hnp
          have HNB := Lib.hid hnb
          have HBX5 := Lib.hid hbx5
          clear hb5 hup happ hnp hnb hbx5
          clear hlines
          go_upto_region 11 with (fail)
          refine wp_region_til (by kernel_rfl) (fun w' => w'.cell? ⟨pw, 5, none⟩ = some (.slice Al (List.length Wr.lines) cl) ∧ w'.cell? ⟨bx, 0, none⟩ = some (.string ⟨f1.toArray⟩) ∧ w'.cell? ⟨bx, 1, none⟩ = some (.string ⟨f2.toArray⟩)) 13 ?_
          change wpAnyT _ _ _ _ _ _ _ _ _ w4.drew
          refine wpAnyT_take (i := 0) (v := ?_) (d := some 72) rfl (by rfl) (by kernel_rfl) (fun _ _ _ h => h) (by rfl) hS0 (fun w hSw => ?_) ?_
          rotate_left
          · (try dsimp only at hSw); go_simp; first | done | (with_reducible rfl)
          simp only [Act.put, List.setIfInBounds_toArray, List.set_cons_zero, List.set_cons_succ]
          refine wpAnyT_take (i := 1) (v := ?_) (d := some 73) rfl (by rfl) (by kernel_rfl) (fun _ _ _ h => h) (by rfl) hS0 (fun w hSw => ?_) ?_
          rotate_left
          · (try dsimp only at hSw); go_simp; first | done | (with_reducible rfl)
          simp only [Act.put, List.setIfInBounds_toArray, List.set_cons_zero, List.set_cons_succ]
          refine wpAnyT_take (i := 2) (v := ?_) (d := some 74) rfl (by rfl) (by kernel_rfl) (fun _ _ _ h => h) (by rfl) hS0 (fun w hSw => ?_) ?_
          rotate_left
          · (try dsimp only at hSw); go_simp; first | done | (with_reducible rfl)
          simp only [Act.put, List.setIfInBounds_toArray, List.set_cons_zero, List.set_cons_succ]
          refine wpAnyT_take (i := 3) (v := ?_) (d := some 75) rfl (by rfl) (by kernel_rfl) (fun _ _ _ h => h) (by rfl) hS0 (fun w hSw => ?_) ?_
          rotate_left
          · (try dsimp only at hSw); go_simp; first | done | (with_reducible rfl)
          simp only [Act.put, List.setIfInBounds_toArray, List.set_cons_zero, List.set_cons_succ]
          refine wpAnyT_take (i := 4) (v := ?_) (d := some 76) rfl (by rfl) (by kernel_rfl) (fun _ _ _ h => h) (by rfl) hS0 (fun w hSw => ?_) ?_
          rotate_left
          · (try dsimp only at hSw); go_simp; first | done | (with_reducible rfl)
          simp only [Act.put, List.setIfInBounds_toArray, List.set_cons_zero, List.set_cons_succ]
          refine wpAnyT_take (i := 5) (v := ?_) (d := some 77) rfl (by rfl) (by kernel_rfl) (fun _ _ _ h => h) (by rfl) hS0 (fun w hSw => ?_) ?_
          rotate_left
          · (try dsimp only at hSw); go_simp; first | done | (with_reducible rfl)
          simp only [Act.put, List.setIfInBounds_toArray, List.set_cons_zero, List.set_cons_succ]
          refine wpAnyT_take (i := 6) (v := ?_) (d := some 78) rfl (by rfl) (by kernel_rfl) (fun _ _ _ h => h) (by rfl) hS0 (fun w hSw => ?_) ?_
          rotate_left
          · (try dsimp only at hSw); go_simp; first | done | (with_reducible rfl)
          simp only [Act.put, List.setIfInBounds_toArray, List.set_cons_zero, List.set_cons_succ]
          refine wpAnyT_take (i := 7) (v := ?_) (d := some 79) rfl (by rfl) (by kernel_rfl) (fun _ _ _ h => h) (by rfl) hS0 (fun w hSw => ?_) ?_
          rotate_left
          · (try dsimp only at hSw); go_simp; first | done | (with_reducible rfl)
          simp only [Act.put, List.setIfInBounds_toArray, List.set_cons_zero, List.set_cons_succ]
          refine wpAnyT_take (i := 8) (v := .agg #[.string ⟨f1.toArray⟩, .string ⟨f2.toArray⟩, .int .u64 (q1 : Int), .bool false, .bool false, .bool false]) (d := some 80) rfl (by rfl) (by kernel_rfl) (fun _ _ _ h => h) (by rfl) hS0 (fun w hSw => build_lit rfl rfl rfl rfl) ?_
          simp only [Act.put, List.setIfInBounds_toArray, List.set_cons_zero, List.set_cons_succ]
          have hn0 := World.new_ne w4.drew _ hy5
          have hn1 := World.new_ne w4.drew _ hx0
          refine wpAnyT_one (i := 9) rfl (by kernel_rfl) (fun K hK => ?_)
          go_simp
          refine hK.out _ _ (.inr ((by go_keep))) ?_
          clear hK K
          refine wpAnyT_one (i := 10) rfl (by kernel_rfl) (fun K hKK => ?_)
          refine step_append2 lnsE rfl rfl rfl (HAPP.out.alloc _).drew (fun k hk => HUP.out k (Nat.le_trans (by simp) hk)) rfl (Rd.new _ #[.string ⟨f1.toArray⟩, .string ⟨f2.toArray⟩, .int .u64 (q1 : Int), .bool false, .bool false, .bool false] _) rfl (fun u hu => by simp at hu; rcases hu with rfl | rfl | rfl | rfl | rfl | rfl <;> rfl) (by omega) ?_
          intro A9 c9 w9 hA9 hF9 _ _
          replace hF9 : Frm (fun k => Y k ∧ M.blk Al = some k ∨ New w4 k) w4 w9 := Frm.trans (((Frm.refl _ w4).alloc HUP.out _).drew) hF9
          have hA5 : App (fun k => Y k ∧ M.blk Al = some k ∨ New w4 k) w9 90 6 A9 (Wr.lines.length + 1) c9 (lqs (Wr.lines ++ [(litQn (q1, false, false) (f1, f2))])) := by rw [lqs_append]; exact hA9
          have hQ := HN4.out.line (litQn (q1, false, false) (f1, f2)) hA5 hF9 hlnl
          have hy4 : w9.cell? ⟨pw, 5, none⟩ = some (.slice Al (List.length Wr.lines) cl) := by rw [hF9.cell (p := ⟨pw, 5, none⟩) HNP.out]; exact hy5
          have hx4 : w9.cell? ⟨bx, 0, none⟩ = some (.string ⟨f1.toArray⟩) := by rw [hF9.cell (p := ⟨bx, 0, none⟩) HNB.out]; exact hx0
          have hx5 : w9.cell? ⟨bx, 1, none⟩ = some (.string ⟨f2.toArray⟩) := by rw [hF9.cell (p := ⟨bx, 1, none⟩) HNB.out]; exact hx1
          have hS4 : w9.cell? ⟨pw, 5, none⟩ = some (.slice Al (List.length Wr.lines) cl) ∧ w9.cell? ⟨bx, 0, none⟩ = some (.string ⟨f1.toArray⟩) ∧ w9.cell? ⟨bx, 1, none⟩ = some (.string ⟨f2.toArray⟩) := ⟨hy4, hx4, hx5⟩
          have hz4 : w9.frozen? ⟨pw, 5, none⟩ = false := by rw [hF9.frozen (p := ⟨pw, 5, none⟩) HNP.out]; exact hz5
          have hl4 : pw < w9.heap.size := Nat.lt_of_lt_of_le hpl hF9.size
          have hin := hA5.inM
          have HF9 := Lib.hid hF9
          have HIN := Lib.hid hin
          have HQ := Lib.hid hQ
          clear hF9 hin hQ
          clear hA9 hA5
          refine hKK.out _ _ (.inr hS4) ?_
          clear hKK K hS0
          refine wpAnyT_one (i := 11) rfl (by kernel_rfl) (fun K hK => ?_)
          go_simp
          refine hK.out _ _ (.inr (hS4)) ?_
          clear hK K
          refine wpAnyT_one (i := 12) rfl (by kernel_rfl) (fun K hK => ?_)
          go_simp
          refine hK.out _ _ (.inr (hS4)) ?_
          clear hK K
          refine wpAnyT_one (i := 13) rfl (by kernel_rfl) (fun K hK => ?_)
          go_simp
          refine hK.out _ _ (.inl (by kernel_rfl)) ?_
          clear hK K
          refine wpAnyT_done (by kernel_rfl) ?_ _
          have hFe : Frm (Own (fun k => X k ∨ Y k) w) w (w9.setCell ⟨pw, 5, none⟩ (.slice A9 (List.length Wr.lines + 1) c9)) := by
            refine (HFW4.out.trans (HF9.out.mono (fun k hk => ?_))).setCell (p := ⟨pw, 5, none⟩) (.inl (.inr H.out.v.yp)) _
            rcases hk with hk | hk
            · exact HSUB2.out k (.inr hk.1)
            · exact .inr (Nat.le_trans HFW4.out.size hk)
          have hsub9 : ∀ k, X k ∨ (Y k ∨ M.blk A9 = some k) → Own (fun k => X k ∨ Y k) w k := fun k hk => by
            rcases hk with hk | hk | hk
            · exact HSUB2.out k (.inl hk)
            · exact HSUB2.out k (.inr hk)
            · rcases HIN.out k hk with e | e
              · exact HSUB2.out k (.inr e.1)
              · exact .inr (Nat.le_trans HFW4.out.size e)
          have hr9 : R = { Wr with lines := Wr.lines ++ [litQn (q1, false, false) (f1, f2)] } := by rw [HRE.out]
          have HFE := Lib.hid hFe
          have HSUB9 := Lib.hid hsub9
          have HR9 := Lib.hid hr9
          clear hFe hsub9 hr9
          first | go_end0 | (go_wp2_with (fail); first | (refine bodyPost_ret (results_none rfl _ _ _) rfl ?_) | go_end0)
          refine ⟨rfl, ?_⟩
          rw [HR9.out]
          exact ⟨_, _, _, _, _, _, _, _, HQ.out, HFE.out, HSUB9.out⟩
    | false =>
      go_wp2_with (fail)
      refine (HFT.out w3 HF03.out).mono ?_
      rintro e w4 ⟨rfl, hF4⟩
      have hF04 := HF03.out.then_new Up.new hF4
      have hB4 := HB3.out.fresh hF4
      have hN4 := HN3.out.fresh hF4
      have hFW4 : Frm (Own (fun k => X k ∨ Y k) w) w w4 := hF04.mono (fun k hk => .inr hk)
      clear hF4 hx0 hx1 hbl hp0 hp1 hpl hel HB3 HN3 HFW3 HF03
      have HB4 := Lib.hid hB4
      have HN4 := Lib.hid hN4
      have HFW4 := Lib.hid hFW4
      have HF04 := Lib.hid hF04
      clear hB4 hN4 hFW4 hF04
      cases hm : E.room Wr.t Wr.uses (f1, f2) with
      | false =>
        have hre := HR2.out
        rw [hm] at hre
        simp only [if_false, Bool.false_eq_true] at hre
        have HRE := Lib.hid hre
        clear hre
        clear HR2
        cases q2 with
        | true =>
          have hb5 := HN4.out.v.blk
          try simp only at hb5
          have hy5 := hb5.cell 5
          simp only [List.getElem?_toArray, List.getElem?_cons_zero, List.getElem?_cons_succ] at hy5
          have hz5 := hb5.frozen 5
          have hpl := hb5.lt
          have hbx5 := HB4.out
          have hx0 := hbx5.cell 0
          have hx1 := hbx5.cell 1
          simp only [List.getElem?_toArray, List.getElem?_cons_zero, List.getElem?_cons_succ] at hx0 hx1
          have hbl := hbx5.lt
          have hS0 : w4.drew.cell? ⟨pw, 5, none⟩ = some (.slice Al (List.length Wr.lines) cl) ∧ w4.drew.cell? ⟨bx, 0, none⟩ = some (.string ⟨f1.toArray⟩) ∧ w4.drew.cell? ⟨bx, 1, none⟩ = some (.string ⟨f2.toArray⟩) := ⟨hy5, hx0, hx1⟩
          have hup : Up (fun k => Y k ∧ M.blk Al = some k ∨ New w4 k) w4 := fun k hk => .inr hk
          have hlines : App Y w4 90 6 Al (List.length Wr.lines) cl (lqs Wr.lines) := HN4.out.v.lines
          have happ : App (fun k => Y k ∧ M.blk Al = some k ∨ New w4 k) w4 90 6 Al (List.length Wr.lines) cl (lqs Wr.lines) :=
            { hlines with
              inM := fun k hk => .inl ⟨hlines.inM k hk, hk⟩
              own := fun hc => by
                obtain ⟨gg, off, cur, a, b2, d, m⟩ := hlines.own hc
                exact ⟨gg, off, cur, a, b2, d, .inl ⟨m, by rw [a]; rfl⟩⟩ }
          have hnp : ¬ (Y pw ∧ M.blk Al = some pw ∨ New w4 pw) := fun e => by
            rcases e with e | e
            · exact (HN4.out.v.lp pw e.2).1 rfl
            · unfold New at e; omega
          have hnb : ¬ (Y bx ∧ M.blk Al = some bx ∨ New w4 bx) := fun e => by
            rcases e with e | e
            · exact HB4N.out e.1
            · unfold New at e; omega
          have hlnl : Wr.lines.length < 1048576 := hll
          have HB5 := Lib.hid hb5
          have HUP := Lib.hid hup
          have HAPP := Lib.hid happ
          have HNP := Lib.hid hnp
          have HNB := Lib.hid hnb
          have HBX5 := Lib.hid hbx5
          clear hb5 hup happ hnp hnb hbx5
          clear hlines
          go_upto_region 11 with (fail)
          refine wp_region_til (by kernel_rfl) (fun w' => w'.cell? ⟨pw, 5, none⟩ = some (.slice Al (List.length Wr.lines) cl) ∧ w'.cell? ⟨bx, 0, none⟩ = some (.string ⟨f1.toArray⟩) ∧ w'.cell? ⟨bx, 1, none⟩ = some (.string ⟨f2.toArray⟩)) 13 ?_
          change wpAnyT _ _ _ _ _ _ _ _ _ w4.drew
          refine wpAnyT_take (i := 0) (v := ?_) (d := some 72) rfl (by rfl) (by kernel_rfl) (fun _ _ _ h => h) (by rfl) hS0 (fun w hSw => ?_) ?_
          rotate_left
          · (try dsimp only at hSw); go_simp; first | done | (with_reducible rfl)
          simp only [Act.put, List.setIfInBounds_toArray, List.set_cons_zero, List.set_cons_succ]
          refine wpAnyT_take (i := 1) (v := ?_) (d := some 73) rfl (by rfl) (by kernel_rfl) (fun _ _ _ h => h) (by rfl) hS0 (fun w hSw => ?_) ?_
          rotate_left
          · (try dsimp only at hSw); go_simp; first | done | (with_reducible rfl)
          simp only [Act.put, List.setIfInBounds_toArray, List.set_cons_zero, List.set_cons_succ]
          refine wpAnyT_take (i := 2) (v := ?_) (d := some 74) rfl (by rfl) (by kernel_rfl) (fun _ _ _ h => h) (by rfl) hS0 (fun w hSw => ?_) ?_
          rotate_left
          · (try dsimp only at hSw); go_simp; first | done | (with_reducible rfl)
          simp only [Act.put, List.setIfInBounds_toArray, List.set_cons_zero, List.set_cons_succ]
          refine wpAnyT_take (i := 3) (v := ?_) (d := some 75) rfl (by rfl) (by kernel_rfl) (fun _ _ _ h => h) (by rfl) hS0 (fun w hSw => ?_) ?_
          rotate_left
          · (try dsimp only at hSw); go_simp; first | done | (with_reducible rfl)
          simp only [Act.put, List.setIfInBounds_toArray, List.set_cons_zero, List.set_cons_succ]
          refine wpAnyT_take (i := 4) (v := ?_) (d := some 76) rfl (by rfl) (by kernel_rfl) (fun _ _ _ h => h) (by rfl) hS0 (fun w hSw => ?_) ?_
          rotate_left
          · (try dsimp only at hSw); go_simp; first | done | (with_reducible rfl)
          simp only [Act.put, List.setIfInBounds_toArray, List.set_cons_zero, List.set_cons_succ]
          refine wpAnyT_take (i := 5) (v := ?_) (d := some 77) rfl (by rfl) (by kernel_rfl) (fun _ _ _ h => h) (by rfl) hS0 (fun w hSw => ?_) ?_
          rotate_left
          · (try dsimp only at hSw); go_simp; first | done | (with_reducible rfl)
          simp only [Act.put, List.setIfInBounds_toArray, List.set_cons_zero, List.set_cons_succ]
          refine wpAnyT_take (i := 6) (v := ?_) (d := some 78) rfl (by rfl) (by kernel_rfl) (fun _ _ _ h => h) (by rfl) hS0 (fun w hSw => ?_) ?_
          rotate_left
          · (try dsimp only at hSw); go_simp; first | done | (with_reducible rfl)
          simp only [Act.put, List.setIfInBounds_toArray, List.set_cons_zero, List.set_cons_succ]
          refine wpAnyT_take (i := 7) (v := ?_) (d := some 79) rfl (by rfl) (by kernel_rfl) (fun _ _ _ h => h) (by rfl) hS0 (fun w hSw => ?_) ?_
          rotate_left
          · (try dsimp only at hSw); go_simp; first | done | (with_reducible rfl)
          simp only [Act.put, List.setIfInBounds_toArray, List.set_cons_zero, List.set_cons_succ]
          refine wpAnyT_take (i := 8) (v := .agg #[.string ⟨f1.toArray⟩, .string ⟨f2.toArray⟩, .int .u64 (q1 : Int), .bool false, .bool false, .bool true]) (d := some 80) rfl (by rfl) (by kernel_rfl) (fun _ _ _ h => h) (by rfl) hS0 (fun w hSw => build_lit rfl rfl rfl rfl) ?_
          simp only [Act.put, List.setIfInBounds_toArray, List.set_cons_zero, List.set_cons_succ]
          have hn0 := World.new_ne w4.drew _ hy5
          have hn1 := World.new_ne w4.drew _ hx0
          refine wpAnyT_one (i := 9) rfl (by kernel_rfl) (fun K hK => ?_)
          go_simp
          refine hK.out _ _ (.inr ((by go_keep))) ?_
          clear hK K
          refine wpAnyT_one (i := 10) rfl (by kernel_rfl) (fun K hKK => ?_)
          refine step_append2 lnsE rfl rfl rfl (HAPP.out.alloc _).drew (fun k hk => HUP.out k (Nat.le_trans (by simp) hk)) rfl (Rd.new _ #[.string ⟨f1.toArray⟩, .string ⟨f2.toArray⟩, .int .u64 (q1 : Int), .bool false, .bool false, .bool true] _) rfl (fun u hu => by simp at hu; rcases hu with rfl | rfl | rfl | rfl | rfl | rfl <;> rfl) (by omega) ?_
          intro A9 c9 w9 hA9 hF9 _ _
          replace hF9 : Frm (fun k => Y k ∧ M.blk Al = some k ∨ New w4 k) w4 w9 := Frm.trans (((Frm.refl _ w4).alloc HUP.out _).drew) hF9
          have hA5 : App (fun k => Y k ∧ M.blk Al = some k ∨ New w4 k) w9 90 6 A9 (Wr.lines.length + 1) c9 (lqs (Wr.lines ++ [(litQn (q1, true, false) (f1, f2))])) := by rw [lqs_append]; exact hA9
          have hQ := HN4.out.line (litQn (q1, true, false) (f1, f2)) hA5 hF9 hlnl
          have hy4 : w9.cell? ⟨pw, 5, none⟩ = some (.slice Al (List.length Wr.lines) cl) := by rw [hF9.cell (p := ⟨pw, 5, none⟩) HNP.out]; exact hy5
          have hx4 : w9.cell? ⟨bx, 0, none⟩ = some (.string ⟨f1.toArray⟩) := by rw [hF9.cell (p := ⟨bx, 0, none⟩) HNB.out]; exact hx0
          have hx5 : w9.cell? ⟨bx, 1, none⟩ = some (.string ⟨f2.toArray⟩) := by rw [hF9.cell (p := ⟨bx, 1, none⟩) HNB.out]; exact hx1
          have hS4 : w9.cell? ⟨pw, 5, none⟩ = some (.slice Al (List.length Wr.lines) cl) ∧ w9.cell? ⟨bx, 0, none⟩ = some (.string ⟨f1.toArray⟩) ∧ w9.cell? ⟨bx, 1, none⟩ = some (.string ⟨f2.toArray⟩) := ⟨hy4, hx4, hx5⟩
          have hz4 : w9.frozen? ⟨pw, 5, none⟩ = false := by rw [hF9.frozen (p := ⟨pw, 5, none⟩) HNP.out]; exact hz5
          have hl4 : pw < w9.heap.size := Nat.lt_of_lt_of_le hpl hF9.size
          have hin := hA5.inM
          have HF9 := Lib.hid hF9
          have HIN := Lib.hid hin
          have HQ := Lib.hid hQ
          clear hF9 hin hQ
          clear hA9 hA5
          refine hKK.out _ _ (.inr hS4) ?_
          clear hKK K hS0
          refine wpAnyT_one (i := 11) rfl (by kernel_rfl) (fun K hK => ?_)
          go_simp
          refine hK.out _ _ (.inr (hS4)) ?_
          clear hK K
          refine wpAnyT_one (i := 12) rfl (by kernel_rfl) (fun K hK => ?_)
          go_simp
          refine hK.out _ _ (.inr (hS4)) ?_
          clear hK K
          refine wpAnyT_one (i := 13) rfl (by kernel_rfl) (fun K hK => ?_)
          go_simp
          refine hK.out _ _ (.inl (by kernel_rfl)) ?_
          clear hK K
          refine wpAnyT_done (by kernel_rfl) ?_ _
          have hFe : Frm (Own (fun k => X k ∨ Y k) w) w (w9.setCell ⟨pw, 5, none⟩ (.slice A9 (List.length Wr.lines + 1) c9)) := by
            refine (HFW4.out.trans (HF9.out.mono (fun k hk => ?_))).setCell (p := ⟨pw, 5, none⟩) (.inl (.inr H.out.v.yp)) _
            rcases hk with hk | hk
            · exact HSUB2.out k (.inr hk.1)
            · exact .inr (Nat.le_trans HFW4.out.size hk)
          have hsub9 : ∀ k, X k ∨ (Y k ∨ M.blk A9 = some k) → Own (fun k => X k ∨ Y k) w k := fun k hk => by
            rcases hk with hk | hk | hk
            · exact HSUB2.out k (.inl hk)
            · exact HSUB2.out k (.inr hk)
            · rcases HIN.out k hk with e | e
              · exact HSUB2.out k (.inr e.1)
              · exact .inr (Nat.le_trans HFW4.out.size e)
          have hr9 : R = { Wr with lines := Wr.lines ++ [litQn (q1, true, false) (f1, f2)] } := by rw [HRE.out]
          have HFE := Lib.hid hFe
          have HSUB9 := Lib.hid hsub9
          have HR9 := Lib.hid hr9
          clear hFe hsub9 hr9
          first | go_end0 | (go_wp2_with (fail); first | (refine bodyPost_ret (results_none rfl _ _ _) rfl ?_) | go_end0)
          refine ⟨rfl, ?_⟩
          rw [HR9.out]
          exact ⟨_, _, _, _, _, _, _, _, HQ.out, HFE.out, HSUB9.out⟩
        | false =>
          have hb5 := HN4.out.v.blk
          try simp only at hb5
          have hy5 := hb5.cell 5
          simp only [List.getElem?_toArray, List.getElem?_cons_zero, List.getElem?_cons_succ] at hy5
          have hz5 := hb5.frozen 5
          have hpl := hb5.lt
          have hbx5 := HB4.out
          have hx0 := hbx5.cell 0
          have hx1 := hbx5.cell 1
          simp only [List.getElem?_toArray, List.getElem?_cons_zero, List.getElem?_cons_succ] at hx0 hx1
          have hbl := hbx5.lt
          have hS0 : w4.drew.cell? ⟨pw, 5, none⟩ = some (.slice Al (List.length Wr.lines) cl) ∧ w4.drew.cell? ⟨bx, 0, none⟩ = some (.string ⟨f1.toArray⟩) ∧ w4.drew.cell? ⟨bx, 1, none⟩ = some (.string ⟨f2.toArray⟩) := ⟨hy5, hx0, hx1⟩
          have hup : Up (fun k => Y k ∧ M.blk Al = some k ∨ New w4 k) w4 := fun k hk => .inr hk
          have hlines : App Y w4 90 6 Al (List.length Wr.lines) cl (lqs Wr.lines) := HN4.out.v.lines
          have happ : App (fun k => Y k ∧ M.blk Al = some k ∨ New w4 k) w4 90 6 Al (List.length Wr.lines) cl (lqs Wr.lines) :=
            { hlines with
              inM := fun k hk => .inl ⟨hlines.inM k hk, hk⟩
              own := fun hc => by
                obtain ⟨gg, off, cur, a, b2, d, m⟩ := hlines.own hc
                exact ⟨gg, off, cur, a, b2, d, .inl ⟨m, by rw [a]; rfl⟩⟩ }
          have hnp : ¬ (Y pw ∧ M.blk Al = some pw ∨ New w4 pw) := fun e => by
            rcases e with e | e
            · exact (HN4.out.v.lp pw e.2).1 rfl
            · unfold New at e; omega
          have hnb : ¬ (Y bx ∧ M.blk Al = some bx ∨ New w4 bx) := fun e => by
            rcases e with e | e
            · exact HB4N.out e.1
            · unfold New at e; omega
          have hlnl : Wr.lines.length < 1048576 := hll
          have HB5 := Lib.hid hb5
          have HUP := Lib.hid hup
          have HAPP := Lib.hid happ
          have HNP := Lib.hid hnp
          have HNB := Lib.hid hnb
          have HBX5 := Lib.hid hbx5
          clear hb5 hup happ hnp hnb hbx5
          clear hlines
          go_upto_region 11 with (fail)
          refine wp_region_til (by kernel_rfl) (fun w' => w'.cell? ⟨pw, 5, none⟩ = some (.slice Al (List.length Wr.lines) cl) ∧ w'.cell? ⟨bx, 0, none⟩ = some (.string ⟨f1.toArray⟩) ∧ w'.cell? ⟨bx, 1, none⟩ = some (.string ⟨f2.toArray⟩)) 13 ?_
          change wpAnyT _ _ _ _ _ _ _ _ _ w4.drew
          refine wpAnyT_take (i := 0) (v := ?_) (d := some 72) rfl (by rfl) (by kernel_rfl) (fun _ _ _ h => h) (by rfl) hS0 (fun w hSw => ?_) ?_
          rotate_left
          · (try dsimp only at hSw); go_simp; first | done | (with_reducible rfl)
          simp only [Act.put, List.setIfInBounds_toArray, List.set_cons_zero, List.set_cons_succ]
          refine wpAnyT_take (i := 1) (v := ?_) (d := some 73) rfl (by rfl) (by kernel_rfl) (fun _ _ _ h => h) (by rfl) hS0 (fun w hSw => ?_) ?_
          rotate_left
          · (try dsimp only at hSw); go_simp; first | done | (with_reducible rfl)
          simp only [Act.put, List.setIfInBounds_toArray, List.set_cons_zero, List.set_cons_succ]
          refine wpAnyT_take (i := 2) (v := ?_) (d := some 74) rfl (by rfl) (by kernel_rfl) (fun _ _ _ h => h) (by rfl) hS0 (fun w hSw => ?_) ?_
          rotate_left
          · (try dsimp only at hSw); go_simp; first | done | (with_reducible rfl)
          simp only [Act.put, List.setIfInBounds_toArray, List.set_cons_zero, List.set_cons_succ]
          refine wpAnyT_take (i := 3) (v := ?_) (d := some 75) rfl (by rfl) (by kernel_rfl) (fun _ _ _ h => h) (by rfl) hS0 (fun w hSw => ?_) ?_
          rotate_left
          · (try dsimp only at hSw); go_simp; first | done | (with_reducible rfl)
          simp only [Act.put, List.setIfInBounds_toArray, List.set_cons_zero, List.set_cons_succ]
          refine wpAnyT_take (i := 4) (v := ?_) (d := some 76) rfl (by rfl) (by kernel_rfl) (fun _ _ _ h => h) (by rfl) hS0 (fun w hSw => ?_) ?_
          rotate_left
          · (try dsimp only at hSw); go_simp; first | done | (with_reducible rfl)
          simp only [Act.put, List.setIfInBounds_toArray, List.set_cons_zero, List.set_cons_succ]
          refine wpAnyT_take (i := 5) (v := ?_) (d := some 77) rfl (by rfl) (by kernel_rfl) (fun _ _ _ h => h) (by rfl) hS0 (fun w hSw => ?_) ?_
          rotate_left
          · (try dsimp only at hSw); go_simp; first | done | (with_reducible rfl)
          simp only [Act.put, List.setIfInBounds_toArray, List.set_cons_zero, List.set_cons_succ]
          refine wpAnyT_take (i := 6) (v := ?_) (d := some 78) rfl (by rfl) (by kernel_rfl) (fun _ _ _ h => h) (by rfl) hS0 (fun w hSw => ?_) ?_
          rotate_left
          · (try dsimp only at hSw); go_simp; first | done | (with_reducible rfl)
          simp only [Act.put, List.setIfInBounds_toArray, List.set_cons_zero, List.set_cons_succ]
          refine wpAnyT_take (i := 7) (v := ?_) (d := some 79) rfl (by rfl) (by kernel_rfl) (fun _ _ _ h => h) (by rfl) hS0 (fun w hSw => ?_) ?_
          rotate_left
          · (try dsimp only at hSw); go_simp; first | done | (with_reducible rfl)
          simp only [Act.put, List.setIfInBounds_toArray, List.set_cons_zero, List.set_cons_succ]
          refine wpAnyT_take (i := 8) (v := .agg #[.string ⟨f1.toArray⟩, .string ⟨f2.toArray⟩, .int .u64 (q1 : Int), .bool false, .bool false, .bool false]) (d := some 80) rfl (by rfl) (by kernel_rfl) (fun _ _ _ h => h) (by rfl) hS0 (fun w hSw => build_lit rfl rfl rfl rfl) ?_
          simp only [Act.put, List.setIfInBounds_toArray, List.set_cons_zero, List.set_cons_succ]
          have hn0 := World.new_ne w4.drew _ hy5
          have hn1 := World.new_ne w4.drew _ hx0
          refine wpAnyT_one (i := 9) rfl (by kernel_rfl) (fun K hK => ?_)
          go_simp
          refine hK.out _ _ (.inr ((by go_keep))) ?_
          clear hK K
          refine wpAnyT_one (i := 10) rfl (by kernel_rfl) (fun K hKK => ?_)
          refine step_append2 lnsE rfl rfl rfl (HAPP.out.alloc _).drew (fun k hk => HUP.out k (Nat.le_trans (by simp) hk)) rfl (Rd.new _ #[.string ⟨f1.toArray⟩, .string ⟨f2.toArray⟩, .int .u64 (q1 : Int), .bool false, .bool false, .bool false] _) rfl (fun u hu => by simp at hu; rcases hu with rfl | rfl | rfl | rfl | rfl | rfl <;> rfl) (by omega) ?_
          intro A9 c9 w9 hA9 hF9 _ _
          replace hF9 : Frm (fun k => Y k ∧ M.blk Al = some k ∨ New w4 k) w4 w9 := Frm.trans (((Frm.refl _ w4).alloc HUP.out _).drew) hF9
          have hA5 : App (fun k => Y k ∧ M.blk Al = some k ∨ New w4 k) w9 90 6 A9 (Wr.lines.length + 1) c9 (lqs (Wr.lines ++ [(litQn (q1, false, false) (f1, f2))])) := by rw [lqs_append]; exact hA9
          have hQ := HN4.out.line (litQn (q1, false, false) (f1, f2)) hA5 hF9 hlnl
          have hy4 : w9.cell? ⟨pw, 5, none⟩ = some (.slice Al (List.length Wr.lines) cl) := by rw [hF9.cell (p := ⟨pw, 5, none⟩) HNP.out]; exact hy5
          have hx4 : w9.cell? ⟨bx, 0, none⟩ = some (.string ⟨f1.toArray⟩) := by rw [hF9.cell (p := ⟨bx, 0, none⟩) HNB.out]; exact hx0
          have hx5 : w9.cell? ⟨bx, 1, none⟩ = some (.string ⟨f2.toArray⟩) := by rw [hF9.cell (p := ⟨bx, 1, none⟩) HNB.out]; exact hx1
          have hS4 : w9.cell? ⟨pw, 5, none⟩ = some (.slice Al (List.length Wr.lines) cl) ∧ w9.cell? ⟨bx, 0, none⟩ = some (.string ⟨f1.toArray⟩) ∧ w9.cell? ⟨bx, 1, none⟩ = some (.string ⟨f2.toArray⟩) := ⟨hy4, hx4, hx5⟩
          have hz4 : w9.frozen? ⟨pw, 5, none⟩ = false := by rw [hF9.frozen (p := ⟨pw, 5, none⟩) HNP.out]; exact hz5
          have hl4 : pw < w9.heap.size := Nat.lt_of_lt_of_le hpl hF9.size
          have hin := hA5.inM
          have HF9 := Lib.hid hF9
          have HIN := Lib.hid hin
          have HQ := Lib.hid hQ
          clear hF9 hin hQ
          clear hA9 hA5
          refine hKK.out _ _ (.inr hS4) ?_
          clear hKK K hS0
          refine wpAnyT_one (i := 11) rfl (by kernel_rfl) (fun K hK => ?_)
          go_simp
          refine hK.out _ _ (.inr (hS4)) ?_
          clear hK K
          refine wpAnyT_one (i := 12) rfl (by kernel_rfl) (fun K hK => ?_)
          go_simp
          refine hK.out _ _ (.inr (hS4)) ?_
          clear hK K
          refine wpAnyT_one (i := 13) rfl (by kernel_rfl) (fun K hK => ?_)
          go_simp
          refine hK.out _ _ (.inl (by kernel_rfl)) ?_
          clear hK K
          refine wpAnyT_done (by kernel_rfl) ?_ _
          have hFe : Frm (Own (fun k => X k ∨ Y k) w) w (w9.setCell ⟨pw, 5, none⟩ (.slice A9 (List.length Wr.lines + 1) c9)) := by
            refine (HFW4.out.trans (HF9.out.mono (fun k hk => ?_))).setCell (p := ⟨pw, 5, none⟩) (.inl (.inr H.out.v.yp)) _
            rcases hk with hk | hk
            · exact HSUB2.out k (.inr hk.1)
            · exact .inr (Nat.le_trans HFW4.out.size hk)
          have hsub9 : ∀ k, X k ∨ (Y k ∨ M.blk A9 = some k) → Own (fun k => X k ∨ Y k) w k := fun k hk => by
            rcases hk with hk | hk | hk
            · exact HSUB2.out k (.inl hk)
            · exact HSUB2.out k (.inr hk)
            · rcases HIN.out k hk with e | e
              · exact HSUB2.out k (.inr e.1)
              · exact .inr (Nat.le_trans HFW4.out.size e)
          have hr9 : R = { Wr with lines := Wr.lines ++ [litQn (q1, false, false) (f1, f2)] } := by rw [HRE.out]
          have HFE := Lib.hid hFe
          have HSUB9 := Lib.hid hsub9
          have HR9 := Lib.hid hr9
          clear hFe hsub9 hr9
          first | go_end0 | (go_wp2_with (fail); first | (refine bodyPost_ret (results_none rfl _ _ _) rfl ?_) | go_end0)
          refine ⟨rfl, ?_⟩
          rw [HR9.out]
          exact ⟨_, _, _, _, _, _, _, _, HQ.out, HFE.out, HSUB9.out⟩
      | true =>
        have hfc := HRO.out hm
        have hre := HR2.out
        rw [hm] at hre
        simp only [if_true, if_false, Bool.false_eq_true] at hre
        clear HR2
        obtain ⟨hx0, hx1, hbl⟩ : w4.cell? ⟨bx, 0, none⟩ = some (.string ⟨f1.toArray⟩) ∧ w4.cell? ⟨bx, 1, none⟩ = some (.string ⟨f2.toArray⟩) ∧ bx < w4.heap.size := ⟨HB4.out.cell 0, HB4.out.cell 1, HB4.out.lt⟩
        go_wp2_with (fail)
        refine (HINS.out w4 HF04.out q1 q2 (by omega) hfc).mono ?_
        rintro e w5 ⟨rfl, X5, Y5, S5, Ao5, co5, hN5, hF5, hs5⟩
        have hn2 : (Wr.t.add (f1, f2)).n = Wr.t.n + 1 := (Tb.add_ok H.out.q.ok hfc).2
        obtain ⟨W5, hW5⟩ : ∃ W5 : Wq, W5 = { Wr with t := Wr.t.add (f1, f2), out := Wr.out ++ insN q2 q1 (f1, f2) } := ⟨_, rfl⟩
        rw [show (Wr.t.add (f1, f2)).n - 1 = Wr.t.n by omega, show insB (q1, q2, false) (f1, f2) = insN q2 q1 (f1, f2) from rfl] at hre
        have hre2 : R = if fr = true then W5.use (f1, f2) Wr.t.n else { W5 with lines := W5.lines ++ [litQn (q1, q2, false) (f1, f2)] } := by rw [hre, hW5]
        rw [← hW5] at hN5
        have hll5 : W5.lines.length < 1048576 := by rw [hW5]; exact hll
        have hul5 : W5.uses.length < 1048576 := by rw [hW5]; exact hul
        have h45 : w.heap.size ≤ w4.heap.size := HF04.out.size
        have hbl4 := HB4.out.lt
        have hB5n : ¬ Y5 bx := fun e => by
          rcases hs5 bx (.inr e) with e | e
          · have := HLOW.out bx e; omega
          · have e : w4.heap.size ≤ bx := e; omega
        have hB5 := HB4.out.keep hF5 (fun e => by
          rcases e with e | e
          · have := HLOW.out bx e; omega
          · have e : w4.heap.size ≤ bx := e; omega)
        have hFW5 : Frm (Own (fun k => X k ∨ Y k) w) w w5 := HFW4.out.trans (hF5.mono (fun k hk => by
          rcases hk with e | e
          · exact .inl e
          · exact .inr (Nat.le_trans h45 e)))
        have hsub5 : ∀ k, X5 k ∨ Y5 k → Own (fun k => X k ∨ Y k) w k := fun k hk => by
          rcases hs5 k hk with e | e
          · exact .inl e
          · exact .inr (Nat.le_trans h45 e)
        clear hF5 hs5 hx0 hx1 hbl hn2 HN4 HB4 HFW4 hll hul hre hW5 h45 hbl4
        have hma5 : Calls Try.prog 74 #[.pointer (some ⟨pw, 0, none⟩), .int .u64 (Wr.t.n : Int)] w5 fun e w2 => e = .returned (.bool fr) ∧ Frm (New w5) w5 w2 := by
          have h9 := nmay_any hN5.q hL s W5.count Wr.t.n mu _ co5 _ cl Ao5 Al hN5.v.blk
          have h8 : ({ E with t := W5.t } : Qn).may s W5.count Wr.t.n = fr := by
            rw [show ({ E with t := W5.t } : Qn).may s W5.count Wr.t.n = E.may s W5.count Wr.t.n from rfl, hN5.may_eq, decide_eq_false (by have := HKI.out; omega), Bool.false_or, HFR.out]
          rw [h8] at h9
          exact h9
        have HMA5 := Lib.hid hma5
        have HN5 := Lib.hid hN5
        have HB5 := Lib.hid hB5
        have HB5N := Lib.hid hB5n
        have HFW5 := Lib.hid hFW5
        have HSUB5 := Lib.hid hsub5
        have HRE2 := Lib.hid hre2
        clear hma5 hN5 hB5 hB5n hFW5 hsub5 hre2
        go_wp2_with (fail)
        refine HMA5.out.mono ?_
        rintro e w6 ⟨rfl, hF6⟩
        have hB6 := HB5.out.fresh hF6
        have hN6 := HN5.out.fresh hF6
        have hFW6 : Frm (Own (fun k => X k ∨ Y k) w) w w6 := HFW5.out.then_new (fun k hk => .inr hk) hF6
        have hB6n := HB5N.out
        clear hF6 HB5 HN5 HFW5 HB5N
        have HB6 := Lib.hid hB6
        have HN6 := Lib.hid hN6
        have HFW6 := Lib.hid hFW6
        have HB6N := Lib.hid hB6n
        clear hB6 hN6 hFW6 hB6n
        cases fr with
        | true =>
          have hre := HRE2.out
          simp only [if_true] at hre
          clear HRE2
          obtain ⟨hx0, hx1, hbl⟩ : w6.cell? ⟨bx, 0, none⟩ = some (.string ⟨f1.toArray⟩) ∧ w6.cell? ⟨bx, 1, none⟩ = some (.string ⟨f2.toArray⟩) ∧ bx < w6.heap.size := ⟨HB6.out.cell 0, HB6.out.cell 1, HB6.out.lt⟩
          have hus6 : Calls Try.prog 75 #[.pointer (some ⟨pw, 0, none⟩), .agg #[.string ⟨f1.toArray⟩, .string ⟨f2.toArray⟩], .int .u64 (Wr.t.n : Int)] w6 fun e w2 => e = .returned (.tuple #[]) ∧ NwR X Y w pe g bm Ar cr L pw s mu E (W5.use (f1, f2) Wr.t.n) w2 := by
            refine (nuse_any HN6.out.v (f1, f2) Wr.t.n hn hll5 hul5).mono ?_
            rintro e w2 ⟨rfl, Y', ments', Al', cl', h1, h2, h3⟩
            have ho : ∀ k, Own Y5 w6 k → Own (fun k => X k ∨ Y k) w k := fun k hk => by
              rcases hk with hk | hk
              · exact HSUB5.out k (.inr hk)
              · exact .inr (Nat.le_trans HFW6.out.size hk)
            exact ⟨rfl, _, _, _, _, _, _, _, _, HN6.out.used h1 h2 h3 (by rw [← HFR.out, Bool.or_true]), HFW6.out.trans (h2.mono ho), fun k hk => by
              rcases hk with hk | hk
              · exact HSUB5.out k (.inl hk)
              · exact ho k (h3 k hk)⟩
          have HRE := Lib.hid hre
          have HUS6 := Lib.hid hus6
          clear hre hus6
          go_wp2_with (fail)
          refine HUS6.out.mono ?_
          rintro e w9 ⟨rfl, hR9⟩
          go_wp2_with (fail)
          first | (refine bodyPost_ret (results_none rfl _ _ _) rfl ?_) | go_end0
          refine ⟨rfl, ?_⟩
          rw [HRE.out]
          exact hR9
        | false =>
          have hre := HRE2.out
          simp only [if_false, Bool.false_eq_true] at hre
          have hll := hll5
          have HRE := Lib.hid hre
          clear hre
          clear HRE2
          cases q2 with
          | true =>
            have hb5 := HN6.out.v.blk
            try simp only at hb5
            have hy5 := hb5.cell 5
            simp only [List.getElem?_toArray, List.getElem?_cons_zero, List.getElem?_cons_succ] at hy5
            have hz5 := hb5.frozen 5
            have hpl := hb5.lt
            have hbx5 := HB6.out
            have hx0 := hbx5.cell 0
            have hx1 := hbx5.cell 1
            simp only [List.getElem?_toArray, List.getElem?_cons_zero, List.getElem?_cons_succ] at hx0 hx1
            have hbl := hbx5.lt
            have hS0 : w6.drew.cell? ⟨pw, 5, none⟩ = some (.slice Al (List.length W5.lines) cl) ∧ w6.drew.cell? ⟨bx, 0, none⟩ = some (.string ⟨f1.toArray⟩) ∧ w6.drew.cell? ⟨bx, 1, none⟩ = some (.string ⟨f2.toArray⟩) := ⟨hy5, hx0, hx1⟩
            have hup : Up (fun k => Y5 k ∧ M.blk Al = some k ∨ New w6 k) w6 := fun k hk => .inr hk
            have hlines : App Y5 w6 90 6 Al (List.length W5.lines) cl (lqs W5.lines) := HN6.out.v.lines
            have happ : App (fun k => Y5 k ∧ M.blk Al = some k ∨ New w6 k) w6 90 6 Al (List.length W5.lines) cl (lqs W5.lines) :=
              { hlines with
                inM := fun k hk => .inl ⟨hlines.inM k hk, hk⟩
                own := fun hc => by
                  obtain ⟨gg, off, cur, a, b2, d, m⟩ := hlines.own hc
                  exact ⟨gg, off, cur, a, b2, d, .inl ⟨m, by rw [a]; rfl⟩⟩ }
            have hnp : ¬ (Y5 pw ∧ M.blk Al = some pw ∨ New w6 pw) := fun e => by
              rcases e with e | e
              · exact (HN6.out.v.lp pw e.2).1 rfl
              · unfold New at e; omega
            have hnb : ¬ (Y5 bx ∧ M.blk Al = some bx ∨ New w6 bx) := fun e => by
              rcases e with e | e
              · exact HB6N.out e.1
              · unfold New at e; omega
            have hlnl : W5.lines.length < 1048576 := hll
            have HB5 := Lib.hid hb5
            have HUP := Lib.hid hup
            have HAPP := Lib.hid happ
            have HNP := Lib.hid hnp
            have HNB := Lib.hid hnb
            have HBX5 := Lib.hid hbx5
            clear hb5 hup happ hnp hnb hbx5
            clear hlines
            go_upto_region 11 with (fail)
            refine wp_region_til (by kernel_rfl) (fun w' => w'.cell? ⟨pw, 5, none⟩ = some (.slice Al (List.length W5.lines) cl) ∧ w'.cell? ⟨bx, 0, none⟩ = some (.string ⟨f1.toArray⟩) ∧ w'.cell? ⟨bx, 1, none⟩ = some (.string ⟨f2.toArray⟩)) 13 ?_
            change wpAnyT _ _ _ _ _ _ _ _ _ w6.drew
            refine wpAnyT_take (i := 0) (v := ?_) (d := some 72) rfl (by rfl) (by kernel_rfl) (fun _ _ _ h => h) (by rfl) hS0 (fun w hSw => ?_) ?_
            rotate_left
            · (try dsimp only at hSw); go_simp; first | done | (with_reducible rfl)
            simp only [Act.put, List.setIfInBounds_toArray, List.set_cons_zero, List.set_cons_succ]
            refine wpAnyT_take (i := 1) (v := ?_) (d := some 73) rfl (by rfl) (by kernel_rfl) (fun _ _ _ h => h) (by rfl) hS0 (fun w hSw => ?_) ?_
            rotate_left
            · (try dsimp only at hSw); go_simp; first | done | (with_reducible rfl)
            simp only [Act.put, List.setIfInBounds_toArray, List.set_cons_zero, List.set_cons_succ]
            refine wpAnyT_take (i := 2) (v := ?_) (d := some 74) rfl (by rfl) (by kernel_rfl) (fun _ _ _ h => h) (by rfl) hS0 (fun w hSw => ?_) ?_
            rotate_left
            · (try dsimp only at hSw); go_simp; first | done | (with_reducible rfl)
            simp only [Act.put, List.setIfInBounds_toArray, List.set_cons_zero, List.set_cons_succ]
            refine wpAnyT_take (i := 3) (v := ?_) (d := some 75) rfl (by rfl) (by kernel_rfl) (fun _ _ _ h => h) (by rfl) hS0 (fun w hSw => ?_) ?_
            rotate_left
            · (try dsimp only at hSw); go_simp; first | done | (with_reducible rfl)
            simp only [Act.put, List.setIfInBounds_toArray, List.set_cons_zero, List.set_cons_succ]
            refine wpAnyT_take (i := 4) (v := ?_) (d := some 76) rfl (by rfl) (by kernel_rfl) (fun _ _ _ h => h) (by rfl) hS0 (fun w hSw => ?_) ?_
            rotate_left
            · (try dsimp only at hSw); go_simp; first | done | (with_reducible rfl)
            simp only [Act.put, List.setIfInBounds_toArray, List.set_cons_zero, List.set_cons_succ]
            refine wpAnyT_take (i := 5) (v := ?_) (d := some 77) rfl (by rfl) (by kernel_rfl) (fun _ _ _ h => h) (by rfl) hS0 (fun w hSw => ?_) ?_
            rotate_left
            · (try dsimp only at hSw); go_simp; first | done | (with_reducible rfl)
            simp only [Act.put, List.setIfInBounds_toArray, List.set_cons_zero, List.set_cons_succ]
            refine wpAnyT_take (i := 6) (v := ?_) (d := some 78) rfl (by rfl) (by kernel_rfl) (fun _ _ _ h => h) (by rfl) hS0 (fun w hSw => ?_) ?_
            rotate_left
            · (try dsimp only at hSw); go_simp; first | done | (with_reducible rfl)
            simp only [Act.put, List.setIfInBounds_toArray, List.set_cons_zero, List.set_cons_succ]
            refine wpAnyT_take (i := 7) (v := ?_) (d := some 79) rfl (by rfl) (by kernel_rfl) (fun _ _ _ h => h) (by rfl) hS0 (fun w hSw => ?_) ?_
            rotate_left
            · (try dsimp only at hSw); go_simp; first | done | (with_reducible rfl)
            simp only [Act.put, List.setIfInBounds_toArray, List.set_cons_zero, List.set_cons_succ]
            refine wpAnyT_take (i := 8) (v := .agg #[.string ⟨f1.toArray⟩, .string ⟨f2.toArray⟩, .int .u64 (q1 : Int), .bool false, .bool false, .bool true]) (d := some 80) rfl (by rfl) (by kernel_rfl) (fun _ _ _ h => h) (by rfl) hS0 (fun w hSw => build_lit rfl rfl rfl rfl) ?_
            simp only [Act.put, List.setIfInBounds_toArray, List.set_cons_zero, List.set_cons_succ]
            have hn0 := World.new_ne w6.drew _ hy5
            have hn1 := World.new_ne w6.drew _ hx0
            refine wpAnyT_one (i := 9) rfl (by kernel_rfl) (fun K hK => ?_)
            go_simp
            refine hK.out _ _ (.inr ((by go_keep))) ?_
            clear hK K
            refine wpAnyT_one (i := 10) rfl (by kernel_rfl) (fun K hKK => ?_)
            refine step_append2 lnsE rfl rfl rfl (HAPP.out.alloc _).drew (fun k hk => HUP.out k (Nat.le_trans (by simp) hk)) rfl (Rd.new _ #[.string ⟨f1.toArray⟩, .string ⟨f2.toArray⟩, .int .u64 (q1 : Int), .bool false, .bool false, .bool true] _) rfl (fun u hu => by simp at hu; rcases hu with rfl | rfl | rfl | rfl | rfl | rfl <;> rfl) (by omega) ?_
            intro A9 c9 w9 hA9 hF9 _ _
            replace hF9 : Frm (fun k => Y5 k ∧ M.blk Al = some k ∨ New w6 k) w6 w9 := Frm.trans (((Frm.refl _ w6).alloc HUP.out _).drew) hF9
            have hA5 : App (fun k => Y5 k ∧ M.blk Al = some k ∨ New w6 k) w9 90 6 A9 (W5.lines.length + 1) c9 (lqs (W5.lines ++ [(litQn (q1, true, false) (f1, f2))])) := by rw [lqs_append]; exact hA9
            have hQ := HN6.out.line (litQn (q1, true, false) (f1, f2)) hA5 hF9 hlnl
            have hy4 : w9.cell? ⟨pw, 5, none⟩ = some (.slice Al (List.length W5.lines) cl) := by rw [hF9.cell (p := ⟨pw, 5, none⟩) HNP.out]; exact hy5
            have hx4 : w9.cell? ⟨bx, 0, none⟩ = some (.string ⟨f1.toArray⟩) := by rw [hF9.cell (p := ⟨bx, 0, none⟩) HNB.out]; exact hx0
            have hx5 : w9.cell? ⟨bx, 1, none⟩ = some (.string ⟨f2.toArray⟩) := by rw [hF9.cell (p := ⟨bx, 1, none⟩) HNB.out]; exact hx1
            have hS4 : w9.cell? ⟨pw, 5, none⟩ = some (.slice Al (List.length W5.lines) cl) ∧ w9.cell? ⟨bx, 0, none⟩ = some (.string ⟨f1.toArray⟩) ∧ w9.cell? ⟨bx, 1, none⟩ = some (.string ⟨f2.toArray⟩) := ⟨hy4, hx4, hx5⟩
            have hz4 : w9.frozen? ⟨pw, 5, none⟩ = false := by rw [hF9.frozen (p := ⟨pw, 5, none⟩) HNP.out]; exact hz5
            have hl4 : pw < w9.heap.size := Nat.lt_of_lt_of_le hpl hF9.size
            have hin := hA5.inM
            have HF9 := Lib.hid hF9
            have HIN := Lib.hid hin
            have HQ := Lib.hid hQ
            clear hF9 hin hQ
            clear hA9 hA5
            refine hKK.out _ _ (.inr hS4) ?_
            clear hKK K hS0
            refine wpAnyT_one (i := 11) rfl (by kernel_rfl) (fun K hK => ?_)
            go_simp
            refine hK.out _ _ (.inr (hS4)) ?_
            clear hK K
            refine wpAnyT_one (i := 12) rfl (by kernel_rfl) (fun K hK => ?_)
            go_simp
            refine hK.out _ _ (.inr (hS4)) ?_
            clear hK K
            refine wpAnyT_one (i := 13) rfl (by kernel_rfl) (fun K hK => ?_)
            go_simp
            refine hK.out _ _ (.inl (by kernel_rfl)) ?_
            clear hK K
            refine wpAnyT_done (by kernel_rfl) ?_ _
            have hFe : Frm (Own (fun k => X k ∨ Y k) w) w (w9.setCell ⟨pw, 5, none⟩ (.slice A9 (List.length W5.lines + 1) c9)) := by
              refine (HFW6.out.trans (HF9.out.mono (fun k hk => ?_))).setCell (p := ⟨pw, 5, none⟩) (.inl (.inr H.out.v.yp)) _
              rcases hk with hk | hk
              · exact HSUB5.out k (.inr hk.1)
              · exact .inr (Nat.le_trans HFW6.out.size hk)
            have hsub9 : ∀ k, X5 k ∨ (Y5 k ∨ M.blk A9 = some k) → Own (fun k => X k ∨ Y k) w k := fun k hk => by
              rcases hk with hk | hk | hk
              · exact HSUB5.out k (.inl hk)
              · exact HSUB5.out k (.inr hk)
              · rcases HIN.out k hk with e | e
                · exact HSUB5.out k (.inr e.1)
                · exact .inr (Nat.le_trans HFW6.out.size e)
            have hr9 : R = { W5 with lines := W5.lines ++ [litQn (q1, true, false) (f1, f2)] } := by rw [HRE.out]
            have HFE := Lib.hid hFe
            have HSUB9 := Lib.hid hsub9
            have HR9 := Lib.hid hr9
            clear hFe hsub9 hr9
            first | go_end0 | (go_wp2_with (fail); first | (refine bodyPost_ret (results_none rfl _ _ _) rfl ?_) | go_end0)
            refine ⟨rfl, ?_⟩
            rw [HR9.out]
            exact ⟨_, _, _, _, _, _, _, _, HQ.out, HFE.out, HSUB9.out⟩
          | false =>
            have hb5 := HN6.out.v.blk
            try simp only at hb5
            have hy5 := hb5.cell 5
            simp only [List.getElem?_toArray, List.getElem?_cons_zero, List.getElem?_cons_succ] at hy5
            have hz5 := hb5.frozen 5
            have hpl := hb5.lt
            have hbx5 := HB6.out
            have hx0 := hbx5.cell 0
            have hx1 := hbx5.cell 1
            simp only [List.getElem?_toArray, List.getElem?_cons_zero, List.getElem?_cons_succ] at hx0 hx1
            have hbl := hbx5.lt
            have hS0 : w6.drew.cell? ⟨pw, 5, none⟩ = some (.slice Al (List.length W5.lines) cl) ∧ w6.drew.cell? ⟨bx, 0, none⟩ = some (.string ⟨f1.toArray⟩) ∧ w6.drew.cell? ⟨bx, 1, none⟩ = some (.string ⟨f2.toArray⟩) := ⟨hy5, hx0, hx1⟩
            have hup : Up (fun k => Y5 k ∧ M.blk Al = some k ∨ New w6 k) w6 := fun k hk => .inr hk
            have hlines : App Y5 w6 90 6 Al (List.length W5.lines) cl (lqs W5.lines) := HN6.out.v.lines
            have happ : App (fun k => Y5 k ∧ M.blk Al = some k ∨ New w6 k) w6 90 6 Al (List.length W5.lines) cl (lqs W5.lines) :=
              { hlines with
                inM := fun k hk => .inl ⟨hlines.inM k hk, hk⟩
                own := fun hc => by
                  obtain ⟨gg, off, cur, a, b2, d, m⟩ := hlines.own hc
                  exact ⟨gg, off, cur, a, b2, d, .inl ⟨m, by rw [a]; rfl⟩⟩ }
            have hnp : ¬ (Y5 pw ∧ M.blk Al = some pw ∨ New w6 pw) := fun e => by
              rcases e with e | e
              · exact (HN6.out.v.lp pw e.2).1 rfl
              · unfold New at e; omega
            have hnb : ¬ (Y5 bx ∧ M.blk Al = some bx ∨ New w6 bx) := fun e => by
              rcases e with e | e
              · exact HB6N.out e.1
              · unfold New at e; omega
            have hlnl : W5.lines.length < 1048576 := hll
            have HB5 := Lib.hid hb5
            have HUP := Lib.hid hup
            have HAPP := Lib.hid happ
            have HNP := Lib.hid hnp
            have HNB := Lib.hid hnb
            have HBX5 := Lib.hid hbx5
            clear hb5 hup happ hnp hnb hbx5
            clear hlines
            go_upto_region 11 with (fail)
            refine wp_region_til (by kernel_rfl) (fun w' => w'.cell? ⟨pw, 5, none⟩ = some (.slice Al (List.length W5.lines) cl) ∧ w'.cell? ⟨bx, 0, none⟩ = some (.string ⟨f1.toArray⟩) ∧ w'.cell? ⟨bx, 1, none⟩ = some (.string ⟨f2.toArray⟩)) 13 ?_
            change wpAnyT _ _ _ _ _ _ _ _ _ w6.drew
            refine wpAnyT_take (i := 0) (v := ?_) (d := some 72) rfl (by rfl) (by kernel_rfl) (fun _ _ _ h => h) (by rfl) hS0 (fun w hSw => ?_) ?_
            rotate_left
            · (try dsimp only at hSw); go_simp; first | done | (with_reducible rfl)
            simp only [Act.put, List.setIfInBounds_toArray, List.set_cons_zero, List.set_cons_succ]
            refine wpAnyT_take (i := 1) (v := ?_) (d := some 73) rfl (by rfl) (by kernel_rfl) (fun _ _ _ h => h) (by rfl) hS0 (fun w hSw => ?_) ?_
            rotate_left
            · (try dsimp only at hSw); go_simp; first | done | (with_reducible rfl)
            simp only [Act.put, List.setIfInBounds_toArray, List.set_cons_zero, List.set_cons_succ]
            refine wpAnyT_take (i := 2) (v := ?_) (d := some 74) rfl (by rfl) (by kernel_rfl) (fun _ _ _ h => h) (by rfl) hS0 (fun w hSw => ?_) ?_
            rotate_left
            · (try dsimp only at hSw); go_simp; first | done | (with_reducible rfl)
            simp only [Act.put, List.setIfInBounds_toArray, List.set_cons_zero, List.set_cons_succ]
            refine wpAnyT_take (i := 3) (v := ?_) (d := some 75) rfl (by rfl) (by kernel_rfl) (fun _ _ _ h => h) (by rfl) hS0 (fun w hSw => ?_) ?_
            rotate_left
            · (try dsimp only at hSw); go_simp; first | done | (with_reducible rfl)
            simp only [Act.put, List.setIfInBounds_toArray, List.set_cons_zero, List.set_cons_succ]
            refine wpAnyT_take (i := 4) (v := ?_) (d := some 76) rfl (by rfl) (by kernel_rfl) (fun _ _ _ h => h) (by rfl) hS0 (fun w hSw => ?_) ?_
            rotate_left
            · (try dsimp only at hSw); go_simp; first | done | (with_reducible rfl)
            simp only [Act.put, List.setIfInBounds_toArray, List.set_cons_zero, List.set_cons_succ]
            refine wpAnyT_take (i := 5) (v := ?_) (d := some 77) rfl (by rfl) (by kernel_rfl) (fun _ _ _ h => h) (by rfl) hS0 (fun w hSw => ?_) ?_
            rotate_left
            · (try dsimp only at hSw); go_simp; first | done | (with_reducible rfl)
            simp only [Act.put, List.setIfInBounds_toArray, List.set_cons_zero, List.set_cons_succ]
            refine wpAnyT_take (i := 6) (v := ?_) (d := some 78) rfl (by rfl) (by kernel_rfl) (fun _ _ _ h => h) (by rfl) hS0 (fun w hSw => ?_) ?_
            rotate_left
            · (try dsimp only at hSw); go_simp; first | done | (with_reducible rfl)
            simp only [Act.put, List.setIfInBounds_toArray, List.set_cons_zero, List.set_cons_succ]
            refine wpAnyT_take (i := 7) (v := ?_) (d := some 79) rfl (by rfl) (by kernel_rfl) (fun _ _ _ h => h) (by rfl) hS0 (fun w hSw => ?_) ?_
            rotate_left
            · (try dsimp only at hSw); go_simp; first | done | (with_reducible rfl)
            simp only [Act.put, List.setIfInBounds_toArray, List.set_cons_zero, List.set_cons_succ]
            refine wpAnyT_take (i := 8) (v := .agg #[.string ⟨f1.toArray⟩, .string ⟨f2.toArray⟩, .int .u64 (q1 : Int), .bool false, .bool false, .bool false]) (d := some 80) rfl (by rfl) (by kernel_rfl) (fun _ _ _ h => h) (by rfl) hS0 (fun w hSw => build_lit rfl rfl rfl rfl) ?_
            simp only [Act.put, List.setIfInBounds_toArray, List.set_cons_zero, List.set_cons_succ]
            have hn0 := World.new_ne w6.drew _ hy5
            have hn1 := World.new_ne w6.drew _ hx0
            refine wpAnyT_one (i := 9) rfl (by kernel_rfl) (fun K hK => ?_)
            go_simp
            refine hK.out _ _ (.inr ((by go_keep))) ?_
            clear hK K
            refine wpAnyT_one (i := 10) rfl (by kernel_rfl) (fun K hKK => ?_)
            refine step_append2 lnsE rfl rfl rfl (HAPP.out.alloc _).drew (fun k hk => HUP.out k (Nat.le_trans (by simp) hk)) rfl (Rd.new _ #[.string ⟨f1.toArray⟩, .string ⟨f2.toArray⟩, .int .u64 (q1 : Int), .bool false, .bool false, .bool false] _) rfl (fun u hu => by simp at hu; rcases hu with rfl | rfl | rfl | rfl | rfl | rfl <;> rfl) (by omega) ?_
            intro A9 c9 w9 hA9 hF9 _ _
            replace hF9 : Frm (fun k => Y5 k ∧ M.blk Al = some k ∨ New w6 k) w6 w9 := Frm.trans (((Frm.refl _ w6).alloc HUP.out _).drew) hF9
            have hA5 : App (fun k => Y5 k ∧ M.blk Al = some k ∨ New w6 k) w9 90 6 A9 (W5.lines.length + 1) c9 (lqs (W5.lines ++ [(litQn (q1, false, false) (f1, f2))])) := by rw [lqs_append]; exact hA9
            have hQ := HN6.out.line (litQn (q1, false, false) (f1, f2)) hA5 hF9 hlnl
            have hy4 : w9.cell? ⟨pw, 5, none⟩ = some (.slice Al (List.length W5.lines) cl) := by rw [hF9.cell (p := ⟨pw, 5, none⟩) HNP.out]; exact hy5
            have hx4 : w9.cell? ⟨bx, 0, none⟩ = some (.string ⟨f1.toArray⟩) := by rw [hF9.cell (p := ⟨bx, 0, none⟩) HNB.out]; exact hx0
            have hx5 : w9.cell? ⟨bx, 1, none⟩ = some (.string ⟨f2.toArray⟩) := by rw [hF9.cell (p := ⟨bx, 1, none⟩) HNB.out]; exact hx1
            have hS4 : w9.cell? ⟨pw, 5, none⟩ = some (.slice Al (List.length W5.lines) cl) ∧ w9.cell? ⟨bx, 0, none⟩ = some (.string ⟨f1.toArray⟩) ∧ w9.cell? ⟨bx, 1, none⟩ = some (.string ⟨f2.toArray⟩) := ⟨hy4, hx4, hx5⟩
            have hz4 : w9.frozen? ⟨pw, 5, none⟩ = false := by rw [hF9.frozen (p := ⟨pw, 5, none⟩) HNP.out]; exact hz5
            have hl4 : pw < w9.heap.size := Nat.lt_of_lt_of_le hpl hF9.size
            have hin := hA5.inM
            have HF9 := Lib.hid hF9
            have HIN := Lib.hid hin
            have HQ := Lib.hid hQ
            clear hF9 hin hQ
            clear hA9 hA5
            refine hKK.out _ _ (.inr hS4) ?_
            clear hKK K hS0
            refine wpAnyT_one (i := 11) rfl (by kernel_rfl) (fun K hK => ?_)
            go_simp
            refine hK.out _ _ (.inr (hS4)) ?_
            clear hK K
            refine wpAnyT_one (i := 12) rfl (by kernel_rfl) (fun K hK => ?_)
            go_simp
            refine hK.out _ _ (.inr (hS4)) ?_
            clear hK K
            refine wpAnyT_one (i := 13) rfl (by kernel_rfl) (fun K hK => ?_)
            go_simp
            refine hK.out _ _ (.inl (by kernel_rfl)) ?_
            clear hK K
            refine wpAnyT_done (by kernel_rfl) ?_ _
            have hFe : Frm (Own (fun k => X k ∨ Y k) w) w (w9.setCell ⟨pw, 5, none⟩ (.slice A9 (List.length W5.lines + 1) c9)) := by
              refine (HFW6.out.trans (HF9.out.mono (fun k hk => ?_))).setCell (p := ⟨pw, 5, none⟩) (.inl (.inr H.out.v.yp)) _
              rcases hk with hk | hk
              · exact HSUB5.out k (.inr hk.1)
              · exact .inr (Nat.le_trans HFW6.out.size hk)
            have hsub9 : ∀ k, X5 k ∨ (Y5 k ∨ M.blk A9 = some k) → Own (fun k => X k ∨ Y k) w k := fun k hk => by
              rcases hk with hk | hk | hk
              · exact HSUB5.out k (.inl hk)
              · exact HSUB5.out k (.inr hk)
              · rcases HIN.out k hk with e | e
                · exact HSUB5.out k (.inr e.1)
                · exact .inr (Nat.le_trans HFW6.out.size e)
            have hr9 : R = { W5 with lines := W5.lines ++ [litQn (q1, false, false) (f1, f2)] } := by rw [HRE.out]
            have HFE := Lib.hid hFe
            have HSUB9 := Lib.hid hsub9
            have HR9 := Lib.hid hr9
            clear hFe hsub9 hr9
            first | go_end0 | (go_wp2_with (fail); first | (refine bodyPost_ret (results_none rfl _ _ _) rfl ?_) | go_end0)
            refine ⟨rfl, ?_⟩
            rw [HR9.out]
            exact ⟨_, _, _, _, _, _, _, _, HQ.out, HFE.out, HSUB9.out⟩
end Go.Proofs.Ytdgggjeiflllhaa.M

