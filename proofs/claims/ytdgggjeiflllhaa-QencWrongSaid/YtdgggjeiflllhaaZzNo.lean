/- No -/
import Derived.BigQuiet
import Derived.Deep.CutBlock
import Derived.Lib.Hide
import Derived.IntWalk
import Derived.Deep.LoopGhost
import Derived.Test.YtdgggjeiflllhaaZzNj
import Derived.Test.YtdgggjeiflllhaaZzQd

namespace Go.Proofs.Ytdgggjeiflllhaa.M
open Go.ChangeShapes Go.WideShapes Go.ChangeAt Go.RowKit
def EncR (X : Nat → Prop) (w : World) (pe g bm : Nat) (Ar : Option Addr) (cr : Nat) (E' : Qn) (ins b : Bytes) (e : Ending) (w' : World) : Prop :=
  ∃ (A1 : Option Addr) (c1 : Nat) (A2 : Option Addr) (c2 : Nat) (X' S' : Nat → Prop) (L' : List (Nat × Ro)), e = .returned (.tuple #[.slice A1 ins.length c1, .slice A2 b.length c2]) ∧ Rd w' A1 (bvs ins) ∧ ins.length ≤ c1 ∧ Rd w' A2 (bvs b) ∧ b.length ≤ c2 ∧ QnM X' w' pe g bm S' Ar cr L' E' ∧ Frm (Own X w) w w' ∧ (∀ k, X' k → Own X w k) ∧
    (∀ k, M.blk A1 = some k ∨ M.blk A2 = some k → Own X w k ∧ ¬ X' k)
theorem QnM.look2 {X S : Nat → Prop} {w : World} {pe g bm cr : Nat} {Ar : Option Addr} {L : List (Nat × Ro)} {E : Qn} (h : QnM X w pe g bm S Ar cr L E) (s : Nat) :
    ∃ (A : Option Addr) (c : Nat) (l : List (Qs × Nat)), (getE s (entsR L)).getD (.slice none 0 0) = .slice A l.length c ∧ App (fun k => X k ∧ M.blk A = some k ∨ New w k) w 84 2 A l.length c (secC l) ∧ l.map (·.1) = E.opn.filter (fun o => decide (o.stream = s)) ∧ (getE s L = none → l = [] ∧ A = none) ∧ (∀ x, getE s L = some x → A = x.A ∧ c = x.c ∧ l = x.l) ∧ l.length ≤ E.opn.length ∧ (∀ k, M.blk A = some k → ¬ S k ∧ k ≠ pe ∧ k ≠ bm ∧ X k) := by
  have hs := h.secs s
  rw [getE_entsR]
  cases hg : getE s L with
  | none =>
    rw [hg] at hs
    exact ⟨none, 0, [], rfl, App.none_, hs.symm, fun _ => ⟨rfl, rfl⟩, fun x hx => (by cases hx), Nat.zero_le _, fun k hk => (by cases hk)⟩
  | some x =>
    rw [hg] at hs
    have happ := hs.1.app
    refine ⟨x.A, x.c, x.l, rfl, { happ with
      inM := fun k hk => .inl ⟨happ.inM k hk, hk⟩
      own := fun hc => by
        obtain ⟨gg, off, cur, a, b2, d, m⟩ := happ.own hc
        exact ⟨gg, off, cur, a, b2, d, .inl ⟨m, by rw [a]; rfl⟩⟩ }, hs.2, fun q => (by cases q), fun y hy => (by cases hy; exact ⟨rfl, rfl, rfl⟩), ?_, fun k hk => ?_⟩
    rotate_left
    · have h1 := h.ro _ (getE_mem hg) k hk
      exact ⟨h1.1, h1.2.1, h1.2.2.1, happ.inM k hk⟩
    have h1 := congrArg List.length hs.2
    rw [List.length_map] at h1
    rw [h1]
    exact List.length_filter_le _ _
theorem step_update {P : Program} {κ : Type} [DecidableEq κ] {T : TypeId} {enc : κ → Value} (K : KeyLaw P T enc) {M E : TypeId} (hM : P.underlying M = some (.map T E)) {ops : Array Oper} {o : Oper} {a : Act} {Q : Exit → Act → World → Prop} {w : World} {K' : Act → World → Prop} {E0 : Prop} (hgd : o.guard = none) {x y v : Operand} (ho : o.op = .mapUpdate M x y v)
    {b : Nat} {ents : List (κ × Value)} (hx : a.eval x = .map (some b)) {k : κ} (hy : a.eval y = enc k) (h : MapIs w b enc ents)
    (hK : ∀ w', MapIs w' b enc (putE k (a.eval v) ents) → Frm (· = b) w w' → w'.heap.size = w.heap.size → K' (a.put o.dst undef) w') : if Region.wanted o (yielded ops a.tmps) = true then Oper.wp P o a w K' Q else E0 := by
  rw [if_pos (by simp [Region.wanted, hgd])]
  obtain ⟨w', hr, h1, h2, h3⟩ := run_update K hM h k (a.eval v)
  unfold Oper.wp execOp
  simp only [ho, hx, hy, Sem.run_bind, hr, Result.andThen_ok, Sem.run_pure]
  exact hK _ h1 h2 h3
theorem prefQ_le (c b cap : Nat) : (prefQ c b cap).length ≤ 100 ∧ prefQ c b cap ≠ [] := by
  have h1 := fun a k v => pfx_length a k v
  have h2 := fun a k v => pfx_pos a k v
  have h3 := h1 0 8 (encQ c cap)
  have h4 := h2 0 8 (encQ c cap)
  unfold prefQ
  refine ⟨?_, fun e => ?_⟩
  · rw [List.length_append]
    split
    · have := h1 0 7 (b - c); omega
    · have := h1 128 7 (c - b - 1); omega
  · have := (List.append_eq_nil_iff.1 e).1
    rw [this] at h4
    simp at h4
theorem WqM.begin_ {w : World} {pw pe s mu co : Nat} {Ao : Option Addr} {W : Wq} (hb : Blk w pw 87 #[.pointer (some ⟨pe, 0, none⟩), .int .u64 (s : Int), .int .u64 0, .map (some mu), .slice Ao W.out.length co, .slice none 0 0]) (hm : MapIs w mu ukey []) (hpm : pw ≠ mu) (hl : W.lines = []) (hu : W.uses = []) (hc : W.count = 0) (ho : Rd w Ao (bvs W.out)) (hoc : W.out.length ≤ co) (hol : W.out.length ≤ 1000)
    (hA : ∀ k, M.blk Ao = some k → k < w.heap.size ∧ k ≠ pw ∧ k ≠ mu) : WqM (fun k => k = pw ∨ k = mu ∨ M.blk Ao = some k) w pw pe s mu [] Ao co none 0 W := by
  obtain ⟨t, out, lines, uses, count⟩ := W
  simp only at *
  subst hl hu hc
  exact {
    blk := by simpa using hb
    use_ := ⟨hm, fun x hx => (by cases hx), fun p => by simp⟩
    out := ho, oc := hoc
    lines := App.none_
    low := fun k hk => by
      rcases hk with rfl | rfl | hk
      · exact hb.lt
      · exact hm.lt
      · exact (hA k hk).1
    yp := .inl rfl, ym := .inr (.inl rfl), yo := fun k hk => .inr (.inr hk), pm := hpm
    lp := fun k hk => (by cases hk)
    op := fun k hk => ⟨(hA k hk).2.1, (hA k hk).2.2, fun q => (by cases q)⟩
    ll := by simp
    ol := by simp only; omega
    ct := by simp
    ul := by simp }
theorem wq_inv (E : Qn) (hok : E.t.Ok) (F : Fld → Prop) : E.wq.Inv E.t.n 1000 E.t.cap 0 F := by
  have hpx := pfx_length 32 5 E.t.cap
  exact { ll := rfl, ul := Nat.le_refl _
          ol := by
            unfold Qn.wq
            simp only
            split
            · omega
            · simp
          tn := Nat.le_refl _, tc := rfl, ok := hok, ct := Nat.zero_le _, li := fun x hx => (by cases hx), lf := fun x hx => (by cases hx) }
theorem allN_inv {E : Qn} {n0 o0 cap : Nat} {F : Fld → Prop} (fr : Bool) (hc : cap ≤ 4096) : ∀ (l : List Fld) (W : Wq) (m : Nat), W.Inv n0 o0 cap m F → (∀ f ∈ l, F f) → (allN E fr W l).Inv n0 o0 cap (m + l.length) F
  | [], W, m, h, _ => h
  | f :: r, W, m, h, hF => by
    have h1 := allN_inv (E := E) fr hc r (oneN E fr W f) (m + 1) (oneN_inv fr f h (hF f (List.mem_cons_self ..)) hc) (fun x hx => hF x (List.mem_cons_of_mem _ hx))
    rw [show m + (f :: r).length = m + 1 + r.length by simp; omega]
    exact h1
theorem allN_snoc (E : Qn) (fr : Bool) (W : Wq) (l : List Fld) (f : Fld) : allN E fr W (l ++ [f]) = oneN E fr (allN E fr W l) f := by unfold allN; rw [List.foldl_append]; rfl
theorem roomGo_begun (E : Qn) (now : List Nat) (n : Nat) : ∀ (l : List Fld) (p left : Nat), roomGo { E with begun := true } now n l p left = roomGo E now n l p left
  | [], _, _ => rfl
  | f :: r, p, left => by
    unfold roomGo
    rw [roomGo_begun E now n r]
    rfl
theorem oneN_begun (E : Qn) (fr : Bool) (W : Wq) (f : Fld) : oneN { E with begun := true } fr W f = oneN E fr W f := by
  have h : ∀ T now, Qn.room { E with begun := true } T now f = E.room T now f := fun T now => by
    unfold Qn.room
    rw [roomGo_begun]
  unfold oneN
  rw [h]
set_option maxRecDepth 100000 in
set_option maxHeartbeats 8000000 in
theorem nenc_any {X S : Nat → Prop} {w : World} {pe g bm cr : Nat} {Ar : Option Addr} {L : List (Nat × Ro)} {E : Qn} (h : QnM X w pe g bm S Ar cr L E) (s : Nat) (l : List Fld) (A : Option Addr) (c : Nat) (hR : Rd w A (fvs l)) (hAX : ∀ k, M.blk A = some k → l ≠ [] → ¬ X k) (hl : l.length ≤ 1000) (hf : ∀ f ∈ l, f.1.length + f.2.length ≤ 100000)
    (hn : E.t.n + l.length ≤ 1152921504606846976) (hop : E.opn.length ≤ 1073741824) :
    Calls Try.prog 14 #[.pointer (some ⟨pe, 0, none⟩), .int .u64 (s : Int), .slice A l.length c] w (EncR X w pe g bm Ar cr (E.enc s l).2 (E.enc s l).1.1 (E.enc s l).1.2) := by
  obtain ⟨Z, hZ⟩ : ∃ Z, Z = E.enc s l := ⟨_, rfl⟩
  rw [← hZ]
  have hfew := h.few
  have hAlow : ∀ k, M.blk A = some k → l ≠ [] → k < w.heap.size := fun k hk hne => by
    obtain ⟨gg, off, rfl, hlt⟩ := hR.lt (by
      cases l with
      | nil => exact absurd rfl hne
      | cons x r => simp [fvs])
    have hkg : gg = k := by simpa using hk
    subst hkg
    exact hlt
  have hcapE : E.t.cap ≤ 4096 := h.cap
  have hb := h.blk
  have hy0 := hb.cell 0
  have hy5 := hb.cell 5
  simp only [List.getElem?_toArray, List.getElem?_cons_zero, List.getElem?_cons_succ] at hy0 hy5
  have hpel := hb.lt
  have H := Lib.hid h
  have HR := Lib.hid hR
  have HZ := Lib.hid hZ
  have HAX := Lib.hid hAX
  have HALOW := Lib.hid hAlow
  have HF := Lib.hid hf
  have HB := Lib.hid hb
  clear h hR hZ hAX hAlow hf hb
  go_enter Try.func14, Try.ntmps14
  go_wp2_with (fail)
  rw [run_makeMap]
  go_upto_region 2 with (fail)
  obtain ⟨mu, hmu⟩ : ∃ mu, mu = w.heap.size := ⟨_, rfl⟩
  have hm1 := MapIs.new w ukey
  have hF1 : Frm (New w) w (w.alloc (Obj.map #[] 0)) := (Frm.refl _ _).alloc Up.new _
  have hs1 : (w.alloc (Obj.map #[] 0)).heap.size = mu + 1 := by rw [hmu]; simp
  rw [← hmu] at hm1 ⊢
  generalize w.alloc (Obj.map #[] 0) = w1 at *
  have hF12 : Frm (New w1) w1 (w1.alloc (Obj.cells #[.pointer (some ⟨pe, 0, none⟩), .int .u64 (s : Int), .int .u64 0, .map (some mu), .slice none 0 0, .slice none 0 0] 87)) := (Frm.refl _ _).alloc Up.new _
  have hB2 := Blk.new w1 87 #[.pointer (some ⟨pe, 0, none⟩), .int .u64 (s : Int), .int .u64 0, .map (some mu), .slice none 0 0, .slice none 0 0]
  rw [hs1] at hB2
  have hs2 : (w1.alloc (Obj.cells #[.pointer (some ⟨pe, 0, none⟩), .int .u64 (s : Int), .int .u64 0, .map (some mu), .slice none 0 0, .slice none 0 0] 87)).heap.size = mu + 2 := by simp [hs1]
  generalize w1.alloc (Obj.cells #[.pointer (some ⟨pe, 0, none⟩), .int .u64 (s : Int), .int .u64 0, .map (some mu), .slice none 0 0, .slice none 0 0] 87) = w2 at *
  have hF2 := hF1.then_new Up.new hF12
  have hm2 := hm1.fresh hF12
  obtain ⟨pw, hpw⟩ : ∃ pw, pw = mu + 1 := ⟨_, rfl⟩
  rw [← hpw] at hB2 ⊢
  have hpm : pw ≠ mu := by omega
  have hmw : w.heap.size ≤ mu := by omega
  have hmw2 : mu < w2.heap.size := by omega
  have hpw0 : w.heap.size ≤ pw := by omega
  clear hmu hpw hs1 hs2 hF1 hF12 hm1
  have hQ2 := H.out.fresh hF2
  clear hy0 hy5 hpel
  have hb2 := hQ2.blk
  have hy0 := hb2.cell 0
  have hy5 := hb2.cell 5
  simp only [List.getElem?_toArray, List.getElem?_cons_zero, List.getElem?_cons_succ] at hy0 hy5
  have hz5 := hb2.frozen 5
  have hpel := hb2.lt
  have hx4 := hB2.cell 4
  simp only [List.getElem?_toArray, List.getElem?_cons_zero, List.getElem?_cons_succ] at hx4
  have hx4z := hB2.frozen 4
  have hpl := hB2.lt
  have hTb2 := hQ2.tab
  obtain ⟨bb, hbb⟩ : ∃ bb, bb = (!E.begun && decide (0 < E.t.cap)) := ⟨_, rfl⟩
  obtain ⟨ob, hob⟩ : ∃ ob : Bytes, ob = E.wq.out := ⟨_, rfl⟩
  have hob2 : ob = if bb = true then pfx 32 5 E.t.cap else [] := by
    rw [hob, hbb]
    unfold Qn.wq
    simp
  have hpx := pfx_length 32 5 E.t.cap
  have HQ2 := Lib.hid hQ2
  have HBW := Lib.hid hB2
  have HBE := Lib.hid hb2
  have HTB2 := Lib.hid hTb2
  have HBB := Lib.hid hbb
  have HM2 := Lib.hid hm2
  have HF2 := Lib.hid hF2
  have HOB := Lib.hid hob
  have HOB2 := Lib.hid hob2
  clear hQ2 hB2 hb2 hTb2 hbb hm2 hF2 hob hob2
  go_cut [32] from 20 (fun v32 w' => v32 = .bool bb ∧ w' = w2)
  case first =>
    cases hbg : E.begun with
    | true =>
      have hbf : bb = false := by rw [HBB.out, hbg]; rfl
      rw [hbg] at hy5
      clear hbg
      have HBF := Lib.hid hbf
      clear hbf
      go_wp2
      go_meet
      exact ⟨by rw [HBF.out], rfl⟩
    | false =>
      have hbf : bb = decide (0 < E.t.cap) := by rw [HBB.out, hbg]; rfl
      rw [hbg] at hy5
      clear hbg
      have HBF := Lib.hid hbf
      clear hbf
      go_wp2_with (fail)
      refine (tcapS_any w2 HTB2.out).mono ?_
      rintro e w9 ⟨rfl, hw9⟩
      rw [hw9]
      clear hw9 w9
      by_cases hc0 : 0 < E.t.cap
      · have hc0i : (0 : Int) < (E.t.cap : Int) := by omega
        go_wp2
        go_meet
        exact ⟨by rw [HBF.out, decide_eq_true hc0], rfl⟩
      · have hc0i : ¬ (0 : Int) < (E.t.cap : Int) := by omega
        go_wp2
        go_meet
        exact ⟨by rw [HBF.out, decide_eq_false hc0], rfl⟩
  case rest =>
    obtain ⟨rfl, hwc⟩ := hcut
    rename World => wc
    rw [hwc]
    clear hwc wc
    have hwcap : IntKind.u64.wrap ((E.t.cap : Nat) : Int) = (E.t.cap : Nat) := IntWalk.u64_in _ (by omega)
    go_upto_if 32 with (fail)
    go_cut [] from 33 (fun w3 => ∃ (Ao : Option Addr) (co : Nat), Hid (Blk w3 pw 87 #[.pointer (some ⟨pe, 0, none⟩), .int .u64 (s : Int), .int .u64 0, .map (some mu), .slice Ao ob.length co, .slice none 0 0]) ∧ Hid (App (New w2) w3 5 1 Ao ob.length co (bvs ob)) ∧ Hid (∀ k, M.blk Ao = some k → w2.heap.size ≤ k ∧ k < w3.heap.size) ∧ Hid (Frm (fun k => k = pw ∨ New w2 k) w2 w3))
    case first =>
      cases bb with
      | true =>
        have ho2 : ob = [] ++ pfx 32 5 E.t.cap := HOB2.out
        go_wp2_with (fail)
        refine (tcapS_any w2 HTB2.out).mono ?_
        rintro e w9 ⟨rfl, hw9⟩
        rw [hw9]
        clear hw9 w9
        go_wp2_with (fail)
        refine (prefix_nat [] none 0 32 5 E.t.cap w2 Rd.nil (by simp) (by omega) (by omega) (by omega) (by omega)).mono ?_
        rintro e w9 ⟨A9, c9, rfl, hA9, hF9⟩
        rw [← ho2] at hA9 ⊢
        have hB9 := HBW.out.fresh hF9
        have hB10 := hB9.set_ 4 (.slice A9 ob.length c9)
        have hA10 := hA9.keep (M' := fun k => k = pw) (w' := w9.setCell ⟨pw, 4, none⟩ (.slice A9 ob.length c9)) ((Frm.refl (fun k => k = pw) w9).setCell (p := ⟨pw, 4, none⟩) rfl _) (fun k hk e => by have := hA9.inM k hk; unfold New at this; omega)
        have hF10 : Frm (fun k => k = pw ∨ New w2 k) w2 (w9.setCell ⟨pw, 4, none⟩ (.slice A9 ob.length c9)) := (hF9.mono (fun k hk => .inr hk)).setCell (p := ⟨pw, 4, none⟩) (.inl rfl) _
        have hA11 : ∀ k, M.blk A9 = some k → w2.heap.size ≤ k ∧ k < (w9.setCell ⟨pw, 4, none⟩ (.slice A9 ob.length c9)).heap.size := fun k hk => by
          refine ⟨hA9.inM k hk, ?_⟩
          have hp0 := pfx_pos 32 5 E.t.cap
          obtain ⟨gg, off, q1, q2⟩ := hA9.rd.lt (by
            rw [ho2]
            intro e
            have := congrArg List.length e
            rw [bvs_length] at this
            simp at this
            rw [this] at hp0
            simp at hp0)
          rw [q1] at hk
          have : gg = k := by simpa using hk
          subst this
          simpa using q2
        clear hx4 hx4z hpl hy0 hy5 hz5 hpel ho2 hA9 hF9
        have hx4 := hB9.cell 4
        simp only [List.getElem?_toArray, List.getElem?_cons_zero, List.getElem?_cons_succ] at hx4
        have hx4z := hB9.frozen 4
        have hpl := hB9.lt
        simp only [List.setIfInBounds_toArray, List.set_cons_zero, List.set_cons_succ] at hB10
        have HB9 := Lib.hid hB9
        have HB10 := Lib.hid hB10
        have HA10 := Lib.hid hA10
        have HA11 := Lib.hid hA11
        have HF10 := Lib.hid hF10
        clear hB9 hB10 hA10 hA11 hF10
        go_wp2
        go_meet
        exact ⟨A9, c9, HB10, HA10, HA11, HF10⟩
      | false =>
        have ho2 : ob = [] := HOB2.out
        go_wp2
        go_meet
        exact ⟨none, 0, Lib.hid (by rw [ho2]; exact HBW.out), Lib.hid (by rw [ho2]; exact App.none_), Lib.hid (fun k hk => by cases hk), Lib.hid (Frm.refl _ _)⟩
    case rest =>
      obtain ⟨Ao, co, hBw, hAo, hAn, hF3⟩ := hcut
      rename World => w3
      have hXw : ∀ k, X k → k < w.heap.size := H.out.low
      have hXp : ∀ k, X k → ¬ (k = pw ∨ New w2 k) := fun k hk e => by
        have h1 := hXw k hk
        have h2 := HF2.out.size
        rcases e with e | e
        · omega
        · unfold New at e; omega
      have hQ3 := HQ2.out.keep hF3.out hXp
      have hA3 : ∀ k, M.blk Ao = some k → k < w3.heap.size ∧ k ≠ pw ∧ k ≠ mu := fun k hk => by
        have h1 := hAn.out k hk
        have h3 := HBW.out.lt
        exact ⟨h1.2, by omega, by omega⟩
      have hm3 := HM2.out.keep hF3.out (fun e => by
        rcases e with e | e
        · exact hpm e.symm
        · unfold New at e; omega)
      have hW3 := WqM.begin_ (W := E.wq) (by rw [← HOB.out]; exact hBw.out) hm3 hpm rfl rfl rfl (by rw [← HOB.out]; exact hAo.out.rd) (by rw [← HOB.out]; exact hAo.out.cap) (by rw [← HOB.out, HOB2.out]; split <;> first | omega | simp) hA3
      have hdis3 : ∀ k, X k → ¬ (k = pw ∨ k = mu ∨ M.blk Ao = some k) := fun k hk e => by
        have h1 := hXw k hk
        have h2 := HF2.out.size
        rcases e with e | e | e
        · omega
        · omega
        · have := (hAn.out k e).1; omega
      have hQ4 := hQ3.setbegun
      have hW4 := hW3.keep (N := fun k => k = pe) (w' := w3.setCell ⟨pe, 5, none⟩ (.bool true)) ((Frm.refl (fun k => k = pe) w3).setCell (p := ⟨pe, 5, none⟩) rfl _) (fun k hk e => hdis3 pe H.out.xp (e ▸ hk))
      have hF4 : Frm (Own X w) w (w3.setCell ⟨pe, 5, none⟩ (.bool true)) := by
        refine ((HF2.out.mono (fun k hk => .inr hk)).trans (hF3.out.mono (fun k hk => .inr ?_))).setCell (p := ⟨pe, 5, none⟩) (.inl H.out.xp) _
        have h2 := HF2.out.size
        rcases hk with hk | hk
        · exact hk ▸ hpw0
        · exact Nat.le_trans h2 hk
      have hsub4 : ∀ k, X k ∨ (k = pw ∨ k = mu ∨ M.blk Ao = some k) → Own X w k := fun k hk => by
        have h2 := HF2.out.size
        rcases hk with hk | hk | hk | hk
        · exact .inl hk
        · exact .inr (hk ▸ hpw0)
        · exact .inr (hk ▸ hmw)
        · exact .inr (Nat.le_trans h2 (hAn.out k hk).1)
      obtain ⟨E1, hE1⟩ : ∃ E1, E1 = { E with begun := true } := ⟨_, rfl⟩
      have hN4 : NwM X (fun k => k = pw ∨ k = mu ∨ M.blk Ao = some k) (w3.setCell ⟨pe, 5, none⟩ (.bool true)) pe g bm S Ar cr L pw s mu [] Ao co none 0 E1 (allN E (E.free s) E.wq []) :=
        { q := by rw [hE1]; exact hQ4
          v := hW4, dis := hdis3, fr := fun hc => absurd hc (Nat.not_lt_zero _) }
      clear hy0 hy5 hz5 hpel hx4 hx4z hpl
      have hb3 := hQ3.blk
      have hy5 := hb3.cell 5
      simp only [List.getElem?_toArray, List.getElem?_cons_zero, List.getElem?_cons_succ] at hy5
      have hz5 := hb3.frozen 5
      have hpel := hb3.lt
      clear hQ4 hW4 hW3 hQ3 hA3 hm3 hXp HBW HBE HM2 HOB HOB2 HTB2 hBw hAo hAn hF3 HBB
      have HN4 := Lib.hid hN4
      have HF4 := Lib.hid hF4
      have HSUB4 := Lib.hid hsub4
      have HE1 := Lib.hid hE1
      have HBE := Lib.hid hb3
      clear hN4 hF4 hsub4 hE1 hb3
      clear hdis3
      go_upto_region 5 with (fail)
      clear hy5 hz5 hpel HBE HQ2 HF2
      generalize w3.setCell ⟨pe, 5, none⟩ (.bool true) = w4 at *
      go_wp2
      have hinv0 := wq_inv E H.out.ok (fun f => f.1.length + f.2.length ≤ 100000)
      have hno : ∀ k, M.blk A = some k → l ≠ [] → ¬ Own X w k := fun k hk hne e => by
        rcases e with e | e
        · exact HAX.out k hk hne e
        · have := HALOW.out k hk hne; have e : w.heap.size ≤ k := e; omega
      have HINV0 := Lib.hid hinv0
      have HNO := Lib.hid hno
      clear hinv0 hno
      go_loopg [48] l.length (fun kk v48 wx => ∃ (i : Nat) (X' Y' S' : Nat → Prop) (ments' : List (Nat × Value)) (Ao' : Option Addr) (co' : Nat) (Al' : Option Addr) (cl' : Nat), v48 = .int .i64 (i : Int) ∧ i + kk = l.length ∧ Hid (NwM X' Y' wx pe g bm S' Ar cr L pw s mu ments' Ao' co' Al' cl' E1 (allN E (E.free s) E.wq (l.take i))) ∧ Hid (∀ k, X' k ∨ Y' k → Own X w k) ∧ Hid (Frm (Own X w) w wx))
      case atStart => exact ⟨0, _, _, _, _, _, _, _, _, rfl, by omega, HN4, HSUB4, HF4⟩
      case round =>
        clear HN4 HSUB4 HF4
        obtain ⟨i, X2, Y2, S2, ments2, Ao2, co2, Al2, cl2, rfl, hi, hN, hsub, hF⟩ := hrel
        rename World => wx
        have hFM := HF.out
        have hinv := allN_inv (E := E) (E.free s) hcapE (l.take i) E.wq 0 HINV0.out (fun f hf => hFM f (List.mem_of_mem_take hf))
        rw [Nat.zero_add] at hinv
        by_cases hil : i < l.length
        · have hili : (i : Int) < (l.length : Int) := by omega
          rw [List.length_take, Nat.min_eq_left (by omega)] at hinv
          have hRx := HR.out.keep hF.out (fun k hk => HNO.out k hk (fun e => by rw [e] at hil; cases hil))
          obtain ⟨gA, oA, rfl, hjunk⟩ := hRx.at_ (k := i * 2) (by rw [fvs_length]; omega)
          clear hjunk
          obtain ⟨hc0, hc1⟩ := fld_cells hRx i hil
          have hgl := World.block_lt_of_cell? _ _ hc0
          simp only at hgl
          have htk : allN E (E.free s) E.wq (l.take (i + 1)) = oneN E (E.free s) (allN E (E.free s) E.wq (l.take i)) l[i] := by
            rw [List.take_add_one, List.getElem?_eq_getElem hil]
            exact allN_snoc E _ _ _ _
          have hfi := hFM l[i] (List.getElem_mem hil)
          generalize l[i] = f at *
          obtain ⟨f1, f2⟩ := f
          simp only [str] at hc0 hc1 hfi
          generalize hWi : allN E (E.free s) E.wq (l.take i) = Wi at *
          have HRX := Lib.hid hRx
          have HTK := Lib.hid htk
          have HINV := Lib.hid hinv
          have HWI := Lib.hid hWi
          clear hRx htk hinv hWi
          go_wp2_with (fail)
          have hFy : Frm (New wx) wx (wx.alloc (Obj.cells #[.string ⟨f1.toArray⟩, .string ⟨f2.toArray⟩] 71)) := (Frm.refl _ _).alloc Up.new _
          have hNy := hN.out.fresh hFy
          have hone := none_any hNy (by omega) (f1, f2) (by unfold fsize; simp only; omega) (by have := HINV.out.ll; omega) (by have := HINV.out.ul; omega) (by have := HINV.out.tn; omega) (by have := HINV.out.ol; omega)
          simp only [fld, str] at hone
          generalize wx.alloc (Obj.cells #[.string ⟨f1.toArray⟩, .string ⟨f2.toArray⟩] 71) = wy at *
          refine hone.mono ?_
          rintro e wz ⟨rfl, X3, Y3, S3, ments3, Ao3, co3, Al3, cl3, hN3, hF3, hs3⟩
          have hown : ∀ k, Own (fun k => X2 k ∨ Y2 k) wy k → Own X w k := fun k hk => by
            rcases hk with hk | hk
            · exact hsub.out k hk
            · exact .inr (Nat.le_trans hF.out.size (Nat.le_trans hFy.size hk))
          have hFz : Frm (Own X w) w wz := (hF.out.then_new (fun k hk => .inr hk) hFy).trans (hF3.mono hown)
          have hN3' : NwM X3 Y3 wz pe g bm S3 Ar cr L pw s mu ments3 Ao3 co3 Al3 cl3 E1 (allN E (E.free s) E.wq (l.take (i + 1))) := by
            rw [HTK.out]
            have he : oneN E1 (E1.free s) Wi (f1, f2) = oneN E (E.free s) Wi (f1, f2) := by rw [HE1.out, oneN_begun]; rfl
            rw [← he]
            exact hN3
          have hsz : ∀ k, X3 k ∨ Y3 k → Own X w k := fun k hk => hown k (hs3 k hk)
          clear hone hN3 hF3 hs3 hown hNy hFy hc0 hc1 hgl
          have HN3' := Lib.hid hN3'
          have HFZ := Lib.hid hFz
          have HSZ := Lib.hid hsz
          clear hN3' hFz hsz
          go_wp2
          go_roundg (gk - 1)
          case measure => omega
          case rel => exact ⟨i + 1, X3, Y3, S3, ments3, Ao3, co3, Al3, cl3, by rw [Int.natCast_add]; rfl, by omega, HN3', HSZ, HFZ⟩
        · have hili : ¬ (i : Int) < (l.length : Int) := by omega
          obtain rfl : i = l.length := by omega
          rw [List.take_length] at hN hinv
          obtain ⟨W, hW⟩ : ∃ W, W = allN E (E.free s) E.wq l := ⟨_, rfl⟩
          have hZ2 : Z = ((W.out, prefQ W.count W.count E.t.cap ++ linesN W.count W.lines), { E with t := W.t, begun := true, opn := if 0 < W.count then E.opn ++ [⟨s, W.count, W.uses⟩] else E.opn }) := by
            rw [HZ.out, hW]
            rfl
          rw [← hW] at hN hinv
          clear HZ hW HR HAX HALOW HNO HINV0
          have hSw : ∀ w', Frm (New wx) wx w' → w'.cell? ⟨pw, 2, none⟩ = some (.int .u64 (W.count : Int)) ∧ w'.cell? ⟨pe, 0, none⟩ = some (.pointer (some ⟨g, 0, none⟩)) ∧ pw < w'.heap.size ∧ pe < w'.heap.size := fun w' fr => by
            have k := hN.out.fresh fr
            exact ⟨k.v.blk.cell 2, k.q.blk.cell 0, k.v.blk.lt, k.q.blk.lt⟩
          have hS0 := hSw wx.drew ((Frm.refl _ _).drew)
          have hct : W.count ≤ 1152921504606846976 := by have h1 := hinv.ct; have h2 := hinv.tn; omega
          have hcp := tcapS_any wx.drew (hN.out.q.tab.fresh ((Frm.refl _ _).drew))
          have htc : ({ E1 with t := W.t } : Qn).t.cap = E.t.cap := hinv.tc
          rw [htc] at hcp
          clear htc
          obtain ⟨b0, hb0⟩ : ∃ b0, b0 = prefQ W.count W.count E.t.cap := ⟨_, rfl⟩
          have hb0l := prefQ_le W.count W.count E.t.cap
          rw [← hb0] at hZ2 hb0l
          have hqp := qpre_any [] none 0 W.count W.count E.t.cap wx.drew Rd.nil (by simp) (by omega) (by omega) hcapE
          rw [List.nil_append, ← hb0] at hqp
          have HZ2 := Lib.hid hZ2
          have HINV := Lib.hid hinv
          have HSW := Lib.hid hSw
          have HCP := Lib.hid hcp
          have HB0 := Lib.hid hb0
          have HQP := Lib.hid hqp
          have HFM := Lib.hid hFM
          have HB0L := Lib.hid hb0l
          clear hZ2 hinv hSw hcp hb0 hqp hFM hb0l
          go_upto_region 10 with (fail)
          refine wp_region_held (by kernel_rfl) (S := fun w' => w'.cell? ⟨pw, 2, none⟩ = some (.int .u64 (W.count : Int)) ∧ w'.cell? ⟨pe, 0, none⟩ = some (.pointer (some ⟨g, 0, none⟩)) ∧ pw < w'.heap.size ∧ pe < w'.heap.size) ?_
          change wpAnyH _ _ _ _ _ _ _ _ wx.drew
          refine wpAnyH_takeB (i := 0) (v := ?_) (d := some 56) rfl (by rfl) (by kernel_rfl) (fun _ _ _ h => h) (by rfl) hS0 (fun w hSw => ?_) ?_
          rotate_left
          · (try dsimp only at hSw); (try subst hSw); go_simp; first | done | (with_reducible rfl)
          simp only [Act.put, List.setIfInBounds_toArray, List.set_cons_zero, List.set_cons_succ]
          refine wpAnyH_takeB (i := 1) (v := ?_) (d := some 57) rfl (by rfl) (by kernel_rfl) (fun _ _ _ h => h) (by rfl) hS0 (fun w hSw => ?_) ?_
          rotate_left
          · (try dsimp only at hSw); (try subst hSw); go_simp; first | done | (with_reducible rfl)
          simp only [Act.put, List.setIfInBounds_toArray, List.set_cons_zero, List.set_cons_succ]
          refine wpAnyH_takeB (i := 2) (v := ?_) (d := some 58) rfl (by rfl) (by kernel_rfl) (fun _ _ _ h => h) (by rfl) hS0 (fun w hSw => ?_) ?_
          rotate_left
          · (try dsimp only at hSw); (try subst hSw); go_simp; first | done | (with_reducible rfl)
          simp only [Act.put, List.setIfInBounds_toArray, List.set_cons_zero, List.set_cons_succ]
          refine wpAnyH_takeB (i := 3) (v := ?_) (d := some 59) rfl (by rfl) (by kernel_rfl) (fun _ _ _ h => h) (by rfl) hS0 (fun w hSw => ?_) ?_
          rotate_left
          · (try dsimp only at hSw); (try subst hSw); go_simp; first | done | (with_reducible rfl)
          simp only [Act.put, List.setIfInBounds_toArray, List.set_cons_zero, List.set_cons_succ]
          refine wpAnyH_takeB (i := 4) (v := ?_) (d := some 60) rfl (by rfl) (by kernel_rfl) (fun _ _ _ h => h) (by rfl) hS0 (fun w hSw => ?_) ?_
          rotate_left
          · (try dsimp only at hSw); (try subst hSw); go_simp; first | done | (with_reducible rfl)
          simp only [Act.put, List.setIfInBounds_toArray, List.set_cons_zero, List.set_cons_succ]
          refine wpAnyH_takeB (i := 5) (v := ?_) (d := some 61) rfl (by rfl) (by kernel_rfl) (fun _ _ _ h => h) (by rfl) hS0 (fun w hSw => ?_) ?_
          rotate_left
          · (try dsimp only at hSw); (try subst hSw); go_simp; first | done | (with_reducible rfl)
          simp only [Act.put, List.setIfInBounds_toArray, List.set_cons_zero, List.set_cons_succ]
          refine wpAnyH_takeB (i := 6) (v := ?_) (d := some 62) rfl (by rfl) (by kernel_rfl) (fun _ _ _ h => h) (by rfl) hS0 (fun w hSw => ?_) ?_
          rotate_left
          · (try dsimp only at hSw); (try subst hSw); go_simp; first | done | (with_reducible rfl)
          simp only [Act.put, List.setIfInBounds_toArray, List.set_cons_zero, List.set_cons_succ]
          refine wpAnyH_takeB (i := 7) (v := ?_) (d := some 63) rfl (by rfl) (by kernel_rfl) (fun _ _ _ h => h) (by rfl) hS0 (fun w hSw => ?_) ?_
          rotate_left
          · (try dsimp only at hSw); (try subst hSw); go_simp; first | done | (with_reducible rfl)
          simp only [Act.put, List.setIfInBounds_toArray, List.set_cons_zero, List.set_cons_succ]
          refine wpAnyH_takeB (i := 8) (v := ?_) (d := some 64) rfl (by rfl) (by kernel_rfl) (fun _ _ _ h => h) (by rfl) hS0 (fun w hSw => ?_) ?_
          rotate_left
          · (try dsimp only at hSw); (try subst hSw); go_simp; first | done | (with_reducible rfl)
          simp only [Act.put, List.setIfInBounds_toArray, List.set_cons_zero, List.set_cons_succ]
          refine wpAnyH_takeB (i := 9) (v := ?_) (d := some 65) rfl (by rfl) (by kernel_rfl) (fun _ _ _ h => h) (by rfl) hS0 (fun w hSw => ?_) ?_
          rotate_left
          · (try dsimp only at hSw); (try subst hSw); go_simp; first | done | (with_reducible rfl)
          simp only [Act.put, List.setIfInBounds_toArray, List.set_cons_zero, List.set_cons_succ]
          refine wpAnyH_takeB (i := 10) (v := ?_) (d := some 66) rfl (by rfl) (by kernel_rfl) (fun _ _ _ h => h) (by rfl) hS0 (fun w hSw => ?_) ?_
          rotate_left
          · (try dsimp only at hSw); (try subst hSw); go_simp; first | done | (with_reducible rfl)
          simp only [Act.put, List.setIfInBounds_toArray, List.set_cons_zero, List.set_cons_succ]
          refine wpAnyH_takeB (i := 11) (v := ?_) (d := some 67) rfl (by rfl) (by kernel_rfl) (fun _ _ _ h => h) (by rfl) hS0 (fun w hSw => ?_) ?_
          rotate_left
          · (try dsimp only at hSw); (try subst hSw); go_simp; first | done | (with_reducible rfl)
          simp only [Act.put, List.setIfInBounds_toArray, List.set_cons_zero, List.set_cons_succ]
          refine wpAnyH_takeB (i := 12) (v := ?_) (d := some 68) rfl (by rfl) (by kernel_rfl) (fun _ _ _ h => h) (by rfl) hS0 (fun w hSw => ?_) ?_
          rotate_left
          · (try dsimp only at hSw); (try subst hSw); go_simp; first | done | (with_reducible rfl)
          simp only [Act.put, List.setIfInBounds_toArray, List.set_cons_zero, List.set_cons_succ]
          refine wpAnyH_takeB (i := 13) (v := ?_) (d := some 69) rfl (by rfl) (by kernel_rfl) (fun _ _ _ h => h) (by rfl) hS0 (fun w hSw => ?_) ?_
          rotate_left
          · (try dsimp only at hSw); (try subst hSw); go_simp; first | done | (with_reducible rfl)
          simp only [Act.put, List.setIfInBounds_toArray, List.set_cons_zero, List.set_cons_succ]
          refine wpAnyH_oneB (i := 14) rfl (by kernel_rfl) (fun K hKK => ?_)
          refine Eq.mpr (if_pos (by rfl)) ?_
          go_wp2_with (fail)
          refine HCP.out.mono ?_
          rintro e w9 ⟨rfl, hw9⟩
          rw [hw9]
          clear hw9 w9
          refine hKK.out _ _ hS0 ?_
          clear hKK K
          try simp only [Act.put, List.setIfInBounds_toArray, List.set_cons_zero, List.set_cons_succ]
          refine wpAnyH_oneB (i := 15) rfl (by kernel_rfl) (fun K hKK => ?_)
          refine Eq.mpr (if_pos (by rfl)) ?_
          go_wp2_with (fail)
          refine HQP.out.mono ?_
          rintro e wy ⟨A5, c5, rfl, hA5, hF5⟩
          replace hF5 : Frm (New wx) wx wy := Frm.trans ((Frm.refl _ wx).drew) hF5
          replace hA5 : App (New wx) wy 5 1 A5 b0.length c5 (bvs b0) := hA5
          have hS5 := HSW.out wy hF5
          refine hKK.out _ _ hS5 ?_
          clear hKK K
          try simp only [Act.put, List.setIfInBounds_toArray, List.set_cons_zero, List.set_cons_succ]
          refine wpAnyH_oneB (i := 16) rfl (by kernel_rfl) (fun K hK => ?_)
          refine Eq.mpr (if_pos (by rfl)) ?_
          go_simp
          refine hK.out _ _ (hS5) ?_
          clear hK K
          try simp only [Act.put, List.setIfInBounds_toArray, List.set_cons_zero, List.set_cons_succ]
          refine wpAnyH_done (by kernel_rfl) ?_ _
          clear hS0 HSW HQP HCP hS5
          have hby := (hN.out.fresh hF5).v.blk
          have hy5 := hby.cell 5
          simp only [List.getElem?_toArray, List.getElem?_cons_zero, List.getElem?_cons_succ] at hy5
          have hpl := hby.lt
          have HF5 := Lib.hid hF5
          have HA5 := Lib.hid hA5
          have HBY := Lib.hid hby
          clear hF5 hA5 hby
          go_wp2
          have hm : W.lines.length ≤ 1000 := by have := HINV.out.ll; omega
          go_loopg [11, 77] W.lines.length (fun kk v11 v77 wz => ∃ (j : Nat) (b : Bytes) (A6 : Option Addr) (c6 : Nat), v77 = .int .i64 (j : Int) ∧ j + kk = W.lines.length ∧ v11 = .slice A6 b.length c6 ∧ b.length ≤ 100 + 600000 * j ∧ b ≠ [] ∧ Hid (b = b0 ++ linesN W.count (W.lines.take j)) ∧ Hid (App (New wx) wz 5 1 A6 b.length c6 (bvs b)) ∧ Hid (Frm (New wx) wx wz))
          case atStart => exact ⟨0, b0, A5, c5, rfl, by omega, rfl, HB0L.out.1, HB0L.out.2, Lib.hid (by simp [linesN]), HA5, HF5⟩
          case round =>
            clear HBY hy5 hpl HF5 HA5
            obtain ⟨j, b, A6, c6, rfl, hj, rfl, hbl, hbn, hbe, hA6, hF6⟩ := hrel
            rename World => wz
            have hNz := hN.out.fresh hF6.out
            by_cases hjl : j < W.lines.length
            · have hjli : (j : Int) < (W.lines.length : Int) := by omega
              have hRz : Rd wz Al2 (lqs W.lines) := hNz.v.lines.rd
              obtain ⟨gA, oA, rfl, hjunk⟩ := hRz.at_ (k := j * 6) (by rw [lqs_len]; omega)
              clear hjunk
              have key := elem_cells lqC 6 (fun _ => rfl) hRz j hjl
              have htk : linesN W.count (W.lines.take (j + 1)) = linesN W.count (W.lines.take j) ++ lineN W.count W.lines[j] := by
                unfold linesN
                rw [List.take_succ_eq_append_getElem hjl, List.flatMap_append]
                simp only [List.flatMap_cons, List.flatMap_nil, List.append_nil]
              have hli := HINV.out.li _ (List.getElem_mem hjl)
              have hlf := HINV.out.lf _ (List.getElem_mem hjl)
              have hln := lineN_le W.count W.lines[j] hlf
              have htn := HINV.out.tn
              generalize W.lines[j] = x at *
              obtain ⟨xk, xi, f1, f2⟩ := x
              simp only at hli hlf
              have hc0 := key 0 _ (by omega) rfl
              have hc1 := key 1 _ (by omega) rfl
              have hc2 := key 2 _ (by omega) rfl
              have hc3 := key 3 _ (by omega) rfl
              have hc4 := key 4 _ (by omega) rfl
              have hc5 := key 5 _ (by omega) rfl
              simp only [Nat.add_zero] at hc0
              have hgl := World.block_lt_of_cell? _ _ hc0
              simp only at hgl
              clear key
              have hx60 : xi ≤ 1152921504606846976 := by have h1 := hli.2; omega
              have hx61 : f1.length + f2.length ≤ 100000 := hlf
              have HTK := Lib.hid htk
              have HLI := Lib.hid hli
              have HLF := Lib.hid hlf
              have HLN := Lib.hid hln
              have HNZ := Lib.hid hNz
              have HRZ := Lib.hid hRz
              clear htk hli hlf hln hNz hRz
              go_wp2_with (fail)
              have hFa : Frm (New wz) wz (wz.alloc (Obj.cells #[.string ⟨f1.toArray⟩, .string ⟨f2.toArray⟩, .int .u64 (xi : Int), .bool (decide (xk = 1)), .bool (decide (xk ≤ 1)), .bool (decide (xk = 2))] 90)) := (Frm.refl _ _).alloc Up.new _
              have hwr := nwrite_any b A6 c6 ⟨xk, xi, (f1, f2)⟩ pw W.count _ (hA6.out.rd.fresh hFa) (by omega) ((HNZ.out.fresh hFa).v.blk.cell 2) hct HLI.out.1 (by show xi ≤ _; omega) (by show f1.length ≤ _; omega) (by show f2.length ≤ _; omega) (by show 5 * f1.length ≤ _; omega)
              simp only [lqC] at hwr
              generalize wz.alloc (Obj.cells #[.string ⟨f1.toArray⟩, .string ⟨f2.toArray⟩, .int .u64 (xi : Int), .bool (decide (xk = 1)), .bool (decide (xk ≤ 1)), .bool (decide (xk = 2))] 90) = wa at *
              refine hwr.mono ?_
              rintro e wb ⟨A7, c7, rfl, hA7, hF7⟩
              obtain ⟨b2, hb2⟩ : ∃ b2, b2 = b ++ lineN W.count ⟨xk, xi, (f1, f2)⟩ := ⟨_, rfl⟩
              have hb2e : b2 = b0 ++ linesN W.count (W.lines.take (j + 1)) := by rw [hb2, hbe.out, HTK.out, List.append_assoc]
              have hb2l : b2.length ≤ 100 + 600000 * (j + 1) := by rw [hb2, List.length_append]; have := HLN.out; omega
              have hb2n : b2 ≠ [] := fun e => hbn (by rw [hb2] at e; exact (List.append_eq_nil_iff.1 e).1)
              rw [← hb2] at hA7 ⊢
              have hF8 : Frm (New wx) wx wb := (hF6.out.then_new Up.new hFa).then_new Up.new hF7
              have hA8 := hA7.mono (M' := New wx) (fun k hk => Nat.le_trans (Nat.le_trans hF6.out.size hFa.size) hk)
              clear hc0 hc1 hc2 hc3 hc4 hc5 hgl hwr hFa hA7 hF7 hb2
              have HB2E := Lib.hid hb2e
              have HB2N := Lib.hid hb2n
              have HF8 := Lib.hid hF8
              have HA8 := Lib.hid hA8
              clear hb2e hb2n hF8 hA8
              go_wp2
              go_roundg (gk - 1)
              case measure => omega
              case rel => exact ⟨j + 1, b2, A7, c7, by rw [Int.natCast_add]; rfl, by omega, rfl, hb2l, HB2N.out, HB2E, HA8, HF8⟩
            · have hjli : ¬ (j : Int) < (W.lines.length : Int) := by omega
              obtain rfl : j = W.lines.length := by omega
              have hbe2 : b = b0 ++ linesN W.count W.lines := by have := hbe.out; rwa [List.take_length] at this
              have hb1 : Z.1.2 = b := by rw [HZ2.out, hbe2]
              have hb3 : Z.1.1 = W.out := by rw [HZ2.out]
              have hFz9 : Frm (Own X w) w wz := hF.out.then_new (fun k hk => .inr hk) hF6.out
              have hbz := hNz.v.blk
              have hz2 := hbz.cell 2
              have hz3 := hbz.cell 3
              have hz4 := hbz.cell 4
              simp only [List.getElem?_toArray, List.getElem?_cons_zero, List.getElem?_cons_succ] at hz2 hz3 hz4
              have hpl := hbz.lt
              have hout := hNz.v.out
              have hoc := hNz.v.oc
              have hAb : ∀ k, M.blk A6 = some k → wx.heap.size ≤ k ∧ k < wz.heap.size := fun k hk => by
                refine ⟨hA6.out.inM k hk, ?_⟩
                obtain ⟨gg, off, q1, q2⟩ := hA6.out.rd.lt (by
                  cases b with
                  | nil => exact absurd rfl hbn
                  | cons x r => simp [bvs])
                rw [q1] at hk
                have : gg = k := by simpa using hk
                subst this
                exact q2
              have hret : ∀ k, M.blk Ao2 = some k ∨ M.blk A6 = some k → Own X w k := fun k hk => by
                rcases hk with hk | hk
                · exact hsub.out k (.inr (hN.out.v.yo k hk))
                · exact .inr (Nat.le_trans hF.out.size (hAb k hk).1)
              have hnX : ∀ k, M.blk Ao2 = some k ∨ M.blk A6 = some k → k < wz.heap.size ∧ ¬ X2 k ∧ k ≠ mu := fun k hk => by
                rcases hk with hk | hk
                · exact ⟨hNz.v.low k (hNz.v.yo k hk), fun e => hN.out.dis k e (hN.out.v.yo k hk), (hN.out.v.op k hk).2.1⟩
                · have h1 := hAb k hk
                  exact ⟨h1.2, fun e => by have := hN.out.q.low k e; omega, fun e => by have := hN.out.v.low mu hN.out.v.ym; omega⟩
              have hl6 := hA6.out.rd
              have hc6 := hA6.out.cap
              clear hbe hbe2 HB0L hA6 hbl
              by_cases hcz : 0 < W.count
              · have hczi : (0 : Int) < (W.count : Int) := by omega
                have hE2 : Z.2 = { ({ E1 with t := W.t } : Qn) with opn := E1.opn ++ [⟨s, W.count, W.uses⟩] } := by
                  rw [HZ2.out, HE1.out]
                  simp only [if_pos hcz]
                obtain ⟨Ax, cx, lx, hv, hAx, hlx, hn0, hs0, hlxl, hAxf⟩ := hNz.q.look2 s
                have hopn : lx.length ≤ 1073741824 := by
                  have h1 : ({ E1 with t := W.t } : Qn).opn.length ≤ 1073741824 := by rw [HE1.out]; exact hop
                  exact Nat.le_trans hlxl h1
                have hpeX : X2 pe := hNz.q.xp
                have hbmX : X2 bm := hNz.q.xm
                have hlowX : ∀ k, X2 k → k < wz.heap.size := hNz.q.low
                have hpwY : Y2 pw := hNz.v.yp
                have hmuY : Y2 mu := hNz.v.ym
                have hdis := hNz.dis
                have hSz : ∀ w', Frm (fun k => X2 k ∧ M.blk Ax = some k ∨ New wz k) wz w' → w'.cell? ⟨pe, 3, none⟩ = some (.map (some bm)) ∧ w'.cell? ⟨pw, 2, none⟩ = some (.int .u64 (W.count : Int)) ∧ w'.cell? ⟨pw, 3, none⟩ = some (.map (some mu)) ∧ pe < w'.heap.size ∧ pw < w'.heap.size ∧ MapIs w' bm ukey (entsR L) := fun w' fr => by
                  have n1 : ¬ (X2 pe ∧ M.blk Ax = some pe ∨ New wz pe) := fun e => by
                    rcases e with e | e
                    · exact (hAxf pe e.2).2.1 rfl
                    · have := hlowX pe hpeX; unfold New at e; omega
                  have n2 : ¬ (X2 pw ∧ M.blk Ax = some pw ∨ New wz pw) := fun e => by
                    rcases e with e | e
                    · exact hdis pw e.1 hpwY
                    · unfold New at e; omega
                  have n3 : ¬ (X2 bm ∧ M.blk Ax = some bm ∨ New wz bm) := fun e => by
                    rcases e with e | e
                    · exact (hAxf bm e.2).2.2.1 rfl
                    · have := hlowX bm hbmX; unfold New at e; omega
                  have b1 := hNz.q.blk.keep fr n1
                  have b2 := hNz.v.blk.keep fr n2
                  exact ⟨b1.cell 3, b2.cell 2, b2.cell 3, b1.lt, b2.lt, hNz.q.map.keep fr n3⟩
                have hS0 := hSz wz.drew ((Frm.refl _ _).drew)
                have hS1 : (wz.alloc (.cells #[.int .u64 (W.count : Int), .map (some mu)] 84)).drew.cell? ⟨pe, 3, none⟩ = some (.map (some bm)) ∧ (wz.alloc (.cells #[.int .u64 (W.count : Int), .map (some mu)] 84)).drew.cell? ⟨pw, 2, none⟩ = some (.int .u64 (W.count : Int)) ∧ (wz.alloc (.cells #[.int .u64 (W.count : Int), .map (some mu)] 84)).drew.cell? ⟨pw, 3, none⟩ = some (.map (some mu)) ∧ pe < (wz.alloc (.cells #[.int .u64 (W.count : Int), .map (some mu)] 84)).drew.heap.size ∧ pw < (wz.alloc (.cells #[.int .u64 (W.count : Int), .map (some mu)] 84)).drew.heap.size ∧ MapIs (wz.alloc (.cells #[.int .u64 (W.count : Int), .map (some mu)] 84)).drew bm ukey (entsR L) := hSz _ ((Frm.refl (fun k => X2 k ∧ M.blk Ax = some k ∨ New wz k) wz).alloc (fun k hk => .inr hk) _).drew
                have hup : Up (fun k => X2 k ∧ M.blk Ax = some k ∨ New wz k) wz := fun k hk => .inr hk
                have HB1 := Lib.hid hb1
                have HB3 := Lib.hid hb3
                have HFZ9 := Lib.hid hFz9
                have HRET := Lib.hid hret
                have HE2 := Lib.hid hE2
                have HOUT := Lib.hid hout
                have HOC := Lib.hid hoc
                have HL6 := Lib.hid hl6
                have HC6 := Lib.hid hc6
                have HAB := Lib.hid hAb
                have HNZ := Lib.hid hNz
                have HNX := Lib.hid hnX
                have HAX := Lib.hid hAx
                have HLX := Lib.hid hlx
                have HN0 := Lib.hid hn0
                have HS0 := Lib.hid hs0
                have HAXF := Lib.hid hAxf
                have HSZ := Lib.hid hSz
                have HUP := Lib.hid hup
                have HV := Lib.hid hv
                have HLOWX := Lib.hid hlowX
                have HDIS := Lib.hid hdis
                clear hb1 hb3 hFz9 hret hE2 hout hoc hl6 hc6 hAb hNz hnX hAx hlx hn0 hs0 hAxf hSz hup hv hlowX hdis
                clear hbz
                go_upto_region 17 with (fail)
                clear hz2 hz3 hz4
                refine wp_region_til (by kernel_rfl) (fun w' => w'.cell? ⟨pe, 3, none⟩ = some (.map (some bm)) ∧ w'.cell? ⟨pw, 2, none⟩ = some (.int .u64 (W.count : Int)) ∧ w'.cell? ⟨pw, 3, none⟩ = some (.map (some mu)) ∧ pe < w'.heap.size ∧ pw < w'.heap.size ∧ MapIs w' bm ukey (entsR L)) 17 ?_
                change wpAnyT _ _ _ _ _ _ _ _ _ wz.drew
                refine wpAnyT_take (i := 0) (v := ?_) (d := some 92) rfl (by rfl) (by kernel_rfl) (fun _ _ _ h => h) (by rfl) hS0 (fun w hSw => ?_) ?_
                rotate_left
                · (try dsimp only at hSw); go_simp; first | done | (with_reducible rfl)
                simp only [Act.put, List.setIfInBounds_toArray, List.set_cons_zero, List.set_cons_succ]
                refine wpAnyT_take (i := 1) (v := ?_) (d := some 93) rfl (by rfl) (by kernel_rfl) (fun _ _ _ h => h) (by rfl) hS0 (fun w hSw => ?_) ?_
                rotate_left
                · (try dsimp only at hSw); go_simp; first | done | (with_reducible rfl)
                simp only [Act.put, List.setIfInBounds_toArray, List.set_cons_zero, List.set_cons_succ]
                refine wpAnyT_take (i := 2) (v := ?_) (d := some 94) rfl (by rfl) (by kernel_rfl) (fun _ _ _ h => h) (by rfl) hS0 (fun w hSw => ?_) ?_
                rotate_left
                · (try dsimp only at hSw); go_simp; first | done | (with_reducible rfl)
                simp only [Act.put, List.setIfInBounds_toArray, List.set_cons_zero, List.set_cons_succ]
                refine wpAnyT_take (i := 3) (v := ?_) (d := some 95) rfl (by rfl) (by kernel_rfl) (fun _ _ _ h => h) (by rfl) hS0 (fun w hSw => ?_) ?_
                rotate_left
                · (try dsimp only at hSw); go_simp; first | done | (with_reducible rfl)
                simp only [Act.put, List.setIfInBounds_toArray, List.set_cons_zero, List.set_cons_succ]
                refine wpAnyT_take (i := 4) (v := ?_) (d := some 96) rfl (by rfl) (by kernel_rfl) (fun _ _ _ h => h) (by rfl) hS0 (fun w hSw => ?_) ?_
                rotate_left
                · (try dsimp only at hSw); go_simp; first | done | (with_reducible rfl)
                simp only [Act.put, List.setIfInBounds_toArray, List.set_cons_zero, List.set_cons_succ]
                refine wpAnyT_take (i := 5) (v := ?_) (d := some 97) rfl (by rfl) (by kernel_rfl) (fun _ _ _ h => h) (by rfl) hS0 (fun w hSw => ?_) ?_
                rotate_left
                · (try dsimp only at hSw); go_simp; first | done | (with_reducible rfl)
                simp only [Act.put, List.setIfInBounds_toArray, List.set_cons_zero, List.set_cons_succ]
                refine wpAnyT_take (i := 6) (v := ?_) (d := some 98) rfl (by rfl) (by kernel_rfl) (fun _ _ _ h => h) (by rfl) hS0 (fun w hSw => ?_) ?_
                rotate_left
                · (try dsimp only at hSw); go_simp; first | done | (with_reducible rfl)
                simp only [Act.put, List.setIfInBounds_toArray, List.set_cons_zero, List.set_cons_succ]
                refine wpAnyT_take (i := 7) (v := ?_) (d := some 99) rfl (by rfl) (by kernel_rfl) (fun _ _ _ h => h) (by rfl) hS0 (fun w hSw => ?_) ?_
                rotate_left
                · (try dsimp only at hSw); go_simp; first | done | (with_reducible rfl)
                simp only [Act.put, List.setIfInBounds_toArray, List.set_cons_zero, List.set_cons_succ]
                refine wpAnyT_take (i := 8) (v := ?_) (d := some 100) rfl (by rfl) (by kernel_rfl) (fun _ _ _ h => h) (by rfl) hS0 (fun w hSw => ?_) ?_
                rotate_left
                · (try dsimp only at hSw); go_simp; first | done | (with_reducible rfl)
                simp only [Act.put, List.setIfInBounds_toArray, List.set_cons_zero, List.set_cons_succ]
                refine wpAnyT_take (i := 9) (v := ?_) (d := some 101) rfl (by rfl) (by kernel_rfl) (fun _ _ _ h => h) (by rfl) hS0 (fun w hSw => ?_) ?_
                rotate_left
                · (try dsimp only at hSw); go_simp; first | done | (with_reducible rfl)
                simp only [Act.put, List.setIfInBounds_toArray, List.set_cons_zero, List.set_cons_succ]
                refine wpAnyT_take (i := 10) (v := .slice Ax lx.length cx) (d := some 102) rfl (by rfl) (by kernel_rfl) (fun _ _ _ h => h) (by rfl) hS0 (fun w hSw => by
                  have hlk := run_lookup ukeys uMo zSecs hSw.2.2.2.2.2 s false
                  rw [HV.out] at hlk
                  simp only [Bool.false_eq_true, if_false, ukey] at hlk
                  go_simp) ?_
                simp only [Act.put, List.setIfInBounds_toArray, List.set_cons_zero, List.set_cons_succ]
                refine wpAnyT_take (i := 11) (v := ?_) (d := some 103) rfl (by rfl) (by kernel_rfl) (fun _ _ _ h => h) (by rfl) hS0 (fun w hSw => ?_) ?_
                rotate_left
                · (try dsimp only at hSw); go_simp; first | done | (with_reducible rfl)
                simp only [Act.put, List.setIfInBounds_toArray, List.set_cons_zero, List.set_cons_succ]
                refine wpAnyT_take (i := 12) (v := ?_) (d := some 104) rfl (by rfl) (by kernel_rfl) (fun _ _ _ h => h) (by rfl) hS0 (fun w hSw => ?_) ?_
                rotate_left
                · (try dsimp only at hSw); go_simp; first | done | (with_reducible rfl)
                simp only [Act.put, List.setIfInBounds_toArray, List.set_cons_zero, List.set_cons_succ]
                refine wpAnyT_take (i := 13) (v := ?_) (d := some 105) rfl (by rfl) (by kernel_rfl) (fun _ _ _ h => h) (by rfl) hS0 (fun w hSw => ?_) ?_
                rotate_left
                · (try dsimp only at hSw); go_simp; first | done | (with_reducible rfl)
                simp only [Act.put, List.setIfInBounds_toArray, List.set_cons_zero, List.set_cons_succ]
                refine wpAnyT_take (i := 14) (v := ?_) (d := some 106) rfl (by rfl) (by kernel_rfl) (fun _ _ _ h => h) (by rfl) hS0 (fun w hSw => ?_) ?_
                rotate_left
                · (try dsimp only at hSw); go_simp; first | done | (with_reducible rfl)
                simp only [Act.put, List.setIfInBounds_toArray, List.set_cons_zero, List.set_cons_succ]
                refine wpAnyT_one (i := 15) rfl (by kernel_rfl) (fun K hK => ?_)
                go_simp
                refine hK.out _ _ (.inr (hS1)) ?_
                clear hK K
                refine wpAnyT_one (i := 16) rfl (by kernel_rfl) (fun K hKK => ?_)
                refine step_append2 secE rfl rfl rfl (HAX.out.alloc _).drew (fun k hk => HUP.out k (Nat.le_trans (by simp) hk)) rfl (Rd.new _ #[.int .u64 (W.count : Int), .map (some mu)] _) rfl (fun u hu => by simp at hu; rcases hu with rfl | rfl <;> rfl) (by omega) ?_
                intro A9 c9 w9 hA9 hF9 _ _
                replace hF9 : Frm (fun k => X2 k ∧ M.blk Ax = some k ∨ New wz k) wz w9 := Frm.trans (((Frm.refl _ wz).alloc HUP.out _).drew) hF9
                have hS9 := HSZ.out w9 hF9
                have hA10 : App (fun k => X2 k ∧ M.blk Ax = some k ∨ New wz k) w9 84 2 A9 (lx.length + 1) c9 (secC (lx ++ [((⟨s, W.count, W.uses⟩ : Qs), mu)])) := by
                  unfold secC
                  rw [List.flatMap_append]
                  exact hA9
                clear hA9
                have HF9 := Lib.hid hF9
                have HA10 := Lib.hid hA10
                clear hF9 hA10
                refine hKK.out _ _ (.inr hS9) ?_
                clear hKK K hS0 hS1
                refine wpAnyT_one (i := 17) rfl (by kernel_rfl) (fun K hKK => ?_)
                refine step_update ukeys uMo rfl rfl rfl (k := s) rfl hS9.2.2.2.2.2 (fun w10 hm10 f10 hs10 => ?_)
                have hm10' : MapIs w10 bm ukey (putE s (.slice A9 (lx.length + 1) c9) (entsR L)) := hm10
                have hQ10 := HNZ.out.q.push (o := ⟨s, W.count, W.uses⟩) rfl HNZ.out.v.use_ (fun e => HDIS.out mu e HNZ.out.v.ym) (HNZ.out.v.low mu HNZ.out.v.ym) hct HINV.out.ct HLX.out HN0.out HS0.out HA10.out HF9.out hm10' f10
                have hnx : ∀ k, k < wz.heap.size → M.blk Ax ≠ some k → ¬ (X2 k ∧ M.blk Ax = some k ∨ New wz k) := fun k hk hne e => by
                  rcases e with e | e
                  · exact hne e.2
                  · unfold New at e; omega
                have hYA : ∀ k, Y2 k → M.blk Ax ≠ some k := fun k hk e => HDIS.out k (HAXF.out k e).2.2.2 hk
                have hYb : ∀ k, Y2 k → ¬ k = bm := fun k hk e => HDIS.out bm hbmX (e ▸ hk)
                have hbw : Blk w10 pw 87 _ := (HNZ.out.v.blk.keep HF9.out (hnx pw (HNZ.out.v.low pw hpwY) (hYA pw hpwY))).keep f10 (hYb pw hpwY)
                have hout10 := (HOUT.out.keep HF9.out (fun k hk => hnx k (HNZ.out.v.low k (HNZ.out.v.yo k hk)) (hYA k (HNZ.out.v.yo k hk)))).keep f10 (fun k hk => hYb k (HNZ.out.v.yo k hk))
                have hxlow : ∀ k, X2 k → k < wx.heap.size := hN.out.q.low
                have hb10 := (HL6.out.keep HF9.out (fun k hk => hnx k (HAB.out k hk).2 (fun e => by have := hxlow k (HAXF.out k e).2.2.2; have := (HAB.out k hk).1; omega))).keep f10 (fun k hk e => by have := hxlow bm hbmX; have := (HAB.out k hk).1; omega)
                have hF10 : Frm (Own X w) w w10 := by
                  refine (HFZ9.out.trans (HF9.out.mono (fun k hk => ?_))).trans (f10.mono (fun k hk => hsub.out k (.inl (hk ▸ hbmX))))
                  rcases hk with hk | hk
                  · exact hsub.out k (.inl hk.1)
                  · exact .inr (Nat.le_trans HFZ9.out.size hk)
                have hsub10 : ∀ k, (X2 k ∨ k = mu ∨ M.blk A9 = some k) → Own X w k := fun k hk => by
                  rcases hk with hk | hk | hk
                  · exact hsub.out k (.inl hk)
                  · exact hsub.out k (.inr (hk ▸ hmuY))
                  · rcases HA10.out.inM k hk with e | e
                    · exact hsub.out k (.inl e.1)
                    · exact .inr (Nat.le_trans HFZ9.out.size e)
                refine hKK.out _ _ (.inl (by kernel_rfl)) ?_
                clear hKK K hS9 hm10 hm10' hs10 f10
                refine wpAnyT_done (by kernel_rfl) ?_ _
                have hz4 := hbw.cell 4
                simp only [List.getElem?_toArray, List.getElem?_cons_zero, List.getElem?_cons_succ] at hz4
                have hpl := hbw.lt
                have HQ10 := Lib.hid hQ10
                have HOUT10 := Lib.hid hout10
                have HB10 := Lib.hid hb10
                have HF10 := Lib.hid hF10
                have HSUB10 := Lib.hid hsub10
                have HBW := Lib.hid hbw
                clear hQ10 hout10 hb10 hF10 hsub10 hbw
                go_wp2_with (fail)
                refine bodyPost_ret (results_tmp2 rfl _ _ _) rfl ?_
                refine ⟨Ao2, co2, A6, c6, fun k => X2 k ∨ k = mu ∨ M.blk A9 = some k, S2, putE s (⟨A9, c9, lx ++ [((⟨s, W.count, W.uses⟩ : Qs), mu)]⟩ : Ro) L, ?_, ?_, ?_, ?_, ?_, ?_, HF10.out, HSUB10.out, fun k hk => ⟨HRET.out k hk, fun e => ?_⟩⟩
                · rw [HB1.out, HB3.out]; rfl
                · rw [HB3.out]; exact HOUT10.out
                · rw [HB3.out]; exact HOC.out
                · rw [HB1.out]; exact HB10.out
                · rw [HB1.out]; exact HC6.out
                · rw [HE2.out]; exact HQ10.out
                · have h1 := HNX.out k hk
                  rcases e with e | e | e
                  · exact h1.2.1 e
                  · exact h1.2.2 e
                  · rcases HA10.out.inM k e with q | q
                    · exact h1.2.1 q.1
                    · unfold New at q; omega
              · have hczi : ¬ (0 : Int) < (W.count : Int) := by omega
                have hE2 : Z.2 = { E1 with t := W.t } := by
                  rw [HZ2.out, HE1.out]
                  simp only [if_neg hcz]
                have HB1 := Lib.hid hb1
                have HB3 := Lib.hid hb3
                have HFZ9 := Lib.hid hFz9
                have HRET := Lib.hid hret
                have HE2 := Lib.hid hE2
                have HOUT := Lib.hid hout
                have HOC := Lib.hid hoc
                have HL6 := Lib.hid hl6
                have HC6 := Lib.hid hc6
                have HAB := Lib.hid hAb
                have HNZ := Lib.hid hNz
                have HNX := Lib.hid hnX
                clear hb1 hb3 hFz9 hret hE2 hout hoc hl6 hc6 hAb hNz hnX
                clear hbz
                go_wp2_with (fail)
                refine bodyPost_ret (results_tmp2 rfl _ _ _) rfl ?_
                refine ⟨Ao2, co2, A6, c6, X2, S2, L, ?_, ?_, ?_, ?_, ?_, ?_, HFZ9.out, fun k hk => hsub.out k (.inl hk), fun k hk => ⟨HRET.out k hk, (HNX.out k hk).2.1⟩⟩
                · rw [HB1.out, HB3.out]; rfl
                · rw [HB3.out]; exact HOUT.out
                · rw [HB3.out]; exact HOC.out
                · rw [HB1.out]; exact HL6.out
                · rw [HB1.out]; exact HC6.out
                · rw [HE2.out]; exact HNZ.out.q
end Go.Proofs.Ytdgggjeiflllhaa.M

