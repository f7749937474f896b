/- QdecPieces: what the walk needs. No condition. -/
import Derived.BigQuiet
import Derived.IntWalk
import Derived.Deep.CutBlock
import Derived.Deep.LoopGhost
import Derived.Below
import Derived.Test.YtdgggjeiflllhaaQlr
import Derived.Test.YtdgggjeiflllhaaQlp
import Derived.Test.YtdgggjeiflllhaaQls
namespace Go.Proofs.Ytdgggjeiflllhaa.M
open Go.ChangeShapes Go.WideShapes Go.ChangeAt Go.RowKit

/-- two decoders that lie apart -/
structure Qk2 (W w : World) (X : Nat → Prop) (p g m : Nat) (D : Qd) (Y : Nat → Prop) (p2 g2 m2 : Nat) (D2 : Qd) : Prop where
  a : QKt W w X p g m D
  b : QKt W w Y p2 g2 m2 D2
  dis : ∀ k, X k → ¬ Y k
section
variable {W w w' : World} {X X' Y Y' : Nat → Prop} {p g m p2 g2 m2 : Nat} {D D' D2 D2' : Qd}
theorem Qk2.fresh (h : Qk2 W w X p g m D Y p2 g2 m2 D2) (f : Frm (New w) w w') : Qk2 W w' X p g m D Y p2 g2 m2 D2 := ⟨h.a.fresh f, h.b.fresh f, h.dis⟩
theorem Qk2.one (h : Qk2 W w X p g m D Y p2 g2 m2 D2) (k : QKt W w' X' p g m D') (f : Frm (Own X w) w w') (s : ∀ k, X' k → Own X w k) : Qk2 W w' X' p g m D' Y p2 g2 m2 D2 :=
  ⟨k, ⟨h.b.at_.keep f (fun j hj q => by
    rcases q with q | q
    · exact h.dis j q hj
    · have := h.b.at_.low j hj; omega), k.frm, h.b.low⟩, fun j hj hy => by
    rcases s j hj with q | q
    · exact h.dis j q hy
    · have := h.b.at_.low j hy; omega⟩
theorem Qk2.two (h : Qk2 W w X p g m D Y p2 g2 m2 D2) (k : QKt W w' Y' p2 g2 m2 D2') (f : Frm (Own Y w) w w') (s : ∀ k, Y' k → Own Y w k) : Qk2 W w' X p g m D Y' p2 g2 m2 D2' :=
  ⟨⟨h.a.at_.keep f (fun j hj q => by
    rcases q with q | q
    · exact h.dis j hj q
    · have := h.a.at_.low j hj; omega), k.frm, h.a.low⟩, k, fun j hj hy => by
    rcases s j hy with q | q
    · exact h.dis j hj q
    · have := h.a.at_.low j hj; omega⟩
end
theorem tmod5000 (n : Int) : -5000 < Int.tmod n 5000 ∧ Int.tmod n 5000 < 5000 := by
  have h1 := Int.tmod_lt_of_pos n (show (0 : Int) < 5000 by decide)
  have h2 := Int.lt_tmod_of_pos n (show (0 : Int) < 5000 by decide)
  exact ⟨h2, h1⟩
theorem gQ_facts {lim : Nat} (hl : lim ≤ 4096) : ∀ (n : Nat) (T : Tb) (r : Bytes), r.length ≤ n → T.Ok → T.cap ≤ 4096 → (gQ lim T r).1.n + (gQ lim T r).2.1.length ≤ T.n + r.length := fun n => by
  induction n with
  | zero =>
    intro T r h _ _
    obtain rfl : r = [] := List.eq_nil_of_length_eq_zero (by omega)
    exact Nat.le_refl _
  | succ n ih =>
    intro T r h hok hc
    by_cases hr : r = []
    · subst hr; exact Nat.le_refl _
    · have hf := insQ_facts hok hc hl r
      rw [gQ_cons hl hok hc hr]
      by_cases h0 : (insQ lim T r).1 = 0
      · rw [if_pos h0]
        obtain ⟨a, b, c, d, e⟩ := hf.2 h0
        have := ih _ (r.drop (insQ lim T r).2.1) (by rw [List.length_drop]; omega) a b
        rw [List.length_drop] at this
        omega
      · rw [if_neg h0]
        split <;> exact Nat.le_refl _
theorem feed_phi {D : Qd} (hok : D.t.Ok) (hc : D.t.cap ≤ 4096) (hl : D.lim ≤ 4096) (x : Bytes) : (D.feed x).2.t.n + (D.feed x).2.rest.length ≤ D.t.n + D.rest.length + x.length := by
  cases hb : D.bad with
  | true => rw [feed_bad hb]; simp only; omega
  | false =>
    rw [feed_ok hb]
    have := gQ_facts hl _ D.t (D.rest ++ x) (Nat.le_refl _) hok hc
    rw [List.length_append] at this
    simp only
    omega
theorem feed_out (D : Qd) (x : Bytes) : (D.feed x).2.out = D.out := by
  cases hb : D.bad with
  | true => rw [feed_bad hb]
  | false => rw [feed_ok hb]
theorem QdAt.good {X : Nat → Prop} {w : World} {p g m : Nat} {D : Qd} (h : QdAt X w p g m D) : D.t.Ok ∧ D.t.cap ≤ 4096 ∧ D.lim ≤ 4096 := by
  obtain ⟨S, Ar, cr, Ao, co, ents, h⟩ := h
  exact ⟨h.ok, h.cap, h.lim⟩
theorem qrun_to {o : Oper} {a : Act} {w : World} {x hi : Operand} {A : Option Addr} {n c j : Nat} {v : Int} (ho : o.op = .slice 23 x none (some hi) none) (hx : a.eval x = .slice A n c)
    (hhi : a.eval hi = .int .i64 v) (hv : v = (j : Int)) (hj : j ≤ c) :
    (execOp a.eval o).run Try.prog w = .ok (.value (.slice A j c)) w := by
  subst hv
  cases hi : Try.prog.info? 5 with
  | none => have := u8size; rw [hi] at this; cases this
  | some q =>
    unfold execOp
    have h4 : (0 : Int) ≤ (j : Int) := by omega
    have hA : A.map (·.add 0) = A := by cases A <;> simp [Addr.add]
    simp only [ho, Option.map_some, Option.map_none, hhi, hx]
    by_cases hc : c = 0
    · subst hc
      obtain rfl : j = 0 := by omega
      simp [Instr.sliceAt, Instr.slice, Instr.sliceBounds, Instr.sliceBound, run_underlying Try.underlying23, sizeOf, typeInfo, hi, asIntOf]
    · simp [Instr.sliceAt, Instr.slice, Instr.sliceBounds, Instr.sliceBound, run_underlying Try.underlying23, sizeOf, typeInfo, hi, asIntOf, h4, hj, hA, hc]
set_option maxRecDepth 100000 in
set_option maxHeartbeats 1000000 in
theorem qsend2_any {X : Nat → Prop} {w : World} {pd g bm : Nat} {D : Qd} (h : QdAt X w pd g bm D) (ho : D.out.length ≤ 1099511627000) (hn : D.t.n ≤ 4611686018427387903) :
    Calls Try.prog 29 #[.pointer (some ⟨pd, 0, none⟩)] w fun e w' => ∃ (X' : Nat → Prop) (A : Option Addr) (c : Nat), e = .returned (.slice A D.send.1.length c) ∧ Rd w' A (bvs D.send.1) ∧ Gone X' w' A ∧ QdAt X' w' pd g bm D.send.2 ∧ Frm (Own X w) w w' ∧ (∀ k, X' k → Own X w k) ∧ ∀ k, M.blk A = some k → Own X w k := by
  obtain ⟨S, Ar, cr, Ao, co, ents, h⟩ := h
  have hb := h.blk
  have hy0 := hb.cell 0
  have hy5 := hb.cell 5
  have hy6 := hb.cell 6
  simp only [List.getElem?_toArray, List.getElem?_cons_zero, List.getElem?_cons_succ] at hy0 hy5 hy6
  have hl := hb.lt
  have hz5 := hb.frozen 5
  have hz6 := hb.frozen 6
  obtain ⟨TA, Tc, Ta, Tb, Tew, Ten, hT⟩ := h.tab
  have hcn := tcount_any w hT
  have hX : ∀ k, (X k ∧ M.blk Ao ≠ some k) → Own X w k := fun k hk => .inl hk.1
  by_cases hlt : D.told < D.t.n
  · have hli : (D.told : Int) < (D.t.n : Int) := by omega
    obtain ⟨v, hv⟩ : ∃ v, v = D.t.n - D.told := ⟨_, rfl⟩
    have hwr : IntKind.u64.wrap ((D.t.n : Int) - (D.told : Int)) = (v : Int) := by
      rw [show ((D.t.n : Int) - (D.told : Int)) = (v : Int) by omega]
      exact IntWalk.u64_in _ (by omega)
    have hp := prefix_nat D.out Ao co 0 6 v w h.out (by omega) (by decide) (by decide) (by decide) (by omega)
    have hs1 : D.send.1 = D.out ++ pfx 0 6 v := by unfold Qd.send; rw [hv]; simp only [if_pos hlt]
    have hs2 : D.send.2 = { D with out := [], told := D.t.n } := by unfold Qd.send; rw [show max D.told D.t.n = D.t.n by omega]
    rw [hs1, hs2]
    obtain ⟨l2, hl2⟩ : ∃ l2, l2 = D.out ++ pfx 0 6 v := ⟨_, rfl⟩
    have hl2n : l2 ≠ [] := by rw [hl2]; exact pfx_ne _ _ _ _
    rw [← hl2] at hp hs1 ⊢
    clear hl2
    have H := Lib.hid h
    have HB := Lib.hid hb
    have HCN := Lib.hid hcn
    have HP := Lib.hid hp
    have HV := Lib.hid hv
    have HS1 := Lib.hid hs1
    have HS2 := Lib.hid hs2
    have HT := Lib.hid hT
    clear h hb hcn hp hv hs1 hs2 hT
    go_enter Try.func29, Try.ntmps29
    go_wp2_with (first
      | (go_at_call 32; refine HCN.out.mono ?_; rintro e1 w1 ⟨rfl, hw⟩; rw [hw]; clear hw w1)
      | (go_at_call 43; refine HP.out.mono ?_; rintro e2 w2 ⟨A2, c2, rfl, hA2, hF2⟩; have hyc5 := (HB.out.fresh hF2).cell 5; have hyc6 := (HB.out.fresh hF2).cell 6; have hz5 := (HB.out.fresh hF2).frozen 5; have hz6 := (HB.out.fresh hF2).frozen 6; have hl := (HB.out.fresh hF2).lt))
    go_ret
    have h2 := ((H.out.fresh hF2).settold D.t.n).clearout
    refine ⟨_, A2, c2, rfl, ?_, ?_, ⟨_, _, _, _, _, _, h2⟩, ?_, hX, fun k hk => .inr (hA2.inM k hk)⟩
    · exact (hA2.rd.keep (((Frm.refl (fun k => k = pd) w2).setCell (p := ⟨pd, 6, none⟩) rfl _).setCell (p := ⟨pd, 5, none⟩) rfl _) (fun k hk e => by have := hA2.inM k hk; have := H.out.blk.lt; unfold New at *; omega))
    · intro k hk
      have hq := RetB.lt hA2 hl2n k hk
      exact ⟨fun e => by have := H.out.low k e.1; omega, by simpa using hq.2⟩
    · exact ((hF2.mono (fun k hk => .inr hk)).setCell (p := ⟨pd, 6, none⟩) (.inl H.out.xp) _).setCell (p := ⟨pd, 5, none⟩) (.inl H.out.xp) _
  · have hli : ¬ (D.told : Int) < (D.t.n : Int) := by omega
    have hs1 : D.send.1 = D.out := by unfold Qd.send; simp only [if_neg hlt]
    have hs2 : D.send.2 = { D with out := [] } := by unfold Qd.send; rw [show max D.told D.t.n = D.told by omega]
    rw [hs1, hs2]
    have H := Lib.hid h
    have HB := Lib.hid hb
    have HCN := Lib.hid hcn
    have HS1 := Lib.hid hs1
    have HS2 := Lib.hid hs2
    have HT := Lib.hid hT
    clear h hb hcn hs1 hs2 hT
    go_enter Try.func29, Try.ntmps29
    go_wp2_with (go_at_call 32; refine HCN.out.mono ?_; rintro e1 w1 ⟨rfl, hw⟩; rw [hw]; clear hw w1)
    go_ret
    have f2 : Frm (fun k => k = pd) w (w.setCell ⟨pd, 5, none⟩ (.slice none 0 0)) := (Frm.refl (fun k => k = pd) w).setCell (p := ⟨pd, 5, none⟩) rfl _
    exact ⟨_, Ao, co, rfl, H.out.out.keep f2 (fun k hk e => (H.out.os k hk).2.1 e), fun k hk => ⟨fun q => q.2 hk, by simpa using H.out.low k (H.out.xo k hk)⟩, ⟨_, _, _, _, _, _, H.out.clearout⟩, f2.mono (fun k hk => .inl (hk ▸ H.out.xp)), hX, fun k hk => .inl (H.out.xo k hk)⟩
theorem kqsend2 {w0 w : World} {X : Nat → Prop} {pd g bm : Nat} {D : Qd} (h : QKt w0 w X pd g bm D) (ho : D.out.length ≤ 1099511627000) (hn : D.t.n ≤ 4611686018427387903) :
    Calls Try.prog 29 #[.pointer (some ⟨pd, 0, none⟩)] w fun e w' => ∃ (X' : Nat → Prop) (A : Option Addr) (c : Nat), QKt w0 w' X' pd g bm D.send.2 ∧ e = .returned (.slice A D.send.1.length c) ∧ QKept w' X' A (bvs D.send.1) ∧ Frm (Own X w) w w' ∧ (∀ k, X' k → Own X w k) ∧ ∀ k, M.blk A = some k → Own X w k := by
  refine (qsend2_any h.at_ ho hn).mono ?_
  rintro e w' ⟨X', A, c, h1, h2, h3, h4, h5, h6, h7⟩
  exact ⟨X', A, c, h.step h4 h5 h6, h1, ⟨h2, h3⟩, h5, h6, h7⟩
/-- what is not wanted comes up as nothing -/
theorem wpAnyH_skipB {P : Program} {ops : Array Oper} {Q : Exit → Act → World → Prop} {md : Region.Mode} {S : World → Prop} {i : Nat} {oi : Oper} {d : Option Tmp} {fuel : Nat} {listed : Array Bool} {a : Act} {w : World} (hi : ops[i]? = some oi) (hd : oi.dst = d)
    (hc : (Region.noSelect ops && Region.free md ops listed i && (Region.ready md ops listed).contains i) = true)
    (hQ : ∀ c a w, Q (.panic c) (a.put oi.dst undef) w → Q (.panic c) a w) (hwt : Region.wanted oi (yielded ops a.tmps) = false) (hS : S w)
    (h : wpAnyH P md ops Q S fuel (listed.setIfInBounds i true) (a.put d undef) w) : wpAnyH P md ops Q S (fuel + 1) listed a w := by
  subst hd
  simp only [Bool.and_eq_true] at hc
  exact wpAnyH_take hi hc.1.1 hc.1.2 hc.2 hQ (.inr ⟨hwt, rfl⟩) hS h
/-- kept apart from both -/
def Both (X Y : Nat → Prop) (k : Nat) : Prop := X k ∨ Y k
end Go.Proofs.Ytdgggjeiflllhaa.M
