/- hdec's update. -/
import Derived.Deep.CutBlock
import Derived.Test.YtcebckkpablagaaHen
import Derived.Test.YtcebckkpablagaaEres
namespace Go.Proofs.Ytcebckkpablagaa.M
open Go.ChangeShapes Go.WideShapes Go.ChangeAt Go.RowKit

section
variable {w wr w' : World} {S S' S2 : Nat → Prop} {pd g pr up c co : Nat} {D : De} {T T2 : Tb} {mu : Bool} {out : List Fld} {r : Bytes} {A Ao : Option Addr}
/-- the table is turned -/
theorem HRM.tabs (h : HRM w S pd g D pr S' T mu up out r A c Ao co wr) (hT : TabS S2 w' g T2) (hc : T2.cap ≤ 4096) (ho : T2.Ok) (f : Frm (Own S' wr) wr w') (hS : ∀ k, S2 k → Own S' wr k) : HRM w S pd g D pr S2 T2 mu up out r A c Ao co w' := by
  have h1 := h.rdr.lt
  have h2 := h.dec.lt
  have hs := h.frm.size
  have hn : ∀ k, k < wr.heap.size → ¬ S' k → ¬ Own S' wr k := fun k hk hq c => by
    rcases c with c | c
    · exact hq c
    · omega
  exact
    { h with
      rdr := h.rdr.keep f (hn pr h1 h.outS.1)
      dec := h.dec.keep f (hn pd h2 h.outS.2)
      tab := hT
      outS := ⟨fun c => hn pr h1 h.outS.1 (hS pr c), fun c => hn pd h2 h.outS.2 (hS pd c)⟩
      cap := hc
      ok := ho
      rd := h.rd.keep f (fun k hk => hn k (by have := (h.far k hk).2.2; omega) (fun c => by
        have h4 := h.far k hk
        rcases h.sub k c with c | c
        · exact h4.2.1 c
        · have := h4.2.2; omega))
      app := h.app.keep f (fun k hk => hn k (h.ofar k hk).2.2 (h.ofar k hk).1)
      ofar := fun k hk => ⟨fun c => hn k (h.ofar k hk).2.2 (h.ofar k hk).1 (hS k c), (h.ofar k hk).2.1, Nat.lt_of_lt_of_le (h.ofar k hk).2.2 f.size⟩
      frm := h.frm.trans (f.mono (fun k hk => by
        rcases hk with c | c
        · exact .inr (h.sub k c)
        · exact .inr (.inr (Nat.le_trans hs c))))
      sub := fun k hk => by
        rcases hS k hk with c | c
        · exact h.sub k c
        · exact .inr (Nat.le_trans hs c) }
/-- the decoder's mark -/
theorem HRM.setmu (h : HRM w S pd g D pr S' T mu up out r A c Ao co wr) (m : Bool) : HRM w S pd g D pr S' T m up out r A c Ao co (wr.setCell ⟨pd, 2, none⟩ (.bool m)) := by
  have f : Frm (fun k => k = pd) wr (wr.setCell ⟨pd, 2, none⟩ (.bool m)) := (Frm.refl (fun k => k = pd) wr).setCell (p := ⟨pd, 2, none⟩) rfl _
  have hb := h.dec.set_ 2 (.bool m)
  have hp : pr ≠ pd := by have := h.pw; have := h.prw; omega
  exact
    { h with
      rdr := h.rdr.keep f hp
      dec := by simpa using hb
      tab := h.tab.keep f (fun k hk e => h.outS.2 (by rw [← e]; exact hk))
      rd := h.rd.keep f (fun k hk e => (h.far k hk).1 e)
      app := h.app.keep f (fun k hk e => by have h1 := h.app.inM k hk; have h2 := h.pw; unfold New at h1; omega)
      ofar := fun k hk => ⟨(h.ofar k hk).1, (h.ofar k hk).2.1, Nat.lt_of_lt_of_le (h.ofar k hk).2.2 f.size⟩
      frm := h.frm.trans (f.mono (fun k hk => .inl hk)) }
/-- one more size update -/
theorem HRM.setup (h : HRM w S pd g D pr S' T mu up out r A c Ao co wr) (v : Int) (n : Nat) (hv : v = n) : HRM w S pd g D pr S' T mu n out r A c Ao co (wr.setCell ⟨pr, 3, none⟩ (.int .i64 v)) := by
  subst hv
  have f : Frm (fun k => k = pr) wr (wr.setCell ⟨pr, 3, none⟩ (.int .i64 (n : Int))) := (Frm.refl (fun k => k = pr) wr).setCell (p := ⟨pr, 3, none⟩) rfl _
  have hb := h.rdr.set_ 3 (.int .i64 (n : Int))
  exact h.setr f (by simpa using hb) h.rd h.rc h.rl (fun k hk => hk)
end
/-- some state of a reader -/
def HSome (w : World) (S : Nat → Prop) (pd g : Nat) (D : De) (pr : Nat) (w' : World) : Prop := ∃ S' T mu up out r A c Ao co, HRM w S pd g D pr S' T mu up out r A c Ao co w'

/-- one way or the other -/
def UpR (c : Prop) (K1 K2 : World → Prop) (e : Ending) (w' : World) : Prop := (c → e = .returned (.tuple #[]) ∧ K1 w') ∧ (¬ c → e = PW ∧ K2 w')

set_option maxRecDepth 100000 in
set_option maxHeartbeats 2000000 in
theorem update_any {w wr : World} {S S' : Nat → Prop} {pd g pr up c co : Nat} {D : De} {T : Tb} {mu : Bool} {out : List Fld} {r : Bytes} {A Ao : Option Addr} (h : HRM w S pd g D pr S' T mu up out r A c Ao co wr) (hu : up ≤ 2) (hol : out.length ≤ 64) :
    Calls Try.prog 84 #[.pointer (some ⟨pr, 0, none⟩)] wr (UpR ((rdp r 5).2.2 = 0 ∧ (rdp r 5).1 ≤ D.max ∧ out = [] ∧ up < 2)
      (fun w' => ∃ A2 c2, HRM w S pd g D pr S' (T.resize (rdp r 5).1) false (up + 1) out (r.drop (rdp r 5).2.1) A2 c2 Ao co w') (HSome w S pd g D pr)) := by
  have hnum := number_any 5 h (by omega) (by omega)
  have hile := rdp_le' r 5 (by decide)
  have hmax := h.max
  generalize rdp r 5 = q at *
  obtain ⟨n, k, e⟩ := q
  simp only at hnum hile ⊢
  have H := Lib.hid h
  clear h
  go_enter Try.func84, Try.ntmps84
  go_wp2_with (fail)
  refine hnum.mono ?_
  by_cases he : e = 0
  · subst he
    simp only [↓reduceIte]
    rintro e' w2 ⟨rfl, ⟨A2, hM2⟩, hF2⟩
    obtain ⟨hy0, hy1, hy2, hy3, hy4, hy5, hy6, hy7, hy8⟩ := hM2.cells
    have hz3 := hM2.rdr.frozen 3
    have hwu : IntKind.i64.wrap ((up : Int) + 1) = ((up + 1 : Nat) : Int) := by
      rw [show ((up : Int) + 1) = ((up + 1 : Nat) : Int) from by omega]; exact IntWalk.i64_in _ (by omega)
    have hM3 := hM2.setup ((up : Int) + 1) (up + 1) (by omega)
    have HM2 := Lib.hid hM2
    have HF2 := Lib.hid hF2
    have HM3 := Lib.hid hM3
    clear hM2 hF2 hM3
    clear hnum
    go_upto_region 2 with (fail)
    generalize w2.setCell ⟨pr, 3, none⟩ (.int .i64 ((up : Int) + 1)) = w3 at *
    clear hy0 hy1 hy2 hy3 hy4 hy5 hy6 hy7 hy8 hz3 hwu
    obtain ⟨hy0, hy1, hy2, hy3, hy4, hy5, hy6, hy7, hy8⟩ := HM3.out.cells
    have hwm : IntKind.u64.wrap (D.max : Int) = (D.max : Int) := IntWalk.u64_in _ (by omega)
    by_cases hq : n ≤ D.max ∧ out = [] ∧ up < 2
    · obtain ⟨hq1, rfl, hq3⟩ := hq
      have hup2 : (((up + 1 : Nat) : Int)) ≤ 2 := by omega
      go_wp2_with (fail)
      rw [decide_eq_true (show (up : Int) + 1 ≤ 2 by omega)]
      refine (must_true _).mono ?_
      rintro e' w4 ⟨rfl, hw4⟩
      rw [hw4]
      clear hw4
      go_wp2_with (fail)
      refine (tresize_any n _ HM3.out.tab (by omega)).mono ?_
      rintro e' w5 ⟨⟨m, rfl⟩, hT5, hF5⟩
      have hM5 := HM3.out.tabs hT5 (by show n ≤ 4096; omega) (HM3.out.ok.resize n) hF5 (fun k hk => .inl hk)
      clear hy0 hy1 hy2 hy3 hy4 hy5 hy6 hy7 hy8
      obtain ⟨hy0, hy1, hy2, hy3, hy4, hy5, hy6, hy7, hy8⟩ := hM5.cells
      have hz2 := hM5.dec.frozen 2
      have HM5 := Lib.hid hM5
      have HT5 := Lib.hid hT5
      have HF5 := Lib.hid hF5
      clear hM5 hT5 hF5
      go_wp2
      go_end0
      exact ⟨fun _ => ⟨rfl, A2, c - k, HM5.out.setmu false⟩, fun hc => absurd (by first | trivial | exact ⟨rfl, hq1, rfl, hq3⟩) hc⟩
    · have HQ := Lib.hid hq
      clear hq
      by_cases h1 : n ≤ D.max
      · by_cases h2 : out = []
        · have h3 : ¬ up < 2 := fun h3 => HQ.out ⟨h1, h2, h3⟩
          have hol0 : out.length = 0 := by rw [h2]; rfl
          clear h2
          go_wp2_with (fail)
          rw [decide_eq_false (show ¬ (up : Int) + 1 ≤ 2 by omega)]
          refine (must_false _).mono ?_
          rintro e' w4 ⟨rfl, hw4⟩
          rw [hw4]
          clear hw4
          unfold PW
          go_wp2
          refine ⟨rfl, ?_⟩
          unfold UpR
          constructor
          · intro hc
            first | exact absurd hc HQ.out | exact absurd hc.2 HQ.out | exact False.elim hc | (exfalso; simp at hol0; exact hol0 hc.1)
          · intro _
            exact ⟨rfl, S', T, mu, up + 1, out, r.drop k, A2, c - k, Ao, co, HM3.out⟩
        · have hol0 : ((out.length : Int) == 0) = false := by rw [beq_eq_false_iff_ne]; have := List.length_pos_iff.2 h2; omega
          clear h2
          go_wp2_with (fail)
          refine (must_false _).mono ?_
          rintro e' w4 ⟨rfl, hw4⟩
          rw [hw4]
          clear hw4
          unfold PW
          go_wp2
          refine ⟨rfl, ?_⟩
          unfold UpR
          constructor
          · intro hc
            first | exact absurd hc HQ.out | exact absurd hc.2 HQ.out | exact False.elim hc | (exfalso; simp at hol0; exact hol0 hc.1)
          · intro _
            exact ⟨rfl, S', T, mu, up + 1, out, r.drop k, A2, c - k, Ao, co, HM3.out⟩
      · have h1' : ¬ ((n : Int) ≤ (D.max : Int)) := by omega
        go_wp2_with (fail)
        refine (must_false _).mono ?_
        rintro e' w4 ⟨rfl, hw4⟩
        rw [hw4]
        clear hw4
        unfold PW
        go_wp2
        refine ⟨rfl, ?_⟩
        unfold UpR
        constructor
        · intro hc
          first | exact absurd hc HQ.out | exact absurd hc.2 HQ.out | exact False.elim hc | (exfalso; simp at hol0; exact hol0 hc.1)
        · intro _
          exact ⟨rfl, S', T, mu, up + 1, out, r.drop k, A2, c - k, Ao, co, HM3.out⟩
  · simp only [if_neg he]
    rintro e' w2 ⟨rfl, hM2, hF2⟩
    unfold PW
    go_wp2
    refine ⟨rfl, ?_⟩
    unfold UpR
    exact ⟨fun hc => absurd hc.1 he, fun _ => ⟨rfl, S', T, mu, up, out, r, A, c, Ao, co, hM2⟩⟩
end Go.Proofs.Ytcebckkpablagaa.M
