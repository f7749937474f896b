/- hdec's reader in memory: must, number, str. -/
import Derived.Deep.CutBlock
import Derived.StillTailTactics
import Derived.Deep.RegionHeld3
import Derived.Test.YtcebckkpablagaaHstr
import Derived.Test.YtcebckkpablagaaEnce
import Derived.Test.YtcebckkpablagaaIn
import Derived.Test.YtcebckkpablagaaTadd
namespace Go.Proofs.Ytcebckkpablagaa.M
open Go.ChangeShapes Go.WideShapes Go.ChangeAt Go.RowKit

/-- the panic that says that a block isn't one -/
def PW : Ending := .panicked [{ v := .iface 117 (.agg #[]), recovered := false }]

theorem must_true (w : World) : Calls Try.prog 85 #[.bool true] w fun e w' => e = .returned (.tuple #[]) ∧ w' = w := by
  go_enter Try.func85, Try.ntmps85
  go_wp2
  go_end0
  exact ⟨rfl, rfl⟩
theorem must_false (w : World) : Calls Try.prog 85 #[.bool false] w fun e w' => e = PW ∧ w' = w := by
  go_enter Try.func85, Try.ntmps85
  go_wp2
  exact ⟨rfl, rfl, rfl⟩

/-- a reader at block pr, over a decoder at block pd -/
structure HRM (w : World) (S : Nat → Prop) (pd g : Nat) (D : De) (pr : Nat) (S' : Nat → Prop) (T : Tb) (mu : Bool) (up : Nat) (out : List Fld) (r : Bytes) (A : Option Addr) (c : Nat) (Ao : Option Addr) (co : Nat) (wr : World) : Prop where
  rdr : Blk wr pr 121 #[.pointer (some ⟨pd, 0, none⟩), .slice A r.length c, .slice Ao out.length co, .int .i64 up]
  dec : Blk wr pd 115 #[.pointer (some ⟨g, 0, none⟩), .int .i64 D.max, .bool mu, .bool D.bad]
  tab : TabS S' wr g T
  outS : ¬ S' pr ∧ ¬ S' pd
  cap : T.cap ≤ 4096
  max : D.max ≤ 4096
  ok : T.Ok
  rd : Rd wr A (bvs r)
  rc : r.length ≤ c
  rl : r.length ≤ 1099511627776
  far : ∀ k, blk A = some k → k ≠ pd ∧ ¬ S k ∧ k < w.heap.size
  app : App (New w) wr 30 2 Ao out.length co (fvs out)
  ofar : ∀ k, blk Ao = some k → ¬ S' k ∧ k ≠ pr ∧ k < wr.heap.size
  pw : pd < w.heap.size
  prw : w.heap.size ≤ pr
  frm : Frm (fun k => k = pd ∨ Own S w k) w wr
  sub : ∀ k, S' k → Own S w k
section
variable {w wr w' : World} {S S' : Nat → Prop} {pd g pr up c co : Nat} {D : De} {T : Tb} {mu : Bool} {out : List Fld} {r : Bytes} {A Ao : Option Addr}
theorem HRM.fresh (h : HRM w S pd g D pr S' T mu up out r A c Ao co wr) (f : Frm (New wr) wr w') : HRM w S pd g D pr S' T mu up out r A c Ao co w' :=
  { h with
    rdr := h.rdr.fresh f
    dec := h.dec.fresh f
    tab := h.tab.fresh f
    rd := h.rd.fresh f
    app := h.app.fresh f
    ofar := fun k hk => ⟨(h.ofar k hk).1, (h.ofar k hk).2.1, Nat.lt_of_lt_of_le (h.ofar k hk).2.2 f.size⟩
    frm := h.frm.trans (f.mono (fun _ hk => .inr (.inr (Nat.le_trans h.frm.size hk)))) }
theorem HRM.both (h : HRM w S pd g D pr S' T mu up out r A c Ao co wr) (f : Frm (New wr) wr w') : HRM w S pd g D pr S' T mu up out r A c Ao co w' ∧ Frm (New wr) wr w' := ⟨h.fresh f, f⟩
/-- the reader's own cells are written -/
theorem HRM.setr (h : HRM w S pd g D pr S' T mu up out r A c Ao co wr) (f : Frm (fun k => k = pr) wr w') {up2 c2 : Nat} {r2 : Bytes} {A2 : Option Addr} (hb : Blk w' pr 121 #[.pointer (some ⟨pd, 0, none⟩), .slice A2 r2.length c2, .slice Ao out.length co, .int .i64 up2])
    (hrd : Rd wr A2 (bvs r2)) (hrc : r2.length ≤ c2) (hrl : r2.length ≤ 1099511627776) (hbk : ∀ k, blk A2 = some k → blk A = some k) : HRM w S pd g D pr S' T mu up2 out r2 A2 c2 Ao co w' := by
  have hpp : pd ≠ pr := by have := h.pw; have := h.prw; omega
  exact
    { h with
      rdr := hb
      dec := h.dec.keep f hpp
      tab := h.tab.keep f (fun k hk e => h.outS.1 (by rw [← e]; exact hk))
      rd := hrd.keep f (fun k hk e => by have h1 := (h.far k (hbk k hk)).2.2; have h2 := h.prw; omega)
      rc := hrc
      rl := hrl
      far := fun k hk => h.far k (hbk k hk)
      app := h.app.keep f (fun k hk e => (h.ofar k hk).2.1 e)
      ofar := fun k hk => ⟨(h.ofar k hk).1, (h.ofar k hk).2.1, Nat.lt_of_lt_of_le (h.ofar k hk).2.2 f.size⟩
      frm := h.frm.trans (f.mono (fun k hk => .inr (.inr (by rw [hk]; exact h.prw)))) }
theorem HRM.cells (h : HRM w S pd g D pr S' T mu up out r A c Ao co wr) : wr.cell? ⟨pr, 0, none⟩ = some (.pointer (some ⟨pd, 0, none⟩)) ∧ wr.cell? ⟨pr, 1, none⟩ = some (.slice A r.length c) ∧ wr.cell? ⟨pr, 2, none⟩ = some (.slice Ao out.length co) ∧ wr.cell? ⟨pr, 3, none⟩ = some (.int .i64 up) ∧
    wr.cell? ⟨pd, 0, none⟩ = some (.pointer (some ⟨g, 0, none⟩)) ∧ wr.cell? ⟨pd, 1, none⟩ = some (.int .i64 D.max) ∧ wr.cell? ⟨pd, 2, none⟩ = some (.bool mu) ∧ pr < wr.heap.size ∧ pd < wr.heap.size := by
  have hb := h.rdr
  have hd := h.dec
  have h0 := hb.cell 0
  have h1 := hb.cell 1
  have h2 := hb.cell 2
  have h3 := hb.cell 3
  simp only [List.getElem?_toArray, List.getElem?_cons_zero, List.getElem?_cons_succ] at h0 h1 h2 h3
  have k0 := hd.cell 0
  have k1 := hd.cell 1
  have k2 := hd.cell 2
  simp only [List.getElem?_toArray, List.getElem?_cons_zero, List.getElem?_cons_succ] at k0 k1 k2
  exact ⟨h0, h1, h2, h3, k0, k1, k2, hb.lt, hd.lt⟩
/-- the bytes are cut -/
theorem HRM.cut (h : HRM w S pd g D pr S' T mu up out r A c Ao co wr) (k : Nat) (hk : k ≤ r.length) : ∃ A2, (if c = k then A else A.map (·.add k)) = A2 ∧
    HRM w S pd g D pr S' T mu up out (r.drop k) A2 (c - k) Ao co (wr.setCell ⟨pr, 1, none⟩ (.slice A2 (r.length - k) (c - k))) := by
  obtain ⟨A2, h1, h2⟩ := h.rd.from_ h.rc k
  have hb := h.rdr.set_ 1 (.slice A2 (r.length - k) (c - k))
  have hF : Frm (fun j => j = pr) wr (wr.setCell ⟨pr, 1, none⟩ (.slice A2 (r.length - k) (c - k))) := (Frm.refl (fun j => j = pr) wr).setCell (p := ⟨pr, 1, none⟩) rfl _
  refine ⟨A2, h1, h.setr hF (by rw [List.length_drop]; simpa using hb) h2 (by rw [List.length_drop]; have := h.rc; omega) (by rw [List.length_drop]; have := h.rl; omega) (fun j hj => ?_)⟩
  rw [← hj, ← h1]
  split
  · rfl
  · cases A with
    | none => rfl
    | some x => simp only [M.blk, Option.map_some, Addr.add]; split <;> rfl
end

/-- a variable of the call's own, at block bx -/
structure HBox (w : World) (pd pr : Nat) (S' : Nat → Prop) (Ao : Option Addr) (bx : Nat) : Prop where
  bp : pd ≠ bx
  br : pr ≠ bx
  bS : ¬ S' bx
  bo : ∀ k, blk Ao = some k → k ≠ bx
  bw : w.heap.size ≤ bx
theorem HRM.boxc {w wr : World} {S S' : Nat → Prop} {pd g pr up c co : Nat} {D : De} {T : Tb} {mu : Bool} {out : List Fld} {r : Bytes} {A Ao : Option Addr} (h : HRM w S pd g D pr S' T mu up out r A c Ao co wr) (bx : Nat) (hb : wr.heap.size ≤ bx) : HBox w pd pr S' Ao bx := by
  have h1 := h.frm.size
  have h2 := h.dec.lt
  have h3 := h.rdr.lt
  exact ⟨by omega, by omega, fun c => by have := h.tab.low _ c; omega, fun k hk => by have := (h.ofar k hk).2.2; omega, by omega⟩
theorem HRM.box {w wr w' : World} {S S' : Nat → Prop} {pd g pr up c co bx : Nat} {D : De} {T : Tb} {mu : Bool} {out : List Fld} {r : Bytes} {A Ao : Option Addr} (h : HRM w S pd g D pr S' T mu up out r A c Ao co wr) (hb : HBox w pd pr S' Ao bx) (f : Frm (fun k => k = bx) wr w') :
    HRM w S pd g D pr S' T mu up out r A c Ao co w' :=
  { h with
    rdr := h.rdr.keep f hb.br
    dec := h.dec.keep f hb.bp
    tab := h.tab.keep f (fun k hk e => hb.bS (by rw [← e]; exact hk))
    rd := h.rd.keep f (fun k hk e => by have h1 := (h.far k hk).2.2; have h2 := hb.bw; omega)
    app := h.app.keep f (fun k hk e => hb.bo k hk e)
    ofar := fun k hk => ⟨(h.ofar k hk).1, (h.ofar k hk).2.1, Nat.lt_of_lt_of_le (h.ofar k hk).2.2 f.size⟩
    frm := h.frm.trans (f.mono (fun k hk => .inr (.inr (by rw [hk]; exact hb.bw)))) }

set_option maxRecDepth 100000 in
set_option maxHeartbeats 1000000 in
theorem number_any {w wr : World} {S S' : Nat → Prop} {pd g pr up c co : Nat} {D : De} {T : Tb} {mu : Bool} {out : List Fld} {r : Bytes} {A Ao : Option Addr} (k : Nat) (h : HRM w S pd g D pr S' T mu up out r A c Ao co wr) (k0 : 1 ≤ k) (k1 : k ≤ 8) :
    Calls Try.prog 96 #[.pointer (some ⟨pr, 0, none⟩), .int .i64 k] wr fun e w' =>
      if (rdp r k).2.2 = 0 then e = .returned (.int .u64 ((rdp r k).1 : Nat)) ∧ (∃ A2, HRM w S pd g D pr S' T mu up out (r.drop (rdp r k).2.1) A2 (c - (rdp r k).2.1) Ao co w') ∧ Frm (fun k => k = pr ∨ New wr k) wr w'
      else e = PW ∧ HRM w S pd g D pr S' T mu up out r A c Ao co w' ∧ Frm (fun k => k = pr ∨ New wr k) wr w' := by
  have h256 : 2 ^ k ≤ 256 := Nat.le_trans (Nat.pow_le_pow_right (by decide) k1) (by decide)
  have hrg := rdp_range r k h256
  have hrp := nrdp_any r A c k wr h.rd (by have := h.rl; omega) k0 k1
  unfold Ret3 at hrp
  generalize rdp r k = q at *
  obtain ⟨n, at_, e⟩ := q
  simp only at hrg hrp ⊢
  obtain ⟨hy0, hy1, hy2, hy3, hy4, hy5, hy6, hy7, hy8⟩ := h.cells
  have H := Lib.hid h
  have HRP := Lib.hid hrp
  clear h hrp
  by_cases he : e = 0
  · subst he
    rw [show ((0 : Nat) : Int) = 0 from rfl] at HRP
    obtain ⟨g1, g2, g3⟩ := hrg rfl
    simp only [↓reduceIte]
    go_enter Try.func96, Try.ntmps96
    go_wp2_with (fail)
    refine HRP.out.mono ?_
    rintro e' w2 ⟨rfl, nn, hw2⟩
    have hF2 : Frm (New wr) wr w2 := by rw [hw2]; exact (Frm.refl _ _).drewN nn
    have hM2 := H.out.fresh hF2
    have HF2 := Lib.hid hF2
    clear hF2
    clear hw2 hy0 hy1 hy2 hy3 hy4 hy5 hy6 hy7 hy8
    obtain ⟨hy0, hy1, hy2, hy3, hy4, hy5, hy6, hy7, hy8⟩ := hM2.cells
    have hz := hM2.rdr.frozen 1
    obtain ⟨A2, hA2, hM3⟩ := hM2.cut at_ g2
    have hrc := hM2.rc
    have HM2 := Lib.hid hM2
    have HM3 := Lib.hid hM3
    have HA2 := Lib.hid hA2
    clear hM2 hM3 hA2
    go_wp2_with (fail)
    refine (must_true _).mono ?_
    rintro e' w3 ⟨rfl, hw3⟩
    rw [hw3]
    clear hw3
    go_wp2_with (refine wpList_val rfl (.slice A2 (r.length - at_) (c - at_)) (by rw [← HA2.out]; exact run_from rfl rfl rfl rfl g2) ?_)
    go_ret
    exact ⟨rfl, ⟨A2, HM3.out⟩, (HF2.out.mono (fun _ hk => .inr hk)).setCell (p := ⟨pr, 1, none⟩) (.inl rfl) _⟩
  · have he1 : ((e : Int) == 0) = false := by rw [beq_eq_false_iff_ne]; omega
    simp only [if_neg he]
    go_enter Try.func96, Try.ntmps96
    go_wp2_with (fail)
    refine HRP.out.mono ?_
    rintro e' w2 ⟨rfl, nn, hw2⟩
    have hF2 : Frm (New wr) wr w2 := by rw [hw2]; exact (Frm.refl _ _).drewN nn
    have hM2 := H.out.fresh hF2
    have HF2 := Lib.hid hF2
    clear hF2
    clear hw2 hy0 hy1 hy2 hy3 hy4 hy5 hy6 hy7 hy8
    go_wp2_with (fail)
    refine (must_false _).mono ?_
    rintro e' w3 ⟨rfl, hw3⟩
    rw [hw3]
    clear hw3
    unfold PW
    go_wp2
    exact ⟨rfl, rfl, hM2, HF2.out.mono (fun _ hk => .inr hk)⟩

set_option maxRecDepth 100000 in
set_option maxHeartbeats 1000000 in
theorem rstr_any {w wr : World} {S S' : Nat → Prop} {pd g pr up c co : Nat} {D : De} {T : Tb} {mu : Bool} {out : List Fld} {r : Bytes} {A Ao : Option Addr} (h : HRM w S pd g D pr S' T mu up out r A c Ao co wr) :
    Calls Try.prog 103 #[.pointer (some ⟨pr, 0, none⟩)] wr fun e w' =>
      if (strD r 7).2.2 = 0 then e = .returned (str (strD r 7).1) ∧ (∃ A2, HRM w S pd g D pr S' T mu up out (r.drop (strD r 7).2.1) A2 (c - (strD r 7).2.1) Ao co w') ∧ Frm (fun k => k = pr ∨ New wr k) wr w'
      else e = PW ∧ HRM w S pd g D pr S' T mu up out r A c Ao co w' ∧ Frm (fun k => k = pr ∨ New wr k) wr w' := by
  have hrg := strD_range r 7 (by decide)
  have hrp := hstr_any r A c wr h.rd h.rl h.rc
  unfold RetS at hrp
  generalize strD r 7 = q at *
  obtain ⟨s, at_, e⟩ := q
  simp only [str] at hrg hrp ⊢
  obtain ⟨hy0, hy1, hy2, hy3, hy4, hy5, hy6, hy7, hy8⟩ := h.cells
  have H := Lib.hid h
  have HRP := Lib.hid hrp
  clear h hrp
  by_cases he : e = 0
  · subst he
    rw [show ((0 : Nat) : Int) = 0 from rfl] at HRP
    obtain ⟨g1, g2⟩ := hrg rfl
    simp only [↓reduceIte]
    go_enter Try.func103, Try.ntmps103
    go_wp2_with (fail)
    refine HRP.out.mono ?_
    rintro e' w2 ⟨rfl, hF2⟩
    have hM2 := H.out.fresh hF2
    have HF2 := Lib.hid hF2
    clear hF2
    clear hy0 hy1 hy2 hy3 hy4 hy5 hy6 hy7 hy8
    obtain ⟨hy0, hy1, hy2, hy3, hy4, hy5, hy6, hy7, hy8⟩ := hM2.cells
    have hz := hM2.rdr.frozen 1
    obtain ⟨A2, hA2, hM3⟩ := hM2.cut at_ g2
    have hrc := hM2.rc
    have HM2 := Lib.hid hM2
    have HM3 := Lib.hid hM3
    have HA2 := Lib.hid hA2
    clear hM2 hM3 hA2
    go_wp2_with (fail)
    refine (must_true _).mono ?_
    rintro e' w3 ⟨rfl, hw3⟩
    rw [hw3]
    clear hw3
    go_wp2_with (refine wpList_val rfl (.slice A2 (r.length - at_) (c - at_)) (by rw [← HA2.out]; exact run_from rfl rfl rfl rfl g2) ?_)
    go_ret
    exact ⟨rfl, ⟨A2, HM3.out⟩, (HF2.out.mono (fun _ hk => .inr hk)).setCell (p := ⟨pr, 1, none⟩) (.inl rfl) _⟩
  · have he1 : ((e : Int) == 0) = false := by rw [beq_eq_false_iff_ne]; omega
    simp only [if_neg he]
    go_enter Try.func103, Try.ntmps103
    go_wp2_with (fail)
    refine HRP.out.mono ?_
    rintro e' w2 ⟨rfl, hF2⟩
    have hM2 := H.out.fresh hF2
    have HF2 := Lib.hid hF2
    clear hF2
    clear hy0 hy1 hy2 hy3 hy4 hy5 hy6 hy7 hy8
    go_wp2_with (fail)
    refine (must_false _).mono ?_
    rintro e' w3 ⟨rfl, hw3⟩
    rw [hw3]
    clear hw3
    unfold PW
    go_wp2
    exact ⟨rfl, rfl, hM2, HF2.out.mono (fun _ hk => .inr hk)⟩
end Go.Proofs.Ytcebckkpablagaa.M
