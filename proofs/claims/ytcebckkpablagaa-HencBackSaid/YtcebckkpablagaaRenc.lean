/- The reference's Encoder.Encode: what it writes. Sizes below 2^36. -/
import Derived.Deep.CutBlock
import Derived.Test.YtcebckkpablagaaRence
import Derived.Test.YtcebckkpablagaaRtabf
import Derived.Test.YtcebckkpablagaaRtaba
import Derived.Test.YtcebckkpablagaaRfind
import Derived.Test.YtcebckkpablagaaIn
namespace Go.Proofs.Ytcebckkpablagaa.M
open Go.ChangeShapes Go.WideShapes Go.ChangeAt Go.RowKit

/-- Encode's loop: k fields are written -/
structure REncL (w : World) (S : Nat → Prop) (p g gs : Nat) (E : En) (fs : List Fld) (k : Nat) (S' : Nat → Prop) (A : Option Addr) (c : Nat) (l : Bytes) (wr : World) : Prop where
  eq : l = E.sizeB ++ linesB E.t (fs.take k)
  app : App (New w) wr 5 1 A l.length c (bvs l)
  far : ∀ k, blk A = some k → ¬ S' k ∧ k ≠ gs ∧ k < wr.heap.size
  gs0 : Blk wr gs 30 (fvs h2tab).toArray
  gs1 : w.heap.size ≤ gs ∧ ¬ S' gs
  en : REnAt S' wr p g ⟨linesT E.t (fs.take k), none⟩ (-1)
  frm : Frm (fun k => k = p ∨ Own S w k) w wr
  sub : ∀ k, S' k → Own S w k
/-- the size updates -/
def SzW (w : World) (S : Nat → Prop) (p g : Nat) (E : En) (v : Value) (w' : World) : Prop :=
  ∃ A c, v = .slice A E.sizeB.length c ∧ App (New w) w' 5 1 A E.sizeB.length c (bvs E.sizeB) ∧ REnAt S w' p g ⟨E.t, none⟩ (-1) ∧ (∀ k, blk A = some k → k < w'.heap.size) ∧ Frm (fun k => k = p ∨ New w k) w w'
theorem szw_end {S : Nat → Prop} {w w4 : World} {p g m cap c : Nat} {E : En} {A : Option Addr} {l : Bytes} (h : REnAt S w p g E m) (hE : E.sizeB = l ++ pfx 32 5 cap) (hF : Frm (New w) w w4)
    (hA : App (New w) w4 5 1 A (l ++ pfx 32 5 cap).length c (bvs (l ++ pfx 32 5 cap))) : SzW w S p g E (.slice A (l ++ pfx 32 5 cap).length c) (w4.setCell ⟨p, 1, none⟩ (.int .i64 (-1))) := by
  have hp := h.blk.lt
  have hF2 : Frm (fun k => k = p) w4 (w4.setCell ⟨p, 1, none⟩ (.int .i64 (-1))) := (Frm.refl (fun k => k = p) w4).setCell (p := ⟨p, 1, none⟩) rfl _
  have hb := (h.blk.fresh hF).set_ 1 (.int .i64 (-1))
  rw [← hE] at hA ⊢
  refine ⟨A, c, rfl, hA.keep hF2 (fun k hk e => ?_), ⟨by simpa using hb, (h.tab.fresh hF).keep hF2 (fun k hk e => h.out (by rw [← e]; exact hk)), h.out, h.ok, h.cap, rfl, fun m hm => by cases hm⟩, fun k hk => ?_, (hF.mono (fun k hk => .inr hk)).trans (hF2.mono (fun k hk => .inl hk))⟩
  · have := hA.inM k hk
    unfold New at this
    omega
  · have h1 := bvs_lt hA (by rw [hE]; have := pfx_pos 32 5 cap; simp; omega) k hk
    have h2 := hF2.size
    omega

theorem findS_both (l : List Fld) (f : Fld) (h : (findS l f).2.2 = true) : (findS l f).2.1 = true := by
  unfold findS at h ⊢
  cases h1 : fldAt l f with
  | some i => rfl
  | none =>
    rw [h1] at h
    cases h2 : nameAt l f.1 with
    | some i => simp [h2] at h
    | none => simp [h2] at h
theorem find_all (T : Tb) (f : Fld) (h : (T.find f).2.2 = true) : (T.find f).2.1 = true := by
  unfold Tb.find at h ⊢
  cases h1 : lastAt id f T.first T.l with
  | some i => rfl
  | none =>
    rw [h1] at h
    cases h2 : lastAt Prod.fst f.1 T.first T.l with
    | some i => simp [h2] at h
    | none => simp [h2] at h
theorem placeS_eq (T : Tb) (f : Fld) {a k : Nat} {nm both dn da : Bool} (h1 : findS h2tab f = (a, nm, both)) (h2 : T.find f = (k, dn, da)) :
    placeS T f = if both then (a + 1, true) else if da then (61 + T.n - k, true) else if nm then (a + 1, false) else if dn then (61 + T.n - k, false) else (0, false) := by
  have h3 := findS_both h2tab f
  unfold placeS h2S
  rw [h1] at h3 ⊢
  rw [h2]
  simp only at h3 ⊢
  cases both
  · cases nm <;> simp
  · have := h3 rfl
    subst this
    simp

/-- what a round may not write -/
structure RCon (S' : Nat → Prop) (p gs fb : Nat) (A' : Option Addr) (w2 : World) : Prop where
  fS : ∀ k, S' k → ¬ Mb A' w2 k
  fp : ¬ Mb A' w2 p
  fg : ¬ Mb A' w2 gs
  fb : ¬ Mb A' w2 fb
/-- a round, from its field's variable on -/
structure RStg (S' : Nat → Prop) (p g gs fb : Nat) (T : Tb) (A' : Option Addr) (w2 : World) (f : Fld) (A : Option Addr) (c : Nat) (l : Bytes) (w' : World) : Prop where
  con : RCon S' p gs fb A' w2
  app : App (Mb A' w2) w' 5 1 A l.length c (bvs l)
  en : REnAt S' w' p g ⟨T, none⟩ (-1)
  gsb : Blk w' gs 30 (fvs h2tab).toArray
  box : Blk w' fb 30 #[.string ⟨f.1.toArray⟩, .string ⟨f.2.toArray⟩]
  frm : Frm (Mb A' w2) w2 w'
section
variable {S' : Nat → Prop} {p g gs fb : Nat} {T : Tb} {A' : Option Addr} {w2 : World} {f : Fld} {A : Option Addr} {c : Nat} {l : Bytes} {w' w'' : World}
theorem RStg.fresh (h : RStg S' p g gs fb T A' w2 f A c l w') (f' : Frm (New w') w' w'') : RStg S' p g gs fb T A' w2 f A c l w'' :=
  ⟨h.con, h.app.fresh f', h.en.fresh f', h.gsb.fresh f', h.box.fresh f', h.frm.then_new (Mb.up A' w2) f'⟩
theorem RStg.write (h : RStg S' p g gs fb T A' w2 f A c l w') (f' : Frm (Mb A' w2) w' w'') {A2 : Option Addr} {c2 : Nat} {l2 : Bytes} (ha : App (Mb A' w2) w'' 5 1 A2 l2.length c2 (bvs l2)) : RStg S' p g gs fb T A' w2 f A2 c2 l2 w'' :=
  ⟨h.con, ha, h.en.keep f' h.con.fS h.con.fp, h.gsb.keep f' h.con.fg, h.box.keep f' h.con.fb, h.frm.trans f'⟩
theorem RStg.cells (h : RStg S' p g gs fb T A' w2 f A c l w') : w'.cell? ⟨p, 0, none⟩ = some (.pointer (some ⟨g, 0, none⟩)) ∧ w'.cell? ⟨fb, 0, none⟩ = some (.string ⟨f.1.toArray⟩) ∧ w'.cell? ⟨fb, 1, none⟩ = some (.string ⟨f.2.toArray⟩) ∧
    w'.cell? ⟨g, 1, none⟩ = some (.int .i64 T.cap) ∧ w'.cell? ⟨g, 2, none⟩ = some (.int .u64 T.n) ∧ p < w'.heap.size ∧ fb < w'.heap.size ∧ g < w'.heap.size := by
  obtain ⟨At, ct, ht⟩ := h.en.tab
  exact ⟨h.en.blk.cell 0, h.box.cell 0, h.box.cell 1, ht.blk.cell 1, ht.blk.cell 2, h.en.blk.lt, h.box.lt, ht.blk.lt⟩
theorem stg_prefix (h : RStg S' p g gs fb T A' w2 f A c l w') (hl : l.length ≤ 70368744177664) (b k v : Nat) (x : Int) (hx : x = v) (b1 : b ≤ 255) (k0 : 1 ≤ k) (k1 : k ≤ 8) (v1 : v ≤ 18446744073709551615) :
    Calls Try.prog 39 #[.slice A l.length c, .int .u8 b, .int .i64 k, .int .u64 x] w' fun e w'' => ∃ A2 c2, e = .returned (.slice A2 (l ++ pfx b k v).length c2) ∧ RStg S' p g gs fb T A' w2 f A2 c2 (l ++ pfx b k v) w'' := by
  subst hx
  refine (rprefix_nat (Mb A' w2) l A c b k v w' ((Mb.up A' w2).of h.frm.size) h.app hl b1 k0 k1 v1).mono ?_
  rintro e w'' ⟨A2, c2, rfl, hA, hF⟩
  exact ⟨A2, c2, rfl, h.write hF hA⟩
theorem stg_str (h : RStg S' p g gs fb T A' w2 f A c l w') (hl : l.length ≤ 1099511627000) (s : Bytes) (hs : s.length ≤ 1099511627776) :
    Calls Try.prog 17 #[.slice A l.length c, .int .u8 0, .int .i64 7, .string ⟨s.toArray⟩] w' fun e w'' => ∃ A2 c2, e = .returned (.slice A2 (l ++ strc 128 0 7 s).length c2) ∧ RStg S' p g gs fb T A' w2 f A2 c2 (l ++ strc 128 0 7 s) w'' := by
  refine (putstr_any (Mb A' w2) l A c 0 7 ⟨s.toArray⟩ w' ((Mb.up A' w2).of h.frm.size) h.app hl (by show s.toArray.size ≤ _; simpa using hs) (by omega) (by omega) (by omega)).mono ?_
  rintro e w'' ⟨A2, c2, rfl, hA, hF⟩
  exact ⟨A2, c2, rfl, h.write hF hA⟩
theorem stg_findin (h : RStg S' p g gs fb T A' w2 f A c l w') : Calls Try.prog 56 #[.slice (some ⟨gs, 0, none⟩) 61 61, .agg #[.string ⟨f.1.toArray⟩, .string ⟨f.2.toArray⟩]] w' fun e w'' =>
    e = .returned (.tuple #[.int .i64 (findS h2tab f).1, .bool (findS h2tab f).2.1, .bool (findS h2tab f).2.2]) ∧ RStg S' p g gs fb T A' w2 f A c l w'' := by
  refine (findin_any h2tab f (some ⟨gs, 0, none⟩) 61 w' (by simpa using h.gsb.rd) (by decide)).mono ?_
  rintro e w'' ⟨rfl, hF⟩
  exact ⟨rfl, h.fresh hF⟩
theorem stg_find (h : RStg S' p g gs fb T A' w2 f A c l w') : Calls Try.prog 57 #[.pointer (some ⟨g, 0, none⟩), .agg #[.string ⟨f.1.toArray⟩, .string ⟨f.2.toArray⟩]] w' fun e w'' =>
    e = .returned (.tuple #[.int .u64 (T.find f).1, .bool (T.find f).2.1, .bool (T.find f).2.2]) ∧ RStg S' p g gs fb T A' w2 f A c l w'' := by
  refine (rfind_any f w' h.en.tab).mono ?_
  rintro e w'' ⟨rfl, hF⟩
  exact ⟨rfl, h.fresh hF⟩
/-- behind an Add -/
def RAdd (S' : Nat → Prop) (p g : Nat) (T : Tb) (f : Fld) (w' w'' : World) : Prop :=
  ∃ S2 : Nat → Prop, REnAt S2 w'' p g ⟨T.add f, none⟩ (-1) ∧ Frm (fun k => k = g ∨ New w' k) w' w'' ∧ ∀ k, S2 k → Own S' w' k
theorem stg_add (h : RStg S' p g gs fb T A' w2 f A c l w') (hn : T.n < 1152921504606846976) (hx : fsize f ≤ 70368744177664) : Calls Try.prog 59 #[.pointer (some ⟨g, 0, none⟩), .agg #[.string ⟨f.1.toArray⟩, .string ⟨f.2.toArray⟩]] w' fun e w'' =>
    (∃ m : Int, e = .returned (.int .i64 m)) ∧ RAdd S' p g T f w' w'' := by
  have hcap := h.en.cap
  simp only at hcap
  refine (radd_any f w' h.en.tab hn hx (by simp only; omega)).mono ?_
  rintro e w'' ⟨⟨m, rfl⟩, S2, h2, hF, hS⟩
  have hp := h.en.blk.lt
  refine ⟨⟨m, rfl⟩, S2, ⟨h.en.blk.keep hF (fun e => ?_), h2, fun e => ?_, h.en.ok.add f, by simp only [Tb.add_cap]; exact hcap, rfl, fun m hm => by cases hm⟩, hF, hS⟩
  · rcases e with e | e
    · exact h.en.out (by rw [e]; exact h.en.tab.sg)
    · unfold New at e; omega
  · rcases hS _ e with e | e
    · exact h.en.out e
    · omega
theorem rency_next {w wr w3 : World} {S : Nat → Prop} {E : En} {fs : List Fld} {k c' c3 : Nat} {l l3 : Bytes} {A3 : Option Addr} (hL : REncL w S p g gs E fs k S' A' c' l wr) (hF2 : Frm (New wr) wr w2) (h : RStg S' p g gs fb T A' w2 f A3 c3 l3 w3)
    (heq : l3 = E.sizeB ++ linesB E.t (fs.take (k + 1))) (hT : T = linesT E.t (fs.take (k + 1))) (hpos : 0 < l3.length) : REncL w S p g gs E fs (k + 1) S' A3 c3 l3 w3 := by
  have s0 := hL.frm.size
  have s1 := hF2.size
  have hM : ∀ k, Mb A' w2 k → New w k := fun j hj => by
    rcases hj with hj | hj
    · exact hL.app.inM j hj
    · unfold New; omega
  refine ⟨heq, h.app.mono hM, fun j hj => ⟨fun c => h.con.fS j c (h.app.inM j hj), fun c => h.con.fg (by rw [← c]; exact h.app.inM j hj), bvs_lt h.app hpos j hj⟩, h.gsb, hL.gs1, ?_, (hL.frm.trans (hF2.mono (fun j hj => .inr (.inr (Nat.le_trans s0 hj))))).trans (h.frm.mono (fun j hj => .inr (.inr (hM j hj)))), hL.sub⟩
  rw [← hT]
  exact h.en
theorem rency_add {w wr w3 w4 : World} {S : Nat → Prop} {E : En} {fs : List Fld} {k c' c3 : Nat} {l l3 : Bytes} {A3 : Option Addr} (hL : REncL w S p g gs E fs k S' A' c' l wr) (hF2 : Frm (New wr) wr w2) (h : RStg S' p g gs fb T A' w2 f A3 c3 l3 w3)
    (ha : RAdd S' p g T f w3 w4) (heq : l3 = E.sizeB ++ linesB E.t (fs.take (k + 1))) (hT : T.add f = linesT E.t (fs.take (k + 1))) (hpos : 0 < l3.length) : ∃ S2, REncL w S p g gs E fs (k + 1) S2 A3 c3 l3 w4 := by
  obtain ⟨S2, he, hF, hS⟩ := ha
  have s0 := hL.frm.size
  have s1 := hF2.size
  have s2 := h.frm.size
  have hgs := h.gsb.lt
  have hsg := h.en.tab.sg
  have hM : ∀ k, Mb A' w2 k → New w k := fun j hj => by
    rcases hj with hj | hj
    · exact hL.app.inM j hj
    · unfold New; omega
  have hlt := bvs_lt h.app hpos
  refine ⟨S2, heq, (h.app.mono hM).keep hF (fun j hj c => ?_), fun j hj => ⟨fun c => ?_, fun c => h.con.fg (by rw [← c]; exact h.app.inM j hj), Nat.lt_of_lt_of_le (hlt j hj) hF.size⟩, h.gsb.keep hF (fun c => ?_), ⟨hL.gs1.1, fun c => ?_⟩, ?_,
    ((hL.frm.trans (hF2.mono (fun j hj => .inr (.inr (Nat.le_trans s0 hj))))).trans (h.frm.mono (fun j hj => .inr (.inr (hM j hj))))).trans (hF.mono (fun j hj => ?_)), fun j hj => ?_⟩
  · rcases c with c | c
    · exact h.con.fS j (by rw [c]; exact hsg) (h.app.inM j hj)
    · have := hlt j hj; unfold New at c; omega
  · rcases hS j c with c | c
    · exact h.con.fS j c (h.app.inM j hj)
    · have := hlt j hj; omega
  · rcases c with c | c
    · exact hL.gs1.2 (by rw [c]; exact hsg)
    · unfold New at c; omega
  · rcases hS gs c with c | c
    · exact hL.gs1.2 c
    · omega
  · rw [← hT]; exact he
  · rcases hj with hj | hj
    · exact .inr (hL.sub j (by rw [hj]; exact hsg))
    · exact .inr (.inr (by unfold New at hj; omega))
  · rcases hS j hj with c | c
    · exact hL.sub j c
    · exact .inr (by omega)
theorem rency_start {w wr : World} {S : Nat → Prop} {E : En} {fs : List Fld} {k c' : Nat} {l : Bytes} (hL : REncL w S p g gs E fs k S' A' c' l wr) (hT : linesT E.t (fs.take k) = T) (hpw : p < w.heap.size) :
    RStg S' p g gs wr.heap.size T A' (wr.alloc (Obj.cells #[.string ⟨f.1.toArray⟩, .string ⟨f.2.toArray⟩] 30)) f A' c' l (wr.alloc (Obj.cells #[.string ⟨f.1.toArray⟩, .string ⟨f.2.toArray⟩] 30)) := by
  subst hT
  have hF : Frm (New wr) wr (wr.alloc (Obj.cells #[.string ⟨f.1.toArray⟩, .string ⟨f.2.toArray⟩] 30)) := (Frm.refl _ _).alloc Up.new _
  have hs := hL.frm.size
  have hz : (wr.alloc (Obj.cells #[.string ⟨f.1.toArray⟩, .string ⟨f.2.toArray⟩] 30)).heap.size = wr.heap.size + 1 := by simp
  refine ⟨⟨fun j hj c => ?_, fun c => ?_, fun c => ?_, fun c => ?_⟩, (hL.app.fresh hF).in_ (fun j hj => .inl hj), hL.en.fresh hF, hL.gs0.fresh hF, Blk.new wr _ _, Frm.refl _ _⟩
  · rcases c with c | c
    · exact (hL.far j c).1 hj
    · have := hL.en.tab.low j hj; omega
  · rcases c with c | c
    · have := hL.app.inM p c; unfold New at this; omega
    · omega
  · rcases c with c | c
    · exact (hL.far gs c).2.1 rfl
    · have := hL.gs0.lt; omega
  · rcases c with c | c
    · have := (hL.far _ c).2.2; omega
    · omega
end

set_option maxRecDepth 100000 in
set_option maxHeartbeats 2000000 in
theorem rencB_any {S : Nat → Prop} {p g : Nat} {ls : Int} {E : En} (fs : List Fld) (A0 : Option Addr) (c0 : Nat) (w : World) (h : REnAt S w p g E ls) (hR : Rd w A0 (fvs fs))
    (hfar : fs ≠ [] → ∀ k, blk A0 = some k → k ≠ p ∧ ¬ S k) (hf : fsizes fs ≤ 68719476736) (hn : E.t.n + fs.length ≤ 1152921504606846976) :
    Calls Try.prog 27 #[.pointer (some ⟨p, 0, none⟩), .slice A0 fs.length c0] w fun e w' =>
      ∃ S' A c, e = .returned (.slice A (E.encB fs).length c) ∧ App (New w) w' 5 1 A (E.encB fs).length c (bvs (E.encB fs)) ∧ (∀ k, blk A = some k → ¬ S' k) ∧ REnAt S' w' p g (E.enc fs) (-1) ∧
        Frm (fun k => k = p ∨ Own S w k) w w' ∧ ∀ k, S' k → Own S w k := by
  have hsb := sizeB_le E
  have hlen := len_fsizes fs
  have hlst := h.lst
  have hlle := h.lle
  have hcap := h.cap
  have HS : Hid (E.sizeB = match E.least with
    | none => []
    | some m => (if m < E.t.cap then pfx 32 5 m else []) ++ pfx 32 5 E.t.cap) := rfl
  have hb := h.blk
  have hd0 := hb.cell 0
  have hd1 := hb.cell 1
  simp only [List.getElem?_toArray, List.getElem?_cons_zero, List.getElem?_cons_succ] at hd0 hd1
  have hp : p < w.heap.size := hb.lt
  have hz1 := hb.frozen 1
  have hT := h.tab
  obtain ⟨AT, cT, hTA⟩ := hT
  have hbt := hTA.blk
  have hc1 := hbt.cell 1
  simp only [List.getElem?_toArray, List.getElem?_cons_zero, List.getElem?_cons_succ] at hc1
  have hgt : g < w.heap.size := hbt.lt
  generalize hcc : E.t.cap = cap at *
  have HCC := Lib.hid hcc
  have H := Lib.hid h
  have HR := Lib.hid hR
  have HFAR := Lib.hid hfar
  have HB := Lib.hid hb
  have HBT := Lib.hid hbt
  have HTA := Lib.hid hTA
  clear hcc h hR hfar hb hbt hTA
  go_enter Try.func27, Try.ntmps27
  go_upto_if 21 with (fail)
  go_cut [5] from 6 (fun v5 w1 => SzW w S p g E v5 w1)
  case first =>
    cases hl : E.least with
    | none =>
      rw [hl] at hlst
      subst hlst
      have hs : Hid (E.sizeB = []) := by show _ = _; rw [HS.out, hl]
      have h0 : Hid (E = ⟨E.t, none⟩) := by show _ = _; cases E; simp only at hl; subst hl; rfl
      have HL := Lib.hid hl
      clear hl
      go_wp2
      go_meet
      refine ⟨none, 0, ?_, ?_, ?_, fun k hk => (by cases hk), Frm.refl _ _⟩
      · rw [hs.out]; rfl
      · rw [hs.out]; exact App.none_
      · rw [← h0.out]; exact H.out
    | some m =>
      have hm := hlle m hl
      rw [hl] at hlst
      simp only at hlst
      subst hlst
      have hs : Hid (E.sizeB = (if m < cap then pfx 32 5 m else []) ++ pfx 32 5 cap) := by show _ = _; rw [HS.out, hl]
      have HL := Lib.hid hl
      clear hl
      clear hlle HS
      have hm0 : (0 : Int) ≤ (m : Int) := by omega
      have hw1 : IntKind.u64.wrap (m : Int) = (m : Int) := IntWalk.u64_in _ (by omega)
      have hw2 : IntKind.u64.wrap (cap : Int) = (cap : Int) := IntWalk.u64_in _ (by omega)
      have hpl := pfx_length 32 5 m
      by_cases hq : m < cap
      · have hq' : (m : Int) < (cap : Int) := by omega
        have hs2 : Hid (E.sizeB = ([] ++ pfx 32 5 m) ++ pfx 32 5 cap) := by show _ = _; rw [hs.out, if_pos hq]; rfl
        clear hs
        have t1 := trivial
        go_wp2
        go_quiet (fail)
        go_wp2_with (first
          | (go_at_call 39
             clear t1
             refine (rprefix_nat (New w) [] none 0 32 5 m _ (by first | exact Up.new | (exact Up.new.of (by simp))) App.none_ (by simp) (by omega) (by omega) (by omega) (by omega)).mono ?_
             rintro e w3 ⟨A3, c3, rfl, hA3, hF3⟩
             have hF3 : Frm (New w) w w3 := Frm.trans ((Frm.refl _ _).drewN _) hF3
             have hd0 := (HB.out.fresh hF3).cell 0
             have hc1 := (HBT.out.fresh hF3).cell 1
             have hp3 : p < w3.heap.size := (HB.out.fresh hF3).lt
             have hgt3 : g < w3.heap.size := (HBT.out.fresh hF3).lt
             simp only [List.getElem?_toArray, List.getElem?_cons_zero, List.getElem?_cons_succ] at hd0 hc1
             have hln : ([] ++ pfx 32 5 m).length ≤ 12 := hpl
             have HA3 := Lib.hid hA3
             have HF3 := Lib.hid hF3
             clear hA3 hF3
             generalize [] ++ pfx 32 5 m = l3 at *)
          | (go_at_call 39
             refine (rprefix_nat (New w) l3 A3 c3 32 5 cap _ (Up.new.of HF3.out.size) HA3.out (by omega) (by omega) (by omega) (by omega) (by omega)).mono ?_
             rintro e w5 ⟨A5, c5, rfl, hA5, hF5⟩
             have hF5 : Frm (New w) w w5 := HF3.out.trans hF5
             have hz5 := (HB.out.fresh hF5).frozen 1
             have hd5 := (HB.out.fresh hF5).cell 1
             have hp5 : p < w5.heap.size := (HB.out.fresh hF5).lt
             simp only [List.getElem?_toArray, List.getElem?_cons_zero, List.getElem?_cons_succ] at hd5
             have HA5 := Lib.hid hA5
             have HF5 := Lib.hid hF5
             clear hA5 hF5))
        go_meet
        rw [← List.length_append]
        exact szw_end H.out hs2.out HF5.out HA5.out
      · have hq' : ¬ ((m : Int) < (cap : Int)) := by omega
        have hs2 : Hid (E.sizeB = [] ++ pfx 32 5 cap) := by show _ = _; rw [hs.out, if_neg hq]
        clear hs
        go_wp2
        go_quiet (fail)
        go_wp2_with (first
          | (go_at_call 39
             refine (rprefix_nat (New w) [] none 0 32 5 cap _ (by first | exact Up.new | (exact Up.new.of (by simp))) App.none_ (by simp) (by omega) (by omega) (by omega) (by omega)).mono ?_
             rintro e w5 ⟨A5, c5, rfl, hA5, hF5⟩
             have hF5 : Frm (New w) w w5 := Frm.trans ((Frm.refl _ _).drewN _) hF5
             have hz5 := (HB.out.fresh hF5).frozen 1
             have hd5 := (HB.out.fresh hF5).cell 1
             have hp5 : p < w5.heap.size := (HB.out.fresh hF5).lt
             simp only [List.getElem?_toArray, List.getElem?_cons_zero, List.getElem?_cons_succ] at hd5
             have HA5 := Lib.hid hA5
             have HF5 := Lib.hid hF5
             clear hA5 hF5))
        go_meet
        exact szw_end H.out hs2.out HF5.out HA5.out
  case rest =>
    obtain ⟨A1, c1, rfl, hA1, hE1, hlow1, hF1⟩ := hcut
    rename World => w1
    generalize hl0 : E.sizeB = l0 at *
    have HA1 := Lib.hid hA1
    have HE1 := Lib.hid hE1
    have HF1 := Lib.hid hF1
    have HL0 := Lib.hid hl0
    have HLOW1 := Lib.hid hlow1
    clear hA1 hE1 hF1 hl0 hlow1
    clear hd0 hd1 hp hz1 hc1 hgt HB HBT HTA hlst hlle HS
    go_wp2_with (go_at_call 43; refine (h2s_any _).mono ?_; rintro e w2 ⟨gs, rfl, hgs, hbs, hF2⟩)
    have HL : Hid (REncL w S p g gs E fs 0 S A1 c1 l0 w2) := by
      have hs1 := HF1.out.size
      have hgs2 : w.heap.size ≤ gs := Nat.le_trans hs1 hgs
      refine ⟨by simp [linesB, HL0.out], HA1.out.fresh hF2, fun j hj => ⟨fun c => ?_, fun c => ?_, ?_⟩, hbs, ⟨hgs2, fun c => ?_⟩, by simpa [linesT] using HE1.out.fresh hF2, (HF1.out.trans (hF2.mono (fun k hk => .inr (Nat.le_trans hs1 hk)))).mono (fun k hk => ?_), fun k hk => .inl hk⟩
      · have h1 := H.out.tab.low j c
        have h2 := HA1.out.inM j hj
        unfold New at h2; omega
      · have h1 := HLOW1.out j hj
        omega
      · exact Nat.lt_of_lt_of_le (HLOW1.out j hj) hF2.size
      · have h1 := H.out.tab.low gs c
        omega
      · rcases hk with hk | hk
        · exact .inl hk
        · exact .inr (.inr hk)
    clear hgs hbs hF2 HA1 HE1 HF1 HLOW1
    go_loopw [5, 7] (fun b i wr => ∃ (k : Nat) (S' : Nat → Prop) (A' : Option Addr) (c' : Nat) (l : Bytes), k ≤ fs.length ∧ i = .int .i64 k ∧ b = .slice A' l.length c' ∧ Hid (REncL w S p g gs E fs k S' A' c' l wr)) (fun _ i _ => fs.length - (intOf i).toNat)
    case atStart => exact ⟨0, S, A1, c1, l0, Nat.zero_le _, rfl, rfl, HL⟩
    case round =>
      obtain ⟨k, S', A', c', l, hk, rfl, rfl, hL⟩ := hrel
      clear HL
      by_cases hlt : k < fs.length
      · have hRd : Rd wr A0 (fvs fs) := HR.out.keep hL.out.frm (fun j hj c => by
          have hj2 := HFAR.out (fun e => by rw [e] at hlt; simp at hlt) j hj
          rcases c with c | c | c
          · exact hj2.1 c
          · exact hj2.2 c
          · obtain ⟨g0, off, e0, h0⟩ := HR.out.lt (by intro e0; have := congrArg List.length e0; rw [fvs_length] at this; simp at this; omega)
            rw [e0] at hj
            have hj3 : g0 = j := by simpa using hj
            omega)
        obtain ⟨gF, off, rfl, hx⟩ := hRd.at_ (k := k * 2) (by rw [fvs_length]; omega)
        clear hx
        obtain ⟨hc1, hc2⟩ := fld_cells hRd k hlt
        have hgF : gF < wr.heap.size := World.block_lt_of_cell? _ _ hc1
        have hfk := fsize_get fs k hlt
        have hnk := linesT_n E.t (fs.take k)
        have hbk := linesB_le E.t (fs.take k)
        have hsk := fsizes_le fs k
        have htl : (fs.take k).length = k := by simp; omega
        have hlk : l.length ≤ 343597383740 := by rw [hL.out.eq, List.length_append, HL0.out]; omega
        have hnx : l ++ oneB (linesT E.t (fs.take k)) fs[k] = l0 ++ linesB E.t (fs.take (k + 1)) := by
          rw [List.take_succ_eq_append_getElem hlt, linesB_snoc, hL.out.eq, List.append_assoc, HL0.out]
        have hnt : oneT (linesT E.t (fs.take k)) fs[k] = linesT E.t (fs.take (k + 1)) := by
          rw [List.take_succ_eq_append_getElem hlt, linesT_snoc]
        have hnk2 : (linesT E.t (fs.take k)).n < 1152921504606846976 := by omega
        generalize fs[k] = f at *
        obtain ⟨f1, f2⟩ := f
        simp only [str] at hc1 hc2
        have hpw := H.out.blk.lt
        have hEN := hL.out.en
        generalize hTT : linesT E.t (fs.take k) = T at *
        have hst := rency_start (f := (f1, f2)) hL.out hTT hpw
        have hfz : fsize (f1, f2) = f1.length + f2.length + 32 := rfl
        have hq1 := findS_both h2tab (f1, f2)
        have hq2 := find_all T (f1, f2)
        have hql := findS_le h2tab (f1, f2)
        have hqk := Tb.find_le T (f1, f2)
        have hplc : ∀ a kk nm both dn da, findS h2tab (f1, f2) = (a, nm, both) → T.find (f1, f2) = (kk, dn, da) → _ := fun a kk nm both dn da h1 h2 => placeS_eq T (f1, f2) h1 h2
        have hOB : oneB T (f1, f2) = if (placeS T (f1, f2)).2 then pfx 128 7 (placeS T (f1, f2)).1 else
            ((if secret f1 then pfx 16 4 (placeS T (f1, f2)).1 else if T.cap / 2 < fsize (f1, f2) then pfx 0 4 (placeS T (f1, f2)).1 else pfx 64 6 (placeS T (f1, f2)).1) ++ (if (placeS T (f1, f2)).1 = 0 then strc 128 0 7 f1 else []) ++ strc 128 0 7 f2) := rfl
        have hOT : oneT T (f1, f2) = if (placeS T (f1, f2)).2 then T else if secret f1 then T else if T.cap / 2 < fsize (f1, f2) then T else T.add (f1, f2) := rfl
        have hFI := fun A c l w' (h : RStg S' p g gs wr.heap.size T A' (wr.alloc (Obj.cells #[.string ⟨f1.toArray⟩, .string ⟨f2.toArray⟩] 30)) (f1, f2) A c l w') => stg_findin h
        have hFT := fun A c l w' (h : RStg S' p g gs wr.heap.size T A' (wr.alloc (Obj.cells #[.string ⟨f1.toArray⟩, .string ⟨f2.toArray⟩] 30)) (f1, f2) A c l w') => stg_find h
        obtain ⟨a, nm, both, hfs⟩ : ∃ a nm both, findS h2tab (f1, f2) = (a, nm, both) := ⟨_, _, _, rfl⟩
        obtain ⟨kk, dn, da, hft⟩ : ∃ kk dn da, T.find (f1, f2) = (kk, dn, da) := ⟨_, _, _, rfl⟩
        rw [hplc a kk nm both dn da hfs hft] at hOB hOT
        rw [hfs] at hq1 hql hFI
        rw [hft] at hq2 hqk hFT
        simp only at hq1 hq2 hql hqk hFI hFT hst hOB hOT
        have ha61 : a ≤ 61 := hql
        have hTl := hEN.tab.nb
        simp only at hTl
        have hkn : kk ≤ T.n := hqk hTl.1
        have hcap4 := hEN.cap
        simp only at hcap4
        have hs0 := hL.out.frm.size
        clear hplc hfs hft hql hqk
        have hF2 : Frm (New wr) wr (wr.alloc (Obj.cells #[.string ⟨f1.toArray⟩, .string ⟨f2.toArray⟩] 30)) := (Frm.refl _ _).alloc Up.new _
        have HOB := Lib.hid hOB
        have HOT := Lib.hid hOT
        have HFI := Lib.hid hFI
        have HFT := Lib.hid hFT
        have HF2 := Lib.hid hF2
        have HEN := Lib.hid hEN
        have HTT := Lib.hid hTT
        have HNX := Lib.hid hnx
        have HNT := Lib.hid hnt
        have HST := Lib.hid hst
        clear hOB hOT hFI hFT hF2 hEN hTT hnx hnt hst
        clear hRd hnk hbk hsk htl
        go_upto_region 12 with (fail)
        clear hc1 hc2 hgF
        generalize wr.alloc (Obj.cells #[.string ⟨f1.toArray⟩, .string ⟨f2.toArray⟩] 30) = w2 at *
        generalize hfb : wr.heap.size = fb at *
        obtain ⟨hy0, hy1, hy2, hy3, hy4, hy5, hy6, hy7⟩ := HST.out.cells
        simp only at hy1 hy2
        have HFB := Lib.hid hfb
        clear hfb
        cases both with
        | true =>
          have hOB1 : Hid (oneB T (f1, f2) = pfx 128 7 (a + 1)) := by show _ = _; rw [HOB.out]; rfl
          have hOT1 : Hid (oneT T (f1, f2) = T) := by show _ = _; rw [HOT.out]; rfl
          clear HOB HOT HFT hq2
          go_wp2_with (first
            | (go_at_call 56
               refine (HFI.out _ _ _ _ HST.out).mono ?_
               rintro e w3 ⟨rfl, h3⟩
               have H3 := Lib.hid h3
               clear h3)
            | (go_at_call 39
               refine (stg_prefix H3.out (by omega) 128 7 (a + 1) _ (by omega) (by omega) (by omega) (by omega) (by omega)).mono ?_
               rintro e w4 ⟨A4, c4, rfl, h4⟩
               have hl4 : 0 < (l ++ pfx 128 7 (a + 1)).length := by have := pfx_pos 128 7 (a + 1); simp; omega
               have HL4 : Hid (REncL w S p g gs E fs (k + 1) S' A4 c4 (l ++ pfx 128 7 (a + 1)) w4) := rency_next hL.out HF2.out h4 (by rw [← hOB1.out, HNX.out, HL0.out]) (by rw [← HNT.out, hOT1.out]) hl4
               clear h4 hl4
               generalize l ++ pfx 128 7 (a + 1) = l4 at *))
          go_roundw
          case rel => exact ⟨k + 1, S', A4, c4, l4, by omega, by go_num, rfl, HL4⟩
          case measure => simp [intOf]; omega
        | false =>
          have hOB1 : Hid (oneB T (f1, f2) = if (if da then (61 + T.n - kk, true) else if nm then (a + 1, false) else if dn then (61 + T.n - kk, false) else (0, false)).2 = true then pfx 128 7 (if da then (61 + T.n - kk, true) else if nm then (a + 1, false) else if dn then (61 + T.n - kk, false) else (0, false)).1 else
            ((if secret f1 then pfx 16 4 (if da then (61 + T.n - kk, true) else if nm then (a + 1, false) else if dn then (61 + T.n - kk, false) else (0, false)).1 else if T.cap / 2 < fsize (f1, f2) then pfx 0 4 (if da then (61 + T.n - kk, true) else if nm then (a + 1, false) else if dn then (61 + T.n - kk, false) else (0, false)).1 else pfx 64 6 (if da then (61 + T.n - kk, true) else if nm then (a + 1, false) else if dn then (61 + T.n - kk, false) else (0, false)).1) ++ (if (if da then (61 + T.n - kk, true) else if nm then (a + 1, false) else if dn then (61 + T.n - kk, false) else (0, false)).1 = 0 then strc 128 0 7 f1 else []) ++ strc 128 0 7 f2)) := HOB.out
          have hOT1 : Hid (oneT T (f1, f2) = if (if da then (61 + T.n - kk, true) else if nm then (a + 1, false) else if dn then (61 + T.n - kk, false) else (0, false)).2 = true then T else if secret f1 then T else if T.cap / 2 < fsize (f1, f2) then T else T.add (f1, f2)) := HOT.out
          clear HOB HOT hq1
          go_upto_region 15 with (first
            | (go_at_call 56
               refine (HFI.out _ _ _ _ HST.out).mono ?_
               rintro e w3 ⟨rfl, h3⟩
               clear hy0 hy1 hy2 hy3 hy4 hy5 hy6 hy7
               obtain ⟨hy0, hy1, hy2, hy3, hy4, hy5, hy6, hy7⟩ := h3.cells
               simp only at hy1 hy2
               have H3 := Lib.hid h3
               clear h3))
          go_region_held3 (fun w' => w'.cell? ⟨p, 0, none⟩ = some (.pointer (some ⟨g, 0, none⟩)) ∧ w'.cell? ⟨fb, 0, none⟩ = some (.string ⟨f1.toArray⟩) ∧ w'.cell? ⟨fb, 1, none⟩ = some (.string ⟨f2.toArray⟩))
            (first
              | exact HS4.out
              | exact ⟨hy0, hy1, hy2⟩)
            (first
              | (go_at_call 57
                 refine (HFT.out _ _ _ _ (H3.out.fresh ((Frm.refl _ _).drew))).mono ?_
                 rintro e w4 ⟨rfl, h4⟩
                 have HS4 : Hid (w4.cell? ⟨p, 0, none⟩ = some (.pointer (some ⟨g, 0, none⟩)) ∧ w4.cell? ⟨fb, 0, none⟩ = some (.string ⟨f1.toArray⟩) ∧ w4.cell? ⟨fb, 1, none⟩ = some (.string ⟨f2.toArray⟩)) := ⟨h4.cells.1, h4.cells.2.1, h4.cells.2.2.1⟩
                 have H4 := Lib.hid h4
                 clear h4)
              | fail)
          clear hy0 hy1 hy2 hy3 hy4 hy5 hy6 hy7 HS4
          obtain ⟨hy0, hy1, hy2, hy3, hy4, hy5, hy6, hy7⟩ := H4.out.cells
          simp only at hy1 hy2
          cases da with
          | true =>
            obtain rfl : dn = true := hq2 rfl
            have hOB2 : Hid (oneB T (f1, f2) = pfx 128 7 (61 + T.n - kk)) := by show _ = _; rw [hOB1.out]; rfl
            have hOT2 : Hid (oneT T (f1, f2) = T) := by show _ = _; rw [hOT1.out]; rfl
            clear hOB1 hOT1 hq2
            go_wp2_with (first
              | (go_at_call 39
                 refine (stg_prefix H4.out (by omega) 128 7 (61 + T.n - kk) _ (by omega) (by omega) (by omega) (by omega) (by omega)).mono ?_
                 rintro e w5 ⟨A5, c5, rfl, h5⟩
                 have hl5 : 0 < (l ++ pfx 128 7 (61 + T.n - kk)).length := by have := pfx_pos 128 7 (61 + T.n - kk); simp; omega
                 have HL5 : Hid (REncL w S p g gs E fs (k + 1) S' A5 c5 (l ++ pfx 128 7 (61 + T.n - kk)) w5) := rency_next hL.out HF2.out h5 (by rw [← hOB2.out, HNX.out, HL0.out]) (by rw [← HNT.out, hOT2.out]) hl5
                 clear h5 hl5
                 generalize l ++ pfx 128 7 (61 + T.n - kk) = l5 at *))
            go_roundw
            case rel => exact ⟨k + 1, S', A5, c5, l5, by omega, by go_num, rfl, HL5⟩
            case measure => simp [intOf]; omega
          | false =>
            go_upto_if 88 with (fail)
            go_cut [15] from 55 to 152 (fun v15 w5 => (∃ x : Int, v15 = .int .u64 x ∧ Hid (x = ((if dn then 61 + T.n - kk else 0 : Nat) : Int))) ∧ w4 = w5)
            case first =>
              cases dn
              · go_wp2
                go_meet
                exact ⟨⟨_, rfl, by show _ = _; rfl⟩, rfl⟩
              · go_wp2
                go_meet
                exact ⟨⟨_, rfl, by show _ = _; first | (simp; done) | (simp; omega)⟩, rfl⟩
            case rest =>
              obtain ⟨⟨x, rfl, hx⟩, rfl⟩ := hcut
              go_upto_if 106 with (fail)
              go_cut [15] from 55 to 152 (fun v15 w5 => (∃ x : Int, v15 = .int .u64 x ∧ Hid (x = ((if nm then a + 1 else if dn then 61 + T.n - kk else 0 : Nat) : Int))) ∧ w4 = w5)
              case first =>
                cases nm
                · go_wp2
                  go_meet
                  exact ⟨⟨_, rfl, hx⟩, rfl⟩
                · go_wp2
                  go_meet
                  exact ⟨⟨_, rfl, by show _ = _; first | (simp; done) | (simp; omega)⟩, rfl⟩
              case rest =>
                clear hx
                obtain ⟨⟨x, rfl, hx⟩, rfl⟩ := hcut
                have hts : ∀ w', Calls Try.prog 19 #[.string ⟨f1.toArray⟩] w' fun e w'' => e = .returned (.bool (secret f1)) ∧ w'' = w' := fun w' => rsecret_any f1 w'
                have HTS := Lib.hid hts
                clear hts
                generalize hsx : secret f1 = sx at *
                generalize hsz : fsize (f1, f2) = sz at *
                generalize hc2 : T.cap / 2 = cap2 at *
                obtain ⟨q, hqe⟩ : ∃ q : Nat, q = (if nm then a + 1 else if dn then 61 + T.n - kk else 0) := ⟨_, rfl⟩
                have hxq : x = (q : Int) := by rw [hqe]; exact hx.out
                subst hxq
                have hqb : q ≤ 1152921504606847037 := by
                  rw [hqe]
                  split
                  · omega
                  · split <;> omega
                have hpl : (if (false : Bool) = true then (61 + T.n - kk, true) else if nm then (a + 1, false) else if dn then (61 + T.n - kk, false) else (0, false)) = (q, false) := by
                  rw [hqe]
                  cases nm <;> cases dn <;> rfl
                rw [hpl] at hOB1 hOT1
                have hOB2 : Hid (oneB T (f1, f2) = (if sx then pfx 16 4 q else if cap2 < sz then pfx 0 4 q else pfx 64 6 q) ++ (if q = 0 then strc 128 0 7 f1 else []) ++ strc 128 0 7 f2) := hOB1.out
                have hOT2 : Hid (oneT T (f1, f2) = if sx then T else if cap2 < sz then T else T.add (f1, f2)) := hOT1.out
                have hp1 := pfx_length 16 4 q
                have hp2 := pfx_length 0 4 q
                have hp3 := pfx_length 64 6 q
                have hp4 := pfx_pos 16 4 q
                have hp5 := pfx_pos 0 4 q
                have hp6 := pfx_pos 64 6 q
                clear hOB1 hOT1 hpl
                have HSX := Lib.hid hsx
                have HSZ := Lib.hid hsz
                have HC2 := Lib.hid hc2
                have HQE := Lib.hid hqe
                clear hsx hsz hc2 hqe
                go_upto_block 2 with (fail)
                go_cut [5, 16] from 55 to 152 (fun v5 v16 w5 => ∃ (A5 : Option Addr) (c5 : Nat) (add : Bool) (l5 : Bytes), v5 = .slice A5 l5.length c5 ∧ v16 = .bool add ∧ Hid (add = (!sx && !decide (cap2 < sz))) ∧
                  Hid (l5 = l ++ (if sx then pfx 16 4 q else if cap2 < sz then pfx 0 4 q else pfx 64 6 q)) ∧ l5.length ≤ l.length + 12 ∧ 0 < l5.length ∧ Hid (RStg S' p g gs fb T A' w2 (f1, f2) A5 c5 l5 w5))
                case first =>
                  cases sx with
                  | true =>
                    go_wp2_with (first
                      | (go_at_call 19; refine (HTS.out _).mono ?_; rintro e w5 ⟨rfl, hw5⟩; rw [hw5]; clear hw5 w5)
                      | (go_at_call 39
                         refine (stg_prefix H4.out (by omega) 16 4 q _ rfl (by omega) (by omega) (by omega) (by omega)).mono ?_
                         rintro e w5 ⟨A5, c5, rfl, h5⟩
                         have hl5 : Hid (l ++ pfx 16 4 q = l ++ (if (true : Bool) then pfx 16 4 q else if cap2 < sz then pfx 0 4 q else pfx 64 6 q)) := rfl
                         have hln : (l ++ pfx 16 4 q).length ≤ l.length + 12 ∧ 0 < (l ++ pfx 16 4 q).length := by rw [List.length_append]; omega
                         have H5 := Lib.hid h5
                         clear h5
                         generalize l ++ pfx 16 4 q = l5 at *))
                    go_meet
                    exact ⟨A5, c5, false, l5, rfl, rfl, rfl, hl5, hln.1, hln.2, H5⟩
                  | false =>
                    have hK : ∀ w' : World, Frm (New w4) w4 w' → w'.cell? ⟨p, 0, none⟩ = some (.pointer (some ⟨g, 0, none⟩)) ∧ w'.cell? ⟨fb, 0, none⟩ = some (.string ⟨f1.toArray⟩) ∧ w'.cell? ⟨fb, 1, none⟩ = some (.string ⟨f2.toArray⟩) ∧ w'.cell? ⟨g, 1, none⟩ = some (.int .i64 T.cap) ∧ Hid (Frm (New w4) w4 w') := fun w' hf => by
                      obtain ⟨a0, a1, a2, a3, a4, a5, a6, a7⟩ := (H4.out.fresh hf).cells
                      exact ⟨a0, a1, a2, a3, hf⟩
                    have hdv : Int.tdiv (T.cap : Int) 2 = (cap2 : Int) := by rw [Int.tdiv_eq_ediv_of_nonneg (by omega), ← HC2.out]; omega
                    have hwc : IntKind.i64.wrap (cap2 : Int) = cap2 := IntWalk.i64_in _ (by have := HC2.out; omega)
                    have hs1 : Hid (fsizes [(f1, f2)] = sz) := by show _ = _; rw [← HSZ.out]; simp [fsizes]
                    have hszb : sz ≤ 68719476736 := by omega
                    have HK := Lib.hid hK
                    clear hK
                    go_upto_region 28 with (go_at_call 19; refine (HTS.out _).mono ?_; rintro e w5 ⟨rfl, hw5⟩; rw [hw5]; clear hw5 w5)
                    go_cut [120] from 55 to 152 (fun v120 w5 => v120 = .bool (decide (cap2 < sz)) ∧ Hid (Frm (New w4) w4 w5))
                    case first =>
                      by_cases hq : cap2 < sz
                      all_goals
                        go_region_held3 (fun w' => w'.cell? ⟨p, 0, none⟩ = some (.pointer (some ⟨g, 0, none⟩)) ∧ w'.cell? ⟨fb, 0, none⟩ = some (.string ⟨f1.toArray⟩) ∧ w'.cell? ⟨fb, 1, none⟩ = some (.string ⟨f2.toArray⟩) ∧ w'.cell? ⟨g, 1, none⟩ = some (.int .i64 T.cap) ∧ Hid (Frm (New w4) w4 w'))
                          (first
                            | exact HK.out _ hT
                            | exact HK.out _ ((Frm.refl _ _).drew)
                            | exact HK.out _ ((Frm.refl _ _).alloc Up.new _).drew
                            | exact HK.out _ ((Frm.refl _ _).drew.alloc Up.new _))
                          (first
                            | (go_at_call 58
                               refine (rsize_any [(f1, f2)] _ 1 _ (by first | exact Rd.new _ #[.string ⟨f1.toArray⟩, .string ⟨f2.toArray⟩] _ | exact (Rd.new _ #[.string ⟨f1.toArray⟩, .string ⟨f2.toArray⟩] _).drew) (by rw [hs1.out]; omega) (by simp)).mono ?_
                               rintro e w3 ⟨rfl, nn, hw3⟩
                               have hT : Frm (New w4) w4 w3 := by rw [hw3]; exact Frm.drewN (by first | exact ((Frm.refl _ _).drew).alloc Up.new _ | exact ((Frm.refl _ _).alloc Up.new _).drew) nn
                               clear hw3
                               rw [hs1.out])
                            | fail)
                      all_goals go_wp2
                      all_goals go_meet
                      all_goals refine ⟨by simp [hq]; omega, ?_⟩
                      all_goals first | exact hT | (go_split_ands; assumption)
                    case rest =>
                      obtain ⟨rfl, hFw⟩ := hcut
                      rename World => w6
                      have H6 := Lib.hid (H4.out.fresh hFw.out)
                      clear hy0 hy1 hy2 hy3 hy4 hy5 hy6 hy7 H4 HK hFw
                      by_cases hq : cap2 < sz
                      · go_wp2_with (fail)
                        refine (stg_prefix H6.out (by omega) 0 4 q _ rfl (by omega) (by omega) (by omega) (by omega)).mono ?_
                        rintro e w5 ⟨A5, c5, rfl, h5⟩
                        have hl5 : Hid (l ++ pfx 0 4 q = l ++ (if (false : Bool) then pfx 16 4 q else if cap2 < sz then pfx 0 4 q else pfx 64 6 q)) := by show _ = _; rw [if_neg (by simp), if_pos hq]
                        have hln : (l ++ pfx 0 4 q).length ≤ l.length + 12 ∧ 0 < (l ++ pfx 0 4 q).length := by rw [List.length_append]; omega
                        have H5 := Lib.hid h5
                        clear h5
                        generalize l ++ pfx 0 4 q = l5 at *
                        go_wp2_with (fail)
                        go_meet
                        exact ⟨A5, c5, false, l5, rfl, rfl, by show _ = _; simp [hq], hl5, hln.1, hln.2, H5⟩
                      · go_wp2_with (fail)
                        refine (stg_prefix H6.out (by omega) 64 6 q _ rfl (by omega) (by omega) (by omega) (by omega)).mono ?_
                        rintro e w5 ⟨A5, c5, rfl, h5⟩
                        have hl5 : Hid (l ++ pfx 64 6 q = l ++ (if (false : Bool) then pfx 16 4 q else if cap2 < sz then pfx 0 4 q else pfx 64 6 q)) := by show _ = _; rw [if_neg (by simp), if_neg hq]
                        have hln : (l ++ pfx 64 6 q).length ≤ l.length + 12 ∧ 0 < (l ++ pfx 64 6 q).length := by rw [List.length_append]; omega
                        have H5 := Lib.hid h5
                        clear h5
                        generalize l ++ pfx 64 6 q = l5 at *
                        go_wp2_with (fail)
                        go_meet
                        exact ⟨A5, c5, true, l5, rfl, rfl, by show _ = _; simp [hq], hl5, hln.1, hln.2, H5⟩
                case rest =>
                  obtain ⟨A5, c5, add, l5, rfl, rfl, hadd, hl5, hb5, hpos5, h5⟩ := hcut
                  rename World => w5
                  clear hy0 hy1 hy2 hy3 hy4 hy5 hy6 hy7 H4 HTS hp1 hp2 hp3 hp4 hp5 hp6
                  obtain ⟨hy0, hy1, hy2, hy3, hy4, hy5, hy6, hy7⟩ := h5.out.cells
                  simp only at hy1 hy2
                  have hst1 := strc_le 128 0 7 f1
                  have hst2 := strc_le 128 0 7 f2
                  have hfin : Hid (l ++ oneB T (f1, f2) = l5 ++ (if q = 0 then strc 128 0 7 f1 else []) ++ strc 128 0 7 f2) := by
                    show _ = _
                    rw [hOB2.out, hl5.out]
                    simp only [List.append_assoc]
                  have hszb : sz ≤ 68719476736 := by omega
                  have hf1b : f1.length + f2.length ≤ 68719476736 := by have := HSZ.out; omega
                  have hOT3 : Hid (oneT T (f1, f2) = if add then T.add (f1, f2) else T) := by
                    show _ = _
                    rw [hOT2.out, hadd.out]
                    cases sx <;> by_cases hq : cap2 < sz <;> simp [hq]
                  clear hOB2 hOT2 hl5 hadd
                  go_upto_if 137 with (fail)
                  go_cut [5] from 55 to 152 (fun v5 w6 => ∃ (A6 : Option Addr) (c6 : Nat) (l6 : Bytes), v5 = .slice A6 l6.length c6 ∧ Hid (l6 = l5 ++ (if q = 0 then strc 128 0 7 f1 else [])) ∧ l6.length ≤ 893353197568 ∧ 0 < l6.length ∧ Hid (RStg S' p g gs fb T A' w2 (f1, f2) A6 c6 l6 w6))
                  case first =>
                    by_cases hq0 : q = 0
                    · subst hq0
                      have hz : ((0 : Nat) : Int) = 0 := rfl
                      go_wp2_with (fail)
                      refine (stg_str h5.out (by omega) f1 (by omega)).mono ?_
                      rintro e w6 ⟨A6, c6, rfl, h6⟩
                      have hl6 : Hid (l5 ++ strc 128 0 7 f1 = l5 ++ (if (0 : Nat) = 0 then strc 128 0 7 f1 else [])) := rfl
                      have hln : (l5 ++ strc 128 0 7 f1).length ≤ 893353197568 ∧ 0 < (l5 ++ strc 128 0 7 f1).length := by rw [List.length_append]; omega
                      have H6 := Lib.hid h6
                      clear h6
                      generalize l5 ++ strc 128 0 7 f1 = l6 at *
                      go_wp2_with (fail)
                      go_meet
                      exact ⟨A6, c6, l6, rfl, hl6, hln.1, hln.2, H6⟩
                    · have hq1 : ((q : Int) == 0) = false := by rw [beq_eq_false_iff_ne]; omega
                      go_wp2
                      go_meet
                      exact ⟨A5, c5, l5, rfl, by show _ = _; rw [if_neg hq0, List.append_nil], by omega, hpos5, h5⟩
                  case rest =>
                    obtain ⟨A6, c6, l6, rfl, hl6, hb6, hpos6, h6⟩ := hcut
                    rename World => w6
                    clear hy0 hy1 hy2 hy3 hy4 hy5 hy6 hy7 h5
                    obtain ⟨hy0, hy1, hy2, hy3, hy4, hy5, hy6, hy7⟩ := h6.out.cells
                    simp only at hy1 hy2
                    have hfin2 : Hid (l ++ oneB T (f1, f2) = l6 ++ strc 128 0 7 f2) := by show _ = _; rw [hfin.out, hl6.out]
                    clear hfin hl6 hpos5 hb5
                    cases add with
                    | false =>
                      have hot : Hid (oneT T (f1, f2) = T) := hOT3.out
                      clear hOT3
                      go_wp2_with (fail)
                      refine (stg_str h6.out (by omega) f2 (by omega)).mono ?_
                      rintro e w7 ⟨A7, c7, rfl, h7⟩
                      have hl7 : 0 < (l6 ++ strc 128 0 7 f2).length := by rw [List.length_append]; omega
                      have HL7 : Hid (REncL w S p g gs E fs (k + 1) S' A7 c7 (l6 ++ strc 128 0 7 f2) w7) := rency_next hL.out HF2.out h7 (by rw [← hfin2.out, HNX.out, HL0.out]) (by rw [← HNT.out, hot.out]) hl7
                      clear h7 hl7
                      generalize l6 ++ strc 128 0 7 f2 = l7 at *
                      go_wp2_with (fail)
                      go_roundw
                      case rel => exact ⟨k + 1, S', A7, c7, l7, by omega, by go_num, rfl, HL7⟩
                      case measure => simp [intOf]; omega
                    | true =>
                      have hot : Hid (oneT T (f1, f2) = T.add (f1, f2)) := hOT3.out
                      clear hOT3
                      go_wp2_with (fail)
                      refine (stg_str h6.out (by omega) f2 (by omega)).mono ?_
                      rintro e w7 ⟨A7, c7, rfl, h7⟩
                      have hl7 : 0 < (l6 ++ strc 128 0 7 f2).length := by rw [List.length_append]; omega
                      have HEQ : Hid (l6 ++ strc 128 0 7 f2 = E.sizeB ++ linesB E.t (fs.take (k + 1))) := by show _ = _; rw [← hfin2.out, HNX.out, HL0.out]
                      clear hy0 hy1 hy2 hy3 hy4 hy5 hy6 hy7
                      obtain ⟨hy0, hy1, hy2, hy3, hy4, hy5, hy6, hy7⟩ := h7.cells
                      simp only at hy1 hy2
                      have H7 := Lib.hid h7
                      clear h7
                      generalize l6 ++ strc 128 0 7 f2 = l7 at *
                      go_upto_region 34 with (fail)
                      go_region_held3 (fun w' => w'.cell? ⟨p, 0, none⟩ = some (.pointer (some ⟨g, 0, none⟩)) ∧ w'.cell? ⟨fb, 0, none⟩ = some (.string ⟨f1.toArray⟩) ∧ w'.cell? ⟨fb, 1, none⟩ = some (.string ⟨f2.toArray⟩))
                        (first
                          | exact HS8.out
                          | exact ⟨hy0, hy1, hy2⟩)
                        (first
                          | (go_at_call 59
                             refine (stg_add (H7.out.fresh ((Frm.refl _ _).drew)) hnk2 (by have := HSZ.out; omega)).mono ?_
                             rintro e w8 ⟨⟨m8, rfl⟩, h8⟩
                             have HL8 : Hid (∃ S2, REncL w S p g gs E fs (k + 1) S2 A7 c7 l7 w8) := rency_add hL.out HF2.out (H7.out.fresh ((Frm.refl _ _).drew)) h8 HEQ.out (by rw [← HNT.out, hot.out]) hl7
                             have HS8 : Hid (w8.cell? ⟨p, 0, none⟩ = some (.pointer (some ⟨g, 0, none⟩)) ∧ w8.cell? ⟨fb, 0, none⟩ = some (.string ⟨f1.toArray⟩) ∧ w8.cell? ⟨fb, 1, none⟩ = some (.string ⟨f2.toArray⟩)) := by
                               obtain ⟨S2, he, hFa, hSa⟩ := h8
                               have hbx := (H7.out.fresh ((Frm.refl _ _).drew)).box.keep hFa (fun c => by
                                 rcases c with c | c
                                 · have h8a := hL.out.en.tab.low g hL.out.en.tab.sg
                                   have h8b := HFB.out
                                   omega
                                 · have := H7.out.box.lt; unfold New at c; simp at c; omega)
                               exact ⟨he.blk.cell 0, hbx.cell 0, hbx.cell 1⟩
                             clear h8)
                          | fail)
                      obtain ⟨S2, HL9⟩ := HL8.out
                      have HLA := Lib.hid HL9
                      clear HL9
                      clear HL8
                      go_wp2
                      go_roundw
                      case rel => exact ⟨k + 1, S2, A7, c7, l7, by omega, by go_num, rfl, HLA⟩
                      case measure => simp [intOf]; omega
      · obtain rfl : k = fs.length := by omega
        have heq : Hid (E.encB fs = l) := by show _ = _; rw [hL.out.eq, List.take_length]; rfl
        have hen : Hid (REnAt S' wr p g (E.enc fs) (-1)) := by have := hL.out.en; rw [List.take_length] at this; exact this
        go_wp2
        go_ret
        rw [heq.out]
        exact ⟨S', A', c', rfl, hL.out.app, fun k hk => (hL.out.far k hk).1, hen.out, hL.out.frm, hL.out.sub⟩
end Go.Proofs.Ytcebckkpablagaa.M
