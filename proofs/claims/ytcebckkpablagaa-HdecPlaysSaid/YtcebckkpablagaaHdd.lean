/- hdec's Decode. hdec's New, Table, Limit. -/
import Derived.Defers
import Derived.Recover
import Derived.Test.YtcebckkpablagaaHbk
import Derived.Deep.RegionHeld3
import Derived.Test.YtcebckkpablagaaEnce
import Derived.Test.YtcebckkpablagaaEres
namespace Go.Proofs.Ytcebckkpablagaa.M
open Go.ChangeShapes Go.WideShapes Go.ChangeAt Go.RowKit

/-- what the deferred function's rest leaves -/
def CQ (wz : World) (e : Exit) (a : Act) (w : World) : Prop := e = .normal ∧ a.defers = [] ∧ w = wz
set_option maxRecDepth 100000 in
set_option maxHeartbeats 200000 in
/-- the deferred function in a frame that panics -/
theorem catch_p (bd bl be pd n c : Nat) (A : Option Addr) (x : Bool) (v : Int) (w : World) (hc : w.cell? ⟨bd, 0, none⟩ = some (.pointer (some ⟨pd, 0, none⟩))) (hk : w.cell? ⟨pd, 3, none⟩ = some (.bool x)) (hl : w.cell? ⟨bl, 0, none⟩ = some (.slice A n c)) (he : w.cell? ⟨be, 0, none⟩ = some (.int .i64 v))
    (hk2 : w.frozen? ⟨pd, 3, none⟩ = false) (hl2 : w.frozen? ⟨bl, 0, none⟩ = false) (he2 : w.frozen? ⟨be, 0, none⟩ = false) (h1 : bd < w.heap.size) (h2 : pd < w.heap.size) (h3 : bl < w.heap.size) (h4 : be < w.heap.size) (h7 : bl ≠ be) :
    CallsD Try.prog 66 #[.pointer (some ⟨bd, 0, none⟩), .pointer (some ⟨bl, 0, none⟩), .pointer (some ⟨be, 0, none⟩)] (.panicking [{ v := .iface 117 (.agg #[]), recovered := false }]) w fun e u' w' =>
      e = .returned (.tuple #[]) ∧ u' = .panicking [{ v := .iface 117 (.agg #[]), recovered := true }] ∧ w' = (((w.setCell ⟨pd, 3, none⟩ (.bool true)).setCell ⟨bl, 0, none⟩ (.slice none 0 0)).setCell ⟨be, 0, none⟩ (.int .i64 26)).alloc (.cells #[] 117) := by
  refine callsD_of_wpS Try.func66 rfl fun c₀ cs hu => ?_
  apply wpS_seq
  apply wpS_region
  have hfr : ((#[Value.pointer (some ⟨bd, 0, none⟩), Value.pointer (some ⟨bl, 0, none⟩), Value.pointer (some ⟨be, 0, none⟩)] : Array Value) ++ ((Array.replicate 17 undef).setIfInBounds 3 (Value.iface 117 (.agg #[]))).setIfInBounds 0 (Value.iface 117 (.agg #[]))) = #[Value.pointer (some ⟨bd, 0, none⟩), Value.pointer (some ⟨bl, 0, none⟩), Value.pointer (some ⟨be, 0, none⟩), Value.iface 117 (.agg #[]), undef, undef, Value.iface 117 (.agg #[]), undef, undef, undef, undef, undef, undef, undef, undef, undef, undef, undef, undef, undef] := by kernel_rfl
  simp [wpOpsS, go_sem, recoverD, hu, Try.ntmps66, Exit.thenS]
  have hne : ∀ (v : Value) (w : World), (binOp .neq 20 (.iface 117 v) .nilIface).run Try.prog w = .ok (.bool true) w := fun _ _ => by kernel_rfl
  have hta : ∀ (v : Value) (w : World), (Instr.typeAssert (.iface 117 v) 20 117 true).run Try.prog w = .ok (.tuple #[v, .bool true]) w := fun _ _ => by kernel_rfl
  refine wpS_of_wp ?_
  refine wp_mono (Q := CQ ((((w.setCell ⟨pd, 3, none⟩ (.bool true)).setCell ⟨bl, 0, none⟩ (.slice none 0 0)).setCell ⟨be, 0, none⟩ (.int .i64 26)).alloc (.cells #[] 117))) ?_ ?_
  rotate_left
  · rintro e a w' ⟨rfl, h1, rfl⟩
    exact ⟨h1, _, rfl, .tuple #[], results_none rfl _ _ _, rfl, rfl, rfl⟩
  clear hu c₀ cs
  rw [hfr]
  clear hfr
  go_wp2
  exact ⟨rfl, rfl, rfl⟩
/-- the deferred function in a frame that returns -/
theorem catch_i (bd bl be : Addr) (w : World) : CallsD Try.prog 66 #[.pointer (some bd), .pointer (some bl), .pointer (some be)] .returning w fun e u' w' => e = .returned (.tuple #[]) ∧ u' = .returning ∧ w' = w := by
  refine callsD_of_wpS Try.func66 rfl fun c₀ cs hu => ?_
  apply wpS_seq
  apply wpS_region
  have hfr : ((#[Value.pointer (some bd), Value.pointer (some bl), Value.pointer (some be)] : Array Value) ++ ((Array.replicate 17 undef).setIfInBounds 3 Value.nilIface).setIfInBounds 0 Value.nilIface) = #[Value.pointer (some bd), Value.pointer (some bl), Value.pointer (some be), Value.nilIface, undef, undef, Value.nilIface, undef, undef, undef, undef, undef, undef, undef, undef, undef, undef, undef, undef, undef] := by kernel_rfl
  simp [wpOpsS, go_sem, recoverD, hu, Try.ntmps66, Exit.thenS]
  have hne : ∀ (w : World), (binOp .neq 20 .nilIface .nilIface).run Try.prog w = .ok (.bool false) w := fun _ => by kernel_rfl
  refine wpS_of_wp ?_
  refine wp_mono (Q := CQ w) ?_ ?_
  rotate_left
  · rintro e a w' ⟨rfl, h1, rfl⟩
    cases c₀
    simp only at hu
    subst hu
    exact ⟨h1, _, rfl, .tuple #[], results_none rfl _ _ _, rfl, rfl, rfl⟩
  clear hu c₀ cs
  rw [hfr]
  clear hfr
  go_wp2
  exact ⟨rfl, rfl, rfl⟩

/-- hdec's decoder at block pd, its table at block g -/
structure HDeAt (S : Nat → Prop) (w : World) (pd g : Nat) (D : De) : Prop where
  blk : Blk w pd 115 #[.pointer (some ⟨g, 0, none⟩), .int .i64 D.max, .bool D.must, .bool D.bad]
  tab : TabS S w g D.t
  out : ¬ S pd
  cap : D.t.cap ≤ 4096
  max : D.max ≤ 4096
  ok : D.t.Ok
/-- what a call of Decode leaves -/
def HDRes (w : World) (S : Nat → Prop) (pd g : Nat) (D : De) (o : Option (List Fld × Tb)) (e : Ending) (w' : World) : Prop :=
  ∃ S' D', HDeAt S' w' pd g D' ∧ Frm (fun k => k = pd ∨ Own S w k) w w' ∧ (∀ k, S' k → Own S w k) ∧
    match o with
    | some (l, T) => ∃ A c, e = .returned (.tuple #[.slice A l.length c, .int .i64 0]) ∧ App (New w) w' 30 2 A l.length c (fvs l) ∧ (∀ k, blk A = some k → ¬ S' k) ∧ D' = ⟨T, D.max, false, false⟩
    | none => e = .returned (.tuple #[.slice none 0 0, .int .i64 26]) ∧ D'.bad = true

theorem HDeAt.fresh {S : Nat → Prop} {w w' : World} {pd g : Nat} {D : De} (h : HDeAt S w pd g D) (f : Frm (New w) w w') : HDeAt S w' pd g D :=
  { h with blk := h.blk.fresh f, tab := h.tab.fresh f }
theorem hrm_start {S : Nat → Prop} {w : World} {pd g c : Nat} {D : De} {b : Bytes} {A : Option Addr} (h : HDeAt S w pd g D) (hR : Rd w A (bvs b)) (hc : b.length ≤ c) (hfar : ∀ k, blk A = some k → k ≠ pd ∧ ¬ S k ∧ k < w.heap.size) (hl : b.length ≤ 1099511627776) :
    HRM w S pd g D w.heap.size S D.t D.must 0 [] b A c none 0 (w.alloc (Obj.cells #[.pointer (some ⟨pd, 0, none⟩), .slice A b.length c, .slice none 0 0, .int .i64 0] 121)) := by
  have f : Frm (New w) w (w.alloc (Obj.cells #[.pointer (some ⟨pd, 0, none⟩), .slice A b.length c, .slice none 0 0, .int .i64 0] 121)) := (Frm.refl _ _).alloc Up.new _
  exact ⟨Blk.new w _ _, h.blk.fresh f, h.tab.fresh f, ⟨fun q => by have := h.tab.low _ q; omega, h.out⟩, h.cap, h.max, h.ok, hR.fresh f, hc, hl, hfar, App.none_, fun k hk => (by cases hk), h.blk.lt, Nat.le_refl _, f.mono (fun _ hk => .inr (.inr hk)), fun k hk => .inl hk⟩

theorem hd_end {w w3 w5 w' : World} {S S2 : Nat → Prop} {pd g pr up c co : Nat} {D : De} {T : Tb} {mu mu2 bad2 : Bool} {out : List Fld} {r : Bytes} {A Ao : Option Addr} (hM : HRM w3 S pd g D pr S2 T mu up out r A c Ao co w5) (hS : ∀ k, S k → k < w.heap.size) (hp : pd < w.heap.size) (h3 : Frm (New w) w w3)
    (hb : Blk w' pd 115 #[.pointer (some ⟨g, 0, none⟩), .int .i64 D.max, .bool mu2, .bool bad2]) (hf : Frm (fun k => k = pd ∨ (w.heap.size ≤ k ∧ k < w3.heap.size) ∨ New w5 k) w5 w') :
    HDeAt S2 w' pd g ⟨T, D.max, mu2, bad2⟩ ∧ Frm (fun k => k = pd ∨ Own S w k) w w' ∧ (∀ k, S2 k → Own S w k) ∧ App (New w) w' 30 2 Ao out.length co (fvs out) := by
  have s3 := h3.size
  have s5 := hM.frm.size
  refine ⟨⟨hb, hM.tab.keep hf ?_, hM.outS.2, hM.cap, hM.max, hM.ok⟩, ?_, ?_, (hM.app.mono (fun k hk => Nat.le_trans s3 hk)).keep hf ?_⟩
  · rintro k hk (q | q | q)
    · exact hM.outS.2 (by rw [← q]; exact hk)
    · rcases hM.sub k hk with c | c
      · have := hS k c; omega
      · omega
    · have := hM.tab.low k hk; unfold New at q; omega
  · refine ((h3.mono (fun k hk => .inr (.inr hk))).trans (hM.frm.mono ?_)).trans (hf.mono ?_)
    · rintro k (q | q | q)
      · exact .inl q
      · exact .inr (.inl q)
      · exact .inr (.inr (Nat.le_trans s3 q))
    · rintro k (q | q | q)
      · exact .inl q
      · exact .inr (.inr q.1)
      · exact .inr (.inr (Nat.le_trans (Nat.le_trans s3 s5) q))
  · intro k hk
    rcases hM.sub k hk with q | q
    · exact .inl q
    · exact .inr (Nat.le_trans s3 q)
  · rintro k hk (q | q | q)
    · have h1 := hM.app.inM k hk; unfold New at h1; omega
    · have h1 := hM.app.inM k hk; unfold New at h1; omega
    · have h1 := (hM.ofar k hk).2.2; unfold New at q; omega

set_option maxRecDepth 100000 in
set_option maxHeartbeats 4000000 in
theorem hdecoder_any {S : Nat → Prop} {pd g : Nat} {D : De} (b : Bytes) (A0 : Option Addr) (c0 : Nat) (w : World) (h : HDeAt S w pd g D) (hR : Rd w A0 (bvs b)) (hc : b.length ≤ c0)
    (hfar : ∀ k, blk A0 = some k → k ≠ pd ∧ ¬ S k ∧ k < w.heap.size) (hl : b.length ≤ 1099511627776) (hn : D.bad = false → D.t.n + b.length ≤ 1152921504606846975) :
    Calls Try.prog 36 #[.pointer (some ⟨pd, 0, none⟩), .slice A0 b.length c0] w (HDRes w S pd g D (D.run b)) := by
  have hb := h.blk
  have hd3 := hb.cell 3
  simp only [List.getElem?_toArray, List.getElem?_cons_zero, List.getElem?_cons_succ] at hd3
  have hp := hb.lt
  have hmf : ∀ (fn : Fn) (first cap : Array Value) (w : World), (Instr.makeFunc fn first cap).run Try.prog w = .ok (.func fn first cap) w := fun _ _ _ _ => rfl
  have hA : Frm (New w) w (w.alloc (Obj.cells #[.pointer (some ⟨pd, 0, none⟩)] 66)) := (Frm.refl _ _).alloc Up.new _
  have hB := (Frm.refl (New (w.alloc (Obj.cells #[.pointer (some ⟨pd, 0, none⟩)] 66))) _).alloc Up.new (Obj.cells #[Value.slice none 0 0] 27)
  have hC := (Frm.refl (New ((w.alloc (Obj.cells #[.pointer (some ⟨pd, 0, none⟩)] 66)).alloc (Obj.cells #[Value.slice none 0 0] 27))) _).alloc Up.new (Obj.cells #[Value.int .i64 0] 69)
  have hb0 := ((Blk.new w 66 #[.pointer (some ⟨pd, 0, none⟩)]).fresh hB).fresh hC
  have hb1 := (Blk.new (w.alloc (Obj.cells #[.pointer (some ⟨pd, 0, none⟩)] 66)) 27 #[Value.slice none 0 0]).fresh hC
  have hb2 := Blk.new ((w.alloc (Obj.cells #[.pointer (some ⟨pd, 0, none⟩)] 66)).alloc (Obj.cells #[Value.slice none 0 0] 27)) 69 #[Value.int .i64 0]
  have hF3 := (hA.then_new Up.new hB).then_new Up.new hC
  rw [show ((w.alloc (Obj.cells #[.pointer (some ⟨pd, 0, none⟩)] 66)).alloc (Obj.cells #[Value.slice none 0 0] 27)).heap.size = w.heap.size + 1 + 1 by simp] at hb2
  rw [show (w.alloc (Obj.cells #[.pointer (some ⟨pd, 0, none⟩)] 66)).heap.size = w.heap.size + 1 by simp] at hb1
  clear hA hB hC
  have h3 := h.blk.fresh hF3
  have HF3 := Lib.hid hF3
  have HB0 := Lib.hid hb0
  have HB1 := Lib.hid hb1
  have HB2 := Lib.hid hb2
  have H3 := Lib.hid h3
  clear hF3 hb0 hb1 hb2 h3
  go_enter_defers Try.func36, Try.ntmps36
  go_upto_region 1 with (fail)
  generalize ((w.alloc (Obj.cells #[.pointer (some ⟨pd, 0, none⟩)] 66)).alloc (Obj.cells #[Value.slice none 0 0] 27)).alloc (Obj.cells #[Value.int .i64 0] 69) = w3 at *
  have hc0 := HB0.out
  have hc1 := HB1.out
  have hc2 := HB2.out
  have hc3 := H3.out
  have hx0 := hc0.cell 0
  simp only [List.getElem?_toArray, List.getElem?_cons_zero] at hx0
  have hx1 := hc1.cell 0
  simp only [List.getElem?_toArray, List.getElem?_cons_zero] at hx1
  have hx2 := hc2.cell 0
  simp only [List.getElem?_toArray, List.getElem?_cons_zero] at hx2
  have hx3 := hc3.cell 3
  simp only [List.getElem?_toArray, List.getElem?_cons_zero, List.getElem?_cons_succ] at hx3
  have hz1 := hc1.frozen 0
  have hz2 := hc2.frozen 0
  have hz3 := hc3.frozen 3
  have hl0 := hc0.lt
  have hl1 := hc1.lt
  have hl2 := hc2.lt
  have hl3 := hc3.lt
  have HC0 := Lib.hid hc0
  have HC1 := Lib.hid hc1
  have HC2 := Lib.hid hc2
  have HC3 := Lib.hid hc3
  have H := Lib.hid h
  have HR := Lib.hid hR
  have HFAR := Lib.hid hfar
  have HB := Lib.hid hb
  clear hc0 hc1 hc2 hc3 h hR hfar hb
  clear hd3
  cases hbad : D.bad with
  | true =>
    have hrun : Hid (D.run b = none) := by show _ = _; unfold De.run; rw [if_pos hbad]
    rw [hbad] at hx3
    have HBAD := Lib.hid hbad
    clear hbad
    have hFX : Frm (New w) w ((w3.setCell ⟨w.heap.size + 1, 0, none⟩ (.slice none 0 0)).setCell ⟨w.heap.size + 1 + 1, 0, none⟩ (.int .i64 26)) := (HF3.out.setCell (p := ⟨w.heap.size + 1, 0, none⟩) (by unfold New; simp only; omega) _).setCell (p := ⟨w.heap.size + 1 + 1, 0, none⟩) (by unfold New; simp only; omega) _
    have HFX := Lib.hid hFX
    clear hFX
    go_wp2
    have hFX := HFX.out
    rw [hrun.out]
    simp only [bodyPostD, Leaves]
    refine ⟨.tuple #[.slice none 0 0, .int .i64 26], ?_, S, D, ?_, ?_, fun k hk => .inl hk, rfl, HBAD.out⟩
    · simp [results, Try.f36, go_sem, hx1, hx2]
    · exact H.out.fresh hFX
    · exact hFX.mono (fun _ hk => .inr (.inr hk))
  | false =>
    have hrun : Hid (D.run b = decGo D.max D.must b.length D.t 0 [] b) := by show _ = _; unfold De.run; rw [if_neg (by rw [hbad]; simp)]
    rw [hbad] at hx3
    have hs3 := HF3.out.size
    have hM := hrm_start (H.out.fresh HF3.out) (HR.out.fresh HF3.out) hc (fun k hk => ⟨(HFAR.out k hk).1, (HFAR.out k hk).2.1, Nat.lt_of_lt_of_le (HFAR.out k hk).2.2 hs3⟩) hl
    have hblk := block_any hM (hn hbad) hrun.out
    have HBAD := Lib.hid hbad
    have HM := Lib.hid hM
    clear hbad hM
    cases ho : D.run b with
    | none =>
      rw [ho] at hblk
      have HBLK := Lib.hid hblk
      have HO := Lib.hid ho
      clear hblk ho
      go_wp2_with (fail)
      refine HBLK.out.mono ?_
      rintro e w5 ⟨rfl, hs⟩
      obtain ⟨S2, T2, mu2, up2, out2, r2, A2, c2, Ao2, co2, hM5⟩ := hs
      have hout : ∀ k, w.heap.size ≤ k → k < w3.heap.size → ¬ (k = pd ∨ Own S w3 k) := fun k h1 h2 q => by
        rcases q with q | q | q
        · omega
        · have := H.out.tab.low k q; omega
        · omega
      have hd0 := HC0.out.keep hM5.frm (hout _ (by omega) hl0)
      have hd1 := HC1.out.keep hM5.frm (hout _ (by omega) hl1)
      have hd2 := HC2.out.keep hM5.frm (hout _ (by omega) hl2)
      have hd3 := hM5.dec
      have hlw1 : w.heap.size + 1 < w3.heap.size := hl1
      have hlw2 : w.heap.size + 1 + 1 < w3.heap.size := hl2
      clear hx0 hx1 hx2 hx3 hz1 hz2 hz3 hl0 hl1 hl2 hl3
      have hy0 := hd0.cell 0
      simp only [List.getElem?_toArray, List.getElem?_cons_zero] at hy0
      have hy1 := hd1.cell 0
      simp only [List.getElem?_toArray, List.getElem?_cons_zero] at hy1
      have hy2 := hd2.cell 0
      simp only [List.getElem?_toArray, List.getElem?_cons_zero] at hy2
      have hy3 := hd3.cell 3
      simp only [List.getElem?_toArray, List.getElem?_cons_zero, List.getElem?_cons_succ] at hy3
      have hz1 := hd1.frozen 0
      have hz2 := hd2.frozen 0
      have hz3 := hd3.frozen 3
      have hl0 := hd0.lt
      have hl1 := hd1.lt
      have hl2 := hd2.lt
      have hl3 := hd3.lt
      unfold PW
      go_wp2
      refine leaves_cons (f := 66) (args := #[.pointer (some ⟨w.heap.size, 0, none⟩), .pointer (some ⟨w.heap.size + 1, 0, none⟩), .pointer (some ⟨w.heap.size + 1 + 1, 0, none⟩)]) (by simp) (by simp [go_sem]) ?_
      refine (catch_p _ _ _ pd _ _ _ _ _ _ hy0 hy3 hy1 hy2 hz3 hz1 hz2 hl0 hl3 hl1 hl2 (by omega)).mono ?_
      rintro e u' w'' ⟨rfl, rfl, rfl⟩
      have hf : Frm (fun k => k = pd ∨ (w.heap.size ≤ k ∧ k < w3.heap.size) ∨ New w5 k) w5 ((((w5.setCell ⟨pd, 3, none⟩ (.bool true)).setCell ⟨w.heap.size + 1, 0, none⟩ (.slice none 0 0)).setCell ⟨w.heap.size + 1 + 1, 0, none⟩ (.int .i64 26)).alloc (.cells #[] 117)) :=
        ((((Frm.refl _ w5).setCell (p := ⟨pd, 3, none⟩) (.inl rfl) _).setCell (p := ⟨w.heap.size + 1, 0, none⟩) (.inr (.inl ⟨by simp only; omega, hlw1⟩)) _).setCell (p := ⟨w.heap.size + 1 + 1, 0, none⟩) (.inr (.inl ⟨by simp only; omega, hlw2⟩)) _).alloc (fun _ hk => .inr (.inr hk)) _
      have hb5 := hM5.dec.set_ 3 (.bool true)
      have hg : Frm (fun k => w.heap.size ≤ k) (w5.setCell ⟨pd, 3, none⟩ (.bool true)) ((((w5.setCell ⟨pd, 3, none⟩ (.bool true)).setCell ⟨w.heap.size + 1, 0, none⟩ (.slice none 0 0)).setCell ⟨w.heap.size + 1 + 1, 0, none⟩ (.int .i64 26)).alloc (.cells #[] 117)) :=
        (((Frm.refl _ _).setCell (p := ⟨w.heap.size + 1, 0, none⟩) (by simp only; omega) _).setCell (p := ⟨w.heap.size + 1 + 1, 0, none⟩) (by simp only; omega) _).alloc (fun k hk => by simp at hk; omega) _
      have hb6 := hb5.keep hg (by omega)
      obtain ⟨e1, e2, e3, e4⟩ := hd_end (mu2 := mu2) (bad2 := true) hM5 H.out.tab.low hp HF3.out (by simpa using hb6) hf
      rw [HO.out]
      show ∃ v : Value, _ ∧ _
      refine ⟨.tuple #[.slice none 0 0, .int .i64 26], ?_, S2, _, e1, e2, e3, rfl, rfl⟩
      simp [results, Try.f36, go_sem, hy1, hy2, hl1, hl2]
    | some q =>
      obtain ⟨l, T⟩ := q
      rw [ho] at hblk
      have HBLK := Lib.hid hblk
      have HO := Lib.hid ho
      clear hblk ho
      go_wp2_with (fail)
      refine HBLK.out.mono ?_
      rintro e w5 ⟨rfl, S2, up, A2, c2, A4, c4, hM5⟩
      have hout : ∀ k, w.heap.size ≤ k → k < w3.heap.size → ¬ (k = pd ∨ Own S w3 k) := fun k h1 h2 q => by
        rcases q with q | q | q
        · omega
        · have := H.out.tab.low k q; omega
        · omega
      have hd0 := HC0.out.keep hM5.frm (hout _ (by omega) hl0)
      have hd1 := HC1.out.keep hM5.frm (hout _ (by omega) hl1)
      have hd2 := HC2.out.keep hM5.frm (hout _ (by omega) hl2)
      have hd3 := hM5.dec
      have hlw1 : w.heap.size + 1 < w3.heap.size := hl1
      have hlw2 : w.heap.size + 1 + 1 < w3.heap.size := hl2
      clear hx0 hx1 hx2 hx3 hz1 hz2 hz3 hl0 hl1 hl2 hl3
      have hy0 := hd0.cell 0
      simp only [List.getElem?_toArray, List.getElem?_cons_zero] at hy0
      have hy1 := hd1.cell 0
      simp only [List.getElem?_toArray, List.getElem?_cons_zero] at hy1
      have hy2 := hd2.cell 0
      simp only [List.getElem?_toArray, List.getElem?_cons_zero] at hy2
      have hy3 := hd3.cell 3
      simp only [List.getElem?_toArray, List.getElem?_cons_zero, List.getElem?_cons_succ] at hy3
      have hz1 := hd1.frozen 0
      have hz2 := hd2.frozen 0
      have hz3 := hd3.frozen 3
      have hl0 := hd0.lt
      have hl1 := hd1.lt
      have hl2 := hd2.lt
      have hl3 := hd3.lt
      have hp2 := hM5.rdr
      have hp2 := hp2.cell 2
      simp only [List.getElem?_toArray, List.getElem?_cons_zero, List.getElem?_cons_succ] at hp2
      have hlp := hM5.rdr.lt
      have HM5 := Lib.hid hM5
      clear hM5
      go_wp2
      refine leaves_cons (f := 66) (args := #[.pointer (some ⟨w.heap.size, 0, none⟩), .pointer (some ⟨w.heap.size + 1, 0, none⟩), .pointer (some ⟨w.heap.size + 1 + 1, 0, none⟩)]) (by simp) (by simp [go_sem]) ?_
      refine (catch_i _ _ _ _).mono ?_
      rintro e u' w'' ⟨rfl, rfl, rfl⟩
      have hf : Frm (fun k => k = pd ∨ (w.heap.size ≤ k ∧ k < w3.heap.size) ∨ New w5 k) w5 ((w5.setCell ⟨w.heap.size + 1, 0, none⟩ (.slice A4 l.length c4)).setCell ⟨w.heap.size + 1 + 1, 0, none⟩ (.int .i64 0)) :=
        ((Frm.refl _ w5).setCell (p := ⟨w.heap.size + 1, 0, none⟩) (.inr (.inl ⟨by simp only; omega, hlw1⟩)) _).setCell (p := ⟨w.heap.size + 1 + 1, 0, none⟩) (.inr (.inl ⟨by simp only; omega, hlw2⟩)) _
      have hg : Frm (fun k => w.heap.size ≤ k) w5 ((w5.setCell ⟨w.heap.size + 1, 0, none⟩ (.slice A4 l.length c4)).setCell ⟨w.heap.size + 1 + 1, 0, none⟩ (.int .i64 0)) :=
        ((Frm.refl _ _).setCell (p := ⟨w.heap.size + 1, 0, none⟩) (by simp only; omega) _).setCell (p := ⟨w.heap.size + 1 + 1, 0, none⟩) (by simp only; omega) _
      have hb6 := HM5.out.dec.keep hg (by omega)
      obtain ⟨e1, e2, e3, e4⟩ := hd_end (mu2 := false) (bad2 := D.bad) HM5.out H.out.tab.low hp HF3.out hb6 hf
      rw [HO.out]
      show ∃ v : Value, _ ∧ _
      refine ⟨.tuple #[.slice A4 l.length c4, .int .i64 0], ?_, S2, _, e1, e2, e3, A4, c4, rfl, e4, fun k hk => (HM5.out.ofar k hk).1, by rw [HBAD.out]⟩
      simp [results, Try.f36, go_sem, hy1, hy2]
end Go.Proofs.Ytcebckkpablagaa.M
namespace Go.Proofs.Ytcebckkpablagaa.M
open Go.ChangeShapes Go.WideShapes Go.ChangeAt Go.RowKit

theorem hlimited_any (n : Int) (h0 : -9223372036854775808 ≤ n) (h1 : n ≤ 9223372036854775807) (w : World) :
    Calls Try.prog 65 #[.int .i64 n] w fun e w' => e = .returned (.int .i64 (lim n : Nat)) ∧ w' = w := by
  have hl : ((lim n : Nat) : Int) = min (max n 0) 4096 := by unfold lim; omega
  have HL := Lib.hid hl
  clear hl
  go_enter Try.func65, Try.ntmps65
  go_wp2
  all_goals go_ret
  all_goals refine ⟨ret_int ?_, rfl⟩
  all_goals have hq := HL.out
  all_goals rename_i hh
  all_goals first
    | (rw [if_neg (by omega)] at hh; omega)
    | (rw [if_pos (by omega)] at hh; omega)

set_option maxRecDepth 100000 in
set_option maxHeartbeats 1000000 in
theorem hdnew_any (n : Int) (h0 : -9223372036854775808 ≤ n) (h1 : n ≤ 9223372036854775807) (w : World) :
    Calls Try.prog 35 #[.int .i64 n] w fun e w' => ∃ (S : Nat → Prop) (p g : Nat), e = .returned (.pointer (some ⟨p, 0, none⟩)) ∧ HDeAt S w' p g ⟨⟨[], 0, lim n⟩, lim n, false, false⟩ ∧ Frm (New w) w w' ∧ (∀ k, S k → w.heap.size ≤ k) ∧ w.heap.size ≤ p := by
  have hlim := lim_le n
  have hc := fun w => hlimited_any n h0 h1 w
  generalize lim n = c at *
  have HC := Lib.hid hc
  clear hc
  go_enter Try.func35, Try.ntmps35
  go_wp2_with (first
    | (go_at_call 65; refine (HC.out _).mono ?_; rintro e w1 ⟨rfl, hw1⟩; rw [hw1]; clear hw1 w1)
    | (go_at_call 50; refine (tnew_any c (by omega) _).mono ?_; rintro e w2 ⟨S, g, a, b, rfl, hT, hF, hS⟩; have hT := Lib.hid hT; have hF := Lib.hid hF; have hS := Lib.hid hS))
  go_ret
  have hb := Blk.new w2 115 #[.pointer (some ⟨g, 0, none⟩), .int .i64 c, .bool false, .bool false]
  have hF3 := (Frm.refl (New w2) w2).alloc Up.new (Obj.cells #[Value.pointer (some ⟨g, 0, none⟩), .int .i64 c, .bool false, .bool false] 115)
  refine ⟨S, w2.heap.size, g, rfl, ⟨hb, ⟨none, 0, a, b, [], [], hT.out.fresh hF3⟩, fun c => ?_, hlim, hlim, ⟨Nat.le_refl _, Nat.zero_le _⟩⟩, hF.out.then_new Up.new hF3, hS.out, hF.out.size⟩
  have := hT.out.low _ c
  omega

theorem htable_any {S : Nat → Prop} {p g : Nat} {D : De} (w : World) (h : HDeAt S w p g D) :
    Calls Try.prog 44 #[.pointer (some ⟨p, 0, none⟩)] w fun e w' => e = .returned (.pointer (some ⟨g, 0, none⟩)) ∧ w' = w := by
  have hb := h.blk
  have hd0 := hb.cell 0
  simp only [List.getElem?_toArray, List.getElem?_cons_zero] at hd0
  have hp := hb.lt
  have HB := Lib.hid hb
  have H := Lib.hid h
  clear hb h
  go_enter Try.func44, Try.ntmps44
  go_wp2
  go_ret
  exact ⟨rfl, rfl⟩

/-- a new limit -/
def De.limit (D : De) (n : Int) : De := if lim n < D.t.cap then ⟨D.t.resize (lim n), lim n, true, D.bad⟩ else { D with max := lim n }

theorem HDeAt.setmax {S : Nat → Prop} {w : World} {p g : Nat} {D : De} (h : HDeAt S w p g D) (c : Nat) (hc : c ≤ 4096) : HDeAt S (w.setCell ⟨p, 1, none⟩ (.int .i64 c)) p g { D with max := c } := by
  have hF : Frm (fun k => k = p) w (w.setCell ⟨p, 1, none⟩ (.int .i64 c)) := (Frm.refl (fun k => k = p) w).setCell (p := ⟨p, 1, none⟩) rfl _
  have hb := h.blk.set_ 1 (.int .i64 c)
  exact { h with blk := by simpa using hb, tab := h.tab.keep hF (fun k hk e => h.out (by rw [← e]; exact hk)), max := hc }
theorem HDeAt.setmust {S : Nat → Prop} {w : World} {p g : Nat} {D : De} (h : HDeAt S w p g D) (m : Bool) : HDeAt S (w.setCell ⟨p, 2, none⟩ (.bool m)) p g { D with must := m } := by
  have hF : Frm (fun k => k = p) w (w.setCell ⟨p, 2, none⟩ (.bool m)) := (Frm.refl (fun k => k = p) w).setCell (p := ⟨p, 2, none⟩) rfl _
  have hb := h.blk.set_ 2 (.bool m)
  exact { h with blk := by simpa using hb, tab := h.tab.keep hF (fun k hk e => h.out (by rw [← e]; exact hk)) }
theorem HDeAt.resized {S : Nat → Prop} {w w' : World} {p g c : Nat} {D : De} (h : HDeAt S w p g D) (hT : TabS S w' g (D.t.resize c)) (f : Frm (Own S w) w w') (hc : c ≤ 4096) : HDeAt S w' p g { D with t := D.t.resize c } := by
  have hp := h.blk.lt
  exact { h with blk := h.blk.keep f (fun q => by rcases q with q | q; exact h.out q; omega), tab := hT, cap := hc, ok := h.ok.resize c }

set_option maxRecDepth 100000 in
set_option maxHeartbeats 1000000 in
theorem hlimit_any {S : Nat → Prop} {p g : Nat} {D : De} (n : Int) (h0 : -9223372036854775808 ≤ n) (h1 : n ≤ 9223372036854775807) (w : World) (h : HDeAt S w p g D) :
    Calls Try.prog 45 #[.pointer (some ⟨p, 0, none⟩), .int .i64 n] w fun e w' => e = .returned (.tuple #[]) ∧ HDeAt S w' p g (D.limit n) ∧ Frm (fun k => k = p ∨ Own S w k) w w' := by
  have hlim := lim_le n
  have hc := fun w => hlimited_any n h0 h1 w
  have HE : Hid (D.limit n = if lim n < D.t.cap then ⟨D.t.resize (lim n), lim n, true, D.bad⟩ else { D with max := lim n }) := rfl
  generalize lim n = c at *
  have hM1 := h.setmax c hlim
  have hF1 : Frm (fun k => k = p ∨ Own S w k) w (w.setCell ⟨p, 1, none⟩ (.int .i64 c)) := (Frm.refl _ w).setCell (p := ⟨p, 1, none⟩) (.inl rfl) _
  have hs1 : (w.setCell ⟨p, 1, none⟩ (.int .i64 c)).heap.size = w.heap.size := by simp
  have hb := h.blk
  have hd1 := hb.cell 1
  simp only [List.getElem?_toArray, List.getElem?_cons_zero, List.getElem?_cons_succ] at hd1
  have hz1 := hb.frozen 1
  have hp := hb.lt
  have HB := Lib.hid hb
  have H := Lib.hid h
  have HC := Lib.hid hc
  have HM1 := Lib.hid hM1
  have HF1 := Lib.hid hF1
  have HS1 := Lib.hid hs1
  clear hb h hc hM1 hF1 hs1
  go_enter Try.func45, Try.ntmps45
  go_upto_region 1 with (go_at_call 65; refine (HC.out _).mono ?_; rintro e w1 ⟨rfl, hw1⟩; rw [hw1]; clear hw1 w1)
  generalize w.setCell ⟨p, 1, none⟩ (.int .i64 c) = w1 at *
  clear hd1 hz1
  have hb := HM1.out.blk
  have hd0 := hb.cell 0
  have hd1 := hb.cell 1
  simp only [List.getElem?_toArray, List.getElem?_cons_zero, List.getElem?_cons_succ] at hd0 hd1
  have hp := hb.lt
  obtain ⟨A, cA, a, b, ew, en, hT⟩ := HM1.out.tab
  have hq : ∀ w', Frm (New w1) w1 w' → Calls Try.prog 29 #[.pointer (some ⟨g, 0, none⟩)] w' fun e w2 => e = .returned (.int .i64 D.t.cap) ∧ w2 = w' := fun w' f => tcap_any w' (hT.fresh f)
  have HB := Lib.hid hb
  have HT := Lib.hid hT
  have HQ := Lib.hid hq
  clear hb hT hq
  by_cases hlt : c < D.t.cap
  · have hgt : decide ((c : Int) < (D.t.cap : Int)) = true := decide_eq_true (by omega)
    have HLT := Lib.hid hlt
    clear hlt
    go_quiet ((go_at_call 29; refine Calls.quiet_of_same (HQ.out _ ?_); exact (Frm.refl _ _).drewN _))
    have hfn : Frm (New w1) w1 (w1.drewN nq) := (Frm.refl _ _).drewN _
    have hM2 := HM1.out.fresh hfn
    have hF2 : Frm (fun k => k = p ∨ Own S w k) w (w1.drewN nq) := HF1.out.trans (hfn.mono (fun k hk => .inr (.inr (by have := HS1.out; unfold New at hk; omega))))
    have hs2 : Hid ((w1.drewN nq).heap.size = w.heap.size) := HS1.out
    generalize w1.drewN nq = w2 at *
    clear hfn hd0 hd1 hp
    go_upto_region 2 with (fail)
    have hb := hM2.blk
    have hd0 := hb.cell 0
    have hd1 := hb.cell 1
    simp only [List.getElem?_toArray, List.getElem?_cons_zero, List.getElem?_cons_succ] at hd0 hd1
    have hp := hb.lt
    have HB := Lib.hid hb
    have HM2 := Lib.hid hM2
    have HF2 := Lib.hid hF2
    have HS2 := Lib.hid hs2
    clear hb hM2 hF2 hs2
    go_cut [] from 4 (fun w5 => ∃ w3, w5 = w3 ∧ Hid (TabS S w3 g (D.t.resize c)) ∧ Hid (Frm (Own S w2) w2 w3))
    case first =>
      go_region_held3 (fun w' => w'.cell? ⟨p, 0, none⟩ = some (.pointer (some ⟨g, 0, none⟩)) ∧ w'.cell? ⟨p, 1, none⟩ = some (.int .i64 c))
        (first
          | exact HS11.out
          | exact ⟨hd0, hd1⟩
          | go_keep)
        (first
          | (go_at_call 64
             refine (tresize_any c _ (HM2.out.tab.fresh (Frm.refl _ _).drew) (by omega)).mono ?_
             rintro e w5 ⟨⟨m, rfl⟩, hT5, hF5⟩
             have hF5' : Frm (Own S w2) w2 w5 := Frm.trans ((Frm.refl (Own S w2) w2).drew) hF5
             have HT5 := Lib.hid hT5
             have HF5 := Lib.hid hF5'
             have HS11 : Hid (w5.cell? ⟨p, 0, none⟩ = some (.pointer (some ⟨g, 0, none⟩)) ∧ w5.cell? ⟨p, 1, none⟩ = some (.int .i64 c)) := ⟨(HM2.out.resized hT5 hF5' hlim).blk.cell 0, (HM2.out.resized hT5 hF5' hlim).blk.cell 1⟩
             clear hT5 hF5 hF5')
          | fail)
      go_wp2
      go_meet
      exact ⟨_, rfl, HT5, HF5⟩
    case rest =>
      obtain ⟨w3, rfl, hT5, hF5⟩ := hcut
      rename World => w3
      have hM3 := HM2.out.resized hT5.out hF5.out hlim
      have hb := hM3.blk
      have hd2 := hb.cell 2
      simp only [List.getElem?_toArray, List.getElem?_cons_zero, List.getElem?_cons_succ] at hd2
      have hz2 := hb.frozen 2
      have hp := hb.lt
      have hM4 := hM3.setmust true
      have HB := Lib.hid hb
      have HM3 := Lib.hid hM3
      have HM4 := Lib.hid hM4
      clear hb hM3 hM4
      go_wp2
      go_end0
      refine ⟨rfl, ?_, ?_⟩
      · rw [HE.out, if_pos HLT.out]
        exact HM4.out
      · refine (HF2.out.trans (hF5.out.mono (fun k hk => ?_))).setCell (p := ⟨p, 2, none⟩) (.inl rfl) _
        rcases hk with hk | hk
        · exact .inr (.inl hk)
        · exact .inr (.inr (by have := HS2.out.out; omega))
  · have hgt : decide ((c : Int) < (D.t.cap : Int)) = false := decide_eq_false (by omega)
    have HLT := Lib.hid hlt
    clear hlt
    go_quiet ((go_at_call 29; refine Calls.quiet_of_same (HQ.out _ ?_); exact (Frm.refl _ _).drewN _))
    have hfn : Frm (New w1) w1 (w1.drewN nq) := (Frm.refl _ _).drewN _
    have hM2 := HM1.out.fresh hfn
    have hF2 : Frm (fun k => k = p ∨ Own S w k) w (w1.drewN nq) := HF1.out.trans (hfn.mono (fun k hk => .inr (.inr (by have := HS1.out; unfold New at hk; omega))))
    have HM2 := Lib.hid hM2
    have HF2 := Lib.hid hF2
    have HFN := Lib.hid hfn
    clear hM2 hF2 hfn
    go_wp2
    go_end0
    refine ⟨rfl, ?_, HF2.out⟩
    rw [HE.out, if_neg HLT.out]
    exact HM2.out
end Go.Proofs.Ytcebckkpablagaa.M
