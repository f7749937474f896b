/- henc: New, Table, Resize, Encode. Sizes below 2^36. -/
import Derived.Test.YtcebckkpablagaaEncd
namespace Go.Proofs.Ytcebckkpablagaa.M
open Go.ChangeShapes Go.WideShapes Go.ChangeAt Go.RowKit

theorem oneB_le (T : Tb) (f : Fld) : (oneB T f).length ≤ 5 * fsize f := by
  have h0 : fsize f = f.1.length + f.2.length + 32 := rfl
  have h1 := strc_le 128 0 7 f.1
  have h2 := strc_le 128 0 7 f.2
  unfold oneB
  generalize placeS T f = q
  obtain ⟨i, whole⟩ := q
  have p1 := pfx_length 128 7 i
  have p2 := pfx_length 16 4 i
  have p3 := pfx_length 0 4 i
  have p4 := pfx_length 64 6 i
  simp only
  split
  · omega
  · simp only [List.length_append]
    split <;> split <;> (try split) <;> simp <;> omega
theorem linesB_snoc (f : Fld) : ∀ (T : Tb) (l : List Fld), linesB T (l ++ [f]) = linesB T l ++ oneB (linesT T l) f
  | T, [] => by simp [linesB, linesT]
  | T, x :: l => by simp [linesB, linesT, linesB_snoc f (oneT T x) l]
theorem linesT_snoc (f : Fld) : ∀ (T : Tb) (l : List Fld), linesT T (l ++ [f]) = oneT (linesT T l) f
  | T, [] => by simp [linesT]
  | T, x :: l => by simp [linesT, linesT_snoc f (oneT T x) l]
theorem linesB_le : ∀ (T : Tb) (l : List Fld), (linesB T l).length ≤ 5 * fsizes l
  | T, [] => by simp [linesB, fsizes]
  | T, x :: l => by
    have := linesB_le (oneT T x) l
    have := oneB_le T x
    rw [fsizes_cons]
    simp only [linesB, List.length_append]
    omega
theorem oneT_n (T : Tb) (f : Fld) : (oneT T f).n ≤ T.n + 1 := by
  unfold oneT Tb.add
  split
  · omega
  · split
    · omega
    · split
      · omega
      · split <;> simp
theorem linesT_n : ∀ (T : Tb) (l : List Fld), (linesT T l).n ≤ T.n + l.length
  | T, [] => by simp [linesT]
  | T, x :: l => by
    have := linesT_n (oneT T x) l
    have := oneT_n T x
    simp only [linesT, List.length_cons]
    omega
theorem sizeB_le (E : En) : E.sizeB.length ≤ 24 := by
  unfold En.sizeB
  cases E.least with
  | none => simp
  | some m =>
    have h1 := pfx_length 32 5 m
    have h2 := pfx_length 32 5 E.t.cap
    simp only
    split <;> simp <;> omega

set_option maxRecDepth 100000 in
theorem table_any {S : Nat → Prop} {p g ls : Nat} {E : En} {ch : Bool} (w : World) (h : EnAt S w p g E ch ls) :
    Calls Try.prog 22 #[.pointer (some ⟨p, 0, none⟩)] w fun e w' => e = .returned (.pointer (some ⟨g, 0, none⟩)) ∧ w' = w := by
  have hd := h.blk.cell 0
  have hl : p < w.heap.size := h.blk.lt
  simp only [List.getElem?_toArray, List.getElem?_cons_zero] at hd
  clear h
  go_enter Try.func22, Try.ntmps22
  go_wp2
  go_ret
  exact ⟨rfl, rfl⟩

set_option maxRecDepth 100000 in
set_option maxHeartbeats 1000000 in
theorem enew_any (n : Int) (h0 : -9223372036854775808 ≤ n) (h1 : n ≤ 9223372036854775807) (w : World) :
    Calls Try.prog 20 #[.int .i64 n] w fun e w' => ∃ (S : Nat → Prop) (p g : Nat), e = .returned (.pointer (some ⟨p, 0, none⟩)) ∧ EnAt S w' p g (En.new n) false 0 ∧ Frm (New w) w w' ∧ (∀ k, S k → w.heap.size ≤ k) ∧ w.heap.size ≤ p := by
  have hlim := lim_le n
  have hc := fun w => limited_any n h0 h1 w
  have HE : Hid (En.new n = ⟨⟨[], 0, lim n⟩, none⟩) := rfl
  generalize lim n = c at *
  have HC := Lib.hid hc
  clear hc
  go_enter Try.func20, Try.ntmps20
  go_wp2_with (first
    | (go_at_call 51; refine (HC.out _).mono ?_; rintro e w1 ⟨rfl, rfl⟩)
    | (go_at_call 50; refine (tnew_any c (by omega) _).mono ?_; rintro e w2 ⟨S, g, a, b, rfl, hT, hF, hS⟩; have hT := Lib.hid hT; have hF := Lib.hid hF; have hS := Lib.hid hS))
  go_ret
  have hb := Blk.new w2 97 #[.pointer (some ⟨g, 0, none⟩), .bool false, .int .i64 0]
  have hF3 := (Frm.refl (New w2) w2).alloc Up.new (Obj.cells #[Value.pointer (some ⟨g, 0, none⟩), .bool false, .int .i64 0] 97)
  refine ⟨S, w2.heap.size, g, rfl, ?_, hF.out.then_new Up.new hF3, hS.out, hF.out.size⟩
  rw [HE.out]
  refine ⟨hb, ⟨none, 0, a, b, [], [], hT.out.fresh hF3⟩, fun c => ?_, ⟨Nat.le_refl _, Nat.zero_le _⟩, hlim, rfl, Nat.zero_le _⟩
  have := hT.out.low _ c
  omega

theorem fsize_get (l : List Fld) (k : Nat) (h : k < l.length) : fsize l[k] ≤ fsizes l := by
  have h1 := fsizes_take l k h
  have h2 := fsizes_le l (k + 1)
  omega

/-- Encode's loop: k fields are written -/
structure EncL (w : World) (S : Nat → Prop) (p g : Nat) (E : En) (ls : Nat) (fs : List Fld) (k : Nat) (S' : Nat → Prop) (A : Option Addr) (c : Nat) (l : Bytes) (wr : World) : Prop where
  eq : l = E.sizeB ++ linesB E.t (fs.take k)
  app : App (New w) wr 5 1 A l.length c (bvs l)
  far : ∀ k, blk A = some k → ¬ S' k
  en : EnAt S' wr p g ⟨linesT E.t (fs.take k), none⟩ false ls
  frm : Frm (fun k => k = p ∨ Own S w k) w wr
  sub : ∀ k, S' k → Own S w k

set_option maxRecDepth 100000 in
set_option maxHeartbeats 1000000 in
theorem encB_any0 {S : Nat → Prop} {p g ls : Nat} {E : En} {ch : Bool} (fs : List Fld) (A0 : Option Addr) (c0 : Nat) (w : World) (h : EnAt S w p g E ch ls) (hR : Rd w A0 (fvs fs))
    (hfar : fs ≠ [] → ∀ k, blk A0 = some k → k ≠ p ∧ ¬ S k) (hf : fsizes fs ≤ 68719476736) (hn : E.t.n + fs.length ≤ 1152921504606846976) :
    Calls Try.prog 21 #[.pointer (some ⟨p, 0, none⟩), .slice A0 fs.length c0] w fun e w' =>
      ∃ S' A c, e = .returned (.slice A (E.encB fs).length c) ∧ App (New w) w' 5 1 A (E.encB fs).length c (bvs (E.encB fs)) ∧ (∀ k, blk A = some k → ¬ S' k) ∧ EnAt S' w' p g (E.enc fs) false ls ∧
        Frm (fun k => k = p ∨ Own S w k) w w' ∧ ∀ k, S' k → Own S w k := by
  have hsb := sizeB_le E
  have hlen := len_fsizes fs
  have H := Lib.hid h
  have HR := Lib.hid hR
  have HF := Lib.hid hfar
  clear h hR hfar
  go_enter Try.func21, Try.ntmps21
  go_wp2_with (first
    | (go_at_call 52
       refine (size0_any _ H.out).mono ?_
       rintro e w1 ⟨A1, c1, rfl, hA1, hE1, hF1⟩
       have HL : Hid (EncL w S p g E ls fs 0 S A1 c1 E.sizeB w1) := ⟨by simp [linesB], hA1, fun k hk c => by have h1 := H.out.tab.low k c; have h2 := hA1.inM k hk; unfold New at h2; omega, by simpa [linesT] using hE1,
         hF1.mono (fun k hk => by rcases hk with hk | hk; exact .inl hk; exact .inr (.inr hk)), fun k hk => .inl hk⟩
       clear hA1 hE1 hF1
       generalize hl0 : E.sizeB = l0 at *
       have HL0 := Lib.hid hl0
       clear hl0))
  go_loopw [5, 12] (fun b i wr => ∃ (k : Nat) (S' : Nat → Prop) (A' : Option Addr) (c' : Nat) (l : Bytes), k ≤ fs.length ∧ i = .int .i64 k ∧ b = .slice A' l.length c' ∧ Hid (EncL w S p g E ls fs k S' A' c' l wr)) (fun _ i _ => fs.length - (intOf i).toNat)
  case atStart => exact ⟨0, S, A1, c1, l0, Nat.zero_le _, rfl, rfl, HL⟩
  case round =>
    obtain ⟨k, S', A', c', l, hk, rfl, rfl, hL⟩ := hrel
    clear HL
    by_cases hlt : k < fs.length
    · have hRd : Rd wr A0 (fvs fs) := HR.out.keep hL.out.frm (fun j hj c => by
        have hj2 := HF.out (fun e => by rw [e] at hlt; simp at hlt) j hj
        rcases c with c | c | c
        · exact hj2.1 c
        · exact hj2.2 c
        · obtain ⟨g0, off, e0, h0⟩ := HR.out.lt (by intro e0; have := congrArg List.length e0; rw [fvs_length] at this; simp at this; omega)
          rw [e0] at hj
          have hj3 : g0 = j := by simpa using hj
          omega)
      obtain ⟨gF, off, rfl, hx⟩ := hRd.at_ (k := k * 2) (by rw [fvs_length]; omega)
      clear hx
      obtain ⟨hc1, hc2⟩ := fld_cells hRd k hlt
      have hgF : gF < wr.heap.size := World.block_lt_of_cell? _ _ hc1
      have hfk := fsize_get fs k hlt
      have hnk := linesT_n E.t (fs.take k)
      have hbk := linesB_le E.t (fs.take k)
      have hsk := fsizes_le fs k
      have htl : (fs.take k).length = k := by simp; omega
      have hlk : l.length ≤ 343597383740 := by rw [hL.out.eq, List.length_append, HL0.out]; omega
      have hnx : Hid (l ++ oneB (linesT E.t (fs.take k)) fs[k] = E.sizeB ++ linesB E.t (fs.take (k + 1))) := by
        show _ = _
        rw [List.take_succ_eq_append_getElem hlt, linesB_snoc, hL.out.eq, List.append_assoc]
      have hnt : Hid (oneT (linesT E.t (fs.take k)) fs[k] = linesT E.t (fs.take (k + 1))) := by
        show _ = _
        rw [List.take_succ_eq_append_getElem hlt, linesT_snoc]
      generalize fs[k] = f at *
      obtain ⟨f1, f2⟩ := f
      simp only [str] at hc1 hc2
      have HNK : Hid ((linesT E.t (fs.take k)).n < 1152921504606846976) := by show _ < _; omega
      clear hRd hnk hbk hsk htl
      go_upto_region 5 with (fail)
      have HB : Blk (wr.alloc (Obj.cells #[Value.string { data := List.toArray f1 }, Value.string { data := List.toArray f2 }] 30)) wr.heap.size 30 #[Value.string { data := List.toArray f1 }, Value.string { data := List.toArray f2 }] := Blk.new wr _ _
      have hF2 : Frm (New wr) wr (wr.alloc (Obj.cells #[Value.string { data := List.toArray f1 }, Value.string { data := List.toArray f2 }] 30)) := (Frm.refl _ _).alloc Up.new _
      generalize wr.alloc (Obj.cells #[Value.string { data := List.toArray f1 }, Value.string { data := List.toArray f2 }] 30) = w2 at *
      generalize hb : wr.heap.size = b at *
      have hx1 := HB.cell 0
      have hx2 := HB.cell 1
      have hb1 : b < w2.heap.size := HB.lt
      simp only [List.getElem?_toArray, List.getElem?_cons_zero, List.getElem?_cons_succ] at hx1 hx2
      have HB2 := Lib.hid hb
      have HF2 := Lib.hid hF2
      have HE2 := Lib.hid (hL.out.en.fresh hF2)
      have HA2 := Lib.hid (hL.out.app.rd.fresh hF2)
      clear hc1 hc2 hgF HB hb hF2
      go_wp2_with (first
        | (go_at_call 53
           refine (one0_any l A' c' (f1, f2) _ HE2.out HA2.out (by omega) (by omega) HNK.out).mono ?_
           rintro e w3 ⟨S3, A3, c3, rfl, hA3, hfar3, hE3, hF3, hS3⟩
           have HL3 : Hid (EncL w S p g E ls fs (k + 1) S3 A3 c3 (l ++ oneB (linesT E.t (fs.take k)) (f1, f2)) w3) := by
             have hs1 := hL.out.frm.size
             have hs2 := HF2.out.size
             refine ⟨hnx.out, hA3.mono (fun j hj => Nat.le_trans (Nat.le_trans hs1 hs2) hj), hfar3, ?_, (hL.out.frm.trans (HF2.out.mono (fun j hj => .inr (.inr (Nat.le_trans hs1 hj))))).trans (hF3.mono (fun j hj => ?_)), fun j hj => ?_⟩
             · rw [hnt.out] at hE3; exact hE3
             · rcases hj with hj | hj
               · exact .inr (hL.out.sub j hj)
               · exact .inr (.inr (Nat.le_trans (Nat.le_trans hs1 hs2) hj))
             · rcases hS3 j hj with c | c
               · exact hL.out.sub j c
               · exact .inr (Nat.le_trans (Nat.le_trans hs1 hs2) c)
           clear hA3 hfar3 hE3 hF3 hS3 hx1 hx2 hb1 HE2 HA2 hnx
           generalize l ++ oneB (linesT E.t (fs.take k)) (f1, f2) = l3 at *))
      go_roundw
      case rel => exact ⟨k + 1, S3, A3, c3, l3, by omega, by go_num, rfl, HL3⟩
      case measure => simp [intOf]; omega
    · obtain rfl : k = fs.length := by omega
      have heq : Hid (E.encB fs = l) := by show _ = _; rw [hL.out.eq, List.take_length]; rfl
      have hen : Hid (EnAt S' wr p g (E.enc fs) false ls) := by have := hL.out.en; rw [List.take_length] at this; exact this
      go_wp2
      go_ret
      rw [heq.out]
      exact ⟨S', A', c', rfl, hL.out.app, hL.out.far, hen.out, hL.out.frm, hL.out.sub⟩
theorem encB_any {S : Nat → Prop} {p g ls : Nat} {E : En} {ch : Bool} (fs : List Fld) (A0 : Option Addr) (c0 : Nat) (w : World) (h : EnAt S w p g E ch ls) (hR : Rd w A0 (fvs fs))
    (hfar : ∀ k, blk A0 = some k → k ≠ p ∧ ¬ S k) (hf : fsizes fs ≤ 68719476736) (hn : E.t.n + fs.length ≤ 1152921504606846976) :
    Calls Try.prog 21 #[.pointer (some ⟨p, 0, none⟩), .slice A0 fs.length c0] w fun e w' =>
      ∃ S' A c, e = .returned (.slice A (E.encB fs).length c) ∧ App (New w) w' 5 1 A (E.encB fs).length c (bvs (E.encB fs)) ∧ (∀ k, blk A = some k → ¬ S' k) ∧ EnAt S' w' p g (E.enc fs) false ls ∧
        Frm (fun k => k = p ∨ Own S w k) w w' ∧ ∀ k, S' k → Own S w k :=
  encB_any0 fs A0 c0 w h hR (fun _ => hfar) hf hn
end Go.Proofs.Ytcebckkpablagaa.M
