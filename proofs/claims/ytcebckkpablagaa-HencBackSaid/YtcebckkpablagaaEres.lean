/- dyn.Table.Resize, henc.Encoder.Resize. No condition but sizes. -/
import Derived.Test.YtcebckkpablagaaEnce
namespace Go.Proofs.Ytcebckkpablagaa.M
open Go.ChangeShapes Go.WideShapes Go.ChangeAt Go.RowKit

set_option maxRecDepth 100000 in
set_option maxHeartbeats 1000000 in
theorem tresize_any {S : Nat → Prop} {g : Nat} {T : Tb} (c : Nat) (w : World) (h : TabS S w g T) (hc : c ≤ 1152921504606846976) :
    Calls Try.prog 64 #[.pointer (some ⟨g, 0, none⟩), .int .i64 c] w fun e w' => (∃ m : Int, e = .returned (.int .i64 m)) ∧ TabS S w' g (T.resize c) ∧ Frm (Own S w) w w' := by
  obtain ⟨A, cA, a, b, ew, en, h⟩ := h
  obtain ⟨l, n, cap⟩ := T
  simp only at h
  have hg : g < w.heap.size := h.blk.lt
  have hd2 := h.blk.cell 2
  have hz2 := h.blk.frozen 2
  simp only [List.getElem?_toArray, List.getElem?_cons_zero, List.getElem?_cons_succ] at hd2
  have hb := h.blk.set_ 2 (.int .i64 c)
  have hF : Frm (fun k => k = g) w (w.setCell ⟨g, 2, none⟩ (.int .i64 c)) := (Frm.refl (fun k => k = g) w).setCell (p := ⟨g, 2, none⟩) rfl _
  have hT : TabAt S (w.setCell ⟨g, 2, none⟩ (.int .i64 c)) g l n c A cA a b ew en :=
    { h with
      blk := by simpa using hb
      mw := h.mw.keep hF (fun e => h.ga e.symm)
      mn := h.mn.keep hF (fun e => h.gb e.symm)
      app := h.app.keep hF (fun k hk => (h.gA k hk).1)
      low := fun k hk => Nat.lt_of_lt_of_le (h.low k hk) hF.size
      cb := hc }
  have HT := Lib.hid hT
  have HF : Hid (Frm (Own S w) w (w.setCell ⟨g, 2, none⟩ (.int .i64 c))) := hF.mono (fun k hk => .inl (by rw [hk]; exact h.sg))
  have HSZ : Hid ((w.setCell ⟨g, 2, none⟩ (.int .i64 c)).heap.size = w.heap.size) := by show _ = _; simp
  have hmx := evict_length 0 c l
  have hln := h.le
  have hnb := h.nb
  clear h hb hF hT
  have hfit : Calls Try.prog 83 #[.pointer (some ⟨g, 0, none⟩), .int .i64 0] (w.setCell ⟨g, 2, none⟩ (.int .i64 c)) fun e w' => e = .returned (.int .i64 ((l.length - (evict 0 c l).length : Nat) : Int)) ∧
      ∃ A' c' ew' en', TabAt S w' g (evict 0 c l) n c A' c' a b ew' en' ∧ Frm (Own S (w.setCell ⟨g, 2, none⟩ (.int .i64 c))) (w.setCell ⟨g, 2, none⟩ (.int .i64 c)) w' := fit_any 0 _ HT.out (by omega)
  generalize hm : l.length - (evict 0 c l).length = m at *
  have HFIT := Lib.hid hfit
  have hc0 : ¬ ((c : Int) < 0) := by omega
  have hc1 : (0 : Int) ≤ (c : Int) := by omega
  clear hfit hm hmx
  go_enter Try.func64, Try.ntmps64
  go_upto_region 2 with (fail)
  generalize w.setCell ⟨g, 2, none⟩ (.int .i64 c) = w1 at *
  go_wp2_with (fail)
  refine HFIT.out.mono ?_
  rintro e w3 ⟨rfl, A1, c1, ew1, en1, hT3, hF3⟩
  have HT3 := Lib.hid hT3
  have HF3 := Lib.hid hF3
  clear hT3 hF3 HFIT HT hd2 hz2 hc0 hln hnb
  go_wp2
  go_ret
  refine ⟨⟨_, rfl⟩, ⟨A1, c1, a, b, ew1, en1, HT3.out⟩, HF.out.trans (HF3.out.mono (fun k hk => ?_))⟩
  rcases hk with hk | hk
  · exact .inl hk
  · exact .inr (by rw [HSZ.out] at hk; exact hk)

theorem eres_end {S : Nat → Prop} {w w3 w4 : World} {p g c ls : Nat} {E : En} {ch : Bool} (h : EnAt S w p g E ch ls) (ls' : Nat) (hls : ls' ≤ 4096) (hc : c ≤ 4096) (hb : Blk w3 p 97 #[.pointer (some ⟨g, 0, none⟩), .bool true, .int .i64 ls'])
    (hF3 : Frm (fun k => k = p) w w3) (hs3 : w3.heap.size = w.heap.size) (hT4 : TabS S w4 g (E.t.resize c)) (hF4 : Frm (Own S w3) w3 w4) :
    EnAt S w4 p g ⟨E.t.resize c, some ls'⟩ true ls' ∧ Frm (fun k => k = p ∨ Own S w k) w w4 := by
  refine ⟨⟨hb.keep hF4 (fun c => ?_), hT4, h.out, h.ok.resize c, hc, rfl, hls⟩, (hF3.mono (fun k hk => .inl hk)).trans (hF4.mono (fun k hk => ?_))⟩
  · rcases c with c | c
    · exact h.out c
    · have := hb.lt; omega
  · rcases hk with hk | hk
    · exact .inr (.inl hk)
    · exact .inr (.inr (by omega))

set_option maxRecDepth 100000 in
set_option maxHeartbeats 1000000 in
theorem eresize_any {S : Nat → Prop} {p g ls : Nat} {E : En} {ch : Bool} (n : Int) (h0 : -9223372036854775808 ≤ n) (h1 : n ≤ 9223372036854775807) (w : World) (h : EnAt S w p g E ch ls) :
    Calls Try.prog 32 #[.pointer (some ⟨p, 0, none⟩), .int .i64 n] w fun e w' => e = .returned (.tuple #[]) ∧ ∃ ls', EnAt S w' p g (E.resize n) true ls' ∧ Frm (fun k => k = p ∨ Own S w k) w w' := by
  have hlim := lim_le n
  have hc := fun w => limited_any n h0 h1 w
  have hE : E.resize n = ⟨E.t.resize (lim n), some (match E.least with | none => lim n | some m => min m (lim n))⟩ := rfl
  generalize lim n = c at *
  have hb := h.blk
  have hd0 := hb.cell 0
  have hd1 := hb.cell 1
  have hd2 := hb.cell 2
  simp only [List.getElem?_toArray, List.getElem?_cons_zero, List.getElem?_cons_succ] at hd0 hd1 hd2
  have hz1 := hb.frozen 1
  have hz2 := hb.frozen 2
  have hp : p < w.heap.size := hb.lt
  have hls := h.lle
  rw [h.lst] at hE
  have H := Lib.hid h
  have HB := Lib.hid hb
  have HC := Lib.hid hc
  clear h hb hc
  cases ch with
  | false =>
    replace hE : E.resize n = ⟨E.t.resize c, some c⟩ := hE
    have HE := Lib.hid hE
    clear hE
    go_enter Try.func32, Try.ntmps32
    go_upto_region 4 with (go_at_call 51; refine (HC.out _).mono ?_; rintro e w1 ⟨rfl, rfl⟩)
    have hb3 := ((HB.out.set_ 1 (.bool true)).set_ 2 (.int .i64 c)).set_ 2 (.int .i64 c)
    have hF3 : Frm (fun k => k = p) w1 (((w1.setCell ⟨p, 1, none⟩ (.bool true)).setCell ⟨p, 2, none⟩ (.int .i64 c)).setCell ⟨p, 2, none⟩ (.int .i64 c)) := ((((Frm.refl (fun k => k = p) w1).setCell (p := ⟨p, 1, none⟩) rfl _).setCell (p := ⟨p, 2, none⟩) rfl _).setCell (p := ⟨p, 2, none⟩) rfl _)
    have hT3 := H.out.tab.keep hF3 (fun k hk e => H.out.out (by rw [← e]; exact hk))
    have hs3 : (((w1.setCell ⟨p, 1, none⟩ (.bool true)).setCell ⟨p, 2, none⟩ (.int .i64 c)).setCell ⟨p, 2, none⟩ (.int .i64 c)).heap.size = w1.heap.size := by simp
    generalize (((w1.setCell ⟨p, 1, none⟩ (.bool true)).setCell ⟨p, 2, none⟩ (.int .i64 c)).setCell ⟨p, 2, none⟩ (.int .i64 c)) = w3 at *
    have hb3' : Blk w3 p 97 #[.pointer (some ⟨g, 0, none⟩), .bool true, .int .i64 c] := by simpa using hb3
    have HF3 := Lib.hid hF3
    have HT3 := Lib.hid hT3
    have HS3 := Lib.hid hs3
    clear hF3 hT3 hs3
    clear hd0 hd1 hd2 hz1 hz2 hp hb3
    have hd0 := hb3'.cell 0
    simp only [List.getElem?_toArray, List.getElem?_cons_zero] at hd0
    have hp : p < w3.heap.size := hb3'.lt
    have HB3 := Lib.hid hb3'
    clear hb3'
    go_wp2_with (fail)
    refine (tresize_any c w3 HT3.out (by omega)).mono ?_
    rintro e w4 ⟨⟨m, rfl⟩, hT4, hF4⟩
    have HT4 := Lib.hid hT4
    have HF4 := Lib.hid hF4
    clear hT4 hF4
    clear hd0
    go_wp2
    go_end0
    rw [HE.out]
    exact ⟨rfl, c, eres_end H.out c hlim hlim HB3.out HF3.out HS3.out HT4.out HF4.out⟩
  | true =>
    replace hE : E.resize n = ⟨E.t.resize c, some (min ls c)⟩ := hE
    have HE := Lib.hid hE
    clear hE
    by_cases hq : c < ls
    · rw [show min ls c = c from by omega] at HE
      have hq1 : (c : Int) < (ls : Int) := by omega
      go_enter Try.func32, Try.ntmps32
      go_upto_region 4 with (go_at_call 51; refine (HC.out _).mono ?_; rintro e w1 ⟨rfl, rfl⟩)
      have hb3 := HB.out.set_ 2 (.int .i64 c)
      have hF3 : Frm (fun k => k = p) w1 (w1.setCell ⟨p, 2, none⟩ (.int .i64 c)) := (Frm.refl (fun k => k = p) w1).setCell (p := ⟨p, 2, none⟩) rfl _
      have hT3 := H.out.tab.keep hF3 (fun k hk e => H.out.out (by rw [← e]; exact hk))
      have hs3 : (w1.setCell ⟨p, 2, none⟩ (.int .i64 c)).heap.size = w1.heap.size := by simp
      generalize w1.setCell ⟨p, 2, none⟩ (.int .i64 c) = w3 at *
      have hb3' : Blk w3 p 97 #[.pointer (some ⟨g, 0, none⟩), .bool true, .int .i64 c] := by simpa using hb3
      have HF3 := Lib.hid hF3
      have HT3 := Lib.hid hT3
      have HS3 := Lib.hid hs3
      clear hF3 hT3 hs3
      clear hd0 hd1 hd2 hz1 hz2 hp hb3
      have hd0 := hb3'.cell 0
      simp only [List.getElem?_toArray, List.getElem?_cons_zero] at hd0
      have hp : p < w3.heap.size := hb3'.lt
      have HB3 := Lib.hid hb3'
      clear hb3'
      go_wp2_with (fail)
      refine (tresize_any c w3 HT3.out (by omega)).mono ?_
      rintro e w4 ⟨⟨m, rfl⟩, hT4, hF4⟩
      have HT4 := Lib.hid hT4
      have HF4 := Lib.hid hF4
      clear hT4 hF4
      clear hd0
      go_wp2
      go_end0
      rw [HE.out]
      exact ⟨rfl, c, eres_end H.out c hlim hlim HB3.out HF3.out HS3.out HT4.out HF4.out⟩
    · rw [show min ls c = ls from by omega] at HE
      have hq1 : ¬ ((c : Int) < (ls : Int)) := by omega
      have hq2 : (ls : Int) ≤ (c : Int) := by omega
      go_enter Try.func32, Try.ntmps32
      go_upto_region 4 with (go_at_call 51; refine (HC.out _).mono ?_; rintro e w1 ⟨rfl, rfl⟩)
      have hb3 := HB.out.set_ 2 (.int .i64 ls)
      have hF3 : Frm (fun k => k = p) w1 (w1.setCell ⟨p, 2, none⟩ (.int .i64 ls)) := (Frm.refl (fun k => k = p) w1).setCell (p := ⟨p, 2, none⟩) rfl _
      have hT3 := H.out.tab.keep hF3 (fun k hk e => H.out.out (by rw [← e]; exact hk))
      have hs3 : (w1.setCell ⟨p, 2, none⟩ (.int .i64 ls)).heap.size = w1.heap.size := by simp
      generalize w1.setCell ⟨p, 2, none⟩ (.int .i64 ls) = w3 at *
      have hb3' : Blk w3 p 97 #[.pointer (some ⟨g, 0, none⟩), .bool true, .int .i64 ls] := by simpa using hb3
      have HF3 := Lib.hid hF3
      have HT3 := Lib.hid hT3
      have HS3 := Lib.hid hs3
      clear hF3 hT3 hs3
      clear hd0 hd1 hd2 hz1 hz2 hp hb3
      have hd0 := hb3'.cell 0
      simp only [List.getElem?_toArray, List.getElem?_cons_zero] at hd0
      have hp : p < w3.heap.size := hb3'.lt
      have HB3 := Lib.hid hb3'
      clear hb3'
      go_wp2_with (fail)
      refine (tresize_any c w3 HT3.out (by omega)).mono ?_
      rintro e w4 ⟨⟨m, rfl⟩, hT4, hF4⟩
      have HT4 := Lib.hid hT4
      have HF4 := Lib.hid hF4
      clear hT4 hF4
      clear hd0
      go_wp2
      go_end0
      rw [HE.out]
      exact ⟨rfl, ls, eres_end H.out ls hls hlim HB3.out HF3.out HS3.out HT4.out HF4.out⟩
end Go.Proofs.Ytcebckkpablagaa.M
