/- The reference's Encoder in memory: NewEncoder, Resize. No condition but sizes. What a round of a loop that appends may write. No condition. -/
import Derived.Test.YtcebckkpablagaaRtab
import Derived.Test.YtcebckkpablagaaEnce
namespace Go.Proofs.Ytcebckkpablagaa.M
open Go.ChangeShapes Go.WideShapes Go.ChangeAt Go.RowKit

/-- the reference's encoder at block p: its table at g; the cell Least -/
structure REnAt (S : Nat → Prop) (w : World) (p g : Nat) (E : En) (ls : Int) : Prop where
  blk : Blk w p 54 #[.pointer (some ⟨g, 0, none⟩), .int .i64 ls]
  tab : RTabS S w g E.t
  out : ¬ S p
  ok : E.t.Ok
  cap : E.t.cap ≤ 4096
  lst : ls = match E.least with | none => -1 | some m => (m : Int)
  lle : ∀ m, E.least = some m → m ≤ 4096
section
variable {S M : Nat → Prop} {w w' : World} {p g : Nat} {ls : Int} {E : En}
theorem REnAt.keep (h : REnAt S w p g E ls) (f : Frm M w w') (hM : ∀ k, S k → ¬ M k) (hp : ¬ M p) : REnAt S w' p g E ls :=
  { h with blk := h.blk.keep f hp, tab := h.tab.keep f hM }
theorem REnAt.fresh (h : REnAt S w p g E ls) (f : Frm (New w) w w') : REnAt S w' p g E ls :=
  { h with blk := h.blk.fresh f, tab := h.tab.fresh f }
end

set_option maxRecDepth 100000 in
set_option maxHeartbeats 1000000 in
theorem renew_any (n : Int) (h0 : -9223372036854775808 ≤ n) (h1 : n ≤ 9223372036854775807) (w : World) :
    Calls Try.prog 25 #[.int .i64 n] w fun e w' => ∃ (S : Nat → Prop) (p g : Nat), e = .returned (.pointer (some ⟨p, 0, none⟩)) ∧ REnAt S w' p g (En.new n) (-1) ∧ Frm (New w) w w' ∧ (∀ k, S k → w.heap.size ≤ k) ∧ w.heap.size ≤ p := by
  have hlim := lim_le n
  have hc := fun w => clamp_any n h0 h1 w
  have HE : Hid (En.new n = ⟨⟨[], 0, lim n⟩, none⟩) := rfl
  generalize lim n = c at *
  have HC := Lib.hid hc
  clear hc
  go_enter Try.func25, Try.ntmps25
  go_wp2_with (first
    | (go_at_call 55; refine (HC.out _).mono ?_; rintro e w1 ⟨rfl, rfl⟩)
    | (go_at_call 54
       refine (rtnew_any c (by omega) _).mono ?_
       rintro e w2 ⟨S, g, rfl, hT, hF, hS⟩
       have HT := Lib.hid hT
       have HF := Lib.hid hF
       have HS := Lib.hid hS
       clear hT hF hS))
  go_ret
  have hF3 : Frm (New w2) w2 (w2.alloc (Obj.cells #[.pointer (some ⟨g, 0, none⟩), .int .i64 (-1)] 54)) := (Frm.refl _ _).alloc Up.new _
  have hb := Blk.new w2 54 #[.pointer (some ⟨g, 0, none⟩), .int .i64 (-1)]
  refine ⟨S, w2.heap.size, g, rfl, ?_, HF.out.then_new Up.new hF3, HS.out, HF.out.size⟩
  rw [HE.out]
  refine ⟨hb, ⟨none, 0, HT.out.fresh hF3⟩, fun c => ?_, ⟨Nat.le_refl _, Nat.zero_le _⟩, hlim, rfl, fun m hm => by cases hm⟩
  have := HT.out.low _ c
  omega

theorem reres_end {S : Nat → Prop} {w w3 w4 : World} {p g c : Nat} {ls : Int} {E : En} (h : REnAt S w p g E ls) (ls' : Nat) (hls : ls' ≤ 4096) (hc : c ≤ 4096) (hb : Blk w3 p 54 #[.pointer (some ⟨g, 0, none⟩), .int .i64 ls'])
    (hF3 : Frm (fun k => k = p) w w3) (hT4 : RTabS S w4 g (E.t.resize c)) (hF4 : Frm (fun k => k = g) w3 w4) :
    REnAt S w4 p g ⟨E.t.resize c, some ls'⟩ ls' ∧ Frm (fun k => k = p ∨ Own S w k) w w4 := by
  refine ⟨⟨hb.keep hF4 (fun c => ?_), hT4, h.out, h.ok.resize c, hc, rfl, fun m hm => by cases hm; exact hls⟩, (hF3.mono (fun k hk => .inl hk)).trans (hF4.mono (fun k hk => ?_))⟩
  · exact h.out (by rw [c]; exact h.tab.sg)
  · exact .inr (.inl (by rw [hk]; exact h.tab.sg))

set_option maxRecDepth 100000 in
set_option maxHeartbeats 1000000 in
theorem reresize_any {S : Nat → Prop} {p g : Nat} {ls : Int} {E : En} (n : Int) (h0 : -9223372036854775808 ≤ n) (h1 : n ≤ 9223372036854775807) (w : World) (h : REnAt S w p g E ls) :
    Calls Try.prog 33 #[.pointer (some ⟨p, 0, none⟩), .int .i64 n] w fun e w' => e = .returned (.tuple #[]) ∧ ∃ ls' : Int, REnAt S w' p g (E.resize n) ls' ∧ Frm (fun k => k = p ∨ Own S w k) w w' := by
  have hlim := lim_le n
  have hc := fun w => clamp_any n h0 h1 w
  have hE : E.resize n = ⟨E.t.resize (lim n), some (match E.least with | none => lim n | some m => min m (lim n))⟩ := rfl
  generalize lim n = c at *
  have hb := h.blk
  have hd0 := hb.cell 0
  have hd1 := hb.cell 1
  simp only [List.getElem?_toArray, List.getElem?_cons_zero, List.getElem?_cons_succ] at hd0 hd1
  have hz1 := hb.frozen 1
  have hp : p < w.heap.size := hb.lt
  have hls := h.lst
  have hle := h.lle
  have H := Lib.hid h
  have HB := Lib.hid hb
  have HC := Lib.hid hc
  clear h hb hc
  obtain ⟨l', hl', hE2, hcase⟩ : ∃ l' : Nat, l' ≤ 4096 ∧ E.resize n = ⟨E.t.resize c, some l'⟩ ∧ ((l' = c ∧ (ls < 0 ∨ (c : Int) < ls)) ∨ (0 ≤ ls ∧ ls = l' ∧ ¬ ((c : Int) < ls))) := by
    cases he : E.least with
    | none =>
      rw [he] at hls hE
      exact ⟨c, hlim, hE, .inl ⟨rfl, .inl (by rw [hls]; decide)⟩⟩
    | some m =>
      rw [he] at hls hE
      have := hle m he
      simp only at hls
      by_cases hq : c < m
      · exact ⟨c, hlim, by rw [hE]; simp only; rw [show min m c = c from by omega], .inl ⟨rfl, .inr (by omega)⟩⟩
      · exact ⟨m, this, by rw [hE]; simp only; rw [show min m c = m from by omega], .inr ⟨by omega, hls, by omega⟩⟩
  have HE2 := Lib.hid hE2
  clear hE2
  clear hE hle hls
  rcases hcase with ⟨rfl, hq⟩ | ⟨hq0, rfl, hq1⟩
  · rcases hq with hq | hq
    · go_enter Try.func33, Try.ntmps33
      go_upto_region 3 with (go_at_call 55; refine (HC.out _).mono ?_; rintro e w1 ⟨rfl, rfl⟩)
      have hb3 := HB.out.set_ 1 (.int .i64 l')
      have hF3 : Frm (fun k => k = p) w1 (w1.setCell ⟨p, 1, none⟩ (.int .i64 l')) := (Frm.refl (fun k => k = p) w1).setCell (p := ⟨p, 1, none⟩) rfl _
      have hT3 := H.out.tab.keep hF3 (fun k hk e => H.out.out (by rw [← e]; exact hk))
      have hs3 : (w1.setCell ⟨p, 1, none⟩ (.int .i64 l')).heap.size = w1.heap.size := by simp
      generalize w1.setCell ⟨p, 1, none⟩ (.int .i64 l') = w3 at *
      have hb3' : Blk w3 p 54 #[.pointer (some ⟨g, 0, none⟩), .int .i64 l'] := by simpa using hb3
      have HF3 := Lib.hid hF3
      have HT3 := Lib.hid hT3
      have HS3 := Lib.hid hs3
      clear hF3 hT3 hs3
      clear hd0 hd1 hz1 hp hb3
      have hd0 := hb3'.cell 0
      simp only [List.getElem?_toArray, List.getElem?_cons_zero] at hd0
      have hp : p < w3.heap.size := hb3'.lt
      have HB3 := Lib.hid hb3'
      clear hb3'
      go_wp2_with (fail)
      refine (rtresize_any l' w3 HT3.out (by omega)).mono ?_
      rintro e w4 ⟨⟨m, rfl⟩, hT4, hF4⟩
      have HT4 := Lib.hid hT4
      have HF4 := Lib.hid hF4
      clear hT4 hF4
      clear hd0
      go_wp2
      go_end0
      rw [HE2.out]
      exact ⟨rfl, l', reres_end H.out l' hlim hlim HB3.out HF3.out HT4.out HF4.out⟩
    · by_cases hq9 : ls < 0
      · omega
      go_enter Try.func33, Try.ntmps33
      go_upto_region 3 with (go_at_call 55; refine (HC.out _).mono ?_; rintro e w1 ⟨rfl, rfl⟩)
      have hb3 := HB.out.set_ 1 (.int .i64 l')
      have hF3 : Frm (fun k => k = p) w1 (w1.setCell ⟨p, 1, none⟩ (.int .i64 l')) := (Frm.refl (fun k => k = p) w1).setCell (p := ⟨p, 1, none⟩) rfl _
      have hT3 := H.out.tab.keep hF3 (fun k hk e => H.out.out (by rw [← e]; exact hk))
      have hs3 : (w1.setCell ⟨p, 1, none⟩ (.int .i64 l')).heap.size = w1.heap.size := by simp
      generalize w1.setCell ⟨p, 1, none⟩ (.int .i64 l') = w3 at *
      have hb3' : Blk w3 p 54 #[.pointer (some ⟨g, 0, none⟩), .int .i64 l'] := by simpa using hb3
      have HF3 := Lib.hid hF3
      have HT3 := Lib.hid hT3
      have HS3 := Lib.hid hs3
      clear hF3 hT3 hs3
      clear hd0 hd1 hz1 hp hb3
      have hd0 := hb3'.cell 0
      simp only [List.getElem?_toArray, List.getElem?_cons_zero] at hd0
      have hp : p < w3.heap.size := hb3'.lt
      have HB3 := Lib.hid hb3'
      clear hb3'
      go_wp2_with (fail)
      refine (rtresize_any l' w3 HT3.out (by omega)).mono ?_
      rintro e w4 ⟨⟨m, rfl⟩, hT4, hF4⟩
      have HT4 := Lib.hid hT4
      have HF4 := Lib.hid hF4
      clear hT4 hF4
      clear hd0
      go_wp2
      go_end0
      rw [HE2.out]
      exact ⟨rfl, l', reres_end H.out l' hlim hlim HB3.out HF3.out HT4.out HF4.out⟩
  · have hq2 : ¬ ((l' : Int) < 0) := by omega
    have hs0 := hp
    have hT0 := H.out.tab
    have HT0 := Lib.hid hT0
    clear hT0
    go_enter Try.func33, Try.ntmps33
    go_wp2_with (go_at_call 55; refine (HC.out _).mono ?_; rintro e w1 ⟨rfl, rfl⟩)
    refine (rtresize_any c w1 HT0.out (by omega)).mono ?_
    rintro e w4 ⟨⟨m, rfl⟩, hT4, hF4⟩
    have HT4 := Lib.hid hT4
    have HF4 := Lib.hid hF4
    clear hT4 hF4
    clear hd0
    go_wp2
    go_end0
    rw [HE2.out]
    exact ⟨rfl, l', reres_end H.out l' hl' hlim HB.out (Frm.refl _ _) HT4.out HF4.out⟩
end Go.Proofs.Ytcebckkpablagaa.M
namespace Go.Proofs.Ytcebckkpablagaa.M
open Go.ChangeShapes Go.WideShapes Go.ChangeAt Go.RowKit

/-- what a round may write but for the table -/
def Mb (A : Option Addr) (w : World) (k : Nat) : Prop := blk A = some k ∨ w.heap.size ≤ k
theorem Mb.up (A : Option Addr) (w : World) : Up (Mb A w) w := fun _ h => .inr h

theorem bvs_lt {M : Nat → Prop} {w : World} {e n c : Nat} {A : Option Addr} {l : Bytes} (h : App M w e 1 A n c (bvs l)) (hl : 0 < l.length) : ∀ k, blk A = some k → k < w.heap.size := fun k hk => by
  obtain ⟨g, off, rfl, hg⟩ := h.rd.lt (by intro c; have := congrArg List.length c; rw [bvs_length] at this; simp at this; subst this; simp at hl)
  cases hk; exact hg


end Go.Proofs.Ytcebckkpablagaa.M
