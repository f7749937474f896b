/- Qf -/
import Derived.BigQuiet
import Derived.Deep.CutBlock
import Derived.Lib.Hide
import Derived.IntWalk
import Derived.Deep.RegionHeld3
import Derived.Test.YtdgggjeiflllhaaZyQj
import Derived.Test.YtdgggjeiflllhaaZyQy
import Derived.Test.YtdgggjeiflllhaaZyQm
import Derived.Test.YtdgggjeiflllhaaZyQkp
import Derived.Test.YtdgggjeiflllhaaZyNo
import Derived.Deep.LoopGhost
import Derived.Test.YtdgggjeiflllhaaZyMem

namespace Go.Proofs.Ytdgggjeiflllhaa.M
open Go.ChangeShapes Go.WideShapes Go.ChangeAt Go.RowKit
theorem qfeed1_any {S : Nat → Prop} {w : World} {pd pr g c bd br : Nat} {r : Bytes} {A : Option Addr} {R : Nat × Nat × Tb} (hd : w.cell? ⟨bd, 0, none⟩ = some (.pointer (some ⟨pd, 0, none⟩))) (hr : w.cell? ⟨br, 0, none⟩ = some (.pointer (some ⟨pr, 0, none⟩)))
    (hi : Calls Try.prog 69 #[.pointer (some ⟨pd, 0, none⟩), .pointer (some ⟨pr, 0, none⟩)] w (InsR S w pr g r A c R)) :
    Calls Try.prog 68 #[.pointer (some ⟨bd, 0, none⟩), .pointer (some ⟨br, 0, none⟩)] w (InsR S w pr g r A c R) := by
  have h1 := World.block_lt_of_cell? _ _ hd
  have h2 := World.block_lt_of_cell? _ _ hr
  simp only at h1 h2
  obtain ⟨q, k, T⟩ := R
  unfold InsR at hi ⊢
  by_cases h : q = 0
  · simp only [if_pos h] at hi ⊢
    have HI := Lib.hid hi
    clear hi
    go_enter Try.func68, Try.ntmps68
    go_wp2_with (fail)
    refine HI.out.mono ?_
    rintro e w2 ⟨rfl, h2⟩
    have H2 := Lib.hid h2
    clear h2
    go_wp2
    go_end0
    exact ⟨rfl, H2.out⟩
  · simp only [if_neg h] at hi ⊢
    have HI := Lib.hid hi
    clear hi
    go_enter Try.func68, Try.ntmps68
    go_wp2_with (fail)
    refine HI.out.mono ?_
    rintro e w2 ⟨rfl, h2⟩
    have H2 := Lib.hid h2
    clear h2
    unfold PQ
    go_wp2
    exact ⟨rfl, rfl, H2.out⟩
end Go.Proofs.Ytdgggjeiflllhaa.M
namespace Go.Proofs.Ytdgggjeiflllhaa.M
open Go.ChangeShapes Go.WideShapes Go.ChangeAt Go.RowKit
structure FeedIn (X : Nat → Prop) (w : World) (pd g bm bd : Nat) (D : Qd) (T : Tb) (r : Bytes) (X1 : Nat → Prop) (wx : World) : Prop where
  at_ : QdAt X1 wx pd g bm { D with t := T, rest := r }
  box : Blk wx bd 53 #[.pointer (some ⟨pd, 0, none⟩)]
  frm : Frm (Own X w) w wx
  sub : ∀ k, X1 k → Own X w k
  out : ¬ X1 bd
theorem QdM.feed1 {X S S' : Nat → Prop} {w w5 : World} {pd g bm cr co k : Nat} {Ar Ao A2 : Option Addr} {ents : List (Nat × Value)} {D : Qd} {T2 : Tb} (h : QdM X w pd g bm S Ar cr Ao co ents D) (hT : TabS S' w5 g T2) (hS : ∀ k, S' k → Own S w k) (f : Frm (Own S w) w w5) (hr : Rd w5 A2 (bvs (D.rest.drop k))) (hs : Sub Ar cr A2 (cr - k)) (_hk : k ≤ D.rest.length)
    (hok : T2.Ok) (hcap : T2.cap ≤ 4096) (hnb : T2.n ≤ 1152921504606846976) : QdM (fun j => X j ∨ S' j) (w5.setCell ⟨pd, 4, none⟩ (.slice A2 (D.rest.drop k).length (cr - k))) pd g bm S' A2 (cr - k) Ao co ents { D with t := T2, rest := D.rest.drop k } := by
  have hn : ∀ k, X k → ¬ S k → ¬ Own S w k := fun k hk hq e => by
    rcases e with e | e
    · exact hq e
    · have := h.low k hk; omega
  have hn' : ∀ k, X k → ¬ S k → ¬ S' k := fun k hk hq e => hn k hk hq (hS k e)
  have f2 : Frm (fun k => k = pd) w5 (w5.setCell ⟨pd, 4, none⟩ (.slice A2 (D.rest.drop k).length (cr - k))) := (Frm.refl (fun k => k = pd) w5).setCell (p := ⟨pd, 4, none⟩) rfl _
  have hrc := h.rest.cap
  exact {
    blk := by have := (h.blk.keep f (hn _ h.xp h.ps)).set_ 4 (.slice A2 (D.rest.drop k).length (cr - k)); simpa using this
    tab := hT.keep f2 (fun j hj e => hn' _ h.xp h.ps (e ▸ hj))
    map := (h.map.keep f (hn _ h.xm h.ms)).keep f2 (fun e => h.mp e.symm)
    keys := h.keys
    nd := h.nd
    cnt := h.cnt
    rest := by
      refine App.keep ?_ f2 (fun j hj e => by rw [hs.1] at hj; exact (h.rs j hj).2.1 e)
      exact h.rest.sub hs (by omega) hr (by rw [bvs_length]) (by rw [List.length_drop]; omega) (fun j hj => f.block j (hn j (h.rest.inM j hj) (h.rs j hj).1)) (fun j hj => .inl (h.rest.inM j hj))
    out := (h.out.keep f (fun j hj => hn j (h.xo j hj) (h.os j hj).1)).keep f2 (fun j hj e => (h.os j hj).2.1 e)
    low := fun j hj => by
      have hz := f.size
      rcases hj with hj | hj
      · have := h.low j hj; simp; omega
      · have := hT.low j hj; simpa using this
    xp := .inl h.xp, xm := .inl h.xm, xs := fun j hj => .inr hj, xo := fun j hj => .inl (h.xo j hj), ps := hn' _ h.xp h.ps, ms := hn' _ h.xm h.ms, mp := h.mp
    rs := fun j hj => by rw [hs.1] at hj; exact ⟨hn' j (h.rest.inM j hj) (h.rs j hj).1, (h.rs j hj).2⟩
    os := fun j hj => ⟨hn' j (h.xo j hj) (h.os j hj).1, (h.os j hj).2.1, (h.os j hj).2.2.1, by rw [hs.1]; exact (h.os j hj).2.2.2⟩
    ok := hok, cap := hcap, lim := h.lim, nb := hnb
    rl := by show (D.rest.drop k).length ≤ _; rw [List.length_drop]; have := h.rl; omega
    ol := h.ol }
theorem QdM.feed0 {X S : Nat → Prop} {w w2 : World} {pd g bm cr co c2 : Nat} {Ar Ao A2 : Option Addr} {ents : List (Nat × Value)} {D : Qd} (h : QdM X w pd g bm S Ar cr Ao co ents D) {b : Bytes} (hA : App (fun k => X k ∧ M.blk Ar = some k ∨ New w k) w2 5 1 A2 (D.rest.length + b.length) c2 (bvs (D.rest ++ b))) (f : Frm (fun k => X k ∧ M.blk Ar = some k ∨ New w k) w w2) (hlt : ∀ k, M.blk A2 = some k → k < w2.heap.size) (hb : D.rest.length + b.length ≤ 1099511627776) :
    QdM (fun k => X k ∨ (M.blk A2 = some k)) (w2.setCell ⟨pd, 4, none⟩ (.slice A2 (D.rest.length + b.length) c2)) pd g bm S A2 c2 Ao co ents { D with rest := D.rest ++ b } := by
  have hn : ∀ k, X k → (∀ q, M.blk Ar = some q → k ≠ q) → ¬ (X k ∧ M.blk Ar = some k ∨ New w k) := fun k hk hq e => by
    rcases e with e | e
    · exact hq k e.2 rfl
    · have := h.low k hk; unfold New at e; omega
  have hp : ¬ (X pd ∧ M.blk Ar = some pd ∨ New w pd) := hn pd h.xp (fun q hq e => (h.rs q hq).2.1 e.symm)
  have hm : ¬ (X bm ∧ M.blk Ar = some bm ∨ New w bm) := hn bm h.xm (fun q hq e => (h.rs q hq).2.2 e.symm)
  have hS : ∀ k, S k → ¬ (X k ∧ M.blk Ar = some k ∨ New w k) := fun k hk => hn k (h.xs k hk) (fun q hq e => (h.rs q hq).1 (e ▸ hk))
  have f2 : Frm (fun k => k = pd) w2 (w2.setCell ⟨pd, 4, none⟩ (.slice A2 (D.rest.length + b.length) c2)) := (Frm.refl (fun k => k = pd) w2).setCell (p := ⟨pd, 4, none⟩) rfl _
  have hA2 : ∀ k, M.blk A2 = some k → ¬ S k ∧ k ≠ pd ∧ k ≠ bm := fun k hk => by
    rcases hA.inM k hk with e | e
    · exact h.rs k e.2
    · unfold New at e
      exact ⟨fun q => by have := h.low k (h.xs k q); omega, fun q => by have := h.low pd h.xp; omega, fun q => by have := h.low bm h.xm; omega⟩
  have hl : (D.rest ++ b).length = D.rest.length + b.length := List.length_append
  exact {
    blk := by have := (h.blk.keep f hp).set_ 4 (.slice A2 (D.rest.length + b.length) c2); simpa using this
    tab := (h.tab.keep f hS).keep f2 (fun k hk e => h.ps (e ▸ hk))
    map := (h.map.keep f hm).keep f2 (fun e => h.mp e.symm)
    keys := h.keys
    nd := h.nd
    cnt := h.cnt
    rest := by
      show App _ _ _ 1 A2 (D.rest ++ b).length c2 (bvs (D.rest ++ b))
      rw [hl]
      have h1 := hA.keep f2 (fun k hk e => (hA2 k hk).2.1 e)
      exact { h1 with
        inM := fun k hk => .inr hk
        own := fun hc => by
          obtain ⟨gg, off, cur, a, b2, d, m⟩ := h1.own hc
          exact ⟨gg, off, cur, a, b2, d, .inr (by rw [a]; rfl)⟩ }
    out := (h.out.keep f (fun k hk => hn k (h.xo k hk) (fun q hq e => (h.os k hk).2.2.2 (e ▸ hq)))).keep f2 (fun k hk e => (h.os k hk).2.1 e)
    low := fun k hk => by
      have hs := f.size
      rcases hk with hk | hk
      · have := h.low k hk; simp; omega
      · have := hlt k hk; simp; omega
    xp := .inl h.xp, xm := .inl h.xm, xs := fun k hk => .inl (h.xs k hk), xo := fun k hk => .inl (h.xo k hk), ps := h.ps, ms := h.ms, mp := h.mp, rs := hA2
    os := fun k hk => ⟨(h.os k hk).1, (h.os k hk).2.1, (h.os k hk).2.2.1, fun q => by
      rcases hA.inM k q with e | e
      · exact (h.os k hk).2.2.2 e.2
      · have := h.low k (h.xo k hk); unfold New at e; omega⟩
    ok := h.ok, cap := h.cap, lim := h.lim, nb := h.nb
    rl := by show (D.rest ++ b).length ≤ _; rw [hl]; exact hb
    ol := h.ol }
set_option maxRecDepth 100000 in
set_option maxHeartbeats 4000000 in
theorem qfeed_any {X : Nat → Prop} {w : World} {pd g bm : Nat} {D : Qd} (h : QdAt X w pd g bm D) (b : Bytes) (A0 : Option Addr) (c0 : Nat) (hR : Rd w A0 (bvs b)) (hlen : D.rest.length + b.length ≤ 1099511627776) (hn : D.t.n + D.rest.length + b.length ≤ 1152921504606846975) :
    Calls Try.prog 28 #[.pointer (some ⟨pd, 0, none⟩), .slice A0 b.length c0] w fun e w' => e = .returned (.int .i64 ((D.feed b).1 : Nat)) ∧ QdRes X w pd g bm (D.feed b).2 w' := by
  obtain ⟨S, Ar, cr, Ao, co, ents, h⟩ := h
  have hX : ∀ k, X k → Own X w k := fun k hk => .inl hk
  cases hbad : D.bad with
  | true =>
    have hf : D.feed b = (26, D) := by unfold Qd.feed; rw [if_pos hbad]
    rw [hf]
    have hF1 : Frm (New w) w (w.alloc (Obj.cells #[.pointer (some ⟨pd, 0, none⟩)] 53)) := (Frm.refl _ _).alloc Up.new _
    have hb := h.blk
    rw [hbad] at hb
    have hy7 := hb.cell 7
    simp only [List.getElem?_toArray, List.getElem?_cons_zero, List.getElem?_cons_succ] at hy7
    have hl := hb.lt
    have H := Lib.hid h
    have HB := Lib.hid hb
    have HF1 := Lib.hid hF1
    clear h hb hF1
    go_enter Try.func28, Try.ntmps28
    go_wp2
    go_ret
    exact ⟨rfl, X, ⟨_, _, _, _, _, _, H.out.fresh HF1.out⟩, HF1.out.mono (fun k hk => .inr hk), hX⟩
  | false =>
    obtain ⟨R, hRq⟩ : ∃ R, R = feedGo D.lim (D.rest ++ b).length D.t (D.rest ++ b) := ⟨_, rfl⟩
    have hf : D.feed b = (if R.2.2 then 26 else 0, { D with t := R.1, rest := R.2.1, bad := R.2.2 }) := by unfold Qd.feed; rw [if_neg (by rw [hbad]; simp), hRq]
    rw [hf]
    obtain ⟨rx, hrx⟩ : ∃ x : Nat, x = if R.2.2 = true then 26 else 0 := ⟨_, rfl⟩
    obtain ⟨D2, hD2⟩ : ∃ x : Qd, x = { D with t := R.1, rest := R.2.1, bad := R.2.2 } := ⟨_, rfl⟩
    rw [← hrx, ← hD2]
    have hDb : ∀ T r, ({ D with t := T, rest := r, bad := false } : Qd) = { D with t := T, rest := r } := fun T r => by cases D; simp only at hbad; rw [hbad]
    have HRX := Lib.hid hrx
    have HD2 := Lib.hid hD2
    have HDB := Lib.hid hDb
    clear hrx hD2 hDb
    have hb := h.blk
    rw [hbad] at hb
    have hy4 := hb.cell 4
    have hy7 := hb.cell 7
    simp only [List.getElem?_toArray, List.getElem?_cons_zero, List.getElem?_cons_succ] at hy4 hy7
    have hl := hb.lt
    have hz4 := hb.frozen 4
    have hF1 : Frm (New w) w (w.alloc (Obj.cells #[.pointer (some ⟨pd, 0, none⟩)] 53)) := (Frm.refl _ _).alloc Up.new _
    have hB1 := Blk.new w 53 #[.pointer (some ⟨pd, 0, none⟩)]
    have hs1 : (w.alloc (Obj.cells #[.pointer (some ⟨pd, 0, none⟩)] 53)).heap.size = w.heap.size + 1 := by simp
    have h1 := h.fresh hF1
    obtain ⟨bd, hbd⟩ : ∃ q, q = w.heap.size := ⟨_, rfl⟩
    rw [← hbd] at hB1
    have hbdX : ∀ k, X k → k < bd := fun k hk => by rw [hbd]; exact h.low k hk
    have hbdw : w.heap.size ≤ bd := by omega
    have hR1 := hR.fresh hF1
    have H := Lib.hid h
    have HB := Lib.hid hb
    have HF1 := Lib.hid hF1
    have HS1 := Lib.hid hs1
    have HRQ := Lib.hid hRq
    clear h hb hF1 hs1 hRq
    go_enter Try.func28, Try.ntmps28
    go_upto_region 3 with (fail)
    rw [← hbd]
    clear hy4 hy7 hl hz4 hbd HS1
    generalize w.alloc (Obj.cells #[.pointer (some ⟨pd, 0, none⟩)] 53) = w1 at *
    have hb1 := h1.blk
    have hy4 := hb1.cell 4
    simp only [List.getElem?_toArray, List.getElem?_cons_zero, List.getElem?_cons_succ] at hy4
    have hl4 := hb1.lt
    have hx0 := hB1.cell 0
    simp only [List.getElem?_toArray, List.getElem?_cons_zero] at hx0
    have hlx := hB1.lt
    have hS1 : w1.drew.cell? ⟨bd, 0, none⟩ = some (.pointer (some ⟨pd, 0, none⟩)) ∧ w1.drew.cell? ⟨pd, 4, none⟩ = some (.slice Ar D.rest.length cr) := ⟨hx0, hy4⟩
    have hup : Up (fun k => X k ∧ M.blk Ar = some k ∨ New w1 k) w1 := fun k hk => .inr hk
    have happ : App (fun k => X k ∧ M.blk Ar = some k ∨ New w1 k) w1 5 1 Ar D.rest.length cr (bvs D.rest) :=
      { h1.rest with
        inM := fun k hk => .inl ⟨h1.rest.inM k hk, hk⟩
        own := fun hc => by
          obtain ⟨gg, off, cur, a, b2, d, m⟩ := h1.rest.own hc
          exact ⟨gg, off, cur, a, b2, d, .inl ⟨m, by rw [a]; rfl⟩⟩ }
    have hnp : ¬ (X pd ∧ M.blk Ar = some pd ∨ New w1 pd) := fun e => by
      rcases e with e | e
      · exact (h1.rs pd e.2).2.1 rfl
      · unfold New at e; omega
    have hnb : ¬ (X bd ∧ M.blk Ar = some bd ∨ New w1 bd) := fun e => by
      rcases e with e | e
      · have := hbdX bd e.1; omega
      · unfold New at e; omega
    have H1 := Lib.hid h1
    have HB1 := Lib.hid hB1
    have HUP := Lib.hid hup
    have HAPP := Lib.hid happ
    have HR1 := Lib.hid hR1
    have HBDX := Lib.hid hbdX
    have HNP := Lib.hid hnp
    have HNB := Lib.hid hnb
    have HB1' := Lib.hid hb1
    clear h1 hB1 hup happ hR1 hbdX hnp hnb hb1
    go_cut [] from 11 (fun w5 => ∃ (A2 : Option Addr) (c2 : Nat) (X1 : Nat → Prop), Hid (QdM X1 w5 pd g bm S A2 c2 Ao co ents { D with rest := D.rest ++ b }) ∧ Hid (Blk w5 bd 53 #[.pointer (some ⟨pd, 0, none⟩)]) ∧ Hid (Frm (Own X w) w w5) ∧ Hid (∀ k, X1 k → Own X w k) ∧ Hid (¬ X1 bd))
    case first =>
      refine wp_region_til (by kernel_rfl) (fun w' => w'.cell? ⟨bd, 0, none⟩ = some (.pointer (some ⟨pd, 0, none⟩)) ∧ w'.cell? ⟨pd, 4, none⟩ = some (.slice Ar D.rest.length cr)) 9 ?_
      change wpAnyT _ _ _ _ _ _ _ _ _ w1.drew
      refine wpAnyT_take (i := 0) (v := ?_) (d := some 11) rfl (by rfl) (by kernel_rfl) (fun _ _ _ h => h) (by rfl) hS1 (fun w hSw => ?_) ?_
      rotate_left
      · (try dsimp only at hSw); go_simp; first | done | (with_reducible rfl)
      simp only [Act.put, List.setIfInBounds_toArray, List.set_cons_zero, List.set_cons_succ]
      refine wpAnyT_take (i := 1) (v := ?_) (d := some 12) rfl (by rfl) (by kernel_rfl) (fun _ _ _ h => h) (by rfl) hS1 (fun w hSw => ?_) ?_
      rotate_left
      · (try dsimp only at hSw); go_simp; first | done | (with_reducible rfl)
      simp only [Act.put, List.setIfInBounds_toArray, List.set_cons_zero, List.set_cons_succ]
      refine wpAnyT_take (i := 2) (v := ?_) (d := some 13) rfl (by rfl) (by kernel_rfl) (fun _ _ _ h => h) (by rfl) hS1 (fun w hSw => ?_) ?_
      rotate_left
      · (try dsimp only at hSw); go_simp; first | done | (with_reducible rfl)
      simp only [Act.put, List.setIfInBounds_toArray, List.set_cons_zero, List.set_cons_succ]
      refine wpAnyT_take (i := 3) (v := ?_) (d := some 14) rfl (by rfl) (by kernel_rfl) (fun _ _ _ h => h) (by rfl) hS1 (fun w hSw => ?_) ?_
      rotate_left
      · (try dsimp only at hSw); go_simp; first | done | (with_reducible rfl)
      simp only [Act.put, List.setIfInBounds_toArray, List.set_cons_zero, List.set_cons_succ]
      refine wpAnyT_take (i := 4) (v := ?_) (d := some 15) rfl (by rfl) (by kernel_rfl) (fun _ _ _ h => h) (by rfl) hS1 (fun w hSw => ?_) ?_
      rotate_left
      · (try dsimp only at hSw); go_simp; first | done | (with_reducible rfl)
      simp only [Act.put, List.setIfInBounds_toArray, List.set_cons_zero, List.set_cons_succ]
      refine wpAnyT_take (i := 5) (v := ?_) (d := some 16) rfl (by rfl) (by kernel_rfl) (fun _ _ _ h => h) (by rfl) hS1 (fun w hSw => ?_) ?_
      rotate_left
      · (try dsimp only at hSw); go_simp; first | done | (with_reducible rfl)
      simp only [Act.put, List.setIfInBounds_toArray, List.set_cons_zero, List.set_cons_succ]
      refine wpAnyT_one (i := 6) rfl (by kernel_rfl) (fun K hK => ?_)
      refine step_append2 u8s rfl rfl rfl HAPP.out.drew HUP.out rfl HR1.out.drew (by rw [bvs_length, Nat.mul_one]) (bvs_one _) (by omega) ?_
      intro A2 c2 w2 hA2 hF2 hblk _
      have hx2 : w2.cell? ⟨bd, 0, none⟩ = some (.pointer (some ⟨pd, 0, none⟩)) := by rw [hF2.cell (p := ⟨bd, 0, none⟩) HNB.out]; exact hx0
      have hy2 : w2.cell? ⟨pd, 4, none⟩ = some (.slice Ar D.rest.length cr) := by rw [hF2.cell (p := ⟨pd, 4, none⟩) HNP.out]; exact hy4
      have hS2 : w2.cell? ⟨bd, 0, none⟩ = some (.pointer (some ⟨pd, 0, none⟩)) ∧ w2.cell? ⟨pd, 4, none⟩ = some (.slice Ar D.rest.length cr) := ⟨hx2, hy2⟩
      have hz2 : w2.frozen? ⟨pd, 4, none⟩ = false := by rw [hF2.frozen (p := ⟨pd, 4, none⟩) HNP.out]; exact HB1'.out.frozen 4
      have hl2 : pd < w2.heap.size := Nat.lt_of_lt_of_le hl4 hF2.size
      replace hF2 : Frm (fun k => X k ∧ M.blk Ar = some k ∨ New w1 k) w1 w2 := Frm.trans ((Frm.refl _ w1).drew) hF2
      have hlt : ∀ k, M.blk A2 = some k → k < w2.heap.size := fun k hk => by
        rcases hblk with ⟨e, _⟩ | ⟨e, hm⟩
        · exact Nat.lt_of_lt_of_le (H1.out.low k (H1.out.rest.inM k (e ▸ hk))) hF2.size
        · obtain ⟨g9, o9, rfl, hl9⟩ := hA2.rd.lt (by intro e2; have := congrArg List.length e2; rw [List.length_append, bvs_length, bvs_length] at this; simp only [List.length_nil] at this; omega)
          cases hk
          exact hl9
      rw [← bvs_append] at hA2
      have hin := hA2.inM
      have hQ := H1.out.feed0 hA2 hF2 hlt hlen
      have hBB := HB1.out.keep hF2 HNB.out
      have HA2 := Lib.hid hA2
      have HF2 := Lib.hid hF2
      have HLT := Lib.hid hlt
      have HIN := Lib.hid hin
      have HQ := Lib.hid hQ
      have HBB := Lib.hid hBB
      clear hA2 hF2 hlt hin hQ hBB
      clear hblk
      refine hK.out _ _ (.inr hS2) ?_
      clear hK K hS1
      refine wpAnyT_one (i := 7) rfl (by kernel_rfl) (fun K hK => ?_)
      go_simp
      refine hK.out _ _ (.inr (hS2)) ?_
      clear hK K
      refine wpAnyT_one (i := 8) rfl (by kernel_rfl) (fun K hK => ?_)
      go_simp
      refine hK.out _ _ (.inr (hS2)) ?_
      clear hK K
      refine wpAnyT_one (i := 9) rfl (by kernel_rfl) (fun K hK => ?_)
      go_simp
      refine hK.out _ _ (.inl (by kernel_rfl)) ?_
      clear hK K
      refine wpAnyT_done (by kernel_rfl) ?_ _
      go_wp2_with (fail)
      go_meet
      have f2 : Frm (fun k => k = pd) w2 (w2.setCell ⟨pd, 4, none⟩ (.slice A2 (D.rest.length + b.length) c2)) := (Frm.refl (fun k => k = pd) w2).setCell (p := ⟨pd, 4, none⟩) rfl _
      have hs1 := HF1.out.size
      refine ⟨A2, c2, _, HQ, HBB.out.keep f2 (fun (e : bd = pd) => by have := HBDX.out pd H1.out.xp; omega), ?_, ?_, ?_⟩
      · refine ((HF1.out.mono (fun k hk => .inr hk)).trans (HF2.out.mono (fun k hk => ?_))).trans (f2.mono (fun k hk => .inl (hk ▸ H1.out.xp)))
        rcases hk with hk | hk
        · exact .inl hk.1
        · exact .inr (Nat.le_trans hs1 hk)
      · intro k hk
        rcases hk with hk | hk
        · exact .inl hk
        · rcases HIN.out k hk with hk | hk
          · exact .inl hk.1
          · exact .inr (Nat.le_trans hs1 hk)
      · intro hk
        rcases hk with hk | hk
        · have := HBDX.out bd hk; omega
        · exact HNB.out (HIN.out bd hk)
    case rest =>
      obtain ⟨A2, c2, X1, hQ, hBB, hF5, hsub, hout⟩ := hcut
      rename World => w5
      have hrl : D.rest.length + b.length = (D.rest ++ b).length := (List.length_append ..).symm
      clear HB1 HB1' H1 H HUP HAPP HR1 HB HNP HNB hx0 hlx hS1 hy4 hl4 HF1 HBDX
      generalize hr0 : D.rest ++ b = r0 at *
      clear hr0
      have hmf : ∀ (fn : Fn) (first cap : Array Value) (w : World), (Instr.makeFunc fn first cap).run Try.prog w = .ok (.func fn first cap) w := fun _ _ _ _ => rfl
      go_wp2_with (fail)
      go_loopg [] r0.length (fun kk wx => ∃ (fu : Nat) (T : Tb) (r : Bytes) (X1 : Nat → Prop), r.length ≤ kk ∧ r.length ≤ fu ∧ T.n + r.length ≤ 1152921504606846975 ∧ Hid (R = feedGo D.lim fu T r) ∧ Hid (FeedIn X w pd g bm bd D T r X1 wx))
      case atStart =>
        exact ⟨r0.length, D.t, r0, X1, Nat.le_refl _, Nat.le_refl _, by omega, HRQ, ⟨⟨_, _, _, _, _, _, hQ.out⟩, hBB.out, hF5.out, hsub.out, hout.out⟩⟩
      case round =>
        clear hQ hBB hF5 hsub hout HRQ
        obtain ⟨fu, T, r, X1, hkk, hfu, hTn, hE, hI⟩ := hrel
        rename World => wx
        obtain ⟨S, Ar, cr, Ao, co, ents, h⟩ := hI.out.at_
        have hb := h.blk
        simp only at hb
        have hy4 := hb.cell 4
        simp only [List.getElem?_toArray, List.getElem?_cons_zero, List.getElem?_cons_succ] at hy4
        have hl := hb.lt
        have hB := hI.out.box
        have hx0 := hB.cell 0
        simp only [List.getElem?_toArray, List.getElem?_cons_zero] at hx0
        have hlx := hB.lt
        cases r with
        | nil =>
          rw [feedGo_nil] at hE
          rw [show ([] : Bytes).length = 0 from rfl] at hy4
          have H := Lib.hid h
          have HB := Lib.hid hb
          have HB := Lib.hid hB
          clear h hb hB
          go_wp2
          go_ret
          refine ⟨?_, X1, ?_, hI.out.frm, hI.out.sub⟩
          · rw [HRX.out, hE.out]; rfl
          · rw [HD2.out, hE.out]
            show QdAt X1 wx pd g bm { D with t := T, rest := [], bad := false }
            rw [HDB.out]
            exact hI.out.at_
        | cons q0 qt =>
          have hne : q0 :: qt ≠ [] := by simp
          have hlr : 0 < (q0 :: qt).length := by simp
          generalize q0 :: qt = r at *
          have hlri : (0 : Int) < (r.length : Int) := by omega
          obtain ⟨fu, rfl⟩ : ∃ f, fu = f + 1 := ⟨fu - 1, by omega⟩
          have hE2 : Hid (R = if (insQ D.lim T r).1 = 0 then feedGo D.lim fu (insQ D.lim T r).2.2 (r.drop (insQ D.lim T r).2.1) else if (insQ D.lim T r).1 = 20 then (T, r, false) else (T, r, true)) := by
            show _ = _
            rw [hE.out, feedGo_cons _ _ _ hne]
          clear hE
          have hfa := insQ_facts (T := T) h.ok h.cap h.lim r
          simp only at hfa
          -- the worlds
          obtain ⟨wr, hwr⟩ : ∃ x, x = wx.alloc (Obj.cells #[Value.slice Ar r.length cr] 129) := ⟨_, rfl⟩
          obtain ⟨wa, hwa⟩ : ∃ x, x = wr.alloc (Obj.cells #[Value.pointer (some ⟨wx.heap.size, 0, none⟩)] 127) := ⟨_, rfl⟩
          have fr : Frm (New wx) wx wr := by rw [hwr]; exact (Frm.refl _ _).alloc Up.new _
          have fa : Frm (New wr) wr wa := by rw [hwa]; exact (Frm.refl _ _).alloc Up.new _
          have fxa := fr.then_new Up.new fa
          have zr : wr.heap.size = wx.heap.size + 1 := by rw [hwr]; simp
          have za : wa.heap.size = wx.heap.size + 2 := by rw [hwa]; simp [zr]
          have fb : Frm (New wa) wa (wa.alloc (Obj.cells #[Value.int .i64 0] 39)) := (Frm.refl _ _).alloc Up.new _
          have zb : (wa.alloc (Obj.cells #[Value.int .i64 0] 39)).heap.size = wx.heap.size + 3 := by simp [za]
          have hbe := Blk.new wa 39 #[.int .i64 0]
          have fxb := fxa.then_new Up.new fb
          obtain ⟨pr, hpr⟩ : ∃ q, q = wx.heap.size := ⟨_, rfl⟩
          have hrd : RdAt wr pr r Ar cr := ⟨by rw [hwr, hpr]; exact Blk.new wx _ _, h.rest.rd.fresh fr, h.rest.cap, h.rl, fun k hk => by have := h.low k (h.rest.inM k hk); omega⟩
          have hbr : Blk wa (wx.heap.size + 1) 127 #[.pointer (some ⟨pr, 0, none⟩)] := by have := Blk.new wr 127 #[.pointer (some ⟨pr, 0, none⟩)]; rw [zr] at this; rw [hwa, hpr]; rw [hpr] at this; exact this
          obtain ⟨br, hbrq⟩ : ∃ q, q = wx.heap.size + 1 := ⟨_, rfl⟩
          rw [← hbrq] at hbr
          have hrdb := (hrd.fresh fa).fresh fb
          have hbrb := hbr.fresh fb
          have hBb := hB.fresh fxb
          have hbb := hb.fresh fxb
          have hins := qins_any pd _ (hbb.cell 0) (hbb.cell 1) (h.tab.fresh fxb) hrdb hne h.ps (fun q => by have := h.low _ (h.xs _ q); omega) (by omega) (fun k hk => ⟨(h.rs k hk).1, by have := h.low k (h.rest.inM k hk); omega⟩) (by show T.n < _; omega) h.cap h.lim h.ok
          simp only at hins
          have hcl := qfeed1_any (hBb.cell 0) (hbrb.cell 0) hins
          clear hins
          have hwal : ((wx.alloc (Obj.cells #[Value.slice Ar r.length cr] 129)).alloc (Obj.cells #[Value.pointer (some ⟨wx.heap.size, 0, none⟩)] 127)) = wa := by rw [hwa, hwr]
          have hlowx : ∀ k, X1 k → k < wx.heap.size := h.low
          generalize hR1 : insQ D.lim T r = R1 at *
          obtain ⟨x1, k1, T1⟩ := R1
          simp only at hfa hE2
          have hprx : wx.heap.size ≤ pr := by omega
          have hpra : pr < wa.heap.size := by omega
          have hbra : br < wa.heap.size := by omega
          have hbrp : br ≠ pr := by omega
          have hprpd : pr ≠ pd := by omega
          have hbrpd : br ≠ pd := by omega
          have hbdpd : bd ≠ pd := fun e => hI.out.out (e ▸ h.xp)
          have hSb : ∀ k, S k → k < wx.heap.size := fun k hk => h.low k (h.xs k hk)
          have hxa : wx.heap.size < wa.heap.size := by omega
          obtain ⟨wb, hwb⟩ : ∃ x, x = wa.alloc (Obj.cells #[Value.int .i64 0] 39) := ⟨_, rfl⟩
          rw [← hwb] at hbe fxb zb hrdb hbrb hcl
          have zab : wa.heap.size < wb.heap.size := by omega
          have HPR := Lib.hid hpr
          have HBRQ := Lib.hid hbrq
          have HWAL := Lib.hid hwal
          clear hpr hbrq hwal
          clear hwr hwa fr fa fb zr zb hrd hbr hBb hbb
          by_cases hx1 : x1 = 0
          · subst hx1
            obtain ⟨hok1, hcap1, hnb1, hk1, hk2⟩ := hfa.2 rfl
            have hE3 : Hid (R = feedGo D.lim fu T1 (r.drop k1)) := by show _ = _; rw [hE2.out, if_pos rfl]
            have htry := qtryF_ok #[.pointer (some ⟨bd, 0, none⟩), .pointer (some ⟨br, 0, none⟩)] wa (fun w' => (∃ A2, RdAt w' pr (r.drop k1) A2 (cr - k1) ∧ Sub Ar cr A2 (cr - k1)) ∧ (∃ S', TabS S' w' g T1 ∧ ∀ k, S' k → Own S wb k) ∧ Frm (fun j => j = pr ∨ Own S wb j) wb w') (by
              rw [← hwb]
              refine hcl.mono ?_
              intro e w' hh
              unfold InsR at hh
              rw [if_pos rfl] at hh
              obtain ⟨e1, e2, e3, e4⟩ := hh
              exact ⟨e1, ⟨e2, e3, e4⟩, hbe.keep e4 (fun q => by
                rcases q with q | q | q
                · omega
                · have := hSb _ q; omega
                · omega)⟩)
            clear hcl hwb hfa hE2
            have HTRY := Lib.hid htry
            have H := Lib.hid h
            have HB' := Lib.hid hb
            have HB := Lib.hid hB
            have FXB := Lib.hid fxb
            have HBRB := Lib.hid hbrb
            have HLOWX := Lib.hid hlowx
            have HSB := Lib.hid hSb
            clear htry h hb hB fxb hbrb hlowx hSb
            go_wp2_with (fail)
            rw [HWAL.out, ← HBRQ.out, ← HPR.out]
            refine HTRY.out.mono ?_
            rintro e w6 ⟨rfl, w5, ⟨⟨A2, hM5, hsb⟩, ⟨S', hT5, hS5⟩, hF5⟩, hF6⟩
            have zx := FXB.out.size
            have hF06 : Frm (Own S wx) wx w6 := ((FXB.out.mono (fun k hk => .inr hk)).trans (hF5.mono (fun k hk => by
              rcases hk with hk | hk | hk
              · subst hk; exact .inr hprx
              · exact .inl hk
              · exact .inr (Nat.le_trans zx hk)))).trans (hF6.mono (fun k hk => .inr (by omega)))
            have hM6 := hM5.keep hF6 (by omega) (fun k hk (e : k = wa.heap.size) => by rw [hsb.1] at hk; have := HLOWX.out k (H.out.rest.inM k hk); omega)
            have hT6 := hT5.keep hF6 (fun k hk (e : k = wa.heap.size) => by
              rcases hS5 k hk with q | q
              · have := HSB.out k q; omega
              · omega)
            have hB6 := HB.out.keep hF06 (fun q => by
              rcases q with q | q
              · exact hI.out.out (H.out.xs _ q)
              · omega)
            have hbr6 := (HBRB.out.keep hF5 (fun q => by
              rcases q with q | q | q
              · exact hbrp q
              · have := HSB.out _ q; have := HBRQ.out; omega
              · omega)).keep hF6 (by omega)
            have hb6 := HB'.out.keep hF06 (fun q => by
              rcases q with q | q
              · exact H.out.ps q
              · omega)
            have hS6 : ∀ k, S' k → Own S wx k := fun k hk => by
              rcases hS5 k hk with q | q
              · exact .inl q
              · exact .inr (Nat.le_trans zx q)
            have hq := H.out.feed1 (hT6.keep (Frm.refl (New w6) w6).drew (fun k hk q => by have := hT6.low k hk; unfold New at q; omega)) hS6 hF06.drew hM6.rd.drew hsb hk2 hok1 hcap1 (by omega)
            simp only at hq
            have hrl1 : (r.drop k1).length = r.length - k1 := List.length_drop
            generalize r.drop k1 = r2 at *
            have HRL1 := Lib.hid hrl1
            clear hrl1
            clear hx0 hlx hy4 hl
            obtain ⟨hy0, hyl⟩ := hM6.cell
            have hx0 := hB6.cell 0
            simp only [List.getElem?_toArray, List.getElem?_cons_zero] at hx0
            have hr0 := hbr6.cell 0
            simp only [List.getElem?_toArray, List.getElem?_cons_zero] at hr0
            have hc4 := hb6.cell 4
            have hz4 := hb6.frozen 4
            have hl := hb6.lt
            have hlx := hB6.lt
            have hlr0 := hbr6.lt
            have hS : w6.drew.cell? ⟨bd, 0, none⟩ = some (.pointer (some ⟨pd, 0, none⟩)) ∧ w6.drew.cell? ⟨br, 0, none⟩ = some (.pointer (some ⟨pr, 0, none⟩)) ∧ w6.drew.cell? ⟨pr, 0, none⟩ = some (.slice A2 r2.length (cr - k1)) ∧ pr < w6.drew.heap.size := ⟨hx0, hr0, hy0, hyl⟩
            have f7 : Frm (fun k => k = pd) w6.drew (w6.drew.setCell ⟨pd, 4, none⟩ (.slice A2 r2.length (cr - k1))) := (Frm.refl (fun k => k = pd) w6.drew).setCell (p := ⟨pd, 4, none⟩) rfl _
            have hS7 : (w6.drew.setCell ⟨pd, 4, none⟩ (.slice A2 r2.length (cr - k1))).cell? ⟨bd, 0, none⟩ = some (.pointer (some ⟨pd, 0, none⟩)) ∧ (w6.drew.setCell ⟨pd, 4, none⟩ (.slice A2 r2.length (cr - k1))).cell? ⟨br, 0, none⟩ = some (.pointer (some ⟨pr, 0, none⟩)) ∧ (w6.drew.setCell ⟨pd, 4, none⟩ (.slice A2 r2.length (cr - k1))).cell? ⟨pr, 0, none⟩ = some (.slice A2 r2.length (cr - k1)) ∧ pr < (w6.drew.setCell ⟨pd, 4, none⟩ (.slice A2 r2.length (cr - k1))).heap.size := ⟨(hB6.drew.keep f7 hbdpd).cell 0, (hbr6.drew.keep f7 hbrpd).cell 0, by rw [f7.cell (p := ⟨pr, 0, none⟩) hprpd]; exact hy0, by simpa using hyl⟩
            have hI7 : FeedIn X w pd g bm bd D T1 r2 (fun j => X1 j ∨ S' j) (w6.drew.setCell ⟨pd, 4, none⟩ (.slice A2 r2.length (cr - k1))) := by
              have hsz := hI.out.frm.size
              have hst : ∀ k, Own S wx k → Own X w k := fun k hk => by
                rcases hk with q | q
                · exact hI.out.sub k (H.out.xs k q)
                · exact .inr (Nat.le_trans hsz q)
              refine ⟨⟨_, _, _, _, _, _, hq⟩, hB6.drew.keep f7 hbdpd, (hI.out.frm.trans (hF06.drew.mono hst)).trans (f7.mono (fun k hk => hI.out.sub k (hk ▸ H.out.xp))), fun k hk => ?_, fun hk => ?_⟩
              · rcases hk with hk | hk
                · exact hI.out.sub k hk
                · exact hst k (hS6 k hk)
              · rcases hk with hk | hk
                · exact hI.out.out hk
                · rcases hS6 _ hk with q | q
                  · exact hI.out.out (H.out.xs _ q)
                  · have := HB.out.lt; omega
            have HS7 := Lib.hid hS7
            have HI7 := Lib.hid hI7
            clear hS7 hI7
            clear hM5 hT5 hF5 hF6 hM6 hT6 hB6 hbr6 hb6 hq HTRY HB' HLOWX FXB HBRB
            go_upto_region 11 with (fail)
            refine wp_region_held (by kernel_rfl) (S := fun w' => w'.cell? ⟨bd, 0, none⟩ = some (.pointer (some ⟨pd, 0, none⟩)) ∧ w'.cell? ⟨br, 0, none⟩ = some (.pointer (some ⟨pr, 0, none⟩)) ∧ w'.cell? ⟨pr, 0, none⟩ = some (.slice A2 r2.length (cr - k1)) ∧ pr < w'.heap.size) ?_
            change wpAnyH _ _ _ _ _ _ _ _ w6.drew
            refine wpAnyH_takeB (i := 0) (v := ?_) (d := some 41) rfl (by rfl) (by kernel_rfl) (fun _ _ _ h => h) (by rfl) hS (fun w hSw => ?_) ?_
            rotate_left
            · (try dsimp only at hSw); (try subst hSw); go_simp; first | done | (with_reducible rfl)
            simp only [Act.put, List.setIfInBounds_toArray, List.set_cons_zero, List.set_cons_succ]
            refine wpAnyH_takeB (i := 1) (v := ?_) (d := some 42) rfl (by rfl) (by kernel_rfl) (fun _ _ _ h => h) (by rfl) hS (fun w hSw => ?_) ?_
            rotate_left
            · (try dsimp only at hSw); (try subst hSw); go_simp; first | done | (with_reducible rfl)
            simp only [Act.put, List.setIfInBounds_toArray, List.set_cons_zero, List.set_cons_succ]
            refine wpAnyH_takeB (i := 2) (v := ?_) (d := some 43) rfl (by rfl) (by kernel_rfl) (fun _ _ _ h => h) (by rfl) hS (fun w hSw => ?_) ?_
            rotate_left
            · (try dsimp only at hSw); (try subst hSw); go_simp; first | done | (with_reducible rfl)
            simp only [Act.put, List.setIfInBounds_toArray, List.set_cons_zero, List.set_cons_succ]
            refine wpAnyH_takeB (i := 3) (v := ?_) (d := some 44) rfl (by rfl) (by kernel_rfl) (fun _ _ _ h => h) (by rfl) hS (fun w hSw => ?_) ?_
            rotate_left
            · (try dsimp only at hSw); (try subst hSw); go_simp; first | done | (with_reducible rfl)
            simp only [Act.put, List.setIfInBounds_toArray, List.set_cons_zero, List.set_cons_succ]
            refine wpAnyH_takeB (i := 4) (v := ?_) (d := some 45) rfl (by rfl) (by kernel_rfl) (fun _ _ _ h => h) (by rfl) hS (fun w hSw => ?_) ?_
            rotate_left
            · (try dsimp only at hSw); (try subst hSw); go_simp; first | done | (with_reducible rfl)
            simp only [Act.put, List.setIfInBounds_toArray, List.set_cons_zero, List.set_cons_succ]
            refine wpAnyH_oneB (i := 5) rfl (by kernel_rfl) (fun K hK => ?_)
            refine Eq.mpr (if_pos (by rfl)) ?_
            go_simp
            refine hK.out _ _ (hS) ?_
            clear hK K
            try simp only [Act.put, List.setIfInBounds_toArray, List.set_cons_zero, List.set_cons_succ]
            refine wpAnyH_oneB (i := 6) rfl (by kernel_rfl) (fun K hK => ?_)
            refine Eq.mpr (if_pos (by rfl)) ?_
            go_simp
            refine hK.out _ _ (hS) ?_
            clear hK K
            try simp only [Act.put, List.setIfInBounds_toArray, List.set_cons_zero, List.set_cons_succ]
            refine wpAnyH_oneB (i := 7) rfl (by kernel_rfl) (fun K hK => ?_)
            refine Eq.mpr (if_pos (by rfl)) ?_
            go_simp
            refine hK.out _ _ (HS7.out) ?_
            clear hK K
            try simp only [Act.put, List.setIfInBounds_toArray, List.set_cons_zero, List.set_cons_succ]
            refine wpAnyH_done (by kernel_rfl) ?_ _
            go_wp2
            go_roundg (gk - 1)
            case measure => have := HRL1.out; omega
            case rel => exact ⟨fu, T1, r2, _, by have := HRL1.out; omega, by have := HRL1.out; omega, by have := HRL1.out; omega, hE3, HI7⟩
          · have htry := qtryF_bad #[.pointer (some ⟨bd, 0, none⟩), .pointer (some ⟨br, 0, none⟩)] wa x1 (fun w' => Frm (fun j => j = pr ∨ New wb j) wb w') (by
              rw [← hwb]
              refine hcl.mono ?_
              intro e w' hh
              unfold InsR at hh
              rw [if_neg hx1] at hh
              obtain ⟨e1, e2⟩ := hh
              exact ⟨e1, e2, hbe.keep e2 (fun q => by
                rcases q with q | q
                · omega
                · unfold New at q; omega)⟩)
            have hE3 : R = if x1 = 20 then (T, r, false) else (T, r, true) := by rw [hE2.out, if_neg hx1]
            have hor : x1 = 20 ∨ x1 = 26 := by rcases hfa.1 with q | q | q; exact absurd q hx1; exact .inl q; exact .inr q
            clear hcl hwb hfa hE2
            have hst : ∀ w5 w6, Frm (fun j => j = pr ∨ New wb j) wb w5 → Frm (fun k => k = wa.heap.size ∨ New w5 k) w5 w6 → Frm (New wx) wx w6 := fun w5 w6 h5 h6 => by
              have z1 := fxb.size
              have z2 := h5.size
              refine (fxb.trans (h5.mono (fun k hk => ?_))).trans (h6.mono (fun k hk => ?_))
              · rcases hk with hk | hk
                · subst hk; exact hprx
                · exact Nat.le_trans z1 hk
              · rcases hk with hk | hk
                · subst hk; exact Nat.le_of_lt hxa
                · exact Nat.le_trans (Nat.le_trans z1 z2) hk
            have hkeep : ∀ w6, Frm (New wx) wx w6 → FeedIn X w pd g bm bd D T r X1 w6 := fun w6 h6 => ⟨hI.out.at_.fresh h6, hI.out.box.fresh h6, hI.out.frm.trans (h6.mono (fun k hk => .inr (Nat.le_trans hI.out.frm.size hk))), hI.out.sub, hI.out.out⟩
            by_cases h20 : x1 = 20
            · subst h20
              rw [if_pos rfl] at hE3
              rw [show ((20 : Nat) : Int) = 20 from rfl] at htry
              have HTRY := Lib.hid htry
              have H := Lib.hid h
              have HB' := Lib.hid hb
              have HB := Lib.hid hB
              have HE3 := Lib.hid hE3
              have HST := Lib.hid hst
              have HKEEP := Lib.hid hkeep
              clear htry h hb hB hE3 hst hkeep
              clear fxb hbrb hlowx hSb hx1 hor hrdb hbe
              go_wp2_with (fail)
              rw [HWAL.out, ← HBRQ.out, ← HPR.out]
              refine HTRY.out.mono ?_
              rintro e w6 ⟨rfl, w5, h5, h6⟩
              have hI6 := HKEEP.out w6 (HST.out w5 w6 h5 h6)
              clear h5 h6
              have HI6 := Lib.hid hI6
              clear hI6
              go_wp2
              go_ret
              refine ⟨?_, X1, ?_, HI6.out.frm, HI6.out.sub⟩
              · rw [HRX.out, HE3.out]; rfl
              · rw [HD2.out, HE3.out]
                show QdAt X1 w6 pd g bm { D with t := T, rest := r, bad := false }
                rw [HDB.out]
                exact HI6.out.at_
            · obtain rfl : x1 = 26 := by rcases hor with q | q; exact absurd q h20; exact q
              rw [if_neg h20] at hE3
              rw [show ((26 : Nat) : Int) = 26 from rfl] at htry
              have HTRY := Lib.hid htry
              have H := Lib.hid h
              have HB' := Lib.hid hb
              have HB := Lib.hid hB
              have HE3 := Lib.hid hE3
              have HST := Lib.hid hst
              have HKEEP := Lib.hid hkeep
              clear htry h hb hB hE3 hst hkeep
              clear fxb hbrb hlowx hSb hx1 hor hrdb hbe h20
              go_wp2_with (fail)
              rw [HWAL.out, ← HBRQ.out, ← HPR.out]
              refine HTRY.out.mono ?_
              rintro e w6 ⟨rfl, w5, h5, h6⟩
              have hI6 := HKEEP.out w6 (HST.out w5 w6 h5 h6)
              clear h5 h6 hx0 hlx hy4 hl
              have hB6 := hI6.box
              have hx0 := hB6.cell 0
              simp only [List.getElem?_toArray, List.getElem?_cons_zero] at hx0
              have hlx := hB6.lt
              obtain ⟨S6, Ar6, cr6, Ao6, co6, ents6, hq⟩ := hI6.at_
              have hb6 := hq.blk
              have hc7 := hb6.cell 7
              have hz7 := hb6.frozen 7
              have hl := hb6.lt
              have hq7 := hq.setbad true
              have f7 : Frm (fun k => k = pd) w6 (w6.setCell ⟨pd, 7, none⟩ (.bool true)) := (Frm.refl (fun k => k = pd) w6).setCell (p := ⟨pd, 7, none⟩) rfl _
              have HI6 := Lib.hid hI6
              have HQ := Lib.hid hq
              have HQ7 := Lib.hid hq7
              have HB6 := Lib.hid hb6
              have HB6 := Lib.hid hB6
              clear hI6 hq hq7 hb6 hB6
              go_wp2
              go_ret
              refine ⟨?_, X1, ?_, HI6.out.frm.trans (f7.mono (fun k hk => HI6.out.sub k (hk ▸ HQ.out.xp))), HI6.out.sub⟩
              · rw [HRX.out, HE3.out]; rfl
              · rw [HD2.out, HE3.out]
                exact ⟨_, _, _, _, _, _, HQ7.out⟩
end Go.Proofs.Ytdgggjeiflllhaa.M

