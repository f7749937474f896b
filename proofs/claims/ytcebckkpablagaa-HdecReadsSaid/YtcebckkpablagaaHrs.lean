/- bifoldlaw6.HdecReads: for every input it tells true. No condition. -/
import Derived.Deep.CutBlock
import Derived.Test.YtcebckkpablagaaTwo
import Derived.Test.YtcebckkpablagaaKn6
import Derived.Test.YtcebckkpablagaaIn
namespace Go.Proofs.Ytcebckkpablagaa.M
open Go.ChangeShapes Go.WideShapes Go.ChangeAt Go.RowKit

/-- the blocks of the loop -/
structure RsIn (w : World) (S : Nat → Prop) (pd : Nat) (S2 : Nat → Prop) (p2 : Nat) (G : Nat) : Prop where
  far : DFar w S pd S2 p2 (some ⟨G, 0, none⟩)
  each : ∀ k, k < 3 → ∃ (b : Bytes) (A : Option Addr) (c : Nat), w.cell? ⟨G, k, none⟩ = some (.slice A b.length c) ∧ Rd w A (bvs b) ∧ DFar w S pd S2 p2 A ∧ b.length ≤ c ∧ b.length ≤ 200
section
variable {w w' : World} {S S' S2 : Nat → Prop} {pd p2 G : Nat}
theorem RsIn.hdec (h : RsIn w S pd S2 p2 G) (F : Frm (Wrt w S pd) w w') (hS : ∀ k, S' k → Own S w k) : RsIn w' S' pd S2 p2 G := by
  refine ⟨h.far.hdec F hS, fun k hk => ?_⟩
  obtain ⟨b, A, c, h1, h2, h3, h4, h5⟩ := h.each k hk
  exact ⟨b, A, c, by rw [F.cell (h.far.not_h G rfl)]; exact h1, h2.keep F h3.not_h, h3.hdec F hS, h4, h5⟩
theorem RsIn.rdec (h : RsIn w S pd S2 p2 G) (F : Frm (Wrt w S2 p2) w w') (hS : ∀ k, S' k → Own S2 w k) : RsIn w' S pd S' p2 G := by
  refine ⟨h.far.rdec F hS, fun k hk => ?_⟩
  obtain ⟨b, A, c, h1, h2, h3, h4, h5⟩ := h.each k hk
  exact ⟨b, A, c, by rw [F.cell (h.far.not_r G rfl)]; exact h1, h2.keep F h3.not_r, h3.rdec F hS, h4, h5⟩
theorem RsIn.fresh (h : RsIn w S pd S2 p2 G) (F : Frm (New w) w w') : RsIn w' S pd S2 p2 G := by
  refine ⟨h.far.fresh F, fun k hk => ?_⟩
  obtain ⟨b, A, c, h1, h2, h3, h4, h5⟩ := h.each k hk
  have hG := (h.far G rfl).2.2.2.2
  exact ⟨b, A, c, by rw [F.cell (by unfold New; simp only; omega)]; exact h1, h2.fresh F, h3.fresh F, h4, h5⟩
end

set_option maxRecDepth 100000 in
set_option maxHeartbeats 4000000 in
theorem reads_walk (A1 : Option Addr) (n1 c1 : Nat) (b1 : Bytes) (A2 : Option Addr) (n2 c2 : Nat) (b2 : Bytes) (v : Int) (W : World) (h1 : BIn W A1 n1 c1 b1) (h2 : BIn W A2 n2 c2 b2) (hv : (Lit.int .u16 v).wf = true) :
    Calls Try.prog 8 #[.slice A1 n1 c1, .slice A2 n2 c2, .int .u16 v] W fun e w' => e = .returned (.bool true) ∧ Below W.heap.size W w' := by
  obtain ⟨hn1, hR1, hlow1, _, hcap1, _⟩ := h1
  obtain ⟨hn2, hR2, hlow2, _, hcap2, _⟩ := h2
  have hv : 0 ≤ v ∧ v ≤ 65535 := by
    simp only [Lit.wf, decide_eq_true_eq, Bool.and_eq_true] at hv; exact hv
  subst hn1 hn2
  obtain ⟨v0, rfl⟩ : ∃ u : Nat, v = u := ⟨v.toNat, by omega⟩
  have hwv : IntKind.i64.wrap (v0 : Int) = v0 := IntWalk.i64_in _ (by omega)
  have HR1 := Lib.hid hR1
  have HLOW1 := Lib.hid hlow1
  have HR2 := Lib.hid hR2
  have HLOW2 := Lib.hid hlow2
  clear hR1 hlow1 hR2 hlow2
  go_enter Try.func8, Try.ntmps8
  go_wp2_with (fail)
  refine (known6_any _).mono ?_
  rintro e w1 ⟨rfl, hF1⟩
  have HF1 := Lib.hid hF1
  clear hF1
  by_cases q1 : 200 < b1.length
  · go_wp2
    go_ret
    exact ⟨rfl, HF1.out.below⟩
  by_cases q2 : 200 < b2.length
  · go_wp2
    go_ret
    exact ⟨rfl, HF1.out.below⟩
  go_wp2_with (fail)
  refine (hdnew_any v0 (by omega) (by omega) _).mono ?_
  rintro e w2 ⟨S, pd, g, rfl, hE2, hF2, hS2, hp2⟩
  go_wp2_with (fail)
  refine (rdnew_any v0 (by omega) (by omega) _).mono ?_
  rintro e w3 ⟨S2, p2, g2, rfl, hE3, hF3, hS3, hp3⟩
  have hD3 := DSt.both HF1.out hE2 hF2 hS2 hp2 hE3 hF3 hS3 hp3
  generalize lim (v0 : Int) = c0 at *
  have hFa : Frm (New w3) w3 (w3.alloc (Obj.cells #[.int .u8 130] 5)) := (Frm.refl _ _).alloc Up.new _
  have hFb := hFa.alloc Up.new (Obj.cells #[.slice A1 b1.length c1, .slice A2 b2.length c2, .slice (some ⟨w3.heap.size, 0, none⟩) 1 1] 22)
  have hD4 := hD3.fresh hFb
  have hI : RsIn ((w3.alloc (Obj.cells #[.int .u8 130] 5)).alloc (Obj.cells #[.slice A1 b1.length c1, .slice A2 b2.length c2, .slice (some ⟨w3.heap.size, 0, none⟩) 1 1] 22)) S pd S2 p2 (w3.heap.size + 1) := by
    have hB := Blk.new (w3.alloc (Obj.cells #[.int .u8 130] 5)) 22 #[.slice A1 b1.length c1, .slice A2 b2.length c2, .slice (some ⟨w3.heap.size, 0, none⟩) 1 1]
    rw [show (w3.alloc (Obj.cells #[.int .u8 130] 5)).heap.size = w3.heap.size + 1 by simp] at hB
    have hlt := hB.lt
    have hs3 := hD3.frm.size
    have hW := hD4.frm
    refine ⟨DFar.new hD3 (fun k hk => ?_), fun k hk => ?_⟩
    · have hk2 : w3.heap.size + 1 = k := by simpa using hk
      omega
    · obtain rfl | rfl | rfl : k = 0 ∨ k = 1 ∨ k = 2 := by omega
      · exact ⟨b1, A1, c1, hB.cell 0, HR1.out.keep hW (fun k hk c => by have := HLOW1.out k hk; unfold New at c; omega), DFar.low hD4 HLOW1.out, hcap1, by omega⟩
      · exact ⟨b2, A2, c2, hB.cell 1, HR2.out.keep hW (fun k hk c => by have := HLOW2.out k hk; unfold New at c; omega), DFar.low hD4 HLOW2.out, hcap2, by omega⟩
      · refine ⟨[130], some ⟨w3.heap.size, 0, none⟩, 1, hB.cell 2, (Rd.new w3 #[.int .u8 130] 5).fresh ((Frm.refl _ _).alloc Up.new _), DFar.new hD3 (fun k hk => ?_), by simp, by simp⟩
        have hk2 : w3.heap.size = k := by simpa using hk
        omega
  have HD4 := Lib.hid hD4
  have HI := Lib.hid hI
  clear hD4 hI
  clear hD3 hE2 hE3 hF2 hF3 hS2 hS3 hp2 hp3 hFa hFb HF1 HR1 HR2 HLOW1 HLOW2
  go_wp2
  go_loopw [36] (fun i wr => ∃ (k : Nat) (S : Nat → Prop) (D : De) (S2 : Nat → Prop) (D2 : De), k ≤ 3 ∧ i = .int .i64 k ∧ Hid (DSt W wr S pd g D S2 p2 g2 D2) ∧ Hid (RsIn wr S pd S2 p2 (w3.heap.size + 1)) ∧ Hid (Alike D D2) ∧ Hid (D.bad = false → D.t.n ≤ 200 * k) ∧ Hid (D2.bad = false → D2.t.n ≤ 200 * k)) (fun i _ => 3 - (intOf i).toNat)
  case atStart => exact ⟨0, S, _, S2, _, by omega, rfl, HD4, HI, .inl rfl, fun _ => Nat.le_refl _, fun _ => Nat.le_refl _⟩
  case round =>
    obtain ⟨k, S', D, S2', D2, hk, rfl, hS, hI, hal, hn, hn2⟩ := hrel
    clear HD4 HI
    by_cases hlt : k < 3
    · obtain ⟨b, A, c, hcell, hR, hfar, hbc, hb200⟩ := hI.out.each k hlt
      have hG := World.block_lt_of_cell? _ _ hcell
      have HR := Lib.hid hR
      have HFAR := Lib.hid hfar
      clear hR hfar
      go_wp2_with (fail)
      refine (hstep hS.out b A c HR.out hbc HFAR.out (by omega) (fun q => by have := hn.out q; omega)).mono ?_
      rintro e w5 ⟨S5, D5, A5, c5, rfl, hS5, hK5, hd5, hF5, hO5, _⟩
      have hI5 := hI.out.hdec hF5 hO5
      have hR5 := HR.out.keep hF5 HFAR.out.not_h
      have hfar5 := HFAR.out.hdec hF5 hO5
      clear hcell hG
      have HS5 := Lib.hid hS5
      have HK5 := Lib.hid hK5
      have HD5 := Lib.hid hd5
      have HI5 := Lib.hid hI5
      have HR5 := Lib.hid hR5
      have HFAR5 := Lib.hid hfar5
      clear hS5 hK5 hd5 hI5 hR5 hfar5
      clear hF5 hO5
      go_wp2_with (fail)
      refine (rstep HS5.out b A c HR5.out hbc HFAR5.out (by omega) (fun q => by have := hn2.out q; omega)).mono ?_
      rintro e w6 ⟨S6, D6, A6, c6, rfl, hS6, hK6, hd6, hF6, hO6, _⟩
      have hI6 := HI5.out.rdec hF6 hO6
      have hK56 := HK5.out.rdec hF6 hO6
      rw [← hal.out.run b] at hK6 ⊢
      have hll := run_le D b
      have hal6 := hal.out.next HD5.out hd6
      have hn5 := oD_n HD5.out hn.out
      have hn6 := oD_n hd6 hn2.out
      have HS6 := Lib.hid hS6
      have HK6 := Lib.hid hK6
      have HD6 := Lib.hid hd6
      have HI6 := Lib.hid hI6
      have HK56 := Lib.hid hK56
      have HAL6 := Lib.hid hal6
      have HN5 := Lib.hid hn5
      have HN6 := Lib.hid hn6
      clear hS6 hK6 hd6 hI6 hK56 hal6 hn5 hn6
      clear hF6 hO6
      generalize oL (D.run b) = l at *
      generalize oE (D.run b) = er at *
      go_wp2_with (go_at_call 31
                   refine (fields_eq l _ _ _ _ _ HK56.out.rd HK6.out.rd (by omega)).mono ?_
                   rintro e w7 ⟨rfl, n7, hw7⟩
                   rw [hw7]
                   clear hw7)
      have hF7 : Frm (New w6) w6 (w6.drewN n7) := (Frm.refl _ _).drewN n7
      go_roundw
      case rel => exact ⟨k + 1, S5, D5, S6, D6, by omega, by go_num, HS6.out.fresh hF7, HI6.out.fresh hF7, HAL6, fun q => by have := HN5.out q; omega, fun q => by have := HN6.out q; omega⟩
      case measure => simp [intOf]; omega
    · obtain rfl : k = 3 := by omega
      go_wp2
      go_ret
      exact ⟨rfl, hS.out.frm.below⟩
end Go.Proofs.Ytcebckkpablagaa.M
