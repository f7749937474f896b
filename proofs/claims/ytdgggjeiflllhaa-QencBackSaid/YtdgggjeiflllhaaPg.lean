/- The document's QPACK decoder and encoder: made; who waits; a section's prefix that is right. The document's QPACK decoder: Send; a section's prefix that is right. -/
import Derived.BigQuiet
import Derived.Deep.CutBlock
import Derived.Lib.Hide
import Derived.IntWalk
import Derived.Deep.LoopGhost
import Derived.Test.YtdgggjeiflllhaaPe
import Derived.Test.YtdgggjeiflllhaaRtab
import Derived.Test.YtdgggjeiflllhaaEncp
import Derived.StillTailTactics
import Derived.Test.YtdgggjeiflllhaaPa
namespace Go.Proofs.Ytdgggjeiflllhaa.M
open Go.ChangeShapes Go.WideShapes Go.ChangeAt Go.RowKit

def Qd.new (l b : Nat) : Qd := ⟨⟨[], 0, 0⟩, l, b, [], [], [], 0, false⟩
/-- what NewDecoder makes -/
def DqNew (w : World) (l b : Nat) (e : Ending) (w' : World) : Prop := ∃ (X : Nat → Prop) (pd g : Nat) (S : Nat → Prop), e = .returned (.pointer (some ⟨pd, 0, none⟩)) ∧ RqM X w' pd g S none 0 [] none 0 (Qd.new l b) ∧ Frm (New w) w w' ∧ ∀ k, X k → w.heap.size ≤ k
theorem dqnew_end {S : Nat → Prop} {w w2 : World} {g : Nat} (hT : RTabAt S w2 g [] 0 0 none 0) (hF : Frm (New w) w w2) (hS : ∀ k, S k → w.heap.size ≤ k) {l b : Nat} {v : Int} (hv : v = (b : Int)) (hl : l ≤ 4096) :
    DqNew w l b (.returned (.pointer (some ⟨w2.heap.size, 0, none⟩))) (w2.alloc (.cells #[.pointer (some ⟨g, 0, none⟩), .int .i64 (l : Int), .int .i64 v, .slice none 0 0, .bool false, .slice none 0 0, .slice none 0 0, .int .u64 0] 80)) := by
  subst hv
  have hF2 : Frm (New w2) w2 (w2.alloc (.cells #[.pointer (some ⟨g, 0, none⟩), .int .i64 (l : Int), .int .i64 (b : Int), .slice none 0 0, .bool false, .slice none 0 0, .slice none 0 0, .int .u64 0] 80)) := (Frm.refl _ _).alloc Up.new _
  have hB := Blk.new w2 80 #[.pointer (some ⟨g, 0, none⟩), .int .i64 (l : Int), .int .i64 (b : Int), .slice none 0 0, .bool false, .slice none 0 0, .slice none 0 0, .int .u64 0]
  have hlow := hT.low
  have hT2 := hT.fresh hF2
  refine ⟨fun k => S k ∨ k = w2.heap.size, w2.heap.size, g, S, rfl, ?_, hF.then_new Up.new hF2, fun k hk => ?_⟩
  · exact {
      blk := hB
      tab := ⟨none, 0, hT2⟩
      rest := fun j u hu => by simp [bvs] at hu
      rc := Nat.le_refl _
      rr := fun k hk => by cases hk
      out := App.none_
      low := fun k hk => by
        rcases hk with hk | hk
        · exact Nat.lt_of_lt_of_le (hlow k hk) hF2.size
        · exact hk ▸ hB.lt
      xp := .inr rfl, xs := fun k hk => .inl hk
      ps := fun e => Nat.lt_irrefl _ (hlow _ e)
      ro := fun k hk => by cases hk
      ok := ⟨Nat.le_refl _, Nat.le_refl _⟩
      cap := Nat.zero_le _, lim := hl, nb := Nat.zero_le _, rl := Nat.zero_le _, tl := Nat.zero_le _, ol := Nat.zero_le _ }
  · rcases hk with hk | hk
    · exact hS k hk
    · exact hk ▸ hF.size
set_option maxRecDepth 100000 in
set_option maxHeartbeats 1000000 in
theorem clamp8_any (n : Int) (h0 : -9223372036854775808 ≤ n) (h1 : n ≤ 9223372036854775807) (w : World) :
    Calls Try.prog 41 #[.int .i64 n] w fun e w' => e = .returned (.int .i64 (lim n : Nat)) ∧ w' = w := by
  have hl : ((lim n : Nat) : Int) = min (max n 0) 4096 := by unfold lim; omega
  have HL := Lib.hid hl
  clear hl
  go_enter Try.func41, Try.ntmps41
  by_cases q0 : n < 0
  · have g0 : ¬ (0 ≤ n) := by omega
    go_wp2
    go_ret
    refine ⟨?_, rfl⟩
    refine ret_int ?_
    rw [HL.out]; omega
  · have g0 : 0 ≤ n := by omega
    by_cases q1 : n ≤ 4096
    · go_wp2
      go_ret
      refine ⟨?_, rfl⟩
      refine ret_int ?_
      rw [HL.out]; omega
    · have g1 : 4096 < n := by omega
      go_wp2
      go_ret
      refine ⟨?_, rfl⟩
      refine ret_int ?_
      rw [HL.out]; omega
set_option maxRecDepth 100000 in
set_option maxHeartbeats 1000000 in
theorem dqnew_any (n k : Int) (n0 : -9223372036854775808 ≤ n) (n1 : n ≤ 9223372036854775807) (k0 : -9223372036854775808 ≤ k) (k1 : k ≤ 9223372036854775807) (w : World) :
    Calls Try.prog 12 #[.int .i64 n, .int .i64 k] w (DqNew w (lim n) (max k 0).toNat) := by
  have hm : ((max k 0).toNat : Int) = max k 0 := by omega
  have hle := lim_le n
  have hcl := fun w' => clamp8_any n n0 n1 w'
  generalize lim n = c at *
  generalize (max k 0).toNat = b at *
  have hnw := fun w' => rtnew_any 0 (by omega) w'
  have HM := Lib.hid hm
  have HLE := Lib.hid hle
  have HNW := Lib.hid hnw
  have HCL := Lib.hid hcl
  clear hm hle hnw hcl
  go_enter Try.func12, Try.ntmps12
  go_wp2_with (fail)
  refine (HNW.out w).mono ?_
  rintro e w2 ⟨S, g, rfl, hT, hF, hS⟩
  have HT := Lib.hid hT
  have HF := Lib.hid hF
  have HS := Lib.hid hS
  clear hT hF hS
  go_wp2_with (fail)
  refine (HCL.out w2).mono ?_
  rintro e w3 ⟨rfl, hw3⟩
  rw [hw3]
  clear hw3 w3
  go_wp2_with (fail)
  all_goals go_ret
  all_goals
    refine dqnew_end HT.out HF.out HS.out ?_ HLE.out
    have := HM.out
    omega
set_option maxRecDepth 100000 in
set_option maxHeartbeats 1000000 in
theorem rqwaits_nil {w : World} {pd : Nat} (s : Nat) (h : w.cell? ⟨pd, 5, none⟩ = some (.slice none 0 0)) : Calls Try.prog 49 #[.pointer (some ⟨pd, 0, none⟩), .int .u64 (s : Int)] w fun e w' => e = .returned (.int .i64 (-1)) ∧ w' = w := by
  have hl : pd < w.heap.size := World.block_lt_of_cell? _ _ h
  go_enter Try.func49, Try.ntmps49
  go_wp2_with (fail)
  go_loopg [5] 0 (fun kk v5 wx => v5 = .int .i64 0 ∧ kk = 0 ∧ wx = w)
  case atStart => exact ⟨rfl, rfl, rfl⟩
  case round =>
    obtain ⟨rfl, hk, rfl⟩ := hrel
    go_wp2
    go_ret
    exact ⟨rfl, rfl⟩
set_option maxRecDepth 100000 in
set_option maxHeartbeats 1000000 in
theorem rqforget_nil {w : World} {pd : Nat} (s : Nat) (h : w.cell? ⟨pd, 5, none⟩ = some (.slice none 0 0)) : Calls Try.prog 50 #[.pointer (some ⟨pd, 0, none⟩), .int .u64 (s : Int)] w fun e w' => e = .returned (.tuple #[]) ∧ w' = w := by
  have hw := rqwaits_nil (w := w) s h
  have H := Lib.hid h
  have HW := Lib.hid hw
  clear h hw
  go_enter Try.func50, Try.ntmps50
  go_wp2_with (fail)
  refine HW.out.mono ?_
  rintro e w3 ⟨rfl, hw3⟩
  rw [hw3]
  clear hw3 w3
  go_wp2
  go_end0
  exact ⟨rfl, rfl⟩
end Go.Proofs.Ytdgggjeiflllhaa.M
namespace Go.Proofs.Ytdgggjeiflllhaa.M
open Go.ChangeShapes Go.WideShapes Go.ChangeAt Go.RowKit

theorem RqM.sent {X S : Nat → Prop} {w w' : World} {pd g cr co : Nat} {Ar Ao : Option Addr} {D : Qd} (h : RqM X w pd g S Ar cr [] Ao co D) (f : Frm (fun k => M.blk Ao = some k ∨ New w k) w w') (n : Nat) (hn : n ≤ 1152921504606846976) :
    RqM X ((w'.setCell ⟨pd, 7, none⟩ (.int .u64 (n : Int))).setCell ⟨pd, 6, none⟩ (.slice none 0 0)) pd g S Ar cr [] none 0 { D with out := [], told := n } := by
  have hx : ∀ k, X k → M.blk Ao ≠ some k → ¬ (M.blk Ao = some k ∨ New w k) := fun k hk hn e => by
    rcases e with e | e
    · exact hn e
    · have := h.low k hk; unfold New at e; omega
  have f2 : Frm (fun k => k = pd) w' ((w'.setCell ⟨pd, 7, none⟩ (.int .u64 (n : Int))).setCell ⟨pd, 6, none⟩ (.slice none 0 0)) := ((Frm.refl (fun k => k = pd) w').setCell (p := ⟨pd, 7, none⟩) rfl _).setCell (p := ⟨pd, 6, none⟩) rfl _
  have hb := ((h.blk.keep f (hx pd h.xp (fun e => (h.ro pd e).2.2 rfl))).set_ 7 (.int .u64 (n : Int))).set_ 6 (.slice none 0 0)
  exact {
    blk := by simpa using hb
    tab := (h.tab.keep f (fun k hk => hx k (h.xs k hk) (fun e => (h.ro k e).2.1 hk))).keep f2 (fun k hk e => h.ps (e ▸ hk))
    rest := fun j u hu => by simp [bvs] at hu
    rc := h.rc, rr := fun k hk e => absurd rfl e
    out := App.none_
    low := fun k hk => Nat.lt_of_lt_of_le (Nat.lt_of_lt_of_le (h.low k hk) f.size) f2.size
    xp := h.xp, xs := h.xs, ps := h.ps
    ro := fun k hk => by cases hk
    ok := h.ok, cap := h.cap, lim := h.lim, nb := h.nb, rl := h.rl, tl := hn, ol := Nat.zero_le _ }
theorem RqM.sent0 {X S : Nat → Prop} {w : World} {pd g cr co : Nat} {Ar Ao : Option Addr} {D : Qd} (h : RqM X w pd g S Ar cr [] Ao co D) :
    RqM X (w.setCell ⟨pd, 6, none⟩ (.slice none 0 0)) pd g S Ar cr [] none 0 { D with out := [] } := by
  have f2 : Frm (fun k => k = pd) w (w.setCell ⟨pd, 6, none⟩ (.slice none 0 0)) := (Frm.refl (fun k => k = pd) w).setCell (p := ⟨pd, 6, none⟩) rfl _
  have hb := h.blk.set_ 6 (.slice none 0 0)
  exact {
    blk := by simpa using hb
    tab := h.tab.keep f2 (fun k hk e => h.ps (e ▸ hk))
    rest := fun j u hu => by simp [bvs] at hu
    rc := h.rc, rr := fun k hk e => absurd rfl e
    out := App.none_
    low := fun k hk => Nat.lt_of_lt_of_le (h.low k hk) f2.size
    xp := h.xp, xs := h.xs, ps := h.ps
    ro := fun k hk => by cases hk
    ok := h.ok, cap := h.cap, lim := h.lim, nb := h.nb, rl := h.rl, tl := h.tl, ol := Nat.zero_le _ }
/-- what Send leaves -/
def RqS (X : Nat → Prop) (w : World) (pd g : Nat) (S : Nat → Prop) (Ar : Option Addr) (cr : Nat) (b : Bytes) (D : Qd) (e : Ending) (w' : World) : Prop :=
  ∃ (A : Option Addr) (c : Nat), e = .returned (.slice A b.length c) ∧ b.length ≤ c ∧ Rd w' A (bvs b) ∧ (∀ k, M.blk A = some k → b ≠ [] → Own X w k ∧ k < w'.heap.size) ∧ RqM X w' pd g S Ar cr [] none 0 D ∧ Frm (Own X w) w w'
set_option maxRecDepth 100000 in
set_option maxHeartbeats 4000000 in
theorem rqsend_any {X S : Nat → Prop} {w : World} {pd g cr co : Nat} {Ar Ao : Option Addr} {D : Qd} (h : RqM X w pd g S Ar cr [] Ao co D) (ho : D.out.length ≤ 1073741824) :
    Calls Try.prog 19 #[.pointer (some ⟨pd, 0, none⟩)] w (RqS X w pd g S Ar cr D.send.1 D.send.2) := by
  have hb := h.blk
  have hy0 := hb.cell 0
  have hy6 := hb.cell 6
  have hy7 := hb.cell 7
  simp only [List.getElem?_toArray, List.getElem?_cons_zero, List.getElem?_cons_succ] at hy0 hy6 hy7
  have hl := hb.lt
  have hz6 := hb.frozen 6
  have ht := tab_cap h.tab
  obtain ⟨-, ht2, hgl⟩ := ht
  have hnb := h.nb
  by_cases hlt : D.told < D.t.n
  · have hli : (D.told : Int) < (D.t.n : Int) := by omega
    obtain ⟨v, hv⟩ : ∃ v, v = D.t.n - D.told := ⟨_, rfl⟩
    have hwr : IntKind.u64.wrap ((D.t.n : Int) - (D.told : Int)) = (v : Int) := by
      rw [show ((D.t.n : Int) - (D.told : Int)) = (v : Int) by omega]
      exact IntWalk.u64_in _ (by omega)
    have hs1 : D.send.1 = D.out ++ pfx 0 6 v := by unfold Qd.send; rw [hv]; simp only [if_pos hlt]
    have hs2 : D.send.2 = { D with out := [], told := D.t.n } := by unfold Qd.send; rw [show max D.told D.t.n = D.t.n by omega]
    rw [hs1, hs2]
    obtain ⟨l2, hl2⟩ : ∃ l2, l2 = D.out ++ pfx 0 6 v := ⟨_, rfl⟩
    have hl2n : l2 ≠ [] := by rw [hl2]; exact pfx_ne _ _ _ _
    have hp := fun w' (fr : Frm (New w) w w') => rprefix_nat (fun k => M.blk Ao = some k ∨ New w' k) D.out Ao co 0 6 v w' (fun k hk => .inr hk) ((h.out.fresh fr).tight) (by omega) (by decide) (by decide) (by decide) (by omega)
    rw [← hl2] at hp ⊢
    clear hl2
    have hsw : ∀ w', Frm (fun k => M.blk Ao = some k ∨ New w k) w w' → w'.cell? ⟨pd, 0, none⟩ = some (.pointer (some ⟨g, 0, none⟩)) ∧ w'.cell? ⟨pd, 7, none⟩ = some (.int .u64 (D.told : Int)) ∧ w'.cell? ⟨g, 2, none⟩ = some (.int .u64 (D.t.n : Int)) ∧ pd < w'.heap.size ∧ g < w'.heap.size := fun w' fr => by
      have n1 : ∀ k, X k → M.blk Ao ≠ some k → ¬ (M.blk Ao = some k ∨ New w k) := fun k hk hn e => by
        rcases e with e | e
        · exact hn e
        · have := h.low k hk; unfold New at e; omega
      have b1 := h.blk.keep fr (n1 pd h.xp (fun e => (h.ro pd e).2.2 rfl))
      have t1 := tab_cap (h.tab.keep fr (fun k hk => n1 k (h.xs k hk) (fun e => (h.ro k e).2.1 hk)))
      exact ⟨b1.cell 0, b1.cell 7, t1.2.1, b1.lt, t1.2.2⟩
    have H := Lib.hid h
    have HB := Lib.hid hb
    have HP := Lib.hid hp
    have HV := Lib.hid hv
    have HS1 := Lib.hid hs1
    have HS2 := Lib.hid hs2
    have HSW := Lib.hid hsw
    clear h hb hp hv hs1 hs2 hsw
    go_enter Try.func19, Try.ntmps19
    go_upto_region 2 with (fail)
    go_quiet (fail)
    go_upto_region 3 with (fail)
    have hS0 := HSW.out (w.drewN nq).drew (((Frm.refl _ _).drewN nq).drew)
    clear hy0 hy6 hy7 hz6 ht2 hgl hl
    refine wp_region_held (by kernel_rfl) (S := fun w' => w'.cell? ⟨pd, 0, none⟩ = some (.pointer (some ⟨g, 0, none⟩)) ∧ w'.cell? ⟨pd, 7, none⟩ = some (.int .u64 (D.told : Int)) ∧ w'.cell? ⟨g, 2, none⟩ = some (.int .u64 (D.t.n : Int)) ∧ pd < w'.heap.size ∧ g < w'.heap.size) ?_
    change wpAnyH _ _ _ _ _ _ _ _ (w.drewN nq).drew
    refine wpAnyH_takeB (i := 0) (v := ?_) (d := some 20) rfl (by rfl) (by kernel_rfl) (fun _ _ _ h => h) (by rfl) hS0 (fun w hSw => ?_) ?_
    rotate_left
    · (try dsimp only at hSw); (try subst hSw); go_simp; first | done | (with_reducible rfl)
    simp only [Act.put, List.setIfInBounds_toArray, List.set_cons_zero, List.set_cons_succ]
    refine wpAnyH_takeB (i := 1) (v := ?_) (d := some 21) rfl (by rfl) (by kernel_rfl) (fun _ _ _ h => h) (by rfl) hS0 (fun w hSw => ?_) ?_
    rotate_left
    · (try dsimp only at hSw); (try subst hSw); go_simp; first | done | (with_reducible rfl)
    simp only [Act.put, List.setIfInBounds_toArray, List.set_cons_zero, List.set_cons_succ]
    refine wpAnyH_takeB (i := 2) (v := ?_) (d := some 22) rfl (by rfl) (by kernel_rfl) (fun _ _ _ h => h) (by rfl) hS0 (fun w hSw => ?_) ?_
    rotate_left
    · (try dsimp only at hSw); (try subst hSw); go_simp; first | done | (with_reducible rfl)
    simp only [Act.put, List.setIfInBounds_toArray, List.set_cons_zero, List.set_cons_succ]
    refine wpAnyH_takeB (i := 3) (v := ?_) (d := some 23) rfl (by rfl) (by kernel_rfl) (fun _ _ _ h => h) (by rfl) hS0 (fun w hSw => ?_) ?_
    rotate_left
    · (try dsimp only at hSw); (try subst hSw); go_simp; first | done | (with_reducible rfl)
    simp only [Act.put, List.setIfInBounds_toArray, List.set_cons_zero, List.set_cons_succ]
    refine wpAnyH_takeB (i := 4) (v := ?_) (d := some 24) rfl (by rfl) (by kernel_rfl) (fun _ _ _ h => h) (by rfl) hS0 (fun w hSw => ?_) ?_
    rotate_left
    · (try dsimp only at hSw); (try subst hSw); go_simp; first | done | (with_reducible rfl)
    simp only [Act.put, List.setIfInBounds_toArray, List.set_cons_zero, List.set_cons_succ]
    refine wpAnyH_takeB (i := 5) (v := ?_) (d := some 25) rfl (by rfl) (by kernel_rfl) (fun _ _ _ h => h) (by rfl) hS0 (fun w hSw => ?_) ?_
    rotate_left
    · (try dsimp only at hSw); (try subst hSw); go_simp; first | done | (with_reducible rfl)
    simp only [Act.put, List.setIfInBounds_toArray, List.set_cons_zero, List.set_cons_succ]
    refine wpAnyH_takeB (i := 6) (v := ?_) (d := some 26) rfl (by rfl) (by kernel_rfl) (fun _ _ _ h => h) (by rfl) hS0 (fun w hSw => ?_) ?_
    rotate_left
    · (try dsimp only at hSw); (try subst hSw); go_simp; first | done | (with_reducible rfl)
    simp only [Act.put, List.setIfInBounds_toArray, List.set_cons_zero, List.set_cons_succ]
    refine wpAnyH_takeB (i := 7) (v := ?_) (d := some 27) rfl (by rfl) (by kernel_rfl) (fun _ _ _ h => h) (by rfl) hS0 (fun w hSw => ?_) ?_
    rotate_left
    · (try dsimp only at hSw); (try subst hSw); go_simp; first | done | (with_reducible rfl)
    simp only [Act.put, List.setIfInBounds_toArray, List.set_cons_zero, List.set_cons_succ]
    refine wpAnyH_takeB (i := 8) (v := ?_) (d := some 28) rfl (by rfl) (by kernel_rfl) (fun _ _ _ h => h) (by rfl) hS0 (fun w hSw => ?_) ?_
    rotate_left
    · (try dsimp only at hSw); (try subst hSw); go_simp; first | done | (with_reducible rfl)
    simp only [Act.put, List.setIfInBounds_toArray, List.set_cons_zero, List.set_cons_succ]
    refine wpAnyH_takeB (i := 9) (v := ?_) (d := some 29) rfl (by rfl) (by kernel_rfl) (fun _ _ _ h => h) (by rfl) hS0 (fun w hSw => ?_) ?_
    rotate_left
    · (try dsimp only at hSw); (try subst hSw); go_simp; first | done | (with_reducible rfl)
    simp only [Act.put, List.setIfInBounds_toArray, List.set_cons_zero, List.set_cons_succ]
    refine wpAnyH_takeB (i := 10) (v := ?_) (d := some 30) rfl (by rfl) (by kernel_rfl) (fun _ _ _ h => h) (by rfl) hS0 (fun w hSw => ?_) ?_
    rotate_left
    · (try dsimp only at hSw); (try subst hSw); go_simp; first | done | (with_reducible rfl)
    simp only [Act.put, List.setIfInBounds_toArray, List.set_cons_zero, List.set_cons_succ]
    refine wpAnyH_takeB (i := 11) (v := ?_) (d := some 31) rfl (by rfl) (by kernel_rfl) (fun _ _ _ h => h) (by rfl) hS0 (fun w hSw => ?_) ?_
    rotate_left
    · (try dsimp only at hSw); (try subst hSw); go_simp; first | done | (with_reducible rfl)
    simp only [Act.put, List.setIfInBounds_toArray, List.set_cons_zero, List.set_cons_succ]
    refine wpAnyH_takeB (i := 12) (v := ?_) (d := some 32) rfl (by rfl) (by kernel_rfl) (fun _ _ _ h => h) (by rfl) hS0 (fun w hSw => ?_) ?_
    rotate_left
    · (try dsimp only at hSw); (try subst hSw); go_simp; first | done | (with_reducible rfl)
    simp only [Act.put, List.setIfInBounds_toArray, List.set_cons_zero, List.set_cons_succ]
    refine wpAnyH_oneB (i := 13) rfl (by kernel_rfl) (fun K hKK => ?_)
    refine Eq.mpr (if_pos (by rfl)) ?_
    go_wp2_with (fail)
    refine (HP.out (w.drewN nq).drew (((Frm.refl _ _).drewN nq).drew)).mono ?_
    rintro e w2 ⟨A2, c2, rfl, hA2, hF2⟩
    replace hF2 : Frm (fun k => M.blk Ao = some k ∨ New w k) w w2 := Frm.trans (((Frm.refl _ w).drewN nq).drew) hF2
    have hS2 := HSW.out w2 hF2
    refine hKK.out _ _ hS2 ?_
    clear hKK K hS0
    try simp only [Act.put, List.setIfInBounds_toArray, List.set_cons_zero, List.set_cons_succ]
    refine wpAnyH_oneB (i := 14) rfl (by kernel_rfl) (fun K hK => ?_)
    refine Eq.mpr (if_pos (by rfl)) ?_
    go_simp
    refine hK.out _ _ (hS2) ?_
    clear hK K
    try simp only [Act.put, List.setIfInBounds_toArray, List.set_cons_zero, List.set_cons_succ]
    refine wpAnyH_done (by kernel_rfl) ?_ _
    obtain ⟨hy0, hy7, hg2, hl, hgl⟩ := hS2
    have hnp : ¬ (M.blk Ao = some pd ∨ New w pd) := fun e => by
      rcases e with e | e
      · exact (H.out.ro pd e).2.2 rfl
      · have := H.out.low pd H.out.xp; unfold New at e; omega
    have hb2 := HB.out.keep hF2 hnp
    have hz7 := hb2.frozen 7
    have hz6 := hb2.frozen 6
    have hy6 := hb2.cell 6
    simp only [List.getElem?_toArray, List.getElem?_cons_zero, List.getElem?_cons_succ] at hy6
    have hQ := H.out.sent hF2 D.t.n hnb
    have hAo : ∀ k, M.blk A2 = some k → Own X w k := fun k hk => by
      rcases hA2.inM k hk with e | e
      · exact .inl (H.out.ro k e).1
      · exact .inr e
    have hApd : ∀ k, M.blk A2 = some k → k ≠ pd := fun k hk e => by
      subst e
      exact hnp (hA2.inM k hk)
    have hf3 : Frm (fun k => k = pd) w2 ((w2.setCell ⟨pd, 7, none⟩ (.int .u64 (D.t.n : Int))).setCell ⟨pd, 6, none⟩ (.slice none 0 0)) := ((Frm.refl (fun k => k = pd) w2).setCell (p := ⟨pd, 7, none⟩) rfl _).setCell (p := ⟨pd, 6, none⟩) rfl _
    have hA3 := hA2.keep hf3 (fun k hk e => hApd k hk e)
    have hlt3 := app_lt hA3 (by cases l2 with | nil => exact absurd rfl hl2n | cons x t => simp [bvs])
    have hF3 : Frm (Own X w) w ((w2.setCell ⟨pd, 7, none⟩ (.int .u64 (D.t.n : Int))).setCell ⟨pd, 6, none⟩ (.slice none 0 0)) := (hF2.mono (fun k hk => by
      rcases hk with e | e
      · exact .inl (H.out.ro k e).1
      · exact .inr e)).trans (hf3.mono (fun k hk => .inl (hk ▸ H.out.xp)))
    clear hA2 hF2 hf3 hApd hnp
    have HB2 := Lib.hid hb2
    have HQ := Lib.hid hQ
    have HAO := Lib.hid hAo
    have HA3 := Lib.hid hA3
    have HLT3 := Lib.hid hlt3
    have HF3 := Lib.hid hF3
    clear hb2 hQ hAo hA3 hlt3 hF3
    go_wp2
    go_ret
    exact ⟨A2, c2, rfl, HA3.out.cap, HA3.out.rd, fun k hk _ => ⟨HAO.out k hk, HLT3.out k hk⟩, HQ.out, HF3.out⟩
  · have hli : ¬ (D.told : Int) < (D.t.n : Int) := by omega
    have hs1 : D.send.1 = D.out := by unfold Qd.send; simp only [if_neg hlt]
    have hs2 : D.send.2 = { D with out := [] } := by unfold Qd.send; rw [show max D.told D.t.n = D.told by omega]
    rw [hs1, hs2]
    have H := Lib.hid h
    have HB := Lib.hid hb
    have HS1 := Lib.hid hs1
    have HS2 := Lib.hid hs2
    clear h hb hs1 hs2
    go_enter Try.func19, Try.ntmps19
    go_upto_region 2 with (fail)
    go_quiet (fail)
    have hF1 : Frm (New w) w (w.drewN nq) := (Frm.refl _ _).drewN nq
    have hQ := (H.out.fresh hF1).sent0
    have hf3 : Frm (fun k => k = pd) (w.drewN nq) ((w.drewN nq).setCell ⟨pd, 6, none⟩ (.slice none 0 0)) := (Frm.refl (fun k => k = pd) (w.drewN nq)).setCell (p := ⟨pd, 6, none⟩) rfl _
    have hA3 := (H.out.out.fresh hF1).keep hf3 (fun k hk e => (H.out.ro k hk).2.2 e)
    have hF3 : Frm (Own X w) w ((w.drewN nq).setCell ⟨pd, 6, none⟩ (.slice none 0 0)) := (hF1.mono (fun k hk => .inr hk)).trans (hf3.mono (fun k hk => .inl (hk ▸ H.out.xp)))
    have hlo := fun k (hk : M.blk Ao = some k) => Nat.lt_of_lt_of_le (H.out.low k (H.out.ro k hk).1) hF3.size
    have hro := H.out.ro
    have HQ := Lib.hid hQ
    have HA3 := Lib.hid hA3
    have HF3 := Lib.hid hF3
    have HLO := Lib.hid hlo
    have HRO := Lib.hid hro
    clear hQ hA3 hF3 hlo hro
    go_wp2
    go_ret
    exact ⟨Ao, co, rfl, HA3.out.cap, HA3.out.rd, fun k hk _ => ⟨.inl (HRO.out k hk).1, HLO.out k hk⟩, HQ.out, HF3.out⟩
set_option maxRecDepth 100000 in
set_option maxHeartbeats 2000000 in
theorem rqrpf_ok (count total cap : Nat) (r : Bytes) (A : Option Addr) (c : Nat) (w : World) (hR : Rd w A (bvs (prefQ count count cap ++ r))) (hl : (prefQ count count cap ++ r).length ≤ 1099511627776) (hc : (prefQ count count cap ++ r).length ≤ c)
    (hcap : cap ≤ 4096) (ht : total ≤ 1152921504606846976) (h1 : count ≤ total + mostQ cap) (h2 : 0 < count → total < count + mostQ cap) (h3 : 0 < count → 0 < mostQ cap) :
    Calls Try.prog 48 #[.slice A (prefQ count count cap ++ r).length c, .int .u64 (total : Int), .int .i64 (cap : Int)] w fun e w' => e = .returned (.tuple #[.int .u64 (count : Int), .int .u64 (count : Int), .int .i64 ((prefQ count count cap).length : Int), .int .i64 0]) ∧ ∃ n, w' = w.drewN n := by
  have hct : count ≤ 1152921504606847200 := by unfold mostQ at h1; omega
  have he := encQ_le count cap hcap
  have hd := decQ_encQ count total cap h1 h2 h3
  have hbe : prefQ count count cap ++ r = pfx 0 8 (encQ count cap) ++ (pfx 0 7 0 ++ r) := by
    unfold prefQ
    rw [if_pos (Nat.le_refl _), Nat.sub_self, List.append_assoc]
  obtain ⟨k, hk⟩ : ∃ k, k = (pfx 0 8 (encQ count cap)).length := ⟨_, rfl⟩
  have hpl : (prefQ count count cap).length = k + 1 := by
    unfold prefQ
    rw [if_pos (Nat.le_refl _), Nat.sub_self, List.length_append, ← hk]
    rfl
  rw [hpl]
  have a1 := rdp_pfx 0 8 (encQ count cap) (pfx 0 7 0 ++ r) (by omega) (by omega) (by omega)
  have a2 := rdp_pfx 0 7 0 r (by omega) (by omega) (by omega)
  rw [← hbe] at a1
  generalize encQ count cap = en at *
  have hdr : (prefQ count count cap ++ r).drop k = pfx 0 7 0 ++ r := by rw [hbe, hk, List.drop_left]
  have hk0 := pfx_pos 0 8 en
  have hgb := congrArg List.length hbe
  rw [List.length_append, List.length_append] at hgb
  generalize prefQ count count cap ++ r = b at *
  rw [← hk] at a1 hgb hk0
  have hp7 : (pfx 0 7 0 ++ r).length = 1 + r.length := by rw [List.length_append]; rfl
  rw [hp7] at hgb
  have hbl : b.length = k + 1 + r.length := by
    have := congrArg List.length hdr
    rw [List.length_drop, hp7] at this
    omega
  have hrd1 := rrdp_any b A c 8 w hR (by omega) (by omega) (by omega)
  rw [a1] at hrd1
  unfold Ret3 at hrd1
  simp only at hrd1
  obtain ⟨A2, hA2, hR2⟩ := hR.from_ hc k
  rw [hdr] at hR2
  have hrd2 : ∀ w', Frm (New w) w w' → Calls Try.prog 62 #[.slice A2 (b.length - k) (c - k), .int .i64 7] w' fun e w2 => e = .returned (.tuple #[.int .u64 0, .int .i64 1, .int .i64 0]) ∧ ∃ n, w2 = w'.drewN n := fun w' fr => by
    have := rrdp_any (pfx 0 7 0 ++ r) A2 (c - k) 7 w' (hR2.fresh fr) (by omega) (by omega) (by omega)
    rw [a2, hp7, show 1 + r.length = b.length - k by omega] at this
    exact this
  have hdc : ∀ w', Calls Try.prog 87 #[.int .u64 (en : Int), .int .u64 (total : Int), .int .i64 (cap : Int)] w' fun x w2 => x = .returned (.tuple #[.int .u64 (count : Int), .int .i64 0]) ∧ w' = w2 := fun w' => by
    have := rqdec_any (en : Int) (total : Int) (cap : Int) w' (by omega) (by omega) (by omega) (by omega) (by omega) (by omega)
    rw [qdec_nat, hd] at this
    exact this
  have hx0 : w.cell? (((A.getD ⟨0, 0, none⟩)).add k) = some (.int .u8 0) := by
    obtain ⟨gb, off, rfl, hx⟩ := hR.at_ (k := k) (by rw [bvs_length]; omega)
    simp only [Option.getD_some, Addr.add_lit]
    rw [hx]
    have hbk : b[k]'(by omega) = 0 := by
      have h5 : (b.drop k)[0]? = some 0 := by rw [hdr]; rfl
      rw [List.getElem?_drop, Nat.add_zero, List.getElem?_eq_getElem (by omega)] at h5
      exact Option.some.inj h5
    have : (bvs b)[k]'(by rw [bvs_length]; omega) = .int .u8 ((b[k]'(by omega)).toNat : Int) := by unfold bvs; rw [List.getElem_map]; rfl
    rw [this, hbk]
    rfl
  obtain ⟨gb, off, rfl, hjunk⟩ := hR.at_ (k := k) (by rw [bvs_length]; omega)
  clear hjunk
  simp only [Option.getD_some, Addr.add_lit] at hx0
  have hgl := World.block_lt_of_cell? _ _ hx0
  simp only at hgl
  obtain ⟨bl, hbl2⟩ : ∃ bl, bl = b.length := ⟨_, rfl⟩
  have hcut : ∀ (o : Oper) (a : Act) (w' : World) (x lo : Operand) (u : Int), o.op = .slice 23 x (some lo) none none → a.eval x = .slice (some ⟨gb, off, none⟩) bl c → a.eval lo = .int .i64 u → u = (k : Int) → (execOp a.eval o).run Try.prog w' = .ok (.value (.slice A2 (bl - k) (c - k))) w' := fun o a w' x lo u q1 q2 q3 q4 => by
    have := run_from (w := w') q1 q2 q3 q4 (by omega)
    rw [hA2] at this
    exact this
  rw [← hbl2] at hrd1 hrd2 ⊢
  have hkl : (k : Int) < (bl : Int) := by omega
  have hcti : ¬ (4611686018427387903 : Int) < (count : Int) := by omega
  have hw4 : IntKind.u64.wrap (4611686018427387903 - (count : Int)) = ((4611686018427387903 - count : Nat) : Int) := by
    rw [show (4611686018427387903 - (count : Int)) = ((4611686018427387903 - count : Nat) : Int) by omega]
    exact IntWalk.u64_in _ (by omega)
  have hw5 : IntKind.u64.wrap ((count : Int) + 0) = (count : Int) := by rw [Int.add_zero]; exact IntWalk.u64_in _ (by omega)
  have hw6 : IntKind.u64.wrap (count : Int) = (count : Int) := IntWalk.u64_in _ (by omega)
  have hw7 : IntKind.i64.wrap ((k : Int) + 1) = ((k + 1 : Nat) : Int) := by rw [IntWalk.i64_in _ (by omega)]; omega
  generalize 4611686018427387903 - count = mc at *
  clear hR hR2 a1 a2 hd h1 h2 h3 hdr hgb hbe hp7
  have HRD1 := Lib.hid hrd1
  have HRD2 := Lib.hid hrd2
  have HDC := Lib.hid hdc
  have HCUT := Lib.hid hcut
  have HA2 := Lib.hid hA2
  have HBL := Lib.hid hbl
  have HBL2 := Lib.hid hbl2
  have HK := Lib.hid hk
  have HPL := Lib.hid hpl
  clear hrd1 hrd2 hdc hcut hA2 hbl hbl2 hk hpl
  go_enter Try.func48, Try.ntmps48
  go_wp2_with (fail)
  refine HRD1.out.mono ?_
  rintro e w2 ⟨rfl, n2, rfl⟩
  go_wp2_with (refine wpList_val rfl (.slice A2 (bl - k) (c - k)) (HCUT.out _ _ _ _ _ _ rfl rfl rfl rfl) ?_)
  refine (HRD2.out _ ((Frm.refl _ _).drewN n2)).mono ?_
  rintro e w3 ⟨rfl, n3, rfl⟩
  go_wp2_with (fail)
  refine (HDC.out _).mono ?_
  rintro e w4 ⟨rfl, hw⟩
  rw [← hw]
  clear hw w4
  go_wp2
  refine bodyPost_ret (v := .tuple #[.int .u64 (count : Int), .int .u64 (count : Int), .int .i64 ((k + 1 : Nat) : Int), .int .i64 0]) (by simp [results, Try.results48, go_sem]) rfl ?_
  exact ⟨rfl, _, rfl⟩
end Go.Proofs.Ytdgggjeiflllhaa.M
