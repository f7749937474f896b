/- Nc -/
import Derived.BigQuiet
import Derived.Deep.CutBlock
import Derived.Lib.Hide
import Derived.IntWalk
import Derived.Test.YtdgggjeiflllhaaZzNm
import Derived.Test.YtdgggjeiflllhaaZzMem

namespace Go.Proofs.Ytdgggjeiflllhaa.M
open Go.ChangeShapes Go.WideShapes Go.ChangeAt Go.RowKit
theorem wpAnyH_skipC {P : Program} {ops : Array Oper} {Q : Exit → Act → World → Prop} {md : Region.Mode} {S : World → Prop} {i : Nat} {oi : Oper} {d : Option Tmp} {fuel : Nat} {listed : Array Bool} {a : Act} {w : World} (hi : ops[i]? = some oi) (hd : oi.dst = d)
    (hc : (Region.noSelect ops && Region.free md ops listed i && (Region.ready md ops listed).contains i) = true)
    (hQ : ∀ c a w, Q (.panic c) (a.put oi.dst undef) w → Q (.panic c) a w) (hwt : Region.wanted oi (yielded ops a.tmps) = false) (hS : S w)
    (h : wpAnyH P md ops Q S fuel (listed.setIfInBounds i true) (a.put d undef) w) : wpAnyH P md ops Q S (fuel + 1) listed a w := by
  subst hd
  simp only [Bool.and_eq_true] at hc
  exact wpAnyH_take hi hc.1.1 hc.1.2 hc.2 hQ (.inr ⟨hwt, rfl⟩) hS h
def Qn.may (E : Qn) (s cnt p : Nat) : Bool := decide (p < E.known) || (decide (E.known < cnt) || (E.stuck s || decide (E.many < E.blk)))
set_option maxRecDepth 100000 in
set_option maxHeartbeats 8000000 in
theorem nmay_any {X S : Nat → Prop} {w : World} {pe g bm cr pw : Nat} {Ar : Option Addr} {L : List (Nat × Ro)} {E : Qn} (h : QnM X w pe g bm S Ar cr L E) (hL : L.length ≤ 4611686018427387903) (s cnt p mu lo co ll cl : Nat) (Ao Al : Option Addr)
    (hw : Blk w pw 87 #[.pointer (some ⟨pe, 0, none⟩), .int .u64 (s : Int), .int .u64 (cnt : Int), .map (some mu), .slice Ao lo co, .slice Al ll cl]) :
    Calls Try.prog 74 #[.pointer (some ⟨pw, 0, none⟩), .int .u64 (p : Int)] w fun e w' => e = .returned (.bool (E.may s cnt p)) ∧ Frm (New w) w w' := by
  have hsw : ∀ w', Frm (New w) w w' → w'.cell? ⟨pw, 0, none⟩ = some (.pointer (some ⟨pe, 0, none⟩)) ∧ w'.cell? ⟨pw, 1, none⟩ = some (.int .u64 (s : Int)) ∧ w'.cell? ⟨pw, 2, none⟩ = some (.int .u64 (cnt : Int)) ∧ w'.cell? ⟨pe, 1, none⟩ = some (.int .i64 (E.blk : Int)) ∧ w'.cell? ⟨pe, 2, none⟩ = some (.int .u64 (E.known : Int)) ∧ pw < w'.heap.size ∧ pe < w'.heap.size := fun w' f => by
    have h1 := hw.fresh f
    have h2 := (h.fresh f).blk
    exact ⟨h1.cell 0, h1.cell 1, h1.cell 2, h2.cell 1, h2.cell 2, h1.lt, h2.lt⟩
  have hF0 : Frm (New w) w w.drew := (Frm.refl _ w).drew
  have hS := hsw w.drew hF0
  obtain ⟨Q, hQ⟩ : ∃ Q, Q = E.may s cnt p := ⟨_, rfl⟩
  rw [← hQ]
  unfold Qn.may at hQ
  have H := Lib.hid h
  have HSW := Lib.hid hsw
  have HQ := Lib.hid hQ
  clear h hsw hQ
  go_enter Try.func74, Try.ntmps74
  go_upto_region 1 with (fail)
  refine wp_region_held (by kernel_rfl) (S := fun w' => w'.cell? ⟨pw, 0, none⟩ = some (.pointer (some ⟨pe, 0, none⟩)) ∧ w'.cell? ⟨pw, 1, none⟩ = some (.int .u64 (s : Int)) ∧ w'.cell? ⟨pw, 2, none⟩ = some (.int .u64 (cnt : Int)) ∧ w'.cell? ⟨pe, 1, none⟩ = some (.int .i64 (E.blk : Int)) ∧ w'.cell? ⟨pe, 2, none⟩ = some (.int .u64 (E.known : Int)) ∧ pw < w'.heap.size ∧ pe < w'.heap.size) ?_
  change wpAnyH _ _ _ _ _ _ _ _ w.drew
  refine wpAnyH_takeB (i := 0) (v := ?_) (d := some 5) rfl (by rfl) (by kernel_rfl) (fun _ _ _ h => h) (by rfl) hS (fun w hSw => ?_) ?_
  rotate_left
  · (try dsimp only at hSw); (try subst hSw); go_simp; first | done | (with_reducible rfl)
  simp only [Act.put, List.setIfInBounds_toArray, List.set_cons_zero, List.set_cons_succ]
  refine wpAnyH_takeB (i := 1) (v := ?_) (d := some 6) rfl (by rfl) (by kernel_rfl) (fun _ _ _ h => h) (by rfl) hS (fun w hSw => ?_) ?_
  rotate_left
  · (try dsimp only at hSw); (try subst hSw); go_simp; first | done | (with_reducible rfl)
  simp only [Act.put, List.setIfInBounds_toArray, List.set_cons_zero, List.set_cons_succ]
  refine wpAnyH_takeB (i := 2) (v := ?_) (d := some 7) rfl (by rfl) (by kernel_rfl) (fun _ _ _ h => h) (by rfl) hS (fun w hSw => ?_) ?_
  rotate_left
  · (try dsimp only at hSw); (try subst hSw); go_simp; first | done | (with_reducible rfl)
  simp only [Act.put, List.setIfInBounds_toArray, List.set_cons_zero, List.set_cons_succ]
  refine wpAnyH_takeB (i := 3) (v := ?_) (d := some 8) rfl (by rfl) (by kernel_rfl) (fun _ _ _ h => h) (by rfl) hS (fun w hSw => ?_) ?_
  rotate_left
  · (try dsimp only at hSw); (try subst hSw); go_simp; first | done | (with_reducible rfl)
  simp only [Act.put, List.setIfInBounds_toArray, List.set_cons_zero, List.set_cons_succ]
  refine wpAnyH_takeB (i := 4) (v := ?_) (d := some 9) rfl (by rfl) (by kernel_rfl) (fun _ _ _ h => h) (by rfl) hS (fun w hSw => ?_) ?_
  rotate_left
  · (try dsimp only at hSw); (try subst hSw); go_simp; first | done | (with_reducible rfl)
  simp only [Act.put, List.setIfInBounds_toArray, List.set_cons_zero, List.set_cons_succ]
  refine wpAnyH_takeB (i := 5) (v := ?_) (d := some 10) rfl (by rfl) (by kernel_rfl) (fun _ _ _ h => h) (by rfl) hS (fun w hSw => ?_) ?_
  rotate_left
  · (try dsimp only at hSw); (try subst hSw); go_simp; first | done | (with_reducible rfl)
  simp only [Act.put, List.setIfInBounds_toArray, List.set_cons_zero, List.set_cons_succ]
  refine wpAnyH_takeB (i := 6) (v := ?_) (d := some 11) rfl (by rfl) (by kernel_rfl) (fun _ _ _ h => h) (by rfl) hS (fun w hSw => ?_) ?_
  rotate_left
  · (try dsimp only at hSw); (try subst hSw); go_simp; first | done | (with_reducible rfl)
  simp only [Act.put, List.setIfInBounds_toArray, List.set_cons_zero, List.set_cons_succ]
  refine wpAnyH_takeB (i := 7) (v := ?_) (d := some 12) rfl (by rfl) (by kernel_rfl) (fun _ _ _ h => h) (by rfl) hS (fun w hSw => ?_) ?_
  rotate_left
  · (try dsimp only at hSw); (try subst hSw); go_simp; first | done | (with_reducible rfl)
  simp only [Act.put, List.setIfInBounds_toArray, List.set_cons_zero, List.set_cons_succ]
  by_cases h1 : p < E.known
  · have h1i : (p : Int) < (E.known : Int) := by omega
    refine wpAnyH_takeB (i := 8) (v := .bool true) (d := some 13) rfl (by rfl) (by kernel_rfl) (fun _ _ _ h => h) (by rfl) hS (fun w hSw => by go_simp) ?_
    simp only [Act.put, List.setIfInBounds_toArray, List.set_cons_zero, List.set_cons_succ]
    refine wpAnyH_takeB (i := 9) (v := ?_) (d := some 14) rfl (by rfl) (by kernel_rfl) (fun _ _ _ h => h) (by rfl) hS (fun w hSw => ?_) ?_
    rotate_left
    · (try dsimp only at hSw); (try subst hSw); go_simp; first | done | (with_reducible rfl)
    simp only [Act.put, List.setIfInBounds_toArray, List.set_cons_zero, List.set_cons_succ]
    refine wpAnyH_skipC (i := 10) (d := some 15) rfl (by rfl) (by kernel_rfl) (fun _ _ _ h => h) (by rfl) hS ?_
    simp only [Act.put, List.setIfInBounds_toArray, List.set_cons_zero, List.set_cons_succ]
    refine wpAnyH_skipC (i := 11) (d := some 16) rfl (by rfl) (by kernel_rfl) (fun _ _ _ h => h) (by rfl) hS ?_
    simp only [Act.put, List.setIfInBounds_toArray, List.set_cons_zero, List.set_cons_succ]
    refine wpAnyH_skipC (i := 12) (d := some 17) rfl (by rfl) (by kernel_rfl) (fun _ _ _ h => h) (by rfl) hS ?_
    simp only [Act.put, List.setIfInBounds_toArray, List.set_cons_zero, List.set_cons_succ]
    refine wpAnyH_skipC (i := 13) (d := some 18) rfl (by rfl) (by kernel_rfl) (fun _ _ _ h => h) (by rfl) hS ?_
    simp only [Act.put, List.setIfInBounds_toArray, List.set_cons_zero, List.set_cons_succ]
    refine wpAnyH_skipC (i := 14) (d := some 19) rfl (by rfl) (by kernel_rfl) (fun _ _ _ h => h) (by rfl) hS ?_
    simp only [Act.put, List.setIfInBounds_toArray, List.set_cons_zero, List.set_cons_succ]
    refine wpAnyH_skipC (i := 15) (d := some 20) rfl (by rfl) (by kernel_rfl) (fun _ _ _ h => h) (by rfl) hS ?_
    simp only [Act.put, List.setIfInBounds_toArray, List.set_cons_zero, List.set_cons_succ]
    refine wpAnyH_skipC (i := 16) (d := some 21) rfl (by rfl) (by kernel_rfl) (fun _ _ _ h => h) (by rfl) hS ?_
    simp only [Act.put, List.setIfInBounds_toArray, List.set_cons_zero, List.set_cons_succ]
    refine wpAnyH_skipC (i := 17) (d := some 22) rfl (by rfl) (by kernel_rfl) (fun _ _ _ h => h) (by rfl) hS ?_
    simp only [Act.put, List.setIfInBounds_toArray, List.set_cons_zero, List.set_cons_succ]
    refine wpAnyH_skipC (i := 18) (d := some 23) rfl (by rfl) (by kernel_rfl) (fun _ _ _ h => h) (by rfl) hS ?_
    simp only [Act.put, List.setIfInBounds_toArray, List.set_cons_zero, List.set_cons_succ]
    refine wpAnyH_skipC (i := 19) (d := some 24) rfl (by rfl) (by kernel_rfl) (fun _ _ _ h => h) (by rfl) hS ?_
    simp only [Act.put, List.setIfInBounds_toArray, List.set_cons_zero, List.set_cons_succ]
    refine wpAnyH_skipC (i := 20) (d := some 25) rfl (by rfl) (by kernel_rfl) (fun _ _ _ h => h) (by rfl) hS ?_
    simp only [Act.put, List.setIfInBounds_toArray, List.set_cons_zero, List.set_cons_succ]
    refine wpAnyH_skipC (i := 21) (d := some 26) rfl (by rfl) (by kernel_rfl) (fun _ _ _ h => h) (by rfl) hS ?_
    simp only [Act.put, List.setIfInBounds_toArray, List.set_cons_zero, List.set_cons_succ]
    refine wpAnyH_skipC (i := 22) (d := some 27) rfl (by rfl) (by kernel_rfl) (fun _ _ _ h => h) (by rfl) hS ?_
    simp only [Act.put, List.setIfInBounds_toArray, List.set_cons_zero, List.set_cons_succ]
    refine wpAnyH_takeB (i := 23) (v := ?_) (d := some 28) rfl (by rfl) (by kernel_rfl) (fun _ _ _ h => h) (by rfl) hS (fun w hSw => ?_) ?_
    rotate_left
    · (try dsimp only at hSw); (try subst hSw); go_simp; first | done | (with_reducible rfl)
    simp only [Act.put, List.setIfInBounds_toArray, List.set_cons_zero, List.set_cons_succ]
    refine wpAnyH_takeB (i := 24) (v := ?_) (d := some 29) rfl (by rfl) (by kernel_rfl) (fun _ _ _ h => h) (by rfl) hS (fun w hSw => ?_) ?_
    rotate_left
    · (try dsimp only at hSw); (try subst hSw); go_simp; first | done | (with_reducible rfl)
    simp only [Act.put, List.setIfInBounds_toArray, List.set_cons_zero, List.set_cons_succ]
    refine wpAnyH_skipC (i := 25) (d := some 30) rfl (by rfl) (by kernel_rfl) (fun _ _ _ h => h) (by rfl) hS ?_
    simp only [Act.put, List.setIfInBounds_toArray, List.set_cons_zero, List.set_cons_succ]
    refine wpAnyH_skipC (i := 26) (d := some 31) rfl (by rfl) (by kernel_rfl) (fun _ _ _ h => h) (by rfl) hS ?_
    simp only [Act.put, List.setIfInBounds_toArray, List.set_cons_zero, List.set_cons_succ]
    refine wpAnyH_skipC (i := 27) (d := some 32) rfl (by rfl) (by kernel_rfl) (fun _ _ _ h => h) (by rfl) hS ?_
    simp only [Act.put, List.setIfInBounds_toArray, List.set_cons_zero, List.set_cons_succ]
    refine wpAnyH_skipC (i := 28) (d := some 33) rfl (by rfl) (by kernel_rfl) (fun _ _ _ h => h) (by rfl) hS ?_
    simp only [Act.put, List.setIfInBounds_toArray, List.set_cons_zero, List.set_cons_succ]
    refine wpAnyH_skipC (i := 29) (d := some 34) rfl (by rfl) (by kernel_rfl) (fun _ _ _ h => h) (by rfl) hS ?_
    simp only [Act.put, List.setIfInBounds_toArray, List.set_cons_zero, List.set_cons_succ]
    refine wpAnyH_skipC (i := 30) (d := some 35) rfl (by rfl) (by kernel_rfl) (fun _ _ _ h => h) (by rfl) hS ?_
    simp only [Act.put, List.setIfInBounds_toArray, List.set_cons_zero, List.set_cons_succ]
    refine wpAnyH_skipC (i := 31) (d := some 36) rfl (by rfl) (by kernel_rfl) (fun _ _ _ h => h) (by rfl) hS ?_
    simp only [Act.put, List.setIfInBounds_toArray, List.set_cons_zero, List.set_cons_succ]
    refine wpAnyH_skipC (i := 32) (d := some 37) rfl (by rfl) (by kernel_rfl) (fun _ _ _ h => h) (by rfl) hS ?_
    simp only [Act.put, List.setIfInBounds_toArray, List.set_cons_zero, List.set_cons_succ]
    refine wpAnyH_skipC (i := 33) (d := some 38) rfl (by rfl) (by kernel_rfl) (fun _ _ _ h => h) (by rfl) hS ?_
    simp only [Act.put, List.setIfInBounds_toArray, List.set_cons_zero, List.set_cons_succ]
    refine wpAnyH_takeB (i := 34) (v := ?_) (d := some 39) rfl (by rfl) (by kernel_rfl) (fun _ _ _ h => h) (by rfl) hS (fun w hSw => ?_) ?_
    rotate_left
    · (try dsimp only at hSw); (try subst hSw); go_simp; first | done | (with_reducible rfl)
    simp only [Act.put, List.setIfInBounds_toArray, List.set_cons_zero, List.set_cons_succ]
    refine wpAnyH_takeB (i := 35) (v := ?_) (d := some 40) rfl (by rfl) (by kernel_rfl) (fun _ _ _ h => h) (by rfl) hS (fun w hSw => ?_) ?_
    rotate_left
    · (try dsimp only at hSw); (try subst hSw); go_simp; first | done | (with_reducible rfl)
    simp only [Act.put, List.setIfInBounds_toArray, List.set_cons_zero, List.set_cons_succ]
    refine wpAnyH_skipC (i := 36) (d := some 41) rfl (by rfl) (by kernel_rfl) (fun _ _ _ h => h) (by rfl) hS ?_
    simp only [Act.put, List.setIfInBounds_toArray, List.set_cons_zero, List.set_cons_succ]
    refine wpAnyH_skipC (i := 37) (d := some 42) rfl (by rfl) (by kernel_rfl) (fun _ _ _ h => h) (by rfl) hS ?_
    simp only [Act.put, List.setIfInBounds_toArray, List.set_cons_zero, List.set_cons_succ]
    refine wpAnyH_skipC (i := 38) (d := some 43) rfl (by rfl) (by kernel_rfl) (fun _ _ _ h => h) (by rfl) hS ?_
    simp only [Act.put, List.setIfInBounds_toArray, List.set_cons_zero, List.set_cons_succ]
    refine wpAnyH_skipC (i := 39) (d := some 44) rfl (by rfl) (by kernel_rfl) (fun _ _ _ h => h) (by rfl) hS ?_
    simp only [Act.put, List.setIfInBounds_toArray, List.set_cons_zero, List.set_cons_succ]
    refine wpAnyH_skipC (i := 40) (d := some 45) rfl (by rfl) (by kernel_rfl) (fun _ _ _ h => h) (by rfl) hS ?_
    simp only [Act.put, List.setIfInBounds_toArray, List.set_cons_zero, List.set_cons_succ]
    refine wpAnyH_skipC (i := 41) (d := some 46) rfl (by rfl) (by kernel_rfl) (fun _ _ _ h => h) (by rfl) hS ?_
    simp only [Act.put, List.setIfInBounds_toArray, List.set_cons_zero, List.set_cons_succ]
    refine wpAnyH_skipC (i := 42) (d := some 47) rfl (by rfl) (by kernel_rfl) (fun _ _ _ h => h) (by rfl) hS ?_
    simp only [Act.put, List.setIfInBounds_toArray, List.set_cons_zero, List.set_cons_succ]
    refine wpAnyH_skipC (i := 43) (d := some 48) rfl (by rfl) (by kernel_rfl) (fun _ _ _ h => h) (by rfl) hS ?_
    simp only [Act.put, List.setIfInBounds_toArray, List.set_cons_zero, List.set_cons_succ]
    refine wpAnyH_skipC (i := 44) (d := some 49) rfl (by rfl) (by kernel_rfl) (fun _ _ _ h => h) (by rfl) hS ?_
    simp only [Act.put, List.setIfInBounds_toArray, List.set_cons_zero, List.set_cons_succ]
    refine wpAnyH_skipC (i := 45) (d := some 50) rfl (by rfl) (by kernel_rfl) (fun _ _ _ h => h) (by rfl) hS ?_
    simp only [Act.put, List.setIfInBounds_toArray, List.set_cons_zero, List.set_cons_succ]
    refine wpAnyH_skipC (i := 46) (d := some 51) rfl (by rfl) (by kernel_rfl) (fun _ _ _ h => h) (by rfl) hS ?_
    simp only [Act.put, List.setIfInBounds_toArray, List.set_cons_zero, List.set_cons_succ]
    refine wpAnyH_skipC (i := 47) (d := some 52) rfl (by rfl) (by kernel_rfl) (fun _ _ _ h => h) (by rfl) hS ?_
    simp only [Act.put, List.setIfInBounds_toArray, List.set_cons_zero, List.set_cons_succ]
    refine wpAnyH_skipC (i := 48) (d := some 53) rfl (by rfl) (by kernel_rfl) (fun _ _ _ h => h) (by rfl) hS ?_
    simp only [Act.put, List.setIfInBounds_toArray, List.set_cons_zero, List.set_cons_succ]
    refine wpAnyH_takeB (i := 49) (v := ?_) (d := some 54) rfl (by rfl) (by kernel_rfl) (fun _ _ _ h => h) (by rfl) hS (fun w hSw => ?_) ?_
    rotate_left
    · (try dsimp only at hSw); (try subst hSw); go_simp; first | done | (with_reducible rfl)
    simp only [Act.put, List.setIfInBounds_toArray, List.set_cons_zero, List.set_cons_succ]
    refine wpAnyH_oneB (i := 50) rfl (by kernel_rfl) (fun K hK => ?_)
    refine Eq.mpr (if_pos (by rfl)) ?_
    go_simp
    refine hK.out _ _ (hS) ?_
    clear hK K
    try simp only [Act.put, List.setIfInBounds_toArray, List.set_cons_zero, List.set_cons_succ]
    refine wpAnyH_done (by kernel_rfl) ?_ _
    go_wp2_with (fail)
    go_ret
    refine ⟨?_, hF0⟩
    rw [HQ.out, decide_eq_true h1]
    rfl
  have h1i : ¬ (p : Int) < (E.known : Int) := by omega
  refine wpAnyH_takeB (i := 8) (v := .bool false) (d := some 13) rfl (by rfl) (by kernel_rfl) (fun _ _ _ h => h) (by rfl) hS (fun w hSw => by go_simp) ?_
  simp only [Act.put, List.setIfInBounds_toArray, List.set_cons_zero, List.set_cons_succ]
  refine wpAnyH_takeB (i := 9) (v := ?_) (d := some 14) rfl (by rfl) (by kernel_rfl) (fun _ _ _ h => h) (by rfl) hS (fun w hSw => ?_) ?_
  rotate_left
  · (try dsimp only at hSw); (try subst hSw); go_simp; first | done | (with_reducible rfl)
  simp only [Act.put, List.setIfInBounds_toArray, List.set_cons_zero, List.set_cons_succ]
  refine wpAnyH_takeB (i := 10) (v := ?_) (d := some 15) rfl (by rfl) (by kernel_rfl) (fun _ _ _ h => h) (by rfl) hS (fun w hSw => ?_) ?_
  rotate_left
  · (try dsimp only at hSw); (try subst hSw); go_simp; first | done | (with_reducible rfl)
  simp only [Act.put, List.setIfInBounds_toArray, List.set_cons_zero, List.set_cons_succ]
  refine wpAnyH_takeB (i := 11) (v := ?_) (d := some 16) rfl (by rfl) (by kernel_rfl) (fun _ _ _ h => h) (by rfl) hS (fun w hSw => ?_) ?_
  rotate_left
  · (try dsimp only at hSw); (try subst hSw); go_simp; first | done | (with_reducible rfl)
  simp only [Act.put, List.setIfInBounds_toArray, List.set_cons_zero, List.set_cons_succ]
  refine wpAnyH_takeB (i := 12) (v := ?_) (d := some 17) rfl (by rfl) (by kernel_rfl) (fun _ _ _ h => h) (by rfl) hS (fun w hSw => ?_) ?_
  rotate_left
  · (try dsimp only at hSw); (try subst hSw); go_simp; first | done | (with_reducible rfl)
  simp only [Act.put, List.setIfInBounds_toArray, List.set_cons_zero, List.set_cons_succ]
  refine wpAnyH_takeB (i := 13) (v := ?_) (d := some 18) rfl (by rfl) (by kernel_rfl) (fun _ _ _ h => h) (by rfl) hS (fun w hSw => ?_) ?_
  rotate_left
  · (try dsimp only at hSw); (try subst hSw); go_simp; first | done | (with_reducible rfl)
  simp only [Act.put, List.setIfInBounds_toArray, List.set_cons_zero, List.set_cons_succ]
  refine wpAnyH_takeB (i := 14) (v := ?_) (d := some 19) rfl (by rfl) (by kernel_rfl) (fun _ _ _ h => h) (by rfl) hS (fun w hSw => ?_) ?_
  rotate_left
  · (try dsimp only at hSw); (try subst hSw); go_simp; first | done | (with_reducible rfl)
  simp only [Act.put, List.setIfInBounds_toArray, List.set_cons_zero, List.set_cons_succ]
  refine wpAnyH_takeB (i := 15) (v := ?_) (d := some 20) rfl (by rfl) (by kernel_rfl) (fun _ _ _ h => h) (by rfl) hS (fun w hSw => ?_) ?_
  rotate_left
  · (try dsimp only at hSw); (try subst hSw); go_simp; first | done | (with_reducible rfl)
  simp only [Act.put, List.setIfInBounds_toArray, List.set_cons_zero, List.set_cons_succ]
  refine wpAnyH_takeB (i := 16) (v := ?_) (d := some 21) rfl (by rfl) (by kernel_rfl) (fun _ _ _ h => h) (by rfl) hS (fun w hSw => ?_) ?_
  rotate_left
  · (try dsimp only at hSw); (try subst hSw); go_simp; first | done | (with_reducible rfl)
  simp only [Act.put, List.setIfInBounds_toArray, List.set_cons_zero, List.set_cons_succ]
  refine wpAnyH_takeB (i := 17) (v := ?_) (d := some 22) rfl (by rfl) (by kernel_rfl) (fun _ _ _ h => h) (by rfl) hS (fun w hSw => ?_) ?_
  rotate_left
  · (try dsimp only at hSw); (try subst hSw); go_simp; first | done | (with_reducible rfl)
  simp only [Act.put, List.setIfInBounds_toArray, List.set_cons_zero, List.set_cons_succ]
  refine wpAnyH_takeB (i := 18) (v := ?_) (d := some 23) rfl (by rfl) (by kernel_rfl) (fun _ _ _ h => h) (by rfl) hS (fun w hSw => ?_) ?_
  rotate_left
  · (try dsimp only at hSw); (try subst hSw); go_simp; first | done | (with_reducible rfl)
  simp only [Act.put, List.setIfInBounds_toArray, List.set_cons_zero, List.set_cons_succ]
  refine wpAnyH_takeB (i := 19) (v := ?_) (d := some 24) rfl (by rfl) (by kernel_rfl) (fun _ _ _ h => h) (by rfl) hS (fun w hSw => ?_) ?_
  rotate_left
  · (try dsimp only at hSw); (try subst hSw); go_simp; first | done | (with_reducible rfl)
  simp only [Act.put, List.setIfInBounds_toArray, List.set_cons_zero, List.set_cons_succ]
  refine wpAnyH_takeB (i := 20) (v := ?_) (d := some 25) rfl (by rfl) (by kernel_rfl) (fun _ _ _ h => h) (by rfl) hS (fun w hSw => ?_) ?_
  rotate_left
  · (try dsimp only at hSw); (try subst hSw); go_simp; first | done | (with_reducible rfl)
  simp only [Act.put, List.setIfInBounds_toArray, List.set_cons_zero, List.set_cons_succ]
  refine wpAnyH_takeB (i := 21) (v := ?_) (d := some 26) rfl (by rfl) (by kernel_rfl) (fun _ _ _ h => h) (by rfl) hS (fun w hSw => ?_) ?_
  rotate_left
  · (try dsimp only at hSw); (try subst hSw); go_simp; first | done | (with_reducible rfl)
  simp only [Act.put, List.setIfInBounds_toArray, List.set_cons_zero, List.set_cons_succ]
  by_cases h2 : E.known < cnt
  · have h2i : (E.known : Int) < (cnt : Int) := by omega
    refine wpAnyH_takeB (i := 22) (v := .bool true) (d := some 27) rfl (by rfl) (by kernel_rfl) (fun _ _ _ h => h) (by rfl) hS (fun w hSw => by go_simp) ?_
    simp only [Act.put, List.setIfInBounds_toArray, List.set_cons_zero, List.set_cons_succ]
    refine wpAnyH_takeB (i := 23) (v := ?_) (d := some 28) rfl (by rfl) (by kernel_rfl) (fun _ _ _ h => h) (by rfl) hS (fun w hSw => ?_) ?_
    rotate_left
    · (try dsimp only at hSw); (try subst hSw); go_simp; first | done | (with_reducible rfl)
    simp only [Act.put, List.setIfInBounds_toArray, List.set_cons_zero, List.set_cons_succ]
    refine wpAnyH_takeB (i := 24) (v := ?_) (d := some 29) rfl (by rfl) (by kernel_rfl) (fun _ _ _ h => h) (by rfl) hS (fun w hSw => ?_) ?_
    rotate_left
    · (try dsimp only at hSw); (try subst hSw); go_simp; first | done | (with_reducible rfl)
    simp only [Act.put, List.setIfInBounds_toArray, List.set_cons_zero, List.set_cons_succ]
    refine wpAnyH_skipC (i := 25) (d := some 30) rfl (by rfl) (by kernel_rfl) (fun _ _ _ h => h) (by rfl) hS ?_
    simp only [Act.put, List.setIfInBounds_toArray, List.set_cons_zero, List.set_cons_succ]
    refine wpAnyH_skipC (i := 26) (d := some 31) rfl (by rfl) (by kernel_rfl) (fun _ _ _ h => h) (by rfl) hS ?_
    simp only [Act.put, List.setIfInBounds_toArray, List.set_cons_zero, List.set_cons_succ]
    refine wpAnyH_skipC (i := 27) (d := some 32) rfl (by rfl) (by kernel_rfl) (fun _ _ _ h => h) (by rfl) hS ?_
    simp only [Act.put, List.setIfInBounds_toArray, List.set_cons_zero, List.set_cons_succ]
    refine wpAnyH_skipC (i := 28) (d := some 33) rfl (by rfl) (by kernel_rfl) (fun _ _ _ h => h) (by rfl) hS ?_
    simp only [Act.put, List.setIfInBounds_toArray, List.set_cons_zero, List.set_cons_succ]
    refine wpAnyH_skipC (i := 29) (d := some 34) rfl (by rfl) (by kernel_rfl) (fun _ _ _ h => h) (by rfl) hS ?_
    simp only [Act.put, List.setIfInBounds_toArray, List.set_cons_zero, List.set_cons_succ]
    refine wpAnyH_skipC (i := 30) (d := some 35) rfl (by rfl) (by kernel_rfl) (fun _ _ _ h => h) (by rfl) hS ?_
    simp only [Act.put, List.setIfInBounds_toArray, List.set_cons_zero, List.set_cons_succ]
    refine wpAnyH_skipC (i := 31) (d := some 36) rfl (by rfl) (by kernel_rfl) (fun _ _ _ h => h) (by rfl) hS ?_
    simp only [Act.put, List.setIfInBounds_toArray, List.set_cons_zero, List.set_cons_succ]
    refine wpAnyH_skipC (i := 32) (d := some 37) rfl (by rfl) (by kernel_rfl) (fun _ _ _ h => h) (by rfl) hS ?_
    simp only [Act.put, List.setIfInBounds_toArray, List.set_cons_zero, List.set_cons_succ]
    refine wpAnyH_skipC (i := 33) (d := some 38) rfl (by rfl) (by kernel_rfl) (fun _ _ _ h => h) (by rfl) hS ?_
    simp only [Act.put, List.setIfInBounds_toArray, List.set_cons_zero, List.set_cons_succ]
    refine wpAnyH_takeB (i := 34) (v := ?_) (d := some 39) rfl (by rfl) (by kernel_rfl) (fun _ _ _ h => h) (by rfl) hS (fun w hSw => ?_) ?_
    rotate_left
    · (try dsimp only at hSw); (try subst hSw); go_simp; first | done | (with_reducible rfl)
    simp only [Act.put, List.setIfInBounds_toArray, List.set_cons_zero, List.set_cons_succ]
    refine wpAnyH_takeB (i := 35) (v := ?_) (d := some 40) rfl (by rfl) (by kernel_rfl) (fun _ _ _ h => h) (by rfl) hS (fun w hSw => ?_) ?_
    rotate_left
    · (try dsimp only at hSw); (try subst hSw); go_simp; first | done | (with_reducible rfl)
    simp only [Act.put, List.setIfInBounds_toArray, List.set_cons_zero, List.set_cons_succ]
    refine wpAnyH_skipC (i := 36) (d := some 41) rfl (by rfl) (by kernel_rfl) (fun _ _ _ h => h) (by rfl) hS ?_
    simp only [Act.put, List.setIfInBounds_toArray, List.set_cons_zero, List.set_cons_succ]
    refine wpAnyH_skipC (i := 37) (d := some 42) rfl (by rfl) (by kernel_rfl) (fun _ _ _ h => h) (by rfl) hS ?_
    simp only [Act.put, List.setIfInBounds_toArray, List.set_cons_zero, List.set_cons_succ]
    refine wpAnyH_skipC (i := 38) (d := some 43) rfl (by rfl) (by kernel_rfl) (fun _ _ _ h => h) (by rfl) hS ?_
    simp only [Act.put, List.setIfInBounds_toArray, List.set_cons_zero, List.set_cons_succ]
    refine wpAnyH_skipC (i := 39) (d := some 44) rfl (by rfl) (by kernel_rfl) (fun _ _ _ h => h) (by rfl) hS ?_
    simp only [Act.put, List.setIfInBounds_toArray, List.set_cons_zero, List.set_cons_succ]
    refine wpAnyH_skipC (i := 40) (d := some 45) rfl (by rfl) (by kernel_rfl) (fun _ _ _ h => h) (by rfl) hS ?_
    simp only [Act.put, List.setIfInBounds_toArray, List.set_cons_zero, List.set_cons_succ]
    refine wpAnyH_skipC (i := 41) (d := some 46) rfl (by rfl) (by kernel_rfl) (fun _ _ _ h => h) (by rfl) hS ?_
    simp only [Act.put, List.setIfInBounds_toArray, List.set_cons_zero, List.set_cons_succ]
    refine wpAnyH_skipC (i := 42) (d := some 47) rfl (by rfl) (by kernel_rfl) (fun _ _ _ h => h) (by rfl) hS ?_
    simp only [Act.put, List.setIfInBounds_toArray, List.set_cons_zero, List.set_cons_succ]
    refine wpAnyH_skipC (i := 43) (d := some 48) rfl (by rfl) (by kernel_rfl) (fun _ _ _ h => h) (by rfl) hS ?_
    simp only [Act.put, List.setIfInBounds_toArray, List.set_cons_zero, List.set_cons_succ]
    refine wpAnyH_skipC (i := 44) (d := some 49) rfl (by rfl) (by kernel_rfl) (fun _ _ _ h => h) (by rfl) hS ?_
    simp only [Act.put, List.setIfInBounds_toArray, List.set_cons_zero, List.set_cons_succ]
    refine wpAnyH_skipC (i := 45) (d := some 50) rfl (by rfl) (by kernel_rfl) (fun _ _ _ h => h) (by rfl) hS ?_
    simp only [Act.put, List.setIfInBounds_toArray, List.set_cons_zero, List.set_cons_succ]
    refine wpAnyH_skipC (i := 46) (d := some 51) rfl (by rfl) (by kernel_rfl) (fun _ _ _ h => h) (by rfl) hS ?_
    simp only [Act.put, List.setIfInBounds_toArray, List.set_cons_zero, List.set_cons_succ]
    refine wpAnyH_skipC (i := 47) (d := some 52) rfl (by rfl) (by kernel_rfl) (fun _ _ _ h => h) (by rfl) hS ?_
    simp only [Act.put, List.setIfInBounds_toArray, List.set_cons_zero, List.set_cons_succ]
    refine wpAnyH_skipC (i := 48) (d := some 53) rfl (by rfl) (by kernel_rfl) (fun _ _ _ h => h) (by rfl) hS ?_
    simp only [Act.put, List.setIfInBounds_toArray, List.set_cons_zero, List.set_cons_succ]
    refine wpAnyH_takeB (i := 49) (v := ?_) (d := some 54) rfl (by rfl) (by kernel_rfl) (fun _ _ _ h => h) (by rfl) hS (fun w hSw => ?_) ?_
    rotate_left
    · (try dsimp only at hSw); (try subst hSw); go_simp; first | done | (with_reducible rfl)
    simp only [Act.put, List.setIfInBounds_toArray, List.set_cons_zero, List.set_cons_succ]
    refine wpAnyH_oneB (i := 50) rfl (by kernel_rfl) (fun K hK => ?_)
    refine Eq.mpr (if_pos (by rfl)) ?_
    go_simp
    refine hK.out _ _ (hS) ?_
    clear hK K
    try simp only [Act.put, List.setIfInBounds_toArray, List.set_cons_zero, List.set_cons_succ]
    refine wpAnyH_done (by kernel_rfl) ?_ _
    go_wp2_with (fail)
    go_ret
    refine ⟨?_, hF0⟩
    rw [HQ.out, decide_eq_false h1, decide_eq_true h2]
    rfl
  have h2i : ¬ (E.known : Int) < (cnt : Int) := by omega
  refine wpAnyH_takeB (i := 22) (v := .bool false) (d := some 27) rfl (by rfl) (by kernel_rfl) (fun _ _ _ h => h) (by rfl) hS (fun w hSw => by go_simp) ?_
  simp only [Act.put, List.setIfInBounds_toArray, List.set_cons_zero, List.set_cons_succ]
  refine wpAnyH_takeB (i := 23) (v := ?_) (d := some 28) rfl (by rfl) (by kernel_rfl) (fun _ _ _ h => h) (by rfl) hS (fun w hSw => ?_) ?_
  rotate_left
  · (try dsimp only at hSw); (try subst hSw); go_simp; first | done | (with_reducible rfl)
  simp only [Act.put, List.setIfInBounds_toArray, List.set_cons_zero, List.set_cons_succ]
  refine wpAnyH_takeB (i := 24) (v := ?_) (d := some 29) rfl (by rfl) (by kernel_rfl) (fun _ _ _ h => h) (by rfl) hS (fun w hSw => ?_) ?_
  rotate_left
  · (try dsimp only at hSw); (try subst hSw); go_simp; first | done | (with_reducible rfl)
  simp only [Act.put, List.setIfInBounds_toArray, List.set_cons_zero, List.set_cons_succ]
  refine wpAnyH_takeB (i := 25) (v := ?_) (d := some 30) rfl (by rfl) (by kernel_rfl) (fun _ _ _ h => h) (by rfl) hS (fun w hSw => ?_) ?_
  rotate_left
  · (try dsimp only at hSw); (try subst hSw); go_simp; first | done | (with_reducible rfl)
  simp only [Act.put, List.setIfInBounds_toArray, List.set_cons_zero, List.set_cons_succ]
  refine wpAnyH_takeB (i := 26) (v := ?_) (d := some 31) rfl (by rfl) (by kernel_rfl) (fun _ _ _ h => h) (by rfl) hS (fun w hSw => ?_) ?_
  rotate_left
  · (try dsimp only at hSw); (try subst hSw); go_simp; first | done | (with_reducible rfl)
  simp only [Act.put, List.setIfInBounds_toArray, List.set_cons_zero, List.set_cons_succ]
  refine wpAnyH_takeB (i := 27) (v := ?_) (d := some 32) rfl (by rfl) (by kernel_rfl) (fun _ _ _ h => h) (by rfl) hS (fun w hSw => ?_) ?_
  rotate_left
  · (try dsimp only at hSw); (try subst hSw); go_simp; first | done | (with_reducible rfl)
  simp only [Act.put, List.setIfInBounds_toArray, List.set_cons_zero, List.set_cons_succ]
  refine wpAnyH_takeB (i := 28) (v := ?_) (d := some 33) rfl (by rfl) (by kernel_rfl) (fun _ _ _ h => h) (by rfl) hS (fun w hSw => ?_) ?_
  rotate_left
  · (try dsimp only at hSw); (try subst hSw); go_simp; first | done | (with_reducible rfl)
  simp only [Act.put, List.setIfInBounds_toArray, List.set_cons_zero, List.set_cons_succ]
  refine wpAnyH_takeB (i := 29) (v := ?_) (d := some 34) rfl (by rfl) (by kernel_rfl) (fun _ _ _ h => h) (by rfl) hS (fun w hSw => ?_) ?_
  rotate_left
  · (try dsimp only at hSw); (try subst hSw); go_simp; first | done | (with_reducible rfl)
  simp only [Act.put, List.setIfInBounds_toArray, List.set_cons_zero, List.set_cons_succ]
  refine wpAnyH_takeB (i := 30) (v := ?_) (d := some 35) rfl (by rfl) (by kernel_rfl) (fun _ _ _ h => h) (by rfl) hS (fun w hSw => ?_) ?_
  rotate_left
  · (try dsimp only at hSw); (try subst hSw); go_simp; first | done | (with_reducible rfl)
  simp only [Act.put, List.setIfInBounds_toArray, List.set_cons_zero, List.set_cons_succ]
  refine wpAnyH_takeB (i := 31) (v := ?_) (d := some 36) rfl (by rfl) (by kernel_rfl) (fun _ _ _ h => h) (by rfl) hS (fun w hSw => ?_) ?_
  rotate_left
  · (try dsimp only at hSw); (try subst hSw); go_simp; first | done | (with_reducible rfl)
  simp only [Act.put, List.setIfInBounds_toArray, List.set_cons_zero, List.set_cons_succ]
  refine wpAnyH_takeB (i := 32) (v := ?_) (d := some 37) rfl (by rfl) (by kernel_rfl) (fun _ _ _ h => h) (by rfl) hS (fun w hSw => ?_) ?_
  rotate_left
  · (try dsimp only at hSw); (try subst hSw); go_simp; first | done | (with_reducible rfl)
  simp only [Act.put, List.setIfInBounds_toArray, List.set_cons_zero, List.set_cons_succ]
  have hwt := nwaits_any (H.out.fresh hF0) s
  have HWT := Lib.hid hwt
  clear hwt
  refine wpAnyH_oneB (i := 33) rfl (by kernel_rfl) (fun K hKK => ?_)
  refine Eq.mpr (if_pos (by rfl)) ?_
  go_wp2_with (fail)
  refine (HWT.out).mono ?_
  rintro e9 w2 ⟨rfl, f9⟩
  have hFw2 : Frm (New w) w w2 := hF0.then_new Up.new f9
  have hS2 := HSW.out w2 hFw2
  clear f9
  refine hKK.out _ _ hS2 ?_
  clear hKK K
  try simp only [Act.put, List.setIfInBounds_toArray, List.set_cons_zero, List.set_cons_succ]
  cases hst : E.stuck s with
  | true =>
    refine wpAnyH_takeB (i := 34) (v := ?_) (d := some 39) rfl (by rfl) (by kernel_rfl) (fun _ _ _ h => h) (by rfl) hS2 (fun w hSw => ?_) ?_
    rotate_left
    · (try dsimp only at hSw); (try subst hSw); go_simp; first | done | (with_reducible rfl)
    simp only [Act.put, List.setIfInBounds_toArray, List.set_cons_zero, List.set_cons_succ]
    refine wpAnyH_takeB (i := 35) (v := ?_) (d := some 40) rfl (by rfl) (by kernel_rfl) (fun _ _ _ h => h) (by rfl) hS2 (fun w hSw => ?_) ?_
    rotate_left
    · (try dsimp only at hSw); (try subst hSw); go_simp; first | done | (with_reducible rfl)
    simp only [Act.put, List.setIfInBounds_toArray, List.set_cons_zero, List.set_cons_succ]
    refine wpAnyH_skipC (i := 36) (d := some 41) rfl (by rfl) (by kernel_rfl) (fun _ _ _ h => h) (by rfl) hS2 ?_
    simp only [Act.put, List.setIfInBounds_toArray, List.set_cons_zero, List.set_cons_succ]
    refine wpAnyH_skipC (i := 37) (d := some 42) rfl (by rfl) (by kernel_rfl) (fun _ _ _ h => h) (by rfl) hS2 ?_
    simp only [Act.put, List.setIfInBounds_toArray, List.set_cons_zero, List.set_cons_succ]
    refine wpAnyH_skipC (i := 38) (d := some 43) rfl (by rfl) (by kernel_rfl) (fun _ _ _ h => h) (by rfl) hS2 ?_
    simp only [Act.put, List.setIfInBounds_toArray, List.set_cons_zero, List.set_cons_succ]
    refine wpAnyH_skipC (i := 39) (d := some 44) rfl (by rfl) (by kernel_rfl) (fun _ _ _ h => h) (by rfl) hS2 ?_
    simp only [Act.put, List.setIfInBounds_toArray, List.set_cons_zero, List.set_cons_succ]
    refine wpAnyH_skipC (i := 40) (d := some 45) rfl (by rfl) (by kernel_rfl) (fun _ _ _ h => h) (by rfl) hS2 ?_
    simp only [Act.put, List.setIfInBounds_toArray, List.set_cons_zero, List.set_cons_succ]
    refine wpAnyH_skipC (i := 41) (d := some 46) rfl (by rfl) (by kernel_rfl) (fun _ _ _ h => h) (by rfl) hS2 ?_
    simp only [Act.put, List.setIfInBounds_toArray, List.set_cons_zero, List.set_cons_succ]
    refine wpAnyH_skipC (i := 42) (d := some 47) rfl (by rfl) (by kernel_rfl) (fun _ _ _ h => h) (by rfl) hS2 ?_
    simp only [Act.put, List.setIfInBounds_toArray, List.set_cons_zero, List.set_cons_succ]
    refine wpAnyH_skipC (i := 43) (d := some 48) rfl (by rfl) (by kernel_rfl) (fun _ _ _ h => h) (by rfl) hS2 ?_
    simp only [Act.put, List.setIfInBounds_toArray, List.set_cons_zero, List.set_cons_succ]
    refine wpAnyH_skipC (i := 44) (d := some 49) rfl (by rfl) (by kernel_rfl) (fun _ _ _ h => h) (by rfl) hS2 ?_
    simp only [Act.put, List.setIfInBounds_toArray, List.set_cons_zero, List.set_cons_succ]
    refine wpAnyH_skipC (i := 45) (d := some 50) rfl (by rfl) (by kernel_rfl) (fun _ _ _ h => h) (by rfl) hS2 ?_
    simp only [Act.put, List.setIfInBounds_toArray, List.set_cons_zero, List.set_cons_succ]
    refine wpAnyH_skipC (i := 46) (d := some 51) rfl (by rfl) (by kernel_rfl) (fun _ _ _ h => h) (by rfl) hS2 ?_
    simp only [Act.put, List.setIfInBounds_toArray, List.set_cons_zero, List.set_cons_succ]
    refine wpAnyH_skipC (i := 47) (d := some 52) rfl (by rfl) (by kernel_rfl) (fun _ _ _ h => h) (by rfl) hS2 ?_
    simp only [Act.put, List.setIfInBounds_toArray, List.set_cons_zero, List.set_cons_succ]
    refine wpAnyH_skipC (i := 48) (d := some 53) rfl (by rfl) (by kernel_rfl) (fun _ _ _ h => h) (by rfl) hS2 ?_
    simp only [Act.put, List.setIfInBounds_toArray, List.set_cons_zero, List.set_cons_succ]
    refine wpAnyH_takeB (i := 49) (v := ?_) (d := some 54) rfl (by rfl) (by kernel_rfl) (fun _ _ _ h => h) (by rfl) hS2 (fun w hSw => ?_) ?_
    rotate_left
    · (try dsimp only at hSw); (try subst hSw); go_simp; first | done | (with_reducible rfl)
    simp only [Act.put, List.setIfInBounds_toArray, List.set_cons_zero, List.set_cons_succ]
    refine wpAnyH_oneB (i := 50) rfl (by kernel_rfl) (fun K hK => ?_)
    refine Eq.mpr (if_pos (by rfl)) ?_
    go_simp
    refine hK.out _ _ (hS2) ?_
    clear hK K
    try simp only [Act.put, List.setIfInBounds_toArray, List.set_cons_zero, List.set_cons_succ]
    refine wpAnyH_done (by kernel_rfl) ?_ _
    go_wp2_with (fail)
    go_ret
    refine ⟨?_, hFw2⟩
    rw [HQ.out, decide_eq_false h1, decide_eq_false h2, hst]
    rfl
  | false =>
    refine wpAnyH_takeB (i := 34) (v := ?_) (d := some 39) rfl (by rfl) (by kernel_rfl) (fun _ _ _ h => h) (by rfl) hS2 (fun w hSw => ?_) ?_
    rotate_left
    · (try dsimp only at hSw); (try subst hSw); go_simp; first | done | (with_reducible rfl)
    simp only [Act.put, List.setIfInBounds_toArray, List.set_cons_zero, List.set_cons_succ]
    refine wpAnyH_takeB (i := 35) (v := ?_) (d := some 40) rfl (by rfl) (by kernel_rfl) (fun _ _ _ h => h) (by rfl) hS2 (fun w hSw => ?_) ?_
    rotate_left
    · (try dsimp only at hSw); (try subst hSw); go_simp; first | done | (with_reducible rfl)
    simp only [Act.put, List.setIfInBounds_toArray, List.set_cons_zero, List.set_cons_succ]
    refine wpAnyH_takeB (i := 36) (v := ?_) (d := some 41) rfl (by rfl) (by kernel_rfl) (fun _ _ _ h => h) (by rfl) hS2 (fun w hSw => ?_) ?_
    rotate_left
    · (try dsimp only at hSw); (try subst hSw); go_simp; first | done | (with_reducible rfl)
    simp only [Act.put, List.setIfInBounds_toArray, List.set_cons_zero, List.set_cons_succ]
    refine wpAnyH_takeB (i := 37) (v := ?_) (d := some 42) rfl (by rfl) (by kernel_rfl) (fun _ _ _ h => h) (by rfl) hS2 (fun w hSw => ?_) ?_
    rotate_left
    · (try dsimp only at hSw); (try subst hSw); go_simp; first | done | (with_reducible rfl)
    simp only [Act.put, List.setIfInBounds_toArray, List.set_cons_zero, List.set_cons_succ]
    refine wpAnyH_takeB (i := 38) (v := ?_) (d := some 43) rfl (by rfl) (by kernel_rfl) (fun _ _ _ h => h) (by rfl) hS2 (fun w hSw => ?_) ?_
    rotate_left
    · (try dsimp only at hSw); (try subst hSw); go_simp; first | done | (with_reducible rfl)
    simp only [Act.put, List.setIfInBounds_toArray, List.set_cons_zero, List.set_cons_succ]
    refine wpAnyH_takeB (i := 39) (v := ?_) (d := some 44) rfl (by rfl) (by kernel_rfl) (fun _ _ _ h => h) (by rfl) hS2 (fun w hSw => ?_) ?_
    rotate_left
    · (try dsimp only at hSw); (try subst hSw); go_simp; first | done | (with_reducible rfl)
    simp only [Act.put, List.setIfInBounds_toArray, List.set_cons_zero, List.set_cons_succ]
    refine wpAnyH_takeB (i := 41) (v := ?_) (d := some 46) rfl (by rfl) (by kernel_rfl) (fun _ _ _ h => h) (by rfl) hS2 (fun w hSw => ?_) ?_
    rotate_left
    · (try dsimp only at hSw); (try subst hSw); go_simp; first | done | (with_reducible rfl)
    simp only [Act.put, List.setIfInBounds_toArray, List.set_cons_zero, List.set_cons_succ]
    refine wpAnyH_takeB (i := 42) (v := ?_) (d := some 47) rfl (by rfl) (by kernel_rfl) (fun _ _ _ h => h) (by rfl) hS2 (fun w hSw => ?_) ?_
    rotate_left
    · (try dsimp only at hSw); (try subst hSw); go_simp; first | done | (with_reducible rfl)
    simp only [Act.put, List.setIfInBounds_toArray, List.set_cons_zero, List.set_cons_succ]
    refine wpAnyH_takeB (i := 43) (v := ?_) (d := some 48) rfl (by rfl) (by kernel_rfl) (fun _ _ _ h => h) (by rfl) hS2 (fun w hSw => ?_) ?_
    rotate_left
    · (try dsimp only at hSw); (try subst hSw); go_simp; first | done | (with_reducible rfl)
    simp only [Act.put, List.setIfInBounds_toArray, List.set_cons_zero, List.set_cons_succ]
    refine wpAnyH_takeB (i := 44) (v := ?_) (d := some 49) rfl (by rfl) (by kernel_rfl) (fun _ _ _ h => h) (by rfl) hS2 (fun w hSw => ?_) ?_
    rotate_left
    · (try dsimp only at hSw); (try subst hSw); go_simp; first | done | (with_reducible rfl)
    simp only [Act.put, List.setIfInBounds_toArray, List.set_cons_zero, List.set_cons_succ]
    refine wpAnyH_takeB (i := 45) (v := ?_) (d := some 50) rfl (by rfl) (by kernel_rfl) (fun _ _ _ h => h) (by rfl) hS2 (fun w hSw => ?_) ?_
    rotate_left
    · (try dsimp only at hSw); (try subst hSw); go_simp; first | done | (with_reducible rfl)
    simp only [Act.put, List.setIfInBounds_toArray, List.set_cons_zero, List.set_cons_succ]
    refine wpAnyH_takeB (i := 46) (v := ?_) (d := some 51) rfl (by rfl) (by kernel_rfl) (fun _ _ _ h => h) (by rfl) hS2 (fun w hSw => ?_) ?_
    rotate_left
    · (try dsimp only at hSw); (try subst hSw); go_simp; first | done | (with_reducible rfl)
    simp only [Act.put, List.setIfInBounds_toArray, List.set_cons_zero, List.set_cons_succ]
    refine wpAnyH_takeB (i := 47) (v := ?_) (d := some 52) rfl (by rfl) (by kernel_rfl) (fun _ _ _ h => h) (by rfl) hS2 (fun w hSw => ?_) ?_
    rotate_left
    · (try dsimp only at hSw); (try subst hSw); go_simp; first | done | (with_reducible rfl)
    simp only [Act.put, List.setIfInBounds_toArray, List.set_cons_zero, List.set_cons_succ]
    have hwg := nwaiting_any (H.out.fresh hFw2) hL
    have HWG := Lib.hid hwg
    clear hwg
    refine wpAnyH_oneB (i := 40) rfl (by kernel_rfl) (fun K hKK => ?_)
    refine Eq.mpr (if_pos (by rfl)) ?_
    go_wp2_with (fail)
    refine (HWG.out).mono ?_
    rintro e9 w3 ⟨rfl, f9⟩
    have hFw3 : Frm (New w) w w3 := hFw2.then_new Up.new f9
    have hS3 := HSW.out w3 hFw3
    clear f9
    refine hKK.out _ _ hS3 ?_
    clear hKK K
    try simp only [Act.put, List.setIfInBounds_toArray, List.set_cons_zero, List.set_cons_succ]
    by_cases h4 : E.many < E.blk
    · have h4i : ((E.many : Nat) : Int) < (E.blk : Int) := by omega
      refine wpAnyH_takeB (i := 48) (v := .bool true) (d := some 53) rfl (by rfl) (by kernel_rfl) (fun _ _ _ h => h) (by rfl) hS3 (fun w hSw => by go_simp) ?_
      simp only [Act.put, List.setIfInBounds_toArray, List.set_cons_zero, List.set_cons_succ]
      refine wpAnyH_takeB (i := 49) (v := ?_) (d := some 54) rfl (by rfl) (by kernel_rfl) (fun _ _ _ h => h) (by rfl) hS3 (fun w hSw => ?_) ?_
      rotate_left
      · (try dsimp only at hSw); (try subst hSw); go_simp; first | done | (with_reducible rfl)
      simp only [Act.put, List.setIfInBounds_toArray, List.set_cons_zero, List.set_cons_succ]
      refine wpAnyH_oneB (i := 50) rfl (by kernel_rfl) (fun K hK => ?_)
      refine Eq.mpr (if_pos (by rfl)) ?_
      go_simp
      refine hK.out _ _ (hS3) ?_
      clear hK K
      try simp only [Act.put, List.setIfInBounds_toArray, List.set_cons_zero, List.set_cons_succ]
      refine wpAnyH_done (by kernel_rfl) ?_ _
      go_wp2_with (fail)
      go_ret
      refine ⟨?_, hFw3⟩
      rw [HQ.out, decide_eq_false h1, decide_eq_false h2, hst, decide_eq_true h4]
      rfl
    · have h4i : ¬ ((E.many : Nat) : Int) < (E.blk : Int) := by omega
      refine wpAnyH_takeB (i := 48) (v := .bool false) (d := some 53) rfl (by rfl) (by kernel_rfl) (fun _ _ _ h => h) (by rfl) hS3 (fun w hSw => by go_simp) ?_
      simp only [Act.put, List.setIfInBounds_toArray, List.set_cons_zero, List.set_cons_succ]
      refine wpAnyH_takeB (i := 49) (v := ?_) (d := some 54) rfl (by rfl) (by kernel_rfl) (fun _ _ _ h => h) (by rfl) hS3 (fun w hSw => ?_) ?_
      rotate_left
      · (try dsimp only at hSw); (try subst hSw); go_simp; first | done | (with_reducible rfl)
      simp only [Act.put, List.setIfInBounds_toArray, List.set_cons_zero, List.set_cons_succ]
      refine wpAnyH_oneB (i := 50) rfl (by kernel_rfl) (fun K hK => ?_)
      refine Eq.mpr (if_pos (by rfl)) ?_
      go_simp
      refine hK.out _ _ (hS3) ?_
      clear hK K
      try simp only [Act.put, List.setIfInBounds_toArray, List.set_cons_zero, List.set_cons_succ]
      refine wpAnyH_done (by kernel_rfl) ?_ _
      go_wp2_with (fail)
      go_ret
      refine ⟨?_, hFw3⟩
      rw [HQ.out, decide_eq_false h1, decide_eq_false h2, hst, decide_eq_false h4]
      rfl
end Go.Proofs.Ytdgggjeiflllhaa.M
namespace Go.Proofs.Ytdgggjeiflllhaa.M
open Go.ChangeShapes Go.WideShapes Go.ChangeAt Go.RowKit
def lqC (x : Lq) : List Value := [.string ⟨x.f.1.toArray⟩, .string ⟨x.f.2.toArray⟩, .int .u64 (x.i : Int), .bool (decide (x.kind = 1)), .bool (decide (x.kind ≤ 1)), .bool (decide (x.kind = 2))]
def lqs (l : List Lq) : List Value := l.flatMap lqC
theorem lqs_len (l : List Lq) : (lqs l).length = l.length * 6 := by
  induction l with
  | nil => rfl
  | cons x r ih => unfold lqs at ih ⊢; rw [List.flatMap_cons, List.length_append, ih]; simp [lqC]; omega
theorem lqs_append (l k : List Lq) : lqs (l ++ k) = lqs l ++ lqs k := by unfold lqs; rw [List.flatMap_append]
theorem lnsE : Elem Try.prog 85 90 6 48 :=
  ⟨by kernel_rfl, by
    have h : (Try.prog.info? 90).map (fun i => (i.zero, i.size, i.bytes)) = some (some (.agg #[.string ⟨#[]⟩, .string ⟨#[]⟩, .int .u64 0, .bool false, .bool false, .bool false]), 6, 48) := by kernel_rfl
    obtain ⟨i, hi, hz, hs, hb⟩ := info_parts h
    exact ⟨i, _, hi, hz, hs, hb, rfl⟩, by omega, by omega⟩
structure WqM (Y : Nat → Prop) (w : World) (pw pe s mu : Nat) (ments : List (Nat × Value)) (Ao : Option Addr) (co : Nat) (Al : Option Addr) (cl : Nat) (Wr : Wq) : Prop where
  blk : Blk w pw 87 #[.pointer (some ⟨pe, 0, none⟩), .int .u64 (s : Int), .int .u64 (Wr.count : Int), .map (some mu), .slice Ao Wr.out.length co, .slice Al Wr.lines.length cl]
  use_ : UseM w mu Wr.uses ments
  out : Rd w Ao (bvs Wr.out)
  oc : Wr.out.length ≤ co
  lines : App Y w 90 6 Al Wr.lines.length cl (lqs Wr.lines)
  low : ∀ k, Y k → k < w.heap.size
  yp : Y pw
  ym : Y mu
  yo : ∀ k, M.blk Ao = some k → Y k
  pm : pw ≠ mu
  lp : ∀ k, M.blk Al = some k → k ≠ pw ∧ k ≠ mu
  op : ∀ k, M.blk Ao = some k → k ≠ pw ∧ k ≠ mu ∧ M.blk Al ≠ some k
  ll : Wr.lines.length ≤ 1048576
  ol : Wr.out.length ≤ 1099511627776
  ct : Wr.count ≤ 1152921504606846976
  ul : Wr.uses.length ≤ 1048576
section
variable {Y : Nat → Prop} {w w' : World} {pw pe s mu co cl : Nat} {ments : List (Nat × Value)} {Ao Al : Option Addr} {Wr : Wq}
theorem WqM.keep {N : Nat → Prop} (h : WqM Y w pw pe s mu ments Ao co Al cl Wr) (f : Frm N w w') (hN : ∀ k, Y k → ¬ N k) : WqM Y w' pw pe s mu ments Ao co Al cl Wr :=
  { h with
    blk := h.blk.keep f (hN _ h.yp)
    use_ := { h.use_ with map := h.use_.map.keep f (hN _ h.ym) }
    out := h.out.keep f (fun k hk => hN k (h.yo k hk))
    lines := h.lines.keep f (fun k hk => hN k (h.lines.inM k hk))
    low := fun k hk => Nat.lt_of_lt_of_le (h.low k hk) f.size }
theorem WqM.fresh (h : WqM Y w pw pe s mu ments Ao co Al cl Wr) (f : Frm (New w) w w') : WqM Y w' pw pe s mu ments Ao co Al cl Wr :=
  h.keep f (fun k hk e => by have := h.low k hk; unfold New at e; omega)
end
end Go.Proofs.Ytdgggjeiflllhaa.M
namespace Go.Proofs.Ytdgggjeiflllhaa.M
open Go.ChangeShapes Go.WideShapes Go.ChangeAt Go.RowKit
theorem build_lq {o : Oper} {a : Act} {w : World} {x y : Operand} {f1 f2 : Bytes} {p : Nat} (ho : o.op = .build 90 #[(0, x), (1, y), (2, .const (.bool true)), (3, .const (.bool true))]) (hx : a.eval x = .agg #[.string ⟨f1.toArray⟩, .string ⟨f2.toArray⟩]) (hy : a.eval y = .int .u64 (p : Int)) :
    (execOp a.eval o).run Try.prog w = .ok (.value (.agg #[.string ⟨f1.toArray⟩, .string ⟨f2.toArray⟩, .int .u64 (p : Int), .bool true, .bool true, .bool false])) w := by
  unfold execOp
  rw [ho]
  simp only [List.map_toArray, List.map_cons, List.map_nil, hx, hy]
  kernel_rfl
theorem getE_pos {s n : Nat} : ∀ {l : List (Nat × Value)}, (∀ x ∈ l, ∃ v : Int, 0 < v ∧ v ≤ (n : Int) ∧ x.2 = .int .i64 v) → ∃ v : Int, 0 ≤ v ∧ v ≤ (n : Int) ∧ (getE s l).getD (.int .i64 0) = .int .i64 v ∧ (0 < v ↔ s ∈ l.map (·.1))
  | [], _ => ⟨0, by omega, by omega, rfl, by simp⟩
  | x :: r, h => by
    rw [getE_cons]
    by_cases e : s = x.1
    · rw [if_pos e]
      obtain ⟨v, h1, h2, h3⟩ := h x (List.mem_cons_self ..)
      exact ⟨v, by omega, h2, by rw [h3]; rfl, by simp [h1, e]⟩
    · rw [if_neg e]
      obtain ⟨v, h1, h2, h3, h4⟩ := getE_pos (s := s) (fun y hy => h y (List.mem_cons_of_mem _ hy))
      exact ⟨v, h1, h2, h3, by rw [h4]; simp [e]⟩
theorem UseM.more {w w' : World} {b : Nat} {us : List Nat} {ents : List (Nat × Value)} (h : UseM w b us ents) (p : Nat) (v : Int) (hv : 0 < v) (hv2 : v ≤ (us.length : Int) + 1) (hm : MapIs w' b ukey (putE p (.int .i64 v) ents)) : UseM w' b (us ++ [p]) (putE p (.int .i64 v) ents) := by
  have hlen : ((us ++ [p]).length : Int) = (us.length : Int) + 1 := by simp
  refine ⟨hm, ?_, fun q => ?_⟩
  · rw [hlen]
    have hc : ∀ (l : List (Nat × Value)), (∀ x ∈ l, ∃ v : Int, 0 < v ∧ v ≤ (us.length : Int) ∧ x.2 = .int .i64 v) → ∀ x ∈ putE p (.int .i64 v) l, ∃ v : Int, 0 < v ∧ v ≤ (us.length : Int) + 1 ∧ x.2 = .int .i64 v := fun l => by
      induction l with
      | nil => intro _ x hx; simp [putE] at hx; exact ⟨v, hv, hv2, by rw [hx]⟩
      | cons y r ih =>
        have hw : ∀ z : Nat × Value, (∃ v : Int, 0 < v ∧ v ≤ (us.length : Int) ∧ z.2 = .int .i64 v) → ∃ v : Int, 0 < v ∧ v ≤ (us.length : Int) + 1 ∧ z.2 = .int .i64 v := fun z h => by
          obtain ⟨u, h1, h2, h3⟩ := h
          exact ⟨u, h1, by omega, h3⟩
        intro hl x hx
        unfold putE at hx
        split at hx
        · rcases List.mem_cons.1 hx with e | e
          · exact ⟨v, hv, hv2, by rw [e]⟩
          · exact hw x (hl x (List.mem_cons_of_mem _ e))
        · rcases List.mem_cons.1 hx with e | e
          · exact hw x (hl x (e ▸ List.mem_cons_self ..))
          · exact ih (fun z hz => hl z (List.mem_cons_of_mem _ hz)) x e
    exact hc ents h.pos
  · rw [mem_keys_put, List.mem_append, List.mem_singleton, h.mem q]
    exact Or.comm
section
variable {Y : Nat → Prop} {w w' w2 : World} {pw pe s mu co cl : Nat} {ments : List (Nat × Value)} {Ao Al : Option Addr} {Wr : Wq}
theorem WqM.used (h : WqM Y w pw pe s mu ments Ao co Al cl Wr) (p : Nat) (v : Int) (hv : 0 < v) (hv2 : v ≤ (Wr.uses.length : Int) + 1) (hm : MapIs w' mu ukey (putE p (.int .i64 v) ments)) (f : Frm (· = mu) w w') (hu : Wr.uses.length < 1048576) : WqM Y w' pw pe s mu (putE p (.int .i64 v) ments) Ao co Al cl { Wr with uses := Wr.uses ++ [p] } :=
  { h with
    blk := h.blk.keep f h.pm
    use_ := h.use_.more p v hv hv2 hm
    out := h.out.keep f (fun k hk e => (h.op k hk).2.1 e)
    lines := h.lines.keep f (fun k hk e => (h.lp k hk).2 e)
    low := fun k hk => Nat.lt_of_lt_of_le (h.low k hk) f.size
    ul := by show (_ ++ _ : List Nat).length ≤ _; rw [List.length_append]; simp; omega }
theorem WqM.setcnt (h : WqM Y w pw pe s mu ments Ao co Al cl Wr) (n : Nat) (hn : n ≤ 1152921504606846976) : WqM Y (w.setCell ⟨pw, 2, none⟩ (.int .u64 (n : Int))) pw pe s mu ments Ao co Al cl { Wr with count := n } := by
  have f : Frm (fun k => k = pw) w (w.setCell ⟨pw, 2, none⟩ (.int .u64 (n : Int))) := (Frm.refl (fun k => k = pw) w).setCell (p := ⟨pw, 2, none⟩) rfl _
  exact { h with
    blk := by have := h.blk.set_ 2 (.int .u64 (n : Int)); simpa using this
    use_ := { h.use_ with map := h.use_.map.keep f (fun e => h.pm e.symm) }
    out := h.out.keep f (fun k hk e => (h.op k hk).1 e)
    lines := h.lines.keep f (fun k hk e => (h.lp k hk).1 e)
    low := fun k hk => Nat.lt_of_lt_of_le (h.low k hk) f.size
    ct := hn }
theorem WqM.line (h : WqM Y w pw pe s mu ments Ao co Al cl Wr) (x : Lq) {A2 : Option Addr} {c2 : Nat} (hA : App (fun k => Y k ∧ M.blk Al = some k ∨ New w k) w2 90 6 A2 (Wr.lines.length + 1) c2 (lqs (Wr.lines ++ [x]))) (f : Frm (fun k => Y k ∧ M.blk Al = some k ∨ New w k) w w2) (hn : Wr.lines.length < 1048576) :
    WqM (fun k => Y k ∨ M.blk A2 = some k) (w2.setCell ⟨pw, 5, none⟩ (.slice A2 (Wr.lines.length + 1) c2)) pw pe s mu ments Ao co A2 c2 { Wr with lines := Wr.lines ++ [x] } := by
  have hq : ∀ k, Y k → M.blk Al ≠ some k → ¬ (Y k ∧ M.blk Al = some k ∨ New w k) := fun k hk hne e => by
    rcases e with e | e
    · exact hne e.2
    · have := h.low k hk; unfold New at e; omega
  have hp := hq pw h.yp (fun e => (h.lp pw e).1 rfl)
  have hm := hq mu h.ym (fun e => (h.lp mu e).2 rfl)
  have f2 : Frm (fun k => k = pw) w2 (w2.setCell ⟨pw, 5, none⟩ (.slice A2 (Wr.lines.length + 1) c2)) := (Frm.refl (fun k => k = pw) w2).setCell (p := ⟨pw, 5, none⟩) rfl _
  have hA2 : ∀ k, M.blk A2 = some k → k ≠ pw ∧ k ≠ mu ∧ k < w2.heap.size := fun k hk => by
    obtain ⟨g, o, rfl, hl⟩ := hA.rd.lt (by rw [lqs_append]; simp [lqs, lqC])
    have hkg : g = k := by simpa using hk
    subst hkg
    rcases hA.inM g rfl with e | e
    · exact ⟨(h.lp g e.2).1, (h.lp g e.2).2, hl⟩
    · have h1 := h.low pw h.yp
      have h2 := h.low mu h.ym
      unfold New at e
      exact ⟨by omega, by omega, hl⟩
  have hl : (Wr.lines ++ [x]).length = Wr.lines.length + 1 := by simp
  exact {
    blk := by have := (h.blk.keep f hp).set_ 5 (.slice A2 (Wr.lines.length + 1) c2); simpa using this
    use_ := { h.use_ with map := (h.use_.map.keep f hm).keep f2 (fun e => h.pm e.symm) }
    out := (h.out.keep f (fun k hk => hq k (h.yo k hk) (h.op k hk).2.2)).keep f2 (fun k hk e => (h.op k hk).1 e)
    lines := by
      show App _ _ _ 6 A2 (Wr.lines ++ [x]).length c2 _
      rw [hl]
      have h1 := hA.keep f2 (fun k hk e => (hA2 k hk).1 e)
      exact { h1 with
        inM := fun k hk => .inr hk
        own := fun hc => by
          obtain ⟨gg, off, cur, a, b2, d, m⟩ := h1.own hc
          exact ⟨gg, off, cur, a, b2, d, .inr (by rw [a]; rfl)⟩ }
    low := fun k hk => by
      have hs := f.size
      rcases hk with hk | hk
      · have := h.low k hk; simp; omega
      · have := (hA2 k hk).2.2; simpa using this
    yp := .inl h.yp, ym := .inl h.ym, yo := fun k hk => .inl (h.yo k hk), pm := h.pm
    lp := fun k hk => ⟨(hA2 k hk).1, (hA2 k hk).2.1⟩
    op := fun k hk => ⟨(h.op k hk).1, (h.op k hk).2.1, fun q => by
      rcases hA.inM k q with e | e
      · exact (h.op k hk).2.2 e.2
      · have := h.low k (h.yo k hk); unfold New at e; omega⟩
    ll := by show (Wr.lines ++ [x]).length ≤ _; rw [hl]; omega
    oc := h.oc, ol := h.ol, ct := h.ct, ul := h.ul }
end
theorem zIntN : (Try.prog.info? 3).map (·.zero) = some (some (.int .i64 0)) := by kernel_rfl
set_option maxRecDepth 100000 in
set_option maxHeartbeats 4000000 in
theorem nuse_any {Y : Nat → Prop} {w : World} {pw pe s mu co cl : Nat} {ments : List (Nat × Value)} {Ao Al : Option Addr} {Wr : Wq} (h : WqM Y w pw pe s mu ments Ao co Al cl Wr) (f : Fld) (p : Nat) (hp : p < 1152921504606846976) (hll : Wr.lines.length < 1048576) (hul : Wr.uses.length < 1048576) :
    Calls Try.prog 75 #[.pointer (some ⟨pw, 0, none⟩), fld f, .int .u64 (p : Int)] w fun e w' => e = .returned (.tuple #[]) ∧ ∃ (Y' : Nat → Prop) (ments' : List (Nat × Value)) (Al' : Option Addr) (cl' : Nat), WqM Y' w' pw pe s mu ments' Ao co Al' cl' (Wr.use f p) ∧ Frm (Own Y w) w w' ∧ ∀ k, Y' k → Own Y w k := by
  obtain ⟨f1, f2⟩ := f
  simp only [fld, str]
  have hF1 : Frm (New w) w (w.alloc (Obj.cells #[.string ⟨f1.toArray⟩, .string ⟨f2.toArray⟩] 71)) := (Frm.refl _ _).alloc Up.new _
  have hBx := Blk.new w 71 #[.string ⟨f1.toArray⟩, .string ⟨f2.toArray⟩]
  obtain ⟨bx, hbx⟩ : ∃ q, q = w.heap.size := ⟨_, rfl⟩
  rw [← hbx] at hBx
  have hbxw : w.heap.size ≤ bx := by omega
  have hlowY : ∀ k, Y k → k < bx := fun k hk => by rw [hbx]; exact h.low k hk
  have h1 := h.fresh hF1
  obtain ⟨v, hv0, hv1, hv, hvp⟩ := getE_pos (s := p) h.use_.pos
  have hvw : IntKind.i64.wrap (v + 1) = v + 1 := IntWalk.i64_in _ (by omega)
  have H := Lib.hid h
  clear h
  go_enter Try.func75, Try.ntmps75
  go_upto_region 1 with (fail)
  rw [← hbx]
  clear hbx
  generalize w.alloc (Obj.cells #[.string ⟨f1.toArray⟩, .string ⟨f2.toArray⟩] 71) = w1 at *
  have hb := h1.blk
  have hy3 := hb.cell 3
  simp only [List.getElem?_toArray, List.getElem?_cons_zero, List.getElem?_cons_succ] at hy3
  have hpl := hb.lt
  have hlk := run_lookup ukeys uMq zIntN h1.use_.map p false
  rw [hv] at hlk
  simp only [Bool.false_eq_true, if_false, ukey] at hlk
  have H1 := Lib.hid h1
  have HB := Lib.hid hb
  have HBX := Lib.hid hBx
  have HF1 := Lib.hid hF1
  have HV := Lib.hid hv
  clear h1 hb hBx hF1 hv
  go_upto_region 2 with (refine wpList_update ukeys uMq rfl rfl rfl (k := p) rfl H1.out.use_.map (fun w2 hm2 f2 hs2 => ?_))
  have hm2' : MapIs w2 mu ukey (putE p (.int .i64 (v + 1)) ments) := hm2
  have hW2 := H1.out.used p (v + 1) (by omega) (by omega) hm2' f2 hul
  have hBx2 := HBX.out.keep f2 (fun (e : bx = mu) => by have := hlowY mu H1.out.ym; omega)
  have hF2 : Frm (Own Y w) w w2 := (HF1.out.mono (fun k hk => .inr hk)).trans (f2.mono (fun k hk => .inl (by rw [hk]; exact H1.out.ym)))
  clear hs2 hm2 hm2' f2 hy3 hpl hlk HB
  have hb2 := hW2.blk
  simp only at hb2
  have hy2 := hb2.cell 2
  simp only [List.getElem?_toArray, List.getElem?_cons_zero, List.getElem?_cons_succ] at hy2
  have hz2 := hb2.frozen 2
  have hpl := hb2.lt
  have hp1 : IntKind.u64.wrap ((p : Int) + 1) = ((p + 1 : Nat) : Int) := by rw [IntWalk.u64_in _ (by omega)]; omega
  have hctl : Wr.count ≤ 1152921504606846976 := H1.out.ct
  have HW2 := Lib.hid hW2
  have HB2 := Lib.hid hb2
  have HBX2 := Lib.hid hBx2
  have HF2 := Lib.hid hF2
  clear hW2 hb2 hBx2 hF2
  have hset : ∀ n : Nat, n ≤ 1152921504606846976 → WqM Y (w2.setCell ⟨pw, 2, none⟩ (.int .u64 (n : Int))) pw pe s mu (putE p (.int .i64 (v + 1)) ments) Ao co Al cl { Wr with uses := Wr.uses ++ [p], count := n } ∧ Blk (w2.setCell ⟨pw, 2, none⟩ (.int .u64 (n : Int))) bx 71 #[.string ⟨f1.toArray⟩, .string ⟨f2.toArray⟩] ∧ Frm (Own Y w) w (w2.setCell ⟨pw, 2, none⟩ (.int .u64 (n : Int))) := fun n hn =>
    ⟨HW2.out.setcnt n hn, HBX2.out.far (p := ⟨pw, 2, none⟩) (by have := hlowY pw H1.out.yp; show bx ≠ pw; omega) _, HF2.out.setCell (p := ⟨pw, 2, none⟩) (.inl H1.out.yp) _⟩
  have HSET := Lib.hid hset
  clear hset
  simp only [Act.put]
  go_cut [] from 14 (fun w3 => ∃ n : Nat, n = max Wr.count (p + 1) ∧ Hid (WqM Y w3 pw pe s mu (putE p (.int .i64 (v + 1)) ments) Ao co Al cl { Wr with uses := Wr.uses ++ [p], count := n }) ∧ Hid (Blk w3 bx 71 #[.string ⟨f1.toArray⟩, .string ⟨f2.toArray⟩]) ∧ Hid (Frm (Own Y w) w w3))
  case first =>
    by_cases hmx : Wr.count < p + 1
    · have hmi : (Wr.count : Int) < ((p + 1 : Nat) : Int) := by omega
      have hmj : ¬ ((p + 1 : Nat) : Int) ≤ (Wr.count : Int) := by omega
      obtain ⟨k1, k2, k3⟩ := HSET.out (p + 1) (by omega)
      have K1 := Lib.hid k1
      have K2 := Lib.hid k2
      have K3 := Lib.hid k3
      clear k1 k2 k3
      go_wp2
      go_meet
      exact ⟨p + 1, by omega, K1, K2, K3⟩
    · have hmi : ¬ (Wr.count : Int) < ((p + 1 : Nat) : Int) := by omega
      have hmj : ((p + 1 : Nat) : Int) ≤ (Wr.count : Int) := by omega
      obtain ⟨k1, k2, k3⟩ := HSET.out Wr.count (by omega)
      have K1 := Lib.hid k1
      have K2 := Lib.hid k2
      have K3 := Lib.hid k3
      clear k1 k2 k3
      go_wp2
      go_meet
      exact ⟨Wr.count, by omega, K1, K2, K3⟩
  case rest =>
    obtain ⟨n, hn, hW3, hB3, hF3⟩ := hcut
    rename World => w3
    clear hy2 hz2 hpl HW2 HB2 HBX2 HF2 HSET H1 HBX HF1
    have hb3 := hW3.out.blk
    simp only at hb3
    have hy5 := hb3.cell 5
    simp only [List.getElem?_toArray, List.getElem?_cons_zero, List.getElem?_cons_succ] at hy5
    have hz5 := hb3.frozen 5
    have hpl := hb3.lt
    have hbx3 := hB3.out
    have hx0 := hbx3.cell 0
    have hx1 := hbx3.cell 1
    simp only [List.getElem?_toArray, List.getElem?_cons_zero, List.getElem?_cons_succ] at hx0 hx1
    have hbl := hB3.out.lt
    have hS0 : w3.drew.cell? ⟨pw, 5, none⟩ = some (.slice Al Wr.lines.length cl) ∧ w3.drew.cell? ⟨bx, 0, none⟩ = some (.string ⟨f1.toArray⟩) ∧ w3.drew.cell? ⟨bx, 1, none⟩ = some (.string ⟨f2.toArray⟩) := ⟨hy5, hx0, hx1⟩
    have hup : Up (fun k => Y k ∧ M.blk Al = some k ∨ New w3 k) w3 := fun k hk => .inr hk
    have hlines : App Y w3 90 6 Al Wr.lines.length cl (lqs Wr.lines) := hW3.out.lines
    have happ : App (fun k => Y k ∧ M.blk Al = some k ∨ New w3 k) w3 90 6 Al Wr.lines.length cl (lqs Wr.lines) :=
      { hlines with
        inM := fun k hk => .inl ⟨hlines.inM k hk, hk⟩
        own := fun hc => by
          obtain ⟨gg, off, cur, a, b2, d, m⟩ := hlines.own hc
          exact ⟨gg, off, cur, a, b2, d, .inl ⟨m, by rw [a]; rfl⟩⟩ }
    have hnp : ¬ (Y pw ∧ M.blk Al = some pw ∨ New w3 pw) := fun e => by
      rcases e with e | e
      · exact (hW3.out.lp pw e.2).1 rfl
      · unfold New at e; omega
    have hnb : ¬ (Y bx ∧ M.blk Al = some bx ∨ New w3 bx) := fun e => by
      rcases e with e | e
      · have := hlowY bx e.1; omega
      · unfold New at e; omega
    have HB3 := Lib.hid hb3
    have HUP := Lib.hid hup
    have HAPP := Lib.hid happ
    have HNP := Lib.hid hnp
    have HNB := Lib.hid hnb
    have HBX3 := Lib.hid hbx3
    clear hb3 hup happ hnp hnb hbx3
    clear hlines
    go_upto_region 3 with (fail)
    refine wp_region_til (by kernel_rfl) (fun w' => w'.cell? ⟨pw, 5, none⟩ = some (.slice Al Wr.lines.length cl) ∧ w'.cell? ⟨bx, 0, none⟩ = some (.string ⟨f1.toArray⟩) ∧ w'.cell? ⟨bx, 1, none⟩ = some (.string ⟨f2.toArray⟩)) 12 ?_
    change wpAnyT _ _ _ _ _ _ _ _ _ w3.drew
    refine wpAnyT_take (i := 0) (v := ?_) (d := some 26) rfl (by rfl) (by kernel_rfl) (fun _ _ _ h => h) (by rfl) hS0 (fun w hSw => ?_) ?_
    rotate_left
    · (try dsimp only at hSw); go_simp; first | done | (with_reducible rfl)
    simp only [Act.put, List.setIfInBounds_toArray, List.set_cons_zero, List.set_cons_succ]
    refine wpAnyT_take (i := 1) (v := ?_) (d := some 27) rfl (by rfl) (by kernel_rfl) (fun _ _ _ h => h) (by rfl) hS0 (fun w hSw => ?_) ?_
    rotate_left
    · (try dsimp only at hSw); go_simp; first | done | (with_reducible rfl)
    simp only [Act.put, List.setIfInBounds_toArray, List.set_cons_zero, List.set_cons_succ]
    refine wpAnyT_take (i := 2) (v := ?_) (d := some 28) rfl (by rfl) (by kernel_rfl) (fun _ _ _ h => h) (by rfl) hS0 (fun w hSw => ?_) ?_
    rotate_left
    · (try dsimp only at hSw); go_simp; first | done | (with_reducible rfl)
    simp only [Act.put, List.setIfInBounds_toArray, List.set_cons_zero, List.set_cons_succ]
    refine wpAnyT_take (i := 3) (v := ?_) (d := some 29) rfl (by rfl) (by kernel_rfl) (fun _ _ _ h => h) (by rfl) hS0 (fun w hSw => ?_) ?_
    rotate_left
    · (try dsimp only at hSw); go_simp; first | done | (with_reducible rfl)
    simp only [Act.put, List.setIfInBounds_toArray, List.set_cons_zero, List.set_cons_succ]
    refine wpAnyT_take (i := 4) (v := ?_) (d := some 30) rfl (by rfl) (by kernel_rfl) (fun _ _ _ h => h) (by rfl) hS0 (fun w hSw => ?_) ?_
    rotate_left
    · (try dsimp only at hSw); go_simp; first | done | (with_reducible rfl)
    simp only [Act.put, List.setIfInBounds_toArray, List.set_cons_zero, List.set_cons_succ]
    refine wpAnyT_take (i := 5) (v := ?_) (d := some 31) rfl (by rfl) (by kernel_rfl) (fun _ _ _ h => h) (by rfl) hS0 (fun w hSw => ?_) ?_
    rotate_left
    · (try dsimp only at hSw); go_simp; first | done | (with_reducible rfl)
    simp only [Act.put, List.setIfInBounds_toArray, List.set_cons_zero, List.set_cons_succ]
    refine wpAnyT_take (i := 6) (v := ?_) (d := some 32) rfl (by rfl) (by kernel_rfl) (fun _ _ _ h => h) (by rfl) hS0 (fun w hSw => ?_) ?_
    rotate_left
    · (try dsimp only at hSw); go_simp; first | done | (with_reducible rfl)
    simp only [Act.put, List.setIfInBounds_toArray, List.set_cons_zero, List.set_cons_succ]
    refine wpAnyT_take (i := 7) (v := .agg #[.string ⟨f1.toArray⟩, .string ⟨f2.toArray⟩, .int .u64 (p : Int), .bool true, .bool true, .bool false]) (d := some 33) rfl (by rfl) (by kernel_rfl) (fun _ _ _ h => h) (by rfl) hS0 (fun w hSw => build_lq rfl rfl rfl) ?_
    simp only [Act.put, List.setIfInBounds_toArray, List.set_cons_zero, List.set_cons_succ]
    have hn0 := World.new_ne w3.drew _ hy5
    have hn1 := World.new_ne w3.drew _ hx0
    refine wpAnyT_one (i := 8) rfl (by kernel_rfl) (fun K hK => ?_)
    go_simp
    refine hK.out _ _ (.inr ((by go_keep))) ?_
    clear hK K
    refine wpAnyT_one (i := 9) rfl (by kernel_rfl) (fun K hKK => ?_)
    refine step_append2 lnsE rfl rfl rfl (HAPP.out.alloc _).drew (fun k hk => HUP.out k (Nat.le_trans (by simp) hk)) rfl (Rd.new _ #[.string ⟨f1.toArray⟩, .string ⟨f2.toArray⟩, .int .u64 (p : Int), .bool true, .bool true, .bool false] _) rfl (fun u hu => by simp at hu; rcases hu with rfl | rfl | rfl | rfl | rfl | rfl <;> rfl) (by omega) ?_
    intro A2 c2 w4 hA4 hF4 _ _
    replace hF4 : Frm (fun k => Y k ∧ M.blk Al = some k ∨ New w3 k) w3 w4 := Frm.trans (((Frm.refl _ w3).alloc HUP.out _).drew) hF4
    have hA5 : App (fun k => Y k ∧ M.blk Al = some k ∨ New w3 k) w4 90 6 A2 (Wr.lines.length + 1) c2 (lqs (Wr.lines ++ [⟨1, p, (f1, f2)⟩])) := by rw [lqs_append]; exact hA4
    have hQ := hW3.out.line ⟨1, p, (f1, f2)⟩ hA5 hF4 hll
    have hy4 : w4.cell? ⟨pw, 5, none⟩ = some (.slice Al Wr.lines.length cl) := by rw [hF4.cell (p := ⟨pw, 5, none⟩) HNP.out]; exact hy5
    have hx4 : w4.cell? ⟨bx, 0, none⟩ = some (.string ⟨f1.toArray⟩) := by rw [hF4.cell (p := ⟨bx, 0, none⟩) HNB.out]; exact hx0
    have hx5 : w4.cell? ⟨bx, 1, none⟩ = some (.string ⟨f2.toArray⟩) := by rw [hF4.cell (p := ⟨bx, 1, none⟩) HNB.out]; exact hx1
    have hS4 : w4.cell? ⟨pw, 5, none⟩ = some (.slice Al Wr.lines.length cl) ∧ w4.cell? ⟨bx, 0, none⟩ = some (.string ⟨f1.toArray⟩) ∧ w4.cell? ⟨bx, 1, none⟩ = some (.string ⟨f2.toArray⟩) := ⟨hy4, hx4, hx5⟩
    have hz4 : w4.frozen? ⟨pw, 5, none⟩ = false := by rw [hF4.frozen (p := ⟨pw, 5, none⟩) HNP.out]; exact hz5
    have hl4 : pw < w4.heap.size := Nat.lt_of_lt_of_le hpl hF4.size
    have hin := hA5.inM
    have HF4 := Lib.hid hF4
    have HIN := Lib.hid hin
    have HQ := Lib.hid hQ
    clear hF4 hin hQ
    clear hA4 hA5
    refine hKK.out _ _ (.inr hS4) ?_
    clear hKK K hS0
    refine wpAnyT_one (i := 10) rfl (by kernel_rfl) (fun K hK => ?_)
    go_simp
    refine hK.out _ _ (.inr (hS4)) ?_
    clear hK K
    refine wpAnyT_one (i := 11) rfl (by kernel_rfl) (fun K hK => ?_)
    go_simp
    refine hK.out _ _ (.inr (hS4)) ?_
    clear hK K
    refine wpAnyT_one (i := 12) rfl (by kernel_rfl) (fun K hK => ?_)
    go_simp
    refine hK.out _ _ (.inl (by kernel_rfl)) ?_
    clear hK K
    refine wpAnyT_done (by kernel_rfl) ?_ _
    have hs3 := hF3.out.size
    have f5 : Frm (fun k => k = pw) w4 (w4.setCell ⟨pw, 5, none⟩ (.slice A2 (Wr.lines.length + 1) c2)) := (Frm.refl (fun k => k = pw) w4).setCell (p := ⟨pw, 5, none⟩) rfl _
    have hF5 : Frm (Own Y w) w (w4.setCell ⟨pw, 5, none⟩ (.slice A2 (Wr.lines.length + 1) c2)) := by
      refine (hF3.out.trans (HF4.out.mono (fun k hk => ?_))).trans (f5.mono (fun k hk => .inl (hk ▸ hW3.out.yp)))
      rcases hk with hk | hk
      · exact .inl hk.1
      · exact .inr (Nat.le_trans hs3 hk)
    have hown : ∀ k, (Y k ∨ M.blk A2 = some k) → Own Y w k := fun k hk => by
      rcases hk with hk | hk
      · exact .inl hk
      · rcases HIN.out k hk with e | e
        · exact .inl e.1
        · exact .inr (Nat.le_trans hs3 e)
    have HF5 := Lib.hid hF5
    have HOWN := Lib.hid hown
    clear hF5 hown
    go_end0
    have hq := HQ.out
    subst hn
    exact ⟨rfl, _, _, _, _, hq, HF5.out, HOWN.out⟩
end Go.Proofs.Ytdgggjeiflllhaa.M

