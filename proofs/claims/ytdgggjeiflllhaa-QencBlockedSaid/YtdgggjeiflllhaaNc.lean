/- qenc: may. -/
import Derived.BigQuiet
import Derived.Deep.CutBlock
import Derived.Lib.Hide
import Derived.IntWalk
import Derived.Test.YtdgggjeiflllhaaNb
import Derived.Test.YtdgggjeiflllhaaMem
namespace Go.Proofs.Ytdgggjeiflllhaa.M
open Go.ChangeShapes Go.WideShapes Go.ChangeAt Go.RowKit

/-- what is not wanted comes up as nothing -/
theorem wpAnyH_skipC {P : Program} {ops : Array Oper} {Q : Exit → Act → World → Prop} {md : Region.Mode} {S : World → Prop} {i : Nat} {oi : Oper} {d : Option Tmp} {fuel : Nat} {listed : Array Bool} {a : Act} {w : World} (hi : ops[i]? = some oi) (hd : oi.dst = d)
    (hc : (Region.noSelect ops && Region.free md ops listed i && (Region.ready md ops listed).contains i) = true)
    (hQ : ∀ c a w, Q (.panic c) (a.put oi.dst undef) w → Q (.panic c) a w) (hwt : Region.wanted oi (yielded ops a.tmps) = false) (hS : S w)
    (h : wpAnyH P md ops Q S fuel (listed.setIfInBounds i true) (a.put d undef) w) : wpAnyH P md ops Q S (fuel + 1) listed a w := by
  subst hd
  simp only [Bool.and_eq_true] at hc
  exact wpAnyH_take hi hc.1.1 hc.1.2 hc.2 hQ (.inr ⟨hwt, rfl⟩) hS h
/-- may a section of this stream, of this count, use a place -/
def Qn.may (E : Qn) (s cnt p : Nat) : Bool := decide (p < E.known) || (decide (E.known < cnt) || (E.stuck s || decide (E.many < E.blk)))
set_option maxRecDepth 100000 in
set_option maxHeartbeats 8000000 in
theorem nmay_any {X S : Nat → Prop} {w : World} {pe g bm cr pw : Nat} {Ar : Option Addr} {L : List (Nat × Ro)} {E : Qn} (h : QnM X w pe g bm S Ar cr L E) (hL : L.length ≤ 4611686018427387903) (s cnt p mu lo co ll cl : Nat) (Ao Al : Option Addr)
    (hw : Blk w pw 87 #[.pointer (some ⟨pe, 0, none⟩), .int .u64 (s : Int), .int .u64 (cnt : Int), .map (some mu), .slice Ao lo co, .slice Al ll cl]) :
    Calls Try.prog 74 #[.pointer (some ⟨pw, 0, none⟩), .int .u64 (p : Int)] w fun e w' => e = .returned (.bool (E.may s cnt p)) ∧ Frm (New w) w w' := by
  have hsw : ∀ w', Frm (New w) w w' → w'.cell? ⟨pw, 0, none⟩ = some (.pointer (some ⟨pe, 0, none⟩)) ∧ w'.cell? ⟨pw, 1, none⟩ = some (.int .u64 (s : Int)) ∧ w'.cell? ⟨pw, 2, none⟩ = some (.int .u64 (cnt : Int)) ∧ w'.cell? ⟨pe, 1, none⟩ = some (.int .i64 (E.blk : Int)) ∧ w'.cell? ⟨pe, 2, none⟩ = some (.int .u64 (E.known : Int)) ∧ pw < w'.heap.size ∧ pe < w'.heap.size := fun w' f => by
    have h1 := hw.fresh f
    have h2 := (h.fresh f).blk
    exact ⟨h1.cell 0, h1.cell 1, h1.cell 2, h2.cell 1, h2.cell 2, h1.lt, h2.lt⟩
  have hF0 : Frm (New w) w w.drew := (Frm.refl _ w).drew
  have hS := hsw w.drew hF0
  obtain ⟨Q, hQ⟩ : ∃ Q, Q = E.may s cnt p := ⟨_, rfl⟩
  rw [← hQ]
  unfold Qn.may at hQ
  have H := Lib.hid h
  have HSW := Lib.hid hsw
  have HQ := Lib.hid hQ
  clear h hsw hQ
  go_enter Try.func74, Try.ntmps74
  go_upto_region 1 with (fail)
  refine wp_region_held (by kernel_rfl) (S := fun w' => w'.cell? ⟨pw, 0, none⟩ = some (.pointer (some ⟨pe, 0, none⟩)) ∧ w'.cell? ⟨pw, 1, none⟩ = some (.int .u64 (s : Int)) ∧ w'.cell? ⟨pw, 2, none⟩ = some (.int .u64 (cnt : Int)) ∧ w'.cell? ⟨pe, 1, none⟩ = some (.int .i64 (E.blk : Int)) ∧ w'.cell? ⟨pe, 2, none⟩ = some (.int .u64 (E.known : Int)) ∧ pw < w'.heap.size ∧ pe < w'.heap.size) ?_
  change wpAnyH _ _ _ _ _ _ _ _ w.drew
  refine wpAnyH_takeB (i := 0) (v := ?_) (d := some 5) rfl (by rfl) (by kernel_rfl) (fun _ _ _ h => h) (by rfl) hS (fun w hSw => ?_) ?_
  rotate_left
  · (try dsimp only at hSw); (try subst hSw); go_simp; first | done | (with_reducible rfl)
  simp only [Act.put, List.setIfInBounds_toArray, List.set_cons_zero, List.set_cons_succ]
  refine wpAnyH_takeB (i := 1) (v := ?_) (d := some 6) rfl (by rfl) (by kernel_rfl) (fun _ _ _ h => h) (by rfl) hS (fun w hSw => ?_) ?_
  rotate_left
  · (try dsimp only at hSw); (try subst hSw); go_simp; first | done | (with_reducible rfl)
  simp only [Act.put, List.setIfInBounds_toArray, List.set_cons_zero, List.set_cons_succ]
  refine wpAnyH_takeB (i := 2) (v := ?_) (d := some 7) rfl (by rfl) (by kernel_rfl) (fun _ _ _ h => h) (by rfl) hS (fun w hSw => ?_) ?_
  rotate_left
  · (try dsimp only at hSw); (try subst hSw); go_simp; first | done | (with_reducible rfl)
  simp only [Act.put, List.setIfInBounds_toArray, List.set_cons_zero, List.set_cons_succ]
  refine wpAnyH_takeB (i := 3) (v := ?_) (d := some 8) rfl (by rfl) (by kernel_rfl) (fun _ _ _ h => h) (by rfl) hS (fun w hSw => ?_) ?_
  rotate_left
  · (try dsimp only at hSw); (try subst hSw); go_simp; first | done | (with_reducible rfl)
  simp only [Act.put, List.setIfInBounds_toArray, List.set_cons_zero, List.set_cons_succ]
  refine wpAnyH_takeB (i := 4) (v := ?_) (d := some 9) rfl (by rfl) (by kernel_rfl) (fun _ _ _ h => h) (by rfl) hS (fun w hSw => ?_) ?_
  rotate_left
  · (try dsimp only at hSw); (try subst hSw); go_simp; first | done | (with_reducible rfl)
  simp only [Act.put, List.setIfInBounds_toArray, List.set_cons_zero, List.set_cons_succ]
  refine wpAnyH_takeB (i := 5) (v := ?_) (d := some 10) rfl (by rfl) (by kernel_rfl) (fun _ _ _ h => h) (by rfl) hS (fun w hSw => ?_) ?_
  rotate_left
  · (try dsimp only at hSw); (try subst hSw); go_simp; first | done | (with_reducible rfl)
  simp only [Act.put, List.setIfInBounds_toArray, List.set_cons_zero, List.set_cons_succ]
  refine wpAnyH_takeB (i := 6) (v := ?_) (d := some 11) rfl (by rfl) (by kernel_rfl) (fun _ _ _ h => h) (by rfl) hS (fun w hSw => ?_) ?_
  rotate_left
  · (try dsimp only at hSw); (try subst hSw); go_simp; first | done | (with_reducible rfl)
  simp only [Act.put, List.setIfInBounds_toArray, List.set_cons_zero, List.set_cons_succ]
  refine wpAnyH_takeB (i := 7) (v := ?_) (d := some 12) rfl (by rfl) (by kernel_rfl) (fun _ _ _ h => h) (by rfl) hS (fun w hSw => ?_) ?_
  rotate_left
  · (try dsimp only at hSw); (try subst hSw); go_simp; first | done | (with_reducible rfl)
  simp only [Act.put, List.setIfInBounds_toArray, List.set_cons_zero, List.set_cons_succ]
  by_cases h1 : p < E.known
  · have h1i : (p : Int) < (E.known : Int) := by omega
    refine wpAnyH_takeB (i := 8) (v := .bool true) (d := some 13) rfl (by rfl) (by kernel_rfl) (fun _ _ _ h => h) (by rfl) hS (fun w hSw => by go_simp) ?_
    simp only [Act.put, List.setIfInBounds_toArray, List.set_cons_zero, List.set_cons_succ]
    refine wpAnyH_takeB (i := 9) (v := ?_) (d := some 14) rfl (by rfl) (by kernel_rfl) (fun _ _ _ h => h) (by rfl) hS (fun w hSw => ?_) ?_
    rotate_left
    · (try dsimp only at hSw); (try subst hSw); go_simp; first | done | (with_reducible rfl)
    simp only [Act.put, List.setIfInBounds_toArray, List.set_cons_zero, List.set_cons_succ]
    refine wpAnyH_skipC (i := 10) (d := some 15) rfl (by rfl) (by kernel_rfl) (fun _ _ _ h => h) (by rfl) hS ?_
    simp only [Act.put, List.setIfInBounds_toArray, List.set_cons_zero, List.set_cons_succ]
    refine wpAnyH_skipC (i := 11) (d := some 16) rfl (by rfl) (by kernel_rfl) (fun _ _ _ h => h) (by rfl) hS ?_
    simp only [Act.put, List.setIfInBounds_toArray, List.set_cons_zero, List.set_cons_succ]
    refine wpAnyH_skipC (i := 12) (d := some 17) rfl (by rfl) (by kernel_rfl) (fun _ _ _ h => h) (by rfl) hS ?_
    simp only [Act.put, List.setIfInBounds_toArray, List.set_cons_zero, List.set_cons_succ]
    refine wpAnyH_skipC (i := 13) (d := some 18) rfl (by rfl) (by kernel_rfl) (fun _ _ _ h => h) (by rfl) hS ?_
    simp only [Act.put, List.setIfInBounds_toArray, List.set_cons_zero, List.set_cons_succ]
    refine wpAnyH_skipC (i := 14) (d := some 19) rfl (by rfl) (by kernel_rfl) (fun _ _ _ h => h) (by rfl) hS ?_
    simp only [Act.put, List.setIfInBounds_toArray, List.set_cons_zero, List.set_cons_succ]
    refine wpAnyH_skipC (i := 15) (d := some 20) rfl (by rfl) (by kernel_rfl) (fun _ _ _ h => h) (by rfl) hS ?_
    simp only [Act.put, List.setIfInBounds_toArray, List.set_cons_zero, List.set_cons_succ]
    refine wpAnyH_skipC (i := 16) (d := some 21) rfl (by rfl) (by kernel_rfl) (fun _ _ _ h => h) (by rfl) hS ?_
    simp only [Act.put, List.setIfInBounds_toArray, List.set_cons_zero, List.set_cons_succ]
    refine wpAnyH_skipC (i := 17) (d := some 22) rfl (by rfl) (by kernel_rfl) (fun _ _ _ h => h) (by rfl) hS ?_
    simp only [Act.put, List.setIfInBounds_toArray, List.set_cons_zero, List.set_cons_succ]
    refine wpAnyH_skipC (i := 18) (d := some 23) rfl (by rfl) (by kernel_rfl) (fun _ _ _ h => h) (by rfl) hS ?_
    simp only [Act.put, List.setIfInBounds_toArray, List.set_cons_zero, List.set_cons_succ]
    refine wpAnyH_skipC (i := 19) (d := some 24) rfl (by rfl) (by kernel_rfl) (fun _ _ _ h => h) (by rfl) hS ?_
    simp only [Act.put, List.setIfInBounds_toArray, List.set_cons_zero, List.set_cons_succ]
    refine wpAnyH_skipC (i := 20) (d := some 25) rfl (by rfl) (by kernel_rfl) (fun _ _ _ h => h) (by rfl) hS ?_
    simp only [Act.put, List.setIfInBounds_toArray, List.set_cons_zero, List.set_cons_succ]
    refine wpAnyH_skipC (i := 21) (d := some 26) rfl (by rfl) (by kernel_rfl) (fun _ _ _ h => h) (by rfl) hS ?_
    simp only [Act.put, List.setIfInBounds_toArray, List.set_cons_zero, List.set_cons_succ]
    refine wpAnyH_skipC (i := 22) (d := some 27) rfl (by rfl) (by kernel_rfl) (fun _ _ _ h => h) (by rfl) hS ?_
    simp only [Act.put, List.setIfInBounds_toArray, List.set_cons_zero, List.set_cons_succ]
    refine wpAnyH_takeB (i := 23) (v := ?_) (d := some 28) rfl (by rfl) (by kernel_rfl) (fun _ _ _ h => h) (by rfl) hS (fun w hSw => ?_) ?_
    rotate_left
    · (try dsimp only at hSw); (try subst hSw); go_simp; first | done | (with_reducible rfl)
    simp only [Act.put, List.setIfInBounds_toArray, List.set_cons_zero, List.set_cons_succ]
    refine wpAnyH_takeB (i := 24) (v := ?_) (d := some 29) rfl (by rfl) (by kernel_rfl) (fun _ _ _ h => h) (by rfl) hS (fun w hSw => ?_) ?_
    rotate_left
    · (try dsimp only at hSw); (try subst hSw); go_simp; first | done | (with_reducible rfl)
    simp only [Act.put, List.setIfInBounds_toArray, List.set_cons_zero, List.set_cons_succ]
    refine wpAnyH_skipC (i := 25) (d := some 30) rfl (by rfl) (by kernel_rfl) (fun _ _ _ h => h) (by rfl) hS ?_
    simp only [Act.put, List.setIfInBounds_toArray, List.set_cons_zero, List.set_cons_succ]
    refine wpAnyH_skipC (i := 26) (d := some 31) rfl (by rfl) (by kernel_rfl) (fun _ _ _ h => h) (by rfl) hS ?_
    simp only [Act.put, List.setIfInBounds_toArray, List.set_cons_zero, List.set_cons_succ]
    refine wpAnyH_skipC (i := 27) (d := some 32) rfl (by rfl) (by kernel_rfl) (fun _ _ _ h => h) (by rfl) hS ?_
    simp only [Act.put, List.setIfInBounds_toArray, List.set_cons_zero, List.set_cons_succ]
    refine wpAnyH_skipC (i := 28) (d := some 33) rfl (by rfl) (by kernel_rfl) (fun _ _ _ h => h) (by rfl) hS ?_
    simp only [Act.put, List.setIfInBounds_toArray, List.set_cons_zero, List.set_cons_succ]
    refine wpAnyH_skipC (i := 29) (d := some 34) rfl (by rfl) (by kernel_rfl) (fun _ _ _ h => h) (by rfl) hS ?_
    simp only [Act.put, List.setIfInBounds_toArray, List.set_cons_zero, List.set_cons_succ]
    refine wpAnyH_skipC (i := 30) (d := some 35) rfl (by rfl) (by kernel_rfl) (fun _ _ _ h => h) (by rfl) hS ?_
    simp only [Act.put, List.setIfInBounds_toArray, List.set_cons_zero, List.set_cons_succ]
    refine wpAnyH_skipC (i := 31) (d := some 36) rfl (by rfl) (by kernel_rfl) (fun _ _ _ h => h) (by rfl) hS ?_
    simp only [Act.put, List.setIfInBounds_toArray, List.set_cons_zero, List.set_cons_succ]
    refine wpAnyH_skipC (i := 32) (d := some 37) rfl (by rfl) (by kernel_rfl) (fun _ _ _ h => h) (by rfl) hS ?_
    simp only [Act.put, List.setIfInBounds_toArray, List.set_cons_zero, List.set_cons_succ]
    refine wpAnyH_skipC (i := 33) (d := some 38) rfl (by rfl) (by kernel_rfl) (fun _ _ _ h => h) (by rfl) hS ?_
    simp only [Act.put, List.setIfInBounds_toArray, List.set_cons_zero, List.set_cons_succ]
    refine wpAnyH_takeB (i := 34) (v := ?_) (d := some 39) rfl (by rfl) (by kernel_rfl) (fun _ _ _ h => h) (by rfl) hS (fun w hSw => ?_) ?_
    rotate_left
    · (try dsimp only at hSw); (try subst hSw); go_simp; first | done | (with_reducible rfl)
    simp only [Act.put, List.setIfInBounds_toArray, List.set_cons_zero, List.set_cons_succ]
    refine wpAnyH_takeB (i := 35) (v := ?_) (d := some 40) rfl (by rfl) (by kernel_rfl) (fun _ _ _ h => h) (by rfl) hS (fun w hSw => ?_) ?_
    rotate_left
    · (try dsimp only at hSw); (try subst hSw); go_simp; first | done | (with_reducible rfl)
    simp only [Act.put, List.setIfInBounds_toArray, List.set_cons_zero, List.set_cons_succ]
    refine wpAnyH_skipC (i := 36) (d := some 41) rfl (by rfl) (by kernel_rfl) (fun _ _ _ h => h) (by rfl) hS ?_
    simp only [Act.put, List.setIfInBounds_toArray, List.set_cons_zero, List.set_cons_succ]
    refine wpAnyH_skipC (i := 37) (d := some 42) rfl (by rfl) (by kernel_rfl) (fun _ _ _ h => h) (by rfl) hS ?_
    simp only [Act.put, List.setIfInBounds_toArray, List.set_cons_zero, List.set_cons_succ]
    refine wpAnyH_skipC (i := 38) (d := some 43) rfl (by rfl) (by kernel_rfl) (fun _ _ _ h => h) (by rfl) hS ?_
    simp only [Act.put, List.setIfInBounds_toArray, List.set_cons_zero, List.set_cons_succ]
    refine wpAnyH_skipC (i := 39) (d := some 44) rfl (by rfl) (by kernel_rfl) (fun _ _ _ h => h) (by rfl) hS ?_
    simp only [Act.put, List.setIfInBounds_toArray, List.set_cons_zero, List.set_cons_succ]
    refine wpAnyH_skipC (i := 40) (d := some 45) rfl (by rfl) (by kernel_rfl) (fun _ _ _ h => h) (by rfl) hS ?_
    simp only [Act.put, List.setIfInBounds_toArray, List.set_cons_zero, List.set_cons_succ]
    refine wpAnyH_skipC (i := 41) (d := some 46) rfl (by rfl) (by kernel_rfl) (fun _ _ _ h => h) (by rfl) hS ?_
    simp only [Act.put, List.setIfInBounds_toArray, List.set_cons_zero, List.set_cons_succ]
    refine wpAnyH_skipC (i := 42) (d := some 47) rfl (by rfl) (by kernel_rfl) (fun _ _ _ h => h) (by rfl) hS ?_
    simp only [Act.put, List.setIfInBounds_toArray, List.set_cons_zero, List.set_cons_succ]
    refine wpAnyH_skipC (i := 43) (d := some 48) rfl (by rfl) (by kernel_rfl) (fun _ _ _ h => h) (by rfl) hS ?_
    simp only [Act.put, List.setIfInBounds_toArray, List.set_cons_zero, List.set_cons_succ]
    refine wpAnyH_skipC (i := 44) (d := some 49) rfl (by rfl) (by kernel_rfl) (fun _ _ _ h => h) (by rfl) hS ?_
    simp only [Act.put, List.setIfInBounds_toArray, List.set_cons_zero, List.set_cons_succ]
    refine wpAnyH_skipC (i := 45) (d := some 50) rfl (by rfl) (by kernel_rfl) (fun _ _ _ h => h) (by rfl) hS ?_
    simp only [Act.put, List.setIfInBounds_toArray, List.set_cons_zero, List.set_cons_succ]
    refine wpAnyH_skipC (i := 46) (d := some 51) rfl (by rfl) (by kernel_rfl) (fun _ _ _ h => h) (by rfl) hS ?_
    simp only [Act.put, List.setIfInBounds_toArray, List.set_cons_zero, List.set_cons_succ]
    refine wpAnyH_skipC (i := 47) (d := some 52) rfl (by rfl) (by kernel_rfl) (fun _ _ _ h => h) (by rfl) hS ?_
    simp only [Act.put, List.setIfInBounds_toArray, List.set_cons_zero, List.set_cons_succ]
    refine wpAnyH_skipC (i := 48) (d := some 53) rfl (by rfl) (by kernel_rfl) (fun _ _ _ h => h) (by rfl) hS ?_
    simp only [Act.put, List.setIfInBounds_toArray, List.set_cons_zero, List.set_cons_succ]
    refine wpAnyH_takeB (i := 49) (v := ?_) (d := some 54) rfl (by rfl) (by kernel_rfl) (fun _ _ _ h => h) (by rfl) hS (fun w hSw => ?_) ?_
    rotate_left
    · (try dsimp only at hSw); (try subst hSw); go_simp; first | done | (with_reducible rfl)
    simp only [Act.put, List.setIfInBounds_toArray, List.set_cons_zero, List.set_cons_succ]
    refine wpAnyH_oneB (i := 50) rfl (by kernel_rfl) (fun K hK => ?_)
    refine Eq.mpr (if_pos (by rfl)) ?_
    go_simp
    refine hK.out _ _ (hS) ?_
    clear hK K
    try simp only [Act.put, List.setIfInBounds_toArray, List.set_cons_zero, List.set_cons_succ]
    refine wpAnyH_done (by kernel_rfl) ?_ _
    go_wp2_with (fail)
    go_ret
    refine ⟨?_, hF0⟩
    rw [HQ.out, decide_eq_true h1]
    rfl
  have h1i : ¬ (p : Int) < (E.known : Int) := by omega
  refine wpAnyH_takeB (i := 8) (v := .bool false) (d := some 13) rfl (by rfl) (by kernel_rfl) (fun _ _ _ h => h) (by rfl) hS (fun w hSw => by go_simp) ?_
  simp only [Act.put, List.setIfInBounds_toArray, List.set_cons_zero, List.set_cons_succ]
  refine wpAnyH_takeB (i := 9) (v := ?_) (d := some 14) rfl (by rfl) (by kernel_rfl) (fun _ _ _ h => h) (by rfl) hS (fun w hSw => ?_) ?_
  rotate_left
  · (try dsimp only at hSw); (try subst hSw); go_simp; first | done | (with_reducible rfl)
  simp only [Act.put, List.setIfInBounds_toArray, List.set_cons_zero, List.set_cons_succ]
  refine wpAnyH_takeB (i := 10) (v := ?_) (d := some 15) rfl (by rfl) (by kernel_rfl) (fun _ _ _ h => h) (by rfl) hS (fun w hSw => ?_) ?_
  rotate_left
  · (try dsimp only at hSw); (try subst hSw); go_simp; first | done | (with_reducible rfl)
  simp only [Act.put, List.setIfInBounds_toArray, List.set_cons_zero, List.set_cons_succ]
  refine wpAnyH_takeB (i := 11) (v := ?_) (d := some 16) rfl (by rfl) (by kernel_rfl) (fun _ _ _ h => h) (by rfl) hS (fun w hSw => ?_) ?_
  rotate_left
  · (try dsimp only at hSw); (try subst hSw); go_simp; first | done | (with_reducible rfl)
  simp only [Act.put, List.setIfInBounds_toArray, List.set_cons_zero, List.set_cons_succ]
  refine wpAnyH_takeB (i := 12) (v := ?_) (d := some 17) rfl (by rfl) (by kernel_rfl) (fun _ _ _ h => h) (by rfl) hS (fun w hSw => ?_) ?_
  rotate_left
  · (try dsimp only at hSw); (try subst hSw); go_simp; first | done | (with_reducible rfl)
  simp only [Act.put, List.setIfInBounds_toArray, List.set_cons_zero, List.set_cons_succ]
  refine wpAnyH_takeB (i := 13) (v := ?_) (d := some 18) rfl (by rfl) (by kernel_rfl) (fun _ _ _ h => h) (by rfl) hS (fun w hSw => ?_) ?_
  rotate_left
  · (try dsimp only at hSw); (try subst hSw); go_simp; first | done | (with_reducible rfl)
  simp only [Act.put, List.setIfInBounds_toArray, List.set_cons_zero, List.set_cons_succ]
  refine wpAnyH_takeB (i := 14) (v := ?_) (d := some 19) rfl (by rfl) (by kernel_rfl) (fun _ _ _ h => h) (by rfl) hS (fun w hSw => ?_) ?_
  rotate_left
  · (try dsimp only at hSw); (try subst hSw); go_simp; first | done | (with_reducible rfl)
  simp only [Act.put, List.setIfInBounds_toArray, List.set_cons_zero, List.set_cons_succ]
  refine wpAnyH_takeB (i := 15) (v := ?_) (d := some 20) rfl (by rfl) (by kernel_rfl) (fun _ _ _ h => h) (by rfl) hS (fun w hSw => ?_) ?_
  rotate_left
  · (try dsimp only at hSw); (try subst hSw); go_simp; first | done | (with_reducible rfl)
  simp only [Act.put, List.setIfInBounds_toArray, List.set_cons_zero, List.set_cons_succ]
  refine wpAnyH_takeB (i := 16) (v := ?_) (d := some 21) rfl (by rfl) (by kernel_rfl) (fun _ _ _ h => h) (by rfl) hS (fun w hSw => ?_) ?_
  rotate_left
  · (try dsimp only at hSw); (try subst hSw); go_simp; first | done | (with_reducible rfl)
  simp only [Act.put, List.setIfInBounds_toArray, List.set_cons_zero, List.set_cons_succ]
  refine wpAnyH_takeB (i := 17) (v := ?_) (d := some 22) rfl (by rfl) (by kernel_rfl) (fun _ _ _ h => h) (by rfl) hS (fun w hSw => ?_) ?_
  rotate_left
  · (try dsimp only at hSw); (try subst hSw); go_simp; first | done | (with_reducible rfl)
  simp only [Act.put, List.setIfInBounds_toArray, List.set_cons_zero, List.set_cons_succ]
  refine wpAnyH_takeB (i := 18) (v := ?_) (d := some 23) rfl (by rfl) (by kernel_rfl) (fun _ _ _ h => h) (by rfl) hS (fun w hSw => ?_) ?_
  rotate_left
  · (try dsimp only at hSw); (try subst hSw); go_simp; first | done | (with_reducible rfl)
  simp only [Act.put, List.setIfInBounds_toArray, List.set_cons_zero, List.set_cons_succ]
  refine wpAnyH_takeB (i := 19) (v := ?_) (d := some 24) rfl (by rfl) (by kernel_rfl) (fun _ _ _ h => h) (by rfl) hS (fun w hSw => ?_) ?_
  rotate_left
  · (try dsimp only at hSw); (try subst hSw); go_simp; first | done | (with_reducible rfl)
  simp only [Act.put, List.setIfInBounds_toArray, List.set_cons_zero, List.set_cons_succ]
  refine wpAnyH_takeB (i := 20) (v := ?_) (d := some 25) rfl (by rfl) (by kernel_rfl) (fun _ _ _ h => h) (by rfl) hS (fun w hSw => ?_) ?_
  rotate_left
  · (try dsimp only at hSw); (try subst hSw); go_simp; first | done | (with_reducible rfl)
  simp only [Act.put, List.setIfInBounds_toArray, List.set_cons_zero, List.set_cons_succ]
  refine wpAnyH_takeB (i := 21) (v := ?_) (d := some 26) rfl (by rfl) (by kernel_rfl) (fun _ _ _ h => h) (by rfl) hS (fun w hSw => ?_) ?_
  rotate_left
  · (try dsimp only at hSw); (try subst hSw); go_simp; first | done | (with_reducible rfl)
  simp only [Act.put, List.setIfInBounds_toArray, List.set_cons_zero, List.set_cons_succ]
  by_cases h2 : E.known < cnt
  · have h2i : (E.known : Int) < (cnt : Int) := by omega
    refine wpAnyH_takeB (i := 22) (v := .bool true) (d := some 27) rfl (by rfl) (by kernel_rfl) (fun _ _ _ h => h) (by rfl) hS (fun w hSw => by go_simp) ?_
    simp only [Act.put, List.setIfInBounds_toArray, List.set_cons_zero, List.set_cons_succ]
    refine wpAnyH_takeB (i := 23) (v := ?_) (d := some 28) rfl (by rfl) (by kernel_rfl) (fun _ _ _ h => h) (by rfl) hS (fun w hSw => ?_) ?_
    rotate_left
    · (try dsimp only at hSw); (try subst hSw); go_simp; first | done | (with_reducible rfl)
    simp only [Act.put, List.setIfInBounds_toArray, List.set_cons_zero, List.set_cons_succ]
    refine wpAnyH_takeB (i := 24) (v := ?_) (d := some 29) rfl (by rfl) (by kernel_rfl) (fun _ _ _ h => h) (by rfl) hS (fun w hSw => ?_) ?_
    rotate_left
    · (try dsimp only at hSw); (try subst hSw); go_simp; first | done | (with_reducible rfl)
    simp only [Act.put, List.setIfInBounds_toArray, List.set_cons_zero, List.set_cons_succ]
    refine wpAnyH_skipC (i := 25) (d := some 30) rfl (by rfl) (by kernel_rfl) (fun _ _ _ h => h) (by rfl) hS ?_
    simp only [Act.put, List.setIfInBounds_toArray, List.set_cons_zero, List.set_cons_succ]
    refine wpAnyH_skipC (i := 26) (d := some 31) rfl (by rfl) (by kernel_rfl) (fun _ _ _ h => h) (by rfl) hS ?_
    simp only [Act.put, List.setIfInBounds_toArray, List.set_cons_zero, List.set_cons_succ]
    refine wpAnyH_skipC (i := 27) (d := some 32) rfl (by rfl) (by kernel_rfl) (fun _ _ _ h => h) (by rfl) hS ?_
    simp only [Act.put, List.setIfInBounds_toArray, List.set_cons_zero, List.set_cons_succ]
    refine wpAnyH_skipC (i := 28) (d := some 33) rfl (by rfl) (by kernel_rfl) (fun _ _ _ h => h) (by rfl) hS ?_
    simp only [Act.put, List.setIfInBounds_toArray, List.set_cons_zero, List.set_cons_succ]
    refine wpAnyH_skipC (i := 29) (d := some 34) rfl (by rfl) (by kernel_rfl) (fun _ _ _ h => h) (by rfl) hS ?_
    simp only [Act.put, List.setIfInBounds_toArray, List.set_cons_zero, List.set_cons_succ]
    refine wpAnyH_skipC (i := 30) (d := some 35) rfl (by rfl) (by kernel_rfl) (fun _ _ _ h => h) (by rfl) hS ?_
    simp only [Act.put, List.setIfInBounds_toArray, List.set_cons_zero, List.set_cons_succ]
    refine wpAnyH_skipC (i := 31) (d := some 36) rfl (by rfl) (by kernel_rfl) (fun _ _ _ h => h) (by rfl) hS ?_
    simp only [Act.put, List.setIfInBounds_toArray, List.set_cons_zero, List.set_cons_succ]
    refine wpAnyH_skipC (i := 32) (d := some 37) rfl (by rfl) (by kernel_rfl) (fun _ _ _ h => h) (by rfl) hS ?_
    simp only [Act.put, List.setIfInBounds_toArray, List.set_cons_zero, List.set_cons_succ]
    refine wpAnyH_skipC (i := 33) (d := some 38) rfl (by rfl) (by kernel_rfl) (fun _ _ _ h => h) (by rfl) hS ?_
    simp only [Act.put, List.setIfInBounds_toArray, List.set_cons_zero, List.set_cons_succ]
    refine wpAnyH_takeB (i := 34) (v := ?_) (d := some 39) rfl (by rfl) (by kernel_rfl) (fun _ _ _ h => h) (by rfl) hS (fun w hSw => ?_) ?_
    rotate_left
    · (try dsimp only at hSw); (try subst hSw); go_simp; first | done | (with_reducible rfl)
    simp only [Act.put, List.setIfInBounds_toArray, List.set_cons_zero, List.set_cons_succ]
    refine wpAnyH_takeB (i := 35) (v := ?_) (d := some 40) rfl (by rfl) (by kernel_rfl) (fun _ _ _ h => h) (by rfl) hS (fun w hSw => ?_) ?_
    rotate_left
    · (try dsimp only at hSw); (try subst hSw); go_simp; first | done | (with_reducible rfl)
    simp only [Act.put, List.setIfInBounds_toArray, List.set_cons_zero, List.set_cons_succ]
    refine wpAnyH_skipC (i := 36) (d := some 41) rfl (by rfl) (by kernel_rfl) (fun _ _ _ h => h) (by rfl) hS ?_
    simp only [Act.put, List.setIfInBounds_toArray, List.set_cons_zero, List.set_cons_succ]
    refine wpAnyH_skipC (i := 37) (d := some 42) rfl (by rfl) (by kernel_rfl) (fun _ _ _ h => h) (by rfl) hS ?_
    simp only [Act.put, List.setIfInBounds_toArray, List.set_cons_zero, List.set_cons_succ]
    refine wpAnyH_skipC (i := 38) (d := some 43) rfl (by rfl) (by kernel_rfl) (fun _ _ _ h => h) (by rfl) hS ?_
    simp only [Act.put, List.setIfInBounds_toArray, List.set_cons_zero, List.set_cons_succ]
    refine wpAnyH_skipC (i := 39) (d := some 44) rfl (by rfl) (by kernel_rfl) (fun _ _ _ h => h) (by rfl) hS ?_
    simp only [Act.put, List.setIfInBounds_toArray, List.set_cons_zero, List.set_cons_succ]
    refine wpAnyH_skipC (i := 40) (d := some 45) rfl (by rfl) (by kernel_rfl) (fun _ _ _ h => h) (by rfl) hS ?_
    simp only [Act.put, List.setIfInBounds_toArray, List.set_cons_zero, List.set_cons_succ]
    refine wpAnyH_skipC (i := 41) (d := some 46) rfl (by rfl) (by kernel_rfl) (fun _ _ _ h => h) (by rfl) hS ?_
    simp only [Act.put, List.setIfInBounds_toArray, List.set_cons_zero, List.set_cons_succ]
    refine wpAnyH_skipC (i := 42) (d := some 47) rfl (by rfl) (by kernel_rfl) (fun _ _ _ h => h) (by rfl) hS ?_
    simp only [Act.put, List.setIfInBounds_toArray, List.set_cons_zero, List.set_cons_succ]
    refine wpAnyH_skipC (i := 43) (d := some 48) rfl (by rfl) (by kernel_rfl) (fun _ _ _ h => h) (by rfl) hS ?_
    simp only [Act.put, List.setIfInBounds_toArray, List.set_cons_zero, List.set_cons_succ]
    refine wpAnyH_skipC (i := 44) (d := some 49) rfl (by rfl) (by kernel_rfl) (fun _ _ _ h => h) (by rfl) hS ?_
    simp only [Act.put, List.setIfInBounds_toArray, List.set_cons_zero, List.set_cons_succ]
    refine wpAnyH_skipC (i := 45) (d := some 50) rfl (by rfl) (by kernel_rfl) (fun _ _ _ h => h) (by rfl) hS ?_
    simp only [Act.put, List.setIfInBounds_toArray, List.set_cons_zero, List.set_cons_succ]
    refine wpAnyH_skipC (i := 46) (d := some 51) rfl (by rfl) (by kernel_rfl) (fun _ _ _ h => h) (by rfl) hS ?_
    simp only [Act.put, List.setIfInBounds_toArray, List.set_cons_zero, List.set_cons_succ]
    refine wpAnyH_skipC (i := 47) (d := some 52) rfl (by rfl) (by kernel_rfl) (fun _ _ _ h => h) (by rfl) hS ?_
    simp only [Act.put, List.setIfInBounds_toArray, List.set_cons_zero, List.set_cons_succ]
    refine wpAnyH_skipC (i := 48) (d := some 53) rfl (by rfl) (by kernel_rfl) (fun _ _ _ h => h) (by rfl) hS ?_
    simp only [Act.put, List.setIfInBounds_toArray, List.set_cons_zero, List.set_cons_succ]
    refine wpAnyH_takeB (i := 49) (v := ?_) (d := some 54) rfl (by rfl) (by kernel_rfl) (fun _ _ _ h => h) (by rfl) hS (fun w hSw => ?_) ?_
    rotate_left
    · (try dsimp only at hSw); (try subst hSw); go_simp; first | done | (with_reducible rfl)
    simp only [Act.put, List.setIfInBounds_toArray, List.set_cons_zero, List.set_cons_succ]
    refine wpAnyH_oneB (i := 50) rfl (by kernel_rfl) (fun K hK => ?_)
    refine Eq.mpr (if_pos (by rfl)) ?_
    go_simp
    refine hK.out _ _ (hS) ?_
    clear hK K
    try simp only [Act.put, List.setIfInBounds_toArray, List.set_cons_zero, List.set_cons_succ]
    refine wpAnyH_done (by kernel_rfl) ?_ _
    go_wp2_with (fail)
    go_ret
    refine ⟨?_, hF0⟩
    rw [HQ.out, decide_eq_false h1, decide_eq_true h2]
    rfl
  have h2i : ¬ (E.known : Int) < (cnt : Int) := by omega
  refine wpAnyH_takeB (i := 22) (v := .bool false) (d := some 27) rfl (by rfl) (by kernel_rfl) (fun _ _ _ h => h) (by rfl) hS (fun w hSw => by go_simp) ?_
  simp only [Act.put, List.setIfInBounds_toArray, List.set_cons_zero, List.set_cons_succ]
  refine wpAnyH_takeB (i := 23) (v := ?_) (d := some 28) rfl (by rfl) (by kernel_rfl) (fun _ _ _ h => h) (by rfl) hS (fun w hSw => ?_) ?_
  rotate_left
  · (try dsimp only at hSw); (try subst hSw); go_simp; first | done | (with_reducible rfl)
  simp only [Act.put, List.setIfInBounds_toArray, List.set_cons_zero, List.set_cons_succ]
  refine wpAnyH_takeB (i := 24) (v := ?_) (d := some 29) rfl (by rfl) (by kernel_rfl) (fun _ _ _ h => h) (by rfl) hS (fun w hSw => ?_) ?_
  rotate_left
  · (try dsimp only at hSw); (try subst hSw); go_simp; first | done | (with_reducible rfl)
  simp only [Act.put, List.setIfInBounds_toArray, List.set_cons_zero, List.set_cons_succ]
  refine wpAnyH_takeB (i := 25) (v := ?_) (d := some 30) rfl (by rfl) (by kernel_rfl) (fun _ _ _ h => h) (by rfl) hS (fun w hSw => ?_) ?_
  rotate_left
  · (try dsimp only at hSw); (try subst hSw); go_simp; first | done | (with_reducible rfl)
  simp only [Act.put, List.setIfInBounds_toArray, List.set_cons_zero, List.set_cons_succ]
  refine wpAnyH_takeB (i := 26) (v := ?_) (d := some 31) rfl (by rfl) (by kernel_rfl) (fun _ _ _ h => h) (by rfl) hS (fun w hSw => ?_) ?_
  rotate_left
  · (try dsimp only at hSw); (try subst hSw); go_simp; first | done | (with_reducible rfl)
  simp only [Act.put, List.setIfInBounds_toArray, List.set_cons_zero, List.set_cons_succ]
  refine wpAnyH_takeB (i := 27) (v := ?_) (d := some 32) rfl (by rfl) (by kernel_rfl) (fun _ _ _ h => h) (by rfl) hS (fun w hSw => ?_) ?_
  rotate_left
  · (try dsimp only at hSw); (try subst hSw); go_simp; first | done | (with_reducible rfl)
  simp only [Act.put, List.setIfInBounds_toArray, List.set_cons_zero, List.set_cons_succ]
  refine wpAnyH_takeB (i := 28) (v := ?_) (d := some 33) rfl (by rfl) (by kernel_rfl) (fun _ _ _ h => h) (by rfl) hS (fun w hSw => ?_) ?_
  rotate_left
  · (try dsimp only at hSw); (try subst hSw); go_simp; first | done | (with_reducible rfl)
  simp only [Act.put, List.setIfInBounds_toArray, List.set_cons_zero, List.set_cons_succ]
  refine wpAnyH_takeB (i := 29) (v := ?_) (d := some 34) rfl (by rfl) (by kernel_rfl) (fun _ _ _ h => h) (by rfl) hS (fun w hSw => ?_) ?_
  rotate_left
  · (try dsimp only at hSw); (try subst hSw); go_simp; first | done | (with_reducible rfl)
  simp only [Act.put, List.setIfInBounds_toArray, List.set_cons_zero, List.set_cons_succ]
  refine wpAnyH_takeB (i := 30) (v := ?_) (d := some 35) rfl (by rfl) (by kernel_rfl) (fun _ _ _ h => h) (by rfl) hS (fun w hSw => ?_) ?_
  rotate_left
  · (try dsimp only at hSw); (try subst hSw); go_simp; first | done | (with_reducible rfl)
  simp only [Act.put, List.setIfInBounds_toArray, List.set_cons_zero, List.set_cons_succ]
  refine wpAnyH_takeB (i := 31) (v := ?_) (d := some 36) rfl (by rfl) (by kernel_rfl) (fun _ _ _ h => h) (by rfl) hS (fun w hSw => ?_) ?_
  rotate_left
  · (try dsimp only at hSw); (try subst hSw); go_simp; first | done | (with_reducible rfl)
  simp only [Act.put, List.setIfInBounds_toArray, List.set_cons_zero, List.set_cons_succ]
  refine wpAnyH_takeB (i := 32) (v := ?_) (d := some 37) rfl (by rfl) (by kernel_rfl) (fun _ _ _ h => h) (by rfl) hS (fun w hSw => ?_) ?_
  rotate_left
  · (try dsimp only at hSw); (try subst hSw); go_simp; first | done | (with_reducible rfl)
  simp only [Act.put, List.setIfInBounds_toArray, List.set_cons_zero, List.set_cons_succ]
  have hwt := nwaits_any (H.out.fresh hF0) s
  have HWT := Lib.hid hwt
  clear hwt
  refine wpAnyH_oneB (i := 33) rfl (by kernel_rfl) (fun K hKK => ?_)
  refine Eq.mpr (if_pos (by rfl)) ?_
  go_wp2_with (fail)
  refine (HWT.out).mono ?_
  rintro e9 w2 ⟨rfl, f9⟩
  have hFw2 : Frm (New w) w w2 := hF0.then_new Up.new f9
  have hS2 := HSW.out w2 hFw2
  clear f9
  refine hKK.out _ _ hS2 ?_
  clear hKK K
  try simp only [Act.put, List.setIfInBounds_toArray, List.set_cons_zero, List.set_cons_succ]
  cases hst : E.stuck s with
  | true =>
    refine wpAnyH_takeB (i := 34) (v := ?_) (d := some 39) rfl (by rfl) (by kernel_rfl) (fun _ _ _ h => h) (by rfl) hS2 (fun w hSw => ?_) ?_
    rotate_left
    · (try dsimp only at hSw); (try subst hSw); go_simp; first | done | (with_reducible rfl)
    simp only [Act.put, List.setIfInBounds_toArray, List.set_cons_zero, List.set_cons_succ]
    refine wpAnyH_takeB (i := 35) (v := ?_) (d := some 40) rfl (by rfl) (by kernel_rfl) (fun _ _ _ h => h) (by rfl) hS2 (fun w hSw => ?_) ?_
    rotate_left
    · (try dsimp only at hSw); (try subst hSw); go_simp; first | done | (with_reducible rfl)
    simp only [Act.put, List.setIfInBounds_toArray, List.set_cons_zero, List.set_cons_succ]
    refine wpAnyH_skipC (i := 36) (d := some 41) rfl (by rfl) (by kernel_rfl) (fun _ _ _ h => h) (by rfl) hS2 ?_
    simp only [Act.put, List.setIfInBounds_toArray, List.set_cons_zero, List.set_cons_succ]
    refine wpAnyH_skipC (i := 37) (d := some 42) rfl (by rfl) (by kernel_rfl) (fun _ _ _ h => h) (by rfl) hS2 ?_
    simp only [Act.put, List.setIfInBounds_toArray, List.set_cons_zero, List.set_cons_succ]
    refine wpAnyH_skipC (i := 38) (d := some 43) rfl (by rfl) (by kernel_rfl) (fun _ _ _ h => h) (by rfl) hS2 ?_
    simp only [Act.put, List.setIfInBounds_toArray, List.set_cons_zero, List.set_cons_succ]
    refine wpAnyH_skipC (i := 39) (d := some 44) rfl (by rfl) (by kernel_rfl) (fun _ _ _ h => h) (by rfl) hS2 ?_
    simp only [Act.put, List.setIfInBounds_toArray, List.set_cons_zero, List.set_cons_succ]
    refine wpAnyH_skipC (i := 40) (d := some 45) rfl (by rfl) (by kernel_rfl) (fun _ _ _ h => h) (by rfl) hS2 ?_
    simp only [Act.put, List.setIfInBounds_toArray, List.set_cons_zero, List.set_cons_succ]
    refine wpAnyH_skipC (i := 41) (d := some 46) rfl (by rfl) (by kernel_rfl) (fun _ _ _ h => h) (by rfl) hS2 ?_
    simp only [Act.put, List.setIfInBounds_toArray, List.set_cons_zero, List.set_cons_succ]
    refine wpAnyH_skipC (i := 42) (d := some 47) rfl (by rfl) (by kernel_rfl) (fun _ _ _ h => h) (by rfl) hS2 ?_
    simp only [Act.put, List.setIfInBounds_toArray, List.set_cons_zero, List.set_cons_succ]
    refine wpAnyH_skipC (i := 43) (d := some 48) rfl (by rfl) (by kernel_rfl) (fun _ _ _ h => h) (by rfl) hS2 ?_
    simp only [Act.put, List.setIfInBounds_toArray, List.set_cons_zero, List.set_cons_succ]
    refine wpAnyH_skipC (i := 44) (d := some 49) rfl (by rfl) (by kernel_rfl) (fun _ _ _ h => h) (by rfl) hS2 ?_
    simp only [Act.put, List.setIfInBounds_toArray, List.set_cons_zero, List.set_cons_succ]
    refine wpAnyH_skipC (i := 45) (d := some 50) rfl (by rfl) (by kernel_rfl) (fun _ _ _ h => h) (by rfl) hS2 ?_
    simp only [Act.put, List.setIfInBounds_toArray, List.set_cons_zero, List.set_cons_succ]
    refine wpAnyH_skipC (i := 46) (d := some 51) rfl (by rfl) (by kernel_rfl) (fun _ _ _ h => h) (by rfl) hS2 ?_
    simp only [Act.put, List.setIfInBounds_toArray, List.set_cons_zero, List.set_cons_succ]
    refine wpAnyH_skipC (i := 47) (d := some 52) rfl (by rfl) (by kernel_rfl) (fun _ _ _ h => h) (by rfl) hS2 ?_
    simp only [Act.put, List.setIfInBounds_toArray, List.set_cons_zero, List.set_cons_succ]
    refine wpAnyH_skipC (i := 48) (d := some 53) rfl (by rfl) (by kernel_rfl) (fun _ _ _ h => h) (by rfl) hS2 ?_
    simp only [Act.put, List.setIfInBounds_toArray, List.set_cons_zero, List.set_cons_succ]
    refine wpAnyH_takeB (i := 49) (v := ?_) (d := some 54) rfl (by rfl) (by kernel_rfl) (fun _ _ _ h => h) (by rfl) hS2 (fun w hSw => ?_) ?_
    rotate_left
    · (try dsimp only at hSw); (try subst hSw); go_simp; first | done | (with_reducible rfl)
    simp only [Act.put, List.setIfInBounds_toArray, List.set_cons_zero, List.set_cons_succ]
    refine wpAnyH_oneB (i := 50) rfl (by kernel_rfl) (fun K hK => ?_)
    refine Eq.mpr (if_pos (by rfl)) ?_
    go_simp
    refine hK.out _ _ (hS2) ?_
    clear hK K
    try simp only [Act.put, List.setIfInBounds_toArray, List.set_cons_zero, List.set_cons_succ]
    refine wpAnyH_done (by kernel_rfl) ?_ _
    go_wp2_with (fail)
    go_ret
    refine ⟨?_, hFw2⟩
    rw [HQ.out, decide_eq_false h1, decide_eq_false h2, hst]
    rfl
  | false =>
    refine wpAnyH_takeB (i := 34) (v := ?_) (d := some 39) rfl (by rfl) (by kernel_rfl) (fun _ _ _ h => h) (by rfl) hS2 (fun w hSw => ?_) ?_
    rotate_left
    · (try dsimp only at hSw); (try subst hSw); go_simp; first | done | (with_reducible rfl)
    simp only [Act.put, List.setIfInBounds_toArray, List.set_cons_zero, List.set_cons_succ]
    refine wpAnyH_takeB (i := 35) (v := ?_) (d := some 40) rfl (by rfl) (by kernel_rfl) (fun _ _ _ h => h) (by rfl) hS2 (fun w hSw => ?_) ?_
    rotate_left
    · (try dsimp only at hSw); (try subst hSw); go_simp; first | done | (with_reducible rfl)
    simp only [Act.put, List.setIfInBounds_toArray, List.set_cons_zero, List.set_cons_succ]
    refine wpAnyH_takeB (i := 36) (v := ?_) (d := some 41) rfl (by rfl) (by kernel_rfl) (fun _ _ _ h => h) (by rfl) hS2 (fun w hSw => ?_) ?_
    rotate_left
    · (try dsimp only at hSw); (try subst hSw); go_simp; first | done | (with_reducible rfl)
    simp only [Act.put, List.setIfInBounds_toArray, List.set_cons_zero, List.set_cons_succ]
    refine wpAnyH_takeB (i := 37) (v := ?_) (d := some 42) rfl (by rfl) (by kernel_rfl) (fun _ _ _ h => h) (by rfl) hS2 (fun w hSw => ?_) ?_
    rotate_left
    · (try dsimp only at hSw); (try subst hSw); go_simp; first | done | (with_reducible rfl)
    simp only [Act.put, List.setIfInBounds_toArray, List.set_cons_zero, List.set_cons_succ]
    refine wpAnyH_takeB (i := 38) (v := ?_) (d := some 43) rfl (by rfl) (by kernel_rfl) (fun _ _ _ h => h) (by rfl) hS2 (fun w hSw => ?_) ?_
    rotate_left
    · (try dsimp only at hSw); (try subst hSw); go_simp; first | done | (with_reducible rfl)
    simp only [Act.put, List.setIfInBounds_toArray, List.set_cons_zero, List.set_cons_succ]
    refine wpAnyH_takeB (i := 39) (v := ?_) (d := some 44) rfl (by rfl) (by kernel_rfl) (fun _ _ _ h => h) (by rfl) hS2 (fun w hSw => ?_) ?_
    rotate_left
    · (try dsimp only at hSw); (try subst hSw); go_simp; first | done | (with_reducible rfl)
    simp only [Act.put, List.setIfInBounds_toArray, List.set_cons_zero, List.set_cons_succ]
    refine wpAnyH_takeB (i := 41) (v := ?_) (d := some 46) rfl (by rfl) (by kernel_rfl) (fun _ _ _ h => h) (by rfl) hS2 (fun w hSw => ?_) ?_
    rotate_left
    · (try dsimp only at hSw); (try subst hSw); go_simp; first | done | (with_reducible rfl)
    simp only [Act.put, List.setIfInBounds_toArray, List.set_cons_zero, List.set_cons_succ]
    refine wpAnyH_takeB (i := 42) (v := ?_) (d := some 47) rfl (by rfl) (by kernel_rfl) (fun _ _ _ h => h) (by rfl) hS2 (fun w hSw => ?_) ?_
    rotate_left
    · (try dsimp only at hSw); (try subst hSw); go_simp; first | done | (with_reducible rfl)
    simp only [Act.put, List.setIfInBounds_toArray, List.set_cons_zero, List.set_cons_succ]
    refine wpAnyH_takeB (i := 43) (v := ?_) (d := some 48) rfl (by rfl) (by kernel_rfl) (fun _ _ _ h => h) (by rfl) hS2 (fun w hSw => ?_) ?_
    rotate_left
    · (try dsimp only at hSw); (try subst hSw); go_simp; first | done | (with_reducible rfl)
    simp only [Act.put, List.setIfInBounds_toArray, List.set_cons_zero, List.set_cons_succ]
    refine wpAnyH_takeB (i := 44) (v := ?_) (d := some 49) rfl (by rfl) (by kernel_rfl) (fun _ _ _ h => h) (by rfl) hS2 (fun w hSw => ?_) ?_
    rotate_left
    · (try dsimp only at hSw); (try subst hSw); go_simp; first | done | (with_reducible rfl)
    simp only [Act.put, List.setIfInBounds_toArray, List.set_cons_zero, List.set_cons_succ]
    refine wpAnyH_takeB (i := 45) (v := ?_) (d := some 50) rfl (by rfl) (by kernel_rfl) (fun _ _ _ h => h) (by rfl) hS2 (fun w hSw => ?_) ?_
    rotate_left
    · (try dsimp only at hSw); (try subst hSw); go_simp; first | done | (with_reducible rfl)
    simp only [Act.put, List.setIfInBounds_toArray, List.set_cons_zero, List.set_cons_succ]
    refine wpAnyH_takeB (i := 46) (v := ?_) (d := some 51) rfl (by rfl) (by kernel_rfl) (fun _ _ _ h => h) (by rfl) hS2 (fun w hSw => ?_) ?_
    rotate_left
    · (try dsimp only at hSw); (try subst hSw); go_simp; first | done | (with_reducible rfl)
    simp only [Act.put, List.setIfInBounds_toArray, List.set_cons_zero, List.set_cons_succ]
    refine wpAnyH_takeB (i := 47) (v := ?_) (d := some 52) rfl (by rfl) (by kernel_rfl) (fun _ _ _ h => h) (by rfl) hS2 (fun w hSw => ?_) ?_
    rotate_left
    · (try dsimp only at hSw); (try subst hSw); go_simp; first | done | (with_reducible rfl)
    simp only [Act.put, List.setIfInBounds_toArray, List.set_cons_zero, List.set_cons_succ]
    have hwg := nwaiting_any (H.out.fresh hFw2) hL
    have HWG := Lib.hid hwg
    clear hwg
    refine wpAnyH_oneB (i := 40) rfl (by kernel_rfl) (fun K hKK => ?_)
    refine Eq.mpr (if_pos (by rfl)) ?_
    go_wp2_with (fail)
    refine (HWG.out).mono ?_
    rintro e9 w3 ⟨rfl, f9⟩
    have hFw3 : Frm (New w) w w3 := hFw2.then_new Up.new f9
    have hS3 := HSW.out w3 hFw3
    clear f9
    refine hKK.out _ _ hS3 ?_
    clear hKK K
    try simp only [Act.put, List.setIfInBounds_toArray, List.set_cons_zero, List.set_cons_succ]
    by_cases h4 : E.many < E.blk
    · have h4i : ((E.many : Nat) : Int) < (E.blk : Int) := by omega
      refine wpAnyH_takeB (i := 48) (v := .bool true) (d := some 53) rfl (by rfl) (by kernel_rfl) (fun _ _ _ h => h) (by rfl) hS3 (fun w hSw => by go_simp) ?_
      simp only [Act.put, List.setIfInBounds_toArray, List.set_cons_zero, List.set_cons_succ]
      refine wpAnyH_takeB (i := 49) (v := ?_) (d := some 54) rfl (by rfl) (by kernel_rfl) (fun _ _ _ h => h) (by rfl) hS3 (fun w hSw => ?_) ?_
      rotate_left
      · (try dsimp only at hSw); (try subst hSw); go_simp; first | done | (with_reducible rfl)
      simp only [Act.put, List.setIfInBounds_toArray, List.set_cons_zero, List.set_cons_succ]
      refine wpAnyH_oneB (i := 50) rfl (by kernel_rfl) (fun K hK => ?_)
      refine Eq.mpr (if_pos (by rfl)) ?_
      go_simp
      refine hK.out _ _ (hS3) ?_
      clear hK K
      try simp only [Act.put, List.setIfInBounds_toArray, List.set_cons_zero, List.set_cons_succ]
      refine wpAnyH_done (by kernel_rfl) ?_ _
      go_wp2_with (fail)
      go_ret
      refine ⟨?_, hFw3⟩
      rw [HQ.out, decide_eq_false h1, decide_eq_false h2, hst, decide_eq_true h4]
      rfl
    · have h4i : ¬ ((E.many : Nat) : Int) < (E.blk : Int) := by omega
      refine wpAnyH_takeB (i := 48) (v := .bool false) (d := some 53) rfl (by rfl) (by kernel_rfl) (fun _ _ _ h => h) (by rfl) hS3 (fun w hSw => by go_simp) ?_
      simp only [Act.put, List.setIfInBounds_toArray, List.set_cons_zero, List.set_cons_succ]
      refine wpAnyH_takeB (i := 49) (v := ?_) (d := some 54) rfl (by rfl) (by kernel_rfl) (fun _ _ _ h => h) (by rfl) hS3 (fun w hSw => ?_) ?_
      rotate_left
      · (try dsimp only at hSw); (try subst hSw); go_simp; first | done | (with_reducible rfl)
      simp only [Act.put, List.setIfInBounds_toArray, List.set_cons_zero, List.set_cons_succ]
      refine wpAnyH_oneB (i := 50) rfl (by kernel_rfl) (fun K hK => ?_)
      refine Eq.mpr (if_pos (by rfl)) ?_
      go_simp
      refine hK.out _ _ (hS3) ?_
      clear hK K
      try simp only [Act.put, List.setIfInBounds_toArray, List.set_cons_zero, List.set_cons_succ]
      refine wpAnyH_done (by kernel_rfl) ?_ _
      go_wp2_with (fail)
      go_ret
      refine ⟨?_, hFw3⟩
      rw [HQ.out, decide_eq_false h1, decide_eq_false h2, hst, decide_eq_false h4]
      rfl
end Go.Proofs.Ytdgggjeiflllhaa.M
