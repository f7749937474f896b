/- SortFunc of pieces keeps SortLaw. No condition. -/
import Derived.BigQuiet
import Derived.Deep.CutBlock
import Derived.Lib.Hide
import Derived.IntWalk
import Derived.Test.YtljleaomlooiaaaSrt4
import Derived.Test.YtljleaomlooiaaaRla
namespace Go.Proofs.Ytljleaomlooiaaa.M
open Go.ChangeShapes Go.WideShapes Go.ChangeAt Go.RowKit
open Go.Shelf Go.Lib Go.Sort

set_option maxRecDepth 100000 in
set_option maxHeartbeats 1000000 in
theorem insn_any (A : Option Addr) (cap : Nat) (fv : Value) (w : World) : Calls Try.prog 36 #[.slice A 0 cap, .int .i64 0, .int .i64 0, fv] w fun e w' => e = .returned (.tuple #[]) ∧ w' = w := by
  go_enter Try.func36, Try.ntmps36
  go_wp2
  refine wp_loop_rounds 1 ?_
  rw [rounds_succ]
  go_wp2
  go_end0
  exact ⟨rfl, rfl⟩
set_option maxRecDepth 100000 in
set_option maxHeartbeats 1000000 in
theorem pdqn_any (A : Option Addr) (cap : Nat) (lim : Int) (fv : Value) (w : World) : Calls Try.prog 33 #[.slice A 0 cap, .int .i64 0, .int .i64 0, .int .i64 lim, fv] w fun e w' => e = .returned (.tuple #[]) ∧ w' = w := by
  have hi := fun w' => insn_any A cap fv w'
  go_enter Try.func33, Try.ntmps33
  go_wp2
  refine wp_loop_rounds 1 ?_
  rw [rounds_succ]
  go_wp2_with (go_at_call 36; refine (hi _).mono ?_; rintro e w' ⟨rfl, rfl⟩)
  (try simp only [Exit.inBlock, Exit.then]); refine bodyPost_ret (results_none rfl _ _ _) rfl ?_
  exact ⟨rfl, rfl⟩
set_option maxRecDepth 100000 in
set_option maxHeartbeats 1000000 in
theorem sortn_any (A : Option Addr) (cap : Nat) (fv : Value) (w : World) : Calls Try.prog 30 #[.slice A 0 cap, fv] w fun e w' => e = .returned (.tuple #[]) ∧ w' = w := by
  have hp := fun lim w' => pdqn_any A cap lim fv w'
  have hl : ∀ W, Calls Try.prog 34 #[.int .u64 0] W fun e w' => e = .returned (.int .i64 (Lib.bitLen 0 : Nat)) ∧ w' = W := fun W => by
    have h := Any.bits_Len (SlLaysF0.n15.bits (P := Try.prog) { sortPc with }) 0 W (by omega) (by omega)
    exact h
  generalize ((Lib.bitLen 0 : Nat) : Int) = lim at hl
  go_enter Try.func30, Try.ntmps30
  go_wp2_with (first | (go_at_call 34; refine (hl _).mono ?_; rintro e w' ⟨rfl, rfl⟩) | (go_at_call 33; refine (hp _ _).mono ?_; rintro e w' ⟨rfl, rfl⟩))
  go_end0
  exact ⟨rfl, rfl⟩
theorem flat_at (d : Array Pv) (j : Nat) (hj : j < d.size * 2) : (d.toList.flatMap pvc)[j]? = some ((flatK pvc 2 d)[j]!) := by
  rw [get_flatK _ _ _ _ hj]
  obtain ⟨q, r, rfl, hr⟩ : ∃ q r, j = q * 2 + r ∧ (r = 0 ∨ r = 1) := ⟨j / 2, j % 2, by omega, by omega⟩
  have hd : q < d.size := by omega
  obtain ⟨h1, h2⟩ := pvat d.toList q (by simpa using hd)
  have e : d[(q * 2 + r) / 2]! = d.toList[q]'(by simpa using hd) := by rw [show (q * 2 + r) / 2 = q by omega, getElem!_pos d q hd, Array.getElem_toList]
  rw [e]
  rcases hr with rfl | rfl
  · rw [show (q * 2 + 0) % 2 = 0 by omega, Nat.add_zero, h1]
    rfl
  · rw [show (q * 2 + 1) % 2 = 1 by omega, h2]
    rfl
theorem sorted_heap {w : World} {g off n : Nat} {e : TypeId} {cur : Array Value} {d : Array Pv} {os : Array Obj} (hg : w.heap[g]? = some (.cells cur e (0, 0))) :
    (sortWorldK pvc 2 w g off n d os).heap[g]? = some (.cells (putCells id off (flatK pvc 2 d) cur) e (0, 0)) ∧ Frm (fun k => some g = some k ∨ New w k) w (sortWorldK pvc 2 w g off n d os) := by
  have hl : g < w.heap.size := (Array.getElem?_eq_some_iff.1 hg).1
  constructor
  · unfold sortWorldK grow putRowK putRow mapBlock Sort.ahead
    simp only [Array.getElem?_append, Array.size_modify, if_pos hl, Array.getElem?_modify, if_true, hg]
    rfl
  · refine ⟨rfl, rfl, rfl, ?_, fun k hk => ?_⟩
    · unfold sortWorldK grow putRowK putRow mapBlock Sort.ahead
      simp
    · have h1 : g ≠ k := fun e => hk (.inl (by rw [e]))
      have h2 : k < w.heap.size := Nat.lt_of_not_le (fun c => hk (.inr c))
      unfold sortWorldK grow putRowK putRow mapBlock Sort.ahead
      simp only [Array.getElem?_append, Array.size_modify, if_pos h2, Array.getElem?_modify, if_neg h1]
theorem sort_law : SortLaw := by
  intro A c M pv w hA hn
  by_cases hz : pv = []
  · subst hz
    refine (sortn_any A c _ w).mono ?_
    rintro e w' ⟨rfl, rfl⟩
    exact ⟨rfl, [], .refl _, .nil, hA, Frm.refl _ _⟩
  · have hpos : 0 < pv.length := List.length_pos_iff.2 hz
    obtain ⟨g, off, cur, rfl, hg, hcur, hM⟩ := hA.own (by have := hA.cap; omega)
    have hcap : pv.length * 2 ≤ c * 2 := Nat.mul_le_mul_right _ hA.cap
    have hl : g < w.heap.size := (Array.getElem?_eq_some_iff.1 hg).1
    have hH : HoldsK pvc 2 w g off pv.toArray := fun j hj => by
      rw [size_flatK, List.size_toArray] at hj
      refine ⟨?_, frozen_of_row w g _ cur _ hg⟩
      have h1 := flat_at pv.toArray j (by simpa using hj)
      obtain ⟨g', o', e, hc⟩ := hA.rd j _ (by simpa using h1)
      injection e with e
      injection e with e1 e2
      subst e1 e2
      exact hc
    have hs := sort_any g off c pv.toArray w hH hl (by simpa using hn)
    rw [List.size_toArray] at hs
    refine hs.mono ?_
    rintro e w' ⟨rfl, d', n, os, hp, ho, rfl⟩
    obtain ⟨hsz, _, hperm⟩ := hp
    have hsz : d'.size = pv.length := by simpa using hsz
    have hpp : d'.toList.Perm pv := by
      have h1 : (d'.extract 0 pv.length).toList = d'.toList := by rw [← hsz]; simp
      have h2 : (pv.toArray.extract 0 pv.length).toList = pv := by simp
      rw [h1, h2] at hperm
      exact hperm
    obtain ⟨hh, hF⟩ := sorted_heap (off := off) (n := n) (d := d') (os := os) hg
    have hps : (putCells id off (flatK pvc 2 d') cur).size = cur.size := by simp [putCells]
    refine ⟨rfl, d'.toList, hpp, ?_, ⟨?_, ?_, hA.max, fun h => (by cases h), fun j u hu => ⟨g, off, rfl, ?_⟩, hA.inM, fun _ => ⟨g, off, _, rfl, hh, by rw [hps]; exact hcur, hM⟩⟩, hF⟩
    · rw [List.pairwise_iff_getElem]
      intro i j hi hj hij
      have h1 := ho i j (Nat.zero_le _) hij (by simpa [hsz] using hj)
      rw [plt] at h1
      simp only [Array.length_toList] at hi hj
      rw [getElem!_pos d' j hj, getElem!_pos d' i hi] at h1
      simp only [Array.getElem_toList]
      have := of_decide_eq_false h1
      omega
    · rw [pvl]
    · rw [Array.length_toList, hsz]; exact hA.cap
    · rw [cell_of_row _ g _ _ _ (0, 0) hh]
      have hj : j < d'.size * 2 := by
        have := (List.getElem?_eq_some_iff.1 hu).1
        rw [pvl, Array.length_toList] at this
        exact this
      rw [flat_at d' j hj] at hu
      injection hu with hu
      have hjc : off + j < cur.size := by omega
      unfold putCells
      rw [Array.getElem?_mapIdx, Array.getElem?_eq_getElem hjc]
      simp only [Option.map_some, size_flatK]
      rw [if_pos (by omega), show off + j - off = j by omega, ← hu]
      rfl
end Go.Proofs.Ytljleaomlooiaaa.M
