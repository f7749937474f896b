/- An act's instruction: some bytes. Strings up to 100 bytes. -/
import Derived.BigQuiet
import Derived.IntWalk
import Derived.Deep.CutBlock
import Derived.Lib.Hide
import Derived.Test.YtdgggjeiflllhaaQlq
import Derived.Test.YtdgggjeiflllhaaRnum
import Derived.Test.YtdgggjeiflllhaaMem
import Derived.Test.YtdgggjeiflllhaaEncp
namespace Go.Proofs.Ytdgggjeiflllhaa.M
open Go.ChangeShapes Go.WideShapes Go.ChangeAt Go.RowKit

/-- some bytes -/
def SomeB (w : World) (e : Ending) (w' : World) : Prop := ∃ (l : Bytes) (A : Option Addr) (c : Nat), e = .returned (.slice A l.length c) ∧ l.length ≤ 5000 ∧ Rd w' A (bvs l) ∧ Frm (New w) w w'
set_option maxRecDepth 100000 in
set_option maxHeartbeats 4000000 in
theorem act_any (x : Aq) (w : World) (hk : x.k ≤ 255) (hi : x.i ≤ 18446744073709551615) (hn : x.n.size ≤ 100) (hv : x.v.size ≤ 100) (hb : x.b.length ≤ 40) (hR : Rd w x.A (bvs x.b)) :
    Calls Try.prog 30 #[.agg #[.int .u8 x.k, .int .u8 x.s, .int .u64 x.i, .int .u64 x.j, .int .u64 x.m, .string x.n, .string x.v, .slice x.A x.b.length x.c]] w (SomeB w) := by
  obtain ⟨k, s, i, j, m, n, v, A, c, b⟩ := x
  simp only at *
  obtain ⟨r, hr⟩ : ∃ r : Nat, (k : Int) % 16 = (r : Int) := ⟨k % 16, by omega⟩
  have hB := Blk.new w 62 #[.int .u8 k, .int .u8 s, .int .u64 i, .int .u64 j, .int .u64 m, .string n, .string v, .slice A b.length c]
  have hF1 : Frm (New w) w (w.alloc (Obj.cells #[.int .u8 k, .int .u8 s, .int .u64 i, .int .u64 j, .int .u64 m, .string n, .string v, .slice A b.length c] 62)) := (Frm.refl _ _).alloc Up.new _
  have hR1 := hR.fresh hF1
  obtain ⟨bx, hbx⟩ : ∃ q, q = w.heap.size := ⟨_, rfl⟩
  rw [← hbx] at hB
  have hbw : w.heap.size ≤ bx := by omega
  obtain ⟨w1, hw1⟩ : ∃ q, q = w.alloc (Obj.cells #[.int .u8 k, .int .u8 s, .int .u64 i, .int .u64 j, .int .u64 m, .string n, .string v, .slice A b.length c] 62) := ⟨_, rfl⟩
  rw [← hw1] at hB hF1 hR1
  have hcs := hB
  have hc0 := hcs.cell 0
  have hc2 := hcs.cell 2
  have hc5 := hcs.cell 5
  have hc6 := hcs.cell 6
  have hc7 := hcs.cell 7
  simp only [List.getElem?_toArray, List.getElem?_cons_zero, List.getElem?_cons_succ] at hc0 hc2 hc5 hc6 hc7
  have hl := hB.lt
  clear hcs hR
  have hpf := fun (f kk v : Nat) (w' : World) (h1 : f ≤ 255) (h2 : 1 ≤ kk) (h3 : kk ≤ 8) (h4 : v ≤ 18446744073709551615) => rprefix_nat (New w') [] none 0 f kk v w' Up.new App.none_ (by simp) h1 h2 h3 h4
  have hps := fun (l : Bytes) (A : Option Addr) (c f kk : Nat) (s : ByteArray) (w0 w' : World) (hu : Up (New w0) w') (hA : App (New w0) w' 5 1 A l.length c (bvs l)) (hl : l.length ≤ 5000) (hs : s.size ≤ 100) (f1 : f ≤ 255) (k0 : 1 ≤ kk) (k1 : kk ≤ 7) => putstr_any (New w0) l A c f kk s w' hu hA (by omega) (by omega) f1 k0 k1
  have hsl : ∀ (a b kk : Nat) (s : ByteArray), s.size ≤ 100 → (strc a b kk s.data.toList).length ≤ 513 := fun a b kk s h => by have := strc_le a b kk s.data.toList; have e : s.data.toList.length = s.size := rfl; omega
  have HBX0 := Lib.hid hbx
  have HW1 := Lib.hid hw1
  have HB := Lib.hid hB
  have HF1 := Lib.hid hF1
  have HR1 := Lib.hid hR1
  have HPF := Lib.hid hpf
  have HPS := Lib.hid hps
  have HSL := Lib.hid hsl
  clear hbx hw1 hB hF1 hR1 hpf hps hsl
  by_cases h3 : r = 0
  · have hr' : (k : Int) % 16 = 0 := by omega
    clear hr
    have hm : ∃ q : Nat, (i : Int) % 600 = (q : Int) ∧ q < 600 := ⟨i % 600, by omega, by omega⟩
    obtain ⟨q, hq, hql⟩ := hm
    go_enter Try.func30, Try.ntmps30
    go_upto_region 1 with (fail)
    rw [← HW1.out, ← HBX0.out]
    go_wp2_with (go_at_call 35; refine (HPF.out 32 5 q _ (by decide) (by decide) (by decide) (by omega)).mono ?_; rintro e2 w2 ⟨A2, c2, rfl, hA2, hF2⟩)
    go_ret
    exact ⟨_, A2, c2, rfl, by have := pfx_length 32 5 q; omega, hA2.rd, HF1.out.then_new Up.new hF2⟩
  by_cases h61 : r = 1
  · have hr' : (k : Int) % 16 = 1 := by omega
    clear hr
    have hm : ∃ q : Nat, (i : Int) % 110 = (q : Int) ∧ q < 110 := ⟨i % 110, by omega, by omega⟩
    obtain ⟨q, hq, hql⟩ := hm
    have hS1 : w1.drew.cell? ⟨bx, 2, none⟩ = some (.int .u64 (i : Int)) ∧ w1.drew.cell? ⟨bx, 6, none⟩ = some (.string v) ∧ bx < w1.drew.heap.size := ⟨hc2, hc6, hl⟩
    go_enter Try.func30, Try.ntmps30
    go_upto_region 1 with (fail)
    rw [← HW1.out, ← HBX0.out]
    go_upto_region 6 with (fail)
    refine wp_region_held (by kernel_rfl) (S := fun w' => w'.cell? ⟨bx, 2, none⟩ = some (.int .u64 (i : Int)) ∧ w'.cell? ⟨bx, 6, none⟩ = some (.string v) ∧ bx < w'.heap.size) ?_
    change wpAnyH _ _ _ _ _ _ _ _ w1.drew
    refine wpAnyH_takeB (i := 0) (v := ?_) (d := some 15) rfl (by rfl) (by kernel_rfl) (fun _ _ _ h => h) (by rfl) hS1 (fun w hSw => ?_) ?_
    rotate_left
    · (try dsimp only at hSw); (try subst hSw); go_simp; first | done | (with_reducible rfl)
    simp only [Act.put, List.setIfInBounds_toArray, List.set_cons_zero, List.set_cons_succ]
    refine wpAnyH_takeB (i := 1) (v := ?_) (d := some 16) rfl (by rfl) (by kernel_rfl) (fun _ _ _ h => h) (by rfl) hS1 (fun w hSw => ?_) ?_
    rotate_left
    · (try dsimp only at hSw); (try subst hSw); go_simp; first | done | (with_reducible rfl)
    simp only [Act.put, List.setIfInBounds_toArray, List.set_cons_zero, List.set_cons_succ]
    refine wpAnyH_takeB (i := 2) (v := ?_) (d := some 17) rfl (by rfl) (by kernel_rfl) (fun _ _ _ h => h) (by rfl) hS1 (fun w hSw => ?_) ?_
    rotate_left
    · (try dsimp only at hSw); (try subst hSw); go_simp; first | done | (with_reducible rfl)
    simp only [Act.put, List.setIfInBounds_toArray, List.set_cons_zero, List.set_cons_succ]
    refine wpAnyH_takeB (i := 4) (v := ?_) (d := some 19) rfl (by rfl) (by kernel_rfl) (fun _ _ _ h => h) (by rfl) hS1 (fun w hSw => ?_) ?_
    rotate_left
    · (try dsimp only at hSw); (try subst hSw); go_simp; first | done | (with_reducible rfl)
    simp only [Act.put, List.setIfInBounds_toArray, List.set_cons_zero, List.set_cons_succ]
    refine wpAnyH_takeB (i := 5) (v := ?_) (d := some 20) rfl (by rfl) (by kernel_rfl) (fun _ _ _ h => h) (by rfl) hS1 (fun w hSw => ?_) ?_
    rotate_left
    · (try dsimp only at hSw); (try subst hSw); go_simp; first | done | (with_reducible rfl)
    simp only [Act.put, List.setIfInBounds_toArray, List.set_cons_zero, List.set_cons_succ]
    refine wpAnyH_oneB (i := 3) rfl (by kernel_rfl) (fun K hKK => ?_)
    refine Eq.mpr (if_pos (by rfl)) ?_
    go_wp2_with (fail)
    rw [hq]
    refine (HPF.out 192 6 q w1.drew (by decide) (by decide) (by decide) (by omega)).mono ?_
    rintro e2 w2 ⟨A2, c2, rfl, hA2, hF2⟩
    rw [List.nil_append] at *
    replace hF2 : Frm (New w1) w1 w2 := Frm.trans ((Frm.refl _ w1).drew) hF2
    have hB2 := HB.out.fresh hF2
    have hS2 : w2.cell? ⟨bx, 2, none⟩ = some (.int .u64 (i : Int)) ∧ w2.cell? ⟨bx, 6, none⟩ = some (.string v) ∧ bx < w2.heap.size := ⟨hB2.cell 2, hB2.cell 6, hB2.lt⟩
    have hpl := pfx_length 192 6 q
    obtain ⟨l2, hl2⟩ : ∃ l2, l2 = pfx 192 6 q := ⟨_, rfl⟩
    rw [← hl2] at hA2 hpl ⊢
    clear hl2
    replace hA2 : App (New w1) w2 5 1 A2 l2.length c2 (bvs l2) := hA2
    have hp2 := HPS.out l2 A2 c2 0 7 v w1 w2 (fun k hk => Nat.le_trans hF2.size hk) hA2 (by omega) hv (by decide) (by decide) (by decide)
    have hsl := HSL.out (0 ||| 2 ^ 7) 0 7 v hv
    obtain ⟨l3, hl3⟩ : ∃ l3, l3 = l2 ++ strc (0 ||| 2 ^ 7) 0 7 v.data.toList := ⟨_, rfl⟩
    have hl3l : l3.length ≤ 5000 := by rw [hl3, List.length_append]; omega
    rw [← hl3] at hp2
    clear hl3
    have HP2 := Lib.hid hp2
    have HB2 := Lib.hid hB2
    have HF2 := Lib.hid hF2
    clear hp2 hB2 hF2
    refine hKK.out _ _ hS2 ?_
    clear hKK K
    try simp only [Act.put, List.setIfInBounds_toArray, List.set_cons_zero, List.set_cons_succ]
    refine wpAnyH_oneB (i := 6) rfl (by kernel_rfl) (fun K hKK => ?_)
    refine Eq.mpr (if_pos (by rfl)) ?_
    go_wp2_with (fail)
    refine HP2.out.mono ?_
    rintro e3 w3 ⟨A3, c3, rfl, hA3, hF3⟩
    have hF03 := (HF1.out.then_new Up.new HF2.out).trans (hF3.mono (fun k hk => Nat.le_trans HF1.out.size hk))
    have hB3 := HB.out.fresh (HF2.out.trans hF3)
    have hS3 : w3.cell? ⟨bx, 2, none⟩ = some (.int .u64 (i : Int)) ∧ w3.cell? ⟨bx, 6, none⟩ = some (.string v) ∧ bx < w3.heap.size := ⟨hB3.cell 2, hB3.cell 6, hB3.lt⟩
    have HA3 := Lib.hid hA3
    have HF03 := Lib.hid hF03
    have HB3 := Lib.hid hB3
    clear hA3 hF03 hB3
    refine hKK.out _ _ hS3 ?_
    clear hKK K
    try simp only [Act.put, List.setIfInBounds_toArray, List.set_cons_zero, List.set_cons_succ]
    refine wpAnyH_oneB (i := 7) rfl (by kernel_rfl) (fun K hK => ?_)
    refine Eq.mpr (if_pos (by rfl)) ?_
    go_simp
    refine hK.out _ _ (hS3) ?_
    clear hK K
    try simp only [Act.put, List.setIfInBounds_toArray, List.set_cons_zero, List.set_cons_succ]
    refine wpAnyH_done (by kernel_rfl) ?_ _
    go_wp2_with (fail)
    go_ret
    exact ⟨_, A3, c3, rfl, hl3l, HA3.out.rd, HF03.out⟩
  by_cases h62 : r = 2
  · have hr' : (k : Int) % 16 = 2 := by omega
    clear hr
    have hm : ∃ q : Nat, (i : Int) % 110 = (q : Int) ∧ q < 110 := ⟨i % 110, by omega, by omega⟩
    obtain ⟨q, hq, hql⟩ := hm
    have hS1 : w1.drew.cell? ⟨bx, 2, none⟩ = some (.int .u64 (i : Int)) ∧ w1.drew.cell? ⟨bx, 6, none⟩ = some (.string v) ∧ bx < w1.drew.heap.size := ⟨hc2, hc6, hl⟩
    go_enter Try.func30, Try.ntmps30
    go_upto_region 1 with (fail)
    rw [← HW1.out, ← HBX0.out]
    go_upto_region 6 with (fail)
    refine wp_region_held (by kernel_rfl) (S := fun w' => w'.cell? ⟨bx, 2, none⟩ = some (.int .u64 (i : Int)) ∧ w'.cell? ⟨bx, 6, none⟩ = some (.string v) ∧ bx < w'.heap.size) ?_
    change wpAnyH _ _ _ _ _ _ _ _ w1.drew
    refine wpAnyH_takeB (i := 0) (v := ?_) (d := some 15) rfl (by rfl) (by kernel_rfl) (fun _ _ _ h => h) (by rfl) hS1 (fun w hSw => ?_) ?_
    rotate_left
    · (try dsimp only at hSw); (try subst hSw); go_simp; first | done | (with_reducible rfl)
    simp only [Act.put, List.setIfInBounds_toArray, List.set_cons_zero, List.set_cons_succ]
    refine wpAnyH_takeB (i := 1) (v := ?_) (d := some 16) rfl (by rfl) (by kernel_rfl) (fun _ _ _ h => h) (by rfl) hS1 (fun w hSw => ?_) ?_
    rotate_left
    · (try dsimp only at hSw); (try subst hSw); go_simp; first | done | (with_reducible rfl)
    simp only [Act.put, List.setIfInBounds_toArray, List.set_cons_zero, List.set_cons_succ]
    refine wpAnyH_takeB (i := 2) (v := ?_) (d := some 17) rfl (by rfl) (by kernel_rfl) (fun _ _ _ h => h) (by rfl) hS1 (fun w hSw => ?_) ?_
    rotate_left
    · (try dsimp only at hSw); (try subst hSw); go_simp; first | done | (with_reducible rfl)
    simp only [Act.put, List.setIfInBounds_toArray, List.set_cons_zero, List.set_cons_succ]
    refine wpAnyH_takeB (i := 4) (v := ?_) (d := some 19) rfl (by rfl) (by kernel_rfl) (fun _ _ _ h => h) (by rfl) hS1 (fun w hSw => ?_) ?_
    rotate_left
    · (try dsimp only at hSw); (try subst hSw); go_simp; first | done | (with_reducible rfl)
    simp only [Act.put, List.setIfInBounds_toArray, List.set_cons_zero, List.set_cons_succ]
    refine wpAnyH_takeB (i := 5) (v := ?_) (d := some 20) rfl (by rfl) (by kernel_rfl) (fun _ _ _ h => h) (by rfl) hS1 (fun w hSw => ?_) ?_
    rotate_left
    · (try dsimp only at hSw); (try subst hSw); go_simp; first | done | (with_reducible rfl)
    simp only [Act.put, List.setIfInBounds_toArray, List.set_cons_zero, List.set_cons_succ]
    refine wpAnyH_oneB (i := 3) rfl (by kernel_rfl) (fun K hKK => ?_)
    refine Eq.mpr (if_pos (by rfl)) ?_
    go_wp2_with (fail)
    rw [hq]
    refine (HPF.out 192 6 q w1.drew (by decide) (by decide) (by decide) (by omega)).mono ?_
    rintro e2 w2 ⟨A2, c2, rfl, hA2, hF2⟩
    rw [List.nil_append] at *
    replace hF2 : Frm (New w1) w1 w2 := Frm.trans ((Frm.refl _ w1).drew) hF2
    have hB2 := HB.out.fresh hF2
    have hS2 : w2.cell? ⟨bx, 2, none⟩ = some (.int .u64 (i : Int)) ∧ w2.cell? ⟨bx, 6, none⟩ = some (.string v) ∧ bx < w2.heap.size := ⟨hB2.cell 2, hB2.cell 6, hB2.lt⟩
    have hpl := pfx_length 192 6 q
    obtain ⟨l2, hl2⟩ : ∃ l2, l2 = pfx 192 6 q := ⟨_, rfl⟩
    rw [← hl2] at hA2 hpl ⊢
    clear hl2
    replace hA2 : App (New w1) w2 5 1 A2 l2.length c2 (bvs l2) := hA2
    have hp2 := HPS.out l2 A2 c2 0 7 v w1 w2 (fun k hk => Nat.le_trans hF2.size hk) hA2 (by omega) hv (by decide) (by decide) (by decide)
    have hsl := HSL.out (0 ||| 2 ^ 7) 0 7 v hv
    obtain ⟨l3, hl3⟩ : ∃ l3, l3 = l2 ++ strc (0 ||| 2 ^ 7) 0 7 v.data.toList := ⟨_, rfl⟩
    have hl3l : l3.length ≤ 5000 := by rw [hl3, List.length_append]; omega
    rw [← hl3] at hp2
    clear hl3
    have HP2 := Lib.hid hp2
    have HB2 := Lib.hid hB2
    have HF2 := Lib.hid hF2
    clear hp2 hB2 hF2
    refine hKK.out _ _ hS2 ?_
    clear hKK K
    try simp only [Act.put, List.setIfInBounds_toArray, List.set_cons_zero, List.set_cons_succ]
    refine wpAnyH_oneB (i := 6) rfl (by kernel_rfl) (fun K hKK => ?_)
    refine Eq.mpr (if_pos (by rfl)) ?_
    go_wp2_with (fail)
    refine HP2.out.mono ?_
    rintro e3 w3 ⟨A3, c3, rfl, hA3, hF3⟩
    have hF03 := (HF1.out.then_new Up.new HF2.out).trans (hF3.mono (fun k hk => Nat.le_trans HF1.out.size hk))
    have hB3 := HB.out.fresh (HF2.out.trans hF3)
    have hS3 : w3.cell? ⟨bx, 2, none⟩ = some (.int .u64 (i : Int)) ∧ w3.cell? ⟨bx, 6, none⟩ = some (.string v) ∧ bx < w3.heap.size := ⟨hB3.cell 2, hB3.cell 6, hB3.lt⟩
    have HA3 := Lib.hid hA3
    have HF03 := Lib.hid hF03
    have HB3 := Lib.hid hB3
    clear hA3 hF03 hB3
    refine hKK.out _ _ hS3 ?_
    clear hKK K
    try simp only [Act.put, List.setIfInBounds_toArray, List.set_cons_zero, List.set_cons_succ]
    refine wpAnyH_oneB (i := 7) rfl (by kernel_rfl) (fun K hK => ?_)
    refine Eq.mpr (if_pos (by rfl)) ?_
    go_simp
    refine hK.out _ _ (hS3) ?_
    clear hK K
    try simp only [Act.put, List.setIfInBounds_toArray, List.set_cons_zero, List.set_cons_succ]
    refine wpAnyH_done (by kernel_rfl) ?_ _
    go_wp2_with (fail)
    go_ret
    exact ⟨_, A3, c3, rfl, hl3l, HA3.out.rd, HF03.out⟩
  by_cases h8 : r = 3
  · have hr' : (k : Int) % 16 = 3 := by omega
    clear hr
    have hm : ∃ q : Nat, (i : Int) % 4 = (q : Int) ∧ q < 4 := ⟨i % 4, by omega, by omega⟩
    obtain ⟨q, hq, hql⟩ := hm
    have hS1 : w1.drew.cell? ⟨bx, 2, none⟩ = some (.int .u64 (i : Int)) ∧ w1.drew.cell? ⟨bx, 6, none⟩ = some (.string v) ∧ bx < w1.drew.heap.size := ⟨hc2, hc6, hl⟩
    go_enter Try.func30, Try.ntmps30
    go_upto_region 1 with (fail)
    rw [← HW1.out, ← HBX0.out]
    go_upto_region 8 with (fail)
    refine wp_region_held (by kernel_rfl) (S := fun w' => w'.cell? ⟨bx, 2, none⟩ = some (.int .u64 (i : Int)) ∧ w'.cell? ⟨bx, 6, none⟩ = some (.string v) ∧ bx < w'.heap.size) ?_
    change wpAnyH _ _ _ _ _ _ _ _ w1.drew
    refine wpAnyH_takeB (i := 0) (v := ?_) (d := some 24) rfl (by rfl) (by kernel_rfl) (fun _ _ _ h => h) (by rfl) hS1 (fun w hSw => ?_) ?_
    rotate_left
    · (try dsimp only at hSw); (try subst hSw); go_simp; first | done | (with_reducible rfl)
    simp only [Act.put, List.setIfInBounds_toArray, List.set_cons_zero, List.set_cons_succ]
    refine wpAnyH_takeB (i := 1) (v := ?_) (d := some 25) rfl (by rfl) (by kernel_rfl) (fun _ _ _ h => h) (by rfl) hS1 (fun w hSw => ?_) ?_
    rotate_left
    · (try dsimp only at hSw); (try subst hSw); go_simp; first | done | (with_reducible rfl)
    simp only [Act.put, List.setIfInBounds_toArray, List.set_cons_zero, List.set_cons_succ]
    refine wpAnyH_takeB (i := 2) (v := ?_) (d := some 26) rfl (by rfl) (by kernel_rfl) (fun _ _ _ h => h) (by rfl) hS1 (fun w hSw => ?_) ?_
    rotate_left
    · (try dsimp only at hSw); (try subst hSw); go_simp; first | done | (with_reducible rfl)
    simp only [Act.put, List.setIfInBounds_toArray, List.set_cons_zero, List.set_cons_succ]
    refine wpAnyH_takeB (i := 4) (v := ?_) (d := some 28) rfl (by rfl) (by kernel_rfl) (fun _ _ _ h => h) (by rfl) hS1 (fun w hSw => ?_) ?_
    rotate_left
    · (try dsimp only at hSw); (try subst hSw); go_simp; first | done | (with_reducible rfl)
    simp only [Act.put, List.setIfInBounds_toArray, List.set_cons_zero, List.set_cons_succ]
    refine wpAnyH_takeB (i := 5) (v := ?_) (d := some 29) rfl (by rfl) (by kernel_rfl) (fun _ _ _ h => h) (by rfl) hS1 (fun w hSw => ?_) ?_
    rotate_left
    · (try dsimp only at hSw); (try subst hSw); go_simp; first | done | (with_reducible rfl)
    simp only [Act.put, List.setIfInBounds_toArray, List.set_cons_zero, List.set_cons_succ]
    refine wpAnyH_oneB (i := 3) rfl (by kernel_rfl) (fun K hKK => ?_)
    refine Eq.mpr (if_pos (by rfl)) ?_
    go_wp2_with (fail)
    rw [hq]
    refine (HPF.out 128 6 q w1.drew (by decide) (by decide) (by decide) (by omega)).mono ?_
    rintro e2 w2 ⟨A2, c2, rfl, hA2, hF2⟩
    rw [List.nil_append] at *
    replace hF2 : Frm (New w1) w1 w2 := Frm.trans ((Frm.refl _ w1).drew) hF2
    have hB2 := HB.out.fresh hF2
    have hS2 : w2.cell? ⟨bx, 2, none⟩ = some (.int .u64 (i : Int)) ∧ w2.cell? ⟨bx, 6, none⟩ = some (.string v) ∧ bx < w2.heap.size := ⟨hB2.cell 2, hB2.cell 6, hB2.lt⟩
    have hpl := pfx_length 128 6 q
    obtain ⟨l2, hl2⟩ : ∃ l2, l2 = pfx 128 6 q := ⟨_, rfl⟩
    rw [← hl2] at hA2 hpl ⊢
    clear hl2
    replace hA2 : App (New w1) w2 5 1 A2 l2.length c2 (bvs l2) := hA2
    have hp2 := HPS.out l2 A2 c2 0 7 v w1 w2 (fun k hk => Nat.le_trans hF2.size hk) hA2 (by omega) hv (by decide) (by decide) (by decide)
    have hsl := HSL.out (0 ||| 2 ^ 7) 0 7 v hv
    obtain ⟨l3, hl3⟩ : ∃ l3, l3 = l2 ++ strc (0 ||| 2 ^ 7) 0 7 v.data.toList := ⟨_, rfl⟩
    have hl3l : l3.length ≤ 5000 := by rw [hl3, List.length_append]; omega
    rw [← hl3] at hp2
    clear hl3
    have HP2 := Lib.hid hp2
    have HB2 := Lib.hid hB2
    have HF2 := Lib.hid hF2
    clear hp2 hB2 hF2
    refine hKK.out _ _ hS2 ?_
    clear hKK K
    try simp only [Act.put, List.setIfInBounds_toArray, List.set_cons_zero, List.set_cons_succ]
    refine wpAnyH_oneB (i := 6) rfl (by kernel_rfl) (fun K hKK => ?_)
    refine Eq.mpr (if_pos (by rfl)) ?_
    go_wp2_with (fail)
    refine HP2.out.mono ?_
    rintro e3 w3 ⟨A3, c3, rfl, hA3, hF3⟩
    have hF03 := (HF1.out.then_new Up.new HF2.out).trans (hF3.mono (fun k hk => Nat.le_trans HF1.out.size hk))
    have hB3 := HB.out.fresh (HF2.out.trans hF3)
    have hS3 : w3.cell? ⟨bx, 2, none⟩ = some (.int .u64 (i : Int)) ∧ w3.cell? ⟨bx, 6, none⟩ = some (.string v) ∧ bx < w3.heap.size := ⟨hB3.cell 2, hB3.cell 6, hB3.lt⟩
    have HA3 := Lib.hid hA3
    have HF03 := Lib.hid hF03
    have HB3 := Lib.hid hB3
    clear hA3 hF03 hB3
    refine hKK.out _ _ hS3 ?_
    clear hKK K
    try simp only [Act.put, List.setIfInBounds_toArray, List.set_cons_zero, List.set_cons_succ]
    refine wpAnyH_oneB (i := 7) rfl (by kernel_rfl) (fun K hK => ?_)
    refine Eq.mpr (if_pos (by rfl)) ?_
    go_simp
    refine hK.out _ _ (hS3) ?_
    clear hK K
    try simp only [Act.put, List.setIfInBounds_toArray, List.set_cons_zero, List.set_cons_succ]
    refine wpAnyH_done (by kernel_rfl) ?_ _
    go_wp2_with (fail)
    go_ret
    exact ⟨_, A3, c3, rfl, hl3l, HA3.out.rd, HF03.out⟩
  by_cases h44 : r = 4
  · have hr' : (k : Int) % 16 = 4 := by omega
    clear hr
    have hS1 : w1.drew.cell? ⟨bx, 5, none⟩ = some (.string n) ∧ w1.drew.cell? ⟨bx, 6, none⟩ = some (.string v) ∧ bx < w1.drew.heap.size := ⟨hc5, hc6, hl⟩
    go_enter Try.func30, Try.ntmps30
    go_upto_region 1 with (fail)
    rw [← HW1.out, ← HBX0.out]
    go_upto_region 11 with (fail)
    refine wp_region_held (by kernel_rfl) (S := fun w' => w'.cell? ⟨bx, 5, none⟩ = some (.string n) ∧ w'.cell? ⟨bx, 6, none⟩ = some (.string v) ∧ bx < w'.heap.size) ?_
    change wpAnyH _ _ _ _ _ _ _ _ w1.drew
    refine wpAnyH_takeB (i := 0) (v := ?_) (d := some 34) rfl (by rfl) (by kernel_rfl) (fun _ _ _ h => h) (by rfl) hS1 (fun w hSw => ?_) ?_
    rotate_left
    · (try dsimp only at hSw); (try subst hSw); go_simp; first | done | (with_reducible rfl)
    simp only [Act.put, List.setIfInBounds_toArray, List.set_cons_zero, List.set_cons_succ]
    refine wpAnyH_takeB (i := 1) (v := ?_) (d := some 35) rfl (by rfl) (by kernel_rfl) (fun _ _ _ h => h) (by rfl) hS1 (fun w hSw => ?_) ?_
    rotate_left
    · (try dsimp only at hSw); (try subst hSw); go_simp; first | done | (with_reducible rfl)
    simp only [Act.put, List.setIfInBounds_toArray, List.set_cons_zero, List.set_cons_succ]
    refine wpAnyH_takeB (i := 3) (v := ?_) (d := some 37) rfl (by rfl) (by kernel_rfl) (fun _ _ _ h => h) (by rfl) hS1 (fun w hSw => ?_) ?_
    rotate_left
    · (try dsimp only at hSw); (try subst hSw); go_simp; first | done | (with_reducible rfl)
    simp only [Act.put, List.setIfInBounds_toArray, List.set_cons_zero, List.set_cons_succ]
    refine wpAnyH_takeB (i := 4) (v := ?_) (d := some 38) rfl (by rfl) (by kernel_rfl) (fun _ _ _ h => h) (by rfl) hS1 (fun w hSw => ?_) ?_
    rotate_left
    · (try dsimp only at hSw); (try subst hSw); go_simp; first | done | (with_reducible rfl)
    simp only [Act.put, List.setIfInBounds_toArray, List.set_cons_zero, List.set_cons_succ]
    refine wpAnyH_oneB (i := 2) rfl (by kernel_rfl) (fun K hKK => ?_)
    refine Eq.mpr (if_pos (by rfl)) ?_
    go_wp2_with (fail)
    have hp1 := HPS.out [] none 0 64 5 n w1.drew w1.drew Up.new App.none_ (by simp) hn (by decide) (by decide) (by decide)
    rw [List.nil_append] at hp1
    refine hp1.mono ?_
    rintro e2 w2 ⟨A2, c2, rfl, hA2, hF2⟩
    clear hp1
    replace hF2 : Frm (New w1) w1 w2 := Frm.trans ((Frm.refl _ w1).drew) hF2
    have hB2 := HB.out.fresh hF2
    have hS2 : w2.cell? ⟨bx, 5, none⟩ = some (.string n) ∧ w2.cell? ⟨bx, 6, none⟩ = some (.string v) ∧ bx < w2.heap.size := ⟨hB2.cell 5, hB2.cell 6, hB2.lt⟩
    have hpl := HSL.out (64 ||| 2 ^ 5) 64 5 n hn
    obtain ⟨l2, hl2⟩ : ∃ l2, l2 = strc (64 ||| 2 ^ 5) 64 5 n.data.toList := ⟨_, rfl⟩
    rw [← hl2] at hA2 hpl ⊢
    clear hl2
    replace hA2 : App (New w1) w2 5 1 A2 l2.length c2 (bvs l2) := hA2
    have hp2 := HPS.out l2 A2 c2 0 7 v w1 w2 (fun k hk => Nat.le_trans hF2.size hk) hA2 (by omega) hv (by decide) (by decide) (by decide)
    have hsl := HSL.out (0 ||| 2 ^ 7) 0 7 v hv
    obtain ⟨l3, hl3⟩ : ∃ l3, l3 = l2 ++ strc (0 ||| 2 ^ 7) 0 7 v.data.toList := ⟨_, rfl⟩
    have hl3l : l3.length ≤ 5000 := by rw [hl3, List.length_append]; omega
    rw [← hl3] at hp2
    clear hl3
    have HP2 := Lib.hid hp2
    have HB2 := Lib.hid hB2
    have HF2 := Lib.hid hF2
    clear hp2 hB2 hF2
    refine hKK.out _ _ hS2 ?_
    clear hKK K
    try simp only [Act.put, List.setIfInBounds_toArray, List.set_cons_zero, List.set_cons_succ]
    refine wpAnyH_oneB (i := 5) rfl (by kernel_rfl) (fun K hKK => ?_)
    refine Eq.mpr (if_pos (by rfl)) ?_
    go_wp2_with (fail)
    refine HP2.out.mono ?_
    rintro e3 w3 ⟨A3, c3, rfl, hA3, hF3⟩
    have hF03 := (HF1.out.then_new Up.new HF2.out).trans (hF3.mono (fun k hk => Nat.le_trans HF1.out.size hk))
    have hB3 := HB.out.fresh (HF2.out.trans hF3)
    have hS3 : w3.cell? ⟨bx, 5, none⟩ = some (.string n) ∧ w3.cell? ⟨bx, 6, none⟩ = some (.string v) ∧ bx < w3.heap.size := ⟨hB3.cell 5, hB3.cell 6, hB3.lt⟩
    have HA3 := Lib.hid hA3
    have HF03 := Lib.hid hF03
    have HB3 := Lib.hid hB3
    clear hA3 hF03 hB3
    refine hKK.out _ _ hS3 ?_
    clear hKK K
    try simp only [Act.put, List.setIfInBounds_toArray, List.set_cons_zero, List.set_cons_succ]
    refine wpAnyH_oneB (i := 6) rfl (by kernel_rfl) (fun K hK => ?_)
    refine Eq.mpr (if_pos (by rfl)) ?_
    go_simp
    refine hK.out _ _ (hS3) ?_
    clear hK K
    try simp only [Act.put, List.setIfInBounds_toArray, List.set_cons_zero, List.set_cons_succ]
    refine wpAnyH_done (by kernel_rfl) ?_ _
    go_wp2_with (fail)
    go_ret
    exact ⟨_, A3, c3, rfl, hl3l, HA3.out.rd, HF03.out⟩
  by_cases h45 : r = 5
  · have hr' : (k : Int) % 16 = 5 := by omega
    clear hr
    have hS1 : w1.drew.cell? ⟨bx, 5, none⟩ = some (.string n) ∧ w1.drew.cell? ⟨bx, 6, none⟩ = some (.string v) ∧ bx < w1.drew.heap.size := ⟨hc5, hc6, hl⟩
    go_enter Try.func30, Try.ntmps30
    go_upto_region 1 with (fail)
    rw [← HW1.out, ← HBX0.out]
    go_upto_region 11 with (fail)
    refine wp_region_held (by kernel_rfl) (S := fun w' => w'.cell? ⟨bx, 5, none⟩ = some (.string n) ∧ w'.cell? ⟨bx, 6, none⟩ = some (.string v) ∧ bx < w'.heap.size) ?_
    change wpAnyH _ _ _ _ _ _ _ _ w1.drew
    refine wpAnyH_takeB (i := 0) (v := ?_) (d := some 34) rfl (by rfl) (by kernel_rfl) (fun _ _ _ h => h) (by rfl) hS1 (fun w hSw => ?_) ?_
    rotate_left
    · (try dsimp only at hSw); (try subst hSw); go_simp; first | done | (with_reducible rfl)
    simp only [Act.put, List.setIfInBounds_toArray, List.set_cons_zero, List.set_cons_succ]
    refine wpAnyH_takeB (i := 1) (v := ?_) (d := some 35) rfl (by rfl) (by kernel_rfl) (fun _ _ _ h => h) (by rfl) hS1 (fun w hSw => ?_) ?_
    rotate_left
    · (try dsimp only at hSw); (try subst hSw); go_simp; first | done | (with_reducible rfl)
    simp only [Act.put, List.setIfInBounds_toArray, List.set_cons_zero, List.set_cons_succ]
    refine wpAnyH_takeB (i := 3) (v := ?_) (d := some 37) rfl (by rfl) (by kernel_rfl) (fun _ _ _ h => h) (by rfl) hS1 (fun w hSw => ?_) ?_
    rotate_left
    · (try dsimp only at hSw); (try subst hSw); go_simp; first | done | (with_reducible rfl)
    simp only [Act.put, List.setIfInBounds_toArray, List.set_cons_zero, List.set_cons_succ]
    refine wpAnyH_takeB (i := 4) (v := ?_) (d := some 38) rfl (by rfl) (by kernel_rfl) (fun _ _ _ h => h) (by rfl) hS1 (fun w hSw => ?_) ?_
    rotate_left
    · (try dsimp only at hSw); (try subst hSw); go_simp; first | done | (with_reducible rfl)
    simp only [Act.put, List.setIfInBounds_toArray, List.set_cons_zero, List.set_cons_succ]
    refine wpAnyH_oneB (i := 2) rfl (by kernel_rfl) (fun K hKK => ?_)
    refine Eq.mpr (if_pos (by rfl)) ?_
    go_wp2_with (fail)
    have hp1 := HPS.out [] none 0 64 5 n w1.drew w1.drew Up.new App.none_ (by simp) hn (by decide) (by decide) (by decide)
    rw [List.nil_append] at hp1
    refine hp1.mono ?_
    rintro e2 w2 ⟨A2, c2, rfl, hA2, hF2⟩
    clear hp1
    replace hF2 : Frm (New w1) w1 w2 := Frm.trans ((Frm.refl _ w1).drew) hF2
    have hB2 := HB.out.fresh hF2
    have hS2 : w2.cell? ⟨bx, 5, none⟩ = some (.string n) ∧ w2.cell? ⟨bx, 6, none⟩ = some (.string v) ∧ bx < w2.heap.size := ⟨hB2.cell 5, hB2.cell 6, hB2.lt⟩
    have hpl := HSL.out (64 ||| 2 ^ 5) 64 5 n hn
    obtain ⟨l2, hl2⟩ : ∃ l2, l2 = strc (64 ||| 2 ^ 5) 64 5 n.data.toList := ⟨_, rfl⟩
    rw [← hl2] at hA2 hpl ⊢
    clear hl2
    replace hA2 : App (New w1) w2 5 1 A2 l2.length c2 (bvs l2) := hA2
    have hp2 := HPS.out l2 A2 c2 0 7 v w1 w2 (fun k hk => Nat.le_trans hF2.size hk) hA2 (by omega) hv (by decide) (by decide) (by decide)
    have hsl := HSL.out (0 ||| 2 ^ 7) 0 7 v hv
    obtain ⟨l3, hl3⟩ : ∃ l3, l3 = l2 ++ strc (0 ||| 2 ^ 7) 0 7 v.data.toList := ⟨_, rfl⟩
    have hl3l : l3.length ≤ 5000 := by rw [hl3, List.length_append]; omega
    rw [← hl3] at hp2
    clear hl3
    have HP2 := Lib.hid hp2
    have HB2 := Lib.hid hB2
    have HF2 := Lib.hid hF2
    clear hp2 hB2 hF2
    refine hKK.out _ _ hS2 ?_
    clear hKK K
    try simp only [Act.put, List.setIfInBounds_toArray, List.set_cons_zero, List.set_cons_succ]
    refine wpAnyH_oneB (i := 5) rfl (by kernel_rfl) (fun K hKK => ?_)
    refine Eq.mpr (if_pos (by rfl)) ?_
    go_wp2_with (fail)
    refine HP2.out.mono ?_
    rintro e3 w3 ⟨A3, c3, rfl, hA3, hF3⟩
    have hF03 := (HF1.out.then_new Up.new HF2.out).trans (hF3.mono (fun k hk => Nat.le_trans HF1.out.size hk))
    have hB3 := HB.out.fresh (HF2.out.trans hF3)
    have hS3 : w3.cell? ⟨bx, 5, none⟩ = some (.string n) ∧ w3.cell? ⟨bx, 6, none⟩ = some (.string v) ∧ bx < w3.heap.size := ⟨hB3.cell 5, hB3.cell 6, hB3.lt⟩
    have HA3 := Lib.hid hA3
    have HF03 := Lib.hid hF03
    have HB3 := Lib.hid hB3
    clear hA3 hF03 hB3
    refine hKK.out _ _ hS3 ?_
    clear hKK K
    try simp only [Act.put, List.setIfInBounds_toArray, List.set_cons_zero, List.set_cons_succ]
    refine wpAnyH_oneB (i := 6) rfl (by kernel_rfl) (fun K hK => ?_)
    refine Eq.mpr (if_pos (by rfl)) ?_
    go_simp
    refine hK.out _ _ (hS3) ?_
    clear hK K
    try simp only [Act.put, List.setIfInBounds_toArray, List.set_cons_zero, List.set_cons_succ]
    refine wpAnyH_done (by kernel_rfl) ?_ _
    go_wp2_with (fail)
    go_ret
    exact ⟨_, A3, c3, rfl, hl3l, HA3.out.rd, HF03.out⟩
  by_cases h13 : r = 6
  · have hr' : (k : Int) % 16 = 6 := by omega
    clear hr
    have hm : ∃ q : Nat, (i : Int) % 4 = (q : Int) ∧ q < 4 := ⟨i % 4, by omega, by omega⟩
    obtain ⟨q, hq, hql⟩ := hm
    go_enter Try.func30, Try.ntmps30
    go_upto_region 1 with (fail)
    rw [← HW1.out, ← HBX0.out]
    go_wp2_with (go_at_call 35; refine (HPF.out 0 5 q _ (by decide) (by decide) (by decide) (by omega)).mono ?_; rintro e2 w2 ⟨A2, c2, rfl, hA2, hF2⟩)
    go_ret
    exact ⟨_, A2, c2, rfl, by have := pfx_length 0 5 q; omega, hA2.rd, HF1.out.then_new Up.new hF2⟩
  have hn0 : ¬ (r : Int) = 0 := by omega
  have hm0 : ((r : Int) == 0) = false := beq_eq_false_iff_ne.2 hn0
  have hn1 : ¬ (r : Int) = 1 := by omega
  have hm1 : ((r : Int) == 1) = false := beq_eq_false_iff_ne.2 hn1
  have hn2 : ¬ (r : Int) = 2 := by omega
  have hm2 : ((r : Int) == 2) = false := beq_eq_false_iff_ne.2 hn2
  have hn3 : ¬ (r : Int) = 3 := by omega
  have hm3 : ((r : Int) == 3) = false := beq_eq_false_iff_ne.2 hn3
  have hn4 : ¬ (r : Int) = 4 := by omega
  have hm4 : ((r : Int) == 4) = false := beq_eq_false_iff_ne.2 hn4
  have hn5 : ¬ (r : Int) = 5 := by omega
  have hm5 : ((r : Int) == 5) = false := beq_eq_false_iff_ne.2 hn5
  have hn6 : ¬ (r : Int) = 6 := by omega
  have hm6 : ((r : Int) == 6) = false := beq_eq_false_iff_ne.2 hn6
  go_enter Try.func30, Try.ntmps30
  go_upto_region 1 with (fail)
  rw [← HW1.out, ← HBX0.out]
  go_wp2
  go_ret
  exact ⟨b, A, c, rfl, by omega, HR1.out, HF1.out⟩
end Go.Proofs.Ytdgggjeiflllhaa.M
