/- Unw -/
import Derived.Deep.CutBlock
import Derived.Test.YtdgggjeiflllhaaZyDecp
import Derived.Test.YtdgggjeiflllhaaZyRhuf
import Derived.Test.YtdgggjeiflllhaaZyIn
import Derived.Test.YtdgggjeiflllhaaZyMem
import Derived.Test.YtdgggjeiflllhaaZyKey

namespace Go.Proofs.Ytdgggjeiflllhaa.M
open Go.ChangeShapes Go.WideShapes Go.ChangeAt Go.RowKit
end Go.Proofs.Ytdgggjeiflllhaa.M
namespace Go.Proofs.Ytdgggjeiflllhaa.M
open Go.ChangeShapes Go.WideShapes Go.ChangeAt Go.RowKit
theorem and_low' (x k : Nat) (hx : x < 256) (hk : k ≤ 8) (p : Nat) (hp : 2 ^ k = p) : bits .and .u64 (x : Int) ((p : Int) - 1) = ((x % p : Nat) : Int) := by
  have := and_low x k hx hk
  subst hp
  rw [← this]
  congr 1
  have := Nat.two_pow_pos k
  omega
theorem and_128 (x : Nat) (hx : x < 256) : (bits .and .u8 (x : Int) 128 == 0) = decide (x < 128) := by
  have key : ∀ x : Fin 256, (bits .and .u8 (x.val : Int) 128 == 0) = decide (x.val < 128) := by decide +kernel
  exact key ⟨x, hx⟩
set_option maxRecDepth 100000 in
set_option maxHeartbeats 1000000 in
theorem rrdp_any (b : Bytes) (A : Option Addr) (c k : Nat) (w : World) (hR : Rd w A (bvs b)) (hl : b.length ≤ 140737488355328) (k0 : 1 ≤ k) (k1 : k ≤ 8) :
    Calls Try.prog 62 #[.slice A b.length c, .int .i64 k] w (Ret3 w (rdp b k)) := by
  have hm1 : max (k : Int) 1 = (k : Int) := by omega
  have hm2 : min (k : Int) 8 = (k : Int) := by omega
  cases b with
  | nil =>
    go_enter Try.func62, Try.ntmps62
    go_wp2
    go_ret3
    exact ⟨rfl, 0, rfl⟩
  | cons b r =>
    obtain ⟨p2, p256⟩ := pow_bd k k0 k1
    have hb : b.toNat < 256 := b.toNat_lt
    obtain ⟨g, off, rfl, hc0⟩ := hR.at_ (k := 0) (by simp)
    simp only [Nat.add_zero, bvs, List.map_cons, List.getElem_cons_zero, bv] at hc0
    have hpw : (2 : Int) ^ k = ((2 ^ k : Nat) : Int) := by simp
    have hbl : b.toNat % 2 ^ k < 2 ^ k := Nat.mod_lt _ (by omega)
    have hrd : rdp (b :: r) k = if b.toNat % 2 ^ k < 2 ^ k - 1 then (b.toNat % 2 ^ k, 1, 0) else rdMore 10 1 (2 ^ k - 1) r := rfl
    have HB : Hid (Rd w (some ⟨g, off, none⟩) (bvs (b :: r))) := hR
    rw [hrd]; clear hrd hR
    have hAN' := and_low' b.toNat k hb k1 _ rfl
    generalize 2 ^ k = p at *
    generalize b.toNat % p = v at *
    have hkb : (1 : Int) ≤ k := by omega
    have hkb2 : (k : Int) ≤ 8 := by omega
    generalize hn : (b :: r).length = n at *
    have HN : Hid ((b :: r).length = n) := hn
    have hn1 : 1 ≤ n := by rw [← hn]; simp
    clear hn
    by_cases hv : v < p - 1
    · rw [if_pos hv]
      have hv' : (v : Int) < (p : Int) - 1 := by omega
      go_enter Try.func62, Try.ntmps62
      go_wp2
      go_ret3
      exact ⟨rfl, 0, rfl⟩
    · rw [if_neg hv]
      have hv' : ¬ ((v : Int) < (p : Int) - 1) := by omega
      go_enter Try.func62, Try.ntmps62
      go_wp2
      have hv0 : (v : Int) = ((p - 1 : Nat) : Int) := by omega
      clear hAN' hpw hc0 hbl hm1 hm2
      go_loop [8, 9] (fun v i => ∃ (x j f : Nat), v = .int .u64 x ∧ i = .int .i64 j ∧ j + f = 11 ∧ 1 ≤ j ∧ x ≤ 4611686018427387903 ∧ rdMore 10 1 (p - 1) r = rdMore f j x (r.drop (j - 1))) (fun _ i => (11 - intOf i).toNat)
      case atStart => exact ⟨p - 1, 1, 10, by rw [hv0], rfl, rfl, by omega, by omega, by simp⟩
      case round =>
        obtain ⟨x, j, f, rfl, rfl, hjf, hj1, hx, hm⟩ := hrel
        have HM : Hid _ := hm
        clear hm
        cases f with
        | zero =>
          go_wp2
          go_ret3
          rw [HM.out]
          exact ⟨rfl, 0, rfl⟩
        | succ f =>
          by_cases hjn : n ≤ j
          · go_wp2
            go_ret3
            rw [HM.out, show r.drop (j - 1) = [] from List.drop_eq_nil_of_le (by have := HN.out; simp at this; omega)]
            exact ⟨rfl, 0, rfl⟩
          · obtain ⟨_, _, e, hcj⟩ := HB.out.at_ (k := j) (by rw [bvs_length, HN.out]; omega)
            simp only [Option.some.injEq, Addr.mk.injEq] at e
            obtain ⟨rfl, rfl, _⟩ := e
            obtain ⟨j, rfl⟩ : ∃ i, j = i + 1 := ⟨j - 1, by omega⟩
            have hjr : j < r.length := by have := HN.out; simp at this; omega
            have e2 : (bvs (b :: r))[j + 1]'(by simpa using hjr) = .int .u8 (r[j].toNat : Int) := by simp [bvs, bv]
            rw [e2] at hcj
            have e3 : r.drop j = r[j] :: r.drop (j + 1) := List.drop_eq_getElem_cons hjr
            have hy : r[j].toNat < 256 := r[j].toNat_lt
            generalize r[j] = y at *
            have h127 := and_127 y.toNat hy
            have h128 := and_128 y.toNat hy
            clear e2
            have E3 : Hid _ := e3
            clear e3
            have hP : (2 : Int) ^ (7 * j) = ((2 ^ (7 * j) : Nat) : Int) := by simp
            have hP1 : 1 ≤ 2 ^ (7 * j) := Nat.one_le_two_pow
            have hstep : rdMore (f + 1) (j + 1) x (r.drop (j + 1 - 1)) = if (4611686018427387903 - x) / 2 ^ (7 * j) < y.toNat % 128 then (0, 0, 21) else
                if y.toNat < 128 then (x + y.toNat % 128 * 2 ^ (7 * j), j + 1 + 1, 0) else rdMore f (j + 1 + 1) (x + y.toNat % 128 * 2 ^ (7 * j)) (r.drop (j + 1)) := by
              rw [Nat.add_sub_cancel, E3.out]; rfl
            have HM2 := Lib.hid (HM.out.trans hstep)
            clear hstep HM
            by_cases hj9 : j = 9
            · subst hj9
              have hz : (4611686018427387903 - x) / 2 ^ (7 * 9) = 0 := Nat.div_eq_of_lt (by omega)
              rw [hz] at HM2
              clear hz hP hP1
              by_cases hd : 0 < y.toNat % 128
              · have hM := HM2.out
                rw [if_pos hd] at hM
                have HM3 := Lib.hid hM
                clear hM HM2
                go_wp2
                go_ret3
                rw [HM3.out]
                exact ⟨rfl, 0, rfl⟩
              · have h0 : y.toNat % 128 = 0 := by omega
                have hM := HM2.out
                rw [if_neg hd, h0, Nat.zero_mul, Nat.add_zero] at hM
                have HM3 := Lib.hid hM
                clear hM HM2
                rw [h0] at h127
                by_cases hy2 : y.toNat < 128
                · rw [decide_eq_true hy2] at h128
                  have hM := HM3.out
                  rw [if_pos hy2] at hM
                  have HM4 := Lib.hid hM
                  clear hM HM3
                  go_wp2
                  go_ret3
                  rw [HM4.out]
                  exact ⟨rfl, 0, rfl⟩
                · rw [decide_eq_false hy2] at h128
                  have hM := HM3.out
                  rw [if_neg hy2] at hM
                  have HM4 := Lib.hid hM
                  clear hM HM3
                  go_wp2
                  go_round
                  case rel => exact ⟨x, 9 + 1 + 1, f, by go_num, by go_num, by omega, by omega, by omega, HM4.out⟩
                  case measure => simp [intOf]
            · have hj8 : j ≤ 8 := by omega
              generalize 2 ^ (7 * j) = P at *
              have hq : (4611686018427387903 - (x : Int)) / (P : Int) = (((4611686018427387903 - x) / P : Nat) : Int) := by
                rw [show (4611686018427387903 - (x : Int)) = ((4611686018427387903 - x : Nat) : Int) from by omega]; exact (Int.natCast_ediv _ _).symm
              by_cases hd : (4611686018427387903 - x) / P < y.toNat % 128
              · have hM := HM2.out
                rw [if_pos hd] at hM
                have HM3 := Lib.hid hM
                clear hM HM2
                generalize (4611686018427387903 - x) / P = q at *
                have hd' : (q : Int) < (y.toNat : Int) % 128 := by omega
                go_wp2
                go_ret3
                rw [HM3.out]
                exact ⟨rfl, 0, rfl⟩
              · have hM := HM2.out
                rw [if_neg hd] at hM
                have HM3 := Lib.hid hM
                clear hM HM2
                have hs : y.toNat % 128 * P ≤ 4611686018427387903 - x := Nat.le_trans (Nat.mul_le_mul_right _ (Nat.le_of_not_lt hd)) (Nat.div_mul_le_self _ _)
                have hsw : IntKind.u64.wrap ((y.toNat : Int) % 128 * (P : Int)) = ((y.toNat % 128 * P : Nat) : Int) := by
                  rw [show ((y.toNat : Int) % 128 * (P : Int)) = ((y.toNat % 128 * P : Nat) : Int) from by push_cast; rfl]
                  exact IntWalk.u64_in _ (by omega)
                generalize (4611686018427387903 - x) / P = q at *
                generalize y.toNat % 128 * P = s at *
                have hd' : ¬ (q : Int) < (y.toNat : Int) % 128 := by omega
                by_cases hy2 : y.toNat < 128
                · rw [decide_eq_true hy2] at h128
                  have hM := HM3.out
                  rw [if_pos hy2] at hM
                  have HM4 := Lib.hid hM
                  clear hM HM3
                  go_wp2
                  go_ret3
                  rw [HM4.out]
                  exact ⟨rfl, 0, rfl⟩
                · rw [decide_eq_false hy2] at h128
                  have hM := HM3.out
                  rw [if_neg hy2] at hM
                  have HM4 := Lib.hid hM
                  clear hM HM3
                  go_wp2
                  go_round
                  all_goals first
                    | exact ⟨_, _, _, _, _, ⟨x + s, rfl, j + 1 + 1, rfl, f, by omega, by omega, by omega, HM4.out⟩, rfl, rfl, rfl, congrArg (Value.int .u64) (by omega), congrArg (Value.int .i64) (by omega)⟩
                    | (simp [intOf]; omega)
end Go.Proofs.Ytdgggjeiflllhaa.M
namespace Go.Proofs.Ytdgggjeiflllhaa.M
open Go.ChangeShapes Go.WideShapes Go.ChangeAt Go.RowKit
theorem u8size : (Try.prog.info? 5).map (·.size) = some 1 := by kernel_rfl
theorem run_cut {o : Oper} {a : Act} {w : World} {x lo hi : Operand} {A : Option Addr} {n c i j : Nat} {u v : Int} (ho : o.op = .slice 23 x (some lo) (some hi) none) (hx : a.eval x = .slice A n c)
    (hlo : a.eval lo = .int .i64 u) (hhi : a.eval hi = .int .i64 v) (hu : u = (i : Int)) (hv : v = (j : Int)) (hij : i ≤ j) (hj : j ≤ c) :
    (execOp a.eval o).run Try.prog w = .ok (.value (.slice (if c = i then A else A.map (·.add i)) (j - i) (c - i))) w := by
  subst hu
  subst hv
  cases hi : Try.prog.info? 5 with
  | none => have := u8size; rw [hi] at this; cases this
  | some q =>
    have hs := u8size
    rw [hi] at hs
    have hs' : q.size = 1 := by simpa using hs
    unfold execOp
    have h3 : (0 : Int) ≤ (i : Int) := by omega
    have h4 : (0 : Int) ≤ (j : Int) := by omega
    simp only [ho, Option.map_some, Option.map_none, hlo, hhi, hx]
    simp [Instr.sliceAt, Instr.slice, Instr.sliceBounds, Instr.sliceBound, run_underlying Try.underlying23, sizeOf, typeInfo, hi, hs', asIntOf, h3, h4, hij, hj]
theorem run_from {o : Oper} {a : Act} {w : World} {x lo : Operand} {A : Option Addr} {n c i : Nat} {u : Int} (ho : o.op = .slice 23 x (some lo) none none) (hx : a.eval x = .slice A n c)
    (hlo : a.eval lo = .int .i64 u) (hu : u = (i : Int)) (hin : i ≤ n) :
    (execOp a.eval o).run Try.prog w = .ok (.value (.slice (if c = i then A else A.map (·.add i)) (n - i) (c - i))) w := by
  subst hu
  cases hi : Try.prog.info? 5 with
  | none => have := u8size; rw [hi] at this; cases this
  | some q =>
    have hs := u8size
    rw [hi] at hs
    have hs' : q.size = 1 := by simpa using hs
    unfold execOp
    have h3 : (0 : Int) ≤ (i : Int) := by omega
    simp only [ho, Option.map_some, Option.map_none, hlo, hx]
    simp [Instr.sliceAt, Instr.slice, Instr.sliceBounds, Instr.sliceBound, run_underlying Try.underlying23, sizeOf, typeInfo, hi, hs', asIntOf, h3, hin]
theorem Rd.sub {w : World} {A : Option Addr} {b : Bytes} (h : Rd w A (bvs b)) {c : Nat} (hc : b.length ≤ c) (i n : Nat) :
    ∃ A2, (if c = i then A else A.map (·.add i)) = A2 ∧ Rd w A2 (bvs ((b.drop i).take n)) := by
  refine ⟨_, rfl, ?_⟩
  have h1 := (h.cut i c (fun e => by rw [bvs_length]; omega)).take n
  simpa [bvs, List.map_drop, List.map_take] using h1
theorem Rd.from_ {w : World} {A : Option Addr} {b : Bytes} (h : Rd w A (bvs b)) {c : Nat} (hc : b.length ≤ c) (i : Nat) :
    ∃ A2, (if c = i then A else A.map (·.add i)) = A2 ∧ Rd w A2 (bvs (b.drop i)) := by
  refine ⟨_, rfl, ?_⟩
  have h1 := h.cut i c (fun e => by rw [bvs_length]; omega)
  simpa [bvs, List.map_drop] using h1
def RetS (w : World) (x : Bytes × Nat × Nat) (e : Ending) (w' : World) : Prop :=
  e = .returned (.tuple #[str x.1, .int .i64 (x.2.1 : Int), .int .i64 (x.2.2 : Int)]) ∧ Frm (New w) w w'
end Go.Proofs.Ytdgggjeiflllhaa.M

