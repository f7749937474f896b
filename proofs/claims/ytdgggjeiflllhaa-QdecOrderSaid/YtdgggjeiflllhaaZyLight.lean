/- Light -/
import Derived.Test.YtdgggjeiflllhaaZyKey

namespace Go.Proofs.Ytdgggjeiflllhaa.M
open Go.ChangeShapes Go.WideShapes Go.ChangeAt Go.RowKit
def lsum (l : List Fld) : Nat := (l.map fun f => f.1.length + f.2.length).sum
theorem lsum_append (a b : List Fld) : lsum (a ++ b) = lsum a + lsum b := by simp [lsum]
theorem lsum_one (f : Fld) : lsum [f] = f.1.length + f.2.length := by simp [lsum]
theorem lsum_take (l : List Fld) (k : Nat) (h : k < l.length) : lsum (l.take (k + 1)) = lsum (l.take k) + (l[k].1.length + l[k].2.length) := by
  rw [List.take_succ_eq_append_getElem h, lsum_append, lsum_one]
theorem lsum_le (l : List Fld) (k : Nat) : lsum (l.take k) ≤ lsum l := by
  have h : lsum l = lsum (l.take k) + lsum (l.drop k) := by rw [← lsum_append, List.take_append_drop]
  omega
def light (l : List Fld) : Bool := decide (l.length ≤ 70 ∧ lsum l ≤ 3000)
set_option maxRecDepth 100000 in
set_option maxHeartbeats 1000000 in
theorem light_any (l : List Fld) (A : Option Addr) (c : Nat) (w : World) (hR : Rd w A (fvs l)) (hB : ∀ f ∈ l, f.1.length ≤ 1125899906842624 ∧ f.2.length ≤ 1125899906842624) (hl : l.length ≤ 4611686018427387903) :
    Calls Try.prog 13 #[.slice A l.length c] w fun e w' => e = .returned (.bool (light l)) ∧ Frm (New w) w w' := by
  have HR := Lib.hid hR
  have HB := Lib.hid hB
  clear hR hB
  by_cases h70 : 70 < l.length
  · have hr : Hid (light l = false) := by show _ = _; unfold light; rw [decide_eq_false]; omega
    go_enter Try.func13, Try.ntmps13
    go_wp2
    go_ret
    rw [hr.out]
    exact ⟨rfl, Frm.refl _ _⟩
  · go_enter Try.func13, Try.ntmps13
    go_wp2
    go_loopw [3, 4] (fun n i wr => ∃ k : Nat, k ≤ l.length ∧ i = .int .i64 k ∧ n = .int .i64 (lsum (l.take k) : Nat) ∧ lsum (l.take k) ≤ 3000 ∧ Hid (Frm (New w) w wr)) (fun _ i _ => l.length - (intOf i).toNat)
    case atStart => exact ⟨0, Nat.zero_le _, rfl, rfl, by simp [lsum], Frm.refl _ _⟩
    case round =>
      obtain ⟨k, hk, rfl, rfl, hs, hF⟩ := hrel
      by_cases hlt : k < l.length
      · have hRd := HR.out.fresh hF.out
        obtain ⟨g, off, rfl, hx⟩ := hRd.at_ (k := k * 2) (by rw [fvs_length]; omega)
        clear hx
        obtain ⟨hc1, hc2⟩ := fld_cells hRd k hlt
        have hg : g < wr.heap.size := World.block_lt_of_cell? _ _ hc1
        obtain ⟨hb1, hb2⟩ := HB.out _ (List.getElem_mem hlt)
        have hst := Lib.hid (lsum_take l k hlt)
        have hle := lsum_le l (k + 1)
        have hle2 : lsum (l.take k) + (l[k].1.length + l[k].2.length) ≤ lsum l := by rw [lsum_take l k hlt] at hle; exact hle
        clear hRd hle
        generalize lsum (l.take k) = z at *
        generalize l[k] = f at *
        obtain ⟨f1, f2⟩ := f
        have e1 := str_size f1
        have e2 := str_size f2
        simp only [str] at hc1 hc2
        have hw1 : IntKind.i64.wrap ((f1.length : Int) + (f2.length : Int)) = ((f1.length + f2.length : Nat) : Int) := by
          rw [show ((f1.length : Int) + (f2.length : Int)) = ((f1.length + f2.length : Nat) : Int) from by omega]
          exact IntWalk.i64_in _ (by simp only at hb1 hb2; omega)
        have hw2 : IntKind.i64.wrap ((z : Int) + ((f1.length + f2.length : Nat) : Int)) = ((z + (f1.length + f2.length) : Nat) : Int) := by
          rw [show ((z : Int) + ((f1.length + f2.length : Nat) : Int)) = ((z + (f1.length + f2.length) : Nat) : Int) from by omega]
          exact IntWalk.i64_in _ (by simp only at hb1 hb2; omega)
        generalize hq : f1.length + f2.length = q at *
        generalize hzq : z + q = zq at *
        go_wp2
        go_quiet (fail)
        by_cases h3 : 3000 < zq
        · have hr : Hid (light l = false) := by show _ = _; unfold light; rw [decide_eq_false]; omega
          go_wp2
          go_ret
          rw [hr.out]
          exact ⟨rfl, hF.out.drewN _⟩
        · go_wp2
          go_roundw
          case rel => exact ⟨k + 1, by omega, by go_num, by rw [hst.out], by rw [hst.out]; omega, hF.out.drewN _⟩
          case measure => simp [intOf]; omega
      · obtain rfl : k = l.length := by omega
        have hr : Hid (light l = true) := by
          show _ = _
          unfold light
          rw [List.take_length] at hs
          exact decide_eq_true ⟨by omega, hs⟩
        go_wp2
        go_ret
        rw [hr.out]
        exact ⟨rfl, hF.out⟩
end Go.Proofs.Ytdgggjeiflllhaa.M

