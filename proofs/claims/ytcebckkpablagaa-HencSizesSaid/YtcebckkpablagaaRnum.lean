/- The reference's Prefix: what it appends, for any slice of bytes that may be appended to (shorter than 2^46), any prefix of 1 to 8 bits, any number. -/
import Derived.Test.YtcebckkpablagaaNum
import Derived.IntWalk
namespace Go.Proofs.Ytcebckkpablagaa.M
open Go.ChangeShapes Go.WideShapes Go.ChangeAt Go.RowKit

/-- a call that hands back a slice of the bytes l, and writes to blocks of M alone -/
def RetA (M : Nat → Prop) (w : World) (l : List UInt8) (e : Ending) (w' : World) : Prop :=
  ∃ A c, e = .returned (.slice A l.length c) ∧ App M w' 5 1 A l.length c (bvs l) ∧ Frm M w w'

theorem and_127u (x : Nat) (hx : x < 18446744073709551616) : bits .and .u64 (x : Int) 127 = ((x % 128 : Nat) : Int) := by
  have h := bits_mask .u64 64 (by decide) (fun n h0 h1 => IntWalk.u64_in n (by omega)) 7 (by decide) (x : Int) (by omega) (by omega)
  rw [show ((2 : Int) ^ 7 - 1) = 127 from rfl] at h
  rw [h, show ((2 : Int) ^ 7) = 128 from rfl]; omega
theorem or_128b (x : Nat) (hx : x < 128) : bits .or .u8 (x : Int) 128 = ((x + 128 : Nat) : Int) := by
  have key : ∀ x : Fin 128, bits .or .u8 (x.val : Int) 128 = ((x.val + 128 : Nat) : Int) := by decide +kernel
  exact key ⟨x, hx⟩

set_option maxRecDepth 100000 in
set_option maxHeartbeats 1000000 in
theorem rprefix_small (M : Nat → Prop) (l : List UInt8) (A : Option Addr) (c : Nat) (f k v : Nat) (w : World) (hu : Up M w) (hA : App M w 5 1 A l.length c (bvs l)) (hl : l.length ≤ 70368744177664)
    (f1 : f ≤ 255) (k0 : 1 ≤ k) (k1 : k ≤ 8) (hv : v < 2 ^ k - 1) :
    Calls Try.prog 39 #[.slice A l.length c, .int .u8 f, .int .i64 k, .int .u64 v] w fun e w' => ∃ A' c', e = .returned (.slice A' (l.length + 1) c') ∧
      App M w' 5 1 A' (l.length + 1) c' (bvs l ++ [.int .u8 ((f / 2 ^ k * 2 ^ k : Nat) + v : Int)]) ∧ Frm M w w' := by
  obtain ⟨p2, p256⟩ := pow_bd k k0 k1
  have hAN := and_not f (2 ^ k) k rfl (by omega) k1
  have hO1 := or_low f v k (by omega) (by omega) k1
  have hh := head_le f k v f1 k1 (by omega)
  have hpw : (2 : Int) ^ k = ((2 ^ k : Nat) : Int) := by simp
  generalize 2 ^ k = p at *
  generalize f / p * p = h0 at *
  have hAN' : bits .andNot .u8 (f : Int) ((p : Int) - 1) = (h0 : Int) := by rw [← hAN]; congr 1; omega
  clear hAN
  have hkb : (1 : Int) ≤ k := by omega
  have hkb2 : (k : Int) ≤ 8 := by omega
  have hv' : (v : Int) < (p : Int) - 1 := by omega
  go_enter Try.func39, Try.ntmps39
  go_wp2_with (at_builtin; refine wpList_append_lit u8s rfl rfl rfl hA hu rfl rfl (one_cell _ rfl) (by omega) ?_; intro A2 c2 w2 hA2 hF2 _ _; clear hA)
  go_ret
  exact ⟨A2, c2, rfl, hA2, hF2⟩

/-- the loop of Prefix: x is still to be written, done has been -/
def RpLoop (M : Nat → Prop) (w0 : World) (l : List UInt8) (hd : Value) (x0 : Nat) (v o : Value) (w : World) : Prop :=
  ∃ (x : Nat) (A : Option Addr) (c : Nat) (done : List UInt8) (fu : Nat), v = .int .u64 x ∧ o = .slice A (l.length + 1 + done.length) c ∧ x < 18446744073709551616 ∧ x < 128 ^ (fu + 1) ∧
    App M w 5 1 A (l.length + 1 + done.length) c (bvs l ++ [hd] ++ bvs done) ∧ Frm M w0 w ∧ more 10 x0 = done ++ more fu x

set_option maxRecDepth 100000 in
set_option maxHeartbeats 1000000 in
theorem rprefix_great (M : Nat → Prop) (l : List UInt8) (A : Option Addr) (c : Nat) (f k v : Nat) (w : World) (hu : Up M w) (hA : App M w 5 1 A l.length c (bvs l)) (hl : l.length ≤ 70368744177664)
    (f1 : f ≤ 255) (k0 : 1 ≤ k) (k1 : k ≤ 8) (hv : 2 ^ k - 1 ≤ v) (v1 : v < 18446744073709551616) :
    Calls Try.prog 39 #[.slice A l.length c, .int .u8 f, .int .i64 k, .int .u64 v] w fun e w' => ∃ A' c', e = .returned (.slice A' (l.length + 1 + (more 10 (v - (2 ^ k - 1))).length) c') ∧
      App M w' 5 1 A' (l.length + 1 + (more 10 (v - (2 ^ k - 1))).length) c' (bvs l ++ [.int .u8 ((f / 2 ^ k * 2 ^ k : Nat) + ((2 ^ k : Nat) - 1) : Int)] ++ bvs (more 10 (v - (2 ^ k - 1)))) ∧ Frm M w w' := by
  obtain ⟨p2, p256⟩ := pow_bd k k0 k1
  have hAN := and_not f (2 ^ k) k rfl (by omega) k1
  have hO1 := or_low f (2 ^ k - 1) k (by omega) (by omega) k1
  have hh := head_le f k (2 ^ k - 1) f1 k1 (by omega)
  have hpw : (2 : Int) ^ k = ((2 ^ k : Nat) : Int) := by simp
  generalize 2 ^ k = p at *
  generalize f / p * p = h0 at *
  have hAN' : bits .andNot .u8 (f : Int) ((p : Int) - 1) = (h0 : Int) := by rw [← hAN]; congr 1; omega
  have hO2 : bits .or .u8 (h0 : Int) ((p : Int) - 1) = (h0 : Int) + ((p : Int) - 1) := by
    rw [show ((p : Int) - 1) = ((p - 1 : Nat) : Int) from by omega, hO1]; omega
  clear hAN hO1
  have hkb : (1 : Int) ≤ k := by omega
  have hkb2 : (k : Int) ≤ 8 := by omega
  have hnv : ¬ ((v : Int) < (p : Int) - 1) := by omega
  go_enter Try.func39, Try.ntmps39
  go_wp2_with (at_builtin; refine wpList_append_lit u8s rfl rfl rfl hA hu rfl rfl (one_cell _ rfl) (by omega) ?_; intro A2 c2 w2 hA2 hF2 _ _; clear hA)
  have HF := Lib.hid hF2
  clear hF2 hAN' hO2 hpw
  generalize hx0 : v - (p - 1) = x0
  have hx0' : ((v : Int) - ((p : Int) - 1)) = (x0 : Int) := by omega
  simp only [hx0']
  have hfu : x0 < 128 ^ 11 := by have : (128 : Nat) ^ 11 = 151115727451828646838272 := by decide
                                 omega
  have hxx : x0 < 18446744073709551616 := by omega
  have HX0 : Hid (v - (p - 1) = x0) := hx0
  clear hx0' hx0 hnv
  clear hv hh hkb hkb2 p2 p256 k0 k1 f1
  go_loopw [0, 3] (fun o x wr => RpLoop M w l (.int .u8 ((h0 : Int) + ((p : Int) - 1))) x0 x o wr) (fun _ x _ => (intOf x).toNat)
  case atStart => exact ⟨x0, A2, c2, [], 10, rfl, by simp, hxx, by simpa using hfu, by simpa using hA2, HF.out, by simp⟩
  case round =>
    obtain ⟨x, A3, c3, done, fu, rfl, rfl, hx1, hx2, hA3, hF3, hmore⟩ := hrel
    clear hA2 HF
    by_cases hlt : 128 ≤ x
    · obtain ⟨fu, rfl⟩ : ∃ g, fu = g + 1 := by
        cases fu with
        | zero => simp at hx2; omega
        | succ g => exact ⟨g, rfl⟩
      have hm : more (fu + 1) x = UInt8.ofNat (x % 128 + 128) :: more fu (x / 128) := by rw [more, if_neg (by omega)]
      have hdl : done.length ≤ 11 := by
        have h1 := more_length 10 x0
        rw [hmore] at h1; simp at h1; omega
      have hand := and_127u x hx1
      have hy : x % 128 < 128 := by omega
      have hor := or_128b (x % 128) hy
      have hbv := bv_of ((x % 128 + 128 : Nat) : Int) (by omega) (by omega)
      have HM : Hid (more 10 x0 = (done ++ [UInt8.ofNat (x % 128 + 128)]) ++ more fu (x / 128)) := by
        show _ = _
        rw [hmore, hm]; simp
      have HB : Hid (Value.int .u8 ((x % 128 + 128 : Nat) : Int) = bv (UInt8.ofNat (x % 128 + 128))) := by
        show _ = _
        rw [hbv, Int.toNat_natCast]
      have HX : Hid (x < 128 ^ (fu + 1 + 1)) := hx2
      clear hm hmore hbv hx2
      generalize hyy : x % 128 = y at *
      have HY := Lib.hid hyy
      clear hyy
      go_wp2_with (at_builtin; refine wpList_append_lit u8s rfl rfl rfl hA3 (hu.of hF3.size) rfl rfl (one_cell _ rfl) (by omega) ?_; intro A4 c4 w4 hA4 hF4 _ _; clear hA3)
      go_roundw
      case rel =>
        refine ⟨x / 128, A4, c4, done ++ [UInt8.ofNat (y + 128)], fu, by go_num, by simp [Nat.add_assoc], by omega, ?_, ?_, hF3.trans hF4, HM.out⟩
        · have hx2 := HX.out
          exact Nat.div_lt_of_lt_mul (by rw [Nat.pow_succ, Nat.mul_comm] at hx2; exact hx2)
        · rw [bvs_append, ← List.append_assoc, List.length_append, ← Nat.add_assoc]
          have : bvs [UInt8.ofNat (y + 128)] = [Value.int .u8 ((y + 128 : Nat) : Int)] := by rw [HB.out]; rfl
          rw [this]
          simpa using hA4
      case measure => simp [intOf]; omega
    · have hm : more fu x = [UInt8.ofNat x] := by
        cases fu with
        | zero => rfl
        | succ g => rw [more, if_pos (by omega)]
      have hdl : done.length ≤ 11 := by
        have h1 := more_length 10 x0
        rw [hmore] at h1; simp at h1; omega
      have HM : Hid (more 10 x0 = (done ++ [UInt8.ofNat x])) := by
        show _ = _
        rw [hmore, hm]
      have HB : Hid (Value.int .u8 (x : Int) = bv (UInt8.ofNat x)) := by
        show _ = _
        rw [bv_of (x : Int) (by omega) (by omega), Int.toNat_natCast]
      clear hm hmore hx2
      go_wp2_with (at_builtin; refine wpList_append_lit u8s rfl rfl rfl hA3 (hu.of hF3.size) rfl rfl (one_cell _ rfl) (by omega) ?_; intro A4 c4 w4 hA4 hF4 _ _; clear hA3)
      go_ret
      rw [HX0.out, HM.out]
      refine ⟨A4, c4, ?_, ?_, hF3.trans hF4⟩
      · show Ending.returned (.slice A4 (l.length + 1 + done.length + 1) c4) = _
        simp [Nat.add_assoc]
      · rw [bvs_append, List.length_append, ← Nat.add_assoc]
        have : bvs [UInt8.ofNat x] = [Value.int .u8 (x : Int)] := by rw [HB.out]; rfl
        rw [this]
        simpa using hA4

theorem rprefix_any (M : Nat → Prop) (l : List UInt8) (A : Option Addr) (c : Nat) (f k v : Int) (w : World) (hu : Up M w) (hA : App M w 5 1 A l.length c (bvs l)) (hl : l.length ≤ 70368744177664)
    (f0 : 0 ≤ f) (f1 : f ≤ 255) (k0 : 1 ≤ k) (k1 : k ≤ 8) (v0 : 0 ≤ v) (v1 : v ≤ 18446744073709551615) :
    Calls Try.prog 39 #[.slice A l.length c, .int .u8 f, .int .i64 k, .int .u64 v] w (RetA M w (l ++ pfx f.toNat k.toNat v.toNat)) := by
  obtain ⟨f, rfl⟩ := Int.eq_ofNat_of_zero_le f0
  obtain ⟨k, rfl⟩ := Int.eq_ofNat_of_zero_le (a := k) (by omega)
  obtain ⟨v, rfl⟩ := Int.eq_ofNat_of_zero_le v0
  simp only [Int.toNat_natCast]
  have hp := pow_bd k (by omega) (by omega)
  by_cases hv : v < 2 ^ k - 1
  · have hh := head_le f k v (by omega) (by omega) (by omega)
    refine (rprefix_small M l A c f k v w hu hA hl (by omega) (by omega) (by omega) hv).mono ?_
    rintro e w' ⟨A', c', rfl, hA, hF⟩
    have e1 : pfx f k v = [UInt8.ofNat (f / 2 ^ k * 2 ^ k + v)] := by rw [pfx, if_pos hv]
    have e2 := bv_of ((f / 2 ^ k * 2 ^ k : Nat) + v : Int) (by omega) (by omega)
    rw [show ((f / 2 ^ k * 2 ^ k : Nat) + v : Int) = ((f / 2 ^ k * 2 ^ k + v : Nat) : Int) from by omega, Int.toNat_natCast] at e2
    refine ⟨A', c', by rw [e1]; simp, ?_, hF⟩
    rw [e1, bvs_append, List.length_append]
    have : bvs [UInt8.ofNat (f / 2 ^ k * 2 ^ k + v)] = [Value.int .u8 ((f / 2 ^ k * 2 ^ k : Nat) + v : Int)] := by
      rw [show ((f / 2 ^ k * 2 ^ k : Nat) + v : Int) = ((f / 2 ^ k * 2 ^ k + v : Nat) : Int) from by omega, e2]; rfl
    rw [this]
    exact hA
  · have hh := head_le f k (2 ^ k - 1) (by omega) (by omega) (by omega)
    refine (rprefix_great M l A c f k v w hu hA hl (by omega) (by omega) (by omega) (by omega) (by omega)).mono ?_
    rintro e w' ⟨A', c', rfl, hA, hF⟩
    have e1 : pfx f k v = [UInt8.ofNat (f / 2 ^ k * 2 ^ k + (2 ^ k - 1))] ++ more 10 (v - (2 ^ k - 1)) := by rw [pfx, if_neg hv]; rfl
    have e2 := bv_of ((f / 2 ^ k * 2 ^ k + (2 ^ k - 1) : Nat) : Int) (by omega) (by omega)
    rw [Int.toNat_natCast] at e2
    have e3 : bvs [UInt8.ofNat (f / 2 ^ k * 2 ^ k + (2 ^ k - 1))] = [Value.int .u8 ((f / 2 ^ k * 2 ^ k : Nat) + ((2 ^ k : Nat) - 1) : Int)] := by
      rw [show ((f / 2 ^ k * 2 ^ k : Nat) + ((2 ^ k : Nat) - 1) : Int) = ((f / 2 ^ k * 2 ^ k + (2 ^ k - 1) : Nat) : Int) from by omega, e2]; rfl
    have e4 : (l ++ pfx f k v).length = l.length + 1 + (more 10 (v - (2 ^ k - 1))).length := by rw [e1]; simp; omega
    refine ⟨A', c', by rw [e4], ?_, hF⟩
    rw [e4, e1, bvs_append, bvs_append, e3, ← List.append_assoc]
    exact hA
end Go.Proofs.Ytcebckkpablagaa.M
