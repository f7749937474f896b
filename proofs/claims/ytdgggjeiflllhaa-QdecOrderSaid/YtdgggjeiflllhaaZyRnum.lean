/- Rnum -/
import Derived.Test.YtdgggjeiflllhaaZyMem
import Derived.IntWalk
import Derived.Test.YtdgggjeiflllhaaZyRhuf
import Derived.Test.YtdgggjeiflllhaaZyHufa
import Derived.Deep.RegionLaw

namespace Go.Proofs.Ytdgggjeiflllhaa.M
open Go.ChangeShapes Go.WideShapes Go.ChangeAt Go.RowKit
def RetA (M : Nat → Prop) (w : World) (l : List UInt8) (e : Ending) (w' : World) : Prop :=
  ∃ A c, e = .returned (.slice A l.length c) ∧ App M w' 5 1 A l.length c (bvs l) ∧ Frm M w w'
theorem and_127u (x : Nat) (hx : x < 18446744073709551616) : bits .and .u64 (x : Int) 127 = ((x % 128 : Nat) : Int) := by
  have h := bits_mask .u64 64 (by decide) (fun n h0 h1 => IntWalk.u64_in n (by omega)) 7 (by decide) (x : Int) (by omega) (by omega)
  rw [show ((2 : Int) ^ 7 - 1) = 127 from rfl] at h
  rw [h, show ((2 : Int) ^ 7) = 128 from rfl]; omega
theorem or_128b (x : Nat) (hx : x < 128) : bits .or .u8 (x : Int) 128 = ((x + 128 : Nat) : Int) := by
  have key : ∀ x : Fin 128, bits .or .u8 (x.val : Int) 128 = ((x.val + 128 : Nat) : Int) := by decide +kernel
  exact key ⟨x, hx⟩
set_option maxRecDepth 100000 in
set_option maxHeartbeats 1000000 in
theorem rprefix_small (M : Nat → Prop) (l : List UInt8) (A : Option Addr) (c : Nat) (f k v : Nat) (w : World) (hu : Up M w) (hA : App M w 5 1 A l.length c (bvs l)) (hl : l.length ≤ 70368744177664)
    (f1 : f ≤ 255) (k0 : 1 ≤ k) (k1 : k ≤ 8) (hv : v < 2 ^ k - 1) :
    Calls Try.prog 35 #[.slice A l.length c, .int .u8 f, .int .i64 k, .int .u64 v] w fun e w' => ∃ A' c', e = .returned (.slice A' (l.length + 1) c') ∧
      App M w' 5 1 A' (l.length + 1) c' (bvs l ++ [.int .u8 ((f / 2 ^ k * 2 ^ k : Nat) + v : Int)]) ∧ Frm M w w' := by
  obtain ⟨p2, p256⟩ := pow_bd k k0 k1
  have hAN := and_not f (2 ^ k) k rfl (by omega) k1
  have hO1 := or_low f v k (by omega) (by omega) k1
  have hh := head_le f k v f1 k1 (by omega)
  have hpw : (2 : Int) ^ k = ((2 ^ k : Nat) : Int) := by simp
  generalize 2 ^ k = p at *
  generalize f / p * p = h0 at *
  have hAN' : bits .andNot .u8 (f : Int) ((p : Int) - 1) = (h0 : Int) := by rw [← hAN]; congr 1; omega
  clear hAN
  have hkb : (1 : Int) ≤ k := by omega
  have hkb2 : (k : Int) ≤ 8 := by omega
  have hv' : (v : Int) < (p : Int) - 1 := by omega
  go_enter Try.func35, Try.ntmps35
  go_wp2_with (at_builtin; refine wpList_append_lit u8s rfl rfl rfl hA hu rfl rfl (one_cell _ rfl) (by omega) ?_; intro A2 c2 w2 hA2 hF2 _ _; clear hA)
  go_ret
  exact ⟨A2, c2, rfl, hA2, hF2⟩
def RpLoop (M : Nat → Prop) (w0 : World) (l : List UInt8) (hd : Value) (x0 : Nat) (v o : Value) (w : World) : Prop :=
  ∃ (x : Nat) (A : Option Addr) (c : Nat) (done : List UInt8) (fu : Nat), v = .int .u64 x ∧ o = .slice A (l.length + 1 + done.length) c ∧ x < 18446744073709551616 ∧ x < 128 ^ (fu + 1) ∧
    App M w 5 1 A (l.length + 1 + done.length) c (bvs l ++ [hd] ++ bvs done) ∧ Frm M w0 w ∧ more 10 x0 = done ++ more fu x
set_option maxRecDepth 100000 in
set_option maxHeartbeats 1000000 in
theorem rprefix_great (M : Nat → Prop) (l : List UInt8) (A : Option Addr) (c : Nat) (f k v : Nat) (w : World) (hu : Up M w) (hA : App M w 5 1 A l.length c (bvs l)) (hl : l.length ≤ 70368744177664)
    (f1 : f ≤ 255) (k0 : 1 ≤ k) (k1 : k ≤ 8) (hv : 2 ^ k - 1 ≤ v) (v1 : v < 18446744073709551616) :
    Calls Try.prog 35 #[.slice A l.length c, .int .u8 f, .int .i64 k, .int .u64 v] w fun e w' => ∃ A' c', e = .returned (.slice A' (l.length + 1 + (more 10 (v - (2 ^ k - 1))).length) c') ∧
      App M w' 5 1 A' (l.length + 1 + (more 10 (v - (2 ^ k - 1))).length) c' (bvs l ++ [.int .u8 ((f / 2 ^ k * 2 ^ k : Nat) + ((2 ^ k : Nat) - 1) : Int)] ++ bvs (more 10 (v - (2 ^ k - 1)))) ∧ Frm M w w' := by
  obtain ⟨p2, p256⟩ := pow_bd k k0 k1
  have hAN := and_not f (2 ^ k) k rfl (by omega) k1
  have hO1 := or_low f (2 ^ k - 1) k (by omega) (by omega) k1
  have hh := head_le f k (2 ^ k - 1) f1 k1 (by omega)
  have hpw : (2 : Int) ^ k = ((2 ^ k : Nat) : Int) := by simp
  generalize 2 ^ k = p at *
  generalize f / p * p = h0 at *
  have hAN' : bits .andNot .u8 (f : Int) ((p : Int) - 1) = (h0 : Int) := by rw [← hAN]; congr 1; omega
  have hO2 : bits .or .u8 (h0 : Int) ((p : Int) - 1) = (h0 : Int) + ((p : Int) - 1) := by
    rw [show ((p : Int) - 1) = ((p - 1 : Nat) : Int) from by omega, hO1]; omega
  clear hAN hO1
  have hkb : (1 : Int) ≤ k := by omega
  have hkb2 : (k : Int) ≤ 8 := by omega
  have hnv : ¬ ((v : Int) < (p : Int) - 1) := by omega
  go_enter Try.func35, Try.ntmps35
  go_wp2_with (at_builtin; refine wpList_append_lit u8s rfl rfl rfl hA hu rfl rfl (one_cell _ rfl) (by omega) ?_; intro A2 c2 w2 hA2 hF2 _ _; clear hA)
  have HF := Lib.hid hF2
  clear hF2 hAN' hO2 hpw
  generalize hx0 : v - (p - 1) = x0
  have hx0' : ((v : Int) - ((p : Int) - 1)) = (x0 : Int) := by omega
  simp only [hx0']
  have hfu : x0 < 128 ^ 11 := by have : (128 : Nat) ^ 11 = 151115727451828646838272 := by decide
                                 omega
  have hxx : x0 < 18446744073709551616 := by omega
  have HX0 : Hid (v - (p - 1) = x0) := hx0
  clear hx0' hx0 hnv
  clear hv hh hkb hkb2 p2 p256 k0 k1 f1
  go_loopw [0, 3] (fun o x wr => RpLoop M w l (.int .u8 ((h0 : Int) + ((p : Int) - 1))) x0 x o wr) (fun _ x _ => (intOf x).toNat)
  case atStart => exact ⟨x0, A2, c2, [], 10, rfl, by simp, hxx, by simpa using hfu, by simpa using hA2, HF.out, by simp⟩
  case round =>
    obtain ⟨x, A3, c3, done, fu, rfl, rfl, hx1, hx2, hA3, hF3, hmore⟩ := hrel
    clear hA2 HF
    by_cases hlt : 128 ≤ x
    · obtain ⟨fu, rfl⟩ : ∃ g, fu = g + 1 := by
        cases fu with
        | zero => simp at hx2; omega
        | succ g => exact ⟨g, rfl⟩
      have hm : more (fu + 1) x = UInt8.ofNat (x % 128 + 128) :: more fu (x / 128) := by rw [more, if_neg (by omega)]
      have hdl : done.length ≤ 11 := by
        have h1 := more_length 10 x0
        rw [hmore] at h1; simp at h1; omega
      have hand := and_127u x hx1
      have hy : x % 128 < 128 := by omega
      have hor := or_128b (x % 128) hy
      have hbv := bv_of ((x % 128 + 128 : Nat) : Int) (by omega) (by omega)
      have HM : Hid (more 10 x0 = (done ++ [UInt8.ofNat (x % 128 + 128)]) ++ more fu (x / 128)) := by
        show _ = _
        rw [hmore, hm]; simp
      have HB : Hid (Value.int .u8 ((x % 128 + 128 : Nat) : Int) = bv (UInt8.ofNat (x % 128 + 128))) := by
        show _ = _
        rw [hbv, Int.toNat_natCast]
      have HX : Hid (x < 128 ^ (fu + 1 + 1)) := hx2
      clear hm hmore hbv hx2
      generalize hyy : x % 128 = y at *
      have HY := Lib.hid hyy
      clear hyy
      go_wp2_with (at_builtin; refine wpList_append_lit u8s rfl rfl rfl hA3 (hu.of hF3.size) rfl rfl (one_cell _ rfl) (by omega) ?_; intro A4 c4 w4 hA4 hF4 _ _; clear hA3)
      go_roundw
      case rel =>
        refine ⟨x / 128, A4, c4, done ++ [UInt8.ofNat (y + 128)], fu, by go_num, by simp [Nat.add_assoc], by omega, ?_, ?_, hF3.trans hF4, HM.out⟩
        · have hx2 := HX.out
          exact Nat.div_lt_of_lt_mul (by rw [Nat.pow_succ, Nat.mul_comm] at hx2; exact hx2)
        · rw [bvs_append, ← List.append_assoc, List.length_append, ← Nat.add_assoc]
          have : bvs [UInt8.ofNat (y + 128)] = [Value.int .u8 ((y + 128 : Nat) : Int)] := by rw [HB.out]; rfl
          rw [this]
          simpa using hA4
      case measure => simp [intOf]; omega
    · have hm : more fu x = [UInt8.ofNat x] := by
        cases fu with
        | zero => rfl
        | succ g => rw [more, if_pos (by omega)]
      have hdl : done.length ≤ 11 := by
        have h1 := more_length 10 x0
        rw [hmore] at h1; simp at h1; omega
      have HM : Hid (more 10 x0 = (done ++ [UInt8.ofNat x])) := by
        show _ = _
        rw [hmore, hm]
      have HB : Hid (Value.int .u8 (x : Int) = bv (UInt8.ofNat x)) := by
        show _ = _
        rw [bv_of (x : Int) (by omega) (by omega), Int.toNat_natCast]
      clear hm hmore hx2
      go_wp2_with (at_builtin; refine wpList_append_lit u8s rfl rfl rfl hA3 (hu.of hF3.size) rfl rfl (one_cell _ rfl) (by omega) ?_; intro A4 c4 w4 hA4 hF4 _ _; clear hA3)
      go_ret
      rw [HX0.out, HM.out]
      refine ⟨A4, c4, ?_, ?_, hF3.trans hF4⟩
      · show Ending.returned (.slice A4 (l.length + 1 + done.length + 1) c4) = _
        simp [Nat.add_assoc]
      · rw [bvs_append, List.length_append, ← Nat.add_assoc]
        have : bvs [UInt8.ofNat x] = [Value.int .u8 (x : Int)] := by rw [HB.out]; rfl
        rw [this]
        simpa using hA4
theorem rprefix_any (M : Nat → Prop) (l : List UInt8) (A : Option Addr) (c : Nat) (f k v : Int) (w : World) (hu : Up M w) (hA : App M w 5 1 A l.length c (bvs l)) (hl : l.length ≤ 70368744177664)
    (f0 : 0 ≤ f) (f1 : f ≤ 255) (k0 : 1 ≤ k) (k1 : k ≤ 8) (v0 : 0 ≤ v) (v1 : v ≤ 18446744073709551615) :
    Calls Try.prog 35 #[.slice A l.length c, .int .u8 f, .int .i64 k, .int .u64 v] w (RetA M w (l ++ pfx f.toNat k.toNat v.toNat)) := by
  obtain ⟨f, rfl⟩ := Int.eq_ofNat_of_zero_le f0
  obtain ⟨k, rfl⟩ := Int.eq_ofNat_of_zero_le (a := k) (by omega)
  obtain ⟨v, rfl⟩ := Int.eq_ofNat_of_zero_le v0
  simp only [Int.toNat_natCast]
  have hp := pow_bd k (by omega) (by omega)
  by_cases hv : v < 2 ^ k - 1
  · have hh := head_le f k v (by omega) (by omega) (by omega)
    refine (rprefix_small M l A c f k v w hu hA hl (by omega) (by omega) (by omega) hv).mono ?_
    rintro e w' ⟨A', c', rfl, hA, hF⟩
    have e1 : pfx f k v = [UInt8.ofNat (f / 2 ^ k * 2 ^ k + v)] := by rw [pfx, if_pos hv]
    have e2 := bv_of ((f / 2 ^ k * 2 ^ k : Nat) + v : Int) (by omega) (by omega)
    rw [show ((f / 2 ^ k * 2 ^ k : Nat) + v : Int) = ((f / 2 ^ k * 2 ^ k + v : Nat) : Int) from by omega, Int.toNat_natCast] at e2
    refine ⟨A', c', by rw [e1]; simp, ?_, hF⟩
    rw [e1, bvs_append, List.length_append]
    have : bvs [UInt8.ofNat (f / 2 ^ k * 2 ^ k + v)] = [Value.int .u8 ((f / 2 ^ k * 2 ^ k : Nat) + v : Int)] := by
      rw [show ((f / 2 ^ k * 2 ^ k : Nat) + v : Int) = ((f / 2 ^ k * 2 ^ k + v : Nat) : Int) from by omega, e2]; rfl
    rw [this]
    exact hA
  · have hh := head_le f k (2 ^ k - 1) (by omega) (by omega) (by omega)
    refine (rprefix_great M l A c f k v w hu hA hl (by omega) (by omega) (by omega) (by omega) (by omega)).mono ?_
    rintro e w' ⟨A', c', rfl, hA, hF⟩
    have e1 : pfx f k v = [UInt8.ofNat (f / 2 ^ k * 2 ^ k + (2 ^ k - 1))] ++ more 10 (v - (2 ^ k - 1)) := by rw [pfx, if_neg hv]; rfl
    have e2 := bv_of ((f / 2 ^ k * 2 ^ k + (2 ^ k - 1) : Nat) : Int) (by omega) (by omega)
    rw [Int.toNat_natCast] at e2
    have e3 : bvs [UInt8.ofNat (f / 2 ^ k * 2 ^ k + (2 ^ k - 1))] = [Value.int .u8 ((f / 2 ^ k * 2 ^ k : Nat) + ((2 ^ k : Nat) - 1) : Int)] := by
      rw [show ((f / 2 ^ k * 2 ^ k : Nat) + ((2 ^ k : Nat) - 1) : Int) = ((f / 2 ^ k * 2 ^ k + (2 ^ k - 1) : Nat) : Int) from by omega, e2]; rfl
    have e4 : (l ++ pfx f k v).length = l.length + 1 + (more 10 (v - (2 ^ k - 1))).length := by rw [e1]; simp; omega
    refine ⟨A', c', by rw [e4], ?_, hF⟩
    rw [e4, e1, bvs_append, bvs_append, e3, ← List.append_assoc]
    exact hA
end Go.Proofs.Ytdgggjeiflllhaa.M
namespace Go.Proofs.Ytdgggjeiflllhaa.M
open Go.ChangeShapes Go.WideShapes Go.ChangeAt Go.RowKit
theorem codes_lens : ∀ i : Fin 257, (codes.getD i.val (0, 0)).2 = lens.getD i.val 0 := by decide +kernel
set_option maxRecDepth 100000 in
set_option maxHeartbeats 1000000 in
theorem rhufflen_any (s : ByteArray) (w : World) (hs : s.size ≤ 1099511627776) : Calls Try.prog 96 #[.string s] w fun e w' => e = .returned (.int .i64 (hlen s.data.toList : Nat)) ∧ Frm (New w) w w' := by
  go_enter Try.func96, Try.ntmps96
  go_wp2_with (go_at_call 128; refine (rcodes_any _).mono ?_; rintro e w2 ⟨g, rfl, hg, hb2, hF2⟩)
  have HF := Lib.hid hF2
  have HB := Lib.hid hb2
  clear hF2 hb2
  go_loop [4, 5] (fun n i => ∃ k : Nat, k ≤ s.size ∧ i = .int .i64 k ∧ n = .int .i64 (bitsIn (s.data.toList.take k) : Nat)) (fun _ i => s.size - (intOf i).toNat)
  case atStart => exact ⟨0, Nat.zero_le _, rfl, rfl⟩
  case round =>
    obtain ⟨k, hk, rfl, rfl⟩ := hrel
    have hle := bitsIn_le (s.data.toList.take k)
    have htl : (s.data.toList.take k).length ≤ k := List.length_take_le _ _
    by_cases hlt : k < s.size
    · have hb : s[k].toNat < 256 := s[k].toNat_lt
      have hcl := codes_lens ⟨s[k].toNat, by omega⟩
      simp only at hcl
      have hcell := (vP_get (k1 := .u32) (k2 := .i64) codes s[k].toNat (by rw [codes_length]; omega)).2
      rw [← HB.out.cell, hcl] at hcell
      have h30 := lens_le s[k].toNat
      have HS : Hid (bitsIn (s.data.toList.take (k + 1)) = bitsIn (s.data.toList.take k) + lens.getD s[k].toNat 0) := by
        show _ = _
        rw [take_snoc s k hlt, bitsIn_snoc]
      clear hcl
      generalize lens.getD s[k].toNat 0 = c at *
      go_wp2
      all_goals
        go_round
        case rel => exact ⟨k + 1, by omega, by go_num, by rw [HS.out]; go_num⟩
        case measure => simp [intOf]; omega
    · obtain rfl : k = s.size := by omega
      have hall : s.data.toList.take s.size = s.data.toList := List.take_of_length_le (by rw [Array.length_toList]; exact Nat.le_refl _)
      rw [hall] at hle ⊢
      have hln : s.data.toList.length = s.size := Array.length_toList
      rw [hln] at hle
      clear hln hall htl
      have HH : Hid (hlen s.data.toList = (bitsIn s.data.toList + 7) / 8) := by show _ = _; rfl
      generalize bitsIn s.data.toList = n at *
      go_wp2
      go_ret
      exact ⟨ret_int (by rw [HH.out]; show ((n : Int) + 7) / 8 = _; omega), HF.out⟩
structure RencAt (M : Nat → Prop) (w : World) (l : List UInt8) (s : ByteArray) (g k : Nat) (A : Option Addr) (c : Nat) (done : List UInt8) (a N : Nat) (wr : World) : Prop where
  few : N < 8
  fit : a < 2 ^ N
  app : App M wr 5 1 A (l.length + done.length) c (bvs l ++ bvs done)
  blk : Blk wr g 183 (vP .u32 .i64 codes)
  frm : Frm M w wr
  all : hcode s.data.toList = done ++ hgo (s.data.toList.drop k) a N
  short : done.length ≤ 5 * k
structure RemAt (M : Nat → Prop) (w : World) (l : List UInt8) (g : Nat) (A : Option Addr) (c : Nat) (done : List UInt8) (f acc n : Nat) (all : List UInt8) (n1 : Nat) (wr : World) : Prop where
  app : App M wr 5 1 A (l.length + done.length) c (bvs l ++ bvs done)
  blk : Blk wr g 183 (vP .u32 .i64 codes)
  frm : Frm M w wr
  all : all = done ++ emit f acc n
  fuel : n < 8 * (f + 1)
  left : n % 8 = n1 % 8
  le : n ≤ n1
theorem renc_next (s : ByteArray) (k cc m a N n : Nat) (done dn : List UInt8) (hk : k < s.size) (hp : codes.getD s[k].toNat (0, 0) = (cc, m))
    (hn : n < 8) (hleft : n % 8 = (N + m) % 8) (hall : hcode s.data.toList = done ++ hgo (s.data.toList.drop k) a N)
    (hdn : done ++ emit 5 (a * 2 ^ m + cc) (N + m) = dn) : hcode s.data.toList = dn ++ hgo (s.data.toList.drop (k + 1)) ((a * 2 ^ m + cc) % 2 ^ n) n := by
  have hk' : k < s.data.toList.length := by rw [Array.length_toList]; exact hk
  have e1 : s.data.toList.drop k = s[k] :: s.data.toList.drop (k + 1) := by
    rw [List.drop_eq_getElem_cons hk']; rfl
  have e2 : (N + m) % 8 = n := by omega
  rw [hall, e1, hgo]
  simp only [hp]
  rw [e2, ← hdn, List.append_assoc]
theorem and_mask (a n : Nat) (hn : n < 8) (ha : a < 18446744073709551616) : bits .and .u64 (a : Int) (IntKind.u64.wrap (IntKind.u64.wrap (2 ^ n) - 1)) = ((a % 2 ^ n : Nat) : Int) := by
  have hle : 2 ^ n ≤ 2 ^ 7 := Nat.pow_le_pow_right (by decide) (by omega)
  have hpos : 1 ≤ 2 ^ n := Nat.one_le_two_pow
  have e0 : ((2 : Int) ^ n) = ((2 ^ n : Nat) : Int) := by simp
  have e1 : IntKind.u64.wrap (IntKind.u64.wrap (2 ^ n) - 1) = (2 : Int) ^ n - 1 := by
    rw [e0, wraps64 ((2 ^ n : Nat) : Int) (by omega) (by omega), wraps64 _ (by omega) (by omega)]
  rw [e1, bits_mask .u64 64 (by decide) wraps64 n (by omega) (a : Int) (by omega) (by omega)]
  simp only [Int.natCast_emod, Int.natCast_pow]; rfl
theorem last_byte' (a N m8 : Nat) (h0 : 1 ≤ N) (h8 : N < 8) (ha : a < 2 ^ N) (hm : m8 = 8 - N) :
    Value.int .u8 (bits .or .u8 (IntKind.u8.wrap (IntKind.u64.wrap ((a : Int) * 2 ^ m8))) (IntKind.u8.wrap (IntKind.u8.wrap (2 ^ m8) - 1))) = bv (UInt8.ofNat (a * 2 ^ (8 - N) + (2 ^ (8 - N) - 1))) := by
  subst hm
  have hpos : 1 ≤ 2 ^ (8 - N) := Nat.one_le_two_pow
  have hle : 2 ^ (8 - N) ≤ 2 ^ 7 := Nat.pow_le_pow_right (by decide) (by omega)
  have e0 : ((2 : Int) ^ (8 - N)) = ((2 ^ (8 - N) : Nat) : Int) := by simp
  have hl := last_byte a N h0 h8
  rw [Nat.mod_eq_of_lt ha] at hl
  have e1 : IntKind.u8.wrap ((2 : Int) ^ (8 - N)) = (2 : Int) ^ (8 - N) := by rw [IntKind.wrap_u8, e0]; omega
  rw [IntKind.wrap_u8, e1, IntKind.wrap_u8 ((2 : Int) ^ (8 - N) - 1), hl]
  have hp : 2 ^ N * 2 ^ (8 - N) = 256 := by rw [← Nat.pow_add, show N + (8 - N) = 8 from by omega]
  have hm := Nat.mul_le_mul_right (2 ^ (8 - N)) ha
  rw [hp, Nat.succ_mul] at hm
  rw [bv_of _ (by omega) (by omega), Int.toNat_natCast]
theorem byte_of' (a n : Nat) : Value.int .u8 ((a : Int) / 2 ^ n % 256) = bv (UInt8.ofNat (a / 2 ^ n)) := by
  have e1 : ((a : Int) / 2 ^ n % 256) = ((a / 2 ^ n % 256 : Nat) : Int) := by
    simp only [Int.natCast_emod, Int.natCast_ediv, Int.natCast_pow]; rfl
  rw [e1]
  simp only [bv, UInt8.toNat_ofNat']
set_option maxRecDepth 100000 in
set_option maxHeartbeats 4000000 in
theorem huffman_any (M : Nat → Prop) (l : List UInt8) (A : Option Addr) (c : Nat) (s : ByteArray) (w : World) (hu : Up M w) (hA : App M w 5 1 A l.length c (bvs l)) (hl : l.length ≤ 1099511627776) (hs : s.size ≤ 1099511627776) :
    Calls Try.prog 97 #[.slice A l.length c, .string s] w (RetA M w (l ++ hcode s.data.toList)) := by
  have t2 := trivial
  go_enter Try.func97, Try.ntmps97
  go_wp2_with (go_at_call 128; refine (rcodes_any _).mono ?_; rintro e w2 ⟨g, rfl, hg, hb2, hF2⟩)
  have H := Lib.hid (show RencAt M w l s g 0 A c [] 0 0 w2 from ⟨by omega, by decide, by simpa using hA.fresh hF2, hb2, hF2.up hu, rfl, by simp⟩)
  clear hA hF2 hb2
  go_loopw [0, 6, 7, 8] (fun o a n i wr => ∃ (k : Nat) (A : Option Addr) (c : Nat) (done : List UInt8) (x N : Nat), k ≤ s.size ∧ i = .int .i64 k ∧ o = .slice A (l.length + done.length) c ∧ a = .int .u64 x ∧ n = .int .i64 N ∧ Hid (RencAt M w l s g k A c done x N wr)) (fun _ _ _ i _ => s.size - (intOf i).toNat)
  case atStart => exact ⟨0, A, c, [], 0, 0, by omega, rfl, by simp, rfl, rfl, H⟩
  case round =>
    obtain ⟨k, A, c, done, a, N, hk, rfl, rfl, rfl, rfl, hE⟩ := hrel
    clear H
    by_cases hlt : k < s.size
    · obtain ⟨hN, ha, hA, hB, hF, hall, hsh⟩ := hE.out
      have hb : s[k].toNat < 256 := s[k].toNat_lt
      have hg1 := (vP_get (k1 := .u32) (k2 := .i64) codes s[k].toNat (by rw [codes_length]; omega)).1
      have hg2 := (vP_get (k1 := .u32) (k2 := .i64) codes s[k].toNat (by rw [codes_length]; omega)).2
      rw [← hB.cell] at hg1 hg2
      obtain ⟨hc1, hc2, hc3, hc4⟩ := codes_fit ⟨s[k].toNat, by omega⟩
      simp only at hc1 hc2 hc3 hc4
      have HP : Hid (codes.getD s[k].toNat (0, 0) = ((codes.getD s[k].toNat (0, 0)).1, (codes.getD s[k].toNat (0, 0)).2)) := rfl
      generalize (codes.getD s[k].toNat (0, 0)).1 = cc at *
      generalize (codes.getD s[k].toNat (0, 0)).2 = m at *
      have hor := or_acc a m cc hc2 hc1
      have hbig : a * 2 ^ m + cc < 2 ^ (N + m) := by
        have h4 : (a + 1) * 2 ^ m ≤ 2 ^ N * 2 ^ m := Nat.mul_le_mul_right _ ha
        rw [← Nat.pow_add, Nat.add_mul] at h4
        omega
      have hp37 : 2 ^ (N + m) ≤ 2 ^ 37 := Nat.pow_le_pow_right (by decide) (by omega)
      rw [Nat.mod_eq_of_lt (a := a * 2 ^ m) (by omega)] at hor
      have ha7 : a < 128 := Nat.lt_of_lt_of_le ha (show 2 ^ N ≤ 2 ^ 7 from Nat.pow_le_pow_right (by decide) (by omega))
      have hN0 := renc_next s k cc m a N
      have hfit1 : a * 2 ^ m + cc < 137438953472 := by omega
      generalize a * 2 ^ m + cc = a1 at *
      have HC := Lib.hid hN0
      have HA := Lib.hid hA
      have HB := Lib.hid hB
      have HF := Lib.hid hF
      have HL := Lib.hid hall
      have HG := Lib.hid hbig
      clear hE hc1 hA hB hF hall hN0 hbig hp37 ha
      go_wp2
      go_quiet (fail)
      have hF2 : Frm M w ((wr.alloc (Obj.cells #[Value.int IntKind.u32 cc, Value.int IntKind.i64 m] 183)).drewN nq) := (HF.out.alloc hu _).drewN _
      have hA2 : App M ((wr.alloc (Obj.cells #[Value.int IntKind.u32 cc, Value.int IntKind.i64 m] 183)).drewN nq) 5 1 A (l.length + done.length) c (bvs l ++ bvs done) := (HA.out.alloc _).drewN _
      have hB2 : Blk ((wr.alloc (Obj.cells #[Value.int IntKind.u32 cc, Value.int IntKind.i64 m] 183)).drewN nq) g 183 (vP .u32 .i64 codes) := (HB.out.alloc _).drewN _
      generalize ((wr.alloc (Obj.cells #[Value.int IntKind.u32 cc, Value.int IntKind.i64 m] 183)).drewN nq) = wq at *
      have H2 := Lib.hid (show RemAt M w l g A c done 5 a1 (N + m) (done ++ emit 5 a1 (N + m)) (N + m) wq from ⟨hA2, hB2, hF2, rfl, by omega, rfl, Nat.le_refl _⟩)
      clear hg1 hg2 hor hF2 hA2 hB2 HA HB HF
      go_wp2
      have hN1 : N + m ≤ 37 := by omega
      go_loopw [0, 7] (fun o n wr => ∃ (A : Option Addr) (c : Nat) (dn : List UInt8) (f n' : Nat), o = .slice A (l.length + dn.length) c ∧ n = .int .i64 n' ∧ n' ≤ 37 ∧ dn.length + f = done.length + 5 ∧
        Hid (RemAt M w l g A c dn f a1 n' (done ++ emit 5 a1 (N + m)) (N + m) wr)) (fun _ n _ => (intOf n).toNat)
      case atStart => exact ⟨A, c, done, 5, N + m, rfl, by go_num, hN1, rfl, H2⟩
      case round =>
        obtain ⟨A3, c3, dn, f, n, rfl, rfl, hn37, hdn, hE⟩ := hrel
        clear H2
        obtain ⟨hA, hB, hF, hall, hfu, hleft, hle⟩ := hE.out
        by_cases h8 : 8 ≤ n
        · obtain ⟨f, rfl⟩ : ∃ j, f = j + 1 := ⟨f - 1, by omega⟩
          have HB := Lib.hid (byte_of' a1 (n - 8))
          have HAll : Hid (done ++ emit 5 a1 (N + m) = (dn ++ [UInt8.ofNat (a1 / 2 ^ (n - 8))]) ++ emit f a1 (n - 8)) := by
            show _ = _
            rw [hall, emit, if_neg (by omega)]; simp
          have HFU : Hid (n - 8 < 8 * (f + 1) ∧ (n - 8) % 8 = (N + m) % 8 ∧ n - 8 ≤ N + m) := ⟨by omega, by omega, by omega⟩
          have HBk := Lib.hid hB
          clear hE hall hfu hleft hle hB
          go_wp2_with (at_builtin; refine wpList_append_lit u8s rfl rfl rfl hA (hu.of hF.size) rfl rfl (one_cell _ rfl) (by omega) ?_; intro A4 c4 w5 hA4 hF4 _ hW4)
          go_roundw
          case rel =>
            have := HFU.out
            refine ⟨A4, c4, dn ++ [UInt8.ofNat (a1 / 2 ^ (n - 8))], f, n - 8, by simp [Nat.add_assoc], by go_num, by omega, ?_, ?_⟩
            · simp; omega
            · refine ⟨?_, ?_, hF.trans hF4, HAll.out, this.1, this.2.1, this.2.2⟩
              · rw [bvs_append, ← List.append_assoc, List.length_append, ← Nat.add_assoc]
                have e : bvs [UInt8.ofNat (a1 / 2 ^ (n - 8))] = [Value.int .u8 ((a1 : Int) / 2 ^ (n - 8) % 256)] := by rw [HB.out]; rfl
                rw [e]
                simpa using hA4
              · exact HBk.out.app hA (by decide) hW4
          case measure => simp [intOf]; omega
        · have HN := Lib.hid (HC.out n done dn hlt HP.out (by omega) hleft HL.out (by rw [hall, emit_done _ _ _ (by omega)]; simp))
          clear hE hall hfu hleft hle
          have hmask := and_mask a1 n (by omega) (by omega)
          have hlt2 : a1 % 2 ^ n < 2 ^ n := Nat.mod_lt _ (Nat.two_pow_pos n)
          have HLT := Lib.hid hlt2
          clear hlt2
          generalize a1 % 2 ^ n = a2 at *
          go_wp2
          go_roundw
          case rel =>
            refine ⟨k + 1, A3, c3, dn, a2, n, by omega, by go_num, rfl, rfl, rfl, ?_⟩
            exact ⟨by omega, HLT.out, hA, hB, hF, HN.out, by omega⟩
          case measure => simp [intOf]; omega
    · obtain rfl : k = s.size := by omega
      obtain ⟨hN, ha, hA, hB, hF, hall, hsh⟩ := hE.out
      have hdr : s.data.toList.drop s.size = [] := List.drop_eq_nil_of_le (by rw [Array.length_toList]; exact Nat.le_refl _)
      rw [hdr, hgo] at hall
      clear hE hB hdr
      by_cases h0 : N = 0
      · rw [if_pos h0, List.append_nil] at hall
        have HA := Lib.hid hall
        subst h0
        clear hall
        go_wp2
        go_ret
        rw [HA.out]
        refine ⟨A, c, by simp, ?_, hF⟩
        rw [bvs_append, List.length_append]; exact hA
      · rw [if_neg h0] at hall
        have HA := Lib.hid hall
        clear hall
        obtain ⟨m8, hm8⟩ : ∃ m8 : Nat, m8 = 8 - N := ⟨_, rfl⟩
        have g1 : IntKind.i64.wrap (8 - (N : Int)) = (m8 : Int) := by rw [IntWalk.i64_in _ (by omega)]; omega
        have HM8 := Lib.hid hm8
        have hm8a : 1 ≤ m8 := by omega
        have hm8b : m8 ≤ 7 := by omega
        clear hm8
        go_wp2
        go_region_law (refine step_append u8s rfl rfl rfl ((hA.alloc _).drew) (hu.of (Nat.le_trans hF.size (by simp))) rfl (Rd.new _ _ _).drew rfl (one_cell _ rfl) (by omega) ?_; intro A4 c4 w5 hA4 hF4 hW4)
        go_wp2
        go_ret
        rw [HA.out]
        have e : bvs [UInt8.ofNat (a * 2 ^ (8 - N) + (2 ^ (8 - N) - 1))] = [Value.int .u8 (bits .or .u8 (IntKind.u8.wrap (IntKind.u64.wrap ((a : Int) * 2 ^ m8))) (IntKind.u8.wrap (IntKind.u8.wrap (2 ^ m8) - 1)))] := by
          rw [last_byte' a N m8 (by omega) hN ha HM8.out]; rfl
        have hFe : Frm M w w5 := hF.trans ((((Frm.refl M wr).alloc (hu.of hF.size) _).drew).trans hF4)
        refine ⟨A4, c4, ?_, ?_, hFe⟩
        · show Ending.returned (.slice A4 (l.length + done.length + 1) c4) = _
          simp [Nat.add_assoc]
        · rw [bvs_append, bvs_append, List.length_append, List.length_append, ← Nat.add_assoc, ← List.append_assoc, e]
          exact hA4
end Go.Proofs.Ytdgggjeiflllhaa.M
namespace Go.Proofs.Ytdgggjeiflllhaa.M
open Go.ChangeShapes Go.WideShapes Go.ChangeAt Go.RowKit
def strc (f1 f0 k : Nat) (s : List UInt8) : List UInt8 := if hlen s < s.length then pfx f1 k (hlen s) ++ hcode s else pfx f0 k s.length ++ s
theorem or_bit (f k : Nat) (hf : f ≤ 255) (hk : k ≤ 7) : bits .or .u8 (f : Int) ((2 : Int) ^ k % 256) = ((f ||| 2 ^ k : Nat) : Int) := by
  have key : ∀ k : Fin 8, ∀ f : Fin 256, bits .or .u8 (f.val : Int) ((2 : Int) ^ k.val % 256) = ((f.val ||| 2 ^ k.val : Nat) : Int) := by decide +kernel
  exact key ⟨k, by omega⟩ ⟨f, by omega⟩
theorem bit_le (f k : Nat) (hf : f ≤ 255) (hk : k ≤ 7) : f ||| 2 ^ k ≤ 255 ∧ f &&& (255 - 2 ^ k) ≤ 255 := by
  have key : ∀ k : Fin 8, ∀ f : Fin 256, f.val ||| 2 ^ k.val ≤ 255 ∧ f.val &&& (255 - 2 ^ k.val) ≤ 255 := by decide +kernel
  exact key ⟨k, by omega⟩ ⟨f, by omega⟩
theorem hlen_le (l : List UInt8) : hlen l ≤ 4 * l.length + 1 := by
  have := bitsIn_le l
  unfold hlen; omega
theorem size_len (s : ByteArray) : s.data.toList.length = s.size := Array.length_toList
theorem strs_under : Try.prog.underlying 9 = some .string := Try.underlying9
theorem prefix_nat (l : List UInt8) (A : Option Addr) (c : Nat) (f k v : Nat) (w : World) (hR : Rd w A (bvs l)) (hl : l.length ≤ 70368744177664)
    (f1 : f ≤ 255) (k0 : 1 ≤ k) (k1 : k ≤ 8) (v1 : v ≤ 18446744073709551615) :
    Calls Try.prog 43 #[.slice A l.length c, .int .u8 f, .int .i64 k, .int .u64 v] w (RetB w (l ++ pfx f k v)) :=
  prefix_any l A c f k v w hR hl (by omega) (by omega) (by omega) (by omega) (by omega) (by omega)
theorem rprefix_nat (M : Nat → Prop) (l : List UInt8) (A : Option Addr) (c : Nat) (f k v : Nat) (w : World) (hu : Up M w) (hA : App M w 5 1 A l.length c (bvs l)) (hl : l.length ≤ 70368744177664)
    (f1 : f ≤ 255) (k0 : 1 ≤ k) (k1 : k ≤ 8) (v1 : v ≤ 18446744073709551615) :
    Calls Try.prog 35 #[.slice A l.length c, .int .u8 f, .int .i64 k, .int .u64 v] w (RetA M w (l ++ pfx f k v)) :=
  rprefix_any M l A c f k v w hu hA hl (by omega) (by omega) (by omega) (by omega) (by omega) (by omega)
set_option maxRecDepth 100000 in
set_option maxHeartbeats 1000000 in
theorem putstr_any (M : Nat → Prop) (l : List UInt8) (A : Option Addr) (c : Nat) (f k : Nat) (s : ByteArray) (w : World) (hu : Up M w) (hA : App M w 5 1 A l.length c (bvs l)) (hl : l.length ≤ 1099511627000) (hs : s.size ≤ 1099511627776)
    (f1 : f ≤ 255) (k0 : 1 ≤ k) (k1 : k ≤ 7) :
    Calls Try.prog 59 #[.slice A l.length c, .int .u8 f, .int .i64 k, .string s] w (RetA M w (l ++ strc (f ||| 2 ^ k) f k s.data.toList)) := by
  have ho := or_bit f k f1 k1
  obtain ⟨b1, b0⟩ := bit_le f k f1 k1
  generalize f ||| 2 ^ k = g1 at *
  have hle := hlen_le s.data.toList
  rw [size_len] at hle
  have hpl1 := pfx_length g1 k (hlen s.data.toList)
  have hpl0 := pfx_length f k s.size
  have HS : Hid (strc g1 f k s.data.toList = if hlen s.data.toList < s.size then pfx g1 k (hlen s.data.toList) ++ hcode s.data.toList else pfx f k s.size ++ s.data.toList) := by
    show _ = _; unfold strc; rw [size_len]
  generalize hx : hlen s.data.toList = x at *
  have HX := Lib.hid hx
  clear hx
  have hlen' : ∀ w, Calls Try.prog 96 #[.string s] w fun e w' => e = .returned (.int .i64 (x : Int)) ∧ Frm (New w) w w' := fun w => by rw [← HX.out]; exact rhufflen_any s w (by omega)
  by_cases hlt : x < s.size
  · have HS2 : Hid (l ++ strc g1 f k s.data.toList = (l ++ pfx g1 k x) ++ hcode s.data.toList) := by
      show _ = _; rw [HS.out, if_pos hlt, List.append_assoc]
    go_enter Try.func59, Try.ntmps59
    go_wp2_with (first | (go_at_call 96; refine (hlen' _).mono ?_; rintro e w1 ⟨rfl, hF1⟩) | fail)
    refine (rprefix_nat M l A c g1 k x _ (hu.of hF1.size) (hA.fresh hF1) (by omega) b1 k0 (by omega) (by omega)).mono ?_
    rintro e w2 ⟨A2, c2, rfl, hA2, hF2⟩
    have hFF : Frm M w w2 := (hF1.up hu).trans hF2
    have hln : (l ++ pfx g1 k x).length ≤ 1099511627020 := by rw [List.length_append]; omega
    generalize l ++ pfx g1 k x = l2 at *
    clear hA hF1 hF2
    go_wp2_with fail
    refine (huffman_any M l2 A2 c2 s _ (hu.of hFF.size) hA2 (by omega) hs).mono ?_
    rintro e w3 ⟨A3, c3, rfl, hA3, hF3⟩
    go_wp2_with fail
    go_ret
    rw [HS2.out]
    exact ⟨A3, c3, by simp, hA3, hFF.trans hF3⟩
  · have HS2 : Hid (l ++ strc g1 f k s.data.toList = (l ++ pfx f k s.size) ++ s.data.toList) := by
      show _ = _; rw [HS.out, if_neg hlt, List.append_assoc]
    go_enter Try.func59, Try.ntmps59
    go_wp2_with (first | (go_at_call 96; refine (hlen' _).mono ?_; rintro e w1 ⟨rfl, hF1⟩) | fail)
    refine (rprefix_nat M l A c f k s.size _ (hu.of hF1.size) (hA.fresh hF1) (by omega) f1 k0 (by omega) (by omega)).mono ?_
    rintro e w2 ⟨A2, c2, rfl, hA2, hF2⟩
    have hFF : Frm M w w2 := (hF1.up hu).trans hF2
    have hln : (l ++ pfx f k s.size).length ≤ 1099511627020 := by rw [List.length_append]; omega
    generalize l ++ pfx f k s.size = l2 at *
    clear hA hF1 hF2
    go_wp2_with (at_builtin; refine wpList_append_string u8s rfl strs_under rfl rfl hA2 (hu.of hFF.size) rfl (by omega) ?_; intro A3 c3 w3 hA3 hF3 _ _; clear hA2)
    go_ret
    rw [HS2.out]
    refine ⟨A3, c3, ?_, ?_, hFF.trans hF3⟩
    · show Ending.returned (.slice A3 (l2.length + s.size) c3) = _
      rw [List.length_append, size_len]
    · rw [List.length_append, size_len, bvs_append]; exact hA3
end Go.Proofs.Ytdgggjeiflllhaa.M

