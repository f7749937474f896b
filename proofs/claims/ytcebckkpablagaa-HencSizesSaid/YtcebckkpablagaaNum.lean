/- Package num: Prefix and ReadPrefix: what they return for any slice of bytes (shorter than 2^46), any prefix of 1 to 8 bits, any number. -/
import Derived.Test.YtcebckkpablagaaRows
import Derived.Test.YtcebckkpablagaaMem
namespace Go.Proofs.Ytcebckkpablagaa.M
open Go.ChangeShapes Go.WideShapes Go.ChangeAt Go.RowKit

/-- bytes as cells -/
def bv (b : UInt8) : Value := .int .u8 (b.toNat : Int)
def bvs (l : List UInt8) : List Value := l.map bv
@[simp] theorem bvs_length (l : List UInt8) : (bvs l).length = l.length := by simp [bvs]
@[simp] theorem bvs_nil : bvs [] = [] := rfl
theorem bvs_append (l k : List UInt8) : bvs (l ++ k) = bvs l ++ bvs k := by simp [bvs]
theorem bvs_one (l : List UInt8) : ∀ u ∈ bvs l, u.oneCell' = true := fun u hu => by
  obtain ⟨b, _, rfl⟩ := List.mem_map.1 hu
  rfl
theorem bvs_get {l : List UInt8} {k : Nat} (hk : k < l.length) : (bvs l)[k]? = some (.int .u8 (l[k].toNat : Int)) := by
  simp [bvs, bv, hk]
theorem bv_of (n : Int) (h0 : 0 ≤ n) (h1 : n ≤ 255) : Value.int .u8 n = bv (UInt8.ofNat n.toNat) := by
  obtain ⟨m, rfl⟩ := Int.eq_ofNat_of_zero_le h0
  simp only [bv, Int.toNat_natCast, UInt8.toNat_ofNat']
  rw [Nat.mod_eq_of_lt (by omega)]

theorem u8s : Elem Try.prog 22 5 1 1 :=
  ⟨by kernel_rfl, by
    have h : (Try.prog.info? 5).map (fun i => (i.zero, i.size, i.bytes)) = some (some (.int .u8 0), 1, 1) := by kernel_rfl
    obtain ⟨i, hi, hz, hs, hb⟩ := info_parts h
    exact ⟨i, _, hi, hz, hs, hb, rfl⟩, by omega, by omega⟩

/-- what stands behind a full prefix -/
def more : Nat → Nat → List UInt8
  | 0, v => [UInt8.ofNat v]
  | f + 1, v => if v < 128 then [UInt8.ofNat v] else UInt8.ofNat (v % 128 + 128) :: more f (v / 128)
/-- a number behind the bits of a byte: f the byte, k how many bits, v the number -/
def pfx (f k v : Nat) : List UInt8 :=
  if v < 2 ^ k - 1 then [UInt8.ofNat (f / 2 ^ k * 2 ^ k + v)] else UInt8.ofNat (f / 2 ^ k * 2 ^ k + (2 ^ k - 1)) :: more 10 (v - (2 ^ k - 1))

/-- a call that hands back a new slice of the bytes l, and writes to what is new alone -/
def RetB (w : World) (l : List UInt8) (e : Ending) (w' : World) : Prop :=
  ∃ A c, e = .returned (.slice A l.length c) ∧ App (New w) w' 5 1 A l.length c (bvs l) ∧ Frm (New w) w w'

theorem more_length (f : Nat) : ∀ v, (more f v).length ≤ f + 1 := by
  induction f with
  | zero => intro v; simp [more]
  | succ f ih => intro v; unfold more; split <;> simp; exact ih _
theorem pfx_length (f k v : Nat) : (pfx f k v).length ≤ 12 := by
  unfold pfx; split
  · simp
  · have := more_length 10 (v - (2 ^ k - 1)); simp; omega

theorem and_not (x p : Nat) (j : Nat) (hp : p = 2 ^ j) (hx : x < 256) (hj : j ≤ 8) : bits .andNot .u8 (x : Int) ((p - 1 : Nat) : Int) = ((x / p * p : Nat) : Int) := by
  subst hp
  have key : ∀ j : Fin 9, ∀ x : Fin 256, bits .andNot .u8 (x.val : Int) ((2 ^ j.val - 1 : Nat) : Int) = ((x.val / 2 ^ j.val * 2 ^ j.val : Nat) : Int) := by decide +kernel
  exact key ⟨j, by omega⟩ ⟨x, hx⟩
theorem or_low (x y j : Nat) (hx : x < 256) (hy : y < 2 ^ j) (hj : j ≤ 8) : bits .or .u8 ((x / 2 ^ j * 2 ^ j : Nat) : Int) (y : Int) = ((x / 2 ^ j * 2 ^ j + y : Nat) : Int) := by
  have hp : 2 ^ j ≤ 2 ^ 8 := Nat.pow_le_pow_right (by decide) hj
  have h1 : x / 2 ^ j * 2 ^ j ≤ x := Nat.div_mul_le_self _ _
  have := bits_join .u8 8 (by decide) wraps_u8 j ((x / 2 ^ j * 2 ^ j : Nat) : Int) (y : Int) (by omega) (by
    rw [show ((2 : Int) ^ j) = ((2 ^ j : Nat) : Int) from by simp]
    exact_mod_cast Nat.mul_mod_left _ _) (by omega) (by omega) (by
    rw [show ((2 : Int) ^ j) = ((2 ^ j : Nat) : Int) from by simp]
    exact_mod_cast hy) (by omega)
  rw [this]; simp
theorem or_128 (x : Nat) : bits .or .u8 ((x : Int) % 256) 128 = ((x % 128 + 128 : Nat) : Int) := by
  have key : ∀ x : Fin 256, bits .or .u8 (x.val : Int) 128 = ((x.val % 128 + 128 : Nat) : Int) := by decide +kernel
  have := key ⟨x % 256, by omega⟩
  simp only at this
  rw [show ((x : Int) % 256) = ((x % 256 : Nat) : Int) from by omega, this]
  congr 2
  omega

theorem bitsOf_any (b : Int) (w : World) (h0 : 1 ≤ b) (h1 : b ≤ 8) :
    Calls Try.prog 87 #[.int .i64 b] w fun e w' => e = .returned (.int .u64 b) ∧ w = w' := by
  go_enter Try.func87, Try.ntmps87
  go_wp2
  all_goals go_ret
  all_goals exact ⟨rfl, rfl⟩


theorem pow_bd (k : Nat) (k0 : 1 ≤ k) (k1 : k ≤ 8) : 2 ≤ 2 ^ k ∧ 2 ^ k ≤ 256 := by
  have h1 : 2 ^ 1 ≤ 2 ^ k := Nat.pow_le_pow_right (by decide) k0
  have h2 : 2 ^ k ≤ 2 ^ 8 := Nat.pow_le_pow_right (by decide) k1
  omega

theorem head_le (f k v : Nat) (hf : f ≤ 255) (k1 : k ≤ 8) (hv : v < 2 ^ k) : f / 2 ^ k * 2 ^ k + v ≤ 255 := by
  have h1 : 2 ^ k * (f / 2 ^ k) ≤ f := Nat.mul_div_le _ _
  have h2 : f / 2 ^ k < 2 ^ (8 - k) := Nat.div_lt_of_lt_mul (by rw [← Nat.pow_add, show k + (8 - k) = 8 from by omega]; omega)
  have h3 : (f / 2 ^ k + 1) * 2 ^ k ≤ 2 ^ (8 - k) * 2 ^ k := Nat.mul_le_mul_right _ h2
  rw [← Nat.pow_add, show 8 - k + k = 8 from by omega, Nat.add_mul] at h3
  omega
theorem one_cell (x : Value) (h : x.oneCell' = true) : ∀ u ∈ (#[x] : Array Value).toList, u.oneCell' = true := fun u hu => by
  simp at hu; subst hu; exact h

set_option maxHeartbeats 1000000 in
theorem prefix_small (l : List UInt8) (A : Option Addr) (c : Nat) (f k v : Nat) (w : World) (hR : Rd w A (bvs l)) (hl : l.length ≤ 70368744177664)
    (f1 : f ≤ 255) (k0 : 1 ≤ k) (k1 : k ≤ 8) (hv : v < 2 ^ k - 1) :
    Calls Try.prog 75 #[.slice A l.length c, .int .u8 f, .int .i64 k, .int .u64 v] w fun e w' => ∃ A' c', e = .returned (.slice A' (l.length + 1) c') ∧
      App (New w) w' 5 1 A' (l.length + 1) c' (bvs l ++ [.int .u8 ((f / 2 ^ k * 2 ^ k : Nat) + v : Int)]) ∧ Frm (New w) w w' := by
  obtain ⟨p2, p256⟩ := pow_bd k k0 k1
  have hAN := and_not f (2 ^ k) k rfl (by omega) k1
  have hO1 := or_low f v k (by omega) (by omega) k1
  have hh := head_le f k v f1 k1 (by omega)
  have hpw : (2 : Int) ^ k = ((2 ^ k : Nat) : Int) := by simp
  generalize 2 ^ k = p at *
  generalize f / p * p = h0 at *
  have hAN' : bits .andNot .u8 (f : Int) ((p : Int) - 1) = (h0 : Int) := by rw [← hAN]; congr 1; omega
  clear hAN
  have hkb : (1 : Int) ≤ k := by omega
  have hkb2 : (k : Int) ≤ 8 := by omega
  have hAp : App (New w) w 5 1 none 0 0 [] := App.none_
  go_enter Try.func75, Try.ntmps75
  go_wp2_with (first
    | (go_at_call 87; refine (bitsOf_any _ _ hkb hkb2).mono ?_; rintro e w' ⟨rfl, rfl⟩)
    | (at_builtin; refine wpList_append u8s rfl rfl rfl hAp Up.new rfl hR (by simp) (bvs_one _) (by omega) ?_; intro A1 c1 w1 hA1 hF1 _ _; clear hAp; simp only [Nat.zero_add, List.nil_append] at hA1)
    | (at_builtin; refine wpList_append_lit u8s rfl rfl rfl hA1 (Up.new.of hF1.size) rfl rfl (one_cell _ rfl) (by omega) ?_; intro A2 c2 w2 hA2 hF2 _ _; clear hA1))
  go_ret
  exact ⟨A2, c2, rfl, hA2, hF1.trans hF2⟩

/-- the loop of Prefix: x is still to be written, done has been -/
def PreLoop (w0 : World) (l : List UInt8) (hd : Value) (x0 : Nat) (v o : Value) (w : World) : Prop :=
  ∃ (x : Nat) (A : Option Addr) (c : Nat) (done : List UInt8) (fu : Nat), v = .int .u64 x ∧ o = .slice A (l.length + 1 + done.length) c ∧ x < 18446744073709551616 ∧ x < 128 ^ (fu + 1) ∧
    App (New w0) w 5 1 A (l.length + 1 + done.length) c (bvs l ++ [hd] ++ bvs done) ∧ Frm (New w0) w0 w ∧ more 10 x0 = done ++ more fu x

set_option maxRecDepth 100000 in
set_option maxHeartbeats 1000000 in
theorem prefix_great (l : List UInt8) (A : Option Addr) (c : Nat) (f k v : Nat) (w : World) (hR : Rd w A (bvs l)) (hl : l.length ≤ 70368744177664)
    (f1 : f ≤ 255) (k0 : 1 ≤ k) (k1 : k ≤ 8) (hv : 2 ^ k - 1 ≤ v) (v1 : v < 18446744073709551616) :
    Calls Try.prog 75 #[.slice A l.length c, .int .u8 f, .int .i64 k, .int .u64 v] w fun e w' => ∃ A' c', e = .returned (.slice A' (l.length + 1 + (more 10 (v - (2 ^ k - 1))).length) c') ∧
      App (New w) w' 5 1 A' (l.length + 1 + (more 10 (v - (2 ^ k - 1))).length) c' (bvs l ++ [.int .u8 ((f / 2 ^ k * 2 ^ k : Nat) + ((2 ^ k : Nat) - 1) : Int)] ++ bvs (more 10 (v - (2 ^ k - 1)))) ∧ Frm (New w) w w' := by
  obtain ⟨p2, p256⟩ := pow_bd k k0 k1
  have hAN := and_not f (2 ^ k) k rfl (by omega) k1
  have hO1 := or_low f (2 ^ k - 1) k (by omega) (by omega) k1
  have hh := head_le f k (2 ^ k - 1) f1 k1 (by omega)
  have hpw : (2 : Int) ^ k = ((2 ^ k : Nat) : Int) := by simp
  generalize 2 ^ k = p at *
  generalize f / p * p = h0 at *
  have hAN' : bits .andNot .u8 (f : Int) ((p : Int) - 1) = (h0 : Int) := by rw [← hAN]; congr 1; omega
  have hO2 : bits .or .u8 (h0 : Int) ((p : Int) - 1) = (h0 : Int) + ((p : Int) - 1) := by
    rw [show ((p : Int) - 1) = ((p - 1 : Nat) : Int) from by omega, hO1]; omega
  clear hAN hO1
  have hkb : (1 : Int) ≤ k := by omega
  have hkb2 : (k : Int) ≤ 8 := by omega
  have hAp : App (New w) w 5 1 none 0 0 [] := App.none_
  have hnv : ¬ ((v : Int) < (p : Int) - 1) := by omega
  go_enter Try.func75, Try.ntmps75
  go_wp2_with (first
    | (go_at_call 87; refine (bitsOf_any _ _ hkb hkb2).mono ?_; rintro e w' ⟨rfl, rfl⟩)
    | (at_builtin; refine wpList_append u8s rfl rfl rfl hAp Up.new rfl hR (by simp) (bvs_one _) (by omega) ?_; intro A1 c1 w1 hA1 hF1 _ _; clear hAp; simp only [Nat.zero_add, List.nil_append] at hA1)
    | (at_builtin; refine wpList_append_lit u8s rfl rfl rfl hA1 (Up.new.of hF1.size) rfl rfl (one_cell _ rfl) (by omega) ?_; intro A2 c2 w2 hA2 hF2 _ _; clear hA1))
  have HF : Hid (Frm (New w) w w2) := hF1.trans hF2
  clear hF1 hF2 hAN' hO2 hpw
  generalize hx0 : v - (p - 1) = x0
  have hx0' : ((v : Int) - ((p : Int) - 1)) = (x0 : Int) := by omega
  simp only [hx0']
  have hfu : x0 < 128 ^ 11 := by have : (128 : Nat) ^ 11 = 151115727451828646838272 := by decide
                                 omega
  have hxx : x0 < 18446744073709551616 := by omega
  have HX0 : Hid (v - (p - 1) = x0) := hx0
  clear hx0' hx0 hnv
  clear hR hv hh hkb hkb2 p2 p256 k0 k1 f1
  go_loopw [3, 11] (fun x o wr => PreLoop w l (.int .u8 ((h0 : Int) + ((p : Int) - 1))) x0 x o wr) (fun x _ _ => (intOf x).toNat)
  case atStart => exact ⟨x0, A2, c2, [], 10, rfl, by simp, hxx, by simpa using hfu, by simpa using hA2, HF.out, by simp⟩
  case round =>
    obtain ⟨x, A3, c3, done, fu, rfl, rfl, hx1, hx2, hA3, hF3, hmore⟩ := hrel
    clear hA2 HF
    by_cases hlt : 128 ≤ x
    · obtain ⟨fu, rfl⟩ : ∃ g, fu = g + 1 := by
        cases fu with
        | zero => simp at hx2; omega
        | succ g => exact ⟨g, rfl⟩
      have hm : more (fu + 1) x = UInt8.ofNat (x % 128 + 128) :: more fu (x / 128) := by rw [more, if_neg (by omega)]
      have hdl : done.length ≤ 11 := by
        have h1 := more_length 10 x0
        rw [hmore] at h1; simp at h1; omega
      have hor := or_128 x
      have hbv := bv_of ((x % 128 + 128 : Nat) : Int) (by omega) (by omega)
      have HM : Hid (more 10 x0 = (done ++ [UInt8.ofNat (x % 128 + 128)]) ++ more fu (x / 128)) := by
        show _ = _
        rw [hmore, hm]; simp
      have HB : Hid (Value.int .u8 ((x % 128 + 128 : Nat) : Int) = bv (UInt8.ofNat (x % 128 + 128))) := by
        show _ = _
        rw [hbv, Int.toNat_natCast]
      have HX : Hid (x < 128 ^ (fu + 1 + 1)) := hx2
      clear hm hmore hbv hx2
      go_wp2_with (at_builtin; refine wpList_append_lit u8s rfl rfl rfl hA3 (Up.new.of hF3.size) rfl rfl (one_cell _ rfl) (by omega) ?_; intro A4 c4 w4 hA4 hF4 _ _; clear hA3)
      go_roundw
      case rel =>
        refine ⟨x / 128, A4, c4, done ++ [UInt8.ofNat (x % 128 + 128)], fu, by go_num, by simp [Nat.add_assoc], by omega, ?_, ?_, hF3.trans hF4, HM.out⟩
        · have hx2 := HX.out
          exact Nat.div_lt_of_lt_mul (by rw [Nat.pow_succ, Nat.mul_comm] at hx2; exact hx2)
        · rw [bvs_append, ← List.append_assoc, List.length_append, ← Nat.add_assoc]
          have : bvs [UInt8.ofNat (x % 128 + 128)] = [Value.int .u8 ((x % 128 + 128 : Nat) : Int)] := by rw [HB.out]; rfl
          rw [this]
          simpa using hA4
      case measure => simp [intOf]; omega
    · have hm : more fu x = [UInt8.ofNat x] := by
        cases fu with
        | zero => rfl
        | succ g => rw [more, if_pos (by omega)]
      have hdl : done.length ≤ 11 := by
        have h1 := more_length 10 x0
        rw [hmore] at h1; simp at h1; omega
      have HM : Hid (more 10 x0 = (done ++ [UInt8.ofNat x])) := by
        show _ = _
        rw [hmore, hm]
      have HB : Hid (Value.int .u8 (x : Int) = bv (UInt8.ofNat x)) := by
        show _ = _
        rw [bv_of (x : Int) (by omega) (by omega), Int.toNat_natCast]
      clear hm hmore hx2
      go_wp2_with (at_builtin; refine wpList_append_lit u8s rfl rfl rfl hA3 (Up.new.of hF3.size) rfl rfl (one_cell _ rfl) (by omega) ?_; intro A4 c4 w4 hA4 hF4 _ _; clear hA3)
      go_ret
      rw [HX0.out, HM.out]
      refine ⟨A4, c4, ?_, ?_, hF3.trans hF4⟩
      · show Ending.returned (.slice A4 (l.length + 1 + done.length + 1) c4) = _
        simp [Nat.add_assoc]
      · rw [bvs_append, List.length_append, ← Nat.add_assoc]
        have : bvs [UInt8.ofNat x] = [Value.int .u8 (x : Int)] := by rw [HB.out]; rfl
        rw [this]
        simpa using hA4

theorem prefix_any (l : List UInt8) (A : Option Addr) (c : Nat) (f k v : Int) (w : World) (hR : Rd w A (bvs l)) (hl : l.length ≤ 70368744177664)
    (f0 : 0 ≤ f) (f1 : f ≤ 255) (k0 : 1 ≤ k) (k1 : k ≤ 8) (v0 : 0 ≤ v) (v1 : v ≤ 18446744073709551615) :
    Calls Try.prog 75 #[.slice A l.length c, .int .u8 f, .int .i64 k, .int .u64 v] w (RetB w (l ++ pfx f.toNat k.toNat v.toNat)) := by
  obtain ⟨f, rfl⟩ := Int.eq_ofNat_of_zero_le f0
  obtain ⟨k, rfl⟩ := Int.eq_ofNat_of_zero_le (a := k) (by omega)
  obtain ⟨v, rfl⟩ := Int.eq_ofNat_of_zero_le v0
  simp only [Int.toNat_natCast]
  have hp := pow_bd k (by omega) (by omega)
  by_cases hv : v < 2 ^ k - 1
  · have hh := head_le f k v (by omega) (by omega) (by omega)
    refine (prefix_small l A c f k v w hR hl (by omega) (by omega) (by omega) hv).mono ?_
    rintro e w' ⟨A', c', rfl, hA, hF⟩
    have e1 : pfx f k v = [UInt8.ofNat (f / 2 ^ k * 2 ^ k + v)] := by rw [pfx, if_pos hv]
    have e2 := bv_of ((f / 2 ^ k * 2 ^ k : Nat) + v : Int) (by omega) (by omega)
    rw [show ((f / 2 ^ k * 2 ^ k : Nat) + v : Int) = ((f / 2 ^ k * 2 ^ k + v : Nat) : Int) from by omega, Int.toNat_natCast] at e2
    refine ⟨A', c', by rw [e1]; simp, ?_, hF⟩
    rw [e1, bvs_append, List.length_append]
    have : bvs [UInt8.ofNat (f / 2 ^ k * 2 ^ k + v)] = [Value.int .u8 ((f / 2 ^ k * 2 ^ k : Nat) + v : Int)] := by
      rw [show ((f / 2 ^ k * 2 ^ k : Nat) + v : Int) = ((f / 2 ^ k * 2 ^ k + v : Nat) : Int) from by omega, e2]; rfl
    rw [this]
    exact hA
  · have hh := head_le f k (2 ^ k - 1) (by omega) (by omega) (by omega)
    refine (prefix_great l A c f k v w hR hl (by omega) (by omega) (by omega) (by omega) (by omega)).mono ?_
    rintro e w' ⟨A', c', rfl, hA, hF⟩
    have e1 : pfx f k v = [UInt8.ofNat (f / 2 ^ k * 2 ^ k + (2 ^ k - 1))] ++ more 10 (v - (2 ^ k - 1)) := by rw [pfx, if_neg hv]; rfl
    have e2 := bv_of ((f / 2 ^ k * 2 ^ k + (2 ^ k - 1) : Nat) : Int) (by omega) (by omega)
    rw [Int.toNat_natCast] at e2
    have e3 : bvs [UInt8.ofNat (f / 2 ^ k * 2 ^ k + (2 ^ k - 1))] = [Value.int .u8 ((f / 2 ^ k * 2 ^ k : Nat) + ((2 ^ k : Nat) - 1) : Int)] := by
      rw [show ((f / 2 ^ k * 2 ^ k : Nat) + ((2 ^ k : Nat) - 1) : Int) = ((f / 2 ^ k * 2 ^ k + (2 ^ k - 1) : Nat) : Int) from by omega, e2]; rfl
    have e4 : (l ++ pfx f k v).length = l.length + 1 + (more 10 (v - (2 ^ k - 1))).length := by rw [e1]; simp; omega
    refine ⟨A', c', by rw [e4], ?_, hF⟩
    rw [e4, e1, bvs_append, bvs_append, e3, ← List.append_assoc]
    exact hA
end Go.Proofs.Ytcebckkpablagaa.M
