/- Package huff: Encode: what it returns: a string's code behind any bytes (both shorter than 2^40). -/
import Derived.Test.YtcebckkpablagaaHufc
namespace Go.Proofs.Ytcebckkpablagaa.M
open Go.ChangeShapes Go.WideShapes Go.ChangeAt Go.RowKit

/-- the whole bytes of n bits (fuel first) -/
def emit : Nat → Nat → Nat → List UInt8
  | 0, _, _ => []
  | f + 1, acc, n => if n < 8 then [] else UInt8.ofNat (acc / 2 ^ (n - 8)) :: emit f acc (n - 8)
/-- a string's code, behind n bits, fewer than eight -/
def hgo : List UInt8 → Nat → Nat → List UInt8
  | [], acc, n => if n = 0 then [] else [UInt8.ofNat (acc * 2 ^ (8 - n) + (2 ^ (8 - n) - 1))]
  | b :: r, acc, n =>
    let p := codes.getD b.toNat (0, 0)
    emit 5 (acc * 2 ^ p.2 + p.1) (n + p.2) ++ hgo r ((acc * 2 ^ p.2 + p.1) % 2 ^ ((n + p.2) % 8)) ((n + p.2) % 8)
/-- a string's code -/
def hcode (l : List UInt8) : List UInt8 := hgo l 0 0

theorem codes_fit : ∀ i : Fin 257, (codes.getD i.val (0, 0)).1 < 2 ^ (codes.getD i.val (0, 0)).2 ∧ (codes.getD i.val (0, 0)).2 ≤ 30 ∧ 5 ≤ (codes.getD i.val (0, 0)).2 ∧ (codes.getD i.val (0, 0)).1 < 1073741824 := by decide +kernel
theorem emit_length : ∀ (f acc n : Nat), (emit f acc n).length ≤ f
  | 0, _, _ => by simp [emit]
  | f + 1, acc, n => by
    unfold emit
    split
    · simp
    · have := emit_length f acc (n - 8); simp; omega
/-- the low bits alone count -/
theorem byte_low (A n : Nat) (hn : 8 ≤ n) : A / 2 ^ (n - 8) % 256 = (A % 2 ^ n) / 2 ^ (n - 8) % 256 := by
  have h : 2 ^ n = 2 ^ (n - 8) * 256 := by
    rw [show (256 : Nat) = 2 ^ 8 from rfl, ← Nat.pow_add, show n - 8 + 8 = n from by omega]
  rw [h, Nat.mod_mul_right_div_self, Nat.mod_mod]

theorem acc_step (A acc n c m : Nat) (hn : n < 8) (hm : m ≤ 30) (hc : c < 2 ^ m) (hA : A % 2 ^ n = acc) :
    (A * 2 ^ m % 18446744073709551616 + c) % 2 ^ (n + m) = acc * 2 ^ m + c := by
  have hd : (18446744073709551616 : Nat) = 2 ^ (n + m) * 2 ^ (64 - (n + m)) := by
    rw [← Nat.pow_add, show n + m + (64 - (n + m)) = 64 from by omega]
  have h1 : (A * 2 ^ m % 18446744073709551616) % 2 ^ (n + m) = (A * 2 ^ m) % 2 ^ (n + m) := by
    rw [hd, Nat.mod_mul_right_mod]
  have h2 : (A * 2 ^ m) % 2 ^ (n + m) = acc * 2 ^ m := by
    rw [Nat.pow_add, Nat.mul_mod_mul_right, hA]
  have h3 : acc < 2 ^ n := by rw [← hA]; exact Nat.mod_lt _ (Nat.two_pow_pos n)
  have h4 : (acc + 1) * 2 ^ m ≤ 2 ^ n * 2 ^ m := Nat.mul_le_mul_right _ h3
  rw [← Nat.pow_add, Nat.add_mul] at h4
  rw [Nat.add_mod, h1, h2, Nat.mod_eq_of_lt (a := c) (by omega)]
  exact Nat.mod_eq_of_lt (by omega)

set_option maxRecDepth 10000
theorem wraps64 (n : Int) (h₀ : 0 ≤ n) (h₁ : n < 2 ^ 64) : IntKind.u64.wrap n = n := IntWalk.u64_in n (by omega)
theorem wrap_u64 (n : Int) : IntKind.u64.wrap n = n % 18446744073709551616 := by simp [IntKind.wrap, IntKind.bits, IntKind.signed]
theorem or_acc (a m c : Nat) (hm : m ≤ 30) (hc : c < 2 ^ m) : bits .or .u64 (IntKind.u64.wrap ((a : Int) * 2 ^ m)) (c : Int) = ((a * 2 ^ m % 18446744073709551616 + c : Nat) : Int) := by
  have e1 : IntKind.u64.wrap ((a : Int) * 2 ^ m) = ((a * 2 ^ m % 18446744073709551616 : Nat) : Int) := by
    rw [wrap_u64]; simp only [Int.natCast_emod, Int.natCast_mul, Int.natCast_pow]; rfl
  have hd : (18446744073709551616 : Nat) = 2 ^ m * 2 ^ (64 - m) := by rw [← Nat.pow_add, show m + (64 - m) = 64 from by omega]
  have h0 : (a * 2 ^ m % 18446744073709551616) % 2 ^ m = 0 := by
    rw [hd, Nat.mod_mul_right_mod]; exact Nat.mul_mod_left _ _
  have hp : 2 ^ m ≤ 2 ^ 30 := Nat.pow_le_pow_right (by decide) hm
  have hlt := Nat.mod_lt (a * 2 ^ m) (show 18446744073709551616 > 0 by decide)
  rw [e1, bits_join .u64 64 (by decide) wraps64 m ((a * 2 ^ m % 18446744073709551616 : Nat) : Int) (c : Int) (by omega) (by
    rw [show ((2 : Int) ^ m) = ((2 ^ m : Nat) : Int) from by simp]; exact_mod_cast h0) (by omega) (by omega) (by
    rw [show ((2 : Int) ^ m) = ((2 ^ m : Nat) : Int) from by simp]; exact_mod_cast hc) (by omega)]
  exact (Int.natCast_add _ _).symm
theorem last_byte (a N : Nat) (h0 : 1 ≤ N) (h8 : N < 8) :
    bits .or .u8 (IntKind.u64.wrap ((a : Int) * 2 ^ (8 - N)) % 256) ((2 ^ (8 - N) - 1) % 256) = ((a % 2 ^ N * 2 ^ (8 - N) + (2 ^ (8 - N) - 1) : Nat) : Int) := by
  have hp : 2 ^ N * 2 ^ (8 - N) = 256 := by rw [← Nat.pow_add, show N + (8 - N) = 8 from by omega]
  have hd : (18446744073709551616 : Nat) = 256 * 72057594037927936 := rfl
  have e1 : IntKind.u64.wrap ((a : Int) * 2 ^ (8 - N)) % 256 = ((a % 2 ^ N * 2 ^ (8 - N) : Nat) : Int) := by
    have h1 : IntKind.u64.wrap ((a : Int) * 2 ^ (8 - N)) = ((a * 2 ^ (8 - N) % 18446744073709551616 : Nat) : Int) := by
      rw [wrap_u64]; simp only [Int.natCast_emod, Int.natCast_mul, Int.natCast_pow]; rfl
    have h2 : a * 2 ^ (8 - N) % 18446744073709551616 % 256 = a % 2 ^ N * 2 ^ (8 - N) := by
      rw [hd, Nat.mod_mul_right_mod, ← hp, Nat.mul_mod_mul_right]
    rw [h1, show (256 : Int) = ((256 : Nat) : Int) from rfl, ← Int.natCast_emod, h2]
  have hpos : 1 ≤ 2 ^ (8 - N) := Nat.one_le_two_pow
  have hle : 2 ^ (8 - N) ≤ 2 ^ 7 := Nat.pow_le_pow_right (by decide) (by omega)
  have e2 : ((2 : Int) ^ (8 - N) - 1) % 256 = ((2 ^ (8 - N) - 1 : Nat) : Int) := by
    rw [show ((2 : Int) ^ (8 - N)) = ((2 ^ (8 - N) : Nat) : Int) from by simp]; omega
  have hlt : a % 2 ^ N < 2 ^ N := Nat.mod_lt _ (Nat.two_pow_pos N)
  have hm := Nat.mul_le_mul_right (2 ^ (8 - N)) hlt
  rw [hp, Nat.succ_mul] at hm
  rw [e1, e2, bits_join .u8 8 (by decide) wraps_u8 (8 - N) _ _ (by omega) (by
    rw [show ((2 : Int) ^ (8 - N)) = ((2 ^ (8 - N) : Nat) : Int) from by simp]; exact_mod_cast Nat.mul_mod_left _ _) (by omega) (by omega) (by
    rw [show ((2 : Int) ^ (8 - N)) = ((2 ^ (8 - N) : Nat) : Int) from by simp]; omega) (by omega)]
  exact (Int.natCast_add _ _).symm
theorem acc_lt (a m c : Nat) (hm : m ≤ 30) (hc : c < 2 ^ m) : a * 2 ^ m % 18446744073709551616 + c < 18446744073709551616 := by
  have hd : (18446744073709551616 : Nat) = 2 ^ m * 2 ^ (64 - m) := by rw [← Nat.pow_add, show m + (64 - m) = 64 from by omega]
  have h0 : (a * 2 ^ m % 18446744073709551616) % 2 ^ m = 0 := by
    rw [hd, Nat.mod_mul_right_mod]; exact Nat.mul_mod_left _ _
  have hlt := Nat.mod_lt (a * 2 ^ m) (show 18446744073709551616 > 0 by decide)
  generalize a * 2 ^ m % 18446744073709551616 = x at *
  obtain ⟨q, rfl⟩ := Nat.dvd_of_mod_eq_zero h0
  have hq : q < 2 ^ (64 - m) := by rw [hd] at hlt; exact Nat.lt_of_mul_lt_mul_left hlt
  have := Nat.mul_le_mul_left (2 ^ m) hq
  rw [← hd, Nat.mul_succ] at this
  omega

theorem pow_mod (x i j : Nat) (h : i ≤ j) : x % 2 ^ j % 2 ^ i = x % 2 ^ i := Nat.mod_mod_of_dvd _ (Nat.pow_dvd_pow 2 h)
theorem byte_of (a n n1 : Nat) (hn : 8 ≤ n) (h : n ≤ n1) : Value.int .u8 ((a : Int) / 2 ^ (n - 8) % 256) = bv (UInt8.ofNat (a % 2 ^ n1 / 2 ^ (n - 8))) := by
  have e1 : ((a : Int) / 2 ^ (n - 8) % 256) = ((a / 2 ^ (n - 8) % 256 : Nat) : Int) := by
    simp only [Int.natCast_emod, Int.natCast_ediv, Int.natCast_pow]; rfl
  have e2 : a % 2 ^ n1 / 2 ^ (n - 8) % 256 = a / 2 ^ (n - 8) % 256 := by
    rw [byte_low a n hn, byte_low (a % 2 ^ n1) n hn, pow_mod _ _ _ h]
  rw [e1]
  simp only [bv, UInt8.toNat_ofNat', ← e2]
theorem emit_done (f acc n : Nat) (h : n < 8) : emit f acc n = [] := by
  cases f with
  | zero => rfl
  | succ f => rw [emit, if_pos h]
theorem enc_next (s : ByteArray) (k cc m a a1 N n : Nat) (done dn : List UInt8) (hk : k < s.size) (hp : codes.getD s[k].toNat (0, 0) = (cc, m)) (hs : a1 % 2 ^ (N + m) = a % 2 ^ N * 2 ^ m + cc)
    (hn : n < 8) (hleft : n % 8 = (N + m) % 8) (hle : n ≤ N + m) (hall : hcode s.data.toList = done ++ hgo (s.data.toList.drop k) (a % 2 ^ N) N)
    (hdn : done ++ emit 5 (a1 % 2 ^ (N + m)) (N + m) = dn) : hcode s.data.toList = dn ++ hgo (s.data.toList.drop (k + 1)) (a1 % 2 ^ n) n := by
  have hk' : k < s.data.toList.length := by rw [Array.length_toList]; exact hk
  have e1 : s.data.toList.drop k = s[k] :: s.data.toList.drop (k + 1) := by
    rw [List.drop_eq_getElem_cons hk']; rfl
  have e2 : (N + m) % 8 = n := by omega
  rw [hall, e1, hgo]
  simp only [hp]
  rw [← hs, e2, pow_mod _ _ _ hle, ← hdn, List.append_assoc]

/-- the inner loop: n bits are left of acc (its low n ones), done has been written -/
structure EmAt (w : World) (l : List UInt8) (g : Nat) (A : Option Addr) (c : Nat) (done : List UInt8) (f acc n : Nat) (all : List UInt8) (n1 : Nat) (wr : World) : Prop where
  app : App (New w) wr 5 1 A (l.length + done.length) c (bvs l ++ bvs done)
  blk : Blk wr g 151 (vP .u32 .i64 codes)
  frm : Frm (New w) w wr
  all : all = done ++ emit f acc n
  fuel : n < 8 * (f + 1)
  left : n % 8 = n1 % 8
  le : n ≤ n1

/-- the loop of Encode: k signs are coded; N bits are left in a -/
structure EncAt (w : World) (l : List UInt8) (s : ByteArray) (g k : Nat) (A : Option Addr) (c : Nat) (done : List UInt8) (a N : Nat) (wr : World) : Prop where
  le : w.heap.size ≤ g
  few : N < 8
  fit : a < 18446744073709551616
  app : App (New w) wr 5 1 A (l.length + done.length) c (bvs l ++ bvs done)
  blk : Blk wr g 151 (vP .u32 .i64 codes)
  frm : Frm (New w) w wr
  all : hcode s.data.toList = done ++ hgo (s.data.toList.drop k) (a % 2 ^ N) N
  short : done.length ≤ 5 * k

set_option maxRecDepth 100000 in
set_option maxHeartbeats 4000000 in
theorem encode_any (l : List UInt8) (A : Option Addr) (c : Nat) (s : ByteArray) (w : World) (hR : Rd w A (bvs l)) (hl : l.length ≤ 1099511627776) (hs : s.size ≤ 1099511627776) :
    Calls Try.prog 74 #[.slice A l.length c, .string s] w (RetB w (l ++ hcode s.data.toList)) := by
  have t1 := trivial
  have t2 := trivial
  have t3 := trivial
  have hAp : App (New w) w 5 1 none 0 0 [] := App.none_
  go_enter Try.func74, Try.ntmps74
  go_wp2_with (first
    | (at_builtin; clear t1; refine wpList_append u8s rfl rfl rfl hAp Up.new rfl hR (by simp) (bvs_one _) (by omega) ?_; intro A1 c1 w1 hA1 hF1 _ _; clear hAp; simp only [Nat.zero_add, List.nil_append] at hA1)
    | (go_at_call 92; refine (codes_any _).mono ?_; rintro e w2 ⟨rfl, hF2⟩)
    | (clear t2; refine wpList_new rfl rfl z151 rfl ?_; intro w3 hb3 hF3 hs3)
    | (clear t3; refine wpList_store_agg rfl rfl rfl rfl hb3 (by rw [vP_size, codes_length]; show (vP _ _ _).size = _; rw [vP_size]; simp) (vP_one _) (by rw [vP_size, codes_length]; exact a151.size) ?_; intro w4 hb4 hF4 hs4))
  have c1' := hF1.size
  have c2' := hF2.size
  have hF3' : Frm (New w) w w3 := (hF1.then_new Up.new hF2).then_new Up.new hF3
  have hF4' : Frm (New w) w w4 := hF3'.trans (hF4.mono (fun k hk => by subst hk; show w.heap.size ≤ w2.heap.size; omega))
  have hA4 : App (New w) w4 5 1 A1 l.length c1 (bvs l) := hA1.fresh ((hF2.then_new Up.new hF3).trans (hF4.mono (fun k hk => by subst hk; exact c2')))
  have hg : w.heap.size ≤ w2.heap.size := by omega
  generalize w2.heap.size = g at *
  have H := Lib.hid (show EncAt w l s g 0 A1 c1 [] 0 0 w4 from ⟨hg, by omega, by omega, by simpa using hA4, hb4, hF4', rfl, by simp⟩)
  clear hA1 hF1 hF2 hb3 hF3 hs3 hb4 hF4 hs4 hF3' hF4' hA4 c1' c2'
  go_loopw [5, 7, 8, 16] (fun o a n i wr => ∃ (k : Nat) (A : Option Addr) (c : Nat) (done : List UInt8) (x N : Nat), k ≤ s.size ∧ i = .int .i64 k ∧ o = .slice A (l.length + done.length) c ∧ a = .int .u64 x ∧ n = .int .i64 N ∧ Hid (EncAt w l s g k A c done x N wr)) (fun _ _ _ i _ => s.size - (intOf i).toNat)
  case atStart => exact ⟨0, A1, c1, [], 0, 0, by omega, rfl, by simp, rfl, rfl, H⟩
  case round =>
    obtain ⟨k, A, c, done, a, N, hk, rfl, rfl, rfl, rfl, hE⟩ := hrel
    clear H hR
    by_cases hlt : k < s.size
    · obtain ⟨hg, hN, ha, hA, hB, hF, hall, hsh⟩ := hE.out
      have hb : s[k].toNat < 256 := s[k].toNat_lt
      have hg1 := (vP_get (k1 := .u32) (k2 := .i64) codes s[k].toNat (by rw [codes_length]; omega)).1
      have hg2 := (vP_get (k1 := .u32) (k2 := .i64) codes s[k].toNat (by rw [codes_length]; omega)).2
      rw [← hB.cell] at hg1 hg2
      obtain ⟨hc1, hc2, hc3, hc4⟩ := codes_fit ⟨s[k].toNat, by omega⟩
      simp only at hc1 hc2 hc3 hc4
      have HP : Hid (codes.getD s[k].toNat (0, 0) = ((codes.getD s[k].toNat (0, 0)).1, (codes.getD s[k].toNat (0, 0)).2)) := rfl
      generalize (codes.getD s[k].toNat (0, 0)).1 = cc at *
      generalize (codes.getD s[k].toNat (0, 0)).2 = m at *
      have HC := Lib.hid hc1
      have HA := Lib.hid hA
      have HB := Lib.hid hB
      have HF := Lib.hid hF
      have HL := Lib.hid hall
      clear hE hc1 hA hB hF hall
      have hor := or_acc a m cc hc2 HC.out
      have hlt1 := acc_lt a m cc hc2 HC.out
      have hstep := acc_step a (a % 2 ^ N) N cc m hN hc2 HC.out rfl
      generalize a * 2 ^ m % 18446744073709551616 + cc = a1 at *
      have HS := Lib.hid hstep
      clear hstep
      go_wp2
      go_quiet (fail)
      have hF2 : Frm (New w) w ((wr.alloc (Obj.cells #[Value.int IntKind.u32 cc, Value.int IntKind.i64 m] 150)).drewN nq) := (HF.out.alloc Up.new _).drewN _
      have hA2 : App (New w) ((wr.alloc (Obj.cells #[Value.int IntKind.u32 cc, Value.int IntKind.i64 m] 150)).drewN nq) 5 1 A (l.length + done.length) c (bvs l ++ bvs done) := (HA.out.alloc _).drewN _
      have hB2 : Blk ((wr.alloc (Obj.cells #[Value.int IntKind.u32 cc, Value.int IntKind.i64 m] 150)).drewN nq) g 151 (vP .u32 .i64 codes) := (HB.out.alloc _).drewN _
      generalize ((wr.alloc (Obj.cells #[Value.int IntKind.u32 cc, Value.int IntKind.i64 m] 150)).drewN nq) = wq at *
      have H2 := Lib.hid (show EmAt w l g A c done 5 (a1 % 2 ^ (N + m)) (N + m) (done ++ emit 5 (a1 % 2 ^ (N + m)) (N + m)) (N + m) wq from ⟨hA2, hB2, hF2, rfl, by omega, rfl, Nat.le_refl _⟩)
      clear hg1 hg2 hor hF2 hA2 hB2 HA HB HF
      go_wp2
      have hN1 : N + m ≤ 37 := by omega
      go_loopw [5, 8] (fun o n wr => ∃ (A : Option Addr) (c : Nat) (dn : List UInt8) (f n' : Nat), o = .slice A (l.length + dn.length) c ∧ n = .int .i64 n' ∧ n' ≤ 37 ∧ dn.length + f = done.length + 5 ∧
        Hid (EmAt w l g A c dn f (a1 % 2 ^ (N + m)) n' (done ++ emit 5 (a1 % 2 ^ (N + m)) (N + m)) (N + m) wr)) (fun _ n _ => (intOf n).toNat)
      case atStart => exact ⟨A, c, done, 5, N + m, rfl, by go_num, hN1, rfl, H2⟩
      case round =>
        obtain ⟨A3, c3, dn, f, n, rfl, rfl, hn37, hdn, hE⟩ := hrel
        clear H2
        obtain ⟨hA, hB, hF, hall, hfu, hleft, hle⟩ := hE.out
        by_cases h8 : 8 ≤ n
        · obtain ⟨f, rfl⟩ : ∃ j, f = j + 1 := ⟨f - 1, by omega⟩
          have HB := Lib.hid (byte_of a1 n (N + m) h8 hle)
          have HE := Lib.hid hall
          have HAll : Hid (done ++ emit 5 (a1 % 2 ^ (N + m)) (N + m) = (dn ++ [UInt8.ofNat (a1 % 2 ^ (N + m) / 2 ^ (n - 8))]) ++ emit f (a1 % 2 ^ (N + m)) (n - 8)) := by
            show _ = _
            rw [hall, emit, if_neg (by omega)]; simp
          have HFU : Hid (n - 8 < 8 * (f + 1) ∧ (n - 8) % 8 = (N + m) % 8 ∧ n - 8 ≤ N + m) := ⟨by omega, by omega, by omega⟩
          have HBk := Lib.hid hB
          clear hE hall hfu hleft hle hB
          go_wp2_with (at_builtin; refine wpList_append_lit u8s rfl rfl rfl hA (Up.new.of hF.size) rfl rfl (one_cell _ rfl) (by omega) ?_; intro A4 c4 w5 hA4 hF4 _ hW4)
          go_roundw
          case rel =>
            have := HFU.out
            refine ⟨A4, c4, dn ++ [UInt8.ofNat (a1 % 2 ^ (N + m) / 2 ^ (n - 8))], f, n - 8, by simp [Nat.add_assoc], by go_num, by omega, ?_, ?_⟩
            · simp; omega
            · refine ⟨?_, ?_, hF.trans hF4, HAll.out, this.1, this.2.1, this.2.2⟩
              · rw [bvs_append, ← List.append_assoc, List.length_append, ← Nat.add_assoc]
                have e : bvs [UInt8.ofNat (a1 % 2 ^ (N + m) / 2 ^ (n - 8))] = [Value.int .u8 ((a1 : Int) / 2 ^ (n - 8) % 256)] := by rw [HB.out]; rfl
                rw [e]
                simpa using hA4
              · exact HBk.out.app hA (by decide) hW4
          case measure => simp [intOf]; omega
        · have HN := Lib.hid (enc_next s k cc m a a1 N n done dn hlt HP.out HS.out (by omega) hleft hle HL.out (by rw [hall, emit_done _ _ _ (by omega)]; simp))
          clear hE hall hfu hleft hle
          go_wp2
          go_roundw
          case rel =>
            refine ⟨k + 1, A3, c3, dn, a1, n, by omega, by go_num, rfl, rfl, rfl, ?_⟩
            exact ⟨hg, by omega, hlt1, hA, hB, hF, HN.out, by omega⟩
          case measure => simp [intOf]; omega
    · obtain rfl : k = s.size := by omega
      obtain ⟨hg, hN, ha, hA, hB, hF, hall, hsh⟩ := hE.out
      have hdr : s.data.toList.drop s.size = [] := List.drop_eq_nil_of_le (by rw [Array.length_toList]; exact Nat.le_refl _)
      rw [hdr, hgo] at hall
      clear hE hB hdr
      by_cases h0 : N = 0
      · rw [if_pos h0, List.append_nil] at hall
        have HA := Lib.hid hall
        subst h0
        clear hall
        go_wp2
        go_ret
        rw [HA.out]
        refine ⟨A, c, by simp, ?_, hF⟩
        rw [bvs_append, List.length_append]; exact hA
      · rw [if_neg h0] at hall
        have HA := Lib.hid hall
        clear hall
        have hlast := last_byte a N (by omega) hN
        have hx255 : a % 2 ^ N * 2 ^ (8 - N) + (2 ^ (8 - N) - 1) ≤ 255 := by
          have hp : 2 ^ N * 2 ^ (8 - N) = 256 := by rw [← Nat.pow_add, show N + (8 - N) = 8 from by omega]
          have hlt : a % 2 ^ N < 2 ^ N := Nat.mod_lt _ (Nat.two_pow_pos N)
          have hm := Nat.mul_le_mul_right (2 ^ (8 - N)) hlt
          rw [hp, Nat.succ_mul] at hm
          have h1 : 1 ≤ 2 ^ (8 - N) := Nat.one_le_two_pow
          omega
        generalize a % 2 ^ N * 2 ^ (8 - N) + (2 ^ (8 - N) - 1) = x at *
        have HB : Hid (Value.int .u8 (x : Int) = bv (UInt8.ofNat x)) := by
          show _ = _
          rw [bv_of (x : Int) (by omega) (by omega), Int.toNat_natCast]
        go_wp2_with (at_builtin; refine wpList_append_lit u8s rfl rfl rfl hA (Up.new.of hF.size) rfl rfl (one_cell _ rfl) (by omega) ?_; intro A4 c4 w5 hA4 hF4 _ _; clear hA)
        go_ret
        rw [HA.out]
        refine ⟨A4, c4, ?_, ?_, hF.trans hF4⟩
        · show Ending.returned (.slice A4 (l.length + done.length + 1) c4) = _
          simp [Nat.add_assoc]
        · rw [bvs_append, bvs_append, List.length_append, List.length_append, ← Nat.add_assoc, ← List.append_assoc]
          have : bvs [UInt8.ofNat x] = [Value.int .u8 (x : Int)] := by rw [HB.out]; rfl
          rw [this]
          simpa using hA4
end Go.Proofs.Ytcebckkpablagaa.M
