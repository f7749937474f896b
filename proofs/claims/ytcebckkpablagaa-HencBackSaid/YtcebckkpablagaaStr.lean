/- henc.Coded, henc.Str and the reference's PutStr: what they return. Bytes and strings shorter than 2^40. -/
import Derived.Test.YtcebckkpablagaaRnum
namespace Go.Proofs.Ytcebckkpablagaa.M
open Go.ChangeShapes Go.WideShapes Go.ChangeAt Go.RowKit

/-- a string, coded where that is shorter; f1 the first byte's bits where it is coded, f0 where it is not -/
def strc (f1 f0 k : Nat) (s : List UInt8) : List UInt8 := if hlen s < s.length then pfx f1 k (hlen s) ++ hcode s else pfx f0 k s.length ++ s

theorem or_bit (f k : Nat) (hf : f ≤ 255) (hk : k ≤ 7) : bits .or .u8 (f : Int) ((2 : Int) ^ k % 256) = ((f ||| 2 ^ k : Nat) : Int) := by
  have key : ∀ k : Fin 8, ∀ f : Fin 256, bits .or .u8 (f.val : Int) ((2 : Int) ^ k.val % 256) = ((f.val ||| 2 ^ k.val : Nat) : Int) := by decide +kernel
  exact key ⟨k, by omega⟩ ⟨f, by omega⟩
theorem clr_bit (f k : Nat) (hf : f ≤ 255) (hk : k ≤ 7) : bits .andNot .u8 (f : Int) ((2 : Int) ^ k % 256) = ((f &&& (255 - 2 ^ k) : Nat) : Int) := by
  have key : ∀ k : Fin 8, ∀ f : Fin 256, bits .andNot .u8 (f.val : Int) ((2 : Int) ^ k.val % 256) = ((f.val &&& (255 - 2 ^ k.val) : Nat) : Int) := by decide +kernel
  exact key ⟨k, by omega⟩ ⟨f, by omega⟩
theorem bit_le (f k : Nat) (hf : f ≤ 255) (hk : k ≤ 7) : f ||| 2 ^ k ≤ 255 ∧ f &&& (255 - 2 ^ k) ≤ 255 := by
  have key : ∀ k : Fin 8, ∀ f : Fin 256, f.val ||| 2 ^ k.val ≤ 255 ∧ f.val &&& (255 - 2 ^ k.val) ≤ 255 := by decide +kernel
  exact key ⟨k, by omega⟩ ⟨f, by omega⟩
theorem hlen_le (l : List UInt8) : hlen l ≤ 4 * l.length + 1 := by
  have := bitsIn_le l
  unfold hlen; omega
theorem size_len (s : ByteArray) : s.data.toList.length = s.size := Array.length_toList
theorem strs_under : Try.prog.underlying 9 = some .string := Try.underlying9

theorem prefix_nat (l : List UInt8) (A : Option Addr) (c : Nat) (f k v : Nat) (w : World) (hR : Rd w A (bvs l)) (hl : l.length ≤ 70368744177664)
    (f1 : f ≤ 255) (k0 : 1 ≤ k) (k1 : k ≤ 8) (v1 : v ≤ 18446744073709551615) :
    Calls Try.prog 75 #[.slice A l.length c, .int .u8 f, .int .i64 k, .int .u64 v] w (RetB w (l ++ pfx f k v)) :=
  prefix_any l A c f k v w hR hl (by omega) (by omega) (by omega) (by omega) (by omega) (by omega)
theorem rprefix_nat (M : Nat → Prop) (l : List UInt8) (A : Option Addr) (c : Nat) (f k v : Nat) (w : World) (hu : Up M w) (hA : App M w 5 1 A l.length c (bvs l)) (hl : l.length ≤ 70368744177664)
    (f1 : f ≤ 255) (k0 : 1 ≤ k) (k1 : k ≤ 8) (v1 : v ≤ 18446744073709551615) :
    Calls Try.prog 39 #[.slice A l.length c, .int .u8 f, .int .i64 k, .int .u64 v] w (RetA M w (l ++ pfx f k v)) :=
  rprefix_any M l A c f k v w hu hA hl (by omega) (by omega) (by omega) (by omega) (by omega) (by omega)

set_option maxRecDepth 100000 in
set_option maxHeartbeats 1000000 in
theorem coded_any (l : List UInt8) (A : Option Addr) (c : Nat) (f k : Nat) (s : ByteArray) (w : World) (hR : Rd w A (bvs l)) (hl : l.length ≤ 1099511627000) (hs : s.size ≤ 1099511627776)
    (f1 : f ≤ 255) (k0 : 1 ≤ k) (k1 : k ≤ 7) :
    Calls Try.prog 48 #[.slice A l.length c, .int .u8 f, .int .i64 k, .string s] w (RetB w (l ++ strc (f ||| 2 ^ k) (f &&& (255 - 2 ^ k)) k s.data.toList)) := by
  have ho := or_bit f k f1 k1
  have hc := clr_bit f k f1 k1
  obtain ⟨b1, b0⟩ := bit_le f k f1 k1
  generalize f ||| 2 ^ k = g1 at *
  generalize f &&& (255 - 2 ^ k) = g0 at *
  have hle := hlen_le s.data.toList
  rw [size_len] at hle
  have hpl1 := pfx_length g1 k (hlen s.data.toList)
  have hpl0 := pfx_length g0 k s.size
  have HS : Hid (strc g1 g0 k s.data.toList = if hlen s.data.toList < s.size then pfx g1 k (hlen s.data.toList) ++ hcode s.data.toList else pfx g0 k s.size ++ s.data.toList) := by
    show _ = _; unfold strc; rw [size_len]
  generalize hx : hlen s.data.toList = x at *
  have HX := Lib.hid hx
  clear hx
  have hlen' : ∀ w, Calls Try.prog 73 #[.string s] w fun e w' => e = .returned (.int .i64 (x : Int)) ∧ Frm (New w) w w' := fun w => by rw [← HX.out]; exact len_any s w (by omega)
  by_cases hlt : x < s.size
  · have HS2 : Hid (l ++ strc g1 g0 k s.data.toList = (l ++ pfx g1 k x) ++ hcode s.data.toList) := by
      show _ = _; rw [HS.out, if_pos hlt, List.append_assoc]
    go_enter Try.func48, Try.ntmps48
    go_wp2_with (first | (go_at_call 73; refine (hlen' _).mono ?_; rintro e w1 ⟨rfl, hF1⟩) | fail)
    refine (prefix_nat l A c g1 k x _ (hR.fresh hF1) (by omega) b1 k0 (by omega) (by omega)).mono ?_
    rintro e w2 ⟨A2, c2, rfl, hA2, hF2⟩
    have hln : (l ++ pfx g1 k x).length ≤ 1099511627020 := by rw [List.length_append]; omega
    generalize l ++ pfx g1 k x = l2 at *
    go_wp2_with fail
    refine (encode_any l2 A2 c2 s _ hA2.rd (by omega) hs).mono ?_
    rintro e w3 ⟨A3, c3, rfl, hA3, hF3⟩
    go_wp2_with fail
    go_ret
    rw [HS2.out]
    exact ⟨A3, c3, by simp, hA3.mono (fun k hk => Nat.le_trans (Nat.le_trans hF1.size hF2.size) hk), (hF1.then_new Up.new hF2).then_new Up.new hF3⟩
  · have HS2 : Hid (l ++ strc g1 g0 k s.data.toList = (l ++ pfx g0 k s.size) ++ s.data.toList) := by
      show _ = _; rw [HS.out, if_neg hlt, List.append_assoc]
    go_enter Try.func48, Try.ntmps48
    go_wp2_with (first | (go_at_call 73; refine (hlen' _).mono ?_; rintro e w1 ⟨rfl, hF1⟩) | fail)
    refine (prefix_nat l A c g0 k s.size _ (hR.fresh hF1) (by omega) b0 k0 (by omega) (by omega)).mono ?_
    rintro e w2 ⟨A2, c2, rfl, hA2, hF2⟩
    have hFF : Frm (New w) w w2 := hF1.then_new Up.new hF2
    have hA2' : App (New w) w2 5 1 A2 (l ++ pfx g0 k s.size).length c2 (bvs (l ++ pfx g0 k s.size)) := hA2.mono (fun k hk => Nat.le_trans hF1.size hk)
    have hln : (l ++ pfx g0 k s.size).length ≤ 1099511627020 := by rw [List.length_append]; omega
    generalize l ++ pfx g0 k s.size = l2 at *
    clear hA2 hF1 hF2
    go_wp2_with (at_builtin; refine wpList_append_string u8s rfl strs_under rfl rfl hA2' (Up.new.of hFF.size) rfl (by omega) ?_; intro A3 c3 w3 hA3 hF3 _ _; clear hA2')
    go_ret
    rw [HS2.out]
    refine ⟨A3, c3, ?_, ?_, hFF.trans hF3⟩
    · show Ending.returned (.slice A3 (l2.length + s.size) c3) = _
      rw [List.length_append, size_len]
    · rw [List.length_append, size_len, bvs_append]; exact hA3

set_option maxRecDepth 100000 in
theorem str_any (l : List UInt8) (A : Option Addr) (c : Nat) (s : ByteArray) (w : World) (hR : Rd w A (bvs l)) (hl : l.length ≤ 1099511627000) (hs : s.size ≤ 1099511627776) :
    Calls Try.prog 16 #[.slice A l.length c, .string s] w (RetB w (l ++ strc 128 0 7 s.data.toList)) := by
  go_enter Try.func16, Try.ntmps16
  go_wp2_with fail
  refine (coded_any l A c 0 7 s w hR hl hs (by omega) (by omega) (by omega)).mono ?_
  rintro e w2 ⟨A2, c2, rfl, hA2, hF2⟩
  go_wp2_with fail
  go_ret
  exact ⟨A2, c2, by simp, hA2, hF2⟩

set_option maxRecDepth 100000 in
set_option maxHeartbeats 1000000 in
theorem putstr_any (M : Nat → Prop) (l : List UInt8) (A : Option Addr) (c : Nat) (f k : Nat) (s : ByteArray) (w : World) (hu : Up M w) (hA : App M w 5 1 A l.length c (bvs l)) (hl : l.length ≤ 1099511627000) (hs : s.size ≤ 1099511627776)
    (f1 : f ≤ 255) (k0 : 1 ≤ k) (k1 : k ≤ 7) :
    Calls Try.prog 17 #[.slice A l.length c, .int .u8 f, .int .i64 k, .string s] w (RetA M w (l ++ strc (f ||| 2 ^ k) f k s.data.toList)) := by
  have ho := or_bit f k f1 k1
  obtain ⟨b1, b0⟩ := bit_le f k f1 k1
  generalize f ||| 2 ^ k = g1 at *
  have hle := hlen_le s.data.toList
  rw [size_len] at hle
  have hpl1 := pfx_length g1 k (hlen s.data.toList)
  have hpl0 := pfx_length f k s.size
  have HS : Hid (strc g1 f k s.data.toList = if hlen s.data.toList < s.size then pfx g1 k (hlen s.data.toList) ++ hcode s.data.toList else pfx f k s.size ++ s.data.toList) := by
    show _ = _; unfold strc; rw [size_len]
  generalize hx : hlen s.data.toList = x at *
  have HX := Lib.hid hx
  clear hx
  have hlen' : ∀ w, Calls Try.prog 49 #[.string s] w fun e w' => e = .returned (.int .i64 (x : Int)) ∧ Frm (New w) w w' := fun w => by rw [← HX.out]; exact rhufflen_any s w (by omega)
  by_cases hlt : x < s.size
  · have HS2 : Hid (l ++ strc g1 f k s.data.toList = (l ++ pfx g1 k x) ++ hcode s.data.toList) := by
      show _ = _; rw [HS.out, if_pos hlt, List.append_assoc]
    go_enter Try.func17, Try.ntmps17
    go_wp2_with (first | (go_at_call 49; refine (hlen' _).mono ?_; rintro e w1 ⟨rfl, hF1⟩) | fail)
    refine (rprefix_nat M l A c g1 k x _ (hu.of hF1.size) (hA.fresh hF1) (by omega) b1 k0 (by omega) (by omega)).mono ?_
    rintro e w2 ⟨A2, c2, rfl, hA2, hF2⟩
    have hFF : Frm M w w2 := (hF1.up hu).trans hF2
    have hln : (l ++ pfx g1 k x).length ≤ 1099511627020 := by rw [List.length_append]; omega
    generalize l ++ pfx g1 k x = l2 at *
    clear hA hF1 hF2
    go_wp2_with fail
    refine (huffman_any M l2 A2 c2 s _ (hu.of hFF.size) hA2 (by omega) hs).mono ?_
    rintro e w3 ⟨A3, c3, rfl, hA3, hF3⟩
    go_wp2_with fail
    go_ret
    rw [HS2.out]
    exact ⟨A3, c3, by simp, hA3, hFF.trans hF3⟩
  · have HS2 : Hid (l ++ strc g1 f k s.data.toList = (l ++ pfx f k s.size) ++ s.data.toList) := by
      show _ = _; rw [HS.out, if_neg hlt, List.append_assoc]
    go_enter Try.func17, Try.ntmps17
    go_wp2_with (first | (go_at_call 49; refine (hlen' _).mono ?_; rintro e w1 ⟨rfl, hF1⟩) | fail)
    refine (rprefix_nat M l A c f k s.size _ (hu.of hF1.size) (hA.fresh hF1) (by omega) f1 k0 (by omega) (by omega)).mono ?_
    rintro e w2 ⟨A2, c2, rfl, hA2, hF2⟩
    have hFF : Frm M w w2 := (hF1.up hu).trans hF2
    have hln : (l ++ pfx f k s.size).length ≤ 1099511627020 := by rw [List.length_append]; omega
    generalize l ++ pfx f k s.size = l2 at *
    clear hA hF1 hF2
    go_wp2_with (at_builtin; refine wpList_append_string u8s rfl strs_under rfl rfl hA2 (hu.of hFF.size) rfl (by omega) ?_; intro A3 c3 w3 hA3 hF3 _ _; clear hA2)
    go_ret
    rw [HS2.out]
    refine ⟨A3, c3, ?_, ?_, hFF.trans hF3⟩
    · show Ending.returned (.slice A3 (l2.length + s.size) c3) = _
      rw [List.length_append, size_len]
    · rw [List.length_append, size_len, bvs_append]; exact hA3
end Go.Proofs.Ytcebckkpablagaa.M
