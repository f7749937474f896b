/- Package huff: lengths, Len: what they return. The strings are shorter than 2^47. -/
import Derived.Test.YtcebckkpablagaaMem
import Derived.Test.YtcebckkpablagaaArr
namespace Go.Proofs.Ytcebckkpablagaa.M
open Go.ChangeShapes Go.WideShapes Go.ChangeAt Go.RowKit

/-- how many bits each sign's code has -/
def lens : List Nat := [13, 23, 28, 28, 28, 28, 28, 28, 28, 24, 30, 28, 28, 30, 28, 28, 28, 28, 28, 28, 28, 28, 30, 28, 28, 28, 28, 28, 28, 28, 28, 28, 6, 10, 10, 12, 13, 6, 8, 11, 10, 10, 8, 11, 8, 6, 6, 6, 5, 5, 5, 6, 6, 6, 6, 6, 6, 6, 7, 8, 15, 6, 12, 10, 13, 6, 7, 7, 7, 7, 7, 7, 7, 7, 7, 7, 7, 7, 7, 7, 7, 7, 7, 7, 7, 7, 7, 7, 8, 7, 8, 13, 19, 13, 14, 6, 15, 5, 6, 5, 6, 5, 6, 6, 6, 5, 7, 7, 6, 6, 6, 5, 6, 7, 6, 5, 5, 6, 7, 7, 7, 7, 7, 15, 11, 14, 13, 28, 20, 22, 20, 20, 22, 22, 22, 23, 22, 23, 23, 23, 23, 23, 24, 23, 24, 24, 22, 23, 24, 23, 23, 23, 23, 21, 22, 23, 22, 23, 23, 24, 22, 21, 20, 22, 22, 23, 23, 21, 23, 22, 22, 24, 21, 22, 23, 23, 21, 21, 22, 21, 23, 22, 23, 23, 20, 22, 22, 22, 23, 22, 22, 23, 26, 26, 20, 19, 22, 23, 22, 25, 26, 26, 26, 27, 27, 26, 24, 25, 19, 21, 26, 27, 27, 26, 27, 24, 21, 21, 26, 26, 28, 27, 27, 27, 20, 24, 20, 21, 22, 21, 21, 23, 22, 22, 25, 25, 24, 24, 26, 23, 26, 27, 26, 26, 27, 27, 27, 27, 27, 28, 27, 27, 27, 27, 27, 26, 30]
def LENS : Array Value := (lens.map fun n : Nat => Value.int .u8 (n : Int)).toArray
def Z8 (n : Nat) : Array Value := Array.replicate n (.int .u8 0)
theorem Z8_size (n : Nat) : (Z8 n).size = n := by simp [Z8]
theorem lens_length : lens.length = 257 := by decide +kernel
theorem LENS_size : LENS.size = 257 := by decide +kernel
theorem LENS_one : ∀ u ∈ LENS.toList, u.oneCell' = true := fun u hu => by
  simp only [LENS] at hu
  obtain ⟨b, _, rfl⟩ := List.mem_map.1 hu
  rfl
theorem LENS_get (i : Nat) (h : i < 257) : LENS[i]? = some (.int .u8 ((lens.getD i 0 : Nat) : Int)) := by
  have hi : i < lens.length := by rw [lens_length]; exact h
  simp [LENS, List.getElem?_eq_getElem hi]

theorem a147 : Agg Try.prog 147 257 := ⟨⟨_, Try.underlying147, rfl⟩, by kernel_rfl⟩
theorem z147 : (Try.prog.info? 147).map (·.zero) = some (some (.agg (Z8 257))) := by kernel_rfl

set_option maxRecDepth 100000 in
set_option maxHeartbeats 4000000 in
theorem lengths_any (w : World) : Calls Try.prog 91 #[] w fun e w' => e = .returned (.agg LENS) ∧ Frm (New w) w w' := by
  go_enter Try.func91, Try.ntmps91
  go_wp2_with (first
    | (refine wpList_new rfl rfl z147 rfl ?_; intro w1 hb1 hF1 hs1)
    | (refine wpList_store_agg rfl rfl rfl rfl hb1 (by rw [LENS_size]; exact Z8_size 257) LENS_one (by rw [LENS_size]; exact a147.size) ?_; intro w2 hb2 hF2 hs2)
    | (refine wpList_val rfl (.agg LENS) (by kernel_rfl) ?_))
  refine bodyPost_ret (results_agg a147 rfl rfl hb2 LENS_size) rfl ⟨rfl, hF1.trans (hF2.mono (fun k hk => ?_))⟩
  subst hk; exact Nat.le_refl _

/-- how many bits a string's code has -/
def bitsIn (l : List UInt8) : Nat := (l.map fun b => lens.getD b.toNat 0).sum
def hlen (l : List UInt8) : Nat := (bitsIn l + 7) / 8
theorem lens_le : ∀ i, lens.getD i 0 ≤ 30 := by
  have key : ∀ i : Fin 257, lens.getD i.val 0 ≤ 30 := by decide +kernel
  intro i
  by_cases h : i < 257
  · exact key ⟨i, h⟩
  · rw [List.getD_eq_getElem?_getD, List.getElem?_eq_none (by rw [lens_length]; omega)]; exact Nat.zero_le _
theorem bitsIn_snoc (l : List UInt8) (b : UInt8) : bitsIn (l ++ [b]) = bitsIn l + lens.getD b.toNat 0 := by simp [bitsIn]
theorem bitsIn_le (l : List UInt8) : bitsIn l ≤ 30 * l.length := by
  induction l with
  | nil => simp [bitsIn]
  | cons b l ih =>
    have := lens_le b.toNat
    simp only [bitsIn, List.map_cons, List.sum_cons, List.length_cons] at ih ⊢
    omega
theorem take_snoc (s : ByteArray) (k : Nat) (h : k < s.size) : s.data.toList.take (k + 1) = s.data.toList.take k ++ [s[k]] := by
  rw [List.take_succ_eq_append_getElem (by rw [Array.length_toList]; exact h)]; rfl

set_option maxHeartbeats 1000000 in
theorem len_any (s : ByteArray) (w : World) (hs : s.size ≤ 140737488355328) : Calls Try.prog 73 #[.string s] w fun e w' => e = .returned (.int .i64 (hlen s.data.toList : Nat)) ∧ Frm (New w) w w' := by
  go_enter Try.func73, Try.ntmps73
  go_wp2_with (first
    | (go_at_call 91; refine (lengths_any _).mono ?_; rintro e w0 ⟨rfl, hF0⟩)
    | (refine wpList_new rfl rfl z147 rfl ?_; intro w1 hb1 hF1 hs1)
    | (refine wpList_store_agg rfl rfl rfl rfl hb1 (by rw [LENS_size]; exact Z8_size 257) LENS_one (by rw [LENS_size]; exact a147.size) ?_; intro w2 hb2 hF2 hs2))
  have HF : Hid (Frm (New w) w w2) := (hF0.then_new Up.new hF1).trans (hF2.mono (fun k hk => by subst hk; exact hF0.size))
  generalize w0.heap.size = g at *
  have HB := Lib.hid hb2
  clear hF0 hF1 hF2 hs1 hs2 hb1 hb2
  go_loop [4, 9] (fun n i => ∃ k : Nat, k ≤ s.size ∧ i = .int .i64 k ∧ n = .int .i64 (bitsIn (s.data.toList.take k) : Nat)) (fun _ i => s.size - (intOf i).toNat)
  case atStart => exact ⟨0, Nat.zero_le _, rfl, rfl⟩
  case round =>
    obtain ⟨k, hk, rfl, rfl⟩ := hrel
    have hle := bitsIn_le (s.data.toList.take k)
    have htl : (s.data.toList.take k).length ≤ k := List.length_take_le _ _
    by_cases hlt : k < s.size
    · have hb : s[k].toNat < 256 := s[k].toNat_lt
      have hcell : w2.cell? ⟨g, s[k].toNat, none⟩ = some (.int .u8 ((lens.getD s[k].toNat 0 : Nat) : Int)) := by
        rw [HB.out.cell]; exact LENS_get _ (by omega)
      have h30 := lens_le s[k].toNat
      have HS : Hid (bitsIn (s.data.toList.take (k + 1)) = bitsIn (s.data.toList.take k) + lens.getD s[k].toNat 0) := by
        show _ = _
        rw [take_snoc s k hlt, bitsIn_snoc]
      generalize lens.getD s[k].toNat 0 = c at *
      go_wp2
      all_goals
        go_round
        case rel => exact ⟨k + 1, by omega, by go_num, by rw [HS.out]; go_num⟩
        case measure => simp [intOf]; omega
    · obtain rfl : k = s.size := by omega
      have hall : s.data.toList.take s.size = s.data.toList := List.take_of_length_le (by rw [Array.length_toList]; exact Nat.le_refl _)
      rw [hall] at hle ⊢
      have hln : s.data.toList.length = s.size := Array.length_toList
      rw [hln] at hle
      clear hln hall htl
      have HH : Hid (hlen s.data.toList = (bitsIn s.data.toList + 7) / 8) := by show _ = _; rfl
      generalize bitsIn s.data.toList = n at *
      go_wp2
      go_ret
      exact ⟨ret_int (by rw [HH.out]; show ((n : Int) + 7) / 8 = _; omega), HF.out⟩
end Go.Proofs.Ytcebckkpablagaa.M
