/- What the handler calls of Go's library: what these calls return. No condition. -/
import Derived.Test.YtpojejdddgdjdaaGreatDoorRows
import Derived.Test.YtpojejdddgdjdaaGreatDoorFl
import Derived.Test.YtpojejdddgdjdaaGreatDoorLy
import Derived.Lib.AppendIntMem
namespace Go.Proofs.YtpojejdddgdjdaaGreatDoor.M
open Go.ChangeShapes Go.WideShapes Go.ChangeAt Go.RowKit
open Go.Shelf

/-- the digits -/
def digs : Bytes := [48, 49, 50, 51, 52, 53, 54, 55, 56, 57]
def dig (c : UInt8) : Bool := decide (48 ≤ c.toNat ∧ c.toNat ≤ 57)
theorem dig_digs (c : UInt8) : digs.contains c = dig c := by
  have h : ∀ n : Fin 256, digs.contains (UInt8.ofNat n.val) = dig (UInt8.ofNat n.val) := by decide +kernel
  have := h ⟨c.toNat, c.toNat_lt⟩
  simpa using this
theorem dropWhile_nil {α : Type} (p : α → Bool) (l : List α) : l.dropWhile p = [] ↔ ∀ x ∈ l, p x = true := by
  induction l with
  | nil => simp
  | cons x r ih =>
    rw [List.dropWhile_cons]
    by_cases h : p x = true
    · rw [if_pos h, ih]; simp [h]
    · rw [if_neg h]; simp [h]
theorem trimS_digs (s : Bytes) : Lib.trimS s digs = [] ↔ s.all dig = true := by
  unfold Lib.trimS Lib.trimLeftS Lib.trimRightS
  rw [dropWhile_nil, List.all_eq_true]
  constructor
  · intro h x hx
    by_cases hd : dig x = true
    · exact hd
    · exfalso
      have h2 : x ∈ (s.reverse.dropWhile (digs.contains ·)).reverse := by
        rw [List.mem_reverse]
        have : ∀ (l : Bytes), x ∈ l → x ∈ l.dropWhile (digs.contains ·) := by
          intro l
          induction l with
          | nil => intro h; cases h
          | cons y r ih =>
            intro hm
            rw [List.dropWhile_cons]
            by_cases hy : digs.contains y = true
            · rw [if_pos hy]
              rcases List.mem_cons.1 hm with rfl | hm
              · rw [dig_digs] at hy; exact absurd hy hd
              · exact ih hm
            · rw [if_neg hy]; exact hm
        exact this _ (List.mem_reverse.2 hx)
      have := h x h2
      rw [dig_digs] at this
      exact hd this
  · intro h x hx
    rw [dig_digs]
    have h1 := List.mem_reverse.1 hx
    have h2 := (List.dropWhile_suffix (digs.contains ·)).subset h1
    exact h x (List.mem_reverse.1 h2)
/-- a numeral's value -/
def numF (a : Nat) : Bytes → Nat
  | [] => a
  | c :: r => numF (10 * a + (c.toNat - 48)) r
theorem dig_le {c : UInt8} (h : dig c = true) : c.toNat - 48 ≤ 9 := by
  unfold dig at h
  rw [decide_eq_true_iff] at h
  omega
theorem numF_lt (s : Bytes) : ∀ a : Nat, s.all dig = true → numF a s < (a + 1) * 10 ^ s.length := by
  induction s with
  | nil => intro a _; show a < (a + 1) * 1; omega
  | cons c r ih =>
    intro a h
    rw [List.all_cons, Bool.and_eq_true] at h
    have h1 := ih (10 * a + (c.toNat - 48)) h.2
    have h2 := dig_le h.1
    have e2 : numF a (c :: r) = numF (10 * a + (c.toNat - 48)) r := by
      conv => lhs; unfold numF
    rw [e2, List.length_cons, Nat.pow_succ]
    have h3 : 10 * a + (c.toNat - 48) + 1 ≤ (a + 1) * 10 := by omega
    refine Nat.lt_of_lt_of_le h1 (Nat.le_trans (Nat.mul_le_mul_right _ h3) ?_)
    rw [Nat.mul_assoc, Nat.mul_comm 10]
    exact Nat.le_refl _
/-- a key's signs -/
def alnums : Bytes := [97, 98, 99, 100, 101, 102, 103, 104, 105, 106, 107, 108, 109, 110, 111, 112, 113, 114, 115, 116, 117, 118, 119, 120, 121, 122, 48, 49, 50, 51, 52, 53, 54, 55, 56, 57]
def alnum (c : UInt8) : Bool := decide (97 ≤ c.toNat ∧ c.toNat ≤ 122) || decide (48 ≤ c.toNat ∧ c.toNat ≤ 57)
theorem alnum_alnums (c : UInt8) : alnums.contains c = alnum c := by
  have h : ∀ n : Fin 256, alnums.contains (UInt8.ofNat n.val) = alnum (UInt8.ofNat n.val) := by decide +kernel
  have := h ⟨c.toNat, c.toNat_lt⟩
  simpa using this
theorem trimS_alnums (s : Bytes) : Lib.trimS s alnums = [] ↔ s.all alnum = true := by
  unfold Lib.trimS Lib.trimLeftS Lib.trimRightS
  rw [dropWhile_nil, List.all_eq_true]
  constructor
  · intro h x hx
    by_cases hd : alnum x = true
    · exact hd
    · exfalso
      have h2 : x ∈ (s.reverse.dropWhile (alnums.contains ·)).reverse := by
        rw [List.mem_reverse]
        have : ∀ (l : Bytes), x ∈ l → x ∈ l.dropWhile (alnums.contains ·) := by
          intro l
          induction l with
          | nil => intro h; cases h
          | cons y r ih =>
            intro hm
            rw [List.dropWhile_cons]
            by_cases hy : alnums.contains y = true
            · rw [if_pos hy]
              rcases List.mem_cons.1 hm with rfl | hm
              · rw [alnum_alnums] at hy; exact absurd hy hd
              · exact ih hm
            · rw [if_neg hy]; exact hm
        exact this _ (List.mem_reverse.2 hx)
      have := h x h2
      rw [alnum_alnums] at this
      exact hd this
  · intro h x hx
    rw [alnum_alnums]
    have h1 := List.mem_reverse.1 hx
    have h2 := (List.dropWhile_suffix (alnums.contains ·)).subset h1
    exact h x (List.mem_reverse.1 h2)
theorem trimk_any (s : Bytes) (w : World) (hs : s.length ≤ 9223372036854775807) :
    Calls Tryz.prog 73 #[.string ⟨s.toArray⟩, .string { data := #[97, 98, 99, 100, 101, 102, 103, 104, 105, 106, 107, 108, 109, 110, 111, 112, 113, 114, 115, 116, 117, 118, 119, 120, 121, 122, 48, 49, 50, 51, 52, 53, 54, 55, 56, 57] }] w fun e w' => e = .returned (.string ⟨(Lib.trimS s alnums).toArray⟩) ∧ Frm (New w) w w' := by
  refine (Any.strings_Trim_laid lTrim (by kernel_rfl) ⟨s.toArray⟩ ⟨#[97, 98, 99, 100, 101, 102, 103, 104, 105, 106, 107, 108, 109, 110, 111, 112, 113, 114, 115, 116, 117, 118, 119, 120, 121, 122, 48, 49, 50, 51, 52, 53, 54, 55, 56, 57]⟩ w (by simpa [ByteArray.size] using hs) (by decide) (ascii_of_all (by decide))).mono ?_
  rintro e w' ⟨rfl, h⟩
  exact ⟨rfl, Frm.of_below h⟩
theorem cutp_any (s p : Bytes) (w : World) :
    Calls Tryz.prog 50 #[.string ⟨s.toArray⟩, .string ⟨p.toArray⟩] w fun e w' => e = .returned (.tuple #[.string ⟨(Lib.trimPrefix s p).toArray⟩, .bool (Lib.hasPrefix s p)]) ∧ w = w' := by
  refine (Any.strings_CutPrefix lCut ⟨s.toArray⟩ ⟨p.toArray⟩ w).mono ?_
  rintro e w' ⟨rfl, rfl⟩
  exact ⟨rfl, rfl⟩
/-- the library's table of powers stands -/
def PT (w : World) : Prop := Lib.TabIs Tryz.prog w "internal/strconv.uint64pow10" .u64 Lib.pow10Tab
theorem PT.fresh {w w' : World} (h : PT w) (f : Frm (New w) w w') : PT w' := Lib.tabBelow_of_tabIs h w' f.below
theorem itoa_any (n : Nat) (hn : n ≤ 9223372036854775807) (w : World) (hT : PT w) :
    Calls Tryz.prog 54 #[.int .i64 (n : Int)] w fun e w' => e = .returned (.string ⟨(Lib.decDigits n).toArray⟩) ∧ Frm (New w) w w' := by
  refine (Any.strconv_Itoa lItoa (n : Int) (by omega) (by omega) w hT).mono ?_
  rintro e w' ⟨rfl, k, os, rfl⟩
  refine ⟨?_, Frm.of_below (Lib.below_grow w.heap.size w (Nat.le_refl _) k os)⟩
  have e : Lib.itoa (n : Int) = Lib.decDigits n := by
    unfold Lib.itoa
    rw [if_neg (by omega)]
    rfl
  rw [e]
end Go.Proofs.YtpojejdddgdjdaaGreatDoor.M
