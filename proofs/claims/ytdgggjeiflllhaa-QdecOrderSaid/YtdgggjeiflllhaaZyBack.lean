/- Back -/
import Derived.Test.YtdgggjeiflllhaaZyDecp
import Derived.Test.YtdgggjeiflllhaaZyEncp

namespace Go.Proofs.Ytdgggjeiflllhaa.M
open Go.ChangeShapes Go.WideShapes Go.ChangeAt Go.RowKit
theorem rdMore_more : ∀ (f v g i x : Nat) (r : Bytes), 1 ≤ i → f < g → v < 128 ^ (f + 1) → x + v * 2 ^ (7 * (i - 1)) ≤ 4611686018427387903 → rdMore g i x (more f v ++ r) = (x + v * 2 ^ (7 * (i - 1)), i + (more f v).length, 0)
  | f, v, 0, i, x, r, _, hg, _, _ => by omega
  | 0, v, g + 1, i, x, r, hi, hg, hv, hx => by
    have hv' : v < 128 := by simpa using hv
    have hb : (UInt8.ofNat v).toNat = v := by simp; omega
    have hm : v % 128 = v := Nat.mod_eq_of_lt hv'
    have hd : ¬ (4611686018427387903 - x) / 2 ^ (7 * (i - 1)) < v := by
      have : v ≤ (4611686018427387903 - x) / 2 ^ (7 * (i - 1)) := (Nat.le_div_iff_mul_le (Nat.two_pow_pos _)).2 (by omega)
      omega
    simp only [more, List.cons_append, List.nil_append, rdMore, hb, hm]
    rw [if_neg hd, if_pos hv']
    simp
  | f + 1, v, g + 1, i, x, r, hi, hg, hv, hx => by
    by_cases hs : v < 128
    · have hb : (UInt8.ofNat v).toNat = v := by simp; omega
      have hm : v % 128 = v := Nat.mod_eq_of_lt hs
      have hd : ¬ (4611686018427387903 - x) / 2 ^ (7 * (i - 1)) < v := by
        have : v ≤ (4611686018427387903 - x) / 2 ^ (7 * (i - 1)) := (Nat.le_div_iff_mul_le (Nat.two_pow_pos _)).2 (by omega)
        omega
      simp only [more, if_pos hs, List.cons_append, List.nil_append, rdMore, hb, hm]
      rw [if_neg hd]
      simp
    · have hb : (UInt8.ofNat (v % 128 + 128)).toNat = v % 128 + 128 := by simp; omega
      have hm : (v % 128 + 128) % 128 = v % 128 := by omega
      have hmul : v * 2 ^ (7 * (i - 1)) = v % 128 * 2 ^ (7 * (i - 1)) + v / 128 * 2 ^ (7 * (i + 1 - 1)) := by
        have e : 2 ^ (7 * (i + 1 - 1)) = 128 * 2 ^ (7 * (i - 1)) := by
          rw [show 7 * (i + 1 - 1) = 7 + 7 * (i - 1) from by omega, Nat.pow_add]
        rw [e, ← Nat.mul_assoc, ← Nat.add_mul]
        congr 1
        omega
      have hd : ¬ (4611686018427387903 - x) / 2 ^ (7 * (i - 1)) < v % 128 := by
        have : v % 128 ≤ (4611686018427387903 - x) / 2 ^ (7 * (i - 1)) := (Nat.le_div_iff_mul_le (Nat.two_pow_pos _)).2 (by omega)
        omega
      have hv2 : v / 128 < 128 ^ (f + 1) := by
        rw [Nat.pow_succ] at hv
        exact Nat.div_lt_of_lt_mul (by rw [Nat.mul_comm]; exact hv)
      have ih := rdMore_more f (v / 128) g (i + 1) (x + v % 128 * 2 ^ (7 * (i - 1))) r (by omega) (by omega) hv2 (by omega)
      simp only [more, if_neg hs, List.cons_append, rdMore, hb, hm]
      rw [if_neg hd, if_neg (by omega), ih]
      simp only [List.length_cons, Prod.mk.injEq, and_true]
      exact ⟨by omega, by omega⟩
theorem more_up : ∀ (f v : Nat), v < 128 ^ (f + 1) → more (f + 1) v = more f v
  | 0, v, h => by
    have : v < 128 := by simpa using h
    simp [more, this]
  | f + 1, v, h => by
    by_cases hs : v < 128
    · simp [more, hs]
    · have ih := more_up f (v / 128) (by
        rw [Nat.pow_succ] at h
        exact Nat.div_lt_of_lt_mul (by rw [Nat.mul_comm]; exact h))
      rw [more, if_neg hs, ih, more, if_neg hs]
theorem rdp_pfx (f k v : Nat) (r : Bytes) (hf : f ≤ 255) (k1 : k ≤ 8) (hv : v ≤ 4611686018427387903) : rdp (pfx f k v ++ r) k = (v, (pfx f k v).length, 0) := by
  unfold pfx
  have hpos := Nat.two_pow_pos k
  by_cases h : v < 2 ^ k - 1
  · have hh := head_le f k v hf k1 (by omega)
    have hb : (UInt8.ofNat (f / 2 ^ k * 2 ^ k + v)).toNat = f / 2 ^ k * 2 ^ k + v := by simp; omega
    have hm : (f / 2 ^ k * 2 ^ k + v) % 2 ^ k = v := by rw [Nat.mul_comm, Nat.mul_add_mod]; exact Nat.mod_eq_of_lt (by omega)
    rw [if_pos h]
    simp only [List.cons_append, List.nil_append, rdp, hb, hm]
    rw [if_pos h]
    rfl
  · have hh := head_le f k (2 ^ k - 1) hf k1 (by omega)
    have hb : (UInt8.ofNat (f / 2 ^ k * 2 ^ k + (2 ^ k - 1))).toNat = f / 2 ^ k * 2 ^ k + (2 ^ k - 1) := by simp; omega
    have hm : (f / 2 ^ k * 2 ^ k + (2 ^ k - 1)) % 2 ^ k = 2 ^ k - 1 := by rw [Nat.mul_comm, Nat.mul_add_mod]; exact Nat.mod_eq_of_lt (by omega)
    have := rdMore_more 9 (v - (2 ^ k - 1)) 10 1 (2 ^ k - 1) r (by omega) (by omega) (by omega) (by omega)
    rw [if_neg h]
    simp only [List.cons_append, rdp, hb, hm]
    rw [if_neg (by omega)]
    have e : more 10 (v - (2 ^ k - 1)) = more 9 (v - (2 ^ k - 1)) := more_up _ _ (by omega)
    rw [e, this]
    simp only [List.length_cons, Prod.mk.injEq, and_true]
    exact ⟨by omega, by omega⟩
theorem pfx_head (f k v : Nat) (r : Bytes) (hf : f ≤ 255) (k1 : k ≤ 8) : ∃ x t, pfx f k v ++ r = x :: t ∧ x.toNat / 2 ^ k = f / 2 ^ k := by
  unfold pfx
  have hpos := Nat.two_pow_pos k
  by_cases h : v < 2 ^ k - 1
  · have hh := head_le f k v hf k1 (by omega)
    have hb : (UInt8.ofNat (f / 2 ^ k * 2 ^ k + v)).toNat = f / 2 ^ k * 2 ^ k + v := by simp; omega
    rw [if_pos h]
    refine ⟨_, r, rfl, ?_⟩
    rw [hb, Nat.mul_comm, Nat.mul_add_div hpos, Nat.div_eq_of_lt (a := v) (by omega), Nat.add_zero]
  · have hh := head_le f k (2 ^ k - 1) hf k1 (by omega)
    have hb : (UInt8.ofNat (f / 2 ^ k * 2 ^ k + (2 ^ k - 1))).toNat = f / 2 ^ k * 2 ^ k + (2 ^ k - 1) := by simp; omega
    rw [if_neg h]
    refine ⟨_, _, rfl, ?_⟩
    rw [hb, Nat.mul_comm, Nat.mul_add_div hpos, Nat.div_eq_of_lt (a := 2 ^ k - 1) (by omega), Nat.add_zero]
theorem pfx_headD (f k v : Nat) (r : Bytes) (hf : f ≤ 255) (k1 : k ≤ 8) : ((pfx f k v ++ r).headD 0).toNat / 2 ^ k = f / 2 ^ k := by
  obtain ⟨x, t, h1, h2⟩ := pfx_head f k v r hf k1
  rw [h1]; exact h2
theorem strD_plain (s r : Bytes) (h : s.length ≤ 4096) : strD (pfx 0 7 s.length ++ s ++ r) 7 = (s, (pfx 0 7 s.length ++ s).length, 0) := by
  rw [List.append_assoc]
  have h1 := rdp_pfx 0 7 s.length (s ++ r) (by omega) (by omega) (by omega)
  have h2 := pfx_headD 0 7 s.length (s ++ r) (by omega) (by omega)
  unfold strD
  rw [h1]
  simp only
  rw [if_neg (by simp), if_neg (by omega), if_neg (by simp), h2, if_pos (by decide)]
  simp
theorem strD_coded (s r : Bytes) (h : s.length ≤ 4096) (hh : hlen s ≤ 4096) : strD (pfx 128 7 (hlen s) ++ hcode s ++ r) 7 = (s, (pfx 128 7 (hlen s) ++ hcode s).length, 0) := by
  rw [List.append_assoc]
  have h1 := rdp_pfx 128 7 (hlen s) (hcode s ++ r) (by omega) (by omega) (by omega)
  have h2 := pfx_headD 128 7 (hlen s) (hcode s ++ r) (by omega) (by omega)
  have h3 := hcode_length s
  have h4 := unhuf_hcode s h
  unfold strD
  rw [h1]
  simp only
  rw [if_neg (by simp), if_neg (by omega), if_neg (by simp [h3]), h2, if_neg (by decide)]
  have e : ((pfx 128 7 (hlen s) ++ (hcode s ++ r)).drop (pfx 128 7 (hlen s)).length).take (hlen s) = hcode s := by
    rw [List.drop_left, ← h3, List.take_left]
  rw [e, h4]
  simp [h3]
theorem strD_strc (s r : Bytes) (h : s.length ≤ 4096) : strD (strc 128 0 7 s ++ r) 7 = (s, (strc 128 0 7 s).length, 0) := by
  unfold strc
  split
  · exact strD_coded s r h (by omega)
  · exact strD_plain s r h
theorem fldAt_get {l : List Fld} {f : Fld} {i : Nat} (h : fldAt l f = some i) : l[i]? = some f := by
  unfold fldAt at h
  rw [List.findIdx?_eq_some_iff_getElem] at h
  obtain ⟨h1, h2, _⟩ := h
  rw [List.getElem?_eq_getElem h1]
  simpa using h2
theorem nameAt_get {l : List Fld} {n : Bytes} {i : Nat} (h : nameAt l n = some i) : ∃ g, l[i]? = some g ∧ g.1 = n := by
  unfold nameAt at h
  rw [List.findIdx?_eq_some_iff_getElem] at h
  obtain ⟨h1, h2, _⟩ := h
  exact ⟨l[i], List.getElem?_eq_getElem h1, by simpa using h2⟩
theorem lastAt_get {κ : Type} [DecidableEq κ] (key : Fld → κ) (k : κ) : ∀ (l : List Fld) (b i : Nat), lastAt key k b l = some i → b ≤ i ∧ ∃ g, l[i - b]? = some g ∧ key g = k
  | [], b, i, h => by cases h
  | x :: r, b, i, h => by
    unfold lastAt at h
    cases hr : lastAt key k (b + 1) r with
    | some j =>
      rw [hr] at h
      obtain ⟨h1, g, h2, h3⟩ := lastAt_get key k r (b + 1) j hr
      simp at h
      subst h
      refine ⟨by omega, g, ?_, h3⟩
      rw [show j - b = (j - (b + 1)) + 1 from by omega, List.getElem?_cons_succ]
      exact h2
    | none =>
      rw [hr] at h
      simp only at h
      split at h
      · rename_i e
        simp at h
        subst h
        exact ⟨Nat.le_refl _, x, by simp, e⟩
      · cases h
end Go.Proofs.Ytdgggjeiflllhaa.M

