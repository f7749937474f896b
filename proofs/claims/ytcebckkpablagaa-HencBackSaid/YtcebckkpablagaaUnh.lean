/- The code's levels: facts that are reckoned. No condition. The code read back, in plain words: levels; what is coded is read. No condition. -/
import Derived.Test.YtcebckkpablagaaDecp
namespace Go.Proofs.Ytcebckkpablagaa.M
open Go.ChangeShapes Go.WideShapes Go.ChangeAt Go.RowKit

def fst_ (n : Nat) : Nat := (firstTo 30).getD n 0
def cnt_ (n : Nat) : Nat := (cntTo 257).getD n 0
/-- how many codes are shorter -/
def at_ : Nat → Nat
  | 0 => 0
  | n + 1 => at_ n + cnt_ n
/-- the signs, by their codes -/
def ord_ : List Nat := (List.range 31).flatMap fun n => (List.range 257).filter fun s => lens.getD s 0 == n
theorem lev_next : ∀ n : Fin 30, fst_ (n.val + 1) = 2 * (fst_ n.val + cnt_ n.val) := by decide +kernel
theorem lev_top : fst_ 30 + cnt_ 30 = 1073741824 := by decide +kernel
theorem lev_zero : fst_ 0 = 0 ∧ cnt_ 0 = 0 ∧ fst_ 1 = 0 := by decide +kernel
theorem lev_code : ∀ s : Fin 257, fst_ (codes.getD s.val (0, 0)).2 ≤ (codes.getD s.val (0, 0)).1 ∧ (codes.getD s.val (0, 0)).1 < fst_ (codes.getD s.val (0, 0)).2 + cnt_ (codes.getD s.val (0, 0)).2 := by decide +kernel
theorem lev_look : ∀ n : Fin 31, ∀ k : Fin 257, k.val < cnt_ n.val → look n.val (fst_ n.val + k.val) = ord_[at_ n.val + k.val]? ∧ (ord_[at_ n.val + k.val]?).isSome = true := by decide +kernel
theorem cnt_le : ∀ n : Fin 31, cnt_ n.val ≤ 257 := by decide +kernel

theorem look_code : ∀ s : Fin 257, look (codes.getD s.val (0, 0)).2 (codes.getD s.val (0, 0)).1 = some s.val := by decide +kernel
theorem code_open : ∀ s : Fin 257, ∀ j : Fin 31, 1 ≤ j.val → j.val < (codes.getD s.val (0, 0)).2 → fst_ j.val + cnt_ j.val ≤ (codes.getD s.val (0, 0)).1 / 2 ^ ((codes.getD s.val (0, 0)).2 - j.val) := by decide +kernel
theorem ones_open : ∀ j : Fin 8, 1 ≤ j.val → fst_ j.val + cnt_ j.val ≤ 2 ^ j.val - 1 := by decide +kernel
end Go.Proofs.Ytcebckkpablagaa.M
namespace Go.Proofs.Ytcebckkpablagaa.M
open Go.ChangeShapes Go.WideShapes Go.ChangeAt Go.RowKit

theorem codes_get (s : Nat) (h : s < 257) : codes[s]? = some (codes.getD s (0, 0)) := by
  rw [List.getD_eq_getElem?_getD, List.getElem?_eq_getElem (by rw [codes_length]; exact h)]; rfl
theorem look_some (n c s : Nat) (h : look n c = some s) : s < 257 ∧ codes.getD s (0, 0) = (c, n) := by
  unfold look at h
  rw [List.findIdx?_eq_some_iff_getElem] at h
  obtain ⟨h1, h2, _⟩ := h
  rw [codes_length] at h1
  refine ⟨h1, ?_⟩
  rw [List.getD_eq_getElem?_getD, List.getElem?_eq_getElem (by rw [codes_length]; exact h1)]
  simpa using h2
theorem look_none (n c : Nat) (h : fst_ n + cnt_ n ≤ c) : look n c = none := by
  cases hl : look n c with
  | none => rfl
  | some s =>
    obtain ⟨h1, h2⟩ := look_some n c s hl
    have := lev_code ⟨s, h1⟩
    simp only [h2] at this
    omega
/-- what the walk asks of a level -/
theorem look_lev (n c : Nat) (hn : n ≤ 30) (h0 : fst_ n ≤ c) : (c < fst_ n + cnt_ n → ∃ s, look n c = some s ∧ ord_[at_ n + (c - fst_ n)]? = some s ∧ s < 257) ∧ (fst_ n + cnt_ n ≤ c → look n c = none) := by
  refine ⟨fun h => ?_, look_none n c⟩
  have hc := cnt_le ⟨n, by omega⟩
  simp only at hc
  obtain ⟨h1, h2⟩ := lev_look ⟨n, by omega⟩ ⟨c - fst_ n, by omega⟩ (by simp only; omega)
  simp only at h1 h2
  rw [show fst_ n + (c - fst_ n) = c from by omega] at h1
  cases ho : ord_[at_ n + (c - fst_ n)]? with
  | none => rw [ho] at h2; cases h2
  | some s =>
    rw [ho] at h1
    exact ⟨s, h1, rfl, (look_some n c s h1).1⟩
/-- a beginning of a code that is none yet: c of n bits -/
def Open (n c : Nat) : Prop := (n = 0 ∧ c = 0) ∨ (1 ≤ n ∧ n ≤ 29 ∧ c < 2 ^ n ∧ fst_ n + cnt_ n ≤ c)
theorem Open.zero : Open 0 0 := .inl ⟨rfl, rfl⟩
theorem Open.le {n c : Nat} (h : Open n c) : n ≤ 29 ∧ c < 536870912 := by
  rcases h with ⟨rfl, rfl⟩ | ⟨h1, h2, h3, h4⟩
  · exact ⟨by omega, by omega⟩
  · have : 2 ^ n ≤ 2 ^ 29 := Nat.pow_le_pow_right (by decide) h2
    exact ⟨h2, by omega⟩
theorem Open.step {n c : Nat} (h : Open n c) (x : Nat) (hx : x ≤ 1) : fst_ (n + 1) ≤ 2 * c + x ∧ 2 * c + x < 2 ^ (n + 1) ∧ (look (n + 1) (2 * c + x) = none → Open (n + 1) (2 * c + x)) := by
  have key : fst_ (n + 1) ≤ 2 * c + x ∧ 2 * c + x < 2 ^ (n + 1) ∧ n + 1 ≤ 30 := by
    rcases h with ⟨rfl, rfl⟩ | ⟨h1, h2, h3, h4⟩
    · have := lev_zero.2.2
      exact ⟨by rw [this]; omega, by omega, by omega⟩
    · have := lev_next ⟨n, by omega⟩
      simp only at this
      rw [Nat.pow_succ]
      exact ⟨by omega, by omega, by omega⟩
  obtain ⟨k1, k2, k3⟩ := key
  refine ⟨k1, k2, fun hl => .inr ⟨by omega, ?_, k2, ?_⟩⟩
  · by_cases h30 : n + 1 = 30
    · have ht := lev_top
      rw [h30] at k1 k2 hl
      have := (look_lev 30 (2 * c + x) (by omega) k1).1 (by omega)
      obtain ⟨s, hs, _⟩ := this
      rw [hs] at hl; cases hl
    · omega
  · by_cases hq : 2 * c + x < fst_ (n + 1) + cnt_ (n + 1)
    · obtain ⟨s, hs, _⟩ := (look_lev (n + 1) (2 * c + x) k3 k1).1 hq
      rw [hs] at hl; cases hl
    · omega

/-! what is coded is read -/
/-- n bits of a number, the highest first -/
def cbits (c n : Nat) : List Nat := (List.range n).map fun i => c / 2 ^ (n - 1 - i) % 2
theorem cbits_succ (c n : Nat) : cbits c (n + 1) = (c / 2 ^ n % 2) :: cbits c n := by
  unfold cbits
  rw [List.range_succ_eq_map, List.map_cons, List.map_map]
  congr 1
  apply List.map_congr_left
  intro i hi
  simp only [Function.comp]
  rw [show n + 1 - 1 - (i + 1) = n - 1 - i from by omega]
theorem cbits_zero (c : Nat) : cbits c 0 = [] := rfl
theorem cbits_length (c n : Nat) : (cbits c n).length = n := by simp [cbits]
theorem cbits_mod (c n m : Nat) (h : n ≤ m) : cbits (c % 2 ^ m) n = cbits c n := by
  induction n with
  | zero => rfl
  | succ n ih =>
    rw [cbits_succ, cbits_succ, ih (by omega)]
    congr 1
    have e : 2 ^ m = 2 ^ n * 2 ^ (m - n) := by rw [← Nat.pow_add]; congr 1; omega
    rw [e, Nat.mod_mul_right_div_self]
    obtain ⟨j, hj⟩ : ∃ j, m - n = j + 1 := ⟨m - n - 1, by omega⟩
    rw [hj, Nat.pow_succ, Nat.mul_comm (2 ^ j), Nat.mod_mul_right_mod]
theorem cbits_cat (a c n m : Nat) (hc : c < 2 ^ m) : cbits (a * 2 ^ m + c) (n + m) = cbits a n ++ cbits c m := by
  induction n with
  | zero =>
    simp only [Nat.zero_add, cbits_zero, List.nil_append]
    rw [← cbits_mod (a * 2 ^ m + c) m m (Nat.le_refl _), Nat.mul_comm, Nat.mul_add_mod, Nat.mod_eq_of_lt hc]
  | succ n ih =>
    rw [show n + 1 + m = n + m + 1 from by omega, cbits_succ, cbits_succ, ih, List.cons_append]
    congr 1
    rw [Nat.pow_add, Nat.mul_comm (2 ^ n), ← Nat.div_div_eq_div_mul, Nat.mul_comm a, Nat.mul_add_div (Nat.two_pow_pos m), Nat.div_eq_of_lt hc, Nat.add_zero]
theorem bit8_cbits (x : Nat) : bit8 (UInt8.ofNat x) = cbits x 8 := by
  have h : (UInt8.ofNat x).toNat = x % 2 ^ 8 := by simp
  rw [← cbits_mod x 8 8 (Nat.le_refl _)]
  unfold bit8
  rw [h]
  simp [cbits, List.range, List.range.loop]
theorem cbits_split (c n k : Nat) (h : k ≤ n) : cbits c n = cbits (c / 2 ^ k) (n - k) ++ cbits c k := by
  have h1 := cbits_cat (c / 2 ^ k) (c % 2 ^ k) (n - k) k (Nat.mod_lt _ (Nat.two_pow_pos k))
  rw [cbits_mod c k k (Nat.le_refl _), Nat.mul_comm, Nat.div_add_mod, show n - k + k = n from by omega] at h1
  exact h1
theorem ubits_emit : ∀ (f acc n : Nat), n < 8 * f + 8 → ubits (emit f acc n) ++ cbits acc (n % 8) = cbits acc n
  | 0, acc, n, h => by rw [Nat.mod_eq_of_lt (by omega)]; rfl
  | f + 1, acc, n, h => by
    unfold emit
    split
    · rw [Nat.mod_eq_of_lt (by omega)]; rfl
    · have ih := ubits_emit f acc (n - 8) (by omega)
      rw [show (n - 8) % 8 = n % 8 from by omega] at ih
      rw [show ubits (UInt8.ofNat (acc / 2 ^ (n - 8)) :: emit f acc (n - 8)) = bit8 (UInt8.ofNat (acc / 2 ^ (n - 8))) ++ ubits (emit f acc (n - 8)) from by simp [ubits], List.append_assoc, ih, bit8_cbits]
      have := cbits_split acc n (n - 8) (by omega)
      rw [show n - (n - 8) = 8 from by omega] at this
      exact this.symm
/-- a string's bits -/
def sbits (l : Bytes) : List Nat := l.flatMap fun b => cbits (codes.getD b.toNat (0, 0)).1 (codes.getD b.toNat (0, 0)).2
theorem cbits_ones (m : Nat) : cbits (2 ^ m - 1) m = List.replicate m 1 := by
  induction m with
  | zero => rfl
  | succ m ih =>
    rw [cbits_succ, List.replicate_succ]
    have hp : 0 < 2 ^ m := Nat.two_pow_pos m
    have h1 : 2 ^ (m + 1) - 1 = 1 * 2 ^ m + (2 ^ m - 1) := by rw [Nat.pow_succ]; omega
    congr 1
    · rw [h1, Nat.mul_comm, Nat.mul_add_div hp, Nat.div_eq_of_lt (by omega)]
    · rw [← ih, ← cbits_mod (2 ^ (m + 1) - 1) m m (Nat.le_refl _), h1, Nat.mul_comm, Nat.mul_add_mod, Nat.mod_eq_of_lt (by omega)]
theorem ubits_hgo : ∀ (l : Bytes) (acc n : Nat), n < 8 → ∃ k, k < 8 ∧ ubits (hgo l acc n) = cbits acc n ++ sbits l ++ List.replicate k 1 ∧ (n + (sbits l).length + k) % 8 = 0
  | [], acc, n, hn => by
    unfold hgo
    by_cases h0 : n = 0
    · subst h0; exact ⟨0, by omega, by simp [ubits, cbits, sbits], by simp [sbits]⟩
    · rw [if_neg h0]
      refine ⟨8 - n, by omega, ?_, by simp [sbits]; omega⟩
      have e := cbits_cat acc (2 ^ (8 - n) - 1) n (8 - n) (by have := Nat.two_pow_pos (8 - n); omega)
      rw [show n + (8 - n) = 8 from by omega, cbits_ones] at e
      show bit8 _ ++ [] = _
      rw [bit8_cbits, e]
      simp [sbits]
  | b :: r, acc, n, hn => by
    have hf := codes_fit ⟨b.toNat, by have := b.toNat_lt; omega⟩
    simp only at hf
    unfold hgo
    simp only
    generalize hp : codes.getD b.toNat (0, 0) = p at *
    have hs : sbits (b :: r) = cbits p.1 p.2 ++ sbits r := by simp only [sbits, List.flatMap_cons, hp]
    obtain ⟨k, hk, h1, h2⟩ := ubits_hgo r ((acc * 2 ^ p.2 + p.1) % 2 ^ ((n + p.2) % 8)) ((n + p.2) % 8) (Nat.mod_lt _ (by decide))
    refine ⟨k, hk, ?_, ?_⟩
    · rw [ubits_append, h1, cbits_mod _ _ _ (Nat.le_refl _), ← List.append_assoc, ← List.append_assoc, ubits_emit 5 _ _ (by omega), cbits_cat _ _ _ _ hf.1, hs]
      simp only [List.append_assoc]
    · rw [hs, List.length_append, cbits_length]; omega
theorem sbits_length (l : Bytes) : (sbits l).length = bitsIn l := by
  induction l with
  | nil => rfl
  | cons b r ih =>
    have hc := codes_lens ⟨b.toNat, by have := b.toNat_lt; omega⟩
    simp only at hc
    simp only [sbits, bitsIn, List.flatMap_cons, List.length_append, List.map_cons, List.sum_cons] at ih ⊢
    rw [ih, cbits_length, hc]
theorem hcode_length (l : Bytes) : (hcode l).length = hlen l := by
  obtain ⟨k, hk, h1, h2⟩ := ubits_hgo l 0 0 (by omega)
  have h3 := congrArg List.length h1
  rw [ubits_length, List.length_append, List.length_append, List.length_replicate, sbits_length] at h3
  rw [sbits_length] at h2
  unfold hlen
  show (hgo l 0 0).length = _
  simp only [cbits_zero, List.length_nil] at h3
  omega
/-- j bits of a code are read, the last one is not -/
theorem ugo_bits (s : Nat) (hs : s < 257) (rest : List Nat) (out : Bytes) : ∀ (j : Nat), j < (codes.getD s (0, 0)).2 → ∃ ones', ugo (cbits (codes.getD s (0, 0)).1 (codes.getD s (0, 0)).2 ++ rest) 0 0 true out =
    ugo (cbits (codes.getD s (0, 0)).1 ((codes.getD s (0, 0)).2 - j) ++ rest) ((codes.getD s (0, 0)).1 / 2 ^ ((codes.getD s (0, 0)).2 - j)) j ones' out
  | 0, h => by
    have hf := (codes_fit ⟨s, hs⟩).1
    simp only at hf
    exact ⟨true, by rw [Nat.sub_zero, Nat.div_eq_of_lt hf]⟩
  | j + 1, h => by
    obtain ⟨o, ih⟩ := ugo_bits s hs rest out j (by omega)
    have ho := code_open ⟨s, hs⟩ ⟨j + 1, by have := (codes_fit ⟨s, hs⟩).2.1; simp only at this; omega⟩ (by simp) h
    simp only at ho
    rw [ih]
    generalize (codes.getD s (0, 0)).1 = c at *
    generalize (codes.getD s (0, 0)).2 = m at *
    obtain ⟨q, hq⟩ : ∃ q, m - j = q + 1 := ⟨m - j - 1, by omega⟩
    have hq2 : m - (j + 1) = q := by omega
    rw [hq2] at ho ⊢
    rw [hq]
    have e : 2 * (c / 2 ^ (q + 1)) + c / 2 ^ q % 2 = c / 2 ^ q := by
      rw [Nat.pow_succ, ← Nat.div_div_eq_div_mul]; omega
    rw [cbits_succ, List.cons_append, ugo_none _ _ _ (by rw [e]; exact look_none _ _ ho), e]
    exact ⟨_, rfl⟩
theorem ugo_sign (s : Nat) (hs : s < 256) (rest : List Nat) (out : Bytes) (hl : out.length < 4096) :
    ugo (cbits (codes.getD s (0, 0)).1 (codes.getD s (0, 0)).2 ++ rest) 0 0 true out = ugo rest 0 0 true (out ++ [UInt8.ofNat s]) := by
  have hf := codes_fit ⟨s, by omega⟩
  have hk := look_code ⟨s, by omega⟩
  simp only at hf hk
  obtain ⟨o, ih⟩ := ugo_bits s (by omega) rest out ((codes.getD s (0, 0)).2 - 1) (by omega)
  rw [ih]
  generalize (codes.getD s (0, 0)).1 = c at *
  generalize (codes.getD s (0, 0)).2 = m at *
  have e : 2 * (c / 2 ^ (0 + 1)) + c / 2 ^ 0 % 2 = c := by
    rw [Nat.pow_zero, Nat.div_one, Nat.zero_add, Nat.pow_one]; omega
  have e2 : m - 1 + 1 = m := by omega
  rw [show m - (m - 1) = 0 + 1 from by omega, cbits_succ, List.cons_append, ugo_some _ _ _ (by rw [e, e2]; exact hk), if_neg (by omega), if_neg (by omega), cbits_zero, List.nil_append]
theorem ugo_pad (k : Nat) (out : Bytes) : ∀ (m j : Nat), j + m = k → k < 8 → ugo (List.replicate m 1) (2 ^ j - 1) j true out = (out, 0)
  | 0, j, h, hk => by
    rw [show List.replicate 0 1 = ([] : List Nat) from rfl, ugo_nil, if_neg (by simp; omega)]
  | m + 1, j, h, hk => by
    have ho := ones_open ⟨j + 1, by omega⟩ (by simp)
    simp only at ho
    have hp := Nat.two_pow_pos j
    have e : 2 * (2 ^ j - 1) + 1 = 2 ^ (j + 1) - 1 := by rw [Nat.pow_succ]; omega
    rw [List.replicate_succ, ugo_none _ _ _ (by rw [e]; exact look_none _ _ ho), e]
    exact ugo_pad k out m (j + 1) (by omega) hk
theorem ugo_signs : ∀ (l : Bytes) (rest : List Nat) (out : Bytes), out.length + l.length ≤ 4096 → ugo (sbits l ++ rest) 0 0 true out = ugo rest 0 0 true (out ++ l)
  | [], rest, out, h => by simp [sbits]
  | b :: r, rest, out, h => by
    have hb := b.toNat_lt
    simp only [List.length_cons] at h
    have e : sbits (b :: r) = cbits (codes.getD b.toNat (0, 0)).1 (codes.getD b.toNat (0, 0)).2 ++ sbits r := by simp [sbits]
    rw [e, List.append_assoc, ugo_sign b.toNat (by omega) _ _ (by omega), ugo_signs r rest _ (by simp; omega)]
    simp
/-- what is coded is read -/
theorem unhuf_hcode (l : Bytes) (h : l.length ≤ 4096) : unhuf (hcode l) = (l, 0) := by
  obtain ⟨k, hk, h1, _⟩ := ubits_hgo l 0 0 (by omega)
  unfold unhuf hcode
  rw [h1, cbits_zero, List.nil_append, ugo_signs l _ _ (by simpa using h), List.nil_append]
  exact ugo_pad k l k 0 (by omega) hk
end Go.Proofs.Ytcebckkpablagaa.M
