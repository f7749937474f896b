/- Decp -/
import Derived.Test.YtdgggjeiflllhaaZyEncp
import Derived.Test.YtdgggjeiflllhaaZyMem

namespace Go.Proofs.Ytdgggjeiflllhaa.M
open Go.ChangeShapes Go.WideShapes Go.ChangeAt Go.RowKit
def bit8 (b : UInt8) : List Nat := [b.toNat / 128 % 2, b.toNat / 64 % 2, b.toNat / 32 % 2, b.toNat / 16 % 2, b.toNat / 8 % 2, b.toNat / 4 % 2, b.toNat / 2 % 2, b.toNat % 2]
def ubits (b : Bytes) : List Nat := b.flatMap bit8
theorem ubits_length (b : Bytes) : (ubits b).length = 8 * b.length := by
  induction b with
  | nil => rfl
  | cons x r ih => simp only [ubits, List.flatMap_cons, List.length_append, List.length_cons] at ih ⊢; rw [ih]; simp [bit8]; omega
theorem ubits_append (a b : Bytes) : ubits (a ++ b) = ubits a ++ ubits b := by simp [ubits]
theorem bit8_get (x : UInt8) (i : Nat) (h : i < 8) : (bit8 x)[i]? = some (x.toNat / 2 ^ (7 - i) % 2) := by
  obtain rfl | rfl | rfl | rfl | rfl | rfl | rfl | rfl : i = 0 ∨ i = 1 ∨ i = 2 ∨ i = 3 ∨ i = 4 ∨ i = 5 ∨ i = 6 ∨ i = 7 := by omega
  all_goals simp [bit8]
theorem ubits_get : ∀ (b : Bytes) (i : Nat) (h : i / 8 < b.length), (ubits b)[i]? = some (b[i / 8].toNat / 2 ^ (7 - i % 8) % 2)
  | [], i, h => by simp at h
  | x :: r, i, h => by
    have e : ubits (x :: r) = bit8 x ++ ubits r := by simp [ubits]
    have hl : (bit8 x).length = 8 := rfl
    rw [e]
    by_cases h8 : i < 8
    · rw [List.getElem?_append_left (by omega), bit8_get x i h8]
      have e0 : i / 8 = 0 := by omega
      have e1 : i % 8 = i := by omega
      simp [e0, e1]
    · rw [List.getElem?_append_right (by omega), hl, ubits_get r (i - 8) (by simp at h; omega)]
      have e0 : i / 8 = (i - 8) / 8 + 1 := by omega
      have e1 : (i - 8) % 8 = i % 8 := by omega
      simp only [e0, e1, List.getElem_cons_succ]
theorem ubits_drop (b : Bytes) (i : Nat) (h : i / 8 < b.length) : (ubits b).drop i = (b[i / 8].toNat / 2 ^ (7 - i % 8) % 2) :: (ubits b).drop (i + 1) := by
  have hl := ubits_length b
  have hi : i < (ubits b).length := by omega
  have h1 := ubits_get b i h
  rw [List.getElem?_eq_getElem hi] at h1
  injection h1 with h1
  rw [← h1]
  exact List.drop_eq_getElem_cons hi
def look (n c : Nat) : Option Nat := codes.findIdx? fun p => decide (p = (c, n))
def ugoF (lk : Nat → Nat → Option Nat) : List Nat → Nat → Nat → Bool → Bytes → Bytes × Nat
  | [], _, n, ones, out => if 8 ≤ n ∨ ones = false then ([], 22) else (out, 0)
  | x :: r, c, n, ones, out =>
    match lk (n + 1) (2 * c + x) with
    | none => ugoF lk r (2 * c + x) (n + 1) (ones && x == 1) out
    | some s => if s = 256 then ([], 22) else if 4096 ≤ out.length then ([], 23) else ugoF lk r 0 0 true (out ++ [UInt8.ofNat s])
theorem ugoF_nil {lk : Nat → Nat → Option Nat} (c n : Nat) (ones : Bool) (out : Bytes) : ugoF lk [] c n ones out = if 8 ≤ n ∨ ones = false then ([], 22) else (out, 0) := rfl
theorem ugoF_none {lk : Nat → Nat → Option Nat} {x c n : Nat} (r : List Nat) (ones : Bool) (out : Bytes) (h : lk (n + 1) (2 * c + x) = none) : ugoF lk (x :: r) c n ones out = ugoF lk r (2 * c + x) (n + 1) (ones && x == 1) out := by
  simp only [ugoF, h]
theorem ugoF_some {lk : Nat → Nat → Option Nat} {x c n s : Nat} (r : List Nat) (ones : Bool) (out : Bytes) (h : lk (n + 1) (2 * c + x) = some s) :
    ugoF lk (x :: r) c n ones out = if s = 256 then ([], 22) else if 4096 ≤ out.length then ([], 23) else ugoF lk r 0 0 true (out ++ [UInt8.ofNat s]) := by
  simp only [ugoF, h]
def ugo : List Nat → Nat → Nat → Bool → Bytes → Bytes × Nat := ugoF look
theorem ugo_nil (c n : Nat) (ones : Bool) (out : Bytes) : ugo [] c n ones out = if 8 ≤ n ∨ ones = false then ([], 22) else (out, 0) := ugoF_nil c n ones out
theorem ugo_none {x c n : Nat} (r : List Nat) (ones : Bool) (out : Bytes) (h : look (n + 1) (2 * c + x) = none) : ugo (x :: r) c n ones out = ugo r (2 * c + x) (n + 1) (ones && x == 1) out := ugoF_none r ones out h
theorem ugo_some {x c n s : Nat} (r : List Nat) (ones : Bool) (out : Bytes) (h : look (n + 1) (2 * c + x) = some s) :
    ugo (x :: r) c n ones out = if s = 256 then ([], 22) else if 4096 ≤ out.length then ([], 23) else ugo r 0 0 true (out ++ [UInt8.ofNat s]) := ugoF_some r ones out h
def unhuf (b : Bytes) : Bytes × Nat := ugo (ubits b) 0 0 true []
def strD (b : Bytes) (k : Nat) : Bytes × Nat × Nat :=
  match rdp b k with
  | (n, at_, e) =>
    if e ≠ 0 then ([], 0, e) else if 4096 < n then ([], 0, 23) else if b.length - at_ < n then ([], 0, 20) else
    if (b.headD 0).toNat / 2 ^ k % 2 = 0 then ((b.drop at_).take n, at_ + n, 0) else
    match unhuf ((b.drop at_).take n) with
    | (s, e) => if e ≠ 0 then ([], 0, e) else (s, at_ + n, 0)
def entryS (T : Tb) (i : Nat) : Option Fld :=
  if i = 0 then none else if i ≤ 61 then h2tab[i - 1]? else if i - 62 < T.l.length then T.l[T.l.length - 1 - (i - 62)]? else none
def nameD (T : Tb) (i : Nat) (b : Bytes) : Option (Bytes × Bytes) :=
  if i = 0 then (match strD b 7 with | (s, k, e) => if e = 0 then some (s, b.drop k) else none) else (entryS T i).map fun g => (g.1, b)
def litD (T : Tb) (k : Nat) (b : Bytes) : Option (Fld × Bytes) :=
  match rdp b k with
  | (i, at_, e) => if e ≠ 0 then none else
    match nameD T i (b.drop at_) with
    | none => none
    | some (n, r) => match strD r 7 with
      | (s, at_, e) => if e = 0 then some ((n, s), r.drop at_) else none
def lineD (T : Tb) (b : Bytes) : Option (Fld × Bool × Bytes) :=
  if 128 ≤ (b.headD 0).toNat then (match rdp b 7 with | (i, at_, e) => if e ≠ 0 then none else (entryS T i).map fun f => (f, false, b.drop at_))
  else if 64 ≤ (b.headD 0).toNat then (litD T 6 b).map fun x => (x.1, true, x.2)
  else (litD T 4 b).map fun x => (x.1, false, x.2)
def decGo (max : Nat) (must : Bool) : Nat → Tb → Nat → List Fld → Bytes → Option (List Fld × Tb)
  | _, T, sz, out, [] => if must = true ∧ sz = 0 then none else some (out, T)
  | 0, _, _, _, _ :: _ => none
  | f + 1, T, sz, out, c :: r =>
    if c.toNat / 32 = 1 then
      match rdp (c :: r) 5 with
      | (n, k, e) => if e ≠ 0 ∨ max < n ∨ out ≠ [] ∨ 2 ≤ sz then none else decGo max must f (T.resize n) (sz + 1) out ((c :: r).drop k)
    else if (must = true ∧ sz = 0) ∨ 64 ≤ out.length then none
    else match lineD T (c :: r) with
      | none => none
      | some (x, add, b) => decGo max must f (if add then T.add x else T) sz (out ++ [x]) b
structure De where
  t : Tb
  max : Nat
  must : Bool
  bad : Bool
def De.run (D : De) (b : Bytes) : Option (List Fld × Tb) := if D.bad then none else decGo D.max D.must b.length D.t 0 [] b
theorem rdMore_range : ∀ (r : Bytes) (f i v : Nat), v ≤ 4611686018427387903 → (rdMore f i v r).2.2 = 0 → i + 1 ≤ (rdMore f i v r).2.1 ∧ (rdMore f i v r).2.1 ≤ i + r.length ∧ (rdMore f i v r).1 ≤ 4611686018427387903
  | r, 0, i, v, _, h => by simp [rdMore] at h
  | [], f + 1, i, v, _, h => by simp [rdMore] at h
  | b :: r, f + 1, i, v, hv, h => by
    unfold rdMore at h ⊢
    by_cases h1 : (4611686018427387903 - v) / 2 ^ (7 * (i - 1)) < b.toNat % 128
    · rw [if_pos h1] at h; cases h
    · have hs : b.toNat % 128 * 2 ^ (7 * (i - 1)) ≤ 4611686018427387903 - v := Nat.le_trans (Nat.mul_le_mul_right _ (Nat.le_of_not_lt h1)) (Nat.div_mul_le_self _ _)
      rw [if_neg h1] at h ⊢
      by_cases h2 : b.toNat < 128
      · rw [if_pos h2]
        refine ⟨Nat.le_refl _, by simp, ?_⟩
        simp only
        omega
      · rw [if_neg h2] at h ⊢
        have ih := rdMore_range r f (i + 1) _ (by omega) h
        simp only [List.length_cons]
        omega
theorem rdp_range (b : Bytes) (k : Nat) (hk : 2 ^ k ≤ 256) (h : (rdp b k).2.2 = 0) : 1 ≤ (rdp b k).2.1 ∧ (rdp b k).2.1 ≤ b.length ∧ (rdp b k).1 ≤ 4611686018427387903 := by
  cases b with
  | nil => simp [rdp] at h
  | cons c r =>
    unfold rdp at h ⊢
    simp only at h ⊢
    by_cases h1 : c.toNat % 2 ^ k < 2 ^ k - 1
    · rw [if_pos h1]
      refine ⟨Nat.le_refl _, by simp, ?_⟩
      simp only
      omega
    · rw [if_neg h1] at h ⊢
      have := rdMore_range r 10 1 (2 ^ k - 1) (by omega) h
      simp only [List.length_cons]
      omega
theorem strD_range (b : Bytes) (k : Nat) (hk : 2 ^ k ≤ 256) (h : (strD b k).2.2 = 0) : 1 ≤ (strD b k).2.1 ∧ (strD b k).2.1 ≤ b.length := by
  have hr := rdp_range b k hk
  unfold strD at h ⊢
  generalize rdp b k = x at *
  obtain ⟨n, at_, e⟩ := x
  simp only at h hr ⊢
  by_cases h1 : e ≠ 0
  · rw [if_pos h1] at h; exact absurd h h1
  · have h1' : e = 0 := by omega
    obtain ⟨r1, r2, _⟩ := hr h1'
    rw [if_neg h1] at h ⊢
    by_cases h2 : 4096 < n
    · rw [if_pos h2] at h; cases h
    · rw [if_neg h2] at h ⊢
      by_cases h3 : b.length - at_ < n
      · rw [if_pos h3] at h; cases h
      · rw [if_neg h3] at h ⊢
        by_cases h4 : (b.headD 0).toNat / 2 ^ k % 2 = 0
        · rw [if_pos h4]; simp only; omega
        · rw [if_neg h4] at h ⊢
          generalize unhuf (List.take n (List.drop at_ b)) = y at *
          obtain ⟨s, e2⟩ := y
          simp only at h ⊢
          by_cases h5 : e2 ≠ 0
          · rw [if_pos h5] at h; exact absurd h h5
          · rw [if_neg h5]; simp only; omega
end Go.Proofs.Ytdgggjeiflllhaa.M
namespace Go.Proofs.Ytdgggjeiflllhaa.M
open Go.ChangeShapes Go.WideShapes Go.ChangeAt Go.RowKit
def fst_ (n : Nat) : Nat := (firstTo 30).getD n 0
def cnt_ (n : Nat) : Nat := (cntTo 257).getD n 0
def at_ : Nat → Nat
  | 0 => 0
  | n + 1 => at_ n + cnt_ n
def ord_ : List Nat := (List.range 31).flatMap fun n => (List.range 257).filter fun s => lens.getD s 0 == n
theorem lev_next : ∀ n : Fin 30, fst_ (n.val + 1) = 2 * (fst_ n.val + cnt_ n.val) := by decide +kernel
theorem lev_top : fst_ 30 + cnt_ 30 = 1073741824 := by decide +kernel
theorem lev_zero : fst_ 0 = 0 ∧ cnt_ 0 = 0 ∧ fst_ 1 = 0 := by decide +kernel
theorem lev_code : ∀ s : Fin 257, fst_ (codes.getD s.val (0, 0)).2 ≤ (codes.getD s.val (0, 0)).1 ∧ (codes.getD s.val (0, 0)).1 < fst_ (codes.getD s.val (0, 0)).2 + cnt_ (codes.getD s.val (0, 0)).2 := by decide +kernel
theorem lev_look : ∀ n : Fin 31, ∀ k : Fin 257, k.val < cnt_ n.val → look n.val (fst_ n.val + k.val) = ord_[at_ n.val + k.val]? ∧ (ord_[at_ n.val + k.val]?).isSome = true := by decide +kernel
theorem cnt_le : ∀ n : Fin 31, cnt_ n.val ≤ 257 := by decide +kernel
theorem look_code : ∀ s : Fin 257, look (codes.getD s.val (0, 0)).2 (codes.getD s.val (0, 0)).1 = some s.val := by decide +kernel
theorem code_open : ∀ s : Fin 257, ∀ j : Fin 31, 1 ≤ j.val → j.val < (codes.getD s.val (0, 0)).2 → fst_ j.val + cnt_ j.val ≤ (codes.getD s.val (0, 0)).1 / 2 ^ ((codes.getD s.val (0, 0)).2 - j.val) := by decide +kernel
theorem ones_open : ∀ j : Fin 8, 1 ≤ j.val → fst_ j.val + cnt_ j.val ≤ 2 ^ j.val - 1 := by decide +kernel
end Go.Proofs.Ytdgggjeiflllhaa.M
namespace Go.Proofs.Ytdgggjeiflllhaa.M
open Go.ChangeShapes Go.WideShapes Go.ChangeAt Go.RowKit
theorem look_some (n c s : Nat) (h : look n c = some s) : s < 257 ∧ codes.getD s (0, 0) = (c, n) := by
  unfold look at h
  rw [List.findIdx?_eq_some_iff_getElem] at h
  obtain ⟨h1, h2, _⟩ := h
  rw [codes_length] at h1
  refine ⟨h1, ?_⟩
  rw [List.getD_eq_getElem?_getD, List.getElem?_eq_getElem (by rw [codes_length]; exact h1)]
  simpa using h2
theorem look_none (n c : Nat) (h : fst_ n + cnt_ n ≤ c) : look n c = none := by
  cases hl : look n c with
  | none => rfl
  | some s =>
    obtain ⟨h1, h2⟩ := look_some n c s hl
    have := lev_code ⟨s, h1⟩
    simp only [h2] at this
    omega
theorem look_lev (n c : Nat) (hn : n ≤ 30) (h0 : fst_ n ≤ c) : (c < fst_ n + cnt_ n → ∃ s, look n c = some s ∧ ord_[at_ n + (c - fst_ n)]? = some s ∧ s < 257) ∧ (fst_ n + cnt_ n ≤ c → look n c = none) := by
  refine ⟨fun h => ?_, look_none n c⟩
  have hc := cnt_le ⟨n, by omega⟩
  simp only at hc
  obtain ⟨h1, h2⟩ := lev_look ⟨n, by omega⟩ ⟨c - fst_ n, by omega⟩ (by simp only; omega)
  simp only at h1 h2
  rw [show fst_ n + (c - fst_ n) = c from by omega] at h1
  cases ho : ord_[at_ n + (c - fst_ n)]? with
  | none => rw [ho] at h2; cases h2
  | some s =>
    rw [ho] at h1
    exact ⟨s, h1, rfl, (look_some n c s h1).1⟩
def Open (n c : Nat) : Prop := (n = 0 ∧ c = 0) ∨ (1 ≤ n ∧ n ≤ 29 ∧ c < 2 ^ n ∧ fst_ n + cnt_ n ≤ c)
theorem Open.zero : Open 0 0 := .inl ⟨rfl, rfl⟩
theorem Open.le {n c : Nat} (h : Open n c) : n ≤ 29 ∧ c < 536870912 := by
  rcases h with ⟨rfl, rfl⟩ | ⟨h1, h2, h3, h4⟩
  · exact ⟨by omega, by omega⟩
  · have : 2 ^ n ≤ 2 ^ 29 := Nat.pow_le_pow_right (by decide) h2
    exact ⟨h2, by omega⟩
theorem Open.step {n c : Nat} (h : Open n c) (x : Nat) (hx : x ≤ 1) : fst_ (n + 1) ≤ 2 * c + x ∧ 2 * c + x < 2 ^ (n + 1) ∧ (look (n + 1) (2 * c + x) = none → Open (n + 1) (2 * c + x)) := by
  have key : fst_ (n + 1) ≤ 2 * c + x ∧ 2 * c + x < 2 ^ (n + 1) ∧ n + 1 ≤ 30 := by
    rcases h with ⟨rfl, rfl⟩ | ⟨h1, h2, h3, h4⟩
    · have := lev_zero.2.2
      exact ⟨by rw [this]; omega, by omega, by omega⟩
    · have := lev_next ⟨n, by omega⟩
      simp only at this
      rw [Nat.pow_succ]
      exact ⟨by omega, by omega, by omega⟩
  obtain ⟨k1, k2, k3⟩ := key
  refine ⟨k1, k2, fun hl => .inr ⟨by omega, ?_, k2, ?_⟩⟩
  · by_cases h30 : n + 1 = 30
    · have ht := lev_top
      rw [h30] at k1 k2 hl
      have := (look_lev 30 (2 * c + x) (by omega) k1).1 (by omega)
      obtain ⟨s, hs, _⟩ := this
      rw [hs] at hl; cases hl
    · omega
  · by_cases hq : 2 * c + x < fst_ (n + 1) + cnt_ (n + 1)
    · obtain ⟨s, hs, _⟩ := (look_lev (n + 1) (2 * c + x) k3 k1).1 hq
      rw [hs] at hl; cases hl
    · omega
def cbits (c n : Nat) : List Nat := (List.range n).map fun i => c / 2 ^ (n - 1 - i) % 2
theorem cbits_succ (c n : Nat) : cbits c (n + 1) = (c / 2 ^ n % 2) :: cbits c n := by
  unfold cbits
  rw [List.range_succ_eq_map, List.map_cons, List.map_map]
  congr 1
  apply List.map_congr_left
  intro i hi
  simp only [Function.comp]
  rw [show n + 1 - 1 - (i + 1) = n - 1 - i from by omega]
theorem cbits_zero (c : Nat) : cbits c 0 = [] := rfl
theorem cbits_length (c n : Nat) : (cbits c n).length = n := by simp [cbits]
theorem cbits_mod (c n m : Nat) (h : n ≤ m) : cbits (c % 2 ^ m) n = cbits c n := by
  induction n with
  | zero => rfl
  | succ n ih =>
    rw [cbits_succ, cbits_succ, ih (by omega)]
    congr 1
    have e : 2 ^ m = 2 ^ n * 2 ^ (m - n) := by rw [← Nat.pow_add]; congr 1; omega
    rw [e, Nat.mod_mul_right_div_self]
    obtain ⟨j, hj⟩ : ∃ j, m - n = j + 1 := ⟨m - n - 1, by omega⟩
    rw [hj, Nat.pow_succ, Nat.mul_comm (2 ^ j), Nat.mod_mul_right_mod]
theorem cbits_cat (a c n m : Nat) (hc : c < 2 ^ m) : cbits (a * 2 ^ m + c) (n + m) = cbits a n ++ cbits c m := by
  induction n with
  | zero =>
    simp only [Nat.zero_add, cbits_zero, List.nil_append]
    rw [← cbits_mod (a * 2 ^ m + c) m m (Nat.le_refl _), Nat.mul_comm, Nat.mul_add_mod, Nat.mod_eq_of_lt hc]
  | succ n ih =>
    rw [show n + 1 + m = n + m + 1 from by omega, cbits_succ, cbits_succ, ih, List.cons_append]
    congr 1
    rw [Nat.pow_add, Nat.mul_comm (2 ^ n), ← Nat.div_div_eq_div_mul, Nat.mul_comm a, Nat.mul_add_div (Nat.two_pow_pos m), Nat.div_eq_of_lt hc, Nat.add_zero]
theorem bit8_cbits (x : Nat) : bit8 (UInt8.ofNat x) = cbits x 8 := by
  have h : (UInt8.ofNat x).toNat = x % 2 ^ 8 := by simp
  rw [← cbits_mod x 8 8 (Nat.le_refl _)]
  unfold bit8
  rw [h]
  simp [cbits, List.range, List.range.loop]
theorem cbits_split (c n k : Nat) (h : k ≤ n) : cbits c n = cbits (c / 2 ^ k) (n - k) ++ cbits c k := by
  have h1 := cbits_cat (c / 2 ^ k) (c % 2 ^ k) (n - k) k (Nat.mod_lt _ (Nat.two_pow_pos k))
  rw [cbits_mod c k k (Nat.le_refl _), Nat.mul_comm, Nat.div_add_mod, show n - k + k = n from by omega] at h1
  exact h1
theorem ubits_emit : ∀ (f acc n : Nat), n < 8 * f + 8 → ubits (emit f acc n) ++ cbits acc (n % 8) = cbits acc n
  | 0, acc, n, h => by rw [Nat.mod_eq_of_lt (by omega)]; rfl
  | f + 1, acc, n, h => by
    unfold emit
    split
    · rw [Nat.mod_eq_of_lt (by omega)]; rfl
    · have ih := ubits_emit f acc (n - 8) (by omega)
      rw [show (n - 8) % 8 = n % 8 from by omega] at ih
      rw [show ubits (UInt8.ofNat (acc / 2 ^ (n - 8)) :: emit f acc (n - 8)) = bit8 (UInt8.ofNat (acc / 2 ^ (n - 8))) ++ ubits (emit f acc (n - 8)) from by simp [ubits], List.append_assoc, ih, bit8_cbits]
      have := cbits_split acc n (n - 8) (by omega)
      rw [show n - (n - 8) = 8 from by omega] at this
      exact this.symm
def sbits (l : Bytes) : List Nat := l.flatMap fun b => cbits (codes.getD b.toNat (0, 0)).1 (codes.getD b.toNat (0, 0)).2
theorem cbits_ones (m : Nat) : cbits (2 ^ m - 1) m = List.replicate m 1 := by
  induction m with
  | zero => rfl
  | succ m ih =>
    rw [cbits_succ, List.replicate_succ]
    have hp : 0 < 2 ^ m := Nat.two_pow_pos m
    have h1 : 2 ^ (m + 1) - 1 = 1 * 2 ^ m + (2 ^ m - 1) := by rw [Nat.pow_succ]; omega
    congr 1
    · rw [h1, Nat.mul_comm, Nat.mul_add_div hp, Nat.div_eq_of_lt (by omega)]
    · rw [← ih, ← cbits_mod (2 ^ (m + 1) - 1) m m (Nat.le_refl _), h1, Nat.mul_comm, Nat.mul_add_mod, Nat.mod_eq_of_lt (by omega)]
theorem ubits_hgo : ∀ (l : Bytes) (acc n : Nat), n < 8 → ∃ k, k < 8 ∧ ubits (hgo l acc n) = cbits acc n ++ sbits l ++ List.replicate k 1 ∧ (n + (sbits l).length + k) % 8 = 0
  | [], acc, n, hn => by
    unfold hgo
    by_cases h0 : n = 0
    · subst h0; exact ⟨0, by omega, by simp [ubits, cbits, sbits], by simp [sbits]⟩
    · rw [if_neg h0]
      refine ⟨8 - n, by omega, ?_, by simp [sbits]; omega⟩
      have e := cbits_cat acc (2 ^ (8 - n) - 1) n (8 - n) (by have := Nat.two_pow_pos (8 - n); omega)
      rw [show n + (8 - n) = 8 from by omega, cbits_ones] at e
      show bit8 _ ++ [] = _
      rw [bit8_cbits, e]
      simp [sbits]
  | b :: r, acc, n, hn => by
    have hf := codes_fit ⟨b.toNat, by have := b.toNat_lt; omega⟩
    simp only at hf
    unfold hgo
    simp only
    generalize hp : codes.getD b.toNat (0, 0) = p at *
    have hs : sbits (b :: r) = cbits p.1 p.2 ++ sbits r := by simp only [sbits, List.flatMap_cons, hp]
    obtain ⟨k, hk, h1, h2⟩ := ubits_hgo r ((acc * 2 ^ p.2 + p.1) % 2 ^ ((n + p.2) % 8)) ((n + p.2) % 8) (Nat.mod_lt _ (by decide))
    refine ⟨k, hk, ?_, ?_⟩
    · rw [ubits_append, h1, cbits_mod _ _ _ (Nat.le_refl _), ← List.append_assoc, ← List.append_assoc, ubits_emit 5 _ _ (by omega), cbits_cat _ _ _ _ hf.1, hs]
      simp only [List.append_assoc]
    · rw [hs, List.length_append, cbits_length]; omega
theorem sbits_length (l : Bytes) : (sbits l).length = bitsIn l := by
  induction l with
  | nil => rfl
  | cons b r ih =>
    have hc := codes_lens ⟨b.toNat, by have := b.toNat_lt; omega⟩
    simp only at hc
    simp only [sbits, bitsIn, List.flatMap_cons, List.length_append, List.map_cons, List.sum_cons] at ih ⊢
    rw [ih, cbits_length, hc]
theorem hcode_length (l : Bytes) : (hcode l).length = hlen l := by
  obtain ⟨k, hk, h1, h2⟩ := ubits_hgo l 0 0 (by omega)
  have h3 := congrArg List.length h1
  rw [ubits_length, List.length_append, List.length_append, List.length_replicate, sbits_length] at h3
  rw [sbits_length] at h2
  unfold hlen
  show (hgo l 0 0).length = _
  simp only [cbits_zero, List.length_nil] at h3
  omega
theorem ugo_bits (s : Nat) (hs : s < 257) (rest : List Nat) (out : Bytes) : ∀ (j : Nat), j < (codes.getD s (0, 0)).2 → ∃ ones', ugo (cbits (codes.getD s (0, 0)).1 (codes.getD s (0, 0)).2 ++ rest) 0 0 true out =
    ugo (cbits (codes.getD s (0, 0)).1 ((codes.getD s (0, 0)).2 - j) ++ rest) ((codes.getD s (0, 0)).1 / 2 ^ ((codes.getD s (0, 0)).2 - j)) j ones' out
  | 0, h => by
    have hf := (codes_fit ⟨s, hs⟩).1
    simp only at hf
    exact ⟨true, by rw [Nat.sub_zero, Nat.div_eq_of_lt hf]⟩
  | j + 1, h => by
    obtain ⟨o, ih⟩ := ugo_bits s hs rest out j (by omega)
    have ho := code_open ⟨s, hs⟩ ⟨j + 1, by have := (codes_fit ⟨s, hs⟩).2.1; simp only at this; omega⟩ (by simp) h
    simp only at ho
    rw [ih]
    generalize (codes.getD s (0, 0)).1 = c at *
    generalize (codes.getD s (0, 0)).2 = m at *
    obtain ⟨q, hq⟩ : ∃ q, m - j = q + 1 := ⟨m - j - 1, by omega⟩
    have hq2 : m - (j + 1) = q := by omega
    rw [hq2] at ho ⊢
    rw [hq]
    have e : 2 * (c / 2 ^ (q + 1)) + c / 2 ^ q % 2 = c / 2 ^ q := by
      rw [Nat.pow_succ, ← Nat.div_div_eq_div_mul]; omega
    rw [cbits_succ, List.cons_append, ugo_none _ _ _ (by rw [e]; exact look_none _ _ ho), e]
    exact ⟨_, rfl⟩
theorem ugo_sign (s : Nat) (hs : s < 256) (rest : List Nat) (out : Bytes) (hl : out.length < 4096) :
    ugo (cbits (codes.getD s (0, 0)).1 (codes.getD s (0, 0)).2 ++ rest) 0 0 true out = ugo rest 0 0 true (out ++ [UInt8.ofNat s]) := by
  have hf := codes_fit ⟨s, by omega⟩
  have hk := look_code ⟨s, by omega⟩
  simp only at hf hk
  obtain ⟨o, ih⟩ := ugo_bits s (by omega) rest out ((codes.getD s (0, 0)).2 - 1) (by omega)
  rw [ih]
  generalize (codes.getD s (0, 0)).1 = c at *
  generalize (codes.getD s (0, 0)).2 = m at *
  have e : 2 * (c / 2 ^ (0 + 1)) + c / 2 ^ 0 % 2 = c := by
    rw [Nat.pow_zero, Nat.div_one, Nat.zero_add, Nat.pow_one]; omega
  have e2 : m - 1 + 1 = m := by omega
  rw [show m - (m - 1) = 0 + 1 from by omega, cbits_succ, List.cons_append, ugo_some _ _ _ (by rw [e, e2]; exact hk), if_neg (by omega), if_neg (by omega), cbits_zero, List.nil_append]
theorem ugo_pad (k : Nat) (out : Bytes) : ∀ (m j : Nat), j + m = k → k < 8 → ugo (List.replicate m 1) (2 ^ j - 1) j true out = (out, 0)
  | 0, j, h, hk => by
    rw [show List.replicate 0 1 = ([] : List Nat) from rfl, ugo_nil, if_neg (by simp; omega)]
  | m + 1, j, h, hk => by
    have ho := ones_open ⟨j + 1, by omega⟩ (by simp)
    simp only at ho
    have hp := Nat.two_pow_pos j
    have e : 2 * (2 ^ j - 1) + 1 = 2 ^ (j + 1) - 1 := by rw [Nat.pow_succ]; omega
    rw [List.replicate_succ, ugo_none _ _ _ (by rw [e]; exact look_none _ _ ho), e]
    exact ugo_pad k out m (j + 1) (by omega) hk
theorem ugo_signs : ∀ (l : Bytes) (rest : List Nat) (out : Bytes), out.length + l.length ≤ 4096 → ugo (sbits l ++ rest) 0 0 true out = ugo rest 0 0 true (out ++ l)
  | [], rest, out, h => by simp [sbits]
  | b :: r, rest, out, h => by
    have hb := b.toNat_lt
    simp only [List.length_cons] at h
    have e : sbits (b :: r) = cbits (codes.getD b.toNat (0, 0)).1 (codes.getD b.toNat (0, 0)).2 ++ sbits r := by simp [sbits]
    rw [e, List.append_assoc, ugo_sign b.toNat (by omega) _ _ (by omega), ugo_signs r rest _ (by simp; omega)]
    simp
theorem unhuf_hcode (l : Bytes) (h : l.length ≤ 4096) : unhuf (hcode l) = (l, 0) := by
  obtain ⟨k, hk, h1, _⟩ := ubits_hgo l 0 0 (by omega)
  unfold unhuf hcode
  rw [h1, cbits_zero, List.nil_append, ugo_signs l _ _ (by simpa using h), List.nil_append]
  exact ugo_pad k l k 0 (by omega) hk
end Go.Proofs.Ytdgggjeiflllhaa.M

