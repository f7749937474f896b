/- HPACK's decoder in plain words: bits, the code read, strings, entries, lines, blocks. No condition. -/
import Derived.Test.YtcebckkpablagaaEncp
import Derived.Test.YtcebckkpablagaaMem
namespace Go.Proofs.Ytcebckkpablagaa.M
open Go.ChangeShapes Go.WideShapes Go.ChangeAt Go.RowKit

/-- a byte's bits, the highest first -/
def bit8 (b : UInt8) : List Nat := [b.toNat / 128 % 2, b.toNat / 64 % 2, b.toNat / 32 % 2, b.toNat / 16 % 2, b.toNat / 8 % 2, b.toNat / 4 % 2, b.toNat / 2 % 2, b.toNat % 2]
def ubits (b : Bytes) : List Nat := b.flatMap bit8
theorem ubits_length (b : Bytes) : (ubits b).length = 8 * b.length := by
  induction b with
  | nil => rfl
  | cons x r ih => simp only [ubits, List.flatMap_cons, List.length_append, List.length_cons] at ih ⊢; rw [ih]; simp [bit8]; omega
theorem ubits_append (a b : Bytes) : ubits (a ++ b) = ubits a ++ ubits b := by simp [ubits]
theorem bit8_get (x : UInt8) (i : Nat) (h : i < 8) : (bit8 x)[i]? = some (x.toNat / 2 ^ (7 - i) % 2) := by
  obtain rfl | rfl | rfl | rfl | rfl | rfl | rfl | rfl : i = 0 ∨ i = 1 ∨ i = 2 ∨ i = 3 ∨ i = 4 ∨ i = 5 ∨ i = 6 ∨ i = 7 := by omega
  all_goals simp [bit8]
theorem ubits_get : ∀ (b : Bytes) (i : Nat) (h : i / 8 < b.length), (ubits b)[i]? = some (b[i / 8].toNat / 2 ^ (7 - i % 8) % 2)
  | [], i, h => by simp at h
  | x :: r, i, h => by
    have e : ubits (x :: r) = bit8 x ++ ubits r := by simp [ubits]
    have hl : (bit8 x).length = 8 := rfl
    rw [e]
    by_cases h8 : i < 8
    · rw [List.getElem?_append_left (by omega), bit8_get x i h8]
      have e0 : i / 8 = 0 := by omega
      have e1 : i % 8 = i := by omega
      simp [e0, e1]
    · rw [List.getElem?_append_right (by omega), hl, ubits_get r (i - 8) (by simp at h; omega)]
      have e0 : i / 8 = (i - 8) / 8 + 1 := by omega
      have e1 : (i - 8) % 8 = i % 8 := by omega
      simp only [e0, e1, List.getElem_cons_succ]
theorem ubits_drop (b : Bytes) (i : Nat) (h : i / 8 < b.length) : (ubits b).drop i = (b[i / 8].toNat / 2 ^ (7 - i % 8) % 2) :: (ubits b).drop (i + 1) := by
  have hl := ubits_length b
  have hi : i < (ubits b).length := by omega
  have h1 := ubits_get b i h
  rw [List.getElem?_eq_getElem hi] at h1
  injection h1 with h1
  rw [← h1]
  exact List.drop_eq_getElem_cons hi

/-- the sign of a code of n bits -/
def look (n c : Nat) : Option Nat := codes.findIdx? fun p => decide (p = (c, n))
/-- the code read: bits that are left, a code's bits and how many, whether all were ones, what was read -/
def ugoF (lk : Nat → Nat → Option Nat) : List Nat → Nat → Nat → Bool → Bytes → Bytes × Nat
  | [], _, n, ones, out => if 8 ≤ n ∨ ones = false then ([], 22) else (out, 0)
  | x :: r, c, n, ones, out =>
    match lk (n + 1) (2 * c + x) with
    | none => ugoF lk r (2 * c + x) (n + 1) (ones && x == 1) out
    | some s => if s = 256 then ([], 22) else if 4096 ≤ out.length then ([], 23) else ugoF lk r 0 0 true (out ++ [UInt8.ofNat s])
theorem ugoF_nil {lk : Nat → Nat → Option Nat} (c n : Nat) (ones : Bool) (out : Bytes) : ugoF lk [] c n ones out = if 8 ≤ n ∨ ones = false then ([], 22) else (out, 0) := rfl
theorem ugoF_none {lk : Nat → Nat → Option Nat} {x c n : Nat} (r : List Nat) (ones : Bool) (out : Bytes) (h : lk (n + 1) (2 * c + x) = none) : ugoF lk (x :: r) c n ones out = ugoF lk r (2 * c + x) (n + 1) (ones && x == 1) out := by
  simp only [ugoF, h]
theorem ugoF_some {lk : Nat → Nat → Option Nat} {x c n s : Nat} (r : List Nat) (ones : Bool) (out : Bytes) (h : lk (n + 1) (2 * c + x) = some s) :
    ugoF lk (x :: r) c n ones out = if s = 256 then ([], 22) else if 4096 ≤ out.length then ([], 23) else ugoF lk r 0 0 true (out ++ [UInt8.ofNat s]) := by
  simp only [ugoF, h]
def ugo : List Nat → Nat → Nat → Bool → Bytes → Bytes × Nat := ugoF look
theorem ugo_nil (c n : Nat) (ones : Bool) (out : Bytes) : ugo [] c n ones out = if 8 ≤ n ∨ ones = false then ([], 22) else (out, 0) := ugoF_nil c n ones out
theorem ugo_none {x c n : Nat} (r : List Nat) (ones : Bool) (out : Bytes) (h : look (n + 1) (2 * c + x) = none) : ugo (x :: r) c n ones out = ugo r (2 * c + x) (n + 1) (ones && x == 1) out := ugoF_none r ones out h
theorem ugo_some {x c n s : Nat} (r : List Nat) (ones : Bool) (out : Bytes) (h : look (n + 1) (2 * c + x) = some s) :
    ugo (x :: r) c n ones out = if s = 256 then ([], 22) else if 4096 ≤ out.length then ([], 23) else ugo r 0 0 true (out ++ [UInt8.ofNat s]) := ugoF_some r ones out h
def unhuf (b : Bytes) : Bytes × Nat := ugo (ubits b) 0 0 true []

/-- a string whose length has a prefix of k bits: it, how many bytes, an error's number -/
def strD (b : Bytes) (k : Nat) : Bytes × Nat × Nat :=
  match rdp b k with
  | (n, at_, e) =>
    if e ≠ 0 then ([], 0, e) else if 4096 < n then ([], 0, 23) else if b.length - at_ < n then ([], 0, 20) else
    if (b.headD 0).toNat / 2 ^ k % 2 = 0 then ((b.drop at_).take n, at_ + n, 0) else
    match unhuf ((b.drop at_).take n) with
    | (s, e) => if e ≠ 0 then ([], 0, e) else (s, at_ + n, 0)
/-- an entry of both tables -/
def entryS (T : Tb) (i : Nat) : Option Fld :=
  if i = 0 then none else if i ≤ 61 then h2tab[i - 1]? else if i - 62 < T.l.length then T.l[T.l.length - 1 - (i - 62)]? else none
/-- a literal's name -/
def nameD (T : Tb) (i : Nat) (b : Bytes) : Option (Bytes × Bytes) :=
  if i = 0 then (match strD b 7 with | (s, k, e) => if e = 0 then some (s, b.drop k) else none) else (entryS T i).map fun g => (g.1, b)
/-- a literal behind its number: the field, what is left -/
def litD (T : Tb) (k : Nat) (b : Bytes) : Option (Fld × Bytes) :=
  match rdp b k with
  | (i, at_, e) => if e ≠ 0 then none else
    match nameD T i (b.drop at_) with
    | none => none
    | some (n, r) => match strD r 7 with
      | (s, at_, e) => if e = 0 then some ((n, s), r.drop at_) else none
/-- a line: the field, whether its entry stands then, what is left -/
def lineD (T : Tb) (b : Bytes) : Option (Fld × Bool × Bytes) :=
  if 128 ≤ (b.headD 0).toNat then (match rdp b 7 with | (i, at_, e) => if e ≠ 0 then none else (entryS T i).map fun f => (f, false, b.drop at_))
  else if 64 ≤ (b.headD 0).toNat then (litD T 6 b).map fun x => (x.1, true, x.2)
  else (litD T 4 b).map fun x => (x.1, false, x.2)
/-- a block: fuel, the table, how many size updates, the fields, what is left -/
def decGo (max : Nat) (must : Bool) : Nat → Tb → Nat → List Fld → Bytes → Option (List Fld × Tb)
  | _, T, sz, out, [] => if must = true ∧ sz = 0 then none else some (out, T)
  | 0, _, _, _, _ :: _ => none
  | f + 1, T, sz, out, c :: r =>
    if c.toNat / 32 = 1 then
      match rdp (c :: r) 5 with
      | (n, k, e) => if e ≠ 0 ∨ max < n ∨ out ≠ [] ∨ 2 ≤ sz then none else decGo max must f (T.resize n) (sz + 1) out ((c :: r).drop k)
    else if (must = true ∧ sz = 0) ∨ 64 ≤ out.length then none
    else match lineD T (c :: r) with
      | none => none
      | some (x, add, b) => decGo max must f (if add then T.add x else T) sz (out ++ [x]) b
/-- a decoder: its table, its limit, whether a size update must come, whether a block was wrong -/
structure De where
  t : Tb
  max : Nat
  must : Bool
  bad : Bool
/-- a block's fields, the table behind it -/
def De.run (D : De) (b : Bytes) : Option (List Fld × Tb) := if D.bad then none else decGo D.max D.must b.length D.t 0 [] b
/-- what is left is shorter -/
theorem rdMore_range : ∀ (r : Bytes) (f i v : Nat), v ≤ 4611686018427387903 → (rdMore f i v r).2.2 = 0 → i + 1 ≤ (rdMore f i v r).2.1 ∧ (rdMore f i v r).2.1 ≤ i + r.length ∧ (rdMore f i v r).1 ≤ 4611686018427387903
  | r, 0, i, v, _, h => by simp [rdMore] at h
  | [], f + 1, i, v, _, h => by simp [rdMore] at h
  | b :: r, f + 1, i, v, hv, h => by
    unfold rdMore at h ⊢
    by_cases h1 : (4611686018427387903 - v) / 2 ^ (7 * (i - 1)) < b.toNat % 128
    · rw [if_pos h1] at h; cases h
    · have hs : b.toNat % 128 * 2 ^ (7 * (i - 1)) ≤ 4611686018427387903 - v := Nat.le_trans (Nat.mul_le_mul_right _ (Nat.le_of_not_lt h1)) (Nat.div_mul_le_self _ _)
      rw [if_neg h1] at h ⊢
      by_cases h2 : b.toNat < 128
      · rw [if_pos h2]
        refine ⟨Nat.le_refl _, by simp, ?_⟩
        simp only
        omega
      · rw [if_neg h2] at h ⊢
        have ih := rdMore_range r f (i + 1) _ (by omega) h
        simp only [List.length_cons]
        omega
theorem rdp_range (b : Bytes) (k : Nat) (hk : 2 ^ k ≤ 256) (h : (rdp b k).2.2 = 0) : 1 ≤ (rdp b k).2.1 ∧ (rdp b k).2.1 ≤ b.length ∧ (rdp b k).1 ≤ 4611686018427387903 := by
  cases b with
  | nil => simp [rdp] at h
  | cons c r =>
    unfold rdp at h ⊢
    simp only at h ⊢
    by_cases h1 : c.toNat % 2 ^ k < 2 ^ k - 1
    · rw [if_pos h1]
      refine ⟨Nat.le_refl _, by simp, ?_⟩
      simp only
      omega
    · rw [if_neg h1] at h ⊢
      have := rdMore_range r 10 1 (2 ^ k - 1) (by omega) h
      simp only [List.length_cons]
      omega
theorem rdMore_err : ∀ (r : Bytes) (f i v : Nat), (rdMore f i v r).2.2 = 0 ∨ (rdMore f i v r) = (0, 0, 20) ∨ (rdMore f i v r) = (0, 0, 21)
  | r, 0, i, v => by simp [rdMore]
  | [], f + 1, i, v => by simp [rdMore]
  | b :: r, f + 1, i, v => by
    unfold rdMore
    split
    · exact .inr (.inr rfl)
    · split
      · exact .inl rfl
      · exact rdMore_err r f _ _
theorem strD_range (b : Bytes) (k : Nat) (hk : 2 ^ k ≤ 256) (h : (strD b k).2.2 = 0) : 1 ≤ (strD b k).2.1 ∧ (strD b k).2.1 ≤ b.length := by
  have hr := rdp_range b k hk
  unfold strD at h ⊢
  generalize rdp b k = x at *
  obtain ⟨n, at_, e⟩ := x
  simp only at h hr ⊢
  by_cases h1 : e ≠ 0
  · rw [if_pos h1] at h; exact absurd h h1
  · have h1' : e = 0 := by omega
    obtain ⟨r1, r2, _⟩ := hr h1'
    rw [if_neg h1] at h ⊢
    by_cases h2 : 4096 < n
    · rw [if_pos h2] at h; cases h
    · rw [if_neg h2] at h ⊢
      by_cases h3 : b.length - at_ < n
      · rw [if_pos h3] at h; cases h
      · rw [if_neg h3] at h ⊢
        by_cases h4 : (b.headD 0).toNat / 2 ^ k % 2 = 0
        · rw [if_pos h4]; simp only; omega
        · rw [if_neg h4] at h ⊢
          generalize unhuf (List.take n (List.drop at_ b)) = y at *
          obtain ⟨s, e2⟩ := y
          simp only at h ⊢
          by_cases h5 : e2 ≠ 0
          · rw [if_pos h5] at h; exact absurd h h5
          · rw [if_neg h5]; simp only; omega
theorem nameD_range (T : Tb) (i : Nat) (b : Bytes) (x : Bytes × Bytes) (h : nameD T i b = some x) : x.2.length ≤ b.length := by
  have hr := strD_range b 7 (by decide)
  unfold nameD at h
  by_cases h1 : i = 0
  · rw [if_pos h1] at h
    generalize strD b 7 = y at *
    obtain ⟨s, k, e⟩ := y
    simp only at h hr
    by_cases h2 : e = 0
    · rw [if_pos h2] at h; injection h with h; rw [← h]; simp
    · rw [if_neg h2] at h; cases h
  · rw [if_neg h1] at h
    cases he : entryS T i with
    | none => rw [he] at h; cases h
    | some g => rw [he] at h; injection h with h; rw [← h]; exact Nat.le_refl _
theorem litD_range (T : Tb) (k : Nat) (hk : 2 ^ k ≤ 256) (b : Bytes) (x : Fld × Bytes) (h : litD T k b = some x) : x.2.length < b.length := by
  have hr := rdp_range b k hk
  unfold litD at h
  generalize rdp b k = y at *
  obtain ⟨i, at_, e⟩ := y
  simp only at h hr
  by_cases h1 : e ≠ 0
  · rw [if_pos h1] at h; cases h
  · obtain ⟨r1, r2, _⟩ := hr (by omega)
    rw [if_neg h1] at h
    cases hn : nameD T i (b.drop at_) with
    | none => rw [hn] at h; cases h
    | some y =>
      have h2 := nameD_range _ _ _ _ hn
      obtain ⟨n, r⟩ := y
      have hs := strD_range r 7 (by decide)
      rw [hn] at h
      simp only at h h2
      generalize strD r 7 = z at *
      obtain ⟨s, a, e2⟩ := z
      simp only at h hs
      by_cases h3 : e2 = 0
      · rw [if_pos h3] at h
        injection h with h
        rw [← h]
        simp only [List.length_drop] at h2 ⊢
        omega
      · rw [if_neg h3] at h; cases h
theorem lineD_range (T : Tb) (b : Bytes) (x : Fld × Bool × Bytes) (h : lineD T b = some x) : x.2.2.length < b.length := by
  have hr := rdp_range b 7 (by decide)
  unfold lineD at h
  by_cases h1 : 128 ≤ (b.headD 0).toNat
  · rw [if_pos h1] at h
    generalize rdp b 7 = y at *
    obtain ⟨i, at_, e⟩ := y
    simp only at h hr
    by_cases h2 : e ≠ 0
    · rw [if_pos h2] at h; cases h
    · rw [if_neg h2] at h
      have := hr (by omega)
      cases he : entryS T i with
      | none => rw [he] at h; cases h
      | some g => rw [he] at h; injection h with h; rw [← h]; simp only [List.length_drop]; omega
  · rw [if_neg h1] at h
    by_cases h2 : 64 ≤ (b.headD 0).toNat
    · rw [if_pos h2] at h
      cases hl : litD T 6 b with
      | none => rw [hl] at h; cases h
      | some y => have := litD_range T 6 (by decide) b y hl; rw [hl] at h; injection h with h; rw [← h]; exact this
    · rw [if_neg h2] at h
      cases hl : litD T 4 b with
      | none => rw [hl] at h; cases h
      | some y => have := litD_range T 4 (by decide) b y hl; rw [hl] at h; injection h with h; rw [← h]; exact this
end Go.Proofs.Ytcebckkpablagaa.M
