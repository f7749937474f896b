/- Decp -/
import Derived.Test.YtdgggjeiflllhaaZzEncp
import Derived.Test.YtdgggjeiflllhaaZzMem

namespace Go.Proofs.Ytdgggjeiflllhaa.M
open Go.ChangeShapes Go.WideShapes Go.ChangeAt Go.RowKit
def bit8 (b : UInt8) : List Nat := [b.toNat / 128 % 2, b.toNat / 64 % 2, b.toNat / 32 % 2, b.toNat / 16 % 2, b.toNat / 8 % 2, b.toNat / 4 % 2, b.toNat / 2 % 2, b.toNat % 2]
def ubits (b : Bytes) : List Nat := b.flatMap bit8
def look (n c : Nat) : Option Nat := codes.findIdx? fun p => decide (p = (c, n))
def ugoF (lk : Nat → Nat → Option Nat) : List Nat → Nat → Nat → Bool → Bytes → Bytes × Nat
  | [], _, n, ones, out => if 8 ≤ n ∨ ones = false then ([], 22) else (out, 0)
  | x :: r, c, n, ones, out =>
    match lk (n + 1) (2 * c + x) with
    | none => ugoF lk r (2 * c + x) (n + 1) (ones && x == 1) out
    | some s => if s = 256 then ([], 22) else if 4096 ≤ out.length then ([], 23) else ugoF lk r 0 0 true (out ++ [UInt8.ofNat s])
def ugo : List Nat → Nat → Nat → Bool → Bytes → Bytes × Nat := ugoF look
def unhuf (b : Bytes) : Bytes × Nat := ugo (ubits b) 0 0 true []
def strD (b : Bytes) (k : Nat) : Bytes × Nat × Nat :=
  match rdp b k with
  | (n, at_, e) =>
    if e ≠ 0 then ([], 0, e) else if 4096 < n then ([], 0, 23) else if b.length - at_ < n then ([], 0, 20) else
    if (b.headD 0).toNat / 2 ^ k % 2 = 0 then ((b.drop at_).take n, at_ + n, 0) else
    match unhuf ((b.drop at_).take n) with
    | (s, e) => if e ≠ 0 then ([], 0, e) else (s, at_ + n, 0)
def entryS (T : Tb) (i : Nat) : Option Fld :=
  if i = 0 then none else if i ≤ 61 then h2tab[i - 1]? else if i - 62 < T.l.length then T.l[T.l.length - 1 - (i - 62)]? else none
def nameD (T : Tb) (i : Nat) (b : Bytes) : Option (Bytes × Bytes) :=
  if i = 0 then (match strD b 7 with | (s, k, e) => if e = 0 then some (s, b.drop k) else none) else (entryS T i).map fun g => (g.1, b)
def litD (T : Tb) (k : Nat) (b : Bytes) : Option (Fld × Bytes) :=
  match rdp b k with
  | (i, at_, e) => if e ≠ 0 then none else
    match nameD T i (b.drop at_) with
    | none => none
    | some (n, r) => match strD r 7 with
      | (s, at_, e) => if e = 0 then some ((n, s), r.drop at_) else none
def lineD (T : Tb) (b : Bytes) : Option (Fld × Bool × Bytes) :=
  if 128 ≤ (b.headD 0).toNat then (match rdp b 7 with | (i, at_, e) => if e ≠ 0 then none else (entryS T i).map fun f => (f, false, b.drop at_))
  else if 64 ≤ (b.headD 0).toNat then (litD T 6 b).map fun x => (x.1, true, x.2)
  else (litD T 4 b).map fun x => (x.1, false, x.2)
def decGo (max : Nat) (must : Bool) : Nat → Tb → Nat → List Fld → Bytes → Option (List Fld × Tb)
  | _, T, sz, out, [] => if must = true ∧ sz = 0 then none else some (out, T)
  | 0, _, _, _, _ :: _ => none
  | f + 1, T, sz, out, c :: r =>
    if c.toNat / 32 = 1 then
      match rdp (c :: r) 5 with
      | (n, k, e) => if e ≠ 0 ∨ max < n ∨ out ≠ [] ∨ 2 ≤ sz then none else decGo max must f (T.resize n) (sz + 1) out ((c :: r).drop k)
    else if (must = true ∧ sz = 0) ∨ 64 ≤ out.length then none
    else match lineD T (c :: r) with
      | none => none
      | some (x, add, b) => decGo max must f (if add then T.add x else T) sz (out ++ [x]) b
structure De where
  t : Tb
  max : Nat
  must : Bool
  bad : Bool
def De.run (D : De) (b : Bytes) : Option (List Fld × Tb) := if D.bad then none else decGo D.max D.must b.length D.t 0 [] b
theorem rdMore_range : ∀ (r : Bytes) (f i v : Nat), v ≤ 4611686018427387903 → (rdMore f i v r).2.2 = 0 → i + 1 ≤ (rdMore f i v r).2.1 ∧ (rdMore f i v r).2.1 ≤ i + r.length ∧ (rdMore f i v r).1 ≤ 4611686018427387903
  | r, 0, i, v, _, h => by simp [rdMore] at h
  | [], f + 1, i, v, _, h => by simp [rdMore] at h
  | b :: r, f + 1, i, v, hv, h => by
    unfold rdMore at h ⊢
    by_cases h1 : (4611686018427387903 - v) / 2 ^ (7 * (i - 1)) < b.toNat % 128
    · rw [if_pos h1] at h; cases h
    · have hs : b.toNat % 128 * 2 ^ (7 * (i - 1)) ≤ 4611686018427387903 - v := Nat.le_trans (Nat.mul_le_mul_right _ (Nat.le_of_not_lt h1)) (Nat.div_mul_le_self _ _)
      rw [if_neg h1] at h ⊢
      by_cases h2 : b.toNat < 128
      · rw [if_pos h2]
        refine ⟨Nat.le_refl _, by simp, ?_⟩
        simp only
        omega
      · rw [if_neg h2] at h ⊢
        have ih := rdMore_range r f (i + 1) _ (by omega) h
        simp only [List.length_cons]
        omega
theorem rdp_range (b : Bytes) (k : Nat) (hk : 2 ^ k ≤ 256) (h : (rdp b k).2.2 = 0) : 1 ≤ (rdp b k).2.1 ∧ (rdp b k).2.1 ≤ b.length ∧ (rdp b k).1 ≤ 4611686018427387903 := by
  cases b with
  | nil => simp [rdp] at h
  | cons c r =>
    unfold rdp at h ⊢
    simp only at h ⊢
    by_cases h1 : c.toNat % 2 ^ k < 2 ^ k - 1
    · rw [if_pos h1]
      refine ⟨Nat.le_refl _, by simp, ?_⟩
      simp only
      omega
    · rw [if_neg h1] at h ⊢
      have := rdMore_range r 10 1 (2 ^ k - 1) (by omega) h
      simp only [List.length_cons]
      omega
theorem rdMore_err : ∀ (r : Bytes) (f i v : Nat), (rdMore f i v r).2.2 = 0 ∨ (rdMore f i v r) = (0, 0, 20) ∨ (rdMore f i v r) = (0, 0, 21)
  | r, 0, i, v => by simp [rdMore]
  | [], f + 1, i, v => by simp [rdMore]
  | b :: r, f + 1, i, v => by
    unfold rdMore
    split
    · exact .inr (.inr rfl)
    · split
      · exact .inl rfl
      · exact rdMore_err r f _ _
end Go.Proofs.Ytdgggjeiflllhaa.M
namespace Go.Proofs.Ytdgggjeiflllhaa.M
open Go.ChangeShapes Go.WideShapes Go.ChangeAt Go.RowKit
def cnt_ (n : Nat) : Nat := (cntTo 257).getD n 0
def at_ : Nat → Nat
  | 0 => 0
  | n + 1 => at_ n + cnt_ n
end Go.Proofs.Ytdgggjeiflllhaa.M
namespace Go.Proofs.Ytdgggjeiflllhaa.M
open Go.ChangeShapes Go.WideShapes Go.ChangeAt Go.RowKit
end Go.Proofs.Ytdgggjeiflllhaa.M

