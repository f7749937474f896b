/- A dynamic table in plain words: which entries go, where a key last stands, what a map says of it. No condition. -/
import Derived.Test.YtcebckkpablagaaFind
namespace Go.Proofs.Ytcebckkpablagaa.M
open Go.ChangeShapes Go.WideShapes Go.ChangeAt Go.RowKit

section pure
variable {κ : Type} [DecidableEq κ]
/-- the number of the last entry with a key, the first entry's number being b -/
def lastAt (key : Fld → κ) (k : κ) : Nat → List Fld → Option Nat
  | _, [] => none
  | b, x :: r => match lastAt key k (b + 1) r with
    | some i => some i
    | none => if key x = k then some b else none
theorem lastAt_range (key : Fld → κ) (k : κ) : ∀ (l : List Fld) (b i : Nat), lastAt key k b l = some i → b ≤ i ∧ i < b + l.length
  | [], b, i, h => by cases h
  | x :: r, b, i, h => by
    unfold lastAt at h
    cases hr : lastAt key k (b + 1) r with
    | some j =>
      rw [hr] at h
      obtain ⟨h1, h2⟩ := lastAt_range key k r (b + 1) j hr
      simp at h
      subst h
      simp only [List.length_cons]; omega
    | none =>
      rw [hr] at h
      simp only at h
      split at h
      · simp at h; subst h; simp only [List.length_cons]; omega
      · cases h
theorem lastAt_snoc (key : Fld → κ) (k : κ) (x : Fld) : ∀ (l : List Fld) (b : Nat), lastAt key k b (l ++ [x]) = if key x = k then some (b + l.length) else lastAt key k b l
  | [], b => by simp [lastAt]
  | y :: r, b => by
    rw [List.cons_append, lastAt, lastAt_snoc key k x r (b + 1), lastAt]
    by_cases h : key x = k
    · simp [h]; omega
    · simp [h]

/-- what a map's entries say -/
def MapInv (key : Fld → κ) (b : Nat) (l : List Fld) (ents : List (κ × Value)) : Prop :=
  (ents.map (·.1)).Nodup ∧ ∀ k, getE k ents = (lastAt key k b l).map fun i => Value.int .u64 (i : Int)
theorem MapInv.nil (key : Fld → κ) (b : Nat) : MapInv key b [] [] := ⟨by simp, fun k => rfl⟩
theorem MapInv.snoc {key : Fld → κ} {b : Nat} {l : List Fld} {ents : List (κ × Value)} (h : MapInv key b l ents) (x : Fld) :
    MapInv key b (l ++ [x]) (putE (key x) (.int .u64 ((b + l.length : Nat) : Int)) ents) := by
  refine ⟨nodup_put _ _ _ h.1, fun k => ?_⟩
  rw [getE_put, lastAt_snoc, h.2]
  by_cases e : k = key x
  · simp [e]
  · rw [if_neg e, if_neg (fun c => e c.symm)]
/-- the first one goes, and is the last of its key -/
theorem MapInv.gone {key : Fld → κ} {b : Nat} {x : Fld} {l : List Fld} {ents : List (κ × Value)} (h : MapInv key b (x :: l) ents) (hl : lastAt key (key x) (b + 1) l = none) :
    MapInv key (b + 1) l (delE (key x) ents) := by
  refine ⟨nodup_del _ _ h.1, fun k => ?_⟩
  rw [getE_del _ _ _ h.1, h.2, lastAt]
  by_cases e : k = key x
  · subst e; rw [if_pos rfl, hl]; rfl
  · rw [if_neg e]
    cases lastAt key k (b + 1) l with
    | some i => rfl
    | none => simp; exact fun c => e c.symm
theorem MapInv.stay {key : Fld → κ} {b : Nat} {x : Fld} {l : List Fld} {ents : List (κ × Value)} (h : MapInv key b (x :: l) ents) {i : Nat} (hl : lastAt key (key x) (b + 1) l = some i) :
    MapInv key (b + 1) l ents := by
  refine ⟨h.1, fun k => ?_⟩
  rw [h.2, lastAt]
  cases e : lastAt key k (b + 1) l with
  | some i => rfl
  | none =>
    have : key x ≠ k := fun c => by rw [← c, hl] at e; cases e
    simp [this]
end pure

/-- what is left when there must be so much room -/
def evict (room cap : Nat) : List Fld → List Fld
  | [] => []
  | f :: r => if cap < fsizes (f :: r) + room then evict room cap r else f :: r
theorem evict_length (room cap : Nat) : ∀ l, (evict room cap l).length ≤ l.length
  | [] => Nat.le_refl _
  | f :: r => by
    unfold evict
    split
    · have := evict_length room cap r; simp; omega
    · exact Nat.le_refl _
theorem evict_size (room cap : Nat) : ∀ l, fsizes (evict room cap l) ≤ fsizes l
  | [] => Nat.le_refl _
  | f :: r => by
    unfold evict
    split
    · have := evict_size room cap r
      have h : fsizes (f :: r) = fsize f + fsizes r := by simp [fsizes]
      omega
    · exact Nat.le_refl _
theorem evict_fits (room cap : Nat) (h : room ≤ cap) : ∀ l, fsizes (evict room cap l) + room ≤ cap
  | [] => by simp [evict, fsizes]; exact h
  | f :: r => by
    unfold evict
    split
    · exact evict_fits room cap h r
    · omega
theorem evict_all (room cap : Nat) (h : cap < room) : ∀ l, evict room cap l = []
  | [] => rfl
  | f :: r => by
    unfold evict
    rw [if_pos (by omega), evict_all room cap h r]
theorem evict_drop (room cap : Nat) : ∀ l, ∃ k, k ≤ l.length ∧ evict room cap l = l.drop k
  | [] => ⟨0, Nat.le_refl _, rfl⟩
  | f :: r => by
    unfold evict
    split
    · obtain ⟨k, h1, h2⟩ := evict_drop room cap r
      exact ⟨k + 1, by simp; omega, by rw [h2]; rfl⟩
    · exact ⟨0, Nat.zero_le _, rfl⟩

/-- a table: entries, the oldest first; how many ever stood; the capacity -/
structure Tb where
  l : List Fld
  n : Nat
  cap : Nat
def Tb.first (T : Tb) : Nat := T.n - T.l.length
def Tb.fit (T : Tb) (room : Nat) : Tb := { T with l := evict room T.cap T.l }
def Tb.add (T : Tb) (f : Fld) : Tb := if fsize f ≤ T.cap then ⟨evict (fsize f) T.cap T.l ++ [f], T.n + 1, T.cap⟩ else ⟨[], T.n, T.cap⟩
def Tb.resize (T : Tb) (c : Nat) : Tb := ⟨evict 0 c T.l, T.n, c⟩
/-- a table that the program can come to -/
structure Tb.Ok (T : Tb) : Prop where
  le : T.l.length ≤ T.n
  fits : fsizes T.l ≤ T.cap
theorem fsizes_nil : fsizes [] = 0 := rfl
theorem fsizes_cons (f : Fld) (l : List Fld) : fsizes (f :: l) = fsize f + fsizes l := by simp [fsizes]
theorem len_fsizes : ∀ l, 32 * l.length ≤ fsizes l
  | [] => Nat.le_refl _
  | f :: l => by have := len_fsizes l; rw [fsizes_cons]; unfold fsize; simp only [List.length_cons]; omega
theorem Tb.Ok.add {T : Tb} (h : T.Ok) (f : Fld) : (T.add f).Ok := by
  have h1 := h.le
  have h2 := evict_length (fsize f) T.cap T.l
  unfold Tb.add
  split
  · rename_i hf
    have h3 := evict_fits (fsize f) T.cap hf T.l
    exact ⟨by simp; omega, by simp only [fsizes_snoc]; exact h3⟩
  · exact ⟨Nat.zero_le _, Nat.zero_le _⟩
theorem Tb.Ok.resize {T : Tb} (h : T.Ok) (c : Nat) : (T.resize c).Ok := by
  have h1 := h.le
  have h2 := evict_length 0 c T.l
  have h3 := evict_fits 0 c (Nat.zero_le _) T.l
  exact ⟨by simp [Tb.resize]; omega, by simp [Tb.resize]; omega⟩
/-- Find's answer: number, name there, whole there -/
def Tb.find (T : Tb) (f : Fld) : Nat × Bool × Bool :=
  match lastAt id f T.first T.l with
  | some i => (i, true, true)
  | none => match lastAt Prod.fst f.1 T.first T.l with
    | some i => (i, true, false)
    | none => (0, false, false)
end Go.Proofs.Ytcebckkpablagaa.M
