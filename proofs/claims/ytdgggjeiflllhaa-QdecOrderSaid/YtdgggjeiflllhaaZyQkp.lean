/- Qkp, Qlp -/
import Derived.Test.YtdgggjeiflllhaaZyQi
import Derived.Test.YtdgggjeiflllhaaZyQt
import Derived.BigQuiet

namespace Go.Proofs.Ytdgggjeiflllhaa.M
open Go.ChangeShapes Go.WideShapes Go.ChangeAt Go.RowKit
def litQp (nm r : Bytes) (k : Nat) : Option (Fld × Nat) := match strD (r.drop k) 7 with | (v, k2, e) => if e ≠ 0 then none else some ((nm, v), k + k2)
theorem lineQp_a {T : Tb} {count base : Nat} {r : Bytes} {i k e : Nat} (h : 192 ≤ (r.headD 0).toNat) (hq : rdp r 6 = (i, k, e)) : lineQ T count base r = if e ≠ 0 then none else (h3tab[i]?).map fun x => (x, k) := by
  unfold lineQ
  simp only [if_pos h, hq]
theorem lineQp_b {T : Tb} {count base : Nat} {r : Bytes} {i k e : Nat} (h1 : ¬ 192 ≤ (r.headD 0).toNat) (h : 128 ≤ (r.headD 0).toNat) (hq : rdp r 6 = (i, k, e)) : lineQ T count base r = if e ≠ 0 then none else (entQ T count (relQ base i)).map fun x => (x, k) := by
  unfold lineQ
  simp only [if_neg h1, if_pos h, hq]
theorem lineQp_c {T : Tb} {count base : Nat} {r : Bytes} {i k e : Nat} (h2 : ¬ 128 ≤ (r.headD 0).toNat) (h : 64 ≤ (r.headD 0).toNat) (hb : (r.headD 0).toNat / 16 % 2 = 1) (hq : rdp r 4 = (i, k, e)) : lineQ T count base r = if e ≠ 0 then none else match h3tab[i]? with | none => none | some f => litQp f.1 r k := by
  unfold lineQ
  have h1 : ¬ 192 ≤ (r.headD 0).toNat := by omega
  simp only [if_neg h1, if_neg h2, if_pos h, if_pos hb, hq]
  by_cases he : e ≠ 0
  · simp only [if_pos he]; rfl
  · simp only [if_neg he]; cases h3tab[i]? <;> rfl
theorem lineQp_e {T : Tb} {count base : Nat} {r s : Bytes} {k e : Nat} (h3 : ¬ 64 ≤ (r.headD 0).toNat) (h : 32 ≤ (r.headD 0).toNat) (hq : strD r 3 = (s, k, e)) : lineQ T count base r = if e ≠ 0 then none else litQp s r k := by
  unfold lineQ
  have h1 : ¬ 192 ≤ (r.headD 0).toNat := by omega
  have h2 : ¬ 128 ≤ (r.headD 0).toNat := by omega
  simp only [if_neg h1, if_neg h2, if_neg h3, if_pos h, hq]
  by_cases he : e ≠ 0
  · simp only [if_pos he]
  · simp only [if_neg he]; rfl
theorem linesQp_nil (T : Tb) (count base fu : Nat) (out : List Fld) : linesQ T count base fu out [] = some out := by cases fu <;> rfl
theorem linesQp_cons (T : Tb) (count base fu : Nat) (out : List Fld) {r : Bytes} (h : r ≠ []) : linesQ T count base (fu + 1) out r = match lineQ T count base r with
    | none => none
    | some (x, k) => if 64 < out.length + 1 then none else linesQ T count base fu (out ++ [x]) (r.drop k) := by
  cases r with
  | nil => exact absurd rfl h
  | cons c t => rfl
theorem Tb.add_nn (T : Tb) (f : Fld) : (T.add f).n ≤ T.n + 1 ∧ (T.add f).cap = T.cap := by
  unfold Tb.add
  split <;> simp
theorem addQ_facts {T : Tb} (hok : T.Ok) (f : Fld) (k : Nat) : ((addQ T f k).1 = 0 ∨ (addQ T f k).1 = 20 ∨ (addQ T f k).1 = 26) ∧ ((addQ T f k).1 = 0 → (addQ T f k).2.2.Ok ∧ (addQ T f k).2.2.cap = T.cap ∧ (addQ T f k).2.2.n ≤ T.n + 1 ∧ (addQ T f k).2.1 = k) := by
  unfold addQ
  split
  · exact ⟨.inl rfl, fun _ => ⟨hok.add f, (T.add_nn f).2, (T.add_nn f).1, rfl⟩⟩
  · exact ⟨.inr (.inr rfl), fun h => (by cases h)⟩
theorem fixE_or (e : Nat) : fixE e = 20 ∨ fixE e = 26 := by unfold fixE; split <;> simp
theorem valQ_facts {T : Tb} (hok : T.Ok) (nm r : Bytes) (k : Nat) (hk : 1 ≤ k ∧ k ≤ r.length) : ((valQ T nm r k).1 = 0 ∨ (valQ T nm r k).1 = 20 ∨ (valQ T nm r k).1 = 26) ∧ ((valQ T nm r k).1 = 0 → (valQ T nm r k).2.2.Ok ∧ (valQ T nm r k).2.2.cap = T.cap ∧ (valQ T nm r k).2.2.n ≤ T.n + 1 ∧ 1 ≤ (valQ T nm r k).2.1 ∧ (valQ T nm r k).2.1 ≤ r.length) := by
  have hrg := strD_range (r.drop k) 7 (by decide)
  rcases hs : strD (r.drop k) 7 with ⟨v, k2, e⟩
  rw [hs] at hrg
  rw [valQ_eq hs]
  by_cases he : e = 0
  · subst he
    rw [if_neg (by simp)]
    obtain ⟨h1, h2⟩ := addQ_facts hok (nm, v) (k + k2)
    have h3 := hrg rfl
    simp only [List.length_drop] at h3
    exact ⟨h1, fun h => by obtain ⟨a, b, c, d⟩ := h2 h; exact ⟨a, b, c, by omega, by omega⟩⟩
  · rw [if_pos he]
    exact ⟨.inr (fixE_or e), fun h => absurd h (fixE_ne e)⟩
theorem insQ_facts {lim : Nat} {T : Tb} (hok : T.Ok) (hc : T.cap ≤ 4096) (hl : lim ≤ 4096) (r : Bytes) : ((insQ lim T r).1 = 0 ∨ (insQ lim T r).1 = 20 ∨ (insQ lim T r).1 = 26) ∧ ((insQ lim T r).1 = 0 → (insQ lim T r).2.2.Ok ∧ (insQ lim T r).2.2.cap ≤ 4096 ∧ (insQ lim T r).2.2.n ≤ T.n + 1 ∧ 1 ≤ (insQ lim T r).2.1 ∧ (insQ lim T r).2.1 ≤ r.length) := by
  have hx : ((26 : Nat) = 0 ∨ (26 : Nat) = 20 ∨ (26 : Nat) = 26) := .inr (.inr rfl)
  by_cases h1 : 128 ≤ (r.headD 0).toNat
  · have hrg := rdp_range r 6 (by decide)
    rcases hq : rdp r 6 with ⟨i, k, e⟩
    rw [hq] at hrg
    rw [insQ_a h1 hq]
    by_cases he : e = 0
    · subst he
      rw [if_neg (by simp)]
      have h3 := hrg rfl
      cases nameQ T i (decide ((r.headD 0).toNat / 64 % 2 = 1)) with
      | none => exact ⟨hx, fun h => (by cases h)⟩
      | some nm =>
        obtain ⟨a, b⟩ := valQ_facts hok nm r k ⟨h3.1, h3.2.1⟩
        exact ⟨a, fun h => by obtain ⟨c1, c2, c3⟩ := b h; exact ⟨c1, by rw [c2]; exact hc, c3⟩⟩
    · rw [if_pos he]
      exact ⟨.inr (fixE_or e), fun h => absurd h (fixE_ne e)⟩
  by_cases h2 : 64 ≤ (r.headD 0).toNat
  · have hrg := strD_range r 5 (by decide)
    rcases hq : strD r 5 with ⟨nm, k, e⟩
    rw [hq] at hrg
    rw [insQ_b h1 h2 hq]
    by_cases he : e = 0
    · subst he
      rw [if_neg (by simp)]
      obtain ⟨a, b⟩ := valQ_facts hok nm r k (hrg rfl)
      exact ⟨a, fun h => by obtain ⟨c1, c2, c3⟩ := b h; exact ⟨c1, by rw [c2]; exact hc, c3⟩⟩
    · rw [if_pos he]
      exact ⟨.inr (fixE_or e), fun h => absurd h (fixE_ne e)⟩
  by_cases h3 : 32 ≤ (r.headD 0).toNat
  · have hrg := rdp_range r 5 (by decide)
    rcases hq : rdp r 5 with ⟨i, k, e⟩
    rw [hq] at hrg
    rw [insQ_c h2 h3 hq]
    by_cases he : e = 0
    · subst he
      rw [if_neg (by simp)]
      have h3 := hrg rfl
      by_cases hi : lim < i
      · rw [if_pos hi]; exact ⟨hx, fun h => (by cases h)⟩
      · rw [if_neg hi]
        exact ⟨.inl rfl, fun _ => ⟨hok.resize i, by show i ≤ 4096; omega, by show T.n ≤ T.n + 1; omega, h3.1, h3.2.1⟩⟩
    · rw [if_pos he]
      exact ⟨.inr (fixE_or e), fun h => absurd h (fixE_ne e)⟩
  · have hrg := rdp_range r 5 (by decide)
    rcases hq : rdp r 5 with ⟨i, k, e⟩
    rw [hq] at hrg
    rw [insQ_d h3 hq]
    by_cases he : e = 0
    · subst he
      rw [if_neg (by simp)]
      have h3 := hrg rfl
      cases T.new i with
      | none => exact ⟨hx, fun h => (by cases h)⟩
      | some f =>
        obtain ⟨a, b⟩ := addQ_facts hok f k
        exact ⟨a, fun h => by obtain ⟨c1, c2, c3, c4⟩ := b h; exact ⟨c1, by rw [c2]; exact hc, c3, by rw [c4]; exact h3.1, by rw [c4]; exact h3.2.1⟩⟩
    · rw [if_pos he]
      exact ⟨.inr (fixE_or e), fun h => absurd h (fixE_ne e)⟩
theorem feedGo_nil (lim fu : Nat) (T : Tb) : feedGo lim fu T [] = (T, [], false) := by cases fu <;> rfl
theorem feedGo_cons (lim fu : Nat) (T : Tb) {r : Bytes} (h : r ≠ []) : feedGo lim (fu + 1) T r = if (insQ lim T r).1 = 0 then feedGo lim fu (insQ lim T r).2.2 (r.drop (insQ lim T r).2.1) else if (insQ lim T r).1 = 20 then (T, r, false) else (T, r, true) := by
  cases r with
  | nil => exact absurd rfl h
  | cons c t => rfl
end Go.Proofs.Ytdgggjeiflllhaa.M
namespace Go.Proofs.Ytdgggjeiflllhaa.M
open Go.ChangeShapes Go.WideShapes Go.ChangeAt Go.RowKit
def gQ (lim : Nat) (T : Tb) (r : Bytes) : Tb × Bytes × Bool := feedGo lim r.length T r
theorem feedGo_fuel (lim : Nat) (hl : lim ≤ 4096) : ∀ (f1 f2 : Nat) (T : Tb) (r : Bytes), T.Ok → T.cap ≤ 4096 → r.length ≤ f1 → r.length ≤ f2 → feedGo lim f1 T r = feedGo lim f2 T r := fun f1 => by
  induction f1 with
  | zero =>
    intro f2 T r _ _ h1 _
    obtain rfl : r = [] := List.eq_nil_of_length_eq_zero (by omega)
    rw [feedGo_nil, feedGo_nil]
  | succ f1 ih =>
    intro f2 T r hok hc h1 h2
    by_cases hr : r = []
    · subst hr; rw [feedGo_nil, feedGo_nil]
    · have hp : 0 < r.length := List.length_pos_iff.2 hr
      obtain ⟨f2, rfl⟩ : ∃ f, f2 = f + 1 := ⟨f2 - 1, by omega⟩
      rw [feedGo_cons _ _ _ hr, feedGo_cons _ _ _ hr]
      have hf := insQ_facts hok hc hl r
      by_cases h0 : (insQ lim T r).1 = 0
      · rw [if_pos h0, if_pos h0]
        obtain ⟨a, b, c, d, e⟩ := hf.2 h0
        exact ih f2 _ _ a b (by rw [List.length_drop]; omega) (by rw [List.length_drop]; omega)
      · rw [if_neg h0, if_neg h0]
theorem gQ_cons {lim : Nat} (hl : lim ≤ 4096) {T : Tb} {r : Bytes} (hok : T.Ok) (hc : T.cap ≤ 4096) (hr : r ≠ []) : gQ lim T r = if (insQ lim T r).1 = 0 then gQ lim (insQ lim T r).2.2 (r.drop (insQ lim T r).2.1) else if (insQ lim T r).1 = 20 then (T, r, false) else (T, r, true) := by
  have hp : 0 < r.length := List.length_pos_iff.2 hr
  obtain ⟨f, hf⟩ : ∃ f, r.length = f + 1 := ⟨r.length - 1, by omega⟩
  unfold gQ
  rw [hf, feedGo_cons _ _ _ hr]
  by_cases h0 : (insQ lim T r).1 = 0
  · rw [if_pos h0, if_pos h0]
    obtain ⟨a, b, c, d, e⟩ := (insQ_facts hok hc hl r).2 h0
    exact feedGo_fuel lim hl _ _ _ _ a b (by rw [List.length_drop]; omega) (Nat.le_refl _)
  · rw [if_neg h0, if_neg h0]
theorem feed_ok {D : Qd} (hb : D.bad = false) (x : Bytes) : D.feed x = (if (gQ D.lim D.t (D.rest ++ x)).2.2 then 26 else 0, { D with t := (gQ D.lim D.t (D.rest ++ x)).1, rest := (gQ D.lim D.t (D.rest ++ x)).2.1, bad := (gQ D.lim D.t (D.rest ++ x)).2.2 }) := by
  unfold Qd.feed
  rw [if_neg (by rw [hb]; simp)]
  rfl
end Go.Proofs.Ytdgggjeiflllhaa.M

