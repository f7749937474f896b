/- QdecPieces: the plain law: instructions say the same in any pieces. No condition. -/
import Derived.BigQuiet
import Derived.Test.YtdgggjeiflllhaaQi
import Derived.Test.YtdgggjeiflllhaaQt
import Derived.Test.YtdgggjeiflllhaaQkp
namespace Go.Proofs.Ytdgggjeiflllhaa.M
open Go.ChangeShapes Go.WideShapes Go.ChangeAt Go.RowKit

theorem rdMore_app (s : Bytes) : ∀ (f i v : Nat) (l : Bytes), (rdMore f i v l).2.2 ≠ 20 → rdMore f i v (l ++ s) = rdMore f i v l
  | 0, _, _, l, _ => by cases l <;> cases s <;> rfl
  | f + 1, _, _, [], h => absurd rfl h
  | f + 1, i, v, b :: r, h => by
    simp only [List.cons_append, rdMore] at h ⊢
    by_cases h1 : (4611686018427387903 - v) / 2 ^ (7 * (i - 1)) < b.toNat % 128
    · rw [if_pos h1, if_pos h1]
    · rw [if_neg h1] at h ⊢
      rw [if_neg h1]
      by_cases h2 : b.toNat < 128
      · rw [if_pos h2, if_pos h2]
      · rw [if_neg h2] at h ⊢
        rw [if_neg h2]
        exact rdMore_app s f _ _ r h
theorem rdp_app (s l : Bytes) (k : Nat) (h : (rdp l k).2.2 ≠ 20) : rdp (l ++ s) k = rdp l k := by
  cases l with
  | nil => exact absurd rfl h
  | cons b r =>
    simp only [List.cons_append, rdp] at h ⊢
    by_cases h1 : b.toNat % 2 ^ k < 2 ^ k - 1
    · rw [if_pos h1, if_pos h1]
    · rw [if_neg h1] at h ⊢
      rw [if_neg h1]
      exact rdMore_app s _ _ _ r h
theorem headD_app (l s : Bytes) (h : l ≠ []) : (l ++ s).headD 0 = l.headD 0 := by
  cases l with
  | nil => exact absurd rfl h
  | cons b r => rfl
theorem strD_app (s l : Bytes) (k : Nat) (hk : 2 ^ k ≤ 256) (h : (strD l k).2.2 ≠ 20) : strD (l ++ s) k = strD l k := by
  by_cases hl : l = []
  · subst hl
    exact absurd (by unfold strD; rfl) h
  have hr := rdp_range l k hk
  have ha := rdp_app s l k
  unfold strD at h ⊢
  rcases hq : rdp l k with ⟨n, at_, e⟩
  rw [hq] at hr ha
  simp only [hq] at h hr ha
  by_cases he : e = 0
  · subst he
    rw [ha (by decide)]
    simp only [if_neg (show ¬ (0 : Nat) ≠ 0 by simp)] at h ⊢
    obtain ⟨r1, r2, r3⟩ := hr rfl
    by_cases h1 : 4096 < n
    · rw [if_pos h1, if_pos h1]
    · rw [if_neg h1] at h ⊢
      rw [if_neg h1]
      by_cases h2 : l.length - at_ < n
      · rw [if_pos h2] at h; exact absurd rfl h
      · rw [if_neg h2, if_neg (by rw [List.length_append]; omega), headD_app l s hl, List.drop_append_of_le_length r2, List.take_append_of_le_length (by rw [List.length_drop]; omega)]
  · rw [if_pos he] at h
    rw [ha h]
    simp only [if_pos he]
theorem fixE_20 {e : Nat} (h : fixE e ≠ 20) : e ≠ 20 := fun q => h (by unfold fixE; rw [if_pos q])
theorem valQ_app (s : Bytes) (T : Tb) (nm r : Bytes) (k : Nat) (hk : k ≤ r.length) (h : (valQ T nm r k).1 ≠ 20) : valQ T nm (r ++ s) k = valQ T nm r k := by
  rcases hs : strD (r.drop k) 7 with ⟨v, k2, e⟩
  rw [valQ_eq hs] at h ⊢
  have ha := strD_app s (r.drop k) 7 (by decide)
  rw [hs] at ha
  by_cases he : e = 0
  · subst he
    have hs2 : strD ((r ++ s).drop k) 7 = (v, k2, 0) := by rw [List.drop_append_of_le_length hk]; exact ha (by simp)
    rw [valQ_eq hs2]
  · rw [if_pos he] at h
    have hs2 : strD ((r ++ s).drop k) 7 = (v, k2, e) := by rw [List.drop_append_of_le_length hk]; exact ha (fixE_20 h)
    rw [valQ_eq hs2]
theorem insQ_app (lim : Nat) (T : Tb) (r s : Bytes) (hr : r ≠ []) (h : (insQ lim T r).1 ≠ 20) : insQ lim T (r ++ s) = insQ lim T r := by
  have hh := headD_app r s hr
  by_cases h1 : 128 ≤ (r.headD 0).toNat
  · have hrg := rdp_range r 6 (by decide)
    have ha := rdp_app s r 6
    rcases hq : rdp r 6 with ⟨i, k, e⟩
    rw [insQ_a h1 hq] at h ⊢
    rw [hq] at hrg ha
    by_cases he : e = 0
    · subst he
      rw [insQ_a (by rw [hh]; exact h1) (ha (by simp)), hh]
      rw [if_neg (by simp)] at h ⊢
      rw [if_neg (by simp)]
      cases hn : nameQ T i (decide ((r.headD 0).toNat / 64 % 2 = 1)) with
      | none => rfl
      | some nm =>
        rw [hn] at h
        exact valQ_app s T nm r k (hrg rfl).2.1 h
    · rw [if_pos he] at h
      rw [insQ_a (by rw [hh]; exact h1) (ha (fixE_20 h))]; simp only [if_pos he]
  by_cases h2 : 64 ≤ (r.headD 0).toNat
  · have hrg := strD_range r 5 (by decide)
    have ha := strD_app s r 5 (by decide)
    rcases hq : strD r 5 with ⟨nm, k, e⟩
    rw [insQ_b h1 h2 hq] at h ⊢
    rw [hq] at hrg ha
    by_cases he : e = 0
    · subst he
      rw [insQ_b (by rw [hh]; exact h1) (by rw [hh]; exact h2) (ha (by simp))]
      rw [if_neg (by simp)] at h ⊢
      rw [if_neg (by simp)]
      exact valQ_app s T nm r k (hrg rfl).2 h
    · rw [if_pos he] at h
      rw [insQ_b (by rw [hh]; exact h1) (by rw [hh]; exact h2) (ha (fixE_20 h))]; simp only [if_pos he]
  by_cases h3 : 32 ≤ (r.headD 0).toNat
  · have ha := rdp_app s r 5
    rcases hq : rdp r 5 with ⟨i, k, e⟩
    rw [insQ_c h2 h3 hq] at h ⊢
    rw [hq] at ha
    by_cases he : e = 0
    · subst he
      rw [insQ_c (by rw [hh]; exact h2) (by rw [hh]; exact h3) (ha (by simp))]
    · rw [if_pos he] at h
      rw [insQ_c (by rw [hh]; exact h2) (by rw [hh]; exact h3) (ha (fixE_20 h))]
  · have ha := rdp_app s r 5
    rcases hq : rdp r 5 with ⟨i, k, e⟩
    rw [insQ_d h3 hq] at h ⊢
    rw [hq] at ha
    by_cases he : e = 0
    · subst he
      rw [insQ_d (by rw [hh]; exact h3) (ha (by simp))]
    · rw [if_pos he] at h
      rw [insQ_d (by rw [hh]; exact h3) (ha (fixE_20 h))]
/-- what is read of all bytes -/
def gQ (lim : Nat) (T : Tb) (r : Bytes) : Tb × Bytes × Bool := feedGo lim r.length T r
theorem feedGo_fuel (lim : Nat) (hl : lim ≤ 4096) : ∀ (f1 f2 : Nat) (T : Tb) (r : Bytes), T.Ok → T.cap ≤ 4096 → r.length ≤ f1 → r.length ≤ f2 → feedGo lim f1 T r = feedGo lim f2 T r := fun f1 => by
  induction f1 with
  | zero =>
    intro f2 T r _ _ h1 _
    obtain rfl : r = [] := List.eq_nil_of_length_eq_zero (by omega)
    rw [feedGo_nil, feedGo_nil]
  | succ f1 ih =>
    intro f2 T r hok hc h1 h2
    by_cases hr : r = []
    · subst hr; rw [feedGo_nil, feedGo_nil]
    · have hp : 0 < r.length := List.length_pos_iff.2 hr
      obtain ⟨f2, rfl⟩ : ∃ f, f2 = f + 1 := ⟨f2 - 1, by omega⟩
      rw [feedGo_cons _ _ _ hr, feedGo_cons _ _ _ hr]
      have hf := insQ_facts hok hc hl r
      by_cases h0 : (insQ lim T r).1 = 0
      · rw [if_pos h0, if_pos h0]
        obtain ⟨a, b, c, d, e⟩ := hf.2 h0
        exact ih f2 _ _ a b (by rw [List.length_drop]; omega) (by rw [List.length_drop]; omega)
      · rw [if_neg h0, if_neg h0]
theorem gQ_cons {lim : Nat} (hl : lim ≤ 4096) {T : Tb} {r : Bytes} (hok : T.Ok) (hc : T.cap ≤ 4096) (hr : r ≠ []) : gQ lim T r = if (insQ lim T r).1 = 0 then gQ lim (insQ lim T r).2.2 (r.drop (insQ lim T r).2.1) else if (insQ lim T r).1 = 20 then (T, r, false) else (T, r, true) := by
  have hp : 0 < r.length := List.length_pos_iff.2 hr
  obtain ⟨f, hf⟩ : ∃ f, r.length = f + 1 := ⟨r.length - 1, by omega⟩
  unfold gQ
  rw [hf, feedGo_cons _ _ _ hr]
  by_cases h0 : (insQ lim T r).1 = 0
  · rw [if_pos h0, if_pos h0]
    obtain ⟨a, b, c, d, e⟩ := (insQ_facts hok hc hl r).2 h0
    exact feedGo_fuel lim hl _ _ _ _ a b (by rw [List.length_drop]; omega) (Nat.le_refl _)
  · rw [if_neg h0, if_neg h0]
theorem gQ_app {lim : Nat} (hl : lim ≤ 4096) (s : Bytes) : ∀ (n : Nat) (T : Tb) (r : Bytes), r.length ≤ n → T.Ok → T.cap ≤ 4096 →
    ((gQ lim T r).2.2 = true → (gQ lim T (r ++ s)).2.2 = true) ∧ ((gQ lim T r).2.2 = false → gQ lim T (r ++ s) = gQ lim (gQ lim T r).1 ((gQ lim T r).2.1 ++ s)) := fun n => by
  induction n with
  | zero =>
    intro T r h _ _
    obtain rfl : r = [] := List.eq_nil_of_length_eq_zero (by omega)
    have h0 : gQ lim T [] = (T, [], false) := feedGo_nil _ _ _
    rw [h0]
    exact ⟨fun h => (by cases h), fun _ => rfl⟩
  | succ n ih =>
    intro T r h hok hc
    by_cases hr : r = []
    · subst hr
      have h0 : gQ lim T [] = (T, [], false) := feedGo_nil _ _ _
      rw [h0]
      exact ⟨fun h => (by cases h), fun _ => rfl⟩
    · have hra : r ++ s ≠ [] := fun e => hr (List.append_eq_nil_iff.1 e).1
      have h1 := gQ_cons hl hok hc hr
      have h2 := gQ_cons hl hok hc hra
      have hf := insQ_facts hok hc hl r
      have ha := insQ_app lim T r s hr
      by_cases h0 : (insQ lim T r).1 = 0
      · rw [ha (by rw [h0]; decide)] at h2
        rw [if_pos h0] at h1 h2
        obtain ⟨a, b, c, d, e⟩ := hf.2 h0
        rw [List.drop_append_of_le_length e] at h2
        rw [h1, h2]
        exact ih _ _ (by rw [List.length_drop]; omega) a b
      · rw [if_neg h0] at h1
        by_cases h20 : (insQ lim T r).1 = 20
        · rw [if_pos h20] at h1
          rw [h1]
          exact ⟨fun h => (by cases h), fun _ => rfl⟩
        · rw [ha h20] at h2
          rw [if_neg h0, if_neg h20] at h2
          rw [if_neg h20] at h1
          rw [h1, h2]
          exact ⟨fun _ => rfl, fun h => (by cases h)⟩
theorem feed_ok {D : Qd} (hb : D.bad = false) (x : Bytes) : D.feed x = (if (gQ D.lim D.t (D.rest ++ x)).2.2 then 26 else 0, { D with t := (gQ D.lim D.t (D.rest ++ x)).1, rest := (gQ D.lim D.t (D.rest ++ x)).2.1, bad := (gQ D.lim D.t (D.rest ++ x)).2.2 }) := by
  unfold Qd.feed
  rw [if_neg (by rw [hb]; simp)]
  rfl
theorem feed_bad {D : Qd} (hb : D.bad = true) (x : Bytes) : D.feed x = (26, D) := by unfold Qd.feed; rw [if_pos hb]
/-- what is known when some pieces were fed: B is as if all of p had come at once, or both are wrong -/
def PieceI (D B : Qd) (p : Bytes) : Prop := (B.bad = false ∧ D.feed p = (0, B)) ∨ (B.bad = true ∧ ∀ s, (D.feed (p ++ s)).1 = 26)
theorem PieceI.start {D : Qd} (hb : D.bad = false) (h0 : D.rest = []) : PieceI D D [] := by
  refine .inl ⟨hb, ?_⟩
  rw [feed_ok hb, h0]
  have h0' : gQ D.lim D.t [] = (D.t, [], false) := feedGo_nil _ _ _
  rw [List.append_nil, h0']
  cases D
  simp only at hb h0
  rw [hb, h0]
  rfl
theorem PieceI.step {D B : Qd} {p x : Bytes} (h : PieceI D B p) (hb : D.bad = false) (hok : D.t.Ok) (hc : D.t.cap ≤ 4096) (hl : D.lim ≤ 4096) : PieceI D (B.feed x).2 (p ++ x) ∧ ((B.feed x).1 = 0 ↔ (B.feed x).2.bad = false) ∧ (B.bad = true → (B.feed x).2.bad = true) := by
  rcases h with ⟨hB, hD⟩ | ⟨hB, hD⟩
  · have h1 := feed_ok hb p
    rw [hD] at h1
    have hB2 : B = { D with t := (gQ D.lim D.t (D.rest ++ p)).1, rest := (gQ D.lim D.t (D.rest ++ p)).2.1, bad := (gQ D.lim D.t (D.rest ++ p)).2.2 } := congrArg Prod.snd h1
    have hgb : (gQ D.lim D.t (D.rest ++ p)).2.2 = false := by rw [hB2] at hB; exact hB
    obtain ⟨q1, q2⟩ := gQ_app hl x _ D.t (D.rest ++ p) (Nat.le_refl _) hok hc
    have q3 := q2 hgb
    have h2 := feed_ok hB x
    have e1 : B.lim = D.lim := by rw [hB2]
    have e2 : B.t = (gQ D.lim D.t (D.rest ++ p)).1 := by rw [hB2]
    have e3 : B.rest = (gQ D.lim D.t (D.rest ++ p)).2.1 := by rw [hB2]
    rw [e1, e2, e3, ← q3, List.append_assoc] at h2
    have h3 := feed_ok hb (p ++ x)
    have h4 : (B.feed x) = D.feed (p ++ x) := by rw [h3]; refine h2.trans ?_; rw [hB2]
    refine ⟨?_, ?_, fun e => by rw [hB] at e; cases e⟩
    · rw [h4]
      cases hx : (gQ D.lim D.t (D.rest ++ (p ++ x))).2.2 with
      | false => exact .inl ⟨by rw [h3]; exact hx, by rw [h3, hx]; rfl⟩
      | true =>
        refine .inr ⟨by rw [h3]; exact hx, fun s => ?_⟩
        rw [feed_ok hb]
        have := (gQ_app hl s _ D.t (D.rest ++ (p ++ x)) (Nat.le_refl _) hok hc).1 hx
        rw [← List.append_assoc, this]
        rfl
    · rw [h4, h3]
      cases (gQ D.lim D.t (D.rest ++ (p ++ x))).2.2 <;> simp
  · rw [feed_bad hB]
    exact ⟨.inr ⟨hB, fun s => by rw [List.append_assoc]; exact hD _⟩, ⟨fun h => (by cases h), fun h => by rw [hB] at h; cases h⟩, fun _ => hB⟩
/-- all pieces -/
theorem PieceI.whole {D B : Qd} {p : Bytes} (h : PieceI D B p) : ((D.feed p).1 = 0 ↔ B.bad = false) ∧ (B.bad = false → (D.feed p).2 = B) := by
  rcases h with ⟨hB, hD⟩ | ⟨hB, hD⟩
  · rw [hD]; simp [hB]
  · have := hD []
    rw [List.append_nil] at this
    rw [this, hB]
    simp
end Go.Proofs.Ytdgggjeiflllhaa.M
