/- What the encoder writes is read by the decoder: plain words. Sizes that a request may have. -/
import Derived.Test.YtdgggjeiflllhaaDecp
import Derived.Test.YtdgggjeiflllhaaEncp
namespace Go.Proofs.Ytdgggjeiflllhaa.M
open Go.ChangeShapes Go.WideShapes Go.ChangeAt Go.RowKit

theorem rdMore_more : ∀ (f v g i x : Nat) (r : Bytes), 1 ≤ i → f < g → v < 128 ^ (f + 1) → x + v * 2 ^ (7 * (i - 1)) ≤ 4611686018427387903 → rdMore g i x (more f v ++ r) = (x + v * 2 ^ (7 * (i - 1)), i + (more f v).length, 0)
  | f, v, 0, i, x, r, _, hg, _, _ => by omega
  | 0, v, g + 1, i, x, r, hi, hg, hv, hx => by
    have hv' : v < 128 := by simpa using hv
    have hb : (UInt8.ofNat v).toNat = v := by simp; omega
    have hm : v % 128 = v := Nat.mod_eq_of_lt hv'
    have hd : ¬ (4611686018427387903 - x) / 2 ^ (7 * (i - 1)) < v := by
      have : v ≤ (4611686018427387903 - x) / 2 ^ (7 * (i - 1)) := (Nat.le_div_iff_mul_le (Nat.two_pow_pos _)).2 (by omega)
      omega
    simp only [more, List.cons_append, List.nil_append, rdMore, hb, hm]
    rw [if_neg hd, if_pos hv']
    simp
  | f + 1, v, g + 1, i, x, r, hi, hg, hv, hx => by
    by_cases hs : v < 128
    · have hb : (UInt8.ofNat v).toNat = v := by simp; omega
      have hm : v % 128 = v := Nat.mod_eq_of_lt hs
      have hd : ¬ (4611686018427387903 - x) / 2 ^ (7 * (i - 1)) < v := by
        have : v ≤ (4611686018427387903 - x) / 2 ^ (7 * (i - 1)) := (Nat.le_div_iff_mul_le (Nat.two_pow_pos _)).2 (by omega)
        omega
      simp only [more, if_pos hs, List.cons_append, List.nil_append, rdMore, hb, hm]
      rw [if_neg hd]
      simp
    · have hb : (UInt8.ofNat (v % 128 + 128)).toNat = v % 128 + 128 := by simp; omega
      have hm : (v % 128 + 128) % 128 = v % 128 := by omega
      have hmul : v * 2 ^ (7 * (i - 1)) = v % 128 * 2 ^ (7 * (i - 1)) + v / 128 * 2 ^ (7 * (i + 1 - 1)) := by
        have e : 2 ^ (7 * (i + 1 - 1)) = 128 * 2 ^ (7 * (i - 1)) := by
          rw [show 7 * (i + 1 - 1) = 7 + 7 * (i - 1) from by omega, Nat.pow_add]
        rw [e, ← Nat.mul_assoc, ← Nat.add_mul]
        congr 1
        omega
      have hd : ¬ (4611686018427387903 - x) / 2 ^ (7 * (i - 1)) < v % 128 := by
        have : v % 128 ≤ (4611686018427387903 - x) / 2 ^ (7 * (i - 1)) := (Nat.le_div_iff_mul_le (Nat.two_pow_pos _)).2 (by omega)
        omega
      have hv2 : v / 128 < 128 ^ (f + 1) := by
        rw [Nat.pow_succ] at hv
        exact Nat.div_lt_of_lt_mul (by rw [Nat.mul_comm]; exact hv)
      have ih := rdMore_more f (v / 128) g (i + 1) (x + v % 128 * 2 ^ (7 * (i - 1))) r (by omega) (by omega) hv2 (by omega)
      simp only [more, if_neg hs, List.cons_append, rdMore, hb, hm]
      rw [if_neg hd, if_neg (by omega), ih]
      simp only [List.length_cons, Prod.mk.injEq, and_true]
      exact ⟨by omega, by omega⟩

theorem more_up : ∀ (f v : Nat), v < 128 ^ (f + 1) → more (f + 1) v = more f v
  | 0, v, h => by
    have : v < 128 := by simpa using h
    simp [more, this]
  | f + 1, v, h => by
    by_cases hs : v < 128
    · simp [more, hs]
    · have ih := more_up f (v / 128) (by
        rw [Nat.pow_succ] at h
        exact Nat.div_lt_of_lt_mul (by rw [Nat.mul_comm]; exact h))
      rw [more, if_neg hs, ih, more, if_neg hs]

theorem rdp_pfx (f k v : Nat) (r : Bytes) (hf : f ≤ 255) (k1 : k ≤ 8) (hv : v ≤ 4611686018427387903) : rdp (pfx f k v ++ r) k = (v, (pfx f k v).length, 0) := by
  unfold pfx
  have hpos := Nat.two_pow_pos k
  by_cases h : v < 2 ^ k - 1
  · have hh := head_le f k v hf k1 (by omega)
    have hb : (UInt8.ofNat (f / 2 ^ k * 2 ^ k + v)).toNat = f / 2 ^ k * 2 ^ k + v := by simp; omega
    have hm : (f / 2 ^ k * 2 ^ k + v) % 2 ^ k = v := by rw [Nat.mul_comm, Nat.mul_add_mod]; exact Nat.mod_eq_of_lt (by omega)
    rw [if_pos h]
    simp only [List.cons_append, List.nil_append, rdp, hb, hm]
    rw [if_pos h]
    rfl
  · have hh := head_le f k (2 ^ k - 1) hf k1 (by omega)
    have hb : (UInt8.ofNat (f / 2 ^ k * 2 ^ k + (2 ^ k - 1))).toNat = f / 2 ^ k * 2 ^ k + (2 ^ k - 1) := by simp; omega
    have hm : (f / 2 ^ k * 2 ^ k + (2 ^ k - 1)) % 2 ^ k = 2 ^ k - 1 := by rw [Nat.mul_comm, Nat.mul_add_mod]; exact Nat.mod_eq_of_lt (by omega)
    have := rdMore_more 9 (v - (2 ^ k - 1)) 10 1 (2 ^ k - 1) r (by omega) (by omega) (by omega) (by omega)
    rw [if_neg h]
    simp only [List.cons_append, rdp, hb, hm]
    rw [if_neg (by omega)]
    have e : more 10 (v - (2 ^ k - 1)) = more 9 (v - (2 ^ k - 1)) := more_up _ _ (by omega)
    rw [e, this]
    simp only [List.length_cons, Prod.mk.injEq, and_true]
    exact ⟨by omega, by omega⟩

theorem pfx_head (f k v : Nat) (r : Bytes) (hf : f ≤ 255) (k1 : k ≤ 8) : ∃ x t, pfx f k v ++ r = x :: t ∧ x.toNat / 2 ^ k = f / 2 ^ k := by
  unfold pfx
  have hpos := Nat.two_pow_pos k
  by_cases h : v < 2 ^ k - 1
  · have hh := head_le f k v hf k1 (by omega)
    have hb : (UInt8.ofNat (f / 2 ^ k * 2 ^ k + v)).toNat = f / 2 ^ k * 2 ^ k + v := by simp; omega
    rw [if_pos h]
    refine ⟨_, r, rfl, ?_⟩
    rw [hb, Nat.mul_comm, Nat.mul_add_div hpos, Nat.div_eq_of_lt (a := v) (by omega), Nat.add_zero]
  · have hh := head_le f k (2 ^ k - 1) hf k1 (by omega)
    have hb : (UInt8.ofNat (f / 2 ^ k * 2 ^ k + (2 ^ k - 1))).toNat = f / 2 ^ k * 2 ^ k + (2 ^ k - 1) := by simp; omega
    rw [if_neg h]
    refine ⟨_, _, rfl, ?_⟩
    rw [hb, Nat.mul_comm, Nat.mul_add_div hpos, Nat.div_eq_of_lt (a := 2 ^ k - 1) (by omega), Nat.add_zero]
theorem pfx_headD (f k v : Nat) (r : Bytes) (hf : f ≤ 255) (k1 : k ≤ 8) : ((pfx f k v ++ r).headD 0).toNat / 2 ^ k = f / 2 ^ k := by
  obtain ⟨x, t, h1, h2⟩ := pfx_head f k v r hf k1
  rw [h1]; exact h2
theorem strD_plain (s r : Bytes) (h : s.length ≤ 4096) : strD (pfx 0 7 s.length ++ s ++ r) 7 = (s, (pfx 0 7 s.length ++ s).length, 0) := by
  rw [List.append_assoc]
  have h1 := rdp_pfx 0 7 s.length (s ++ r) (by omega) (by omega) (by omega)
  have h2 := pfx_headD 0 7 s.length (s ++ r) (by omega) (by omega)
  unfold strD
  rw [h1]
  simp only
  rw [if_neg (by simp), if_neg (by omega), if_neg (by simp), h2, if_pos (by decide)]
  simp
theorem strD_coded (s r : Bytes) (h : s.length ≤ 4096) (hh : hlen s ≤ 4096) : strD (pfx 128 7 (hlen s) ++ hcode s ++ r) 7 = (s, (pfx 128 7 (hlen s) ++ hcode s).length, 0) := by
  rw [List.append_assoc]
  have h1 := rdp_pfx 128 7 (hlen s) (hcode s ++ r) (by omega) (by omega) (by omega)
  have h2 := pfx_headD 128 7 (hlen s) (hcode s ++ r) (by omega) (by omega)
  have h3 := hcode_length s
  have h4 := unhuf_hcode s h
  unfold strD
  rw [h1]
  simp only
  rw [if_neg (by simp), if_neg (by omega), if_neg (by simp [h3]), h2, if_neg (by decide)]
  have e : ((pfx 128 7 (hlen s) ++ (hcode s ++ r)).drop (pfx 128 7 (hlen s)).length).take (hlen s) = hcode s := by
    rw [List.drop_left, ← h3, List.take_left]
  rw [e, h4]
  simp [h3]
theorem strD_strc (s r : Bytes) (h : s.length ≤ 4096) : strD (strc 128 0 7 s ++ r) 7 = (s, (strc 128 0 7 s).length, 0) := by
  unfold strc
  split
  · exact strD_coded s r h (by omega)
  · exact strD_plain s r h

theorem fldAt_get {l : List Fld} {f : Fld} {i : Nat} (h : fldAt l f = some i) : l[i]? = some f := by
  unfold fldAt at h
  rw [List.findIdx?_eq_some_iff_getElem] at h
  obtain ⟨h1, h2, _⟩ := h
  rw [List.getElem?_eq_getElem h1]
  simpa using h2
theorem nameAt_get {l : List Fld} {n : Bytes} {i : Nat} (h : nameAt l n = some i) : ∃ g, l[i]? = some g ∧ g.1 = n := by
  unfold nameAt at h
  rw [List.findIdx?_eq_some_iff_getElem] at h
  obtain ⟨h1, h2, _⟩ := h
  exact ⟨l[i], List.getElem?_eq_getElem h1, by simpa using h2⟩
theorem lastAt_get {κ : Type} [DecidableEq κ] (key : Fld → κ) (k : κ) : ∀ (l : List Fld) (b i : Nat), lastAt key k b l = some i → b ≤ i ∧ ∃ g, l[i - b]? = some g ∧ key g = k
  | [], b, i, h => by cases h
  | x :: r, b, i, h => by
    unfold lastAt at h
    cases hr : lastAt key k (b + 1) r with
    | some j =>
      rw [hr] at h
      obtain ⟨h1, g, h2, h3⟩ := lastAt_get key k r (b + 1) j hr
      simp at h
      subst h
      refine ⟨by omega, g, ?_, h3⟩
      rw [show j - b = (j - (b + 1)) + 1 from by omega, List.getElem?_cons_succ]
      exact h2
    | none =>
      rw [hr] at h
      simp only at h
      split at h
      · rename_i e
        simp at h
        subst h
        exact ⟨Nat.le_refl _, x, by simp, e⟩
      · cases h
/-- an entry of the dynamic table, by its number -/
theorem entry_dyn {T : Tb} (hle : T.l.length ≤ T.n) {i : Nat} {g : Fld} (h0 : T.first ≤ i) (h : T.l[i - T.first]? = some g) : entryS T (61 + T.n - i) = some g := by
  obtain ⟨hi, _⟩ := List.getElem?_eq_some_iff.1 h
  unfold Tb.first at *
  unfold entryS
  rw [if_neg (by omega), if_neg (by omega), if_pos (by omega)]
  rw [show T.l.length - 1 - (61 + T.n - i - 62) = i - (T.n - T.l.length) from by omega]
  exact h
theorem entry_stat (T : Tb) {i : Nat} {g : Fld} (h : h2tab[i]? = some g) : entryS T (i + 1) = some g := by
  obtain ⟨hi, _⟩ := List.getElem?_eq_some_iff.1 h
  have hl : h2tab.length = 61 := by decide
  unfold entryS
  rw [if_neg (by omega), if_pos (by omega)]
  exact h
/-- what the place tells -/
theorem place_entry {T : Tb} (hle : T.l.length ≤ T.n) (f : Fld) : (placeS T f).1 ≤ 62 + T.n ∧ ((placeS T f).2 = true → entryS T (placeS T f).1 = some f ∧ (placeS T f).1 ≠ 0) ∧
    ((placeS T f).2 = false → (placeS T f).1 = 0 ∨ ∃ g, entryS T (placeS T f).1 = some g ∧ g.1 = f.1) := by
  have hs : (h2S f).2.1 = true → (h2S f).1 ≠ 0 ∧ (h2S f).1 ≤ 62 ∧ ((h2S f).2.2 = true → entryS T (h2S f).1 = some f) ∧ ∃ g, entryS T (h2S f).1 = some g ∧ g.1 = f.1 := by
    intro hq
    have h62 := h2S_le f
    unfold h2S findS at *
    cases h1 : fldAt h2tab f with
    | some i =>
      have he := entry_stat T (fldAt_get h1)
      rw [h1] at h62
      have h9 : i + 1 ≤ 62 := by simpa using h62
      refine ⟨by simp, by simpa using h9, fun _ => by simpa using he, f, by simpa using he, rfl⟩
    | none =>
      rw [h1] at hq h62
      cases h2 : nameAt h2tab f.1 with
      | some i =>
        obtain ⟨g, hg, hn⟩ := nameAt_get h2
        have he := entry_stat T hg
        rw [h2] at h62
        have h9 : i + 1 ≤ 62 := by simpa using h62
        refine ⟨by simp, by simpa using h9, fun c => by simp at c, g, by simpa using he, hn⟩
      | none => rw [h2] at hq; simp at hq
  have hw : (h2S f).2.2 = true → (h2S f).2.1 = true := by
    intro hq
    unfold h2S findS at *
    cases h1 : fldAt h2tab f with
    | some i => simp
    | none =>
      rw [h1] at hq
      cases h2 : nameAt h2tab f.1 with
      | some i => rw [h2] at hq; simp at hq
      | none => rw [h2] at hq; simp at hq
  have hd : (T.find f).2.1 = true → 61 + T.n - (T.find f).1 ≠ 0 ∧ 61 + T.n - (T.find f).1 ≤ 62 + T.n ∧ ((T.find f).2.2 = true → entryS T (61 + T.n - (T.find f).1) = some f) ∧ ∃ g, entryS T (61 + T.n - (T.find f).1) = some g ∧ g.1 = f.1 := by
    intro hq
    have hle2 := Tb.find_le T f hle
    refine ⟨by omega, by omega, ?_⟩
    unfold Tb.find at *
    cases h1 : lastAt id f T.first T.l with
    | some i =>
      obtain ⟨h2, g, h3, h4⟩ := lastAt_get id f T.l T.first i h1
      have he := entry_dyn hle h2 h3
      simp only [id] at h4
      subst h4
      exact ⟨fun _ => he, g, he, rfl⟩
    | none =>
      rw [h1] at hq
      cases h2 : lastAt Prod.fst f.1 T.first T.l with
      | some i =>
        obtain ⟨h3, g, h4, h5⟩ := lastAt_get Prod.fst f.1 T.l T.first i h2
        exact ⟨fun c => by simp at c, g, entry_dyn hle h3 h4, h5⟩
      | none => rw [h2] at hq; simp at hq
  have hw2 : (T.find f).2.2 = true → (T.find f).2.1 = true := by
    intro hq
    unfold Tb.find at *
    cases h1 : lastAt id f T.first T.l with
    | some i => simp
    | none =>
      rw [h1] at hq
      cases h2 : lastAt Prod.fst f.1 T.first T.l with
      | some i => simp [h2] at hq
      | none => rw [h2] at hq; simp at hq
  unfold placeS
  generalize h2S f = q at *
  generalize T.find f = q2 at *
  obtain ⟨i, ok, whole⟩ := q
  obtain ⟨k, there, all⟩ := q2
  simp only at hs hw hd hw2 ⊢
  cases whole
  · cases all
    · cases ok
      · cases there
        · simp
        · obtain ⟨h1, h2, h3, h4⟩ := hd rfl
          exact ⟨h2, fun c => by simp at c, fun _ => .inr h4⟩
      · obtain ⟨h1, h2, h3, h4⟩ := hs rfl
        exact ⟨by simp; omega, fun c => by simp at c, fun _ => .inr h4⟩
    · obtain ⟨h1, h2, h3, h4⟩ := hd (hw2 rfl)
      exact ⟨h2, fun _ => ⟨h3 rfl, h1⟩, fun c => by simp at c⟩
  · obtain ⟨h1, h2, h3, h4⟩ := hs (hw rfl)
    exact ⟨by simp; omega, fun _ => ⟨h3 rfl, h1⟩, fun c => by simp at c⟩
/-- a literal that is written is read -/
theorem litD_back {T : Tb} {i k b : Nat} (f : Fld) (r : Bytes) (hb : b ≤ 255) (hk : k ≤ 7) (hi : i ≤ 4611686018427387903) (h1 : f.1.length ≤ 4096) (h2 : f.2.length ≤ 4096)
    (he : i = 0 ∨ ∃ g, entryS T i = some g ∧ g.1 = f.1) : litD T k ((pfx b k i ++ (if i = 0 then strc 128 0 7 f.1 else []) ++ strc 128 0 7 f.2) ++ r) = some (f, r) := by
  have e1 : (pfx b k i ++ (if i = 0 then strc 128 0 7 f.1 else []) ++ strc 128 0 7 f.2) ++ r = pfx b k i ++ ((if i = 0 then strc 128 0 7 f.1 else []) ++ (strc 128 0 7 f.2 ++ r)) := by simp only [List.append_assoc]
  have h3 := rdp_pfx b k i ((if i = 0 then strc 128 0 7 f.1 else []) ++ (strc 128 0 7 f.2 ++ r)) hb (by omega) hi
  have h4 := strD_strc f.2 r h2
  rw [e1]
  unfold litD
  rw [h3]
  simp only
  rw [if_neg (by simp), List.drop_left]
  have hn : nameD T i ((if i = 0 then strc 128 0 7 f.1 else []) ++ (strc 128 0 7 f.2 ++ r)) = some (f.1, strc 128 0 7 f.2 ++ r) := by
    unfold nameD
    by_cases h0 : i = 0
    · rw [if_pos h0, if_pos h0, strD_strc f.1 _ h1]
      simp
    · rw [if_neg h0, if_neg h0]
      rcases he with he | ⟨g, hg, hn⟩
      · exact absurd he h0
      · rw [hg, List.nil_append]
        simp [hn]
  rw [hn]
  simp only
  rw [h4]
  simp
theorem lineD_ix {T : Tb} {b : Bytes} {i k : Nat} {f : Fld} (h : 128 ≤ (b.headD 0).toNat) (h5 : rdp b 7 = (i, k, 0)) (he : entryS T i = some f) : lineD T b = some (f, false, b.drop k) := by
  unfold lineD
  rw [if_pos h, h5]
  simp [he]
theorem lineD_six {T : Tb} {b r : Bytes} {f : Fld} (h : (b.headD 0).toNat < 128) (h6 : 64 ≤ (b.headD 0).toNat) (he : litD T 6 b = some (f, r)) : lineD T b = some (f, true, r) := by
  unfold lineD
  rw [if_neg (by omega), if_pos h6, he]
  rfl
theorem lineD_four {T : Tb} {b r : Bytes} {f : Fld} (h6 : (b.headD 0).toNat < 64) (he : litD T 4 b = some (f, r)) : lineD T b = some (f, false, r) := by
  unfold lineD
  rw [if_neg (by omega), if_neg (by omega), he]
  rfl
/-- a line that is written is read -/
theorem line_back {T : Tb} (hle : T.l.length ≤ T.n) (hn : T.n ≤ 1152921504606846976) (f : Fld) (r : Bytes) (h1 : f.1.length ≤ 4096) (h2 : f.2.length ≤ 4096) :
    ∃ add, lineD T (oneB T f ++ r) = some (f, add, r) ∧ oneT T f = (if add then T.add f else T) ∧ ∃ x t, oneB T f ++ r = x :: t ∧ x.toNat / 32 ≠ 1 := by
  obtain ⟨p1, p2, p3⟩ := place_entry hle f
  unfold oneB oneT
  generalize placeS T f = q at *
  obtain ⟨i, whole⟩ := q
  simp only at p1 p2 p3 ⊢
  cases whole with
  | true =>
    obtain ⟨q1, q2⟩ := p2 rfl
    obtain ⟨x, t, h3, h4⟩ := pfx_head 128 7 i r (by omega) (by omega)
    have h5 := rdp_pfx 128 7 i r (by omega) (by omega) (by omega)
    have hx : 128 ≤ x.toNat := by omega
    refine ⟨false, ?_, by simp, x, t, by simpa using h3, by omega⟩
    simp only [if_true]
    have := lineD_ix (T := T) (f := f) (by rw [h3]; exact hx) h5 q1
    rw [this, List.drop_left]
  | false =>
    have p4 := p3 rfl
    simp only [Bool.false_eq_true, if_false]
    by_cases hs : secret f.1 = true
    · simp only [hs, if_true]
      refine ⟨false, ?_, by simp, ?_⟩
      · obtain ⟨x, t, h3, h4⟩ := pfx_head 16 4 i ((if i = 0 then strc 128 0 7 f.1 else []) ++ strc 128 0 7 f.2 ++ r) (by omega) (by omega)
        have hl := litD_back (T := T) (i := i) (k := 4) (b := 16) f r (by omega) (by omega) (by omega) h1 h2 p4
        have e : pfx 16 4 i ++ (if i = 0 then strc 128 0 7 f.1 else []) ++ strc 128 0 7 f.2 ++ r = x :: t := by rw [← h3]; simp only [List.append_assoc]
        rw [e] at hl ⊢
        exact lineD_four (by rw [List.headD_cons]; omega) hl
      · obtain ⟨x, t, h3, h4⟩ := pfx_head 16 4 i ((if i = 0 then strc 128 0 7 f.1 else []) ++ strc 128 0 7 f.2 ++ r) (by omega) (by omega)
        exact ⟨x, t, by rw [← h3]; simp only [List.append_assoc], by omega⟩
    · simp only [hs, if_false, Bool.false_eq_true]
      by_cases hg : T.cap / 2 < fsize f
      · simp only [hg, if_true]
        refine ⟨false, ?_, by simp, ?_⟩
        · obtain ⟨x, t, h3, h4⟩ := pfx_head 0 4 i ((if i = 0 then strc 128 0 7 f.1 else []) ++ strc 128 0 7 f.2 ++ r) (by omega) (by omega)
          have hl := litD_back (T := T) (i := i) (k := 4) (b := 0) f r (by omega) (by omega) (by omega) h1 h2 p4
          have e : pfx 0 4 i ++ (if i = 0 then strc 128 0 7 f.1 else []) ++ strc 128 0 7 f.2 ++ r = x :: t := by rw [← h3]; simp only [List.append_assoc]
          rw [e] at hl ⊢
          exact lineD_four (by rw [List.headD_cons]; omega) hl
        · obtain ⟨x, t, h3, h4⟩ := pfx_head 0 4 i ((if i = 0 then strc 128 0 7 f.1 else []) ++ strc 128 0 7 f.2 ++ r) (by omega) (by omega)
          exact ⟨x, t, by rw [← h3]; simp only [List.append_assoc], by omega⟩
      · simp only [hg, if_false]
        refine ⟨true, ?_, by simp, ?_⟩
        · obtain ⟨x, t, h3, h4⟩ := pfx_head 64 6 i ((if i = 0 then strc 128 0 7 f.1 else []) ++ strc 128 0 7 f.2 ++ r) (by omega) (by omega)
          have hl := litD_back (T := T) (i := i) (k := 6) (b := 64) f r (by omega) (by omega) (by omega) h1 h2 p4
          have e : pfx 64 6 i ++ (if i = 0 then strc 128 0 7 f.1 else []) ++ strc 128 0 7 f.2 ++ r = x :: t := by rw [← h3]; simp only [List.append_assoc]
          rw [e] at hl ⊢
          exact lineD_six (by rw [List.headD_cons]; omega) (by rw [List.headD_cons]; omega) hl
        · obtain ⟨x, t, h3, h4⟩ := pfx_head 64 6 i ((if i = 0 then strc 128 0 7 f.1 else []) ++ strc 128 0 7 f.2 ++ r) (by omega) (by omega)
          exact ⟨x, t, by rw [← h3]; simp only [List.append_assoc], by omega⟩
theorem oneT_le {T : Tb} (hle : T.l.length ≤ T.n) (f : Fld) : (oneT T f).l.length ≤ (oneT T f).n ∧ (oneT T f).n ≤ T.n + 1 := by
  have hadd : (T.add f).l.length ≤ (T.add f).n ∧ (T.add f).n ≤ T.n + 1 := by
    have h2 := evict_length (fsize f) T.cap T.l
    unfold Tb.add
    split
    · exact ⟨by simp; omega, Nat.le_refl _⟩
    · exact ⟨Nat.zero_le _, by simp⟩
  unfold oneT
  split
  · exact ⟨hle, by omega⟩
  · split
    · exact ⟨hle, by omega⟩
    · split
      · exact ⟨hle, by omega⟩
      · exact hadd
theorem decGo_nil (max : Nat) (f : Nat) (T : Tb) (sz : Nat) (out : List Fld) : decGo max false f T sz out [] = some (out, T) := by
  cases f <;> simp [decGo]
/-- lines that are written are read -/
theorem lines_back (max : Nat) : ∀ (l : List Fld) (T : Tb) (fu sz : Nat) (out : List Fld), T.l.length ≤ T.n → T.n + l.length ≤ 1152921504606846976 → (∀ f ∈ l, f.1.length ≤ 4096 ∧ f.2.length ≤ 4096) → out.length + l.length ≤ 64 →
    (linesB T l).length ≤ fu → decGo max false fu T sz out (linesB T l) = some (out ++ l, linesT T l)
  | [], T, fu, sz, out, _, _, _, _, _ => by
    show decGo max false fu T sz out [] = _
    rw [decGo_nil]
    simp [linesT]
  | f :: l, T, fu, sz, out, hle, hn, hs, ho, hfu => by
    simp only [List.length_cons] at hn ho
    obtain ⟨add, h1, h2, x, t, h3, h4⟩ := line_back hle (by omega) f (linesB (oneT T f) l) (hs f (by simp)).1 (hs f (by simp)).2
    have hr := lineD_range T _ _ h1
    have e : linesB T (f :: l) = oneB T f ++ linesB (oneT T f) l := rfl
    rw [e] at hfu ⊢
    have hle2 := oneT_le hle f
    obtain ⟨fu, rfl⟩ : ∃ k, fu = k + 1 := ⟨fu - 1, by rw [h3] at hfu; simp at hfu; omega⟩
    have ih := lines_back max l (oneT T f) fu sz (out ++ [f]) hle2.1 (by omega) (fun g hg => hs g (by simp [hg])) (by simp; omega) (by simp only at hr; omega)
    rw [h3] at h1 ⊢
    rw [decGo, if_neg h4, if_neg (by simp; omega), h1]
    simp only
    rw [← h2, ih]
    simp [linesT]

theorem evict_evict (m c : Nat) : ∀ l, evict 0 c (evict 0 m l) = evict 0 (min m c) l
  | [] => by simp [evict]
  | f :: r => by
    by_cases h1 : m < fsizes (f :: r) + 0
    · rw [evict, if_pos h1, evict_evict m c r, evict, if_pos (by omega)]
    · by_cases h2 : c < fsizes (f :: r) + 0
      · rw [evict, if_neg h1, evict, if_pos h2, evict, if_pos (by omega), show min m c = c from by omega]
      · rw [evict, if_neg h1, evict, if_neg h2, evict, if_neg (by omega)]
theorem oneT_cap (T : Tb) (f : Fld) : (oneT T f).cap = T.cap := by
  have hadd : (T.add f).cap = T.cap := by
    unfold Tb.add
    split <;> rfl
  unfold oneT
  split
  · rfl
  · split
    · rfl
    · split
      · rfl
      · exact hadd
theorem linesT_keep : ∀ (l : List Fld) (T : Tb), T.l.length ≤ T.n → (linesT T l).l.length ≤ (linesT T l).n ∧ (linesT T l).cap = T.cap
  | [], T, h => ⟨h, rfl⟩
  | f :: l, T, h => by
    have h1 := oneT_le h f
    have h2 := linesT_keep l (oneT T f) h1.1
    rw [oneT_cap] at h2
    exact h2
/-- a decoder that has read all that an encoder wrote -/
structure Sync (D : De) (E : En) : Prop where
  bad : D.bad = false
  must : D.must = false
  n : D.t.n = E.t.n
  le : D.t.l.length ≤ D.t.n
  max : E.t.cap ≤ D.max
  cap : E.t.cap ≤ 4096
  tab : match E.least with | none => D.t = E.t | some m => m ≤ E.t.cap ∧ evict 0 m D.t.l = E.t.l
theorem Sync.new (n : Int) : Sync ⟨⟨[], 0, lim n⟩, lim n, false, false⟩ (En.new n) := ⟨rfl, rfl, rfl, Nat.le_refl _, Nat.le_refl _, lim_le n, rfl⟩
theorem Sync.resize {D : De} {E : En} (h : Sync D E) (n : Int) : Sync { D with max := 4096 } (E.resize n) := by
  refine ⟨h.bad, h.must, h.n, h.le, lim_le n, lim_le n, ?_⟩
  have ht := h.tab
  unfold En.resize
  cases he : E.least with
  | none =>
    rw [he] at ht
    simp only at ht ⊢
    refine ⟨Nat.le_refl _, ?_⟩
    rw [ht]
    rfl
  | some m =>
    rw [he] at ht
    simp only at ht ⊢
    obtain ⟨h1, h2⟩ := ht
    refine ⟨Nat.min_le_right _ _, ?_⟩
    rw [← evict_evict, h2]
    rfl
theorem rdp_size (m max : Nat) (T : Tb) (r : Bytes) (f sz : Nat) (hm : m ≤ max) (h4 : m ≤ 4096) (hs : sz < 2) : decGo max false (f + 1) T sz [] (pfx 32 5 m ++ r) = decGo max false f (T.resize m) (sz + 1) [] r := by
  obtain ⟨x, t, h1, h2⟩ := pfx_head 32 5 m r (by omega) (by omega)
  have h3 := rdp_pfx 32 5 m r (by omega) (by omega) (by omega)
  have h5 : (pfx 32 5 m ++ r).drop (pfx 32 5 m).length = r := List.drop_left
  rw [h1] at h3 h5 ⊢
  rw [decGo, if_pos (by omega), h3]
  simp only
  rw [if_neg (by simp; omega), h5]
theorem resize_cap (T : Tb) (c : Nat) : (T.resize c).cap = c := rfl
/-- what is written is read -/
theorem Sync.back {D : De} {E : En} (h : Sync D E) (l : List Fld) (hl : l.length ≤ 64) (hn : E.t.n + l.length ≤ 1152921504606846976) (hs : ∀ f ∈ l, f.1.length ≤ 4096 ∧ f.2.length ≤ 4096) :
    D.run (E.encB l) = some (l, (E.enc l).t) ∧ Sync { D with t := (E.enc l).t } (E.enc l) := by
  obtain ⟨⟨l0, n0, c0⟩, least⟩ := E
  obtain ⟨hb, hm, hnn, hle, hmax, hcap, ht⟩ := h
  simp only at hnn hmax hcap hn ht
  have key : D.run (En.encB ⟨⟨l0, n0, c0⟩, least⟩ l) = some (l, linesT ⟨l0, n0, c0⟩ l) ∧ l0.length ≤ n0 := by
    unfold De.run
    rw [if_neg (by rw [hb]; simp), hm]
    cases least with
    | none =>
      simp only at ht
      rw [ht] at hle ⊢
      simp only at hle
      refine ⟨?_, hle⟩
      have := lines_back D.max l ⟨l0, n0, c0⟩ (linesB ⟨l0, n0, c0⟩ l).length 0 [] hle hn hs (by simpa using hl) (Nat.le_refl _)
      simpa [En.encB, En.sizeB] using this
    | some m =>
      simp only at ht
      obtain ⟨h1, h2⟩ := ht
      have hl0 : l0.length ≤ n0 := by
        have := evict_length 0 m D.t.l
        rw [h2] at this
        omega
      refine ⟨?_, hl0⟩
      have hlen := linesB ⟨l0, n0, c0⟩ l
      have p1 := pfx_pos 32 5 m
      have p2 := pfx_pos 32 5 c0
      by_cases hq : m < c0
      · have e : En.encB ⟨⟨l0, n0, c0⟩, some m⟩ l = pfx 32 5 m ++ (pfx 32 5 c0 ++ linesB ⟨l0, n0, c0⟩ l) := by
          simp [En.encB, En.sizeB, hq]
        rw [e]
        obtain ⟨fu, hfu⟩ : ∃ fu, (pfx 32 5 m ++ (pfx 32 5 c0 ++ linesB ⟨l0, n0, c0⟩ l)).length = fu + 1 + 1 ∧ (linesB ⟨l0, n0, c0⟩ l).length ≤ fu :=
          ⟨(pfx 32 5 m ++ (pfx 32 5 c0 ++ linesB ⟨l0, n0, c0⟩ l)).length - 2, by simp only [List.length_append]; omega, by simp only [List.length_append]; omega⟩
        rw [hfu.1, rdp_size m D.max _ _ _ _ (by omega) (by omega) (by omega), rdp_size c0 D.max _ _ _ _ (by omega) (by omega) (by omega)]
        have et : (D.t.resize m).resize c0 = ⟨l0, n0, c0⟩ := by
          show (⟨evict 0 c0 (evict 0 m D.t.l), D.t.n, c0⟩ : Tb) = _
          rw [evict_evict, show min m c0 = m from by omega, h2, hnn]
        rw [et]
        have := lines_back D.max l ⟨l0, n0, c0⟩ fu (0 + 1 + 1) [] hl0 hn hs (by simpa using hl) hfu.2
        simpa using this
      · have hmc : m = c0 := by omega
        have e : En.encB ⟨⟨l0, n0, c0⟩, some m⟩ l = pfx 32 5 c0 ++ linesB ⟨l0, n0, c0⟩ l := by
          simp [En.encB, En.sizeB, hq]
        rw [e]
        obtain ⟨fu, hfu⟩ : ∃ fu, (pfx 32 5 c0 ++ linesB ⟨l0, n0, c0⟩ l).length = fu + 1 ∧ (linesB ⟨l0, n0, c0⟩ l).length ≤ fu :=
          ⟨(pfx 32 5 c0 ++ linesB ⟨l0, n0, c0⟩ l).length - 1, by simp only [List.length_append]; omega, by simp only [List.length_append]; omega⟩
        rw [hfu.1, rdp_size c0 D.max _ _ _ _ (by omega) (by omega) (by omega)]
        have et : D.t.resize c0 = ⟨l0, n0, c0⟩ := by
          show (⟨evict 0 c0 D.t.l, D.t.n, c0⟩ : Tb) = _
          rw [← hmc, h2, hnn]
        rw [et]
        have := lines_back D.max l ⟨l0, n0, c0⟩ fu (0 + 1) [] hl0 hn hs (by simpa using hl) hfu.2
        simpa using this
  obtain ⟨k1, k2⟩ := key
  have hT := linesT_keep l ⟨l0, n0, c0⟩ k2
  refine ⟨k1, ⟨hb, hm, rfl, hT.1, ?_, ?_, rfl⟩⟩
  · show (linesT _ _).cap ≤ _
    rw [hT.2]; exact hmax
  · show (linesT _ _).cap ≤ _
    rw [hT.2]; exact hcap
end Go.Proofs.Ytdgggjeiflllhaa.M
