/- Plain laws of the statements on hdec: what blocks of known lines, cut or whole, are read as. No condition. -/
import Derived.Test.YtcebckkpablagaaBack
namespace Go.Proofs.Ytcebckkpablagaa.M
open Go.ChangeShapes Go.WideShapes Go.ChangeAt Go.RowKit

def strS (coded : Bool) (s : Bytes) : Bytes := if coded then strc 128 0 7 s else pfx 0 7 s.length ++ s
theorem strD_strS (coded : Bool) (s r : Bytes) (h : s.length ≤ 4096) : strD (strS coded s ++ r) 7 = (s, (strS coded s).length, 0) := by
  unfold strS
  cases coded
  · exact strD_plain s r h
  · exact strD_strc s r h
theorem strS_length (coded : Bool) (s : Bytes) : (strS coded s).length ≤ 4 * s.length + 24 := by
  have h1 := pfx_length 0 7 s.length
  have h2 := pfx_length 128 7 (hlen s)
  have h3 := hcode_length s
  have h4 := hlen_le s
  unfold strS strc
  split
  · split
    · rw [List.length_append]; omega
    · rw [List.length_append]; omega
  · rw [List.length_append]; omega
/-- a literal's line: first byte, bits, index, name, value, whether coded -/
def litB (f k i : Nat) (n v : Bytes) (coded : Bool) : Bytes := pfx f k i ++ ((if i = 0 then strS coded n else []) ++ strS coded v)
theorem litB_length (f k i : Nat) (n v : Bytes) (coded : Bool) : (litB f k i n v coded).length ≤ 4 * (n.length + v.length) + 60 := by
  have h1 := pfx_length f k i
  have h2 := strS_length coded n
  have h3 := strS_length coded v
  unfold litB
  rw [List.length_append, List.length_append]
  split
  · omega
  · simp only [List.length_nil]; omega
/-- the name that it tells -/
def litN (T : Tb) (i : Nat) (n m : Bytes) : Prop := (i = 0 ∧ m = n) ∨ (i ≠ 0 ∧ ∃ g, entryS T i = some g ∧ g.1 = m)
/-- the kinds -/
def LK (f k : Nat) : Prop := (f = 64 ∧ k = 6) ∨ (f = 0 ∧ k = 4) ∨ (f = 16 ∧ k = 4)
section
variable {T : Tb} {f k i : Nat} {n v m : Bytes}
theorem litD_lit (coded : Bool) (r : Bytes) (hf : f ≤ 255) (hk : k ≤ 8) (hi : i ≤ 4611686018427387903) (h1 : n.length ≤ 4096) (h2 : v.length ≤ 4096) (hm : litN T i n m) :
    litD T k (litB f k i n v coded ++ r) = some ((m, v), r) := by
  have e1 : litB f k i n v coded ++ r = pfx f k i ++ ((if i = 0 then strS coded n else []) ++ (strS coded v ++ r)) := by unfold litB; simp only [List.append_assoc]
  have h3 := rdp_pfx f k i ((if i = 0 then strS coded n else []) ++ (strS coded v ++ r)) hf hk hi
  have h4 := strD_strS coded v r h2
  rw [e1]
  unfold litD
  rw [h3]
  simp only
  rw [if_neg (by simp), List.drop_left]
  have hn : nameD T i ((if i = 0 then strS coded n else []) ++ (strS coded v ++ r)) = some (m, strS coded v ++ r) := by
    unfold nameD
    rcases hm with ⟨h0, rfl⟩ | ⟨h0, g, hg, rfl⟩
    · rw [if_pos h0, if_pos h0, strD_strS coded m _ h1]
      simp
    · rw [if_neg h0, if_neg h0, hg, List.nil_append]
      simp
  rw [hn]
  simp only
  rw [h4]
  simp
theorem lit_head (coded : Bool) (r : Bytes) (hk : LK f k) : ∃ x t, litB f k i n v coded ++ r = x :: t ∧ x.toNat / 32 ≠ 1 ∧ x.toNat < 128 ∧ (f = 64 → 64 ≤ x.toNat) ∧ (f ≠ 64 → x.toNat < 64) := by
  have e1 : litB f k i n v coded ++ r = pfx f k i ++ (((if i = 0 then strS coded n else []) ++ strS coded v) ++ r) := by unfold litB; simp only [List.append_assoc]
  have hb : f ≤ 255 ∧ k ≤ 8 := by rcases hk with h | h | h <;> omega
  obtain ⟨x, t, h1, h2⟩ := pfx_head f k i (((if i = 0 then strS coded n else []) ++ strS coded v) ++ r) hb.1 hb.2
  refine ⟨x, t, by rw [e1, h1], ?_⟩
  rcases hk with ⟨rfl, rfl⟩ | ⟨rfl, rfl⟩ | ⟨rfl, rfl⟩
  · have h3 : x.toNat / 64 = 1 := h2
    exact ⟨by omega, by omega, fun _ => by omega, fun c => absurd rfl c⟩
  · have h3 : x.toNat / 16 = 0 := h2
    exact ⟨by omega, by omega, fun c => by omega, fun _ => by omega⟩
  · have h3 : x.toNat / 16 = 1 := h2
    exact ⟨by omega, by omega, fun c => by omega, fun _ => by omega⟩
theorem line_lit (coded : Bool) (r : Bytes) (hk : LK f k) (hi : i ≤ 4611686018427387903) (h1 : n.length ≤ 4096) (h2 : v.length ≤ 4096) (hm : litN T i n m) :
    lineD T (litB f k i n v coded ++ r) = some ((m, v), decide (f = 64), r) := by
  obtain ⟨x, t, e, _, h3, h4, h5⟩ := lit_head (i := i) (n := n) (v := v) coded r hk
  have hh : ((litB f k i n v coded ++ r).headD 0).toNat = x.toNat := by rw [e]; rfl
  have hb : f ≤ 255 ∧ k ≤ 8 := by rcases hk with h | h | h <;> omega
  have hl := litD_lit (T := T) (f := f) (k := k) coded r hb.1 hb.2 hi h1 h2 hm
  rcases hk with ⟨rfl, rfl⟩ | ⟨rfl, rfl⟩ | ⟨rfl, rfl⟩
  · exact lineD_six (by omega) (by have := h4 rfl; omega) hl
  · exact lineD_four (by have := h5 (by decide); omega) hl
  · exact lineD_four (by have := h5 (by decide); omega) hl
theorem dec_lit (max fu sz : Nat) (out : List Fld) (coded : Bool) (r : Bytes) (hk : LK f k) (hi : i ≤ 4611686018427387903) (h1 : n.length ≤ 4096) (h2 : v.length ≤ 4096) (hm : litN T i n m) (ho : out.length < 64) :
    decGo max false (fu + 1) T sz out (litB f k i n v coded ++ r) = decGo max false fu (if f = 64 then T.add (m, v) else T) sz (out ++ [(m, v)]) r := by
  obtain ⟨x, t, e, h3, _⟩ := lit_head (i := i) (n := n) (v := v) coded r hk
  have hl := line_lit coded r hk hi h1 h2 hm
  rw [e] at hl ⊢
  rw [decGo, if_neg h3, if_neg (by simp; omega), hl]
  simp only [decide_eq_true_eq]
end
/-! each kind of a line -/
def kdT : Tb := ⟨[([100], [118])], 1, 4096⟩
def kdD : De := ⟨kdT, 4096, false, false⟩
def kdN (i : Nat) (n : Bytes) : Bytes := if i = 0 then n else if i ≤ 61 then ((h2tab[i - 1]?).getD ([], [])).1 else [100]
theorem h2len : h2tab.length = 61 := by decide
theorem kd_names : ∀ g ∈ h2tab, g.1.length ≤ 100 := by decide
theorem kdN_ok (i : Nat) (n : Bytes) (hi : i ≤ 62) : litN kdT i n (kdN i n) := by
  unfold litN kdN
  by_cases h0 : i = 0
  · exact .inl ⟨h0, by rw [if_pos h0]⟩
  · refine .inr ⟨h0, ?_⟩
    rw [if_neg h0]
    by_cases h1 : i ≤ 61
    · rw [if_pos h1]
      have hl : i - 1 < h2tab.length := by rw [h2len]; omega
      refine ⟨h2tab[i - 1], ?_, by rw [List.getElem?_eq_getElem hl]; rfl⟩
      unfold entryS
      rw [if_neg h0, if_pos h1, List.getElem?_eq_getElem hl]
    · obtain rfl : i = 62 := by omega
      rw [if_neg h1]
      exact ⟨([100], [118]), rfl, rfl⟩
theorem kdN_le (i : Nat) (n : Bytes) (hn : n.length ≤ 100) : (kdN i n).length ≤ 100 := by
  unfold kdN
  split
  · exact hn
  · split
    · cases h : h2tab[i - 1]? with
      | none => simp
      | some g => exact kd_names g (List.mem_of_getElem? h)
    · simp
theorem kd_start : (De.mk ⟨[], 0, 4096⟩ 4096 false false).run [64, 1, 100, 1, 118] = some ([([100], [118])], kdT) := by kernel_rfl
theorem kd_run {f k i : Nat} {n v : Bytes} (coded : Bool) (hk : LK f k) (hi : i ≤ 62) (hs : n.length + v.length ≤ 100) :
    ∃ T, kdD.run (litB f k i n v coded) = some ([(kdN i n, v)], T) ∧ T.l.length = (if f = 64 then 2 else 1) := by
  have h1 := dec_lit (T := kdT) 4096 ((litB f k i n v coded).length - 1) 0 [] coded [] hk (by omega) (by omega) (by omega) (kdN_ok i n hi) (by simp) (v := v)
  obtain ⟨x, t, e, _⟩ := lit_head (i := i) (n := n) (v := v) coded [] hk
  rw [List.append_nil] at h1 e
  have hlen : (litB f k i n v coded).length - 1 + 1 = (litB f k i n v coded).length := by rw [e]; simp
  rw [hlen] at h1
  refine ⟨if f = 64 then kdT.add (kdN i n, v) else kdT, ?_, ?_⟩
  · show decGo 4096 false _ kdT 0 [] _ = _
    rw [h1, decGo_nil]
    rfl
  · have h2 := kdN_le i n (by omega)
    by_cases h : f = 64
    · rw [if_pos h, if_pos h]
      have hz : fsize (kdN i n, v) ≤ 300 := by unfold fsize; simp only; omega
      unfold Tb.add
      rw [if_pos (by show _ ≤ 4096; omega)]
      have h4 : evict (fsize (kdN i n, v)) kdT.cap kdT.l = kdT.l := by
        show (if 4096 < fsizes kdT.l + _ then _ else _) = _
        have h5 : fsizes kdT.l = 34 := by decide
        rw [if_neg (by omega)]
        rfl
      show (evict (fsize (kdN i n, v)) kdT.cap kdT.l ++ _).length = 2
      rw [h4]
      rfl
    · rw [if_neg h, if_neg h]
      rfl
/-! sizes -/
def rsT (T : Tb) (us : List Nat) : Tb := us.foldl Tb.resize T
theorem rsT_cap : ∀ (us : List Nat) (T : Tb) (v : Nat), us.getLast? = some v → (rsT T us).cap = v
  | [], _, _, h => by cases h
  | [x], T, v, h => by simp at h; subst h; rfl
  | x :: y :: r, T, v, h => by
    rw [List.getLast?_cons_cons] at h
    exact rsT_cap (y :: r) (T.resize x) v h
def okS (max sz : Nat) (us : List Nat) : Prop := sz + us.length ≤ 2 ∧ ∀ u ∈ us, u ≤ max
theorem szs_run (max : Nat) (must : Bool) (tail : Bytes) : ∀ (us : List Nat) (T : Tb) (sz fu : Nat), (∀ u ∈ us, u ≤ 65535) → (us.flatMap (pfx 32 5) ++ tail).length ≤ fu →
    ∃ fu', tail.length ≤ fu' ∧ (okS max sz us → decGo max must fu T sz [] (us.flatMap (pfx 32 5) ++ tail) = decGo max must fu' (rsT T us) (sz + us.length) [] tail) ∧ (¬ okS max sz us → sz ≤ 2 → decGo max must fu T sz [] (us.flatMap (pfx 32 5) ++ tail) = none)
  | [], T, sz, fu, _, hfu => ⟨fu, by simpa using hfu, fun _ => by simp [rsT], fun h h2 => absurd ⟨by simpa using h2, fun u hu => by cases hu⟩ h⟩
  | u :: us, T, sz, fu, hs, hfu => by
    have hu := hs u (by simp)
    have e : (u :: us).flatMap (pfx 32 5) ++ tail = pfx 32 5 u ++ (us.flatMap (pfx 32 5) ++ tail) := by rw [List.flatMap_cons, List.append_assoc]
    rw [e] at hfu ⊢
    obtain ⟨x, t, h1, h2⟩ := pfx_head 32 5 u (us.flatMap (pfx 32 5) ++ tail) (by omega) (by omega)
    have h3 := rdp_pfx 32 5 u (us.flatMap (pfx 32 5) ++ tail) (by omega) (by omega) (by omega)
    have hd : (pfx 32 5 u ++ (us.flatMap (pfx 32 5) ++ tail)).drop (pfx 32 5 u).length = us.flatMap (pfx 32 5) ++ tail := List.drop_left
    have hpl : 0 < (pfx 32 5 u).length := by
      unfold pfx; split <;> simp
    have h2' : x.toNat / 32 = 1 := h2
    obtain ⟨fu, rfl⟩ : ∃ k, fu = k + 1 := ⟨fu - 1, by rw [h1] at hfu; simp at hfu; omega⟩
    have hstep : decGo max must (fu + 1) T sz [] (pfx 32 5 u ++ (us.flatMap (pfx 32 5) ++ tail)) = if max < u ∨ 2 ≤ sz then none else decGo max must fu (T.resize u) (sz + 1) [] (us.flatMap (pfx 32 5) ++ tail) := by
      rw [h1] at h3 hd ⊢
      rw [decGo, if_pos h2', h3]
      simp only
      rw [hd]
      by_cases hc : max < u ∨ 2 ≤ sz
      · rw [if_pos hc, if_pos (by rcases hc with c | c <;> simp [c])]
      · rw [if_neg hc, if_neg (by simp; omega)]
    rw [hstep]
    obtain ⟨fu', g1, g2, g3⟩ := szs_run max must tail us (T.resize u) (sz + 1) fu (fun q hq => hs q (by simp [hq])) (by rw [List.length_append] at hfu; omega)
    by_cases hc : max < u ∨ 2 ≤ sz
    · refine ⟨fu', g1, fun ok => ?_, fun _ _ => by rw [if_pos hc]⟩
      rcases hc with c | c
      · have := ok.2 u (by simp); omega
      · have := ok.1; simp at this; omega
    · rw [if_neg hc]
      refine ⟨fu', g1, fun ok => ?_, fun nok h => g3 (fun ok => nok ⟨?_, fun q hq => ?_⟩) (by omega)⟩
      · rw [g2 ⟨by have := ok.1; simp at this; omega, fun q hq => ok.2 q (by simp [hq])⟩]
        congr 1
        simp; omega
      · have := ok.1; simp; omega
      · rcases List.mem_cons.1 hq with rfl | hq
        · omega
        · exact ok.2 q hq
/-- a line 0x82, 0x84 -/
theorem line82 (T : Tb) (r : Bytes) : lineD T (130 :: r) = some (([58, 109, 101, 116, 104, 111, 100], [71, 69, 84]), false, r) := by
  have h1 : rdp (130 :: r) 7 = (2, 1, 0) := rfl
  have h2 : entryS T 2 = some ([58, 109, 101, 116, 104, 111, 100], [71, 69, 84]) := by
    unfold entryS
    rw [if_neg (by decide), if_pos (by decide)]
    rfl
  exact lineD_ix (by show 128 ≤ (130 : UInt8).toNat; decide) h1 h2
theorem line84 (T : Tb) (r : Bytes) : ∃ g, lineD T (132 :: r) = some (g, false, r) := by
  have h1 : rdp (132 :: r) 7 = (4, 1, 0) := rfl
  have h2 : entryS T 4 = h2tab[3]? := by
    unfold entryS
    rw [if_neg (by decide), if_pos (by decide)]
  cases h3 : h2tab[3]? with
  | none => exact absurd h3 (by decide)
  | some g => exact ⟨g, lineD_ix (by show 128 ≤ (132 : UInt8).toNat; decide) h1 (h2.trans h3)⟩
def szB (behind : Bool) (us : List Nat) (field : Bool) : Bytes := (if behind then [130] else []) ++ (us.flatMap (pfx 32 5) ++ (if field then [132] else []))
def szOk (D : De) (behind : Bool) (us : List Nat) : Prop := (if behind then us = [] ∧ D.must = false else us.length ≤ 2 ∧ (D.must = true → us ≠ [])) ∧ ∀ u ∈ us, u ≤ D.max
theorem tail_run (max : Nat) (must field : Bool) (fu : Nat) (T : Tb) (sz : Nat) (out : List Fld) (hfu : (if field then [132] else [] : Bytes).length ≤ fu) (ho : out.length < 64) :
    (must = true ∧ sz = 0 → decGo max must fu T sz out (if field then [132] else []) = none) ∧ (¬ (must = true ∧ sz = 0) → ∃ l, decGo max must fu T sz out (if field then [132] else []) = some (l, T)) := by
  cases field with
  | false =>
    have e : decGo max must fu T sz out (if false = true then [132] else []) = if must = true ∧ sz = 0 then none else some (out, T) := by
      cases fu <;> rfl
    rw [e]
    exact ⟨fun h => by rw [if_pos h], fun h => ⟨out, by rw [if_neg h]⟩⟩
  | true =>
    obtain ⟨fu, rfl⟩ : ∃ k, fu = k + 1 := ⟨fu - 1, by simp at hfu; omega⟩
    obtain ⟨g, hg⟩ := line84 T []
    have e : decGo max must (fu + 1) T sz out [132] = if must = true ∧ sz = 0 then none else some (out ++ [g], T) := by
      rw [decGo, if_neg (by decide)]
      by_cases h : must = true ∧ sz = 0
      · rw [if_pos (.inl h), if_pos h]
      · rw [if_neg (by rintro (c | c); exact h c; omega), hg, if_neg h]
        simp only
        cases fu <;> simp [decGo, h]
    show (_ → decGo max must (fu + 1) T sz out [132] = none) ∧ (_ → ∃ l, decGo max must (fu + 1) T sz out [132] = some (l, T))
    rw [e]
    exact ⟨fun h => by rw [if_pos h], fun h => ⟨out ++ [g], by rw [if_neg h]⟩⟩
theorem sz_first_none (max : Nat) (must : Bool) (fu : Nat) (T : Tb) (sz : Nat) (x : UInt8) (t : Bytes) (out : List Fld) (hx : x.toNat / 32 = 1) (ho : out ≠ []) : decGo max must fu T sz out (x :: t) = none := by
  cases fu with
  | zero => rfl
  | succ fu =>
    rw [decGo, if_pos hx]
    generalize rdp (x :: t) 5 = q
    obtain ⟨n, k, e⟩ := q
    simp only
    rw [if_pos (.inr (.inr (.inl ho)))]
theorem sz_run {D : De} (hb : D.bad = false) (behind : Bool) (us : List Nat) (field : Bool) (hs : ∀ u ∈ us, u ≤ 65535) :
    (szOk D behind us → ∃ l T, D.run (szB behind us field) = some (l, T) ∧ ∀ v, us.getLast? = some v → T.cap = v) ∧ (¬ szOk D behind us → D.run (szB behind us field) = none) := by
  have hr : D.run (szB behind us field) = decGo D.max D.must (szB behind us field).length D.t 0 [] (szB behind us field) := by unfold De.run; rw [if_neg (by rw [hb]; simp)]
  rw [hr]
  unfold szB szOk
  cases behind with
  | false =>
    show (_ → ∃ l T, decGo D.max D.must (us.flatMap (pfx 32 5) ++ _).length D.t 0 [] (us.flatMap (pfx 32 5) ++ _) = _ ∧ _) ∧ (_ → decGo D.max D.must (us.flatMap (pfx 32 5) ++ _).length D.t 0 [] (us.flatMap (pfx 32 5) ++ _) = none)
    obtain ⟨fu', g1, g2, g3⟩ := szs_run D.max D.must (if field then [132] else []) us D.t 0 _ hs (Nat.le_refl _)
    obtain ⟨t1, t2⟩ := tail_run D.max D.must field fu' (rsT D.t us) (0 + us.length) [] g1 (by simp)
    constructor
    · rintro ⟨h1, h2⟩
      have h1' : us.length ≤ 2 ∧ (D.must = true → us ≠ []) := h1
      obtain ⟨l, hl⟩ := t2 (fun c => h1'.2 c.1 (List.eq_nil_of_length_eq_zero (by omega)))
      exact ⟨l, rsT D.t us, by rw [g2 ⟨by omega, h2⟩, hl], fun v hv => rsT_cap us D.t v hv⟩
    · intro hno
      by_cases hok : okS D.max 0 us
      · rw [g2 hok, t1]
        by_cases hm : D.must = true
        · refine ⟨hm, ?_⟩
          by_cases hz : us = []
          · rw [hz]; rfl
          · exact absurd ⟨⟨by have := hok.1; omega, fun _ => hz⟩, hok.2⟩ hno
        · exact absurd ⟨⟨by have := hok.1; omega, fun c => absurd c hm⟩, hok.2⟩ hno
      · exact g3 hok (by omega)
  | true =>
    show (_ → ∃ l T, decGo D.max D.must (130 :: (us.flatMap (pfx 32 5) ++ _)).length D.t 0 [] (130 :: (us.flatMap (pfx 32 5) ++ _)) = _ ∧ _) ∧ (_ → decGo D.max D.must (130 :: (us.flatMap (pfx 32 5) ++ _)).length D.t 0 [] (130 :: (us.flatMap (pfx 32 5) ++ _)) = none)
    have h82 := fun r => line82 D.t r
    have e : ∀ r : Bytes, decGo D.max D.must (130 :: r).length D.t 0 [] (130 :: r) = if D.must = true then none else decGo D.max D.must r.length D.t 0 [([58, 109, 101, 116, 104, 111, 100], [71, 69, 84])] r := by
      intro r
      rw [List.length_cons, decGo, if_neg (by decide)]
      by_cases hm : D.must = true
      · rw [if_pos (.inl ⟨hm, rfl⟩), if_pos hm]
      · rw [if_neg (by rintro (c | c); exact hm c.1; simp at c), h82, if_neg hm]
        rfl
    rw [e]
    cases us with
    | nil =>
      obtain ⟨t1, t2⟩ := tail_run D.max D.must field (if field then [132] else [] : Bytes).length D.t 0 [([58, 109, 101, 116, 104, 111, 100], [71, 69, 84])] (Nat.le_refl _) (by simp)
      constructor
      · rintro ⟨h1, h2⟩
        have h1' : ([] : List Nat) = [] ∧ D.must = false := h1
        obtain ⟨l, hl⟩ := t2 (fun c => by rw [h1'.2] at c; cases c.1)
        exact ⟨l, D.t, by rw [if_neg (by rw [h1'.2]; simp)]; exact hl, fun v hv => by cases hv⟩
      · intro hno
        by_cases hm : D.must = true
        · rw [if_pos hm]
        · exact absurd ⟨⟨rfl, by simpa using hm⟩, fun u hu => by cases hu⟩ hno
    | cons u us =>
      constructor
      · rintro ⟨h1, h2⟩
        have h1' : (u :: us) = [] ∧ D.must = false := h1
        cases h1'.1
      · intro _
        by_cases hm : D.must = true
        · rw [if_pos hm]
        · rw [if_neg hm]
          obtain ⟨x, t, h1, h2⟩ := pfx_head 32 5 u (us.flatMap (pfx 32 5) ++ (if field then [132] else [])) (by omega) (by omega)
          have e2 : (u :: us).flatMap (pfx 32 5) ++ (if field then [132] else []) = x :: t := by rw [List.flatMap_cons, List.append_assoc, h1]
          rw [e2]
          exact sz_first_none _ _ _ _ _ _ _ _ h2 (by simp)
/-! how many, how long -/
theorem many_run (max : Nat) (T : Tb) : ∀ (m fu : Nat) (out : List Fld), m ≤ fu → decGo max false fu T 0 out (List.replicate m 130) = if m = 0 ∨ out.length + m ≤ 64 then some (out ++ List.replicate m ([58, 109, 101, 116, 104, 111, 100], [71, 69, 84]), T) else none
  | 0, fu, out, _ => by rw [if_pos (.inl rfl)]; simp [decGo_nil]
  | m + 1, 0, out, h => by omega
  | m + 1, fu + 1, out, h => by
    rw [List.replicate_succ, decGo, if_neg (by decide)]
    by_cases ho : 64 ≤ out.length
    · rw [if_pos (.inr ho), if_neg (by omega)]
    · rw [if_neg (by rintro (c | c); cases c.1; omega), line82]
      simp only
      rw [if_neg (by decide), many_run max T m fu _ (by omega)]
      simp only [List.length_append, List.length_cons, List.length_nil]
      by_cases hc : m = 0 ∨ out.length + 1 + m ≤ 64
      · rw [if_pos (by omega), if_pos (by omega)]
        simp [List.replicate_succ]
      · rw [if_neg (by omega), if_neg (by omega)]
theorem litD_eq {T : Tb} {k i at_ : Nat} {b n r : Bytes} (h3 : rdp b k = (i, at_, 0)) (hn : nameD T i (b.drop at_) = some (n, r)) :
    litD T k b = match strD r 7 with | (s, a, e) => if e = 0 then some ((n, s), r.drop a) else none := by
  unfold litD
  rw [h3]
  simp only
  rw [if_neg (by simp), hn]
def deN : De := ⟨⟨[], 0, 4096⟩, 4096, false, false⟩
theorem many_all (m : Nat) : deN.run (List.replicate m 130) = if m = 0 ∨ m ≤ 64 then some (List.replicate m ([58, 109, 101, 116, 104, 111, 100], [71, 69, 84]), deN.t) else none := by
  show decGo 4096 false (List.replicate m 130).length ⟨[], 0, 4096⟩ 0 [] (List.replicate m 130) = _
  rw [List.length_replicate, many_run _ _ m m [] (Nat.le_refl _)]
  simp only [List.length_nil, Nat.zero_add, List.nil_append]
  rfl
def longB (s : Bytes) : Bytes := 8 :: (pfx 0 7 s.length ++ s)
theorem long_all (s : Bytes) (h : s.length ≤ 5000) : (s.length ≤ 4096 → ∃ n T, deN.run (longB s) = some ([(n, s)], T)) ∧ (4096 < s.length → deN.run (longB s) = none) := by
  have h8 : ∀ r : Bytes, rdp (8 :: r) 4 = (8, 1, 0) := fun r => rfl
  obtain ⟨g, hg⟩ : ∃ g, entryS deN.t 8 = some g := by
    cases h : entryS deN.t 8 with
    | none => exact absurd h (by decide)
    | some g => exact ⟨g, rfl⟩
  have hn : nameD deN.t 8 (pfx 0 7 s.length ++ s) = some (g.1, pfx 0 7 s.length ++ s) := by
    unfold nameD
    rw [if_neg (by decide), hg]
    rfl
  have hL : litD deN.t 4 (longB s) = match strD (pfx 0 7 s.length ++ s) 7 with
      | (v, at_, e) => if e = 0 then some ((g.1, v), (pfx 0 7 s.length ++ s).drop at_) else none := litD_eq (h8 _) hn
  have hD : deN.run (longB s) = match lineD deN.t (longB s) with
      | none => none
      | some (x, add, b) => decGo 4096 false (pfx 0 7 s.length ++ s).length (if add then deN.t.add x else deN.t) 0 ([] ++ [x]) b := by
    show decGo 4096 false (longB s).length deN.t 0 [] (longB s) = _
    unfold longB
    rw [List.length_cons, decGo, if_neg (by decide), if_neg (by simp)]
    rfl
  have hh : ((longB s).headD 0).toNat = 8 := rfl
  constructor
  · intro h4
    have h1 := strD_plain s [] h4
    rw [List.append_nil] at h1
    rw [h1] at hL
    simp only [if_true, List.drop_length] at hL
    rw [hD, lineD_four (by omega) hL]
    simp only
    rw [if_neg (by decide), decGo_nil]
    exact ⟨g.1, _, rfl⟩
  · intro h4
    have h3 := rdp_pfx 0 7 s.length s (by omega) (by omega) (by omega)
    have h1 : strD (pfx 0 7 s.length ++ s) 7 = ([], 0, 23) := by
      unfold strD
      rw [h3]
      simp only
      rw [if_neg (by simp), if_pos h4]
    rw [h1] at hL
    have hn4 : lineD deN.t (longB s) = none := by
      unfold lineD
      rw [if_neg (by omega), if_neg (by omega), hL]
      rfl
    rw [hD, hn4]
/-! cuts -/
theorem pfx_one (f k v : Nat) (h : v < 2 ^ k - 1) (hf : f ≤ 255) (hk : k ≤ 8) : ∃ x : UInt8, pfx f k v = [x] ∧ x.toNat % 2 ^ k = v := by
  unfold pfx
  rw [if_pos h]
  refine ⟨_, rfl, ?_⟩
  have hh := head_le f k v hf hk (by omega)
  have hb : (UInt8.ofNat (f / 2 ^ k * 2 ^ k + v)).toNat = f / 2 ^ k * 2 ^ k + v := by simp; omega
  rw [hb, Nat.mul_comm, Nat.mul_add_mod]
  exact Nat.mod_eq_of_lt (by omega)
theorem strS_form (coded : Bool) (s : Bytes) (h : s.length ≤ 100) : ∃ x body, strS coded s = x :: body ∧ x.toNat % 128 = body.length ∧ body.length ≤ 100 := by
  unfold strS strc
  have h3 := hcode_length s
  cases coded with
  | false =>
    obtain ⟨x, h1, h2⟩ := pfx_one 0 7 s.length (by omega) (by omega) (by omega)
    exact ⟨x, s, by rw [if_neg (by decide), h1]; rfl, h2, h⟩
  | true =>
    rw [if_pos rfl]
    by_cases hc : hlen s < s.length
    · obtain ⟨x, h1, h2⟩ := pfx_one 128 7 (hlen s) (by omega) (by omega) (by omega)
      exact ⟨x, hcode s, by rw [if_pos hc, h1]; rfl, by rw [h3]; exact h2, by omega⟩
    · obtain ⟨x, h1, h2⟩ := pfx_one 0 7 s.length (by omega) (by omega) (by omega)
      exact ⟨x, s, by rw [if_neg hc, h1]; rfl, h2, h⟩
theorem strD_cut (coded : Bool) (s : Bytes) (h : s.length ≤ 100) (j : Nat) (hj : j < (strS coded s).length) : (strD ((strS coded s).take j) 7).2.2 ≠ 0 := by
  obtain ⟨x, body, e, h1, h2⟩ := strS_form coded s h
  rw [e] at hj ⊢
  cases j with
  | zero =>
    rw [List.take_zero]
    decide
  | succ j =>
    simp only [List.length_cons] at hj
    rw [List.take_succ_cons]
    have h3 : rdp (x :: body.take j) 7 = (body.length, 1, 0) := by
      show (if x.toNat % 2 ^ 7 < 2 ^ 7 - 1 then (x.toNat % 2 ^ 7, 1, 0) else _) = _
      have : x.toNat % 2 ^ 7 = body.length := h1
      rw [this, if_pos (by omega)]
    unfold strD
    rw [h3]
    simp only
    rw [if_neg (by simp), if_neg (by omega), if_pos (by rw [List.length_cons, List.length_take]; omega)]
    simp
theorem lit_cut (T : Tb) {f k : Nat} (hk : LK f k) (n v : Bytes) (coded : Bool) (hn : n.length ≤ 100) (hv : v.length ≤ 100) (j : Nat) (h0 : j ≠ 0) (hj : j < (litB f k 0 n v coded).length) :
    lineD T ((litB f k 0 n v coded).take j) = none ∧ ∃ x t, (litB f k 0 n v coded).take j = x :: t ∧ x.toNat / 32 ≠ 1 := by
  have hb : f ≤ 255 ∧ k ≤ 8 ∧ 0 < 2 ^ k - 1 := by rcases hk with h | h | h <;> (obtain ⟨rfl, rfl⟩ := h; decide)
  obtain ⟨y, e1, hy⟩ := pfx_one f k 0 hb.2.2 hb.1 hb.2.1
  obtain ⟨x, t, e, hx, hx2, _⟩ := lit_head (i := 0) (n := n) (v := v) coded [] hk
  rw [List.append_nil] at e
  have e2 : litB f k 0 n v coded = y :: (strS coded n ++ strS coded v) := by
    unfold litB
    rw [if_pos rfl, e1]
    rfl
  have exy : x = y := by rw [e2] at e; injection e with e; exact e.symm
  subst exy
  rw [e2] at hj ⊢
  obtain ⟨j, rfl⟩ : ∃ i, j = i + 1 := ⟨j - 1, by omega⟩
  rw [List.take_succ_cons]
  simp only [List.length_cons, List.length_append] at hj
  refine ⟨?_, x, _, rfl, hx⟩
  have hL : ∀ q, (q = 6 ∨ q = 4) → q = k → litD T q (x :: (strS coded n ++ strS coded v).take j) = none := by
    intro q hq hqk
    subst hqk
    have h3 : rdp (x :: (strS coded n ++ strS coded v).take j) q = (0, 1, 0) := by
      show (if x.toNat % 2 ^ q < 2 ^ q - 1 then (x.toNat % 2 ^ q, 1, 0) else _) = _
      rw [hy, if_pos hb.2.2]
    unfold litD
    rw [h3]
    simp only
    rw [if_neg (by simp), List.drop_succ_cons, List.drop_zero]
    unfold nameD
    rw [if_pos rfl]
    by_cases hc : j < (strS coded n).length
    · have h4 : (strS coded n ++ strS coded v).take j = (strS coded n).take j := List.take_append_of_le_length (by omega)
      have h5 := strD_cut coded n hn j hc
      rw [h4]
      generalize strD ((strS coded n).take j) 7 = z at *
      obtain ⟨s, a, er⟩ := z
      simp only at h5 ⊢
      rw [if_neg h5]
    · have h4 : (strS coded n ++ strS coded v).take j = strS coded n ++ (strS coded v).take (j - (strS coded n).length) := by
        rw [List.take_append, List.take_of_length_le (by omega)]
      have h5 := strD_cut coded v hv (j - (strS coded n).length) (by omega)
      rw [h4, strD_strS coded n _ (by omega)]
      simp only [if_true, List.drop_left]
      generalize strD ((strS coded v).take (j - (strS coded n).length)) 7 = z at *
      obtain ⟨s, a, er⟩ := z
      simp only at h5 ⊢
      rw [if_neg h5]
  have hh : ((x :: (strS coded n ++ strS coded v).take j).headD 0).toNat = x.toNat := rfl
  unfold lineD
  rw [hh, if_neg (by omega)]
  rcases hk with ⟨rfl, rfl⟩ | ⟨rfl, rfl⟩ | ⟨rfl, rfl⟩
  · have h6 : 64 ≤ x.toNat := by
      have h7 := pfx_head 64 6 0 [] (by omega) (by omega)
      obtain ⟨x', t', h8, h9⟩ := h7
      rw [e1] at h8
      simp only [List.cons_append, List.nil_append, List.cons.injEq] at h8
      rw [← h8.1] at h9
      have : x.toNat / 64 = 1 := h9
      omega
    rw [if_pos h6, hL 6 (.inl rfl) rfl]
    rfl
  · have h6 : x.toNat < 64 := by
      have h7 := pfx_head 0 4 0 [] (by omega) (by omega)
      obtain ⟨x', t', h8, h9⟩ := h7
      rw [e1] at h8
      simp only [List.cons_append, List.nil_append, List.cons.injEq] at h8
      rw [← h8.1] at h9
      have : x.toNat / 16 = 0 := h9
      omega
    rw [if_neg (by omega), hL 4 (.inr rfl) rfl]
    rfl
  · have h6 : x.toNat < 64 := by
      have h7 := pfx_head 16 4 0 [] (by omega) (by omega)
      obtain ⟨x', t', h8, h9⟩ := h7
      rw [e1] at h8
      simp only [List.cons_append, List.nil_append, List.cons.injEq] at h8
      rw [← h8.1] at h9
      have : x.toNat / 16 = 1 := h9
      omega
    rw [if_neg (by omega), hL 4 (.inr rfl) rfl]
    rfl
/-- a line of a literal: first byte, bits, name, value, whether coded -/
structure Ln where
  f : Nat
  k : Nat
  n : Bytes
  v : Bytes
  c : Bool
def Ln.B (x : Ln) : Bytes := litB x.f x.k 0 x.n x.v x.c
structure Ln.Ok (x : Ln) : Prop where
  k : LK x.f x.k
  n : x.n.length ≤ 100
  v : x.v.length ≤ 100
theorem cuts_run (max : Nat) : ∀ (L : List Ln) (T : Tb) (fu : Nat) (out : List Fld) (q : Nat), (∀ x ∈ L, x.Ok) → out.length + L.length ≤ 64 → q ≤ fu → q ≤ (L.flatMap Ln.B).length →
    ((decGo max false fu T 0 out ((L.flatMap Ln.B).take q)).isSome = true ↔ ∃ i, i ≤ L.length ∧ q = ((L.take i).flatMap Ln.B).length)
  | [], T, fu, out, q, _, _, _, hq => by
    simp only [List.flatMap_nil, List.length_nil, Nat.le_zero] at hq
    subst hq
    rw [List.take_zero, decGo_nil]
    exact ⟨fun _ => ⟨0, Nat.zero_le _, rfl⟩, fun _ => rfl⟩
  | x :: L, T, fu, out, q, hok, ho, hfu, hq => by
    have hx := hok x (by simp)
    have e : (x :: L).flatMap Ln.B = x.B ++ L.flatMap Ln.B := List.flatMap_cons
    rw [e] at hq ⊢
    rw [List.length_append] at hq
    simp only [List.length_cons] at ho
    have hpos : 0 < x.B.length := by
      obtain ⟨y, t, e, _⟩ := lit_head (i := 0) (n := x.n) (v := x.v) x.c [] hx.k
      rw [List.append_nil] at e
      unfold Ln.B
      rw [e]; simp
    by_cases h0 : q = 0
    · subst h0
      rw [List.take_zero, decGo_nil]
      exact ⟨fun _ => ⟨0, Nat.zero_le _, rfl⟩, fun _ => rfl⟩
    · obtain ⟨fu, rfl⟩ : ∃ k, fu = k + 1 := ⟨fu - 1, by omega⟩
      by_cases hc : q < x.B.length
      · have h1 : (x.B ++ L.flatMap Ln.B).take q = x.B.take q := List.take_append_of_le_length (by omega)
        obtain ⟨h2, y, t, h3, h4⟩ := lit_cut T hx.k x.n x.v x.c hx.n hx.v q h0 hc
        have h2' : lineD T (x.B.take q) = none := h2
        have h3' : x.B.take q = y :: t := h3
        rw [h1]
        rw [h3'] at h2' ⊢
        rw [decGo, if_neg h4, if_neg (by simp; omega), h2']
        constructor
        · intro c; cases c
        · rintro ⟨i, hi, hq2⟩
          cases i with
          | zero => simp at hq2; omega
          | succ i =>
            rw [List.take_succ_cons, List.flatMap_cons, List.length_append] at hq2
            omega
      · have h1 : (x.B ++ L.flatMap Ln.B).take q = x.B ++ (L.flatMap Ln.B).take (q - x.B.length) := by
          rw [List.take_append, List.take_of_length_le (by omega)]
        rw [h1]
        have h2 := dec_lit (T := T) max fu 0 out x.c ((L.flatMap Ln.B).take (q - x.B.length)) hx.k (i := 0) (n := x.n) (v := x.v) (m := x.n) (by omega) (by have := hx.n; omega) (by have := hx.v; omega) (.inl ⟨rfl, rfl⟩) (by omega)
        have h2' : decGo max false (fu + 1) T 0 out (x.B ++ (L.flatMap Ln.B).take (q - x.B.length)) = _ := h2
        rw [h2', cuts_run max L _ fu (out ++ [(x.n, x.v)]) (q - x.B.length) (fun y hy => hok y (by simp [hy])) (by simp; omega) (by omega) (by omega)]
        constructor
        · rintro ⟨i, hi, hq2⟩
          refine ⟨i + 1, by simp; omega, ?_⟩
          rw [List.take_succ_cons, List.flatMap_cons, List.length_append]
          omega
        · rintro ⟨i, hi, hq2⟩
          cases i with
          | zero => simp at hq2; omega
          | succ i =>
            rw [List.take_succ_cons, List.flatMap_cons, List.length_append] at hq2
            exact ⟨i, by simp at hi; omega, by omega⟩
theorem cuts_all (L : List Ln) (q : Nat) (hok : ∀ x ∈ L, x.Ok) (hl : L.length ≤ 64) (hq : q ≤ (L.flatMap Ln.B).length) : (deN.run ((L.flatMap Ln.B).take q)).isSome = true ↔ ∃ i, i ≤ L.length ∧ q = ((L.take i).flatMap Ln.B).length := by
  show (decGo 4096 false ((L.flatMap Ln.B).take q).length ⟨[], 0, 4096⟩ 0 [] ((L.flatMap Ln.B).take q)).isSome = true ↔ _
  exact cuts_run 4096 L _ _ [] q hok (by simp; omega) (by rw [List.length_take]; omega) hq
end Go.Proofs.Ytcebckkpablagaa.M
