/- hdec's decoder and the document's, side by side. No condition. -/
import Derived.Test.YtcebckkpablagaaHdd
import Derived.Test.YtcebckkpablagaaRdec
import Derived.Test.YtcebckkpablagaaFeq
namespace Go.Proofs.Ytcebckkpablagaa.M
open Go.ChangeShapes Go.WideShapes Go.ChangeAt Go.RowKit

structure DSt (W w : World) (S : Nat → Prop) (pd g : Nat) (D : De) (S2 : Nat → Prop) (p2 g2 : Nat) (D2 : De) : Prop where
  de : HDeAt S w pd g D
  rd : RDeAt S2 w p2 g2 D2
  dS : ∀ k, S2 k → ¬ S k ∧ k ≠ pd
  dp : ¬ S p2 ∧ p2 ≠ pd
  lS : ∀ k, S k → W.heap.size ≤ k
  lS2 : ∀ k, S2 k → W.heap.size ≤ k
  lp : W.heap.size ≤ pd ∧ W.heap.size ≤ p2
  frm : Frm (New W) W w
/-- a block that neither decoder has -/
def DFar (w : World) (S : Nat → Prop) (pd : Nat) (S2 : Nat → Prop) (p2 : Nat) (A : Option Addr) : Prop := ∀ k, blk A = some k → k ≠ pd ∧ ¬ S k ∧ k ≠ p2 ∧ ¬ S2 k ∧ k < w.heap.size
structure DKept (w : World) (S : Nat → Prop) (pd : Nat) (S2 : Nat → Prop) (p2 : Nat) (A : Option Addr) (xs : List Value) : Prop where
  rd : Rd w A xs
  far : xs ≠ [] → DFar w S pd S2 p2 A
/-- what one decoder's call may write -/
def Wrt (w : World) (S : Nat → Prop) (p : Nat) (k : Nat) : Prop := k = p ∨ Own S w k
section
variable {W w w' : World} {S S' S2 : Nat → Prop} {pd g p2 g2 : Nat} {D D' D2 : De} {A : Option Addr} {xs : List Value}
theorem DSt.fresh (h : DSt W w S pd g D S2 p2 g2 D2) (f : Frm (New w) w w') : DSt W w' S pd g D S2 p2 g2 D2 :=
  { h with de := h.de.fresh f, rd := h.rd.fresh f, frm := h.frm.then_new Up.new f }
theorem DFar.fresh (h : DFar w S pd S2 p2 A) (f : Frm (New w) w w') : DFar w' S pd S2 p2 A := fun k hk => by
  obtain ⟨a, b, c, d, e⟩ := h k hk
  exact ⟨a, b, c, d, Nat.lt_of_lt_of_le e f.size⟩
theorem DKept.fresh (h : DKept w S pd S2 p2 A xs) (f : Frm (New w) w w') : DKept w' S pd S2 p2 A xs := ⟨h.rd.fresh f, fun hn => (h.far hn).fresh f⟩
theorem DFar.low (h : DSt W w S pd g D S2 p2 g2 D2) (hA : ∀ k, blk A = some k → k < W.heap.size) : DFar w S pd S2 p2 A := fun k hk => by
  have h1 := hA k hk
  have h2 := h.lp
  have h3 := h.frm.size
  exact ⟨by omega, fun c => by have := h.lS k c; omega, by omega, fun c => by have := h.lS2 k c; omega, by omega⟩
/-- a block that is new to a world in which both stand -/
theorem DFar.new (h : DSt W w S pd g D S2 p2 g2 D2) (hA : ∀ k, blk A = some k → w.heap.size ≤ k ∧ k < w'.heap.size) : DFar w' S pd S2 p2 A := fun k hk => by
  have h1 := hA k hk
  have h2 := h.de.blk.lt
  have h3 := h.rd.blk.lt
  exact ⟨by omega, fun c => by have := h.de.tab.low k c; omega, by omega, fun c => by have := h.rd.tab.low k c; omega, h1.2⟩
theorem DSt.hdec (h : DSt W w S pd g D S2 p2 g2 D2) (hd : HDeAt S' w' pd g D') (F : Frm (Wrt w S pd) w w') (hS : ∀ k, S' k → Own S w k) : DSt W w' S' pd g D' S2 p2 g2 D2 := by
  have hl := h.rd.tab.low
  have hp2 := h.rd.blk.lt
  have hs := h.frm.size
  have hown : ∀ k, k < w.heap.size → ¬ S k → ¬ Own S w k := fun k hk hn c => by
    rcases c with c | c
    · exact hn c
    · omega
  have far : ∀ k, k < w.heap.size → ¬ S k → k ≠ pd → ¬ Wrt w S pd k := fun k hk hn hp c => by
    rcases c with c | c
    · exact hp c
    · exact hown k hk hn c
  exact
    { h with
      de := hd
      rd := h.rd.keep F (fun k hk => far k (hl k hk) (h.dS k hk).1 (h.dS k hk).2) (far p2 hp2 h.dp.1 h.dp.2)
      dS := fun k hk => ⟨fun c => hown k (hl k hk) (h.dS k hk).1 (hS k c), (h.dS k hk).2⟩
      dp := ⟨fun c => hown p2 hp2 h.dp.1 (hS p2 c), h.dp.2⟩
      lS := fun k hk => by
        rcases hS k hk with c | c
        · exact h.lS k c
        · exact Nat.le_trans hs c
      frm := h.frm.trans (F.mono (fun k hk => by
        rcases hk with c | c | c
        · rw [c]; exact h.lp.1
        · exact h.lS k c
        · exact Nat.le_trans hs c)) }
theorem HDeAt.keep {M : Nat → Prop} (h : HDeAt S w pd g D) (f : Frm M w w') (hM : ∀ k, S k → ¬ M k) (hp : ¬ M pd) : HDeAt S w' pd g D :=
  { h with blk := h.blk.keep f hp, tab := h.tab.keep f hM }
theorem DSt.rdec (h : DSt W w S pd g D S2 p2 g2 D2) (hd : RDeAt S' w' p2 g2 D') (F : Frm (Wrt w S2 p2) w w') (hS : ∀ k, S' k → Own S2 w k) : DSt W w' S pd g D S' p2 g2 D' := by
  have hl := h.de.tab.low
  have hp := h.de.blk.lt
  have hs := h.frm.size
  have hown : ∀ k, k < w.heap.size → ¬ S2 k → ¬ Own S2 w k := fun k hk hn c => by
    rcases c with c | c
    · exact hn c
    · omega
  have far : ∀ k, k < w.heap.size → ¬ S2 k → k ≠ p2 → ¬ Wrt w S2 p2 k := fun k hk hn hp c => by
    rcases c with c | c
    · exact hp c
    · exact hown k hk hn c
  have hpS : ¬ S2 pd := fun c => (h.dS pd c).2 rfl
  have hSn : ∀ k, S k → ¬ S2 k := fun k hk c => (h.dS k c).1 hk
  exact
    { h with
      de := h.de.keep F (fun k hk => far k (hl k hk) (hSn k hk) (fun e => h.dp.1 (by rw [← e]; exact hk))) (far pd hp hpS (fun e => h.dp.2 e.symm))
      rd := hd
      dS := fun k hk => by
        rcases hS k hk with c | c
        · exact h.dS k c
        · exact ⟨fun c2 => by have := hl k c2; omega, by omega⟩
      lS2 := fun k hk => by
        rcases hS k hk with c | c
        · exact h.lS2 k c
        · exact Nat.le_trans hs c
      frm := h.frm.trans (F.mono (fun k hk => by
        rcases hk with c | c | c
        · rw [c]; exact h.lp.2
        · exact h.lS2 k c
        · exact Nat.le_trans hs c)) }
theorem DFar.hdec (h : DFar w S pd S2 p2 A) (F : Frm (Wrt w S pd) w w') (hS : ∀ k, S' k → Own S w k) : DFar w' S' pd S2 p2 A := fun k hk => by
  obtain ⟨a, b, c, d, e⟩ := h k hk
  refine ⟨a, fun q => ?_, c, d, Nat.lt_of_lt_of_le e F.size⟩
  rcases hS k q with q | q
  · exact b q
  · omega
theorem DFar.rdec (h : DFar w S pd S2 p2 A) (F : Frm (Wrt w S2 p2) w w') (hS : ∀ k, S' k → Own S2 w k) : DFar w' S pd S' p2 A := fun k hk => by
  obtain ⟨a, b, c, d, e⟩ := h k hk
  refine ⟨a, b, c, fun q => ?_, Nat.lt_of_lt_of_le e F.size⟩
  rcases hS k q with q | q
  · exact d q
  · omega
theorem DFar.not_h (h : DFar w S pd S2 p2 A) : Far (Wrt w S pd) A := fun k hk c => by
  obtain ⟨a, b, _, _, e⟩ := h k hk
  rcases c with c | c | c
  · exact a c
  · exact b c
  · omega
theorem DFar.not_r (h : DFar w S pd S2 p2 A) : Far (Wrt w S2 p2) A := fun k hk c => by
  obtain ⟨_, _, a, b, e⟩ := h k hk
  rcases c with c | c | c
  · exact a c
  · exact b c
  · omega
theorem DKept.hdec (h : DKept w S pd S2 p2 A xs) (F : Frm (Wrt w S pd) w w') (hS : ∀ k, S' k → Own S w k) : DKept w' S' pd S2 p2 A xs := by
  cases xs with
  | nil => exact ⟨Rd.nil, fun c => absurd rfl c⟩
  | cons x r => exact ⟨h.rd.keep F (h.far (by simp)).not_h, fun hn => (h.far hn).hdec F hS⟩
theorem DKept.rdec (h : DKept w S pd S2 p2 A xs) (F : Frm (Wrt w S2 p2) w w') (hS : ∀ k, S' k → Own S2 w k) : DKept w' S pd S' p2 A xs := by
  cases xs with
  | nil => exact ⟨Rd.nil, fun c => absurd rfl c⟩
  | cons x r => exact ⟨h.rd.keep F (h.far (by simp)).not_r, fun hn => (h.far hn).rdec F hS⟩
end
/-- a block's fields, its error's number, the decoder behind it -/
def oL (o : Option (List Fld × Tb)) : List Fld := match o with | some q => q.1 | none => []
def oE (o : Option (List Fld × Tb)) : Nat := match o with | some _ => 0 | none => 26
def oD (D : De) (o : Option (List Fld × Tb)) (D' : De) : Prop := match o with | some q => D' = ⟨q.2, D.max, false, false⟩ | none => D'.bad = true
theorem fvs_ne {l : List Fld} (h : fvs l ≠ []) : l ≠ [] := fun c => h (by rw [c]; rfl)
section
variable {W w : World} {S S2 : Nat → Prop} {pd g p2 g2 : Nat} {D D2 : De}
theorem hstep (h : DSt W w S pd g D S2 p2 g2 D2) (b : Bytes) (A : Option Addr) (c : Nat) (hR : Rd w A (bvs b)) (hc : b.length ≤ c) (hfar : DFar w S pd S2 p2 A) (hl : b.length ≤ 68719476736) (hn : D.bad = false → D.t.n + b.length ≤ 1152921504606846975) :
    Calls Try.prog 36 #[.pointer (some ⟨pd, 0, none⟩), .slice A b.length c] w fun e w' => ∃ (S' : Nat → Prop) (D' : De) (A' : Option Addr) (c' : Nat), e = .returned (.tuple #[.slice A' (oL (D.run b)).length c', .int .i64 (oE (D.run b))]) ∧
      DSt W w' S' pd g D' S2 p2 g2 D2 ∧ DKept w' S' pd S2 p2 A' (fvs (oL (D.run b))) ∧ oD D (D.run b) D' ∧ Frm (Wrt w S pd) w w' ∧ (∀ k, S' k → Own S w k) ∧ (oL (D.run b)).length ≤ c' := by
  refine (hdecoder_any b A c w h.de hR hc (fun k hk => ⟨(hfar k hk).1, (hfar k hk).2.1, (hfar k hk).2.2.2.2⟩) (by omega) hn).mono ?_
  rintro e w' ⟨S', D', h1, h2, h3, h4⟩
  have hS := h.hdec h1 h2 h3
  cases hr : D.run b with
  | none => rw [hr] at h4; exact ⟨S', D', none, 0, h4.1, hS, ⟨Rd.nil, fun c => absurd rfl c⟩, h4.2, h2, h3, Nat.le_refl _⟩
  | some q =>
    obtain ⟨l, T⟩ := q
    rw [hr] at h4
    obtain ⟨A1, c1, q1, q2, q3, q4⟩ := h4
    refine ⟨S', D', A1, c1, q1, hS, ⟨q2.rd, fun hne k hk => ?_⟩, q4, h2, h3, q2.cap⟩
    have h5 := q2.inM k hk
    unfold New at h5
    have h6 := h.de.blk.lt
    have h7 := h.rd.blk.lt
    obtain ⟨g9, o9, e9, l9⟩ := q2.rd.lt hne
    rw [e9] at hk
    have hk2 : g9 = k := by simpa using hk
    exact ⟨by omega, q3 k (by rw [e9]; exact hk), by omega, fun c => by have := h.rd.tab.low k c; omega, by omega⟩
theorem rstep (h : DSt W w S pd g D S2 p2 g2 D2) (b : Bytes) (A : Option Addr) (c : Nat) (hR : Rd w A (bvs b)) (hc : b.length ≤ c) (hfar : DFar w S pd S2 p2 A) (hl : b.length ≤ 68719476736) (hn : D2.bad = false → D2.t.n + b.length ≤ 1152921504606846975) :
    Calls Try.prog 30 #[.pointer (some ⟨p2, 0, none⟩), .slice A b.length c] w fun e w' => ∃ (S' : Nat → Prop) (D' : De) (A' : Option Addr) (c' : Nat), e = .returned (.tuple #[.slice A' (oL (D2.run b)).length c', .int .i64 (oE (D2.run b))]) ∧
      DSt W w' S pd g D S' p2 g2 D' ∧ DKept w' S pd S' p2 A' (fvs (oL (D2.run b))) ∧ oD D2 (D2.run b) D' ∧ Frm (Wrt w S2 p2) w w' ∧ (∀ k, S' k → Own S2 w k) ∧ (oL (D2.run b)).length ≤ c' := by
  refine (rdecode_any b A c w h.rd hR hc (fun k hk => ⟨(hfar k hk).2.2.1, (hfar k hk).2.2.2.1, (hfar k hk).2.2.2.2⟩) hl (fun q => by have := hn q; omega)).mono ?_
  rintro e w' ⟨S', D', h1, h2, h3, h4⟩
  have hS := h.rdec h1 h2 h3
  cases hr : D2.run b with
  | none => rw [hr] at h4; exact ⟨S', D', none, 0, h4.1, hS, ⟨Rd.nil, fun c => absurd rfl c⟩, h4.2, h2, h3, Nat.le_refl _⟩
  | some q =>
    obtain ⟨l, T⟩ := q
    rw [hr] at h4
    obtain ⟨A1, c1, q1, q2, q3, q4⟩ := h4
    refine ⟨S', D', A1, c1, q1, hS, ⟨q2.rd, fun hne k hk => ?_⟩, q4, h2, h3, q2.cap⟩
    have h5 := q2.inM k hk
    unfold New at h5
    have h6 := h.de.blk.lt
    have h7 := h.rd.blk.lt
    obtain ⟨g9, o9, e9, l9⟩ := q2.rd.lt hne
    rw [e9] at hk
    have hk2 : g9 = k := by simpa using hk
    exact ⟨by omega, fun c => by have := h.de.tab.low k c; omega, by omega, q3 k (by rw [e9]; exact hk), by omega⟩
end
/-- both are made -/
theorem DSt.both {W w w1 w2 : World} {S S2 : Nat → Prop} {pd g p2 g2 : Nat} {D D2 : De} (h0 : Frm (New W) W w) (h1 : HDeAt S w1 pd g D) (f1 : Frm (New w) w w1) (s1 : ∀ k, S k → w.heap.size ≤ k) (l1 : w.heap.size ≤ pd) (h2 : RDeAt S2 w2 p2 g2 D2) (f2 : Frm (New w1) w1 w2) (s2 : ∀ k, S2 k → w1.heap.size ≤ k) (l2 : w1.heap.size ≤ p2) :
    DSt W w2 S pd g D S2 p2 g2 D2 := by
  have hz := h0.size
  have hz1 := f1.size
  have hp := h1.blk.lt
  refine ⟨h1.fresh f2, h2, fun k hk => ⟨fun c => ?_, ?_⟩, ⟨fun c => ?_, by omega⟩, fun k hk => ?_, fun k hk => ?_, ⟨by omega, by omega⟩, (h0.then_new Up.new f1).then_new Up.new f2⟩
  · have := h1.tab.low k c; have := s2 k hk; omega
  · have := s2 k hk; omega
  · have := h1.tab.low _ c; omega
  · have := s1 k hk; omega
  · have := s2 k hk; omega
/-- blocks grow the count by no more than their bytes -/
theorem decGo_n (max : Nat) (must : Bool) : ∀ (fu : Nat) (T : Tb) (sz : Nat) (out : List Fld) (b : Bytes) (q : List Fld × Tb), decGo max must fu T sz out b = some q → q.2.n ≤ T.n + b.length
  | fu, T, sz, out, [], q, h => by
    cases fu <;> (simp only [decGo] at h; split at h; cases h; injection h with h; subst h; simp)
  | 0, T, sz, out, c :: r, q, h => by simp [decGo] at h
  | fu + 1, T, sz, out, c :: r, q, h => by
    unfold decGo at h
    split at h
    · have hr := rdp_range (c :: r) 5 (by decide)
      generalize rdp (c :: r) 5 = y at *
      obtain ⟨n, k, e⟩ := y
      simp only at h hr
      split at h
      · cases h
      · have h2 := decGo_n max must fu _ _ _ _ q h
        have : (T.resize n).n = T.n := rfl
        rw [this, List.length_drop] at h2
        omega
    · split at h
      · cases h
      · have hr := lineD_range T (c :: r)
        cases hl : lineD T (c :: r) with
        | none => rw [hl] at h; cases h
        | some y =>
          obtain ⟨x, add, b⟩ := y
          rw [hl] at h
          have h2 := decGo_n max must fu _ _ _ _ q h
          have h3 := hr _ hl
          simp only at h3
          have h4 : (if add then T.add x else T).n ≤ T.n + 1 := by
            split
            · unfold Tb.add; split <;> simp
            · omega
          omega
theorem run_n {D : De} {b : Bytes} {q : List Fld × Tb} (h : D.run b = some q) : q.2.n ≤ D.t.n + b.length := by
  unfold De.run at h
  split at h
  · cases h
  · exact decGo_n _ _ _ _ _ _ _ _ h
/-- the same, or both are bad -/
def Alike (D D2 : De) : Prop := D = D2 ∨ (D.bad = true ∧ D2.bad = true)
theorem Alike.run {D D2 : De} (h : Alike D D2) (b : Bytes) : D.run b = D2.run b := by
  rcases h with h | ⟨h1, h2⟩
  · rw [h]
  · unfold De.run; rw [if_pos h1, if_pos h2]
theorem Alike.next {D D2 D' D2' : De} (h : Alike D D2) {b : Bytes} (h1 : oD D (D.run b) D') (h2 : oD D2 (D2.run b) D2') : Alike D' D2' := by
  rw [← h.run b] at h2
  cases hr : D.run b with
  | none => rw [hr] at h1 h2; exact .inr ⟨h1, h2⟩
  | some q =>
    rw [hr] at h1 h2
    rcases h with h | ⟨h3, _⟩
    · subst h; exact .inl (h1.trans h2.symm)
    · unfold De.run at hr; rw [if_pos h3] at hr; cases hr
/-- the count behind a block -/
theorem oD_n {D D' : De} {b : Bytes} (h : oD D (D.run b) D') {n : Nat} (hn : D.bad = false → D.t.n ≤ n) : D'.bad = false → D'.t.n ≤ n + b.length := by
  intro hb
  cases hr : D.run b with
  | none => rw [hr] at h; rw [show D'.bad = true from h] at hb; cases hb
  | some q =>
    have h2 := run_n hr
    rw [hr] at h
    have h' : D' = ⟨q.2, D.max, false, false⟩ := h
    have hbad : D.bad = false := by
      cases hq : D.bad with
      | false => rfl
      | true => unfold De.run at hr; rw [if_pos hq] at hr; cases hr
    have := hn hbad
    rw [h']
    show q.2.n ≤ _
    omega
/-- a block has at most 64 fields -/
theorem decGo_64 (max : Nat) (must : Bool) : ∀ (fu : Nat) (T : Tb) (sz : Nat) (out : List Fld) (b : Bytes) (q : List Fld × Tb), out.length ≤ 64 → decGo max must fu T sz out b = some q → q.1.length ≤ 64
  | fu, T, sz, out, [], q, ho, h => by
    cases fu <;> (simp only [decGo] at h; split at h; cases h; injection h with h; subst h; exact ho)
  | 0, T, sz, out, c :: r, q, ho, h => by simp [decGo] at h
  | fu + 1, T, sz, out, c :: r, q, ho, h => by
    unfold decGo at h
    split at h
    · generalize rdp (c :: r) 5 = y at *
      obtain ⟨n, k, e⟩ := y
      simp only at h
      split at h
      · cases h
      · exact decGo_64 max must fu _ _ _ _ q ho h
    · split at h
      · cases h
      · rename_i hc
        cases hl : lineD T (c :: r) with
        | none => rw [hl] at h; cases h
        | some y =>
          obtain ⟨x, add, b⟩ := y
          rw [hl] at h
          exact decGo_64 max must fu _ _ _ _ q (by simp only [List.length_append, List.length_cons, List.length_nil]; omega) h
theorem run_le (D : De) (b : Bytes) : (oL (D.run b)).length ≤ 64 := by
  cases h : D.run b with
  | none => exact Nat.zero_le _
  | some q =>
    unfold De.run at h
    split at h
    · cases h
    · exact decGo_64 _ _ _ _ _ _ _ _ (by simp) h
end Go.Proofs.Ytcebckkpablagaa.M
