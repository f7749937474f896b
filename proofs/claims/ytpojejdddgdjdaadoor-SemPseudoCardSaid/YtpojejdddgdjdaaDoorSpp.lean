/- SemPseudo, plain: which orders of pseudo fields are good. No condition. -/
import Derived.Test.YtpojejdddgdjdaaDoorSrv
import Derived.Test.YtpojejdddgdjdaaDoorSbp
namespace Go.Proofs.YtpojejdddgdjdaaDoor.M
open Go.ChangeShapes Go.WideShapes Go.ChangeAt Go.RowKit

def pf6 : List Fld := [(bMe, [71, 69, 84]), (bSc, [104, 116, 116, 112, 115]), (bAu, [120]), (bPa, [47, 121]), (bSt, [50, 48, 48]), ([97], [98])]
def fk (k : Nat) : Fld := pf6.getD k ([], [])
/-- good so far (the last one ahead) -/
def okV : List Nat → Bool
  | [] => true
  | k :: r => okV r && (decide (k = 5) || (decide (5 ∉ r) && (decide (k ∉ r) && decide (k ≠ 4))))
structure PInv (ks : List Nat) (j : Nat) : Prop where
  inv : (okV (ks.take j).reverse = true ∧ ∃ S R, (ks.map fk).take j = S ++ R ∧ Shp names4 0 S R ∧ (R = [] ↔ 5 ∉ ks.take j) ∧ (∀ q, q < 4 → ((fk q).1 ∈ S.map Prod.fst ↔ q ∈ ks.take j)) ∧ (∀ f ∈ S, ∃ q, q < 4 ∧ f = fk q)) ∨
    (okV (ks.take j).reverse = false ∧ Bad names4 0 (ks.map fk))
theorem fk_in : ∀ q, q < 4 → ps (fk q) = true ∧ (fk q).1 ∈ names4 ∧ nameOk (fk q).1.tail = true ∧ valOk (fk q).2 = true := by decide
theorem fk_inj : ∀ q, q < 4 → ∀ p, p < 4 → (fk q).1 = (fk p).1 → q = p := by decide
theorem PInv.zero (ks : List Nat) : PInv ks 0 := ⟨.inl ⟨rfl, [], [], by simp, Shp.nil, by simp, by simp, by simp⟩⟩
theorem PInv.step {ks : List Nat} (hks : ∀ k ∈ ks, k < 6) {j : Nat} (hj : j < ks.length) (h : PInv ks j) : PInv ks (j + 1) := by
  have htk : ks.take (j + 1) = ks.take j ++ [ks[j]] := List.take_succ_eq_append_getElem hj
  have hjm : j < (ks.map fk).length := by simpa using hj
  have hfj : (ks.map fk)[j] = fk ks[j] := by simp
  have htm : (ks.map fk).take (j + 1) = (ks.map fk).take j ++ [fk ks[j]] := by rw [List.take_succ_eq_append_getElem hjm, hfj]
  have hk6 := hks _ (List.getElem_mem hj)
  have hrev : (ks.take (j + 1)).reverse = ks[j] :: (ks.take j).reverse := by rw [htk, List.reverse_append]; rfl
  refine ⟨?_⟩
  rw [hrev]
  rcases h.inv with ⟨ho, S, R, e, hs, hR, hS, hSq⟩ | ⟨ho, hb⟩
  · have hov : okV (ks[j] :: (ks.take j).reverse) = (okV (ks.take j).reverse && (decide (ks[j] = 5) || (decide (5 ∉ (ks.take j).reverse) && (decide (ks[j] ∉ (ks.take j).reverse) && decide (ks[j] ≠ 4))))) := rfl
    rw [hov, ho, Bool.true_and]
    simp only [List.mem_reverse]
    by_cases h5 : ks[j] = 5
    · left
      refine ⟨by rw [decide_eq_true h5]; rfl, S, R ++ [fk ks[j]], by rw [htm, e, List.append_assoc], hs.rest (by rw [h5]; rfl) (by rw [h5]; decide), ?_, fun q hq => ?_, hSq⟩
      · rw [htk]
        simp [h5]
      · rw [hS q hq, htk, List.mem_append, List.mem_singleton]
        constructor
        · exact .inl
        · rintro (h | h)
          · exact h
          · omega
    · have hps : ps (fk ks[j]) = true := by
        have : ks[j] = 0 ∨ ks[j] = 1 ∨ ks[j] = 2 ∨ ks[j] = 3 ∨ ks[j] = 4 := by omega
        rcases this with h | h | h | h | h <;> rw [h] <;> rfl
      rw [decide_eq_false h5, Bool.false_or]
      by_cases hm5 : 5 ∈ ks.take j
      · right
        refine ⟨by simp [hm5], ?_⟩
        refine bad_behind hjm e hs (by rw [hfj]; exact hps) (fun hn => ?_)
        exact (hR.1 hn) hm5
      · have hRn := hR.2 hm5
        subst hRn
        by_cases h4 : ks[j] = 4
        · right
          refine ⟨by simp [h4], bad_pseudo hjm (by rw [hfj]; exact hps) (.inl ?_)⟩
          rw [hfj, h4]
          decide
        · have hlt : ks[j] < 4 := by omega
          by_cases hin : ks[j] ∈ ks.take j
          · right
            refine ⟨by simp [hin], bad_twice hjm (by rw [e, List.append_nil]) (by rw [hfj]; exact hps) ?_⟩
            rw [hfj]
            exact (hS _ hlt).2 hin
          · left
            obtain ⟨a, b, c, d⟩ := fk_in _ hlt
            refine ⟨by simp [hm5, hin, h4], S ++ [fk ks[j]], [], by rw [htm, e, List.append_nil, List.append_nil], hs.more a b c d (fun hx => hin ((hS _ hlt).1 hx)), ?_, fun q hq => ?_, fun f hf => ?_⟩
            · refine ⟨fun _ h => ?_, fun _ => rfl⟩
              rw [htk] at h
              rcases List.mem_append.1 h with h | h
              · exact hm5 h
              · exact h5 (List.mem_singleton.1 h).symm
            · rw [htk, List.map_append, List.mem_append, List.mem_append, hS q hq, List.mem_singleton]
              simp only [List.map_cons, List.map_nil, List.mem_singleton]
              constructor
              · rintro (h | h)
                · exact .inl h
                · exact .inr (fk_inj q hq _ hlt h)
              · rintro (h | h)
                · exact .inl h
                · exact .inr (by rw [h])
            · rcases List.mem_append.1 hf with hf | hf
              · exact hSq f hf
              · exact ⟨_, hlt, List.mem_singleton.1 hf⟩
  · right
    refine ⟨?_, hb⟩
    show (okV (ks.take j).reverse && _) = false
    rw [ho]; rfl
theorem PInv.all {ks : List Nat} (hks : ∀ k ∈ ks, k < 6) : ∀ j, j ≤ ks.length → PInv ks j
  | 0, _ => PInv.zero ks
  | j + 1, h => (PInv.all hks j (by omega)).step hks (by omega)
/-- the whole law -/
def okP (ks : List Nat) : Bool := okV ks.reverse && (decide (0 ∈ ks) && (decide (1 ∈ ks) && decide (3 ∈ ks)))
theorem val_of {S : List Fld} {nm : Bytes} {x : Bytes} (h : ∀ f ∈ S, f.1 = nm → f.2 = x) (hin : nm ∈ S.map Prod.fst) : val S nm = x := by
  rcases val_in S nm with h0 | h0
  · unfold val at h0
    cases hq : S.find? (fun f => decide (f.1 = nm)) with
    | none =>
      obtain ⟨f, hf, he⟩ := List.mem_map.1 hin
      have := List.find?_eq_none.1 hq f hf
      simp [he] at this
    | some f =>
      have h2 := h f (List.mem_of_find?_eq_some hq) (by have := List.find?_some hq; simpa using this)
      rw [hq] at h0
      unfold val
      rw [hq]
      exact h2
  · exact h _ h0 rfl
theorem val_no {S : List Fld} {nm : Bytes} (hin : nm ∉ S.map Prod.fst) : val S nm = [] := by
  rcases val_in S nm with h0 | h0
  · exact h0
  · exact absurd (List.mem_map.2 ⟨_, h0, rfl⟩) hin
theorem pseudo_law {ks : List Nat} (hks : ∀ k ∈ ks, k < 6) (hl : ks.length ≤ 8) (m : MV) (e1 : m.fs = ks.map fk) (e2 : m.b = []) (e3 : m.ts = []) : rcls m = if okP ks then 0 else 1 := by
  have hlg : lrgM m = false := by
    unfold lrgM lrg
    have hz : ∀ l : List Nat, fsizes (l.map fk) ≤ 60 * l.length := fun l => by
      induction l with
      | nil => exact Nat.le_refl _
      | cons k r ih =>
        have hk : fsize (fk k) ≤ 60 := by
          by_cases h6 : k < 6
          · have : ∀ q, q < 6 → fsize (fk q) ≤ 60 := by decide
            exact this k h6
          · have : fk k = ([], []) := by unfold fk; rw [List.getD_eq_getElem?_getD, List.getElem?_eq_none (by show 6 ≤ k; omega)]; rfl
            rw [this]; decide
        rw [List.map_cons]
        have : fsizes (fk k :: r.map fk) = fsize (fk k) + fsizes (r.map fk) := by simp [fsizes]
        rw [this, List.length_cons]
        omega
    have h1 := hz ks
    have hz0 : fsizes [] = 0 := rfl
    have hln : m.fs.length = ks.length := by rw [e1, List.length_map]
    rw [e3, hz0, e2, hln, e1]
    simp only [Bool.or_eq_false_iff, decide_eq_false_iff_not, List.length_nil]
    omega
  have hI := (PInv.all hks ks.length (Nat.le_refl _)).inv
  rw [List.take_length] at hI
  have hlm : (ks.map fk).take ks.length = ks.map fk := List.take_of_length_le (by simp)
  rw [hlm] at hI
  have ht : trailOk [] = true := rfl
  unfold rcls
  rw [hlg, if_neg Bool.false_ne_true]
  rcases hI with ⟨ho, S, R, e, hs, hR, hS, hSq⟩ | ⟨ho, hb⟩
  · obtain ⟨s1, s2⟩ := sp_of (l := m.fs) (by rw [e1]; exact e) hs
    have hn0 : (m.b.length : Int) = 0 := by rw [e2]; rfl
    have hok : okF names4 m = true := by
      unfold okF
      rw [s1, s2, e3, ht, hn0, shpB_iff.2 hs]; rfl
    have hv : ∀ q, q < 4 → val S (fk q).1 = if q ∈ ks then (fk q).2 else [] := fun q hq => by
      by_cases hm : q ∈ ks
      · rw [if_pos hm]
        refine val_of (fun f hf he => ?_) ((hS q hq).2 hm)
        obtain ⟨p, hp, rfl⟩ := hSq f hf
        rw [fk_inj p hp q hq he]
      · rw [if_neg hm]
        exact val_no (fun h => hm ((hS q hq).1 h))
    have v0 := hv 0 (by omega)
    have v1 := hv 1 (by omega)
    have v3 := hv 3 (by omega)
    have n0 : (fk 0).1 = bMe := rfl
    have n1 : (fk 1).1 = bSc := rfl
    have n3 : (fk 3).1 = bPa := rfl
    rw [n0] at v0
    rw [n1] at v1
    rw [n3] at v3
    rw [hok, s1, v0, v1, v3, Bool.true_and]
    unfold okP
    rw [ho, Bool.true_and]
    have hz : rokV (if 0 ∈ ks then (fk 0).2 else []) (if 1 ∈ ks then (fk 1).2 else []) (if 3 ∈ ks then (fk 3).2 else []) = (decide (0 ∈ ks) && (decide (1 ∈ ks) && decide (3 ∈ ks))) := by
      by_cases h0 : 0 ∈ ks <;> by_cases h1 : 1 ∈ ks <;> by_cases h3 : 3 ∈ ks <;> simp only [h0, h1, h3, if_true, if_false, decide_true, decide_false] <;> decide
    rw [hz]
  · have hok : okF names4 m = false := by
      unfold okF
      have hn0 : (m.b.length : Int) = 0 := by rw [e2]; rfl
      cases hx : shpB names4 (m.b.length : Int) (spS m.fs) (spR m.fs) with
      | false => rfl
      | true =>
        rw [hn0] at hx
        exact absurd (shpB_iff.1 hx) (hb _ _ (by rw [← e1]; exact (sp_app _).symm))
    rw [hok]
    unfold okP
    rw [ho]
    rfl
end Go.Proofs.YtpojejdddgdjdaaDoor.M
