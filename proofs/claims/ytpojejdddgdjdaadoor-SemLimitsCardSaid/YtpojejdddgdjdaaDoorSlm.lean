/- SemLimits, plain: what messages just at the limits are. No condition. -/
import Derived.Test.YtpojejdddgdjdaaDoorSrv
import Derived.Test.YtpojejdddgdjdaaDoorSbp
namespace Go.Proofs.YtpojejdddgdjdaaDoor.M
open Go.ChangeShapes Go.WideShapes Go.ChangeAt Go.RowKit

def bMM : Bytes := [58, 77, 101, 116, 104, 111, 100]
def base3 : List Fld := [(bMe, [80, 85, 84]), (bSc, [104, 116, 116, 112, 115]), (bPa, [47, 120])]
def base3b : List Fld := [(bMM, [80, 85, 84]), (bSc, [104, 116, 116, 112, 115]), (bPa, [47, 120])]
theorem lim_good (m : MV) (R : List Fld) (e : m.fs = base3 ++ R) (hR : ∀ f ∈ R, ps f = false ∧ plainOk f (m.b.length : Int) = true) (ht : trailOk m.ts = true) : rcls m = if lrgM m then 2 else 0 := by
  obtain ⟨q, hq⟩ : ∃ q : RQ, q = ⟨[80, 85, 84], [104, 116, 116, 112, 115], [], [47, 120], R, m.b, m.ts⟩ := ⟨_, rfl⟩
  have hp : psL q = base3 := by rw [hq]; rfl
  have hfs : q.fs = R := by rw [hq]
  have hs : Shp names4 (m.b.length : Int) (psL q) q.fs := psL_shp (by rw [hq]; show valOk [80, 85, 84] = true; decide +kernel) (by rw [hq]; show valOk [104, 116, 116, 112, 115] = true; decide +kernel) (by rw [hq]; rfl) (by rw [hq]; show valOk [47, 120] = true; decide +kernel) (by rw [hfs]; exact hR)
  rw [hp, hfs] at hs
  obtain ⟨s1, s2⟩ := sp_of e hs
  have hok : okF names4 m = true := by
    unfold okF
    rw [s1, s2, shpB_iff.2 hs, ht]; rfl
  have hr : rokV (val base3 bMe) (val base3 bSc) (val base3 bPa) = true := by decide +kernel
  unfold rcls
  rw [hok, s1, hr]
  rfl
theorem lim_bad (m : MV) (R : List Fld) (e : m.fs = base3b ++ R) : rcls m = if lrgM m then 2 else 1 := by
  have hb : Bad names4 (m.b.length : Int) m.fs := by
    have hk : 0 < m.fs.length := by rw [e]; simp [base3b]
    have h0 : m.fs[0] = (bMM, [80, 85, 84]) := by simp only [e]; rfl
    exact bad_pseudo hk (by rw [h0]; rfl) (.inl (by rw [h0]; decide))
  have hok : okF names4 m = false := by
    unfold okF
    cases hx : shpB names4 (m.b.length : Int) (spS m.fs) (spR m.fs) with
    | false => rfl
    | true => exact absurd (shpB_iff.1 hx) (hb _ _ (sp_app _).symm)
  unfold rcls
  rw [hok]
  rfl
theorem lim_cls (m : MV) (bad : Bool) (R : List Fld) (e : m.fs = (if bad then base3b else base3) ++ R) (hR : ∀ f ∈ R, ps f = false ∧ plainOk f (m.b.length : Int) = true) (ht : trailOk m.ts = true) :
    rcls m = if lrgM m then 2 else if bad then 1 else 0 := by
  cases bad with
  | true => rw [lim_bad m R e]; rfl
  | false => rw [lim_good m R e hR ht]; rfl
theorem lim_sizes (bad : Bool) : fsizes (if bad then base3b else base3) = 125 ∧ (if bad then base3b else base3).length = 3 := by
  cases bad <;> decide
theorem fsizes_rep (f : Fld) (n : Nat) : fsizes (List.replicate n f) = n * fsize f := by
  unfold fsizes
  rw [List.map_replicate, List.sum_replicate_nat]
def fA : Fld := ([97], [])
def fT : Fld := ([116], [])
def fD (n : Nat) : Fld := ([97], List.replicate n 46)
theorem rep_all {α : Type} (p : α → Bool) (a : α) (h : p a = true) (n : Nat) : (List.replicate n a).all p = true := by
  rw [List.all_eq_true]
  intro x hx
  rw [List.eq_of_mem_replicate hx]
  exact h
theorem dots_ok (n : Nat) : valOk (List.replicate n 46) = true := by
  cases n with
  | zero => rfl
  | succ n =>
    have h1 : (List.replicate (n + 1) (46 : UInt8)).all okc = true := rep_all _ _ (by decide) _
    rw [List.replicate_succ] at h1 ⊢
    show ((46 :: List.replicate n 46).all okc && (!wht 46 && !wht ((46 :: List.replicate n (46 : UInt8))[(List.replicate n (46 : UInt8)).length]'(by simp)))) = true
    rw [h1]
    have h2 : (46 :: List.replicate n (46 : UInt8))[(List.replicate n (46 : UInt8)).length]'(by simp) = 46 := List.eq_of_mem_replicate (n := n + 1) (by rw [List.replicate_succ]; exact List.getElem_mem _)
    rw [h2]
    decide
theorem plainA : plainOk fA 0 = true ∧ ps fA = false := by decide +kernel
theorem plainD (n : Nat) : plainOk (fD n) 0 = true ∧ ps (fD n) = false := by
  refine ⟨?_, by show decide (List.head? ([97] : Bytes) = some 58) = false; decide⟩
  show (nameOk [97] && (valOk (List.replicate n 46) && (!hop [97] && (if ([97] : Bytes) = bTe then decide (List.replicate n 46 = bTrailers) else if ([97] : Bytes) = bCL then isLen (List.replicate n 46) 0 else true)))) = true
  rw [dots_ok, if_neg (by decide), if_neg (by decide)]
  decide
theorem trailT (n : Nat) : trailOk (List.replicate n fT) = true := rep_all _ _ (by decide +kernel) _
/-- fields `a`, so many -/
theorem lim0 (m : MV) (bad : Bool) (k : Nat) (hk : k ≤ 70) (e1 : m.fs = (if bad then base3b else base3) ++ List.replicate k fA) (e2 : m.b = []) (e3 : m.ts = []) :
    lrgM m = decide (61 < k) ∧ rcls m = if 61 < k then 2 else if bad then 1 else 0 := by
  obtain ⟨z1, z2⟩ := lim_sizes bad
  have hl : lrgM m = decide (61 < k) := by
    unfold lrgM lrg
    rw [e1, e2, e3, List.length_append, fsizes_append, z1, z2, List.length_replicate, fsizes_rep, show fsize fA = 33 from rfl, show fsizes [] = 0 from rfl]
    simp only [List.length_nil]
    rw [show decide (4096 < 125 + k * 33) = false from decide_eq_false (by omega), show decide (64 < 3 + k) = decide (61 < k) from decide_eq_decide.2 (by omega)]
    simp
  refine ⟨hl, ?_⟩
  rw [lim_cls m bad (List.replicate k fA) e1 (fun f hf => by rw [List.eq_of_mem_replicate hf, e2]; exact ⟨plainA.2, plainA.1⟩) (by rw [e3]; rfl), hl]
  by_cases h : 61 < k <;> simp [h]
theorem lim1 (m : MV) (bad : Bool) (k : Nat) (hk : k ≤ 4000) (e1 : m.fs = (if bad then base3b else base3) ++ [fD k]) (e2 : m.b = []) (e3 : m.ts = []) :
    lrgM m = decide (3938 < k) ∧ rcls m = if 3938 < k then 2 else if bad then 1 else 0 := by
  obtain ⟨z1, z2⟩ := lim_sizes bad
  have hl : lrgM m = decide (3938 < k) := by
    have hz : fsizes [fD k] = 33 + k := by
      show 1 + (List.replicate k (46 : UInt8)).length + 32 + 0 = 33 + k
      rw [List.length_replicate]; omega
    unfold lrgM lrg
    rw [e1, e2, e3, List.length_append, fsizes_append, z1, z2, hz, show fsizes [] = 0 from rfl]
    simp only [List.length_nil, List.length_cons]
    rw [show decide (4096 < 125 + (33 + k)) = decide (3938 < k) from decide_eq_decide.2 (by omega)]
    simp
  refine ⟨hl, ?_⟩
  rw [lim_cls m bad [fD k] e1 (fun f hf => by rw [List.mem_singleton.1 hf, e2]; exact ⟨(plainD k).2, (plainD k).1⟩) (by rw [e3]; rfl), hl]
  by_cases h : 3938 < k <;> simp [h]
theorem lim2 (m : MV) (bad : Bool) (e1 : m.fs = (if bad then base3b else base3)) (e3 : m.ts = []) :
    lrgM m = decide (8192 < m.b.length) ∧ rcls m = if 8192 < m.b.length then 2 else if bad then 1 else 0 := by
  obtain ⟨z1, z2⟩ := lim_sizes bad
  have hl : lrgM m = decide (8192 < m.b.length) := by
    unfold lrgM lrg
    rw [e1, e3, z1, z2, show fsizes [] = 0 from rfl]
    simp
  refine ⟨hl, ?_⟩
  rw [lim_cls m bad [] (by rw [List.append_nil]; exact e1) (fun f hf => by cases hf) (by rw [e3]; rfl), hl]
  by_cases h : 8192 < m.b.length <;> simp [h]
theorem lim3 (m : MV) (bad : Bool) (k : Nat) (hk : k ≤ 70) (e1 : m.fs = (if bad then base3b else base3)) (e2 : m.b = []) (e3 : m.ts = List.replicate k fT) :
    lrgM m = decide (64 < k) ∧ rcls m = if 64 < k then 2 else if bad then 1 else 0 := by
  obtain ⟨z1, z2⟩ := lim_sizes bad
  have hl : lrgM m = decide (64 < k) := by
    unfold lrgM lrg
    rw [e1, e2, e3, z1, z2, List.length_replicate, fsizes_rep, show fsize fT = 33 from rfl]
    rw [show decide (4096 < k * 33) = false from decide_eq_false (by omega)]
    simp
  refine ⟨hl, ?_⟩
  rw [lim_cls m bad [] (by rw [List.append_nil]; exact e1) (fun f hf => by cases hf) (by rw [e3]; exact trailT k), hl]
  by_cases h : 64 < k <;> simp [h]
end Go.Proofs.YtpojejdddgdjdaaDoor.M
