/- A good request, made a message, says the same: plain. No condition. -/
import Derived.Test.YtpojejdddgdjdaaDoorSof
import Derived.Test.YtpojejdddgdjdaaDoorSli
namespace Go.Proofs.YtpojejdddgdjdaaDoor.M
open Go.ChangeShapes Go.WideShapes Go.ChangeAt Go.RowKit

theorem sum_sub {α : Type} [DecidableEq α] (f : α → Nat) : ∀ (l1 l2 : List α), l1.Nodup → (∀ x ∈ l1, x ∈ l2) → (l1.map f).sum ≤ (l2.map f).sum
  | [], _, _, _ => Nat.zero_le _
  | a :: r, l2, hn, hs => by
    have hp := List.perm_cons_erase (hs a List.mem_cons_self)
    have hsum : (l2.map f).sum = ((a :: l2.erase a).map f).sum := (hp.map f).sum_nat
    rw [hsum, List.map_cons, List.map_cons, List.sum_cons, List.sum_cons]
    have hn2 := List.nodup_cons.1 hn
    refine Nat.add_le_add_left (sum_sub f r (l2.erase a) hn2.2 (fun x hx => ?_)) _
    have hne : x ≠ a := fun e => hn2.1 (by rw [← e]; exact hx)
    exact (List.mem_erase_of_ne hne).2 (hs x (List.mem_cons_of_mem _ hx))
theorem val_in (S : List Fld) (nm : Bytes) : val S nm = [] ∨ (nm, val S nm) ∈ S := by
  unfold val
  cases h : S.find? (fun f => decide (f.1 = nm)) with
  | none => exact .inl rfl
  | some f =>
    right
    have h1 := List.mem_of_find?_eq_some h
    have h2 := List.find?_some h
    simp only [decide_eq_true_eq] at h2
    show (nm, f.2) ∈ S
    rw [← h2]
    exact h1
/-- the pseudo fields of a request's message -/
def psL (q : RQ) : List Fld := [(bMe, q.me), (bSc, q.sc)] ++ auL q.au ++ [(bPa, q.pa)]
theorem ofL_eq (q : RQ) : ofL q = psL q ++ q.fs := rfl
theorem val_me (q : RQ) : val (psL q) bMe = q.me := rfl
theorem val_sc (q : RQ) : val (psL q) bSc = q.sc := rfl
theorem val_au (q : RQ) : val (psL q) bAu = q.au := by
  obtain ⟨me, sc, au, pa, fs, b, ts⟩ := q
  cases au <;> rfl
theorem val_pa (q : RQ) : val (psL q) bPa = q.pa := by
  obtain ⟨me, sc, au, pa, fs, b, ts⟩ := q
  cases au <;> rfl
theorem psL_nodup (q : RQ) : ((psL q).map Prod.fst).Nodup := by
  obtain ⟨me, sc, au, pa, fs, b, ts⟩ := q
  cases au with
  | nil => show [bMe, bSc, bPa].Nodup; decide
  | cons c t => show [bMe, bSc, bAu, bPa].Nodup; decide
theorem psL_mem (q : RQ) : ∀ f ∈ psL q, f = (bMe, q.me) ∨ f = (bSc, q.sc) ∨ (q.au ≠ [] ∧ f = (bAu, q.au)) ∨ f = (bPa, q.pa) := by
  obtain ⟨me, sc, au, pa, fs, b, ts⟩ := q
  intro f hf
  cases au with
  | nil =>
    have hf' : f ∈ [(bMe, me), (bSc, sc), (bPa, pa)] := hf
    simp only [List.mem_cons, List.not_mem_nil, or_false] at hf'
    rcases hf' with h | h | h
    · exact .inl h
    · exact .inr (.inl h)
    · exact .inr (.inr (.inr h))
  | cons c t =>
    have hf' : f ∈ [(bMe, me), (bSc, sc), (bAu, c :: t), (bPa, pa)] := hf
    simp only [List.mem_cons, List.not_mem_nil, or_false] at hf'
    rcases hf' with h | h | h | h
    · exact .inl h
    · exact .inr (.inl h)
    · exact .inr (.inr (.inl ⟨by simp, h⟩))
    · exact .inr (.inr (.inr h))
/-- of a request whose parts may be so -/
theorem psL_shp {q : RQ} {n : Int} (h1 : valOk q.me = true) (h2 : valOk q.sc = true) (h3 : valOk q.au = true) (h4 : valOk q.pa = true) (hr : ∀ f ∈ q.fs, ps f = false ∧ plainOk f n = true) : Shp names4 n (psL q) q.fs := by
  refine ⟨fun f hf => ?_, psL_nodup q, hr⟩
  rcases psL_mem q f hf with rfl | rfl | ⟨_, rfl⟩ | rfl
  · exact ⟨rfl, by show bMe ∈ names4; decide, by show nameOk (List.tail bMe) = true; decide, h1⟩
  · exact ⟨rfl, by show bSc ∈ names4; decide, by show nameOk (List.tail bSc) = true; decide, h2⟩
  · exact ⟨rfl, by show bAu ∈ names4; decide, by show nameOk (List.tail bAu) = true; decide, h3⟩
  · exact ⟨rfl, by show bPa ∈ names4; decide, by show nameOk (List.tail bPa) = true; decide, h4⟩
theorem rok_ne {me sc pa : Bytes} (h : rokV me sc pa = true) : me ≠ [] ∧ sc ≠ [] ∧ pa ≠ [] := by
  unfold rokV at h
  simp only [Bool.and_eq_true, Bool.not_eq_true', List.isEmpty_eq_false_iff] at h
  exact ⟨h.1, h.2.1, h.2.2.1⟩
/-- what a good message's request says is said again -/
theorem back_rq {m o : MV} (h : rcls m = 0) (e1 : o.fs = ofL (rq m)) (e2 : o.b = m.b) (e3 : o.ts = m.ts) : lrgM o = false ∧ rcls o = 0 ∧ rq o = rq m := by
  have hl : lrgM m = false := by
    cases hl : lrgM m with
    | false => rfl
    | true => unfold rcls at h; rw [if_pos hl] at h; cases h
  have h2 : (okF names4 m && rokV (val (spS m.fs) bMe) (val (spS m.fs) bSc) (val (spS m.fs) bPa)) = true := by
    unfold rcls at h
    rw [hl, if_neg Bool.false_ne_true] at h
    cases hq : (okF names4 m && rokV (val (spS m.fs) bMe) (val (spS m.fs) bSc) (val (spS m.fs) bPa)) with
    | true => rfl
    | false => rw [hq] at h; cases h
  rw [Bool.and_eq_true] at h2
  obtain ⟨hok, hrok⟩ := h2
  have hq : rq m = ⟨val (spS m.fs) bMe, val (spS m.fs) bSc, val (spS m.fs) bAu, val (spS m.fs) bPa, spR m.fs, m.b, m.ts⟩ := by unfold rq; rw [if_pos h]
  have hok2 := hok
  unfold okF at hok2
  rw [Bool.and_eq_true] at hok2
  obtain ⟨hshp, htr⟩ := hok2
  have hS := shpB_iff.1 hshp
  have hv : ∀ nm, valOk (val (spS m.fs) nm) = true := fun nm => by
    rcases val_in (spS m.fs) nm with h | h
    · rw [h]; rfl
    · exact (hS.s _ h).2.2.2
  obtain ⟨n1, n2, n4⟩ := rok_ne hrok
  have hps : Shp names4 (m.b.length : Int) (psL (rq m)) (rq m).fs := psL_shp (by rw [hq]; exact hv _) (by rw [hq]; exact hv _) (by rw [hq]; exact hv _) (by rw [hq]; exact hv _) (by rw [hq]; exact hS.r)
  have hsub : ∀ f ∈ psL (rq m), f ∈ spS m.fs := fun f hf => by
    have hin : ∀ nm, val (spS m.fs) nm ≠ [] → (nm, val (spS m.fs) nm) ∈ spS m.fs := fun nm hn => (val_in _ _).resolve_left hn
    rcases psL_mem _ f hf with rfl | rfl | ⟨ha, rfl⟩ | rfl
    · rw [hq]; exact hin _ n1
    · rw [hq]; exact hin _ n2
    · rw [hq] at ha ⊢; exact hin _ ha
    · rw [hq]; exact hin _ n4
  have hnd : (psL (rq m)).Nodup := by
    have := psL_nodup (rq m)
    rw [List.Nodup, List.pairwise_map] at this
    exact this.imp (fun h e => h (by rw [e]))
  have hsz := sum_sub fsize _ _ hnd hsub
  have hln := sum_sub (fun _ => 1) _ _ hnd hsub
  have hone : ∀ l : List Fld, (l.map (fun _ => 1)).sum = l.length := fun l => by induction l with
    | nil => rfl
    | cons a r ih => rw [List.map_cons, List.sum_cons, ih, List.length_cons]; omega
  rw [hone, hone] at hln
  have happ : ∀ a b : List Fld, fsizes (a ++ b) = fsizes a + fsizes b := fun a b => by unfold fsizes; rw [List.map_append, List.sum_append]
  have hmf : m.fs = spS m.fs ++ spR m.fs := (sp_app _).symm
  have hlo : lrgM o = false := by
    have hl2 := hl
    unfold lrgM lrg at hl2 ⊢
    simp only [Bool.or_eq_false_iff, decide_eq_false_iff_not] at hl2 ⊢
    have hfs : (rq m).fs = spR m.fs := by rw [hq]
    rw [e1, e2, e3, ofL_eq, hfs, List.length_append, happ]
    obtain ⟨⟨a1, a2⟩, ⟨b1, b2⟩, c⟩ := hl2
    rw [hmf, List.length_append] at a1
    rw [hmf, happ] at a2
    have hszx : fsizes (psL (rq m)) ≤ fsizes (spS m.fs) := hsz
    refine ⟨⟨by omega, by omega⟩, ⟨b1, b2⟩, c⟩
  obtain ⟨s1, s2⟩ := sp_of (l := o.fs) (by rw [e1, ofL_eq]) hps
  have hoko : okF names4 o = true := by
    unfold okF
    rw [s1, s2, e2, e3, shpB_iff.2 hps, htr]; rfl
  have hme : val (spS o.fs) bMe = (rq m).me := by rw [s1]; exact val_me _
  have hsc : val (spS o.fs) bSc = (rq m).sc := by rw [s1]; exact val_sc _
  have hau : val (spS o.fs) bAu = (rq m).au := by rw [s1]; exact val_au _
  have hpa : val (spS o.fs) bPa = (rq m).pa := by rw [s1]; exact val_pa _
  have hro : rokV (rq m).me (rq m).sc (rq m).pa = true := by rw [hq]; exact hrok
  have hco : rcls o = 0 := by
    unfold rcls
    rw [hlo, if_neg Bool.false_ne_true, hoko, hme, hsc, hpa, hro]
    rfl
  refine ⟨hlo, hco, ?_⟩
  have h9 : rq o = ⟨val (spS o.fs) bMe, val (spS o.fs) bSc, val (spS o.fs) bAu, val (spS o.fs) bPa, spR o.fs, o.b, o.ts⟩ := by unfold rq; rw [if_pos hco]
  rw [h9, hme, hsc, hau, hpa, s2, e2, e3]
  rw [hq]
end Go.Proofs.YtpojejdddgdjdaaDoor.M
