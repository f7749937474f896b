/- HandlerAnswers, plain: each answer is a good message. No condition. -/
import Derived.Test.YtpojejdddgdjdaaGreatDoorHaf
import Derived.Test.YtpojejdddgdjdaaGreatDoorSlp
namespace Go.Proofs.YtpojejdddgdjdaaGreatDoor.M
open Go.ChangeShapes Go.WideShapes Go.ChangeAt Go.RowKit

theorem valOk_iff (s : Bytes) : valOk s = true ↔ s.all okc = true ∧ (∀ c, s.head? = some c → wht c = false) ∧ (∀ c, s.getLast? = some c → wht c = false) := by
  cases s with
  | nil => simp [valOk]
  | cons c t =>
    have hl : (c :: t).getLast? = some ((c :: t)[t.length]'(by simp)) := by
      rw [List.getLast?_eq_getElem?]
      simp
    unfold valOk
    rw [hl]
    simp only [Bool.and_eq_true, Bool.not_eq_true', List.head?_cons, Option.some.injEq, forall_eq']
theorem glast {α : Type} (a b : List α) (h : b ≠ []) : (a ++ b).getLast? = b.getLast? := by
  rw [List.getLast?_append]
  cases hb : b.getLast? with
  | none => exact absurd (List.getLast?_eq_none_iff.1 hb) h
  | some x => rfl
theorem valOk_after {p s : Bytes} (hp : valOk p = true) (hp0 : p ≠ []) (k : Nat) (hs : valOk s = true) : valOk (p ++ s.drop k) = true := by
  rw [valOk_iff] at *
  obtain ⟨a1, a2, a3⟩ := hp
  obtain ⟨b1, b2, b3⟩ := hs
  refine ⟨?_, fun c hc => ?_, fun c hc => ?_⟩
  · rw [List.all_append, a1, Bool.true_and, List.all_eq_true]
    exact fun x hx => List.all_eq_true.1 b1 x (List.mem_of_mem_drop hx)
  · refine a2 c ?_
    cases p with
    | nil => exact absurd rfl hp0
    | cons x r => exact hc
  · by_cases hd : s.drop k = []
    · rw [hd, List.append_nil] at hc
      exact a3 c hc
    · rw [glast _ _ hd] at hc
      refine b3 c ?_
      rw [← List.take_append_drop k s, glast _ _ hd]
      exact hc
theorem plain_name (nm v : Bytes) (n : Int) (h1 : nameOk nm = true) (h2 : hop nm = false) (h3 : ¬ nm = bTe) (h4 : ¬ nm = bCL) (hv : valOk v = true) : plainOk (nm, v) n = true := by
  unfold plainOk
  simp only
  rw [h1, h2, hv, if_neg h3, if_neg h4]
  rfl
/-- a good answer -/
structure AOk (a : An) : Prop where
  fs : ∃ st more, a.fs = ansF st a.b.length more ∧ 100 ≤ st ∧ st ≤ 599 ∧ more.length ≤ 1 ∧ fsizes more ≤ 10000 ∧ ∀ f ∈ more, ps f = false ∧ ∀ n : Int, plainOk f n = true
  b : a.b.length ≤ 9000
  ts : trailOk a.ts = true
  tz : fsizes a.ts ≤ 10000 ∧ a.ts.length ≤ 70
theorem isLen_dec (k : Nat) (hk : k < 1000000000) : isLen (decB k) (k : Int) = true := by
  have h := zeros_isLen 0 k k
  have e : zeros 0 k = decB k := rfl
  rw [e] at h
  rw [h, decide_eq_true rfl, decide_eq_true (decB_len 8 k (by omega))]
  rfl
theorem AOk.good_resp {a : An} (h : AOk a) (m : MV) (e1 : m.fs = a.fs) (e2 : m.b = a.b) (e3 : m.ts = a.ts) : (resp m).2 ≠ 1 := by
  obtain ⟨⟨st, more, hfs, h1, h2, _, _, hm⟩, hb, ht, _⟩ := h
  have hS : Shp [bSt] (m.b.length : Int) [(bSt, decB st)] ((bCL, decB a.b.length) :: (more ++ [(bAlt, bH3)])) := by
    refine ⟨fun f hf => ?_, by simp, fun f hf => ?_⟩
    · obtain rfl := List.mem_singleton.1 hf
      exact ⟨rfl, by simp, by show nameOk (List.tail bSt) = true; decide, valOk_dig (decB_dig st)⟩
    · rcases List.mem_cons.1 hf with rfl | hf
      · refine ⟨by show decide (List.head? bCL = some 58) = false; decide, ?_⟩
        rw [plain_cl, valOk_dig (decB_dig _), e2, isLen_dec _ (by omega)]
        rfl
      · rcases List.mem_append.1 hf with hf | hf
        · exact ⟨(hm f hf).1, (hm f hf).2 _⟩
        · obtain rfl := List.mem_singleton.1 hf
          exact ⟨by show decide (List.head? bAlt = some 58) = false; decide, plain_name _ _ _ (by decide) (by decide) (by decide) (by decide) (by decide)⟩
  have hfl : m.fs = [(bSt, decB st)] ++ ((bCL, decB a.b.length) :: (more ++ [(bAlt, bH3)])) := by
    rw [e1, hfs]
    unfold ansF
    simp
  obtain ⟨s1, s2⟩ := sp_of hfl hS
  have hok : okF [bSt] m = true := by
    unfold okF
    rw [s1, s2, e3, ht, shpB_iff.2 hS]; rfl
  have hv : val (spS m.fs) bSt = decB st := by rw [s1]; rfl
  have hst : stOk (decB st) = true := by
    have hl : (decB st).length = 3 := by
      have ha := decB_len 2 st (by omega)
      have hge : ¬ st < 10 := by omega
      rw [decB_ge hge]
      have hge2 : ¬ st / 10 < 10 := by omega
      rw [decB_ge hge2, decB_lt (show st / 10 / 10 < 10 by omega)]
      rfl
    unfold stOk
    rw [hl, decB_dig, decB_num, decide_eq_true h1, decide_eq_true h2]
    rfl
  unfold resp
  split
  · decide
  · rw [hok, hv, hst]
    simp
theorem aok_ans (st : Nat) (b : Bytes) (more : List Fld) (h1 : 100 ≤ st) (h2 : st ≤ 599) (hb : b.length ≤ 9000) (hm1 : more.length ≤ 1) (hz : fsizes more ≤ 10000) (hm : ∀ f ∈ more, ps f = false ∧ ∀ n : Int, plainOk f n = true) : AOk (ans st b more) := ⟨⟨st, more, rfl, h1, h2, hm1, hz, hm⟩, hb, rfl, ⟨Nat.zero_le _, Nat.zero_le _⟩⟩
theorem aok_plain (st : Nat) (b : Bytes) (h1 : 100 ≤ st) (h2 : st ≤ 599) (hb : b.length ≤ 9000) : AOk (ans st b []) := aok_ans st b [] h1 h2 hb (Nat.zero_le _) (Nat.zero_le _) (fun f hf => by cases hf)
theorem one_ok {nm v : Bytes} (h0 : ps (nm, v) = false) (h : ∀ n : Int, plainOk (nm, v) n = true) : ∀ f ∈ [(nm, v)], ps f = false ∧ ∀ n : Int, plainOk f n = true := fun f hf => by
  obtain rfl := List.mem_singleton.1 hf
  exact ⟨h0, h⟩
theorem aok_not (a : Bytes) (ha : valOk a = true) (hl : fsizes [(bAllow, a)] ≤ 10000) : AOk (hNot a) := aok_ans 405 [] _ (by decide) (by decide) (by decide) (Nat.le_refl _) hl (one_ok (by show decide (List.head? bAllow = some 58) = false; decide) (fun n => plain_name _ _ _ (by decide) (by decide) (by decide) (by decide) ha))
theorem aok_none : AOk hNone := aok_plain 404 [] (by decide) (by decide) (by decide)
theorem aok_fixed (q : RQ) (x : Bytes) : AOk (hFixed q x) := by
  unfold hFixed
  split
  · rename_i h
    split
    · refine aok_ans 200 _ _ (by decide) (by decide) ?_ (Nat.le_refl _) (by decide) (one_ok (by show decide (List.head? bCT = some 58) = false; decide) (fun n => plain_name _ _ _ (by decide) (by decide) (by decide) (by decide) (by decide)))
      rcases h with rfl | rfl | rfl <;> decide
    · exact aok_not _ (by decide) (by decide)
  · exact aok_none
theorem findF_mem {l : List Fld} {nm v : Bytes} (h : v ∈ findF l nm) : (nm, v) ∈ l := by
  unfold findF at h
  obtain ⟨f, hf, rfl⟩ := List.mem_map.1 h
  obtain ⟨h1, h2⟩ := List.mem_filter.1 hf
  have h3 : f.1 = nm := by simpa using h2
  rw [← h3]
  exact h1
theorem aok_echo (q : RQ) (hb : q.b.length ≤ 9000) (hv : ∀ f ∈ q.fs, valOk f.2 = true) (ht : trailOk q.ts = true) (hfz : ∀ f ∈ q.fs, fsize f ≤ 6000) (htz : fsizes q.ts ≤ 6000 ∧ q.ts.length ≤ 70) : AOk (hEcho q) := by
  unfold hEcho
  split
  · exact aok_not _ (by decide) (by decide)
  · refine ⟨⟨200, ctOf q.fs, rfl, by decide, by decide, by unfold ctOf; cases findF q.fs bCT <;> simp [ctL], ?_, fun f hf => ?_⟩, hb, ht, ⟨by have := htz.1; show fsizes q.ts ≤ _; omega, htz.2⟩⟩
    · unfold ctOf
      cases hF : findF q.fs bCT with
      | nil => exact Nat.zero_le _
      | cons v r =>
        have := hfz _ (findF_mem (l := q.fs) (nm := bCT) (v := v) (by rw [hF]; simp))
        show fsizes [(bCT, v)] ≤ 10000
        simp only [fsizes, List.map_cons, List.map_nil, List.sum_cons, List.sum_nil]
        omega
    unfold ctOf at hf
    cases hF : findF q.fs bCT with
    | nil => rw [hF] at hf; cases hf
    | cons v r =>
      rw [hF] at hf
      obtain rfl := List.mem_singleton.1 (show f ∈ [(bCT, v)] from hf)
      have := hv _ (findF_mem (l := q.fs) (nm := bCT) (v := v) (by rw [hF]; simp))
      exact ⟨by show decide (List.head? bCT = some 58) = false; decide, fun n => plain_name _ _ _ (by decide) (by decide) (by decide) (by decide) this⟩
theorem aok_sum (q : RQ) (hb : q.b.length ≤ 9000) : AOk (hSum q) := by
  unfold hSum
  split
  · exact aok_not _ (by decide) (by decide)
  · refine ⟨⟨200, [], rfl, by decide, by decide, Nat.zero_le _, Nat.zero_le _, fun f hf => by cases hf⟩, by show bOk.length ≤ 9000; decide, ?_, ⟨?_, by show (1 : Nat) ≤ 70; decide⟩⟩
    show (trailOne (bXs, decB (sumB q.b)) && true) = true
    unfold trailOne
    have h1 : plainOk (bXs, decB (sumB q.b)) 0 = true := plain_name _ _ _ (by decide) (by decide) (by decide) (by decide) (valOk_dig (decB_dig _))
    simp only
    rw [h1, show decide (List.head? bXs = some 58) = false by decide, show decide (bXs = bCL) = false by decide]
    rfl
    have h2 := sumB_le q.b
    have h3 := decB_len 6 (sumB q.b) (by omega)
    show fsizes [(bXs, decB (sumB q.b))] ≤ 10000
    simp only [fsizes, List.map_cons, List.map_nil, List.sum_cons, List.sum_nil, fsize]
    have h4 : bXs.length = 5 := rfl
    omega
theorem aok_else (q : RQ) (k : Nat) (hp : valOk q.pa = true) (hpl : q.pa.length ≤ 6000) : AOk (hElse q (q.pa.drop k)) := by
  unfold hElse
  split
  · exact aok_none
  · split
    · exact aok_ans 302 [] _ (by decide) (by decide) (by decide) (Nat.le_refl _) (by simp [fsizes, fsize, bLoc, bStat]; omega) (one_ok (by show decide (List.head? bLoc = some 58) = false; decide) (fun n => plain_name _ _ _ (by decide) (by decide) (by decide) (by decide) (valOk_after (by decide) (by decide) k hp)))
    · exact aok_not _ (by decide) (by decide)
theorem getE_mem {κ α : Type} [DecidableEq κ] {k : κ} {l : List (κ × α)} {v : α} (h : getE k l = some v) : (k, v) ∈ l := by
  unfold getE at h
  cases hi : idx k l 0 with
  | none => rw [hi] at h; cases h
  | some q =>
    obtain ⟨j, u⟩ := q
    rw [hi] at h
    cases h
    obtain ⟨_, _, h3⟩ := idx_lt_ k l 0 j _ hi
    exact List.mem_of_getElem? h3
def StoOk (l : Sto) : Prop := ∀ x ∈ l, x.2.length ≤ 9000
theorem aok_keyed (l : Sto) (q : RQ) (k : Bytes) (hl : StoOk l) (hb : q.b.length ≤ 9000) : AOk (hKeyed l q k).1 ∧ StoOk (hKeyed l q k).2 := by
  have hput : StoOk (putE k q.b l) := fun x hx => by
    rcases mem_put hx with rfl | hx
    · exact hb
    · exact hl x hx
  unfold hKeyed
  split
  · exact ⟨aok_none, hl⟩
  · split
    · split
      · split
        · exact ⟨aok_plain _ _ (by decide) (by decide) (by decide), hl⟩
        · exact ⟨aok_plain _ _ (by decide) (by decide) (by decide), hput⟩
      · split
        · exact ⟨aok_not _ (by decide) (by decide), hl⟩
        · exact ⟨aok_none, hl⟩
    · rename_i b hg
      split
      · exact ⟨aok_plain _ _ (by decide) (by decide) (by decide), hput⟩
      · split
        · exact ⟨aok_not _ (by decide) (by decide), hl⟩
        · split
          · exact ⟨aok_plain _ _ (by decide) (by decide) (by decide), fun x hx => hl x (mem_del hx)⟩
          · exact ⟨aok_plain _ _ (by decide) (by decide) (hl _ (getE_mem hg)), hl⟩
theorem cut_drop {p s x : Bytes} (h : cut? p s = some x) : x = s.drop p.length := by
  unfold cut? at h
  split at h
  · exact (Option.some.inj h).symm
  · cases h
theorem aok_path (l : Sto) (q : RQ) (hl : StoOk l) (hb : q.b.length ≤ 9000) (hv : ∀ f ∈ q.fs, valOk f.2 = true) (hp : valOk q.pa = true) (ht : trailOk q.ts = true) (hfz : ∀ f ∈ q.fs, fsize f ≤ 6000) (htz : fsizes q.ts ≤ 6000 ∧ q.ts.length ≤ 70) (hpl : q.pa.length ≤ 6000) : AOk (hPath l q).1 ∧ StoOk (hPath l q).2 := by
  unfold hPath
  split
  · exact ⟨aok_fixed _ _, hl⟩
  · split
    · exact aok_keyed _ _ _ hl hb
    · split
      · rename_i x hx
        rw [cut_drop hx]
        exact ⟨aok_else _ _ hp hpl, hl⟩
      · refine ⟨?_, hl⟩
        show AOk (hRest q)
        unfold hRest
        split
        · exact aok_echo q hb hv ht hfz htz
        · split
          · exact aok_sum q hb
          · split
            · exact aok_ans 204 [] _ (by decide) (by decide) (by decide) (Nat.le_refl _) (by decide) (one_ok (by show decide (List.head? bAllow = some 58) = false; decide) (fun n => plain_name _ _ _ (by decide) (by decide) (by decide) (by decide) (by decide)))
            · exact aok_none
/-- what the law asks of each answer -/
structure Answers (q : RQ) (a : An) : Prop where
  shape : ∃ st n more, a.fs = ansF st n more ∧ more.length ≤ 1 ∧ (q.me ≠ bHEAD → n = a.b.length ∧ n ≤ 9000)
  head : q.me = bHEAD → a.b = []
  good : q.me ≠ bHEAD → AOk a
theorem handle_answers (l : Sto) (q : RQ) (hl : StoOk l) (hb : q.b.length ≤ 9000) (hv : ∀ f ∈ q.fs, valOk f.2 = true) (hp : valOk q.pa = true) (ht : trailOk q.ts = true) (hfz : ∀ f ∈ q.fs, fsize f ≤ 6000) (htz : fsizes q.ts ≤ 6000 ∧ q.ts.length ≤ 70) (hpl : q.pa.length ≤ 6000) : Answers q (handle l q).1 ∧ StoOk (handle l q).2 := by
  obtain ⟨h1, h2⟩ := aok_path l q hl hb hv hp ht hfz htz hpl
  refine ⟨?_, h2⟩
  unfold handle hNoBody
  have h1c := h1
  obtain ⟨⟨st, more, hfs, _, _, hml, _, _⟩, hbl, _, _⟩ := h1c
  by_cases hm : q.me = bHEAD
  · simp only [if_pos hm]
    exact ⟨⟨st, _, more, hfs, hml, fun h => absurd hm h⟩, fun _ => rfl, fun h => absurd hm h⟩
  · simp only [if_neg hm]
    exact ⟨⟨st, _, more, hfs, hml, fun _ => ⟨rfl, hbl⟩⟩, fun h => absurd h hm, fun _ => h1⟩
theorem AOk.sizes {a : An} (h : AOk a) : fsizes a.fs ≤ 20000 ∧ a.fs.length ≤ 10 ∧ fsizes a.ts ≤ 10000 ∧ a.ts.length ≤ 70 := by
  obtain ⟨⟨st, more, hfs, h1, h2, hml, hz, _⟩, hb, _, ⟨t1, t2⟩⟩ := h
  refine ⟨?_, ?_, t1, t2⟩
  · have d1 := decB_len 2 st (by omega)
    have d2 := decB_len 3 a.b.length (by omega)
    rw [hfs]
    unfold ansF
    rw [fsizes_append, fsizes_append]
    have e1 : fsizes [(bSt, decB st), (bCL, decB a.b.length)] = (7 + (decB st).length + 32) + ((14 + (decB a.b.length).length + 32) + 0) := rfl
    have e2 : fsizes [(bAlt, bH3)] = 48 := rfl
    omega
  · rw [hfs]
    simp [ansF]
    omega
theorem val_in_ (S : List Fld) (nm : Bytes) : val S nm = [] ∨ (nm, val S nm) ∈ S := by
  unfold val
  cases h : S.find? (fun f => decide (f.1 = nm)) with
  | none => exact .inl rfl
  | some f =>
    right
    have h1 := List.mem_of_find?_eq_some h
    have h2 := List.find?_some h
    simp only [decide_eq_true_eq] at h2
    show (nm, f.2) ∈ S
    rw [← h2]
    exact h1
/-- what is known of a good request -/
theorem good_rq {m : MV} (h : rcls m = 0) : (rq m).b = m.b ∧ (rq m).ts = m.ts ∧ m.b.length ≤ 8192 ∧ (∀ f ∈ (rq m).fs, f ∈ m.fs ∧ valOk f.2 = true) ∧ valOk (rq m).pa = true ∧ trailOk (rq m).ts = true ∧ (∀ nm, ((rq m).me = val (spS m.fs) bMe) ∧ (val (spS m.fs) nm = [] ∨ (nm, val (spS m.fs) nm) ∈ m.fs)) ∧ (rq m).pa = val (spS m.fs) bPa ∧ (rq m).sc = val (spS m.fs) bSc ∧ (rq m).au = val (spS m.fs) bAu := by
  have hl : lrgM m = false := by
    cases hl : lrgM m with
    | false => rfl
    | true => unfold rcls at h; rw [if_pos hl] at h; cases h
  have h2 : (okF names4 m && rokV (val (spS m.fs) bMe) (val (spS m.fs) bSc) (val (spS m.fs) bPa)) = true := by
    unfold rcls at h
    rw [hl, if_neg Bool.false_ne_true] at h
    cases hq : (okF names4 m && rokV (val (spS m.fs) bMe) (val (spS m.fs) bSc) (val (spS m.fs) bPa)) with
    | true => rfl
    | false => rw [hq] at h; cases h
  rw [Bool.and_eq_true] at h2
  have hok := h2.1
  unfold okF at hok
  rw [Bool.and_eq_true] at hok
  obtain ⟨hshp, htr⟩ := hok
  have hS := shpB_iff.1 hshp
  have hq : rq m = ⟨val (spS m.fs) bMe, val (spS m.fs) bSc, val (spS m.fs) bAu, val (spS m.fs) bPa, spR m.fs, m.b, m.ts⟩ := by unfold rq; rw [if_pos h]
  have hmf : m.fs = spS m.fs ++ spR m.fs := (sp_app _).symm
  have hplain : ∀ f ∈ spR m.fs, valOk f.2 = true := fun f hf => by
    have := (hS.r f hf).2
    unfold plainOk at this
    simp only [Bool.and_eq_true] at this
    exact this.2.1
  have hlb : m.b.length ≤ 8192 := by
    unfold lrgM at hl
    simp only [Bool.or_eq_false_iff, decide_eq_false_iff_not] at hl
    omega
  rw [hq]
  refine ⟨rfl, rfl, hlb, fun f hf => ⟨?_, hplain f hf⟩, ?_, htr, fun nm => ⟨rfl, ?_⟩, rfl, rfl, rfl⟩
  · rw [hmf]; exact List.mem_append_right _ hf
  · rcases val_in_ (spS m.fs) bPa with h | h
    · rw [h]; rfl
    · exact (hS.s _ h).2.2.2
  · rcases val_in_ (spS m.fs) nm with h | h
    · exact .inl h
    · have h3 : (nm, val (spS m.fs) nm) ∈ spS m.fs ++ spR m.fs := List.mem_append_left _ h
      rw [sp_app] at h3
      exact .inr h3
end Go.Proofs.YtpojejdddgdjdaaGreatDoor.M
